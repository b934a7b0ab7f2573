/- Walks and words of this session, put together by a program of this session (pack.py). Conditions: as each text says. -/
import Derived.Deep.DeepCutAuto
import Derived.StillTailTactics
import Derived.Deep.RegionWith
import Derived.Laws.BitsLemmas
import Derived.OwnWalk
import Derived.Deep.RegionLaw
import Derived.Maps.Own
import Derived.Maps.OwnOps
import Derived.Maps.Views
import Derived.StringKeys
import Derived.Carry
import Derived.Test.YteighppcdpaekaaDoorS2
import Derived.Test.YteighppcdpaekaaDoorS3
set_option linter.unusedVariables false
set_option linter.unusedSimpArgs false
section
namespace Go.Proofs.YteighppcdpaekaaDoor.Rd
open Go.RowKit Go.Proofs.YteighppcdpaekaaDoorW.PrintWords
open Go.Proofs.YteighppcdpaekaaDoor
theorem enter_ok {w0 : World} {g : Nat} {A : Option Addr} {c : Nat} {b : List Int} {w : World} {p d : Nat} (h : RS w0 g A c b w p d) (hp : p < b.length) (hd : d + 1 ≤ 64) :
  Calls Tryd.prog 97 #[.pointer (some ⟨g, 0, none⟩)] w fun e w' => e = .returned (.tuple #[]) ∧ RS w0 g A c b w' (Js.blank b (p + 1)) (d + 1) ∧ Kbt w w' g none := by
 have hsm := h.small;have h1 := h.c1;have h2 := h.c2;have f1 := h.fr 1;have f2 := h.fr 2;have hl := h.lt;go_enter Tryd.func97, Tryd.ntmps97
 go_wp2_with fail
 refine (blank_calls (p + 1) (RS.to (p := (p : Int) + 1) (d := (d : Int) + 1) (by repeat (first | exact h | apply RS.drewN | apply RS.drew | apply RS.set1 | apply RS.set2)) (by omega) rfl)).mono ?_;rintro e w' ⟨rfl, hS, hK⟩;go_wp2
 go_end0
 exact ⟨rfl, hS, Kbt.trans (by repeat (first | exact (Kbt.refl _ _ _) | apply Kbt.set_ | apply kdrN | apply keep_drew | apply kal)) hK (.inl rfl)⟩
theorem enter_no {w0 : World} {g : Nat} {A : Option Addr} {c : Nat} {b : List Int} {w : World} {p d : Nat} (h : RS w0 g A c b w p d) (hb : d < 1000000) (hd : 64 < d + 1) :
  Calls Tryd.prog 97 #[.pointer (some ⟨g, 0, none⟩)] w fun e w' => e = .panicked [{ v := .iface 115 (.agg #[.int .i64 (p : Int), .int .i64 13]), recovered := false }] ∧ Below w0.heap.size w0 w' ∧ Kbt w w' g none := by
 have h1 := h.c1;have h2 := h.c2;have f2 := h.fr 2;have hl := h.lt;go_enter Tryd.func97, Tryd.ntmps97
 go_wp2_with fail
 refine (fail_calls 13 (p := (p : Int)) (d := (d : Int) + 1) (by repeat (first | exact h | apply RS.drewN | apply RS.drew | apply RS.set1 | apply RS.set2))).mono ?_;rintro e w' ⟨rfl, rfl⟩;exact ⟨rfl, rfl, (RS.bel (by repeat (first | exact h | apply RS.drewN | apply RS.drew | apply RS.set1 | apply RS.set2))), (by repeat (first | exact (Kbt.refl _ _ _) | apply Kbt.set_ | apply kdrN | apply keep_drew | apply kal))⟩
theorem comma_calls {w0 : World} {g : Nat} {A : Option Addr} {c : Nat} {b : List Int} {w : World} {p d : Nat} (cl : Int) (h : RS w0 g A c b w p d) (hd : 1 ≤ d) (hdb : d < 1000000) :
  Calls Tryd.prog 98 #[.pointer (some ⟨g, 0, none⟩), .int .u8 cl] w fun e w' => match Js.comma b cl p with
   | .ok false q => e = .returned (.bool false) ∧ RS w0 g A c b w' q ((d : Int) - 1) ∧ Kbt w w' g none
   | .ok true q => e = .returned (.bool true) ∧ RS w0 g A c b w' q d ∧ Kbt w w' g none
   | .no x k => e = .panicked [{ v := .iface 115 (.agg #[.int .i64 (x : Int), .int .i64 (k : Int)]), recovered := false }] ∧ Below w0.heap.size w0 w' ∧ Kbt w w' g none := by
 have hsm := h.small
 cases hx : b[Js.blank b p]? with
 | none =>
  have hr : Js.comma b cl p = .no (Js.blank b p) 11 := by simp [Js.comma, hx]
  rw [hr]; clear hr;have hbl := blank_calls p h;generalize Js.blank b p = q at hbl hx ⊢;go_enter Tryd.func98, Tryd.ntmps98;go_wp2_with (go_at_call 58; refine (hbl).mono ?_; rintro e w' ⟨rfl, hS, hK⟩);have hp1 := peek_no hS hx;clear hx hbl;go_wp2_with (go_at_call 74; refine (hp1).mono ?_; rintro e w' ⟨rfl, n, rfl⟩);exact ⟨rfl, rfl, (RS.bel (by repeat (first | exact hS | apply RS.drewN | apply RS.drew | apply RS.set1 | apply RS.set2))), (by repeat (first | exact hK | apply Kbt.set_ | apply kdrN | apply keep_drew | apply kal))⟩
 | some x =>
  by_cases h1 : x = cl
  ·have hr : Js.comma b cl p = .ok false (Js.blank b p + 1) := by simp [Js.comma, hx, h1]
   rw [hr]; clear hr;replace h1 := beq_iff_eq.2 h1;have hbl := blank_calls p h;generalize Js.blank b p = q at hbl hx ⊢;go_enter Tryd.func98, Tryd.ntmps98;go_wp2_with (go_at_call 58; refine (hbl).mono ?_; rintro e w' ⟨rfl, hS, hK⟩);have hp : q < b.length := (List.getElem?_eq_some_iff.1 hx).1;have hp1 := peek_ok hS hx;have g1 := hS.c1;have g2 := hS.c2;have f1 := hS.fr 1;have f2 := hS.fr 2;clear hx hbl;go_wp2_with (go_at_call 74; refine (hp1).mono ?_; rintro e w' ⟨rfl, n, rfl⟩);go_ret;exact ⟨rfl, (RS.to (p := (q : Int) + 1) (d := (d : Int) - 1) (by repeat (first | exact hS | apply RS.drewN | apply RS.drew | apply RS.set1 | apply RS.set2)) (by omega) rfl), (by repeat (first | exact hK | apply Kbt.set_ | apply kdrN | apply keep_drew | apply kal))⟩
  ·by_cases h2 : x = 44
   ·have hr : Js.comma b cl p = .ok true (Js.blank b (Js.blank b p + 1)) := by simp [Js.comma, hx, h1, h2]; intro h3; exact absurd (h2.trans h3) h1
    rw [hr]; clear hr;replace h1 := beq_eq_false_iff_ne.2 h1;replace h2 := beq_iff_eq.2 h2;have hbl := blank_calls p h;generalize Js.blank b p = q at hbl hx ⊢;go_enter Tryd.func98, Tryd.ntmps98;go_wp2_with (go_at_call 58; refine (hbl).mono ?_; rintro e w' ⟨rfl, hS, hK⟩);have hp : q < b.length := (List.getElem?_eq_some_iff.1 hx).1;have hp1 := peek_ok hS hx;have g1 := hS.c1;have f1 := hS.fr 1;clear hx hbl;go_wp2_with (go_at_call 74; refine (hp1).mono ?_; rintro e w' ⟨rfl, n, rfl⟩);refine (blank_calls (q + 1) (RS.to (p := (q : Int) + 1) (d := (d : Int)) (by repeat (first | exact hS | apply RS.drewN | apply RS.drew | apply RS.set1 | apply RS.set2)) (by omega) rfl)).mono ?_;rintro e w' ⟨rfl, hS2, hK2⟩;go_wp2;go_ret;exact ⟨rfl, hS2, Kbt.trans (by repeat (first | exact hK | apply Kbt.set_ | apply kdrN | apply keep_drew | apply kal)) hK2 (.inl rfl)⟩
   ·have hr : Js.comma b cl p = .no (Js.blank b p) 6 := by simp [Js.comma, hx, h1, h2]
    rw [hr]; clear hr;replace h1 := beq_eq_false_iff_ne.2 h1;replace h2 := beq_eq_false_iff_ne.2 h2;have hbl := blank_calls p h;generalize Js.blank b p = q at hbl hx ⊢;go_enter Tryd.func98, Tryd.ntmps98;go_wp2_with (go_at_call 58; refine (hbl).mono ?_; rintro e w' ⟨rfl, hS, hK⟩);have hp : q < b.length := (List.getElem?_eq_some_iff.1 hx).1;have hp1 := peek_ok hS hx;clear hx hbl;go_wp2_with (go_at_call 74; refine (hp1).mono ?_; rintro e w' ⟨rfl, n, rfl⟩);refine (fail_calls 6 (p := (q : Int)) (d := (d : Int)) (by repeat (first | exact hS | apply RS.drewN | apply RS.drew | apply RS.set1 | apply RS.set2))).mono ?_;rintro e w' ⟨rfl, rfl⟩;exact ⟨rfl, rfl, (RS.bel (by repeat (first | exact hS | apply RS.drewN | apply RS.drew | apply RS.set1 | apply RS.set2))), (by repeat (first | exact hK | apply Kbt.set_ | apply kdrN | apply keep_drew | apply kal))⟩
end Go.Proofs.YteighppcdpaekaaDoor.Rd
end
section
namespace Go.Proofs.YteighppcdpaekaaDoor.Rd
open Go.RowKit Go.Proofs.YteighppcdpaekaaDoorW.PrintWords
open Go.Proofs.YteighppcdpaekaaDoor
def numberV (b : List Int) (p : Nat) : Js.Out (List Int) := match Js.number b p with
 | .ok _ q => .ok ((b.take q).drop p) q
 | .no x k => .no x k
def VNum (_ : World) (l : List Int) (u : Value) : Prop := u = .agg #[.int .i64 3, .string (strOfNums l), .slice none 0 0, .slice none 0 0]
def Z25 : Obj := .cells #[.int .i64 0, .string ⟨#[]⟩, .slice none 0 0, .slice none 0 0] 27 (0, 0)
structure St (w0 : World) (g : Nat) (A : Option Addr) (c : Nat) (b : List Int) (w : World) (d : Int) (wc : World) (q : Nat) : Prop where
 rs : RS w0 g A c b wc q d
 kb : Kbt w wc g none
 zb : wc.heap[w.heap.size]? = some Z25
theorem St.drewN {w0 : World} {g : Nat} {A : Option Addr} {c : Nat} {b : List Int} {w : World} {d : Int} {wc : World} {q : Nat} (h : St w0 g A c b w d wc q) (n : Nat) : St w0 g A c b w d (wc.drewN n) q := ⟨h.rs.drewN n, kdrN h.kb n, h.zb⟩
theorem St.step {w0 : World} {g : Nat} {A : Option Addr} {c : Nat} {b : List Int} {w : World} {d : Int} {wc w2 : World} {q r : Nat} (h : St w0 g A c b w d wc q) (hg : g < w.heap.size) (hS : RS w0 g A c b w2 r d) (hK : Kbt wc w2 g none) : St w0 g A c b w d w2 r :=
 ⟨hS, h.kb.trans hK (.inl rfl), (hK.blk h.zb (by omega) (by simp))⟩
theorem St.at1 {w0 : World} {g : Nat} {A : Option Addr} {c : Nat} {b : List Int} {w : World} {d : Int} {wc : World} {q : Nat} (h : St w0 g A c b w d wc q) (hg : g < w.heap.size) : St w0 g A c b w d (wc.setCell ⟨g, 1, none⟩ (.int .i64 ((q : Int) + 1))) (q + 1) :=
 h.step hg ((h.rs.set1 _).to (by omega) rfl) ((Kbt.refl _ _ _).set_ _ _)
theorem info_u8 : (Tryd.prog.info? 5).map (fun i => (i.zero, i.size, i.bytes)) = some (some (.int .u8 0), 1, 1) := by kernel_rfl
theorem cut_runs {b : List Int} {A : Option Addr} {c p q : Nat} (hpq : p ≤ q) (hq : q ≤ b.length) (hc : b.length ≤ c) :
  ∃ A' : Option Addr, (∀ W : World, (Instr.slice 35 (.slice A b.length c) (some (.int .i64 p)) (some (.int .i64 q)) none).run Tryd.prog W = .ok (.slice A' (q - p) (c - p)) W) ∧
   (∀ w : World, Kd.C (Kd.int .u8) w A b.length b → (convert 35 9 (.slice A' (q - p) (c - p))).run Tryd.prog w = .ok (.string (strOfNums ((b.take q).drop p))) w) := by
 obtain ⟨i, hi, hz⟩ := Option.map_eq_some_iff.1 info_u8;obtain ⟨A', h1, h2, h3⟩ := print_mid_int (P := Tryd.prog) (k := .u8) 35 5 Tryd.underlying35 hi (by simp at hz; exact hz.2.1) A c b (p : Int) (q : Int) (by omega) (by omega) (by omega) hc;simp only [Int.toNat_natCast] at h1 h2 h3
 have hl : ((b.take q).drop p).length = q - p := by simp; omega
 rw [hl] at h1 h2;refine ⟨A', h1, fun w hC => ?_⟩;exact string_of_reads Tryd.underlying35 Tryd.underlying5 Tryd.underlying9 (h2 w (Kd.reads_of_C (enc := Value.int .u8) (d := (0 : Int)) (h1 := fun _ => rfl) hC))
set_option maxRecDepth 100000 in
set_option maxHeartbeats 1600000 in
theorem number_calls {w0 : World} {g : Nat} {A : Option Addr} {c : Nat} {b : List Int} {w : World} {d : Int} {p : Nat} (h : RS w0 g A c b w p d) (hp : p ≤ b.length) (hbc : b.length ≤ c) :
  Calls Tryd.prog 79 #[.pointer (some ⟨g, 0, none⟩)] w (Post w0 g A c b w d VNum (numberV b p)) := by
 have hsm := h.small;have hg := h.lt;have h1 := h.c1
 have hSt : St w0 g A c b w d (w.alloc Z25) p := ⟨h.alloc _, kal (Kbt.refl _ _ _) _, blk_new _ _⟩
 have f1 := h.fr 1;have hnx := next_calls (w := w.alloc Z25) (p := p) 45 (h.alloc _);have hn0 : Hid (Js.number b p = Js.numInt b (if Js.next b p 45 then p + 1 else p)) := rfl;go_enter Tryd.func79, Tryd.ntmps79;generalize hbm : Js.next b p 45 = bm at hnx hn0;have hbm' := Lib.hid hbm; clear hbm
 go_upto_if 9 with (go_at_call 100; refine hnx.mono ?_; rintro e w' ⟨rfl, n, rfl⟩)
 clear hnx
 go_cut [] (fun wc => ∃ q, Hid (Js.number b p = Js.numInt b q) ∧ q ≤ b.length ∧ St w0 g A c b w d wc q)
 case first =>
  cases bm
  ·go_wp2_with fail
   go_meet
   case rel => exact ⟨p, hn0, hp, hSt.drewN _⟩
  ·have := Js.next_lt hbm'.out
   go_wp2_with fail
   go_meet
   case rel => exact ⟨p + 1, hn0, by omega, (hSt.drewN _).at1 hg⟩
 case rest =>
  clear hSt hn0 hbm' f1 h1;obtain ⟨q, hq, hqb, hT⟩ := hcut
  cases hx : b[q]? with
  | none =>
   have hr : Hid (numberV b p = .no q 11) := by have := hq.out; show _ = _; simp [numberV, this, Js.numInt, hx]
   have hp1 := peek_no hT.rs hx;clear hx hq;go_wp2_with (go_at_call 74; refine hp1.mono ?_; rintro e w' ⟨rfl, n, rfl⟩);refine ⟨rfl, ?_⟩;rw [hr.out];exact ⟨rfl, (hT.drewN _).rs.bel, (hT.drewN _).kb⟩
  | some x =>
   have hql : q < b.length := (List.getElem?_eq_some_iff.1 hx).1
   have hq1 : Hid (Js.number b p = if x == 48 then Js.numFrac b (q + 1) else match Js.digits b q with | .no x e => .no x e | .ok _ r => Js.numFrac b r) := by have := hq.out; show _ = _; rw [this]; simp only [Js.numInt, hx]; rfl
   have hp1 := peek_ok hT.rs hx;clear hx hq;have h1 := hT.rs.c1;have f1 := hT.rs.fr 1
   go_upto_if 19 with (go_at_call 74; refine hp1.mono ?_; rintro e w' ⟨rfl, n, rfl⟩)
   clear hp1;replace hT := hT.drewN n
   go_cut [] (fun wc => ∃ r, Hid (Js.number b p = Js.numFrac b r) ∧ r ≤ b.length ∧ St w0 g A c b w d wc r)
   case first =>
    by_cases h48 : x = 48
    ·have hn : Hid (Js.number b p = Js.numFrac b (q + 1)) := by have := hq1.out; rw [h48] at this; exact this
     replace h48 := beq_iff_eq.2 h48;clear hq1
     go_wp2_with fail
     go_meet
     case rel => exact ⟨q + 1, hn, by omega, hT.at1 hg⟩
    ·replace h48 := beq_eq_false_iff_ne.2 h48
     cases hd : Js.digits b q with
     | no y k =>
      have hn : Hid (numberV b p = .no y k) := by have := hq1.out; rw [h48, hd] at this; show _ = _; simp [numberV, this]
      have hp2 := digits_no hT.rs hd;clear hq1 hd;go_wp2_with (go_at_call 101; refine hp2.mono ?_; rintro e w' ⟨rfl, hb, hK⟩);refine ⟨rfl, ?_⟩;rw [hn.out];exact ⟨rfl, hb, hT.kb.trans hK (.inl rfl)⟩
     | ok y r =>
      have hn : Hid (Js.number b p = Js.numFrac b r) := by have := hq1.out; rw [h48, hd] at this; exact this
      have hp2 := digits_ok hT.rs hd;have hrl := Js.digits_le hd;clear hq1 hd;go_wp2_with (go_at_call 101; refine hp2.mono ?_; rintro e w' ⟨rfl, hS, hK⟩)
      go_meet
      case rel => exact ⟨r, hn, hrl.2, hT.step hg hS hK⟩
   case rest =>
    clear hq1 hT h1 f1;obtain ⟨q, hq, hqb, hT⟩ := hcut
    have hq1 : Hid (Js.number b p = if Js.next b q 46 then match Js.digits b (q + 1) with | .no x e => .no x e | .ok _ r => Js.numExp b r else Js.numExp b q) := by have := hq.out; show _ = _; rw [this]; rfl
    clear hq;have hnx := next_calls q 46 hT.rs;have h1 := hT.rs.c1;have f1 := hT.rs.fr 1;generalize hbm : Js.next b q 46 = bm at hnx hq1
    have hlt : bm = true → q < b.length := fun e => Js.next_lt (hbm.trans e)
    clear hbm
    go_upto_if 30 with (go_at_call 100; refine hnx.mono ?_; rintro e w' ⟨rfl, n, rfl⟩)
    clear hnx;replace hT := hT.drewN n
    go_cut [] (fun wc => ∃ r, Hid (Js.number b p = Js.numExp b r) ∧ r ≤ b.length ∧ St w0 g A c b w d wc r)
    case first =>
     cases bm
     ·have hn : Hid (Js.number b p = Js.numExp b q) := hq1.out
      clear hq1
      go_wp2_with fail
      go_meet
      case rel => exact ⟨q, hn, hqb, hT⟩
     ·have hql := hlt rfl
      have hTT := hT.at1 hg
      cases hd : Js.digits b (q + 1) with
      | no y k =>
       have hn : Hid (numberV b p = .no y k) := by have := hq1.out; simp only [if_true, hd] at this; show _ = _; simp [numberV, this]
       have hp2 := digits_no hTT.rs hd;clear hq1 hd;go_wp2_with (go_at_call 101; refine hp2.mono ?_; rintro e w' ⟨rfl, hb, hK⟩);refine ⟨rfl, ?_⟩;rw [hn.out];exact ⟨rfl, hb, hTT.kb.trans hK (.inl rfl)⟩
      | ok y r =>
       have hn : Hid (Js.number b p = Js.numExp b r) := by have := hq1.out; simp only [if_true, hd] at this; exact this
       have hp2 := digits_ok hTT.rs hd;have hrl := Js.digits_le hd;clear hq1 hd;go_wp2_with (go_at_call 101; refine hp2.mono ?_; rintro e w' ⟨rfl, hS, hK⟩)
       go_meet
       case rel => exact ⟨r, hn, hrl.2, hTT.step hg hS hK⟩
    case rest =>
     clear hq1 hT h1 f1 hlt;obtain ⟨q, hq, hqb, hT⟩ := hcut
     have hq1 : Hid (Js.number b p = if Js.next b q 101 || Js.next b q 69 then Js.numSign b (q + 1) else .ok () q) := by have := hq.out; show _ = _; rw [this]; rfl
     clear hq;have hnx := next_calls q 101 hT.rs
     have hnx2 := fun n => next_calls q 69 (hT.drewN n).rs
     generalize hbm : Js.next b q 101 = bm at hnx hq1;generalize hbm2 : Js.next b q 69 = bm2 at hnx2 hq1
     have hlt : (bm || bm2) = true → q < b.length := fun e => by
      rcases Bool.or_eq_true _ _ ▸ e with e | e
      ·exact Js.next_lt (hbm.trans e)
      ·exact Js.next_lt (hbm2.trans e)
     clear hbm hbm2;have h1 := hT.rs.c1;have f1 := hT.rs.fr 1
     go_upto_region 10 with fail
     go_cut [45] (fun s45 wc => s45 = .bool (bm || bm2) ∧ St w0 g A c b w d wc q)
     case first =>
      cases bm
      ·cases bm2
       all_goals
        go_wp2_with fail
        refine hnx.mono ?_;rintro e w' ⟨rfl, n, rfl⟩
        go_wp2_with fail
        refine (hnx2 n).mono ?_;rintro e w' ⟨rfl, m, rfl⟩
        go_wp2_with fail
        go_meet
        case rel => exact ⟨rfl, hT.drewN _⟩
      ·go_wp2_with fail
       refine hnx.mono ?_;rintro e w' ⟨rfl, n, rfl⟩
       go_wp2_with fail
       go_meet
       case rel => exact ⟨by simp, hT.drewN _⟩
     case rest =>
      clear hnx hnx2 hT h1 f1;obtain ⟨rfl, hT⟩ := hcut;generalize hb3 : (bm || bm2) = b3 at hlt hq1;clear hb3 bm bm2;have h1 := hT.rs.c1;have f1 := hT.rs.fr 1
      go_upto_if 45 with fail
      go_cut [] (fun wc => ∃ r, Hid (Js.number b p = .ok () r) ∧ r ≤ b.length ∧ q ≤ r ∧ St w0 g A c b w d wc r)
      case first =>
       cases b3
       ·have hn : Hid (Js.number b p = .ok () q) := hq1.out
        go_wp2_with fail
        go_meet
        case rel => exact ⟨q, hn, hqb, Nat.le_refl _, hT⟩
       ·have hql := hlt rfl
        have hTT := hT.at1 hg;have hq2 : Hid (Js.number b p = Js.digits b (if Js.next b (q + 1) 43 || Js.next b (q + 1) 45 then q + 1 + 1 else q + 1)) := hq1.out;clear hq1 hlt;have hnx := next_calls (q + 1) 43 hTT.rs
        have hnx2 := fun n => next_calls (q + 1) 45 (hTT.drewN n).rs
        generalize hbm : Js.next b (q + 1) 43 = bm at hnx hq2;generalize hbm2 : Js.next b (q + 1) 45 = bm2 at hnx2 hq2
        have hlt : (bm || bm2) = true → q + 1 < b.length := fun e => by
         rcases Bool.or_eq_true _ _ ▸ e with e | e
         ·exact Js.next_lt (hbm.trans e)
         ·exact Js.next_lt (hbm2.trans e)
        clear hbm hbm2
        go_upto_region 12 with fail
        go_cut [58] (fun s58 wc => s58 = .bool (bm || bm2) ∧ St w0 g A c b w d wc (q + 1))
        case first =>
         cases bm
         ·cases bm2
          all_goals
           go_wp2_with fail
           refine hnx.mono ?_;rintro e w' ⟨rfl, n, rfl⟩
           go_wp2_with fail
           refine (hnx2 n).mono ?_;rintro e w' ⟨rfl, m, rfl⟩
           go_wp2_with fail
           go_meet
           case rel => exact ⟨rfl, hTT.drewN _⟩
         ·go_wp2_with fail
          refine hnx.mono ?_;rintro e w' ⟨rfl, n, rfl⟩
          go_wp2_with fail
          go_meet
          case rel => exact ⟨by simp, hTT.drewN _⟩
        case rest =>
         clear hnx hnx2 hT hTT h1 f1;obtain ⟨rfl, hT⟩ := hcut;generalize hb3 : (bm || bm2) = b3 at hlt hq2;clear hb3 bm bm2;have h1 := hT.rs.c1;have f1 := hT.rs.fr 1
         go_upto_if 58 with fail
         go_cut [] (fun wc => ∃ r, Hid (Js.number b p = Js.digits b r) ∧ q ≤ r ∧ St w0 g A c b w d wc r)
         case first =>
          cases b3
          ·have hn : Hid (Js.number b p = Js.digits b (q + 1)) := hq2.out
           go_wp2_with fail
           go_meet
           case rel => exact ⟨q + 1, hn, by omega, hT⟩
          ·have hql2 := hlt rfl
           have hn : Hid (Js.number b p = Js.digits b (q + 1 + 1)) := hq2.out;have hTT := hT.at1 hg
           go_wp2_with fail
           go_meet
           case rel => exact ⟨q + 1 + 1, hn, by omega, hTT⟩
         case rest =>
          clear hT h1 f1 hq2 hlt;obtain ⟨r, hq, hqr, hT⟩ := hcut
          cases hd : Js.digits b r with
          | no y k =>
           have hn : Hid (numberV b p = .no y k) := by have := hq.out; show _ = _; simp [numberV, this, hd]
           have hp2 := digits_no hT.rs hd;clear hq hd;go_wp2_with (go_at_call 101; refine hp2.mono ?_; rintro e w' ⟨rfl, hb, hK⟩);refine ⟨rfl, ?_⟩;rw [hn.out];exact ⟨rfl, hb, hT.kb.trans hK (.inl rfl)⟩
          | ok y s =>
           have hn : Hid (Js.number b p = .ok () s) := hq.out.trans hd;have hp2 := digits_ok hT.rs hd;have hrl := Js.digits_le hd;clear hq hd;go_wp2_with (go_at_call 101; refine hp2.mono ?_; rintro e w' ⟨rfl, hS, hK⟩)
           go_meet
           case rel => exact ⟨s, hn, hrl.2, by omega, hT.step hg hS hK⟩
      case rest =>
       clear hT h1 f1 hq1 hlt;obtain ⟨q, hq, hqb, hqr, hT⟩ := hcut;have hle := Js.number_le hq.out
       have hn : Hid (numberV b p = .ok ((b.take q).drop p) q) := by have := hq.out; show _ = _; simp [numberV, this]
       have h0 := hT.rs.c0;have h1 := hT.rs.c1;obtain ⟨A', hr1, hr2⟩ := cut_runs (A := A) (c := c) hle.1 hle.2 hbc;have hr3 := hr2 wc.drew (Kd.C_below hT.rs.read (below_drew hT.rs.bel));clear hq hr2;have hr1' := hr1 wc.drew;clear hr1;have hz0 : wc.cell? ⟨w.heap.size, 0, none⟩ = some (.int .i64 0) := (bceq hT.zb 0).trans rfl;have hz1 : wc.cell? ⟨w.heap.size, 1, none⟩ = some (.string ⟨#[]⟩) := (bceq hT.zb 1).trans rfl;have hz2 : wc.cell? ⟨w.heap.size, 2, none⟩ = some (.slice none 0 0) := (bceq hT.zb 2).trans rfl;have hz3 : wc.cell? ⟨w.heap.size, 3, none⟩ = some (.slice none 0 0) := (bceq hT.zb 3).trans rfl;have hzf0 := bfz hT.zb 0;have hzf1 := bfz hT.zb 1;have hzf2 := bfz hT.zb 2;have hzf3 := bfz hT.zb 3;go_wp2;refine wp_region_still_tail 12 (by kernel_rfl) (by kernel_rfl) ?_;simp only [List.take_succ_cons, List.take_zero, List.drop_succ_cons, List.drop_zero];rw [show ({ heap := wc.heap, tape := wc.tape, drawn := wc.drawn + 1, os := wc.os, output := wc.output } : World) = wc.drew from rfl]
       repeat still_step
       refine wpStill_nil ?_;go_wp2;have hB := blk_set (blk_set (blk_set (blk_set hT.zb 0 (.int .i64 3)) 1 (.string (strOfNums ((b.take q).drop p)))) 2 (.slice none 0 0)) 3 (.slice none 0 0)
       have hRS : RS w0 g A c b _ (q : Int) d := (((((hT.rs.far (q := ⟨w.heap.size, 0, none⟩) (Nat.ne_of_lt hg) (Nat.le_trans hT.rs.ge (Nat.le_of_lt hg)) (.int .i64 3)).far (q := ⟨w.heap.size, 1, none⟩) (Nat.ne_of_lt hg) (Nat.le_trans hT.rs.ge (Nat.le_of_lt hg)) (.string (strOfNums ((b.take q).drop p)))).far (q := ⟨w.heap.size, 2, none⟩) (Nat.ne_of_lt hg) (Nat.le_trans hT.rs.ge (Nat.le_of_lt hg)) (.slice none 0 0)).far (q := ⟨w.heap.size, 3, none⟩) (Nat.ne_of_lt hg) (Nat.le_trans hT.rs.ge (Nat.le_of_lt hg)) (.slice none 0 0)).drew)
       have hKB : Kbt w _ g none := keep_drew (keep_far (p := ⟨w.heap.size, 3, none⟩) (keep_far (p := ⟨w.heap.size, 2, none⟩) (keep_far (p := ⟨w.heap.size, 1, none⟩) (keep_far (p := ⟨w.heap.size, 0, none⟩) hT.kb (Nat.le_refl _) (.int .i64 3)) (Nat.le_refl _) (.string (strOfNums ((b.take q).drop p)))) (Nat.le_refl _) (.slice none 0 0)) (Nat.le_refl _) (.slice none 0 0));replace hB := blk_drew hB;generalize hwf : World.drew _ = wf at hB hRS hKB ⊢;clear hwf hz0 hz1 hz2 hz3 hzf0 hzf1 hzf2 hzf3 hr3 hr1' hT;have c0 : wf.cell? ⟨w.heap.size, 0, none⟩ = some (.int .i64 3) := (bceq hB 0).trans rfl;have c1 : wf.cell? ⟨w.heap.size, 1, none⟩ = some (.string (strOfNums ((b.take q).drop p))) := (bceq hB 1).trans rfl;have c2 : wf.cell? ⟨w.heap.size, 2, none⟩ = some (.slice none 0 0) := (bceq hB 2).trans rfl;have c3 : wf.cell? ⟨w.heap.size, 3, none⟩ = some (.slice none 0 0) := (bceq hB 3).trans rfl;refine bodyPost_ret (v := .agg #[.int .i64 3, .string (strOfNums ((b.take q).drop p)), .slice none 0 0, .slice none 0 0]) (by simp [results, Tryd.results79, go_sem, c0, c1, c2, c3]) rfl ?_;rw [hn.out];exact ⟨_, rfl, rfl, hRS, hKB⟩
end Go.Proofs.YteighppcdpaekaaDoor.Rd
end
section
namespace Go.Proofs.YteighppcdpaekaaDoor.Rd
open Go.RowKit Go.Proofs.YteighppcdpaekaaDoorW.PrintWords
open Go.Proofs.YteighppcdpaekaaDoor
def VKind (k : Int) (_ : World) (_ : Unit) (u : Value) : Prop := u = .agg #[.int .i64 k, .string ⟨#[]⟩, .slice none 0 0, .slice none 0 0]
theorem St.at1' {w0 : World} {g : Nat} {A : Option Addr} {c : Nat} {b : List Int} {w : World} {d : Int} {wc : World} {q r : Nat} {x : Int} (h : St w0 g A c b w d wc q) (hg : g < w.heap.size) (hx : x = r) (hr : r = q + 1) : St w0 g A c b w d (wc.setCell ⟨g, 1, none⟩ (.int .i64 x)) r := by
 subst hr; subst hx;have := h.at1 hg
 rwa [show ((q + 1 : Nat) : Int) = (q : Int) + 1 by omega]
theorem St.stored {w0 : World} {g : Nat} {A : Option Addr} {c : Nat} {b : List Int} {w : World} {d : Int} {wc : World} {q : Nat} (h : St w0 g A c b w d wc q) (hg : g < w.heap.size) (v0 v1 v2 v3 : Value) :
  let wf := (((wc.setCell ⟨w.heap.size, 0, none⟩ v0).setCell ⟨w.heap.size, 1, none⟩ v1).setCell ⟨w.heap.size, 2, none⟩ v2).setCell ⟨w.heap.size, 3, none⟩ v3
  wf.heap[w.heap.size]? = some (.cells #[v0, v1, v2, v3] 27 (0, 0)) ∧ RS w0 g A c b wf q d ∧ Kbt w wf g none := by
 have hge : w0.heap.size ≤ w.heap.size := Nat.le_trans h.rs.ge (Nat.le_of_lt hg);refine ⟨blk_set (blk_set (blk_set (blk_set h.zb 0 v0) 1 v1) 2 v2) 3 v3, ?_, ?_⟩
 ·exact (((h.rs.far (q := ⟨w.heap.size, 0, none⟩) (Nat.ne_of_lt hg) hge v0).far (q := ⟨w.heap.size, 1, none⟩) (Nat.ne_of_lt hg) hge v1).far (q := ⟨w.heap.size, 2, none⟩) (Nat.ne_of_lt hg) hge v2).far (q := ⟨w.heap.size, 3, none⟩) (Nat.ne_of_lt hg) hge v3
 ·exact keep_far (p := ⟨w.heap.size, 3, none⟩) (keep_far (p := ⟨w.heap.size, 2, none⟩) (keep_far (p := ⟨w.heap.size, 1, none⟩) (keep_far (p := ⟨w.heap.size, 0, none⟩) h.kb (Nat.le_refl _) v0) (Nat.le_refl _) v1) (Nat.le_refl _) v2) (Nat.le_refl _) v3
theorem blk4 {wf : World} {G : Nat} {v0 v1 v2 v3 : Value} {t : TypeId} (h : wf.heap[G]? = some (.cells #[v0, v1, v2, v3] t (0, 0))) :
  wf.cell? ⟨G, 0, none⟩ = some v0 ∧ wf.cell? ⟨G, 1, none⟩ = some v1 ∧ wf.cell? ⟨G, 2, none⟩ = some v2 ∧ wf.cell? ⟨G, 3, none⟩ = some v3 :=
 ⟨(bceq h 0).trans rfl, (bceq h 1).trans rfl, (bceq h 2).trans rfl, (bceq h 3).trans rfl⟩
theorem St.zero {w0 : World} {g : Nat} {A : Option Addr} {c : Nat} {b : List Int} {w : World} {d : Int} {wc : World} {q : Nat} (h : St w0 g A c b w d wc q) :
  (wc.cell? ⟨w.heap.size, 0, none⟩ = some (.int .i64 0) ∧ wc.cell? ⟨w.heap.size, 1, none⟩ = some (.string ⟨#[]⟩) ∧ wc.cell? ⟨w.heap.size, 2, none⟩ = some (.slice none 0 0) ∧ wc.cell? ⟨w.heap.size, 3, none⟩ = some (.slice none 0 0)) ∧
  (wc.frozen? ⟨w.heap.size, 0, none⟩ = false ∧ wc.frozen? ⟨w.heap.size, 1, none⟩ = false ∧ wc.frozen? ⟨w.heap.size, 2, none⟩ = false ∧ wc.frozen? ⟨w.heap.size, 3, none⟩ = false) :=
 ⟨blk4 h.zb, bfz h.zb 0, bfz h.zb 1, bfz h.zb 2, bfz h.zb 3⟩
set_option maxRecDepth 100000 in
set_option maxHeartbeats 1600000 in
theorem word_calls {w0 : World} {g : Nat} {A : Option Addr} {c : Nat} {b : List Int} {w : World} {d : Int} {p : Nat} (s : ByteArray) (hs : s.size ≤ 1000) (kind : Int) (h : RS w0 g A c b w p d) (hp : p ≤ b.length) :
  Calls Tryd.prog 78 #[.pointer (some ⟨g, 0, none⟩), .string s, .int .i64 kind] w (Post w0 g A c b w d (VKind kind) (Js.word b (bytesOf s) p)) := by
 have hsm := h.small;have hg := h.lt
 have hSt : St w0 g A c b w d (w.alloc Z25) p := ⟨h.alloc _, kal (Kbt.refl _ _ _) _, blk_new _ _⟩
 go_enter Tryd.func78, Tryd.ntmps78
 go_wp2_with fail
 go_loopg [10] s.size (fun kq s10 wc => ∃ k : Nat, kq + k = s.size ∧ s10 = .int .i64 k ∧ p + k ≤ b.length ∧ Hid (Js.word b (bytesOf s) p = Js.word b ((bytesOf s).drop k) (p + k)) ∧ St w0 g A c b w d wc (p + k))
 case atStart => exact ⟨0, rfl, rfl, hp, rfl, hSt⟩
 case round =>
  clear hSt h;obtain ⟨k, hk, rfl, hpk, hw, hT⟩ := hrel;by_cases hlt : k < s.size
  ·have hdr : (bytesOf s).drop k = ((s[k]'hlt).toNat : Int) :: (bytesOf s).drop (k + 1) := by
    rw [List.drop_eq_getElem_cons (by simp [bytesOf]; exact hlt)]
    simp [bytesOf]
    rfl
   cases hx : b[p + k]? with
   | none =>
    have hn : Hid (Js.word b (bytesOf s) p = .no (p + k) 11) := by have := hw.out; show _ = _; rw [this, hdr]; simp [Js.word, hx]
    have hp1 := peek_no hT.rs hx
    have hp2 := fun n => peek_no (hT.drewN n).rs hx
    clear hx hw hdr
    go_wp2_with fail
    go_region_with (go_at_call 74; refine (hp2 1).mono ?_; intro e w' hh; rcases e with v | ch | _; rotate_left; (obtain ⟨he, n, rfl⟩ := hh; injection he with he; subst he; refine ⟨rfl, ?_⟩; rw [hn.out]; exact ⟨rfl, ((hT.drewN 1).drewN _).rs.bel, ((hT.drewN 1).drewN _).kb⟩); (obtain ⟨he, _⟩ := hh; cases he); (obtain rfl : v = .int .u8 0 := by obtain ⟨he, _⟩ := hh; cases he))
    all_goals (obtain ⟨he, _⟩ := hh; cases he)
   | some x =>
    have hpl : p + k < b.length := (List.getElem?_eq_some_iff.1 hx).1
    have hp1 := fun n => peek_ok (hT.drewN n).rs hx
    have hn0 : Hid (Js.word b (bytesOf s) p = if x == ((s[k]'hlt).toNat : Int) then Js.word b ((bytesOf s).drop (k + 1)) (p + k + 1) else .no (p + k) 6) := by have := hw.out; show _ = _; rw [this, hdr]; simp [Js.word, hx]
    clear hx hw hdr;have h1 := hT.rs.c1;have f1 := hT.rs.fr 1
    by_cases hxe : x = ((s[k]'hlt).toNat : Int)
    ·have hn : Hid (Js.word b (bytesOf s) p = Js.word b ((bytesOf s).drop (k + 1)) (p + (k + 1))) := by have := hn0.out; rw [if_pos (by simpa using hxe)] at this; exact this
     have hxb : (x != ((s[k]'hlt).toNat : Int)) = false := by simpa using hxe
     clear hxe hn0
     obtain ⟨k1, rfl⟩ : ∃ k1, gk = k1 + 1 := ⟨gk - 1, by omega⟩
     go_wp2_with fail
     go_quiet ((go_at_call 74; exact Calls.quiet_of (hp1 _)))
     go_wp2_with fail
     go_roundg k1
     case measure => omega
     case rel => exact ⟨k + 1, by omega, by go_num, by omega, hn, (hT.drewN _).at1' hg (by omega) (by omega)⟩
    ·have hn : Hid (Js.word b (bytesOf s) p = .no (p + k) 6) := by have := hn0.out; rw [if_neg (by simpa using hxe)] at this; exact this
     have hxb : (x != ((s[k]'hlt).toNat : Int)) = true := by simpa using hxe
     clear hxe hn0
     go_wp2_with fail
     go_quiet ((go_at_call 74; exact Calls.quiet_of (hp1 _)))
     go_wp2_with (go_at_call 60; refine (fail_calls _ (hT.drewN _).rs).mono ?_; rintro e w' ⟨rfl, rfl⟩);refine ⟨rfl, ?_⟩;rw [hn.out];exact ⟨rfl, (hT.drewN _).rs.bel, (hT.drewN _).kb⟩
  ·obtain rfl : k = s.size := by omega
   have hn : Hid (Js.word b (bytesOf s) p = .ok () (p + s.size)) := by have := hw.out; show _ = _; rw [this, List.drop_eq_nil_of_le (by simp [bytesOf])]; rfl
   clear hw;obtain ⟨⟨z0, z1, z2, z3⟩, y0, y1, y2, y3⟩ := hT.zero;have hF := hT.stored hg (.int .i64 kind) (.string ⟨#[]⟩) (.slice none 0 0) (.slice none 0 0);have hF' := Lib.hid hF; clear hF;go_wp2;obtain ⟨hB, hRS, hKB⟩ := hF'.out;clear hF' z0 z1 z2 z3 y0 y1 y2 y3 hT;generalize hwf : World.setCell _ _ _ = wf at hB hRS hKB ⊢;clear hwf;obtain ⟨c0, c1, c2, c3⟩ := blk4 hB;refine bodyPost_ret (v := .agg #[.int .i64 kind, .string ⟨#[]⟩, .slice none 0 0, .slice none 0 0]) (by simp [results, Tryd.results78, go_sem, c0, c1, c2, c3]) rfl ?_;rw [hn.out];exact ⟨_, rfl, rfl, hRS, hKB⟩
end Go.Proofs.YteighppcdpaekaaDoor.Rd
end
section
namespace Go.Proofs.YteighppcdpaekaaDoor.Rd
open Go.RowKit Go.Proofs.YteighppcdpaekaaDoorW.PrintWords
open Go.Proofs.YteighppcdpaekaaDoor
def Bytes (b : List Int) : Prop := ∀ x ∈ b, 0 ≤ x ∧ x ≤ 255
theorem hex_or (n y : Int) (h0 : 0 ≤ n) (h1 : n < 4096) (h2 : 0 ≤ y) (h3 : y < 16) : bits .or .i32 (n * 16) y = n * 16 + y :=
 bits_join .i32 31 (by decide) wraps_i32 4 _ _ (by omega) (by omega) (by omega) h2 (by omega) (by omega)
set_option maxRecDepth 100000 in
set_option maxHeartbeats 1600000 in
theorem hex_calls {w0 : World} {g : Nat} {A : Option Addr} {c : Nat} {b : List Int} {w : World} {d : Int} {p : Nat} (hb : Bytes b) (h : RS w0 g A c b w p d) (hp : p ≤ b.length) :
    Calls Tryd.prog 120 #[.pointer (some ⟨g, 0, none⟩)] w (Post w0 g A c b w d (VInt .i32) (Js.hex b p)) := by
  have hsm := h.small;go_enter Tryd.func120, Tryd.ntmps120
  go_wp2_with fail
  go_loopg [3, 5] 4 (fun kq s3 s5 wc => ∃ (k : Nat) (n : Int), kq + k = 4 ∧ s5 = .int .i64 k ∧ s3 = .int .i32 n ∧ 0 ≤ n ∧ n < 16 ^ k ∧ p + k ≤ b.length ∧ Hid (Js.hex b p = Js.hexTo b kq n (p + k)) ∧ RS w0 g A c b wc ((p + k : Nat) : Int) d ∧ Kbt w wc g none)
  case atStart => exact ⟨0, 0, rfl, rfl, rfl, by omega, by decide, hp, rfl, h, Kbt.refl _ _ _⟩
  case round =>
    clear h;obtain ⟨k, n, hk, rfl, rfl, hn0, hn1, hpk, hw, hS, hK⟩ := hrel;by_cases hlt : k < 4
    · obtain ⟨k1, rfl⟩ : ∃ k1, gk = k1 + 1 := ⟨gk - 1, by omega⟩
      have h1 := hS.c1;have f1 := hS.fr 1
      cases hx : b[p + k]? with
      | none =>
        have hn : Hid (Js.hex b p = .no (p + k) 11) := by have := hw.out; show _ = _; rw [this]; simp [Js.hexTo, hx]
        have hp1 := peek_no hS hx;clear hx hw;go_wp2_with (go_at_call 74; refine hp1.mono ?_; rintro e w' ⟨rfl, m, rfl⟩);refine ⟨rfl, ?_⟩;rw [hn.out];exact ⟨rfl, pbdN hS.bel _, kdrN hK _⟩
      | some x =>
        have hxb := hb x (List.mem_of_getElem? hx);have hpl : p + k < b.length := (List.getElem?_eq_some_iff.1 hx).1;have hp1 := peek_ok hS hx
        have hw1 : Hid (Js.hex b p = match Js.hexDigit x with | none => .no (p + k) 6 | some d => Js.hexTo b k1 (n * 16 + d) (p + k + 1)) := by have := hw.out; show _ = _; rw [this]; simp only [Js.hexTo, hx]; rfl
        clear hx hw
        have hlim : n < 4096 := by
          have : (16 : Int) ^ k ≤ 4096 := by have : k = 0 ∨ k = 1 ∨ k = 2 ∨ k = 3 := by omega
                                             rcases this with rfl | rfl | rfl | rfl <;> decide
          omega
        by_cases e1 : 48 ≤ x ∧ x ≤ 57
        · have hn : Hid (Js.hex b p = Js.hexTo b k1 (n * 16 + (x - 48)) (p + k + 1)) := by have := hw1.out; rw [show Js.hexDigit x = some (x - 48) by simp only [Js.hexDigit]; rw [if_pos (by omega)]] at this; exact this
          clear hw1;obtain ⟨b1, b2⟩ := e1;go_wp2_with (go_at_call 74; refine hp1.mono ?_; rintro e w' ⟨rfl, m, rfl⟩)
          go_roundg k1
          case measure => omega
          case rel => exact ⟨k + 1, n * 16 + (x - 48), by omega, by go_num, by first | (rw [hex_or _ _ hn0 hlim (by omega) (by omega)]; done) | (rw [show x - 58 + 10 = x - 48 by omega, hex_or _ _ hn0 hlim (by omega) (by omega)]), by omega, by rw [Int.pow_succ]; omega, by omega, hn, (RS.to (p := ((p + k : Nat) : Int) + 1) (by repeat (first | exact hS | apply RS.drewN | apply RS.drew | apply RS.set1 | apply RS.set2)) (by omega) rfl), (by repeat (first | exact hK | apply Kbt.set_ | apply kdrN | apply keep_drew | apply kal))⟩
        by_cases e2 : 97 ≤ x ∧ x ≤ 102
        · clear e1
          have hn : Hid (Js.hex b p = Js.hexTo b k1 (n * 16 + (x - 87)) (p + k + 1)) := by have := hw1.out; rw [show Js.hexDigit x = some (x - 87) by simp only [Js.hexDigit]; rw [if_neg (by omega), if_pos (by omega)]] at this; exact this
          clear hw1;obtain ⟨b1, b2⟩ := e2;go_wp2_with (go_at_call 74; refine hp1.mono ?_; rintro e w' ⟨rfl, m, rfl⟩)
          go_roundg k1
          case measure => omega
          case rel => exact ⟨k + 1, n * 16 + (x - 87), by omega, by go_num, by first | (rw [hex_or _ _ hn0 hlim (by omega) (by omega)]; done) | (rw [show x - 97 + 10 = x - 87 by omega, hex_or _ _ hn0 hlim (by omega) (by omega)]), by omega, by rw [Int.pow_succ]; omega, by omega, hn, (RS.to (p := ((p + k : Nat) : Int) + 1) (by repeat (first | exact hS | apply RS.drewN | apply RS.drew | apply RS.set1 | apply RS.set2)) (by omega) rfl), (by repeat (first | exact hK | apply Kbt.set_ | apply kdrN | apply keep_drew | apply kal))⟩
        by_cases e3 : 65 ≤ x ∧ x ≤ 70
        · clear e1 e2
          have hn : Hid (Js.hex b p = Js.hexTo b k1 (n * 16 + (x - 55)) (p + k + 1)) := by have := hw1.out; rw [show Js.hexDigit x = some (x - 55) by simp only [Js.hexDigit]; rw [if_neg (by omega), if_neg (by omega), if_pos (by omega)]] at this; exact this
          clear hw1;obtain ⟨b1, b2⟩ := e3;go_wp2_with (go_at_call 74; refine hp1.mono ?_; rintro e w' ⟨rfl, m, rfl⟩)
          go_roundg k1
          case measure => omega
          case rel => exact ⟨k + 1, n * 16 + (x - 55), by omega, by go_num, by first | (rw [hex_or _ _ hn0 hlim (by omega) (by omega)]; done) | (rw [show x - 65 + 10 = x - 55 by omega, hex_or _ _ hn0 hlim (by omega) (by omega)]), by omega, by rw [Int.pow_succ]; omega, by omega, hn, (RS.to (p := ((p + k : Nat) : Int) + 1) (by repeat (first | exact hS | apply RS.drewN | apply RS.drew | apply RS.set1 | apply RS.set2)) (by omega) rfl), (by repeat (first | exact hK | apply Kbt.set_ | apply kdrN | apply keep_drew | apply kal))⟩
        have hn : Hid (Js.hex b p = .no (p + k) 6) := by have := hw1.out; rw [show Js.hexDigit x = none by simp only [Js.hexDigit]; rw [if_neg (by omega), if_neg (by omega), if_neg (by omega)]] at this; exact this
        have e4 : x < 48 ∨ (57 < x ∧ x < 65) ∨ (70 < x ∧ x < 97) ∨ 102 < x := by omega
        clear hw1 e1 e2 e3
        rcases e4 with b1 | ⟨b1, b2⟩ | ⟨b1, b2⟩ | b1
        all_goals
          go_wp2_with (first | (go_at_call 74; refine hp1.mono ?_; rintro e w' ⟨rfl, m, rfl⟩) | (go_at_call 60; refine (fail_calls 6 (hS.drewN _)).mono ?_; rintro e w' ⟨rfl, rfl⟩));refine ⟨rfl, ?_⟩;rw [hn.out];exact ⟨rfl, pbdN hS.bel _, kdrN hK _⟩
    · obtain rfl : k = 4 := by omega
      obtain rfl : gk = 0 := by omega
      have hn : Hid (Js.hex b p = .ok n (p + 4)) := hw.out;clear hw;go_wp2;go_ret;rw [hn.out];exact ⟨_, rfl, rfl, hS, hK⟩
end Go.Proofs.YteighppcdpaekaaDoor.Rd
end
section
namespace Go.Proofs.YteighppcdpaekaaDoor.Rd
open Go.RowKit Go.Proofs.YteighppcdpaekaaDoorW.PrintWords
open Go.Proofs.YteighppcdpaekaaDoor
theorem C_lit (w : World) (l : List Int) (t : TypeId) (hl : l.length ≤ 1000) : Kd.C (Kd.int .u8) (w.alloc (.cells (l.map (Value.int .u8)).toArray t)) (some ⟨w.heap.size, 0, none⟩) l.length l := by
 refine ⟨rfl, by omega, fun _ => ⟨_, rfl, fun j x hj => ⟨[.int .u8 x], rfl, rfl, fun i u hu => ?_⟩⟩⟩;have hjl := (List.getElem?_eq_some_iff.1 hj).1
 have hi : i = 0 := by
  rcases i with _ | i
  ·rfl
  ·simp at hu
 subst hi
 simp at hu
 subst hu;have hb := blk_new w (.cells (l.map (Value.int .u8)).toArray t)
 have ha : (⟨w.heap.size, 0, none⟩ : Addr).add (j * (Kd.int .u8).sz + 0) = ⟨w.heap.size, j, none⟩ := by
  show (⟨w.heap.size, 0, none⟩ : Addr).add (j * 1 + 0) = _
  rw [Nat.mul_one, Nat.add_zero];unfold Addr.add
  split
  ·rename_i h0; rw [h0]
  ·simp
 rw [ha];refine (bceq hb j).trans ?_
 simp [hj]
def VBytes (w : World) (l : List Int) (u : Value) : Prop := ∃ (A : Option Addr) (n c : Nat), u = .slice A n c ∧ n = l.length ∧ n ≤ c ∧ n ≤ 1000 ∧ Kd.C (Kd.int .u8) w A n l
theorem and63 (r : Int) (h0 : 0 ≤ r) (h1 : r < 2147483648) : bits .and .i32 r 63 = r % 64 := bits_mask .i32 31 (by decide) wraps_i32 6 (by decide) r h0 (by omega)
set_option maxRecDepth 100000 in
set_option maxHeartbeats 1600000 in
theorem encode_some {r : Int} {l : List Int} {w : World} (he : Js.encode r = some l) :
  Calls Tryd.prog 121 #[.int .i32 r] w fun e w' => ∃ u, e = .returned (.tuple #[u, .int .i64 0]) ∧ VBytes w' l u ∧ Below w.heap.size w w' := by
 unfold Js.encode at he
 split at he
 ·cases he
 rename_i hno
 have h0 : 0 ≤ r := by omega
 have h1 : r ≤ 1114111 := by omega
 have hsur : r < 55296 ∨ 57343 < r := by omega
 clear hno
 have g192 : r < 2048 → bits .or .u8 192 (r / 64 % 256) = 192 + r / 64 := fun h => by rw [u8_or192 _ (by omega) (by omega)]; omega
 have g224 : r < 65536 → bits .or .u8 224 (r / 4096 % 256) = 224 + r / 4096 := fun h => by rw [u8_or224 _ (by omega) (by omega)]; omega
 have g240 : bits .or .u8 240 (r / 262144 % 256) = 240 + r / 262144 := by rw [u8_or240 _ (by omega) (by omega)]; omega
 have g1 : bits .or .u8 128 (bits .and .i32 r 63 % 256) = 128 + r % 64 := by rw [and63 r h0 (by omega), u8_or128 _ (by omega) (by omega)]; omega
 have g2 : bits .or .u8 128 (bits .and .i32 (r / 64) 63 % 256) = 128 + r / 64 % 64 := by rw [and63 _ (by omega) (by omega), u8_or128 _ (by omega) (by omega)]; omega
 have g3 : bits .or .u8 128 (bits .and .i32 (r / 4096) 63 % 256) = 128 + r / 4096 % 64 := by rw [and63 _ (by omega) (by omega), u8_or128 _ (by omega) (by omega)]; omega
 have G := Lib.hid (And.intro g192 (And.intro g224 (And.intro g240 (And.intro g1 (And.intro g2 g3)))));clear g192 g224 g240 g1 g2 g3;have hL := Lib.hid (fun (l : List Int) (hl : l.length ≤ 1000) => C_lit w l 5 hl)
 have hmod : Hid (r < 128 → r % 256 = r) := fun h => by omega
 have fin : Hid (∀ (cs : Array Value) (n : Nat) (l' : List Int) (w' : World), l' = l → w' = w.alloc (.cells cs 5) → n = l'.length → l'.length ≤ 1000 → cs = (l'.map (Value.int .u8)).toArray → ∃ u, (Ending.returned (.tuple #[.slice (some ⟨w.heap.size, 0, none⟩) n n, .int .i64 0]) : Ending) = .returned (.tuple #[u, .int .i64 0]) ∧ VBytes w' l u ∧ Below w.heap.size w w') := by
  rintro cs n l' w' rfl rfl rfl hl rfl;exact ⟨_, rfl, ⟨_, _, _, rfl, rfl, Nat.le_refl _, hl, hL.out l' hl⟩, (Below.refl _ _).alloc (Nat.le_refl _) _⟩
 split at he
 ·obtain rfl := Option.some.inj he
  clear he
  rcases hsur with h2 | h2
  ·go_enter Tryd.func121, Tryd.ntmps121
   go_wp2
   go_ret2
   exact fin.out _ _ _ _ rfl rfl rfl (by simp) rfl
  ·exfalso; omega
 split at he
 ·rename_i hA hB
  have hl := Option.some.inj he;have hl' := Lib.hid hl;clear he hl
  rcases hsur with h2 | h2
  ·go_enter Tryd.func121, Tryd.ntmps121
   go_wp2
   go_ret2
   obtain ⟨g192, -, -, g1, -, -⟩ := G.out
   (try rw [g192 hB]); (try rw [g1])
   exact fin.out _ _ _ _ hl'.out rfl rfl (by simp) rfl
  ·exfalso; omega
 split at he
 ·rename_i hA hB hC
  have hl := Option.some.inj he;have hl' := Lib.hid hl;clear he hl
  rcases hsur with h2 | h2
  all_goals
   go_enter Tryd.func121, Tryd.ntmps121;go_wp2
   go_ret2
   obtain ⟨-, g224, -, g1, g2, -⟩ := G.out
   (try rw [g224 hC]); (try rw [g1]); (try rw [g2])
   exact fin.out _ _ _ _ hl'.out rfl rfl (by simp) rfl
 ·rename_i hA hB hC
  have hl := Option.some.inj he;have hl' := Lib.hid hl;clear he hl
  rcases hsur with h2 | h2
  ·exfalso; omega
  ·go_enter Tryd.func121, Tryd.ntmps121
   go_wp2
   go_ret2
   obtain ⟨-, -, g240, g1, g2, g3⟩ := G.out
   (try rw [g240]); (try rw [g1]); (try rw [g2]); (try rw [g3])
   exact fin.out _ _ _ _ hl'.out rfl rfl (by simp) rfl
set_option maxRecDepth 100000 in
set_option maxHeartbeats 1600000 in
theorem encode_none {r : Int} {w : World} (he : Js.encode r = none) :
  Calls Tryd.prog 121 #[.int .i32 r] w fun e w' => e = .returned (.tuple #[.slice none 0 0, .int .i64 10]) ∧ w' = w := by
 unfold Js.encode at he
 split at he
 ·rename_i hno
  have h2 : r < 0 ∨ (0 ≤ r ∧ 1114111 < r) ∨ (0 ≤ r ∧ r ≤ 1114111 ∧ 55296 ≤ r ∧ r ≤ 57343) := by omega
  clear hno he
  rcases h2 with h2 | ⟨h2, h3⟩ | ⟨h2, h3, h4, h5⟩
  all_goals
   go_enter Tryd.func121, Tryd.ntmps121;go_wp2
   go_ret2
   exact ⟨rfl, rfl⟩
 ·exfalso
  split at he
  ·cases he
  split at he
  ·cases he
  split at he <;> cases he
end Go.Proofs.YteighppcdpaekaaDoor.Rd
end
section
namespace Go.Proofs.YteighppcdpaekaaDoor.Rd
open Go.RowKit Go.Proofs.YteighppcdpaekaaDoorW.PrintWords
open Go.Proofs.YteighppcdpaekaaDoor
section
variable {w0 : World} {g : Nat} {A : Option Addr} {c : Nat} {b : List Int} {W W1 : World} {p d : Int}
theorem RS.below (h : RS w0 g A c b W p d) (hb : Below W.heap.size W W1) : RS w0 g A c b W1 p d :=
 ⟨blk_below h.blk hb, h.ge, h.read, h.bel.trans (hb.mono (Nat.le_trans h.ge (Nat.le_of_lt h.lt))), h.small⟩
theorem keep_below {w : World} (h : Kbt w W g none) (hb : Below W.heap.size W W1) : Kbt w W1 g none := h.trans (Kbt.of_below hb g none) (.inl rfl)
end
set_option maxRecDepth 100000 in
set_option maxHeartbeats 3200000 in
theorem unit_calls {w0 : World} {g : Nat} {A : Option Addr} {c : Nat} {b : List Int} {w : World} {d : Int} {p : Nat} (hb : Bytes b) (h : RS w0 g A c b w p d) (hp2 : 2 ≤ p) (hp : p ≤ b.length) :
  Calls Tryd.prog 112 #[.pointer (some ⟨g, 0, none⟩)] w (Post w0 g A c b w d VBytes (Js.unit b p)) := by
 have hsm := h.small;have h1 := h.c1;have hx1 := hex_calls hb h hp
 have hpc : ((p - 2 : Nat) : Int) = (p : Int) - 2 := by omega
 have hpc' := Lib.hid hpc;clear hpc
 cases he : Js.hex b p with
 | no x k =>
  rw [he] at hx1
  have hn : Hid (Js.unit b p = .no x k) := by show _ = _; simp [Js.unit, he]
  clear he;go_enter Tryd.func112, Tryd.ntmps112;go_wp2_with (go_at_call 120; refine hx1.mono ?_; rintro e w' ⟨rfl, hB, hK⟩);refine ⟨rfl, ?_⟩;rw [hn.out];exact ⟨rfl, hB, hK⟩
 | ok n q =>
  rw [he] at hx1;by_cases hs : 55296 ≤ n ∧ n ≤ 56319
  ·obtain ⟨hs1, hs2⟩ := hs
   have hn0 : Js.unit b p = if Js.next b q 92 then (match b[q + 1]? with
     | none => .no (q + 1) 11
     | some c => if c == 117 then (match Js.hex b (q + 2) with
       | .no x e => .no x e
       | .ok low q => if low < 0xDC00 ∨ low > 0xDFFF then .no (p - 2) 6 else (match Js.encode (0x10000 + (n - 0xD800) * 1024 + low - 0xDC00) with | some l => .ok l q | none => .no (p - 2) 6))
      else .no (p - 2) 6) else .no (p - 2) 6 := by simp only [Js.unit, he]; rw [if_pos ⟨hs1, hs2⟩]; rfl
   clear he
   cases hq : Js.next b q 92 with
   | false =>
    have hn : Hid (Js.unit b p = .no (p - 2) 6) := by show _ = _; rw [hn0, hq]; rfl
    clear hn0;go_enter Tryd.func112, Tryd.ntmps112;go_wp2_with (go_at_call 120; refine hx1.mono ?_; rintro e w' ⟨u, rfl, rfl, hS, hK⟩; have g1 := hS.c1; have f1 := hS.fr 1);have hnx := next_calls q 92 hS;rw [hq] at hnx;clear hq;go_wp2_with (go_at_call 100; refine hnx.mono ?_; rintro e w' ⟨rfl, m, rfl⟩);refine (fail_calls 6 (RS.set1 (hS.drewN m) _)).mono ?_;rintro e w2 ⟨rfl, rfl⟩;refine ⟨rfl, ?_⟩;rw [hn.out];exact ⟨by rw [hpc'.out]; rfl, (RS.set1 (hS.drewN m) _).bel, (kdrN hK _).set_ _ _⟩
   | true =>
    have hql := Js.next_lt hq;rw [hq, if_pos rfl] at hn0
    cases hc : b[q + 1]? with
    | none =>
     have hn : Hid (Js.unit b p = .no (q + 1) 11) := by show _ = _; rw [hn0, hc]
     clear hn0;go_enter Tryd.func112, Tryd.ntmps112;go_wp2_with (go_at_call 120; refine hx1.mono ?_; rintro e w' ⟨u, rfl, rfl, hS, hK⟩; have g1 := hS.c1; have f1 := hS.fr 1);have hnx := next_calls q 92 hS;rw [hq] at hnx
     have hS2 := fun m => RS.to ((hS.drewN m).set1 ((q : Int) + 1)) (show (q : Int) + 1 = ((q + 1 : Nat) : Int) by omega) rfl
     have hpk := fun m => peek_no (hS2 m) hc
     clear hq hc;go_wp2_with (go_at_call 100; refine hnx.mono ?_; rintro e w' ⟨rfl, m, rfl⟩);refine (hpk m).mono ?_;rintro e w2 ⟨rfl, m2, rfl⟩;refine ⟨rfl, ?_⟩;rw [hn.out];exact ⟨rfl, ((hS2 m).drewN _).bel, kdrN ((kdrN hK _).set_ _ _) _⟩
    | some cc =>
     have hcl : q + 1 < b.length := (List.getElem?_eq_some_iff.1 hc).1;rw [hc] at hn0;simp only at hn0;by_cases hcu : cc = 117
     ·rw [if_pos (by simpa using hcu)] at hn0
      cases he2 : Js.hex b (q + 2) with
      | no x k =>
       have hn : Hid (Js.unit b p = .no x k) := by show _ = _; rw [hn0, he2]
       have hcu' : (cc != 117) = false := by simpa using hcu
       clear hn0 hcu;go_enter Tryd.func112, Tryd.ntmps112;go_wp2_with (go_at_call 120; refine hx1.mono ?_; rintro e w' ⟨u, rfl, rfl, hS, hK⟩; have g1 := hS.c1; have f1 := hS.fr 1);have hnx := next_calls q 92 hS;rw [hq] at hnx
       have hS2 := fun m => RS.to ((hS.drewN m).set1 ((q : Int) + 1)) (show (q : Int) + 1 = ((q + 1 : Nat) : Int) by omega) rfl
       have hpk := fun m => peek_ok (hS2 m) hc
       have hS3 := fun m m2 => RS.to (((hS2 m).drewN m2).set1 ((q : Int) + 1 + 1)) (show (q : Int) + 1 + 1 = ((q + 2 : Nat) : Int) by omega) rfl
       have hx2 := fun m m2 => hex_calls hb (hS3 m m2) (by omega)
       rw [he2] at hx2;clear hq hc he2;go_wp2_with (go_at_call 100; refine hnx.mono ?_; rintro e w' ⟨rfl, m, rfl⟩);refine (hpk m).mono ?_;rintro e w2 ⟨rfl, m2, rfl⟩
       go_wp2_with fail
       refine (hx2 m m2).mono ?_;rintro e w2 ⟨rfl, hB, hK2⟩;refine ⟨rfl, ?_⟩;rw [hn.out];exact ⟨rfl, hB, ((kdrN ((kdrN hK _).set_ _ _) _).set_ _ _).trans hK2 (.inl rfl)⟩
      | ok low q2 =>
       rw [he2] at hn0;simp only at hn0
       have hcu' : (cc != 117) = false := by simpa using hcu
       clear hcu;by_cases hlow : low < 56320 ∨ low > 57343
       ·rw [if_pos hlow] at hn0
        have hn := Lib.hid hn0;clear hn0
        have hlow' : low < 56320 ∨ 56320 ≤ low ∧ 57343 < low := by omega
        clear hlow
        rcases hlow' with hl | ⟨hl, hl'⟩
        all_goals
         go_enter Tryd.func112, Tryd.ntmps112;go_wp2_with (go_at_call 120; refine hx1.mono ?_; rintro e w' ⟨u, rfl, rfl, hS, hK⟩; have g1 := hS.c1; have f1 := hS.fr 1);have hnx := next_calls q 92 hS;rw [hq] at hnx
         have hS2 := fun m => RS.to ((hS.drewN m).set1 ((q : Int) + 1)) (show (q : Int) + 1 = ((q + 1 : Nat) : Int) by omega) rfl
         have hpk := fun m => peek_ok (hS2 m) hc
         have hS3 := fun m m2 => RS.to (((hS2 m).drewN m2).set1 ((q : Int) + 1 + 1)) (show (q : Int) + 1 + 1 = ((q + 2 : Nat) : Int) by omega) rfl
         have hx2 := fun m m2 => hex_calls hb (hS3 m m2) (by omega)
         rw [he2] at hx2;clear hq hc he2;go_wp2_with (go_at_call 100; refine hnx.mono ?_; rintro e w' ⟨rfl, m, rfl⟩);refine (hpk m).mono ?_;rintro e w2 ⟨rfl, m2, rfl⟩
         go_wp2_with fail
         refine (hx2 m m2).mono ?_;rintro e w3 ⟨u, rfl, rfl, hS4, hK4⟩;have g4 := hS4.c1;have f4 := hS4.fr 1;have hK5 := ((kdrN ((kdrN hK _).set_ _ _) _).set_ _ _).trans hK4 (.inl rfl);clear hx2 hpk hnx hS2 hS3 g1 f1 hS
         go_wp2_with fail
         refine (fail_calls 6 (hS4.set1 _)).mono ?_;rintro e w5 ⟨rfl, rfl⟩;refine ⟨rfl, ?_⟩;rw [hn.out];exact ⟨by rw [hpc'.out]; rfl, (hS4.set1 _).bel, hK5.set_ _ _⟩
       ·rw [if_neg hlow] at hn0
        have hl1 : 56320 ≤ low := by omega
        have hl2 : low ≤ 57343 := by omega
        clear hlow;have hr : 65536 + (n - 55296) * 1024 + low - 56320 = 65536 + (n - 55296) * 1024 + low - 56320 := rfl
        cases hen : Js.encode (65536 + (n - 55296) * 1024 + low - 56320) with
        | none =>
         rw [hen] at hn0;have hn := Lib.hid hn0;clear hn0
         have henc := fun W => encode_none (w := W) hen
         clear hen hr;go_enter Tryd.func112, Tryd.ntmps112;go_wp2_with (go_at_call 120; refine hx1.mono ?_; rintro e w' ⟨u, rfl, rfl, hS, hK⟩; have g1 := hS.c1; have f1 := hS.fr 1);have hnx := next_calls q 92 hS;rw [hq] at hnx
         have hS2 := fun m => RS.to ((hS.drewN m).set1 ((q : Int) + 1)) (show (q : Int) + 1 = ((q + 1 : Nat) : Int) by omega) rfl
         have hpk := fun m => peek_ok (hS2 m) hc
         have hS3 := fun m m2 => RS.to (((hS2 m).drewN m2).set1 ((q : Int) + 1 + 1)) (show (q : Int) + 1 + 1 = ((q + 2 : Nat) : Int) by omega) rfl
         have hx2 := fun m m2 => hex_calls hb (hS3 m m2) (by omega)
         rw [he2] at hx2;clear hq hc he2;go_wp2_with (go_at_call 100; refine hnx.mono ?_; rintro e w' ⟨rfl, m, rfl⟩);refine (hpk m).mono ?_;rintro e w2 ⟨rfl, m2, rfl⟩
         go_wp2_with fail
         refine (hx2 m m2).mono ?_;rintro e w3 ⟨u, rfl, rfl, hS4, hK4⟩;have g4 := hS4.c1;have f4 := hS4.fr 1;have hK5 := ((kdrN ((kdrN hK _).set_ _ _) _).set_ _ _).trans hK4 (.inl rfl);clear hx2 hpk hnx hS2 hS3 g1 f1 hS
         go_wp2_with fail
         refine (henc _).mono ?_;rintro e w6 ⟨rfl, rfl⟩
         go_wp2_with fail
         refine (fail_calls 6 (hS4.set1 _)).mono ?_;rintro e w5 ⟨rfl, rfl⟩;refine ⟨rfl, ?_⟩;rw [hn.out];exact ⟨by rw [hpc'.out]; rfl, (hS4.set1 _).bel, hK5.set_ _ _⟩
        | some l =>
         rw [hen] at hn0;have hn := Lib.hid hn0;clear hn0
         have henc := fun W => encode_some (w := W) hen
         clear hen hr;go_enter Tryd.func112, Tryd.ntmps112;go_wp2_with (go_at_call 120; refine hx1.mono ?_; rintro e w' ⟨u, rfl, rfl, hS, hK⟩; have g1 := hS.c1; have f1 := hS.fr 1);have hnx := next_calls q 92 hS;rw [hq] at hnx
         have hS2 := fun m => RS.to ((hS.drewN m).set1 ((q : Int) + 1)) (show (q : Int) + 1 = ((q + 1 : Nat) : Int) by omega) rfl
         have hpk := fun m => peek_ok (hS2 m) hc
         have hS3 := fun m m2 => RS.to (((hS2 m).drewN m2).set1 ((q : Int) + 1 + 1)) (show (q : Int) + 1 + 1 = ((q + 2 : Nat) : Int) by omega) rfl
         have hx2 := fun m m2 => hex_calls hb (hS3 m m2) (by omega)
         rw [he2] at hx2;clear hq hc he2;go_wp2_with (go_at_call 100; refine hnx.mono ?_; rintro e w' ⟨rfl, m, rfl⟩);refine (hpk m).mono ?_;rintro e w2 ⟨rfl, m2, rfl⟩
         go_wp2_with fail
         refine (hx2 m m2).mono ?_;rintro e w3 ⟨u, rfl, rfl, hS4, hK4⟩;have g4 := hS4.c1;have f4 := hS4.fr 1;have hK5 := ((kdrN ((kdrN hK _).set_ _ _) _).set_ _ _).trans hK4 (.inl rfl);clear hx2 hpk hnx hS2 hS3 g1 f1 hS
         go_wp2_with fail
         refine (henc _).mono ?_;rintro e w6 ⟨u, rfl, hV, hB2⟩;go_wp2;go_ret;rw [hn.out];exact ⟨_, rfl, hV, hS4.below hB2, keep_below hK5 hB2⟩
     ·rw [if_neg (by simpa using hcu)] at hn0
      have hn := Lib.hid hn0
      have hcu' : (cc != 117) = true := by simpa using hcu
      clear hn0 hcu;go_enter Tryd.func112, Tryd.ntmps112;go_wp2_with (go_at_call 120; refine hx1.mono ?_; rintro e w' ⟨u, rfl, rfl, hS, hK⟩; have g1 := hS.c1; have f1 := hS.fr 1);have hnx := next_calls q 92 hS;rw [hq] at hnx
      have hS2 := fun m => RS.to ((hS.drewN m).set1 ((q : Int) + 1)) (show (q : Int) + 1 = ((q + 1 : Nat) : Int) by omega) rfl
      have hpk := fun m => peek_ok (hS2 m) hc
      clear hq hc;go_wp2_with (go_at_call 100; refine hnx.mono ?_; rintro e w' ⟨rfl, m, rfl⟩);refine (hpk m).mono ?_;rintro e w2 ⟨rfl, m2, rfl⟩
      go_wp2_with fail
      refine (fail_calls 6 (((hS2 m).drewN m2).set1 _)).mono ?_;rintro e w2 ⟨rfl, rfl⟩;refine ⟨rfl, ?_⟩;rw [hn.out];exact ⟨by rw [hpc'.out]; rfl, (((hS2 m).drewN m2).set1 _).bel, ((kdrN ((kdrN hK _).set_ _ _) _).set_ _ _)⟩
  ·have hs' : n < 55296 ∨ 55296 ≤ n ∧ 56319 < n := by omega
   cases hen : Js.encode n with
   | none =>
    have hn : Hid (Js.unit b p = .no (p - 2) 6) := by show _ = _; simp only [Js.unit, he]; rw [if_neg (by omega)]; simp [hen]
    clear he
    have henc := fun W => encode_none (w := W) hen
    clear hen hs
    rcases hs' with hs | ⟨hs, hs'⟩
    all_goals
     go_enter Tryd.func112, Tryd.ntmps112;go_wp2_with (go_at_call 120; refine hx1.mono ?_; rintro e w' ⟨u, rfl, rfl, hS, hK⟩; have g1 := hS.c1; have f1 := hS.fr 1);refine (henc _).mono ?_;rintro e w2 ⟨rfl, rfl⟩
     go_wp2_with fail
     refine (fail_calls 6 (hS.set1 _)).mono ?_;rintro e w2 ⟨rfl, rfl⟩;refine ⟨rfl, ?_⟩;rw [hn.out];exact ⟨by rw [hpc'.out]; rfl, (hS.set1 _).bel, hK.set_ _ _⟩
   | some l =>
    have hn : Hid (Js.unit b p = .ok l q) := by show _ = _; simp only [Js.unit, he]; rw [if_neg (by omega)]; simp [hen]
    clear he
    have henc := fun W => encode_some (w := W) hen
    clear hen hs
    rcases hs' with hs | ⟨hs, hs'⟩
    all_goals
     go_enter Tryd.func112, Tryd.ntmps112;go_wp2_with (go_at_call 120; refine hx1.mono ?_; rintro e w' ⟨u, rfl, rfl, hS, hK⟩);refine (henc _).mono ?_;rintro e w2 ⟨u, rfl, hV, hB2⟩;go_wp2;go_ret;rw [hn.out];exact ⟨_, rfl, hV, hS.below hB2, keep_below hK hB2⟩
end Go.Proofs.YteighppcdpaekaaDoor.Rd
end
section
namespace Go.Proofs.YteighppcdpaekaaDoor.Rd
open Go.RowKit Go.Proofs.YteighppcdpaekaaDoorW.PrintWords
open Go.Proofs.YteighppcdpaekaaDoor
set_option maxRecDepth 100000 in
set_option maxHeartbeats 3200000 in
theorem escape_calls {w0 : World} {g : Nat} {A : Option Addr} {c : Nat} {b : List Int} {w : World} {d : Int} {p : Nat} (hb : Bytes b) (h : RS w0 g A c b w p d) (hp1 : 1 ≤ p) (hp : p ≤ b.length) :
  Calls Tryd.prog 99 #[.pointer (some ⟨g, 0, none⟩)] w (Post w0 g A c b w d VBytes (Js.escape b p)) := by
 have hsm := h.small;have h1 := h.c1;have f1 := h.fr 1
 cases hx : b[p]? with
 | none =>
  have hn : Hid (Js.escape b p = .no p 11) := by show _ = _; simp [Js.escape, hx]
  have hpk := peek_no h hx;clear hx;go_enter Tryd.func99, Tryd.ntmps99;go_wp2_with (go_at_call 74; refine hpk.mono ?_; rintro e w' ⟨rfl, m, rfl⟩);refine ⟨rfl, ?_⟩;rw [hn.out];exact ⟨rfl, pbdN h.bel _, kdrN (Kbt.refl _ _ _) _⟩
 | some x =>
  have hpl : p < b.length := (List.getElem?_eq_some_iff.1 hx).1;have hpk := peek_ok h hx
  have hS := fun m => RS.to ((h.drewN m).set1 ((p : Int) + 1)) (show (p : Int) + 1 = ((p + 1 : Nat) : Int) by omega) rfl
  have hK := fun m => (kdrN (Kbt.refl w g none) m).set_ 1 (.int .i64 ((p : Int) + 1))
  have hL : Hid (∀ (W : World) (G : Nat) (l : List Int), G = W.heap.size → l.length ≤ 1000 → Kd.C (Kd.int .u8) (W.alloc (.cells (l.map (Value.int .u8)).toArray 5)) (some ⟨G, 0, none⟩) l.length l) := fun W G l hG hl => by subst hG; exact C_lit W l 5 hl
  have hn0 : Js.escape b p = if x == 34 || x == 92 || x == 47 then .ok [x] (p + 1)
   else if x == 98 then .ok [8] (p + 1) else if x == 102 then .ok [12] (p + 1) else if x == 110 then .ok [10] (p + 1)
   else if x == 114 then .ok [13] (p + 1) else if x == 116 then .ok [9] (p + 1) else if x == 117 then Js.unit b (p + 1) else .no p 6 := by simp only [Js.escape, hx]
  clear hx;by_cases e34 : x = 34
  ·have hn : Hid (Js.escape b p = .ok [x] (p + 1)) := by show _ = _; rw [hn0]; simp [e34]
   replace e34 := beq_iff_eq.2 e34;clear hn0;go_enter Tryd.func99, Tryd.ntmps99;go_wp2_with (go_at_call 74; refine hpk.mono ?_; rintro e w' ⟨rfl, m, rfl⟩);go_ret;rw [hn.out];exact ⟨_, rfl, ⟨_, _, _, rfl, rfl, Nat.le_refl _, by simp, hL.out _ _ [x] (by simp) (by simp)⟩, (hS m).alloc _, kal (hK m) _⟩
  by_cases e92 : x = 92
  ·have hn : Hid (Js.escape b p = .ok [x] (p + 1)) := by show _ = _; rw [hn0]; simp [e92]
   replace e34 := beq_eq_false_iff_ne.2 e34;replace e92 := beq_iff_eq.2 e92;clear hn0;go_enter Tryd.func99, Tryd.ntmps99;go_wp2_with (go_at_call 74; refine hpk.mono ?_; rintro e w' ⟨rfl, m, rfl⟩);go_ret;rw [hn.out];exact ⟨_, rfl, ⟨_, _, _, rfl, rfl, Nat.le_refl _, by simp, hL.out _ _ [x] (by simp) (by simp)⟩, (hS m).alloc _, kal (hK m) _⟩
  by_cases e47 : x = 47
  ·have hn : Hid (Js.escape b p = .ok [x] (p + 1)) := by show _ = _; rw [hn0]; simp [e47]
   replace e34 := beq_eq_false_iff_ne.2 e34;replace e92 := beq_eq_false_iff_ne.2 e92;replace e47 := beq_iff_eq.2 e47;clear hn0;go_enter Tryd.func99, Tryd.ntmps99;go_wp2_with (go_at_call 74; refine hpk.mono ?_; rintro e w' ⟨rfl, m, rfl⟩);go_ret;rw [hn.out];exact ⟨_, rfl, ⟨_, _, _, rfl, rfl, Nat.le_refl _, by simp, hL.out _ _ [x] (by simp) (by simp)⟩, (hS m).alloc _, kal (hK m) _⟩
  by_cases e98 : x = 98
  ·have hn : Hid (Js.escape b p = .ok [8] (p + 1)) := by show _ = _; rw [hn0]; simp [e98]
   replace e34 := beq_eq_false_iff_ne.2 e34;replace e92 := beq_eq_false_iff_ne.2 e92;replace e47 := beq_eq_false_iff_ne.2 e47;replace e98 := beq_iff_eq.2 e98;clear hn0;go_enter Tryd.func99, Tryd.ntmps99;go_wp2_with (go_at_call 74; refine hpk.mono ?_; rintro e w' ⟨rfl, m, rfl⟩);go_ret;rw [hn.out];exact ⟨_, rfl, ⟨_, _, _, rfl, rfl, Nat.le_refl _, by simp, hL.out _ _ [8] (by simp) (by simp)⟩, (hS m).alloc _, kal (hK m) _⟩
  by_cases e102 : x = 102
  ·have hn : Hid (Js.escape b p = .ok [12] (p + 1)) := by show _ = _; rw [hn0]; simp [e102]
   replace e34 := beq_eq_false_iff_ne.2 e34;replace e92 := beq_eq_false_iff_ne.2 e92;replace e47 := beq_eq_false_iff_ne.2 e47;replace e98 := beq_eq_false_iff_ne.2 e98;replace e102 := beq_iff_eq.2 e102;clear hn0;go_enter Tryd.func99, Tryd.ntmps99;go_wp2_with (go_at_call 74; refine hpk.mono ?_; rintro e w' ⟨rfl, m, rfl⟩);go_ret;rw [hn.out];exact ⟨_, rfl, ⟨_, _, _, rfl, rfl, Nat.le_refl _, by simp, hL.out _ _ [12] (by simp) (by simp)⟩, (hS m).alloc _, kal (hK m) _⟩
  by_cases e110 : x = 110
  ·have hn : Hid (Js.escape b p = .ok [10] (p + 1)) := by show _ = _; rw [hn0]; simp [e110]
   replace e34 := beq_eq_false_iff_ne.2 e34;replace e92 := beq_eq_false_iff_ne.2 e92;replace e47 := beq_eq_false_iff_ne.2 e47;replace e98 := beq_eq_false_iff_ne.2 e98;replace e102 := beq_eq_false_iff_ne.2 e102;replace e110 := beq_iff_eq.2 e110;clear hn0;go_enter Tryd.func99, Tryd.ntmps99;go_wp2_with (go_at_call 74; refine hpk.mono ?_; rintro e w' ⟨rfl, m, rfl⟩);go_ret;rw [hn.out];exact ⟨_, rfl, ⟨_, _, _, rfl, rfl, Nat.le_refl _, by simp, hL.out _ _ [10] (by simp) (by simp)⟩, (hS m).alloc _, kal (hK m) _⟩
  by_cases e114 : x = 114
  ·have hn : Hid (Js.escape b p = .ok [13] (p + 1)) := by show _ = _; rw [hn0]; simp [e114]
   replace e34 := beq_eq_false_iff_ne.2 e34;replace e92 := beq_eq_false_iff_ne.2 e92;replace e47 := beq_eq_false_iff_ne.2 e47;replace e98 := beq_eq_false_iff_ne.2 e98;replace e102 := beq_eq_false_iff_ne.2 e102;replace e110 := beq_eq_false_iff_ne.2 e110;replace e114 := beq_iff_eq.2 e114;clear hn0;go_enter Tryd.func99, Tryd.ntmps99;go_wp2_with (go_at_call 74; refine hpk.mono ?_; rintro e w' ⟨rfl, m, rfl⟩);go_ret;rw [hn.out];exact ⟨_, rfl, ⟨_, _, _, rfl, rfl, Nat.le_refl _, by simp, hL.out _ _ [13] (by simp) (by simp)⟩, (hS m).alloc _, kal (hK m) _⟩
  by_cases e116 : x = 116
  ·have hn : Hid (Js.escape b p = .ok [9] (p + 1)) := by show _ = _; rw [hn0]; simp [e116]
   replace e34 := beq_eq_false_iff_ne.2 e34;replace e92 := beq_eq_false_iff_ne.2 e92;replace e47 := beq_eq_false_iff_ne.2 e47;replace e98 := beq_eq_false_iff_ne.2 e98;replace e102 := beq_eq_false_iff_ne.2 e102;replace e110 := beq_eq_false_iff_ne.2 e110;replace e114 := beq_eq_false_iff_ne.2 e114;replace e116 := beq_iff_eq.2 e116;clear hn0;go_enter Tryd.func99, Tryd.ntmps99;go_wp2_with (go_at_call 74; refine hpk.mono ?_; rintro e w' ⟨rfl, m, rfl⟩);go_ret;rw [hn.out];exact ⟨_, rfl, ⟨_, _, _, rfl, rfl, Nat.le_refl _, by simp, hL.out _ _ [9] (by simp) (by simp)⟩, (hS m).alloc _, kal (hK m) _⟩
  by_cases e117 : x = 117
  ·have hn : Hid (Js.escape b p = Js.unit b (p + 1)) := by show _ = _; rw [hn0]; simp [e117]
   replace e34 := beq_eq_false_iff_ne.2 e34;replace e92 := beq_eq_false_iff_ne.2 e92;replace e47 := beq_eq_false_iff_ne.2 e47;replace e98 := beq_eq_false_iff_ne.2 e98;replace e102 := beq_eq_false_iff_ne.2 e102;replace e110 := beq_eq_false_iff_ne.2 e110;replace e114 := beq_eq_false_iff_ne.2 e114;replace e116 := beq_eq_false_iff_ne.2 e116;replace e117 := beq_iff_eq.2 e117;clear hn0
   have hu := fun m => unit_calls hb (hS m) (by omega) (by omega)
   generalize hgu : Js.unit b (p + 1) = ou at hu hn;clear hgu;go_enter Tryd.func99, Tryd.ntmps99;go_wp2_with (go_at_call 74; refine hpk.mono ?_; rintro e w' ⟨rfl, m, rfl⟩);refine (hu m).mono ?_;intro e w2 hP
   cases ou with
   | no y k =>
    obtain ⟨rfl, hB, hK2⟩ := hP;refine ⟨rfl, ?_⟩;rw [hn.out];exact ⟨rfl, hB, (hK m).trans hK2 (.inl rfl)⟩
   | ok l q =>
    obtain ⟨u, rfl, hV, hS2, hK2⟩ := hP;go_wp2;go_ret;rw [hn.out];exact ⟨_, rfl, hV, hS2, (hK m).trans hK2 (.inl rfl)⟩
  have hn : Hid (Js.escape b p = .no p 6) := by show _ = _; rw [hn0]; simp [e34, e92, e47, e98, e102, e110, e114, e116, e117]
  replace e34 := beq_eq_false_iff_ne.2 e34;replace e92 := beq_eq_false_iff_ne.2 e92;replace e47 := beq_eq_false_iff_ne.2 e47;replace e98 := beq_eq_false_iff_ne.2 e98;replace e102 := beq_eq_false_iff_ne.2 e102;replace e110 := beq_eq_false_iff_ne.2 e110;replace e114 := beq_eq_false_iff_ne.2 e114;replace e116 := beq_eq_false_iff_ne.2 e116;replace e117 := beq_eq_false_iff_ne.2 e117;clear hn0;go_enter Tryd.func99, Tryd.ntmps99;go_wp2_with (go_at_call 74; refine hpk.mono ?_; rintro e w' ⟨rfl, m, rfl⟩);refine (fail_calls 6 (RS.set1 (hS m) _)).mono ?_;rintro e w2 ⟨rfl, rfl⟩;refine ⟨rfl, ?_⟩;rw [hn.out];exact ⟨rfl, (RS.set1 (hS m) _).bel, (hK m).set_ _ _⟩
end Go.Proofs.YteighppcdpaekaaDoor.Rd
end
section
namespace Go.Proofs.YteighppcdpaekaaDoor.Rd
open Go.RowKit Go.Proofs.YteighppcdpaekaaDoorW.PrintWords
open Go.Proofs.YteighppcdpaekaaDoor
def VStr (_ : World) (l : List Int) (u : Value) : Prop := u = .string (strOfNums l)
structure TS (w0 : World) (g : Nat) (A : Option Addr) (c : Nat) (b : List Int) (w : World) (d : Int) (wc : World) (q : Nat) (v : Value) (out : List Int) : Prop where
 rs : RS w0 g A c b wc q d
 kb : Kbt w wc g none
 own : wc.ownsRow w.heap.size 5 1 v out.length (nums .u8 out)
section
variable {w0 : World} {g : Nat} {A : Option Addr} {c : Nat} {b : List Int} {w : World} {d : Int} {wc w2 : World} {q r : Nat} {v v1 : Value} {out l : List Int}
theorem TS.ne (h : TS w0 g A c b w d wc q v out) (hg : g < w.heap.size) : v.ownBlock ≠ some g := fun e => by
 have := own_base h.own g e
 omega
theorem TS.step (h : TS w0 g A c b w d wc q v out) (hg : g < w.heap.size) (hS : RS w0 g A c b w2 r d) (hK : Kbt wc w2 g none) : TS w0 g A c b w d w2 r v out :=
 ⟨hS, h.kb.trans hK (.inl rfl), hK.own h.own (h.ne hg) (by cases v.ownBlock <;> simp)⟩
theorem TS.drewN (h : TS w0 g A c b w d wc q v out) (hg : g < w.heap.size) (n : Nat) : TS w0 g A c b w d (wc.drewN n) q v out := h.step hg (h.rs.drewN n) (kdrN (Kbt.refl _ _ _) n)
theorem TS.at1 (h : TS w0 g A c b w d wc q v out) (hg : g < w.heap.size) : TS w0 g A c b w d (wc.setCell ⟨g, 1, none⟩ (.int .i64 ((q : Int) + 1))) (q + 1) v out :=
 h.step hg ((h.rs.set1 _).to (by omega) rfl) ((Kbt.refl _ _ _).set_ _ _)
theorem TS.alloc (h : TS w0 g A c b w d wc q v out) (hg : g < w.heap.size) (x : Obj) : TS w0 g A c b w d (wc.alloc x) q v out := h.step hg (h.rs.alloc x) (kal (Kbt.refl _ _ _) x)
theorem TS.grown (h : TS w0 g A c b w d wc q v out) (hg : g < w.heap.size) (hown : w2.ownsRow w.heap.size 5 1 v1 l.length (nums .u8 l)) (hgr : wc.grownBy w2 v.ownBlock) : TS w0 g A c b w d w2 q v1 l := by
 have hb0 : ∀ k, v.ownBlock = some k → w.heap.size ≤ k := own_base h.own;have hge : w0.heap.size ≤ w.heap.size := Nat.le_trans h.rs.ge (Nat.le_of_lt hg);refine ⟨h.rs.grown hgr (fun e => h.ne hg e.symm) (h.rs.bel.grown hgr (Nat.le_trans hge h.kb.1) (fun k hk => Nat.le_trans hge (hb0 k hk))), ?_, hown⟩;refine h.kb.trans (Kbt.of_grown hgr g) ?_
 cases hv : v.ownBlock with
 | none => exact .inl rfl
 | some k => exact .inr ⟨k, rfl, hb0 k hv⟩
end
set_option maxRecDepth 100000 in
set_option maxHeartbeats 3200000 in
theorem text_calls {w0 : World} {g : Nat} {A : Option Addr} {c : Nat} {b : List Int} {w : World} {d : Int} {p k : Nat} {o : Js.Out (List Int)} (hb : Bytes b) (h : RS w0 g A c b w p d) (ho : Js.text b k p = some o) :
  Calls Tryd.prog 77 #[.pointer (some ⟨g, 0, none⟩)] w (Post w0 g A c b w d VStr o) := by
 have hsm := h.small;have hg := h.lt;have h1 := h.c1;have f1 := h.fr 1
 cases hx : b[p]? with
 | none =>
  obtain rfl : Js.Out.no p 11 = o := by simpa [Js.text, hx] using ho
  have hpk := peek_no h hx;clear hx ho;go_enter Tryd.func77, Tryd.ntmps77;go_wp2_with (go_at_call 74; refine hpk.mono ?_; rintro e w' ⟨rfl, m, rfl⟩);refine ⟨rfl, ?_⟩;exact ⟨rfl, pbdN h.bel _, kdrN (Kbt.refl _ _ _) _⟩
 | some x =>
  have hpl : p < b.length := (List.getElem?_eq_some_iff.1 hx).1;have hpk := peek_ok h hx;by_cases hq : x = 34
  ·have ho1 : Hid (Js.textTo b k [] (p + 1) = some o) := by show _ = _; simpa [Js.text, hx, hq] using ho
   have hq' : (x != 34) = false := by simpa using hq
   clear ho hq hx;go_enter Tryd.func77, Tryd.ntmps77;go_wp2_with (go_at_call 74; refine hpk.mono ?_; rintro e w' ⟨rfl, m, rfl⟩)
   have hT0 : TS w0 g A c b w d ((w.drewN m).setCell ⟨g, 1, none⟩ (.int .i64 ((p : Int) + 1))) (p + 1) (.slice none 0 0) [] :=
    ⟨(RS.set1 (h.drewN m) _).to (by omega) rfl, (kdrN (Kbt.refl _ _ _) _).set_ _ _, own_nil _ _ _ _⟩
   go_loopg [3] k (fun kq s3 wc => ∃ (q : Nat) (out : List Int), Hid (Js.textTo b kq out q = some o) ∧ q ≤ b.length ∧ out.length ≤ 1000 * q ∧ TS w0 g A c b w d wc q s3 out)
   case atStart => exact ⟨p + 1, [], ho1, by omega, by simp, hT0⟩
   case round =>
    clear ho1 hT0 hpk h h1 f1;obtain ⟨q, out, ho2, hql, hlen, hT⟩ := hrel
    cases gk with
    | zero => exact absurd ho2.out (by simp [Js.textTo])
    | succ k1 =>
     have h1 := hT.rs.c1;have f1 := hT.rs.fr 1
     cases hx : b[q]? with
     | none =>
      obtain rfl : Js.Out.no q 11 = o := by have := ho2.out; simpa [Js.textTo, hx] using this
      have hpk := peek_no hT.rs hx;clear hx ho2;go_wp2_with (go_at_call 74; refine hpk.mono ?_; rintro e w' ⟨rfl, m, rfl⟩);refine ⟨rfl, ?_⟩;exact ⟨rfl, (hT.drewN hg _).rs.bel, (hT.drewN hg _).kb⟩
     | some y =>
      have hql2 : q < b.length := (List.getElem?_eq_some_iff.1 hx).1;have hpk := peek_ok hT.rs hx
      have hTT := fun m => (hT.drewN hg m).at1 hg
      by_cases e1 : y = 34
      ·obtain rfl : Js.Out.ok out (q + 1) = o := by have := ho2.out; simpa [Js.textTo, hx, e1] using this
       have e1' : (y == 34) = true := by simpa using e1
       have hcv := fun m => own_string (P := Tryd.prog) Tryd.underlying35 Tryd.underlying5 Tryd.underlying9 (hTT m).own
       clear hx ho2 e1;go_wp2_with (go_at_call 74; refine hpk.mono ?_; rintro e w' ⟨rfl, m, rfl⟩);go_ret;exact ⟨_, rfl, rfl, (hTT m).rs, (hTT m).kb⟩
      ·have e1' : (y == 34) = false := by simpa using e1
       by_cases e2 : y = 92
       ·have e2' : (y == 92) = true := by simpa using e2
        cases hes : Js.escape b (q + 1) with
        | no x e =>
         obtain rfl : Js.Out.no x e = o := by have := ho2.out; simpa [Js.textTo, hx, e1, e2, hes] using this
         have hec := fun m => escape_calls hb (hTT m).rs (by omega) (by omega)
         rw [hes] at hec;clear hx ho2 e1 e2 hes;go_wp2_with (go_at_call 74; refine hpk.mono ?_; rintro e w' ⟨rfl, m, rfl⟩);refine (hec m).mono ?_;rintro e w2 ⟨rfl, hB, hK2⟩;refine ⟨rfl, ?_⟩;exact ⟨rfl, hB, (hTT m).kb.trans hK2 (.inl rfl)⟩
        | ok l r =>
         have ho3 : Hid (Js.textTo b k1 (out ++ l) r = some o) := by have := ho2.out; show _ = _; simpa [Js.textTo, hx, e1, e2, hes] using this
         have hec := fun m => escape_calls hb (hTT m).rs (by omega) (by omega)
         have hle := Js.escape_le hes;rw [hes] at hec;clear hx ho2 e1 e2 hes;go_wp2_with (go_at_call 74; refine hpk.mono ?_; rintro e w' ⟨rfl, m, rfl⟩);refine (hec m).mono ?_;rintro e w2 ⟨u, rfl, ⟨A', n', c', rfl, rfl, hnc, hn1000, hC⟩, hS2, hK2⟩;have hT2 := (hTT m).step hg hS2 hK2;clear hec hpk hTT hT h1 f1;go_wp2_with (at_builtin; refine print_append_row (w0 := w2) w.heap.size rfl _ _ 35 5 .u8 1 rfl Tryd.underlying35 info_u8 (by decide) u3 out l _ _ _ rfl rfl hT2.own (Kd.reads_of_C (enc := Value.int .u8) (d := (0 : Int)) (h1 := fun _ => rfl) hC) (Below.refl _ _) hT2.kb.1 (by omega) ?_; intro v1 w1 hown1 hbe1 hgr1 hat1; clear hbe1 hat1);have hT3 := hT2.grown hg hown1 hgr1;clear hown1 hgr1 hT2 hS2 hK2 hC
         go_roundg k1
         case measure => omega
         case rel => exact ⟨r, out ++ l, ho3, hle.2, by simp; omega, hT3⟩
       ·have e2' : (y == 92) = false := by simpa using e2
        by_cases e3 : y < 32
        ·obtain rfl : Js.Out.no q 6 = o := by have := ho2.out; simpa [Js.textTo, hx, e1, e2, e3] using this
         clear hx ho2 e1 e2;go_wp2_with (first | (go_at_call 74; refine hpk.mono ?_; rintro e w' ⟨rfl, m, rfl⟩) | (go_at_call 60; refine (fail_calls 6 (hT.drewN hg _).rs).mono ?_; rintro e w' ⟨rfl, rfl⟩));refine ⟨rfl, ?_⟩;exact ⟨rfl, (hT.drewN hg _).rs.bel, (hT.drewN hg _).kb⟩
        ·have ho3 : Hid (Js.textTo b k1 (out ++ [y]) (q + 1) = some o) := by have := ho2.out; show _ = _; simpa [Js.textTo, hx, e1, e2, e3] using this
         clear hx ho2 e1 e2;go_wp2_with (first | (go_at_call 74; refine hpk.mono ?_; rintro e w' ⟨rfl, m, rfl⟩) | (at_builtin; refine print_append_num (w0 := wr.drewN _) w.heap.size rfl _ _ 35 5 .u8 1 rfl Tryd.underlying35 info_u8 (by decide) u3 out y rfl rfl (hT.drewN hg _).own (Below.refl _ _) (hT.drewN hg _).kb.1 (by omega) ?_; intro v1 w1 hown1 hbe1 hgr1 hat1; clear hbe1 hat1; have hT3 := TS.grown (hT.drewN hg _) hg hown1 hgr1; clear hown1 hgr1; have g1 := hT3.rs.c1; have g2 := hT3.rs.fr 1));have hT4 := hT3.at1 hg
         go_roundg k1
         case measure => omega
         case rel => exact ⟨q + 1, out ++ [y], ho3, by omega, by simp; omega, hT4⟩
  ·obtain rfl : Js.Out.no p 6 = o := by simpa [Js.text, hx, hq] using ho
   have hq' : (x != 34) = true := by simpa using hq
   clear hx ho hq;go_enter Tryd.func77, Tryd.ntmps77;go_wp2_with (first | (go_at_call 74; refine hpk.mono ?_; rintro e w' ⟨rfl, m, rfl⟩) | (go_at_call 60; refine (fail_calls 6 (h.drewN _)).mono ?_; rintro e w' ⟨rfl, rfl⟩));refine ⟨rfl, ?_⟩;exact ⟨rfl, pbdN h.bel _, kdrN (Kbt.refl _ _ _) _⟩
end Go.Proofs.YteighppcdpaekaaDoor.Rd
end
section
namespace Go.Proofs.YteighppcdpaekaaDoor.Rd
open Go.RowKit Go.Proofs.YteighppcdpaekaaDoorW.PrintWords
open Go.Proofs.YteighppcdpaekaaDoor Go.Proofs.YteighppcdpaekaaDoor.P
mutual
def toS : Js.Val → S27
 | .mk k t ks l => ⟨k, strOfNums t, ks.map strOfNums, toSs l⟩
def toSs : List Js.Val → List S27
 | [] => []
 | v :: r => toS v :: toSs r
end
theorem toSs_map (l : List Js.Val) : toSs l = l.map toS := by
 induction l with
 | nil => rfl
 | cons v r ih => simp [toSs, ih]
theorem toSs_snoc (l : List Js.Val) (v : Js.Val) : toSs (l ++ [v]) = toSs l ++ [toS v] := by simp [toSs_map]
theorem toSs_length (l : List Js.Val) : (toSs l).length = l.length := by simp [toSs_map]
def VVal (n0 : Nat) (w' : World) (v : Js.Val) (u : Value) : Prop := ∃ (x0 : Int) (x1 : ByteArray) (v2 v3 : Value), u = .agg #[.int .i64 x0, .string x1, v2, v3] ∧ k27.M w' n0 (fun _ => True) (toS v) [.int .i64 x0, .string x1, v2, v3] ∧ k27.R 27 w' n0 (fun k => some k ≠ v2.ownBlock) v3 (toS v).f3
theorem VVal.of (n0 : Nat) (w' : World) (v : Js.Val) {v2 v3 : Value} (h2 : Kd.string.R 9 w' n0 (fun _ => True) v2 (toS v).f2) (h3 : k27.R 27 w' n0 (fun k => some k ≠ v2.ownBlock) v3 (toS v).f3) :
  VVal n0 w' v (.agg #[.int .i64 (toS v).f0, .string (toS v).f1, v2, v3]) := ⟨_, _, _, _, rfl, k27_mkM w' n0 _ (toS v) h2 (Kd.R_mono h3 (fun _ _ => trivial)), h3⟩
def Z25k (kind : Int) (v2 v3 : Value) : Obj := .cells #[.int .i64 kind, .string ⟨#[]⟩, v2, v3] 27 (0, 0)
structure AS (w0 : World) (g : Nat) (A : Option Addr) (c : Nat) (b : List Int) (w : World) (d : Int) (wc : World) (q : Nat) (lv : Value) (l : List Js.Val) : Prop where
 rs : RS w0 g A c b wc q d
 kb : Kbt w wc g none
 zb : wc.heap[w.heap.size]? = some Z25
 vb : wc.heap[w.heap.size + 1]? = some (Z25k 5 (.slice none 0 0) lv)
 own : k27.R 27 wc (w.heap.size + 2) (fun _ => True) lv (toSs l)
section
variable {w0 : World} {g : Nat} {A : Option Addr} {c : Nat} {b : List Int} {w : World} {d d2 : Int} {wc w2 : World} {q r : Nat} {lv v1 : Value} {l : List Js.Val}
theorem AS.step (h : AS w0 g A c b w d wc q lv l) (hg : g < w.heap.size) (hS : RS w0 g A c b w2 r d2) (hK : Kbt wc w2 g none) : AS w0 g A c b w d2 w2 r lv l :=
 ⟨hS, h.kb.trans hK (.inl rfl), hK.blk h.zb (by omega) (by simp), hK.blk h.vb (by omega) (by simp), Kd.R_mono (Kd.R_keep (Kd.R_bound h.own) hK (fun k hk => by have := hk.2.1; omega)) (fun _ _ => trivial)⟩
theorem AS.drewN (h : AS w0 g A c b w d wc q lv l) (hg : g < w.heap.size) (n : Nat) : AS w0 g A c b w d (wc.drewN n) q lv l := h.step hg (h.rs.drewN n) (kdrN (Kbt.refl _ _ _) n)
theorem AS.drew (h : AS w0 g A c b w d wc q lv l) (hg : g < w.heap.size) : AS w0 g A c b w d wc.drew q lv l := h.step hg h.rs.drew (keep_drew (Kbt.refl _ _ _))
theorem AS.alloc (h : AS w0 g A c b w d wc q lv l) (hg : g < w.heap.size) (x : Obj) : AS w0 g A c b w d (wc.alloc x) q lv l := h.step hg (h.rs.alloc x) (kal (Kbt.refl _ _ _) x)
end
section
variable {w0 : World} {g : Nat} {A : Option Addr} {c : Nat} {b : List Int} {w : World} {d : Int} {wc : World} {q : Nat} {lv : Value} {l : List Js.Val}
theorem R_st {w wc : World} {lv : Value} {xs : List S27} (h : k27.R 27 wc (w.heap.size + 2) (fun _ => True) lv xs) {i : Nat} (hi : i < w.heap.size + 2) (j : Nat) (u : Value) : k27.R 27 (wc.setCell ⟨i, j, none⟩ u) (w.heap.size + 2) (fun _ => True) lv xs :=
 Kd.R_mono (Kd.R_far (p := ⟨i, j, none⟩) (Kd.R_bound h) (fun k hk => by have h2 := hk.2.1; show k ≠ i; omega) u) (fun _ _ => trivial)
theorem AS.stored (h : AS w0 g A c b w d wc q lv l) (hg : g < w.heap.size) (v0 v1 v2 v3 : Value) :
  let wf := (((wc.setCell ⟨w.heap.size, 0, none⟩ v0).setCell ⟨w.heap.size, 1, none⟩ v1).setCell ⟨w.heap.size, 2, none⟩ v2).setCell ⟨w.heap.size, 3, none⟩ v3
  wf.heap[w.heap.size]? = some (.cells #[v0, v1, v2, v3] 27 (0, 0)) ∧ RS w0 g A c b wf q d ∧ Kbt w wf g none ∧ k27.R 27 wf (w.heap.size + 2) (fun _ => True) lv (toSs l) := by
 have hS := St.stored (w := w) (wc := wc) ⟨h.rs, h.kb, h.zb⟩ hg v0 v1 v2 v3;exact ⟨hS.1, hS.2.1, hS.2.2, R_st (R_st (R_st (R_st h.own (by omega) 0 v0) (by omega) 1 v1) (by omega) 2 v2) (by omega) 3 v3⟩
theorem AS.at1 (h : AS w0 g A c b w d wc q lv l) (hg : g < w.heap.size) {x : Int} (hx : x = (q : Int) + 1) : AS w0 g A c b w d (wc.setCell ⟨g, 1, none⟩ (.int .i64 x)) (q + 1) lv l :=
 h.step hg ((h.rs.set1 _).to (by omega) rfl) ((Kbt.refl _ _ _).set_ _ _)
theorem AS.at2 (h : AS w0 g A c b w d wc q lv l) (hg : g < w.heap.size) (x : Int) : AS w0 g A c b w x (wc.setCell ⟨g, 2, none⟩ (.int .i64 x)) q lv l :=
 h.step hg (h.rs.set2 _) ((Kbt.refl _ _ _).set_ _ _)
theorem AS.cells (h : AS w0 g A c b w d wc q lv l) :
  (wc.cell? ⟨w.heap.size, 0, none⟩ = some (.int .i64 0) ∧ wc.cell? ⟨w.heap.size, 1, none⟩ = some (.string ⟨#[]⟩) ∧ wc.cell? ⟨w.heap.size, 2, none⟩ = some (.slice none 0 0) ∧ wc.cell? ⟨w.heap.size, 3, none⟩ = some (.slice none 0 0)) ∧
  (wc.cell? ⟨w.heap.size + 1, 0, none⟩ = some (.int .i64 5) ∧ wc.cell? ⟨w.heap.size + 1, 1, none⟩ = some (.string ⟨#[]⟩) ∧ wc.cell? ⟨w.heap.size + 1, 2, none⟩ = some (.slice none 0 0) ∧ wc.cell? ⟨w.heap.size + 1, 3, none⟩ = some lv) ∧
  (wc.frozen? ⟨w.heap.size, 0, none⟩ = false ∧ wc.frozen? ⟨w.heap.size, 1, none⟩ = false ∧ wc.frozen? ⟨w.heap.size, 2, none⟩ = false ∧ wc.frozen? ⟨w.heap.size, 3, none⟩ = false) :=
 ⟨blk4 h.zb, blk4 h.vb, bfz h.zb 0, bfz h.zb 1, bfz h.zb 2, bfz h.zb 3⟩
theorem AS.base (h : AS w0 g A c b w d wc q lv l) : ∀ k, lv.ownBlock = some k → w.heap.size + 2 ≤ k := Kd.R_base h.own
theorem AS.vbg (h : AS w0 g A c b w d wc q lv l) {w3 : World} (hg3 : wc.grownBy w3 lv.ownBlock) : w3.cell? ⟨w.heap.size + 1, 3, none⟩ = some lv ∧ w3.frozen? ⟨w.heap.size + 1, 3, none⟩ = false := by
 have hb := blk_grown h.vb hg3 (fun e => by have := h.base _ e.symm; omega);exact ⟨(blk4 hb).2.2.2, bfz hb 3⟩
theorem AS.appended (h : AS w0 g A c b w d wc q lv l) (hg : g < w.heap.size) {w3 : World} {v1 : Value} {v : Js.Val} (hR3 : k27.R 27 w3 (w.heap.size + 2) (fun _ => True) v1 (toSs l ++ [toS v])) (hg3 : wc.grownBy w3 lv.ownBlock) :
  AS w0 g A c b w d (w3.setCell ⟨w.heap.size + 1, 3, none⟩ v1) q v1 (l ++ [v]) := by
 have hge : w0.heap.size ≤ w.heap.size := Nat.le_trans h.rs.ge (Nat.le_of_lt hg)
 have hne : ∀ i, i < w.heap.size + 2 → some i ≠ lv.ownBlock := fun i hi e => by have := h.base _ e.symm; omega
 have hrs : RS w0 g A c b w3 q d := h.rs.grown hg3 (hne g (by omega)) (h.rs.bel.grown hg3 (Nat.le_trans hge h.kb.1) (fun k hk => by have := h.base k hk; omega))
 have hkb : Kbt w w3 g none := by
  refine h.kb.trans (Kbt.of_grown hg3 g) ?_
  cases hv : lv.ownBlock with
  | none => exact .inl rfl
  | some k => exact .inr ⟨k, rfl, by have := h.base k hv; omega⟩
 refine ⟨hrs.far (q := ⟨w.heap.size + 1, 3, none⟩) (by show g ≠ w.heap.size + 1; omega) (by show w0.heap.size ≤ w.heap.size + 1; omega) v1,
  keep_far (p := ⟨w.heap.size + 1, 3, none⟩) hkb (by show w.heap.size ≤ w.heap.size + 1; omega) v1,
  blk_far (blk_grown h.zb hg3 (hne _ (by omega))) (p := ⟨w.heap.size + 1, 3, none⟩) (by show w.heap.size ≠ w.heap.size + 1; omega) v1,
  blk_set (blk_grown h.vb hg3 (hne _ (by omega))) 3 v1, ?_⟩
 rw [toSs_snoc];exact R_st hR3 (by omega) 3 v1
end
theorem info_25 : (Tryd.prog.info? 27).map (fun i => (i.zero, i.size, i.bytes)) = some (some (.agg #[(.int .i64 0), (.string ⟨#[]⟩), (.slice none 0 0), (.slice none 0 0)]), 4, 72) := by kernel_rfl
def ValueOK (j : Nat) : Prop := ∀ (w0 : World) (g : Nat) (A : Option Addr) (c : Nat) (b : List Int) (w : World) (p d : Nat) (o : Js.Out Js.Val), Bytes b → RS w0 g A c b w p d → p ≤ b.length → b.length ≤ c → d ≤ 64 → Js.value b j d p = some o →
 Calls Tryd.prog 59 #[.pointer (some ⟨g, 0, none⟩)] w (Post w0 g A c b w d (VVal w.heap.size) o)
theorem law_false {P : Program} {ops : Array Oper} {o : Oper} {a : Act} {w : World} {K : Act → World → Prop} {Q : Exit → Act → World → Prop} {E : Prop} (hf : Hid False) (v : Value) (_hK : K (a.put o.dst v) w) :
  if Region.wanted o (yielded ops a.tmps) = true then Oper.wp P o a w K Q else E := hf.out.elim
set_option maxRecDepth 100000 in
set_option maxHeartbeats 3200000 in
theorem array_calls {k : Nat} (ih : ∀ j, j < k → ValueOK j) {w0 : World} {g : Nat} {A : Option Addr} {c : Nat} {b : List Int} {w : World} {p d : Nat} {o : Js.Out Js.Val} (hb : Bytes b) (h : RS w0 g A c b w p d) (hp : p < b.length) (hbc : b.length ≤ c) (hd : d ≤ 64) (ho : Js.arr b k d p = some o) :
  Calls Tryd.prog 76 #[.pointer (some ⟨g, 0, none⟩)] w (Post w0 g A c b w d (VVal w.heap.size) o) := by
 have hsm := h.small;have hg := h.lt
 have hA0 : AS w0 g A c b w d ((w.alloc Z25).alloc (Z25k 5 (.slice none 0 0) (.slice none 0 0))) p (.slice none 0 0) [] :=
  ⟨(h.alloc _).alloc _, kal (kal (Kbt.refl _ _ _) _) _, blk_alloc (blk_new _ _) _, by have := blk_new (w.alloc Z25) (Z25k 5 (.slice none 0 0) (.slice none 0 0)); simpa using this, Kd.R_nil _ _ _ _ _⟩
 by_cases hde : 64 < d + 1
 ·obtain rfl : Js.Out.no p 13 = o := by simpa [Js.arr, Js.enter, hde] using ho
  have hen := enter_no hA0.rs (by omega) hde;clear ho;go_enter Tryd.func76, Tryd.ntmps76;go_wp2_with (go_at_call 97; refine hen.mono ?_; rintro e w' ⟨rfl, hB, hK⟩);refine ⟨rfl, ?_⟩;exact ⟨rfl, hB, hA0.kb.trans hK (.inl rfl)⟩
 ·have hen := enter_ok hA0.rs hp (by omega)
  have hq := Js.blank_le (b := b) (p := p + 1) (by omega);unfold Js.arr at ho;rw [show Js.enter b d p = .ok () (Js.blank b (p + 1)) by simp [Js.enter, hde]] at ho;simp only at ho;generalize Js.blank b (p + 1) = q at hen hq ho
  cases hx : b[q]? with
  | none =>
   rw [hx] at ho;obtain rfl : Js.Out.no q 11 = o := Option.some.inj ho;go_enter Tryd.func76, Tryd.ntmps76;go_wp2_with (go_at_call 97; refine hen.mono ?_; rintro e w1 ⟨rfl, hS, hK⟩);have hpk := peek_no hS hx;clear hx ho;go_wp2_with (go_at_call 74; refine hpk.mono ?_; rintro e w2 ⟨rfl, m, rfl⟩);refine ⟨rfl, ?_⟩;exact ⟨rfl, (hS.drewN _).bel, kdrN (hA0.kb.trans hK (.inl rfl)) _⟩
  | some x =>
   have hql : q < b.length := (List.getElem?_eq_some_iff.1 hx).1;rw [hx] at ho;simp only at ho;by_cases hc : x = 93
   ·rw [if_pos (by simpa using hc)] at ho
    obtain rfl : Js.Out.ok (Js.Val.mk 5 [] [] []) (q + 1) = o := Option.some.inj ho
    have hc' : (x == 93) = true := by simpa using hc
    clear ho hc;go_enter Tryd.func76, Tryd.ntmps76;go_wp2_with (go_at_call 97; refine hen.mono ?_; rintro e w1 ⟨rfl, hS, hK⟩);have hpk := peek_ok hS hx;have hA1 := hA0.step hg hS hK;obtain ⟨⟨z10, z11, z12, z13⟩, ⟨z20, z21, z22, z23⟩, y0, y1, y2, y3⟩ := hA1.cells;have g1 := hS.c1;have g2 := hS.c2;have f1 := hS.fr 1;have f2 := hS.fr 2;have hF := Lib.hid (fun m => (((hA1.drewN hg m).at1 hg rfl).at2 hg (d : Int)).stored hg (.int .i64 5) (.string ⟨#[]⟩) (.slice none 0 0) (.slice none 0 0));go_wp2_with (go_at_call 74; refine hpk.mono ?_; rintro e w2 ⟨rfl, m, rfl⟩);obtain ⟨hB, hRS, hKB, hR⟩ := hF.out m;generalize hwf : World.setCell _ _ _ = wf at hB hRS hKB hR ⊢;clear hwf;obtain ⟨c0, c1, c2, c3⟩ := blk4 hB;refine bodyPost_ret (v := .agg #[.int .i64 5, .string ⟨#[]⟩, .slice none 0 0, .slice none 0 0]) (by simp [results, Tryd.results76, go_sem, c0, c1, c2, c3]) rfl ?_;exact ⟨_, rfl, VVal.of _ _ (Js.Val.mk 5 [] [] []) (Kd.R_nil _ _ _ _ _) (Kd.R_nil _ _ _ _ _), hRS, hKB⟩
   ·rw [if_neg (by simpa using hc)] at ho
    have hc' : (x == 93) = false := by simpa using hc
    have ho1 := Lib.hid ho;clear ho hc;go_enter Tryd.func76, Tryd.ntmps76;go_wp2_with (go_at_call 97; refine hen.mono ?_; rintro e w1 ⟨rfl, hS, hK⟩);have hpk := peek_ok hS hx;have hA1 := hA0.step hg hS hK;clear hx hA0 hen h;go_wp2_with (go_at_call 74; refine hpk.mono ?_; rintro e w2 ⟨rfl, m, rfl⟩)
    go_loopg [] k (fun kq wc => ∃ (q : Nat) (lv : Value) (l : List Js.Val), Hid (Js.items b kq (d + 1) l q = some o) ∧ q ≤ b.length ∧ l.length ≤ q ∧ kq ≤ k ∧ AS w0 g A c b w ((d : Int) + 1) wc q lv l)
    case atStart => exact ⟨q, _, [], ho1, by omega, by simp, Nat.le_refl _, hA1.drewN hg m⟩
    case round =>
     clear ho1 hA1 hpk hS hK;obtain ⟨q, lv, l, ho2, hql, hlq, hkk, hA⟩ := hrel
     cases gk with
     | zero => exact absurd ho2.out (by simp [Js.items])
     | succ j =>
      cases hv : Js.value b j (d + 1) q with
      | none => exact absurd ho2.out (by simp [Js.items, hv])
      | some ov =>
       have hV := ih j (by omega) w0 g A c b wr.drew q (d + 1) ov hb ((hA.drew hg).rs.to rfl (by omega)) hql hbc (by omega) hv
       obtain ⟨hc1, hc2⟩ : wr.cell? ⟨w.heap.size + 1, 3, none⟩ = some lv ∧ wr.frozen? ⟨w.heap.size + 1, 3, none⟩ = false := ⟨hA.cells.2.1.2.2.2, bfz hA.vb 3⟩
       cases ov with
       | no y e =>
        obtain rfl : Js.Out.no y e = o := by have := ho2.out; simpa [Js.items, hv] using this
        clear hv ho2
        go_wp2_with fail
        go_cut [] (fun wc => False)
        case first =>
         have hAd := hA.drew hg
         go_region_law (first
          | (go_simp; go_at_call 59; refine hV.mono ?_; intro e2 w2 hh; rcases e2 with u | ch | _; rotate_left; (focus (obtain ⟨hh1, hB2, hK2⟩ := hh; cases hh1; refine ⟨rfl, ?_⟩; exact ⟨rfl, hB2, hAd.kb.trans hK2 (.inl rfl)⟩)); (focus (exact absurd hh.1 (by simp))); have hf : Hid False := Lib.hid (by have := hh.1; cases this); clear hh; obtain rfl : u = .agg #[.int .i64 0, .string ⟨#[]⟩, .slice none 0 0, .slice none 0 0] := hf.out.elim; have hc3 : w2.cell? ⟨w.heap.size + 1, 3, none⟩ = some (.slice none 0 0) := hf.out.elim; have hc5 : ∀ x, (w2.alloc x).cell? ⟨w.heap.size + 1, 3, none⟩ = some (.slice none 0 0) := hf.out.elim; have hc4 : w2.frozen? ⟨w.heap.size + 1, 3, none⟩ = false := hf.out.elim; have hc6 : ∀ x, (w2.alloc x).frozen? ⟨w.heap.size + 1, 3, none⟩ = false := hf.out.elim)
          | (refine law_false hf (.slice none 0 0) ?_))
         all_goals exact hf.out.elim
        case rest => exact hcut.elim
       | ok v r =>
        have hvl := Js.value_le hv
        have ho3 : Hid (some o = match Js.comma b 93 r with
          | .no x e => some (.no x e)
          | .ok true q => Js.items b j (d + 1) (l ++ [v]) q
          | .ok false q => some (.ok (.mk 5 [] [] (l ++ [v])) q)) := by have := ho2.out; show _ = _; rw [← this]; simp only [Js.items, hv]; rfl
        clear hv ho2;have hbs := AS.base hA;have hlt := Kd.R_lt hA.own
        go_wp2_with fail
        go_cut [] (fun wc => ∃ lv2, AS w0 g A c b w ((d : Int) + 1) wc r lv2 (l ++ [v]))
        case first =>
         have hAd := hA.drew hg
         go_region_law (first
          | (go_simp; go_at_call 59; refine hV.mono ?_; rintro e w2 ⟨u, rfl, ⟨x0, x1, v2, v3, rfl, hM, _⟩, hS2, hK2⟩; have hA2 := AS.step hAd hg hS2 hK2; have hc3 := hA2.cells.2.1.2.2.2; have hc5 := (fun x => (hA2.alloc hg x).cells.2.1.2.2.2); have hc4 := bfz hA2.vb 3)
          | (refine Kd.R_append_step k27 (w0 := w2) (w.heap.size + 2) (by rfl) (.tmp 26) (.tmp 29) 25 27 _ 72 rfl Tryd.underlying25 info_25 rfl (by decide) (by decide) lv (toSs l) (toS v) [.int .i64 x0, .string x1, v2, v3] (fun _ => True) (fun k => wr.heap.size ≤ k) rfl (by first | rfl | simp) (k27.M_lower (show w.heap.size + 2 ≤ wr.heap.size by have := blk_lt hA.vb; omega) (k27.M_mono (fun k hk => hk.2.1) (k27.M_bound hM))) (fun k hk => ⟨trivial, fun e => by have := hlt k e.symm; omega⟩) (fun _ _ => trivial) hA2.own (Below.refl _ _) (by have := blk_lt hA2.vb; omega) (by rw [toSs_length]; omega) ?_; intro v1 w3 hR3 hB3 hg3 hat3; obtain ⟨hS3, hS4⟩ := hA2.vbg hg3; obtain ⟨A1, n1, c1, rfl⟩ : ∃ A n c, v1 = .slice A n c := (by obtain ⟨A, c, e⟩ := Kd.R_slice hR3; exact ⟨_, _, _, e⟩)))
         all_goals
          go_wp2_with fail
          go_meet
          exact ⟨_, hA2.appended hg hR3 hg3⟩
        case rest =>
         obtain ⟨lv2, hA2⟩ := hcut;clear hA hV hc1 hc2 hbs hlt;have hcc := comma_calls (p := r) (d := d + 1) 93 (hA2.rs.to rfl (by omega)) (by omega) (by omega)
         cases hcm : Js.comma b 93 r with
         | no y e =>
          rw [hcm] at hcc
          obtain rfl : o = Js.Out.no y e := by have := ho3.out; rw [hcm] at this; exact Option.some.inj this
          clear hcm ho3;go_wp2_with (go_at_call 98; refine hcc.mono ?_; rintro e2 w2 ⟨rfl, hB2, hK2⟩);refine ⟨rfl, ?_⟩;exact ⟨rfl, hB2, hA2.kb.trans hK2 (.inl rfl)⟩
         | ok t r2 =>
          have hcl := Js.comma_le hvl.2 hcm
          cases t with
          | true =>
           rw [hcm] at hcc
           have ho4 : Hid (Js.items b j (d + 1) (l ++ [v]) r2 = some o) := by have := ho3.out; rw [hcm] at this; exact this.symm
           clear hcm ho3;go_wp2_with (go_at_call 98; refine hcc.mono ?_; rintro e2 w2 ⟨rfl, hS2, hK2⟩)
           go_roundg j
           case measure => omega
           exact ⟨r2, lv2, _, ho4, by omega, by simp; omega, by omega, hA2.step hg (hS2.to rfl (by omega)) hK2⟩
          | false =>
           rw [hcm] at hcc
           obtain rfl : o = Js.Out.ok (Js.Val.mk 5 [] [] (l ++ [v])) r2 := by have := ho3.out; rw [hcm] at this; exact Option.some.inj this
           clear hcm ho3
           obtain ⟨A1, n1, ca, rfl⟩ : ∃ A n c, lv2 = .slice A n c := (by obtain ⟨A, c, e⟩ := Kd.R_slice hA2.own; exact ⟨_, _, _, e⟩)
           go_wp2_with (go_at_call 98; refine hcc.mono ?_; rintro e2 w2 ⟨rfl, hS2, hK2⟩; have hA3 := hA2.step hg hS2 hK2; obtain ⟨⟨z10, z11, z12, z13⟩, ⟨z20, z21, z22, z23⟩, y0, y1, y2, y3⟩ := hA3.cells; have hF := Lib.hid (hA3.stored hg (.int .i64 5) (.string ⟨#[]⟩) (.slice none 0 0) (.slice A1 n1 ca)));obtain ⟨hB, hRS, hKB, hR⟩ := hF.out;generalize hwf : World.setCell _ _ _ = wf at hB hRS hKB hR ⊢;clear hwf;obtain ⟨c0, c1, c2, c3⟩ := blk4 hB;refine bodyPost_ret (v := .agg #[.int .i64 5, .string ⟨#[]⟩, .slice none 0 0, .slice A1 n1 ca]) (by simp [results, Tryd.results76, go_sem, c0, c1, c2, c3]) rfl ?_;exact ⟨_, rfl, VVal.of _ _ (Js.Val.mk 5 [] [] (l ++ [v])) (Kd.R_nil _ _ _ _ _) (Kd.R_mono (Kd.R_lower hR (Nat.le_add_right _ 2)) (fun k _ => by simp [Value.ownBlock])), hRS.to rfl (by omega), hKB⟩
end Go.Proofs.YteighppcdpaekaaDoor.Rd
end
section
namespace Go.Proofs.YteighppcdpaekaaDoor.Rd
open Go.RowKit Go.Proofs.YteighppcdpaekaaDoorW.PrintWords
open Go.Proofs.YteighppcdpaekaaDoor Go.Proofs.YteighppcdpaekaaDoor.P
open Go.Maps (Keyed IsMap)
theorem strOfNums_inj {x y : List Int} (hx : Bytes x) (hy : Bytes y) (h : strOfNums x = strOfNums y) : x = y := by
 have h1 : (strOfNums x).data.toList = (strOfNums y).data.toList := by rw [h]
 rw [strOfNums_data, strOfNums_data] at h1;clear h
 induction x generalizing y with
 | nil => cases y with
  | nil => rfl
  | cons c r => simp at h1
 | cons a r ih => cases y with
  | nil => simp at h1
  | cons c s =>
   simp only [List.map_cons, List.cons.injEq] at h1;have ha := hx a (List.mem_cons_self ..);have hc := hy c (List.mem_cons_self ..)
   have h2 : a = c := by
    have := congrArg UInt8.toNat h1.1
    simp at this
    omega
   rw [h2, ih (fun z hz => hx z (List.mem_cons_of_mem _ hz)) (fun z hz => hy z (List.mem_cons_of_mem _ hz)) h1.2]
def Sees (D : DataW Unit) (ks : List (List Int)) : Prop := IsMap D ∧ (∀ x ∈ ks, Bytes x) ∧ ∀ x, Bytes x → D.atKey (.string (strOfNums x).data.toList) (.lit (.int .i64 0)) = .lit (.int .i64 (if x ∈ ks then 1 else 0))
theorem Sees.nil : Sees (.map []) [] := ⟨⟨[], rfl⟩, by simp, fun x _ => rfl⟩
theorem Sees.put {D : DataW Unit} {ks : List (List Int)} {x : List Int} (h : Sees D ks) (hx : Bytes x) : Sees (D.put (.string (strOfNums x).data.toList) (.lit (.int .i64 1))) (ks ++ [x]) := by
 refine ⟨h.1.put _ _, ?_, fun y hy => ?_⟩
 ·intro z hz
  rcases List.mem_append.1 hz with hz | hz
  ·exact h.2.1 z hz
  ·simp at hz; subst hz; exact hx
 ·by_cases he : y = x
  ·subst he
   rw [Maps.atKey_put_same h.1 (show WideAt.IsKeyLit (.string (strOfNums y).data.toList) from trivial)]
   simp
  ·rw [Maps.atKey_put_other, h.2.2 y hy]
   ·simp [he]
   ·intro e
    injection e with e1
    apply he
    apply strOfNums_inj hy hx
    have : (strOfNums y).data = (strOfNums x).data := by rw [← Array.toList_inj]; exact e1
    exact ByteArray.ext this
structure OS (w0 : World) (g : Nat) (A : Option Addr) (c : Nat) (b : List Int) (w : World) (mb : Nat) (d : Int) (wc : World) (q : Nat) (kc lc kv lv : Value) (D : DataW Unit) (n : Nat) (ks : List (List Int)) (l : List Js.Val) : Prop where
 rs : RS w0 g A c b wc q d
 kb : Kbt w wc g none
 zb : wc.heap[w.heap.size]? = some Z25
 vb : wc.heap[w.heap.size + 1]? = some (.cells #[.int .i64 6, .string ⟨#[]⟩, kc, lc] 27 (0, 0))
 mp : wc.ownsMap Tryd.prog 9 (plainElem Tryd.prog 3) mb n D
 own2 : Kd.string.R 9 wc (w.heap.size + 2) (fun _ => True) kv (ks.map strOfNums)
 own : k27.R 27 wc (w.heap.size + 2) (fun k => True ∧ some k ≠ kv.ownBlock) lv (toSs l)
theorem keep_map {H : Type} {w w2 : World} {g mb n : Nat} {P : Program} {k : TypeId} {R : Value → Option (DataW H × List MemPlace)} {D : DataW H} (h : w.ownsMap P k R mb n D) (hK : Kbt w w2 g none) (hne : mb ≠ g) : w2.ownsMap P k R mb n D := by
 have hlt := h.lt;obtain ⟨es, cl, hb, F⟩ := h;exact ⟨es, cl, (hK.2 mb hlt hne (by simp)).trans hb, F⟩
theorem map_set {H : Type} {w : World} {mb n : Nat} {P : Program} {k : TypeId} {R : Value → Option (DataW H × List MemPlace)} {D : DataW H} (h : w.ownsMap P k R mb n D) (p : Addr) (v : Value) (hne : mb ≠ p.block) : (w.setCell p v).ownsMap P k R mb n D := by
 obtain ⟨es, cl, hb, F⟩ := h;exact ⟨es, cl, (Below.heap_setCell w p v mb hne).trans hb, F⟩
theorem map_ne {H : Type} {w : World} {mb n j : Nat} {P : Program} {k : TypeId} {R : Value → Option (DataW H × List MemPlace)} {D : DataW H} (h : w.ownsMap P k R mb n D) {cells : Array Value} {t : TypeId} {z : Nat × Nat} (hb : w.heap[j]? = some (.cells cells t z)) : j ≠ mb := by
 rintro rfl;obtain ⟨es, cl, hb2, _⟩ := h;rw [hb2] at hb;cases hb
section
variable {w0 : World} {g : Nat} {A : Option Addr} {c : Nat} {b : List Int} {w : World} {mb : Nat} {d d2 : Int} {wc w2 : World} {q r : Nat} {kc lc kv lv v1 : Value} {D : DataW Unit} {n : Nat} {ks : List (List Int)} {l : List Js.Val}
theorem OS.step (h : OS w0 g A c b w mb d wc q kc lc kv lv D n ks l) (hg : g < w.heap.size) (hS : RS w0 g A c b w2 r d2) (hK : Kbt wc w2 g none) : OS w0 g A c b w mb d2 w2 r kc lc kv lv D n ks l :=
 ⟨hS, h.kb.trans hK (.inl rfl), hK.blk h.zb (by omega) (by simp), hK.blk h.vb (by omega) (by simp), keep_map h.mp hK (fun e => map_ne h.mp h.rs.blk e.symm),
  Kd.R_mono (Kd.R_keep (Kd.R_bound h.own2) hK (fun k hk => by have := hk.2.1; omega)) (fun _ _ => trivial), Kd.R_mono (Kd.R_keep (Kd.R_bound h.own) hK (fun k hk => by have := hk.2.1; omega)) (fun _ hk => hk.1)⟩
theorem OS.drewN (h : OS w0 g A c b w mb d wc q kc lc kv lv D n ks l) (hg : g < w.heap.size) (m : Nat) : OS w0 g A c b w mb d (wc.drewN m) q kc lc kv lv D n ks l := h.step hg (h.rs.drewN m) (kdrN (Kbt.refl _ _ _) m)
theorem OS.drew (h : OS w0 g A c b w mb d wc q kc lc kv lv D n ks l) (hg : g < w.heap.size) : OS w0 g A c b w mb d wc.drew q kc lc kv lv D n ks l := h.step hg h.rs.drew (keep_drew (Kbt.refl _ _ _))
theorem OS.alloc (h : OS w0 g A c b w mb d wc q kc lc kv lv D n ks l) (hg : g < w.heap.size) (x : Obj) : OS w0 g A c b w mb d (wc.alloc x) q kc lc kv lv D n ks l := h.step hg (h.rs.alloc x) (kal (Kbt.refl _ _ _) x)
theorem OS.at1 (h : OS w0 g A c b w mb d wc q kc lc kv lv D n ks l) (hg : g < w.heap.size) {x : Int} {r : Nat} (hx : x = (r : Int)) : OS w0 g A c b w mb d (wc.setCell ⟨g, 1, none⟩ (.int .i64 x)) r kc lc kv lv D n ks l :=
 h.step hg ((h.rs.set1 _).to hx rfl) ((Kbt.refl _ _ _).set_ _ _)
theorem OS.ge (h : OS w0 g A c b w mb d wc q kc lc kv lv D n ks l) (hg : g < w.heap.size) : w0.heap.size ≤ w.heap.size := Nat.le_trans h.rs.ge (Nat.le_of_lt hg)
theorem OS.grown0 (h : OS w0 g A c b w mb d wc q kc lc kv lv D n ks l) (hg : g < w.heap.size) {row : Option Nat} (hgr : wc.grownBy w2 row) (hr : ∀ k, row = some k → w.heap.size + 2 ≤ k) :
  RS w0 g A c b w2 q d ∧ Kbt w w2 g none ∧ w2.heap[w.heap.size]? = some Z25 ∧ w2.heap[w.heap.size + 1]? = some (.cells #[.int .i64 6, .string ⟨#[]⟩, kc, lc] 27 (0, 0)) := by
 have hge := h.ge hg
 have hne : ∀ i, i < w.heap.size + 2 → some i ≠ row := fun i hi e => by have := hr _ e.symm; omega
 refine ⟨h.rs.grown hgr (hne g (by omega)) (h.rs.bel.grown hgr (Nat.le_trans hge h.kb.1) (fun k hk => by have := hr k hk; omega)), ?_, blk_grown h.zb hgr (hne _ (by omega)), blk_grown h.vb hgr (hne _ (by omega))⟩;refine h.kb.trans (Kbt.of_grown hgr g) ?_
 cases hv : row with
 | none => exact .inl rfl
 | some k => exact .inr ⟨k, rfl, by have := hr k hv; omega⟩
theorem OS.put (h : OS w0 g A c b w mb d wc q kc lc kv lv D n ks l) (hg : g < w.heap.size) (hmb : w.heap.size + 2 ≤ mb) {D2 : DataW Unit} {n2 : Nat} (hm : w2.ownsMap Tryd.prog 9 (plainElem Tryd.prog 3) mb n2 D2) (hgr : wc.grownBy w2 (some mb)) : OS w0 g A c b w mb d w2 q kc lc kv lv D2 n2 ks l := by
 obtain ⟨h1, h2, h3, h4⟩ := h.grown0 hg hgr (fun k hk => by cases hk; exact hmb);refine ⟨h1, h2, h3, h4, hm, Kd.R_mono (Kd.R_grown (Kd.R_bound h.own2) hgr ?_) (fun _ _ => trivial), Kd.R_mono (Kd.R_grown (Kd.R_bound h.own) hgr ?_) (fun _ hk => hk.1)⟩
 ·rintro k ⟨_, _, _, _, _, _, hc⟩ e
  exact map_ne h.mp hc (Option.some.inj e)
 ·rintro k ⟨_, _, _, _, _, _, hc⟩ e
  exact map_ne h.mp hc (Option.some.inj e)
theorem OS.map_row {x : Value} {α : Type} {kd : Kd α} {e base : Nat} {ok : Nat → Prop} {xs : List α} (h : OS w0 g A c b w mb d wc q kc lc kv lv D n ks l) (hR : kd.R e wc base ok x xs) : some mb ≠ x.ownBlock := fun e => by
 obtain ⟨cells, hc⟩ := Kd.R_typed hR mb e.symm;exact map_ne h.mp hc rfl
theorem OS.appK (h : OS w0 g A c b w mb d wc q kc lc kv lv D n ks l) (hg : g < w.heap.size) {key : List Int} (hR : Kd.string.R 9 w2 (w.heap.size + 2) (fun _ => True) v1 (ks.map strOfNums ++ [strOfNums key])) (hgr : wc.grownBy w2 kv.ownBlock) (hat : v1.ownBlock = kv.ownBlock ∨ ∃ b, v1.ownBlock = some b ∧ wc.heap.size ≤ b) :
  OS w0 g A c b w mb d w2 q kc lc v1 lv D n (ks ++ [key]) l := by
 obtain ⟨h1, h2, h3, h4⟩ := h.grown0 hg hgr (Kd.R_base h.own2);exact ⟨h1, h2, h3, h4, h.mp.kept hgr (h.map_row h.own2), by rw [List.map_append]; exact hR, Kd.R_after h.own hgr hat⟩
theorem OS.appL (h : OS w0 g A c b w mb d wc q kc lc kv lv D n ks l) (hg : g < w.heap.size) {v : Js.Val} (hR : k27.R 27 w2 (w.heap.size + 2) (fun k => True ∧ some k ≠ kv.ownBlock) v1 (toSs l ++ [toS v])) (hgr : wc.grownBy w2 lv.ownBlock) :
  OS w0 g A c b w mb d w2 q kc lc kv v1 D n ks (l ++ [v]) := by
 obtain ⟨h1, h2, h3, h4⟩ := h.grown0 hg hgr (Kd.R_base h.own);exact ⟨h1, h2, h3, h4, h.mp.kept hgr (h.map_row h.own), Kd.R_grown2 h.own2 rfl hgr (fun k hk e => (h.own.1 k hk).2 e), by rw [toSs_snoc]; exact hR⟩
theorem OS.far (h : OS w0 g A c b w mb d wc q kc lc kv lv D n ks l) (hg : g < w.heap.size) (hmb : w.heap.size + 2 ≤ mb) (i j : Nat) (hi : i = w.heap.size ∨ i = w.heap.size + 1) (x : Value) :
  RS w0 g A c b (wc.setCell ⟨i, j, none⟩ x) q d ∧ Kbt w (wc.setCell ⟨i, j, none⟩ x) g none ∧ (wc.setCell ⟨i, j, none⟩ x).ownsMap Tryd.prog 9 (plainElem Tryd.prog 3) mb n D ∧
  Kd.string.R 9 (wc.setCell ⟨i, j, none⟩ x) (w.heap.size + 2) (fun _ => True) kv (ks.map strOfNums) ∧ k27.R 27 (wc.setCell ⟨i, j, none⟩ x) (w.heap.size + 2) (fun k => True ∧ some k ≠ kv.ownBlock) lv (toSs l) := by
 have hge := h.ge hg
 have hi2 : g ≠ i ∧ w.heap.size ≤ i ∧ i < w.heap.size + 2 := by omega
 refine ⟨h.rs.far (q := ⟨i, j, none⟩) hi2.1 (by show w0.heap.size ≤ i; omega) x, keep_far (p := ⟨i, j, none⟩) h.kb hi2.2.1 x, map_set h.mp ⟨i, j, none⟩ x (by show mb ≠ i; omega), ?_, ?_⟩
 ·exact Kd.R_mono (Kd.R_far (p := ⟨i, j, none⟩) (Kd.R_bound h.own2) (fun k hk => by have h2 := hk.2.1; show k ≠ i; omega) x) (fun _ _ => trivial)
 ·exact Kd.R_mono (Kd.R_far (p := ⟨i, j, none⟩) (Kd.R_bound h.own) (fun k hk => by have h2 := hk.2.1; show k ≠ i; omega) x) (fun _ hk => hk.1)
theorem OS.setK (h : OS w0 g A c b w mb d wc q kc lc kv lv D n ks l) (hg : g < w.heap.size) (hmb : w.heap.size + 2 ≤ mb) (x : Value) : OS w0 g A c b w mb d (wc.setCell ⟨w.heap.size + 1, 2, none⟩ x) q x lc kv lv D n ks l := by
 obtain ⟨h1, h2, h3, h4, h5⟩ := h.far hg hmb (w.heap.size + 1) 2 (.inr rfl) x;exact ⟨h1, h2, blk_far h.zb (p := ⟨w.heap.size + 1, 2, none⟩) (by show w.heap.size ≠ w.heap.size + 1; omega) x, blk_set h.vb 2 x, h3, h4, h5⟩
theorem OS.setL (h : OS w0 g A c b w mb d wc q kc lc kv lv D n ks l) (hg : g < w.heap.size) (hmb : w.heap.size + 2 ≤ mb) (x : Value) : OS w0 g A c b w mb d (wc.setCell ⟨w.heap.size + 1, 3, none⟩ x) q kc x kv lv D n ks l := by
 obtain ⟨h1, h2, h3, h4, h5⟩ := h.far hg hmb (w.heap.size + 1) 3 (.inr rfl) x;exact ⟨h1, h2, blk_far h.zb (p := ⟨w.heap.size + 1, 3, none⟩) (by show w.heap.size ≠ w.heap.size + 1; omega) x, blk_set h.vb 3 x, h3, h4, h5⟩
theorem OS.cells (h : OS w0 g A c b w mb d wc q kc lc kv lv D n ks l) :
  (wc.cell? ⟨w.heap.size, 0, none⟩ = some (.int .i64 0) ∧ wc.cell? ⟨w.heap.size, 1, none⟩ = some (.string ⟨#[]⟩) ∧ wc.cell? ⟨w.heap.size, 2, none⟩ = some (.slice none 0 0) ∧ wc.cell? ⟨w.heap.size, 3, none⟩ = some (.slice none 0 0)) ∧
  (wc.cell? ⟨w.heap.size + 1, 0, none⟩ = some (.int .i64 6) ∧ wc.cell? ⟨w.heap.size + 1, 1, none⟩ = some (.string ⟨#[]⟩) ∧ wc.cell? ⟨w.heap.size + 1, 2, none⟩ = some kc ∧ wc.cell? ⟨w.heap.size + 1, 3, none⟩ = some lc) ∧
  (wc.frozen? ⟨w.heap.size, 0, none⟩ = false ∧ wc.frozen? ⟨w.heap.size, 1, none⟩ = false ∧ wc.frozen? ⟨w.heap.size, 2, none⟩ = false ∧ wc.frozen? ⟨w.heap.size, 3, none⟩ = false) ∧
  wc.frozen? ⟨w.heap.size + 1, 2, none⟩ = false ∧ wc.frozen? ⟨w.heap.size + 1, 3, none⟩ = false :=
 ⟨blk4 h.zb, blk4 h.vb, ⟨bfz h.zb 0, bfz h.zb 1, bfz h.zb 2, bfz h.zb 3⟩, bfz h.vb 2, bfz h.vb 3⟩
theorem OS.stored (h : OS w0 g A c b w mb d wc q kc lc kv lv D n ks l) (hg : g < w.heap.size) (v0 v1 v2 v3 : Value) :
  let wf := (((wc.setCell ⟨w.heap.size, 0, none⟩ v0).setCell ⟨w.heap.size, 1, none⟩ v1).setCell ⟨w.heap.size, 2, none⟩ v2).setCell ⟨w.heap.size, 3, none⟩ v3
  wf.heap[w.heap.size]? = some (.cells #[v0, v1, v2, v3] 27 (0, 0)) ∧ RS w0 g A c b wf q d ∧ Kbt w wf g none ∧ Kd.string.R 9 wf (w.heap.size + 2) (fun _ => True) kv (ks.map strOfNums) ∧ k27.R 27 wf (w.heap.size + 2) (fun k => some k ≠ kv.ownBlock) lv (toSs l) := by
 have hS := St.stored (w := w) (wc := wc) ⟨h.rs, h.kb, h.zb⟩ hg v0 v1 v2 v3
 have hst : ∀ (W : World) (j : Nat) (u : Value), Kd.string.R 9 W (w.heap.size + 2) (fun _ => True) kv (ks.map strOfNums) → Kd.string.R 9 (W.setCell ⟨w.heap.size, j, none⟩ u) (w.heap.size + 2) (fun _ => True) kv (ks.map strOfNums) := fun W j u hR =>
  Kd.R_mono (Kd.R_far (p := ⟨w.heap.size, j, none⟩) (Kd.R_bound hR) (fun k hk => by have h2 := hk.2.1; show k ≠ w.heap.size; omega) u) (fun _ _ => trivial)
 have hst2 : ∀ (W : World) (j : Nat) (u : Value), k27.R 27 W (w.heap.size + 2) (fun k => some k ≠ kv.ownBlock) lv (toSs l) → k27.R 27 (W.setCell ⟨w.heap.size, j, none⟩ u) (w.heap.size + 2) (fun k => some k ≠ kv.ownBlock) lv (toSs l) := fun W j u hR =>
  Kd.R_mono (Kd.R_far (p := ⟨w.heap.size, j, none⟩) (Kd.R_bound hR) (fun k hk => by have h2 := hk.2.1; show k ≠ w.heap.size; omega) u) (fun _ hk => hk.1)
 have ho : k27.R 27 wc (w.heap.size + 2) (fun k => some k ≠ kv.ownBlock) lv (toSs l) := Kd.R_mono h.own (fun _ hk => hk.2);exact ⟨hS.1, hS.2.1, hS.2.2, hst _ _ _ (hst _ _ _ (hst _ _ _ (hst _ _ _ h.own2))), hst2 _ _ _ (hst2 _ _ _ (hst2 _ _ _ (hst2 _ _ _ ho)))⟩
end
end Go.Proofs.YteighppcdpaekaaDoor.Rd
end
section
namespace Go.Proofs.YteighppcdpaekaaDoor.Rd
open Go.RowKit Go.Proofs.YteighppcdpaekaaDoorW.PrintWords
open Go.Proofs.YteighppcdpaekaaDoor Go.Proofs.YteighppcdpaekaaDoor.P
open Go.Maps (Keyed IsMap)
theorem law9 : Keyed Tryd.prog 9 := Maps.string_keyed Tryd.underlying9
theorem zero3 (w : World) : (zeroValue 3).run Tryd.prog w = .ok (.int .i64 0) w := by kernel_rfl
theorem lit_inj {x y : Int} (h : (DataW.lit (.int .i64 x) : DataW Unit) = .lit (.int .i64 y)) : x = y := by
 injection h with h
 injection h
theorem key_of {key : List Int} (h : key.length ≤ 100000000000) : keyOf Tryd.prog 9 (.string (strOfNums key)) = some (.string (strOfNums key).data.toList) :=
 WideMaps.keyOf_string_mk Tryd.underlying9 (by rw [strOfNums_size]; unfold maxLen; omega)
theorem info_9 : (Tryd.prog.info? 9).map (fun i => (i.zero, i.size, i.bytes)) = some (some (.string ⟨#[]⟩), 1, 16) := by kernel_rfl
structure OP (w0 : World) (g : Nat) (A : Option Addr) (c : Nat) (b : List Int) (w : World) (d : Int) (wc : World) (q : Nat) : Prop where
 rs : RS w0 g A c b wc q d
 kb : Kbt w wc g none
 zb : wc.heap[w.heap.size]? = some Z25
 vb : wc.heap[w.heap.size + 1]? = some (Z25k 6 (.slice none 0 0) (.slice none 0 0))
section
variable {w0 : World} {g : Nat} {A : Option Addr} {c : Nat} {b : List Int} {w : World} {d d2 : Int} {wc w2 : World} {q r : Nat}
theorem OP.step (h : OP w0 g A c b w d wc q) (hg : g < w.heap.size) (hS : RS w0 g A c b w2 r d2) (hK : Kbt wc w2 g none) : OP w0 g A c b w d2 w2 r :=
 ⟨hS, h.kb.trans hK (.inl rfl), hK.blk h.zb (by omega) (by simp), hK.blk h.vb (by omega) (by simp)⟩
theorem OP.drewN (h : OP w0 g A c b w d wc q) (hg : g < w.heap.size) (m : Nat) : OP w0 g A c b w d (wc.drewN m) q := h.step hg (h.rs.drewN m) (kdrN (Kbt.refl _ _ _) m)
theorem OP.at1 (h : OP w0 g A c b w d wc q) (hg : g < w.heap.size) {x : Int} (hx : x = (q : Int) + 1) : OP w0 g A c b w d (wc.setCell ⟨g, 1, none⟩ (.int .i64 x)) (q + 1) :=
 h.step hg ((h.rs.set1 _).to (by omega) rfl) ((Kbt.refl _ _ _).set_ _ _)
theorem OP.at2 (h : OP w0 g A c b w d wc q) (hg : g < w.heap.size) (x : Int) : OP w0 g A c b w x (wc.setCell ⟨g, 2, none⟩ (.int .i64 x)) q :=
 h.step hg (h.rs.set2 _) ((Kbt.refl _ _ _).set_ _ _)
theorem OP.os (h : OP w0 g A c b w d wc q) (hg : g < w.heap.size) : OS w0 g A c b w wc.heap.size d (wc.alloc (.map #[] 0)) q (.slice none 0 0) (.slice none 0 0) (.slice none 0 0) (.slice none 0 0) (.map []) 0 [] [] := by
 have h2 := h.step hg (h.rs.alloc (.map #[] 0)) (kal (Kbt.refl _ _ _) _);exact ⟨h2.rs, h2.kb, h2.zb, h2.vb, World.ownsMap_made _ _ _ _, Kd.R_nil _ _ _ _ _, Kd.R_nil _ _ _ _ _⟩
theorem OP.cells (h : OP w0 g A c b w d wc q) :
  (wc.cell? ⟨w.heap.size, 0, none⟩ = some (.int .i64 0) ∧ wc.cell? ⟨w.heap.size, 1, none⟩ = some (.string ⟨#[]⟩) ∧ wc.cell? ⟨w.heap.size, 2, none⟩ = some (.slice none 0 0) ∧ wc.cell? ⟨w.heap.size, 3, none⟩ = some (.slice none 0 0)) ∧
  (wc.cell? ⟨w.heap.size + 1, 0, none⟩ = some (.int .i64 6) ∧ wc.cell? ⟨w.heap.size + 1, 1, none⟩ = some (.string ⟨#[]⟩) ∧ wc.cell? ⟨w.heap.size + 1, 2, none⟩ = some (.slice none 0 0) ∧ wc.cell? ⟨w.heap.size + 1, 3, none⟩ = some (.slice none 0 0)) ∧
  (wc.frozen? ⟨w.heap.size, 0, none⟩ = false ∧ wc.frozen? ⟨w.heap.size, 1, none⟩ = false ∧ wc.frozen? ⟨w.heap.size, 2, none⟩ = false ∧ wc.frozen? ⟨w.heap.size, 3, none⟩ = false) :=
 ⟨blk4 h.zb, blk4 h.vb, bfz h.zb 0, bfz h.zb 1, bfz h.zb 2, bfz h.zb 3⟩
theorem OP.stored (h : OP w0 g A c b w d wc q) (hg : g < w.heap.size) (v0 v1 v2 v3 : Value) :
  let wf := (((wc.setCell ⟨w.heap.size, 0, none⟩ v0).setCell ⟨w.heap.size, 1, none⟩ v1).setCell ⟨w.heap.size, 2, none⟩ v2).setCell ⟨w.heap.size, 3, none⟩ v3
  wf.heap[w.heap.size]? = some (.cells #[v0, v1, v2, v3] 27 (0, 0)) ∧ RS w0 g A c b wf q d ∧ Kbt w wf g none :=
 St.stored (w := w) (wc := wc) ⟨h.rs, h.kb, h.zb⟩ hg v0 v1 v2 v3
end
set_option maxRecDepth 100000 in
set_option maxHeartbeats 3200000 in
theorem object_calls {k : Nat} (ih : ∀ j, j < k → ValueOK j) {w0 : World} {g : Nat} {A : Option Addr} {c : Nat} {b : List Int} {w : World} {p d : Nat} {o : Js.Out Js.Val} (hb : Bytes b) (h : RS w0 g A c b w p d) (hp : p < b.length) (hbc : b.length ≤ c) (hd : d ≤ 64) (ho : Js.obj b k d p = some o) :
  Calls Tryd.prog 75 #[.pointer (some ⟨g, 0, none⟩)] w (Post w0 g A c b w d (VVal w.heap.size) o) := by
 have hsm := h.small;have hg := h.lt;have hmm := @run_makeMap Tryd.prog
 have hA0 : OP w0 g A c b w d ((w.alloc Z25).alloc (Z25k 6 (.slice none 0 0) (.slice none 0 0))) p :=
  ⟨(h.alloc _).alloc _, kal (kal (Kbt.refl _ _ _) _) _, blk_alloc (blk_new _ _) _, by have := blk_new (w.alloc Z25) (Z25k 6 (.slice none 0 0) (.slice none 0 0)); simpa using this⟩
 by_cases hde : 64 < d + 1
 ·obtain rfl : Js.Out.no p 13 = o := by simpa [Js.obj, Js.enter, hde] using ho
  have hen := enter_no hA0.rs (by omega) hde;clear ho;go_enter Tryd.func75, Tryd.ntmps75;go_wp2_with (go_at_call 97; refine hen.mono ?_; rintro e w' ⟨rfl, hB, hK⟩);refine ⟨rfl, ?_⟩;exact ⟨rfl, hB, hA0.kb.trans hK (.inl rfl)⟩
 ·have hen := enter_ok hA0.rs hp (by omega)
  have hq := Js.blank_le (b := b) (p := p + 1) (by omega);unfold Js.obj at ho;rw [show Js.enter b d p = .ok () (Js.blank b (p + 1)) by simp [Js.enter, hde]] at ho;simp only at ho;generalize Js.blank b (p + 1) = q at hen hq ho
  cases hx : b[q]? with
  | none =>
   rw [hx] at ho;obtain rfl : Js.Out.no q 11 = o := Option.some.inj ho;go_enter Tryd.func75, Tryd.ntmps75;go_wp2_with (go_at_call 97; refine hen.mono ?_; rintro e w1 ⟨rfl, hS, hK⟩);have hpk := peek_no hS hx;clear hx ho;go_wp2_with (go_at_call 74; refine hpk.mono ?_; rintro e w2 ⟨rfl, m, rfl⟩);refine ⟨rfl, ?_⟩;exact ⟨rfl, (hS.drewN _).bel, kdrN (hA0.kb.trans hK (.inl rfl)) _⟩
  | some x =>
   have hql : q < b.length := (List.getElem?_eq_some_iff.1 hx).1;rw [hx] at ho;simp only at ho;by_cases hc : x = 125
   ·rw [if_pos (by simpa using hc)] at ho
    obtain rfl : Js.Out.ok (Js.Val.mk 6 [] [] []) (q + 1) = o := Option.some.inj ho
    have hc' : (x == 125) = true := by simpa using hc
    clear ho hc;go_enter Tryd.func75, Tryd.ntmps75;go_wp2_with (go_at_call 97; refine hen.mono ?_; rintro e w1 ⟨rfl, hS, hK⟩);have hpk := peek_ok hS hx;have hA1 := hA0.step hg hS hK;obtain ⟨⟨z10, z11, z12, z13⟩, ⟨z20, z21, z22, z23⟩, y0, y1, y2, y3⟩ := hA1.cells;have g1 := hS.c1;have g2 := hS.c2;have f1 := hS.fr 1;have f2 := hS.fr 2;have hF := Lib.hid (fun m => (((hA1.drewN hg m).at1 hg rfl).at2 hg (d : Int)).stored hg (.int .i64 6) (.string ⟨#[]⟩) (.slice none 0 0) (.slice none 0 0));go_wp2_with (go_at_call 74; refine hpk.mono ?_; rintro e w2 ⟨rfl, m, rfl⟩);obtain ⟨hB, hRS, hKB⟩ := hF.out m;generalize hwf : World.setCell _ _ _ = wf at hB hRS hKB ⊢;clear hwf;obtain ⟨c0, c1, c2, c3⟩ := blk4 hB;refine bodyPost_ret (v := .agg #[.int .i64 6, .string ⟨#[]⟩, .slice none 0 0, .slice none 0 0]) (by simp [results, Tryd.results75, go_sem, c0, c1, c2, c3]) rfl ?_;exact ⟨_, rfl, VVal.of _ _ (Js.Val.mk 6 [] [] []) (Kd.R_nil _ _ _ _ _) (Kd.R_nil _ _ _ _ _), hRS, hKB⟩
   ·rw [if_neg (by simpa using hc)] at ho
    have hc' : (x == 125) = false := by simpa using hc
    have ho1 := Lib.hid ho;clear ho hc;go_enter Tryd.func75, Tryd.ntmps75;go_wp2_with (go_at_call 97; refine hen.mono ?_; rintro e w1 ⟨rfl, hS, hK⟩);have hpk := peek_ok hS hx;have hA1 := hA0.step hg hS hK;clear hx hA0 hen h;go_wp2_with (go_at_call 74; refine hpk.mono ?_; rintro e w2 ⟨rfl, m, rfl⟩);have hO1 := (hA1.drewN hg m).os hg
    have hmb : w.heap.size + 2 ≤ w1.heap.size := by have := blk_lt hA1.vb; omega
    generalize hmbe : w1.heap.size = mb at hmb
    go_loopg [] k (fun kq wc => ∃ (q : Nat) (kv lv : Value) (D : DataW Unit) (n : Nat) (ks : List (List Int)) (l : List Js.Val), Hid (Js.pairs b kq (d + 1) ks l q = some o) ∧ Sees D ks ∧ q ≤ b.length ∧ l.length ≤ q ∧ ks.length ≤ q ∧ n ≤ q ∧ kq ≤ k ∧ OS w0 g A c b w mb ((d : Int) + 1) wc q kv lv kv lv D n ks l)
    case atStart => exact ⟨q, _, _, _, 0, [], [], ho1, Sees.nil, by omega, by simp, by simp, by simp, Nat.le_refl _, by subst hmbe; exact hO1⟩
    case round =>
     clear ho1 hA1 hpk hS hK hO1;obtain ⟨q, kv, lv, D, n, ks, l, ho2, hsee, hql, hlq, hkq, hnq, hkk, hO⟩ := hrel
     cases gk with
     | zero => exact absurd ho2.out (by simp [Js.pairs])
     | succ j =>
      have f0 := hO.rs.c1
      cases ht : Js.text b j q with
      | none => exact absurd ho2.out (by simp [Js.pairs, ht])
      | some ot =>
       have hT := text_calls hb hO.rs ht
       cases ot with
       | no y e =>
        obtain rfl : Js.Out.no y e = o := by have := ho2.out; simpa [Js.pairs, ht] using this
        clear ht ho2;go_wp2_with (go_at_call 77; refine hT.mono ?_; rintro e2 w2 ⟨rfl, hB2, hK2⟩);refine ⟨rfl, ?_⟩;exact ⟨rfl, hB2, hO.kb.trans hK2 (.inl rfl)⟩
       | ok key q1 =>
        have htl := Js.text_le ht;have htb := Js.text_bytes hb ht;have hkey := key_of (key := key) (by omega);have hat0 := hsee.2.2 key htb.1;by_cases hin : key ∈ ks
        ·obtain rfl : Js.Out.no q 23 = o := by have := ho2.out; simpa [Js.pairs, ht, hin] using this
         rw [if_pos hin] at hat0;clear ht ho2
         go_wp2_with (first
          | (go_at_call 77; refine hT.mono ?_; rintro e2 w2 ⟨u, rfl, rfl, hS2, hK2⟩; have hO2 := OS.step hO hg hS2 hK2; have f1 := hS2.fr 1; have g1 := hS2.c1)
          | (at_lookup; refine wpList_lookup_own_int _ rfl _ _ 147 rfl 9 3 .i64 law9 Tryd.underlying147 Tryd.underlying3 (zero3 _) mb n D rfl hO2.mp _ _ rfl hkey ?_; intro cv hat hwc; obtain rfl := lit_inj (hat0.symm.trans hat))
          | (go_at_call 60; refine (fail_calls 23 (hO2.at1 hg (x := (q : Int)) rfl).rs).mono ?_; rintro e2 w3 ⟨rfl, rfl⟩))
         refine ⟨rfl, ?_⟩;exact ⟨rfl, (hO2.at1 hg (x := (q : Int)) rfl).rs.bel, (hO2.at1 hg (x := (q : Int)) rfl).kb⟩
        ·rw [if_neg hin] at hat0
         have hsee2 := hsee.put htb.1
         have hbl : ∀ W, RS w0 g A c b W q1 ((d : Int) + 1) → Calls Tryd.prog 58 #[.pointer (some ⟨g, 0, none⟩)] W (fun e w' => e = .returned (.tuple #[]) ∧ RS w0 g A c b w' (Js.blank b q1) ((d : Int) + 1) ∧ Kbt W w' g none) := fun W h => blank_calls q1 h
         have hb1 := Js.blank_le (b := b) (p := q1) htl.2
         have ho3 : Hid (some o = match b[Js.blank b q1]? with
           | none => some (.no (Js.blank b q1) 11)
           | some c => if c == 58 then match Js.value b j (d + 1) (Js.blank b (Js.blank b q1 + 1)) with
             | none => none
             | some (.no x e) => some (.no x e)
             | some (.ok v q) => match Js.comma b 125 q with
              | .no x e => some (.no x e)
              | .ok true q => Js.pairs b j (d + 1) (ks ++ [key]) (l ++ [v]) q
              | .ok false q => some (.ok (.mk 6 [] (ks ++ [key]) (l ++ [v])) q)
             else some (.no (Js.blank b q1) 6)) := by
          have := ho2.out
          show _ = _
          rw [← this];simp only [Js.pairs, ht];rw [if_neg (by simpa using hin)]
          rfl
         clear ho2;generalize Js.blank b q1 = q2 at hbl hb1 ho3
         cases hx : b[q2]? with
         | none =>
          obtain rfl : o = Js.Out.no q2 11 := by have := ho3.out; rw [hx] at this; exact Option.some.inj this
          clear ho3
          go_wp2_with (first
           | (go_at_call 77; refine hT.mono ?_; rintro e2 w2 ⟨u, rfl, rfl, hS2, hK2⟩; have hO2 := OS.step hO hg hS2 hK2; have f1 := hS2.fr 1; have g1 := hS2.c1)
           | (at_lookup; refine wpList_lookup_own_int _ rfl _ _ 147 rfl 9 3 .i64 law9 Tryd.underlying147 Tryd.underlying3 (zero3 _) mb n D rfl hO2.mp _ _ rfl hkey ?_; intro cv hat hwc; obtain rfl := lit_inj (hat0.symm.trans hat))
           | (at_mapUpdate; refine wpList_mapUpdate_own _ rfl _ _ _ 147 rfl 9 3 law9 Tryd.underlying147 _ mb n D rfl hO2.mp (by unfold maxLen; omega) _ _ _ rfl rfl hkey _ [] (plainElem_int Tryd.underlying3 (by decide)) ?_; intro w3 hm3 hg3; have hO3 := hO2.put hg hmb hm3 hg3)
           | (go_at_call 58; refine (hbl _ hO3.rs).mono ?_; rintro e2 w4 ⟨rfl, hS4, hK4⟩; have hO4 := hO3.step hg hS4 hK4)
           | (go_at_call 74; refine (peek_no hS4 hx).mono ?_; rintro e2 w5 ⟨rfl, m, rfl⟩))
          refine ⟨rfl, ?_⟩;exact ⟨rfl, (hO4.drewN hg m).rs.bel, (hO4.drewN hg m).kb⟩
         | some x2 =>
          have hql2 : q2 < b.length := (List.getElem?_eq_some_iff.1 hx).1;by_cases h58 : x2 = 58
          ·subst h58
           have ho4 : Hid (some o = match Js.value b j (d + 1) (Js.blank b (q2 + 1)) with
             | none => none
             | some (.no x e) => some (.no x e)
             | some (.ok v q) => match Js.comma b 125 q with
              | .no x e => some (.no x e)
              | .ok true q => Js.pairs b j (d + 1) (ks ++ [key]) (l ++ [v]) q
              | .ok false q => some (.ok (.mk 6 [] (ks ++ [key]) (l ++ [v])) q)) := by
            have := ho3.out;rw [hx] at this;exact this
           clear ho3;have hb3 := Js.blank_le (b := b) (p := q2 + 1) (by omega)
           have hbl2 : ∀ W, RS w0 g A c b W ((q2 + 1 : Nat) : Int) ((d : Int) + 1) → Calls Tryd.prog 58 #[.pointer (some ⟨g, 0, none⟩)] W (fun e w' => e = .returned (.tuple #[]) ∧ RS w0 g A c b w' (Js.blank b (q2 + 1)) ((d : Int) + 1) ∧ Kbt W w' g none) := fun W h => blank_calls (q2 + 1) h
           generalize Js.blank b (q2 + 1) = q3 at ho4 hb3 hbl2
           go_wp2_with (first
             | (go_at_call 77; refine hT.mono ?_; rintro e2 w2 ⟨u, rfl, rfl, hS2, hK2⟩; have hO2 := OS.step hO hg hS2 hK2; have f1 := hS2.fr 1; have g1 := hS2.c1)
             | (at_lookup; refine wpList_lookup_own_int _ rfl _ _ 147 rfl 9 3 .i64 law9 Tryd.underlying147 Tryd.underlying3 (zero3 _) mb n D rfl hO2.mp _ _ rfl hkey ?_; intro cv hat hwc; obtain rfl := lit_inj (hat0.symm.trans hat))
             | (at_mapUpdate; refine wpList_mapUpdate_own _ rfl _ _ _ 147 rfl 9 3 law9 Tryd.underlying147 _ mb n D rfl hO2.mp (by unfold maxLen; omega) _ _ _ rfl rfl hkey _ [] (plainElem_int Tryd.underlying3 (by decide)) ?_; intro w3 hm3 hg3; have hO3 := hO2.put hg hmb hm3 hg3)
             | (go_at_call 58; refine (hbl _ hO3.rs).mono ?_; rintro e2 w4 ⟨rfl, hS4, hK4⟩; have hO4 := hO3.step hg hS4 hK4; have g4 := hS4.c1; have f4 := hS4.fr 1)
             | (go_at_call 74; refine (peek_ok hS4 hx).mono ?_; rintro e2 w5 ⟨rfl, m, rfl⟩)
             | (go_at_call 58; refine (hbl2 _ ((hO4.drewN hg m).at1 hg (by omega)).rs).mono ?_; rintro e2 w6 ⟨rfl, hS6, hK6⟩; have hO6 := ((hO4.drewN hg m).at1 hg (x := (q2 : Int) + 1) (r := q2 + 1) (by omega)).step hg hS6 hK6))
           clear hT hbl hbl2 hx hO2 hO3 hO4 hS2 hK2 hS4 hK4 hS6 hK6 f1 g1 g4 f4 f0 hO hkey hat0 hm3 hg3
           have hV : ∀ ov, Js.value b j (d + 1) q3 = some ov → ∀ W, RS w0 g A c b W q3 ((d : Int) + 1) → Calls Tryd.prog 59 #[.pointer (some ⟨g, 0, none⟩)] W (Post w0 g A c b W ((d : Int) + 1) (VVal W.heap.size) ov) := fun ov hv W hW => ih j (by omega) w0 g A c b W q3 (d + 1) ov hb hW (by omega) hbc (by omega) hv
           have hOd := hO6.drew hg;have hcs := hOd.cells;obtain ⟨⟨_, _, _, _⟩, ⟨_, _, a2, a3⟩, ⟨_, _, _, _⟩, b2, b3⟩ := hcs;obtain ⟨⟨_, _, _, _⟩, ⟨_, _, a2', a3'⟩, ⟨_, _, _, _⟩, b2', b3'⟩ := hO6.cells
           have ab2 := fun x => (hO6.alloc hg x).cells.2.1.2.2.1
           have ab3 := fun x => (hO6.alloc hg x).cells.2.1.2.2.2
           have aa2 := fun x => (hOd.alloc hg x).cells.2.1.2.2.1
           have aa3 := fun x => (hOd.alloc hg x).cells.2.1.2.2.2
           obtain ⟨A0, n0, cp0, rfl⟩ : ∃ A n c, kv = .slice A n c := (by obtain ⟨A, c, e⟩ := Kd.R_slice hO6.own2; exact ⟨_, _, _, e⟩)
           obtain ⟨A1, n1, cp1, rfl⟩ : ∃ A n c, lv = .slice A n c := (by obtain ⟨A, c, e⟩ := Kd.R_slice hO6.own; exact ⟨_, _, _, e⟩)
           cases hv : Js.value b j (d + 1) q3 with
           | none => exact absurd ho4.out (by simp [hv])
           | some ov =>
            have hV2 := hV ov hv
            cases ov with
            | no y e =>
             obtain rfl : o = Js.Out.no y e := by have := ho4.out; rw [hv] at this; exact Option.some.inj this
             clear ho4 hv
             go_cut [] (fun wc => False)
             case first =>
              go_region_law (first
               | (refine Kd.R_append_step Kd.string (w0 := w6.drew) (w.heap.size + 2) (by rfl) (.tmp 64) (.tmp 66) 22 9 _ 16 rfl Tryd.underlying22 info_9 rfl (by decide) (by decide) (.slice A0 n0 cp0) (ks.map strOfNums) (strOfNums key) [.string (strOfNums key)] (fun _ => True) (fun _ => False) rfl (by first | rfl | simp) (rfl) (fun k hk => hk.elim) (fun _ _ => trivial) hOd.own2 (Below.refl _ _) (by have := blk_lt hOd.vb; omega) (by rw [List.length_map]; omega) ?_; intro v1 w7 hR7 hB7 hg7 hat7; have hO7 := hOd.appK hg hR7 hg7 hat7; obtain ⟨A2, n2, cp2, rfl⟩ : ∃ A n c, v1 = .slice A n c := (by obtain ⟨A, c, e⟩ := Kd.R_slice hR7; exact ⟨_, _, _, e⟩); obtain ⟨⟨_, _, _, _⟩, ⟨_, _, a4, a5⟩, ⟨_, _, _, _⟩, b4, b5⟩ := hO7.cells)
               | (go_simp; go_at_call 59; refine (hV2 _ hO7.rs).mono ?_; intro e2 w8 hh; rcases e2 with u | ch | _; rotate_left; (focus (obtain ⟨hh1, hB2, hK2⟩ := hh; cases hh1; refine ⟨rfl, ?_⟩; exact ⟨rfl, hB2, hO7.kb.trans hK2 (.inl rfl)⟩)); (focus (exact absurd hh.1 (by simp))); have hf : Hid False := Lib.hid (by have := hh.1; cases this); clear hh; obtain rfl : u = .agg #[.int .i64 0, .string ⟨#[]⟩, .slice none 0 0, .slice none 0 0] := hf.out.elim; have ha3 : w8.cell? ⟨w.heap.size + 1, 3, none⟩ = some (.slice A1 n1 cp1) := hf.out.elim; have ha2 : w8.cell? ⟨w.heap.size + 1, 2, none⟩ = some (.slice A0 n0 cp0) := hf.out.elim; have hc5 : ∀ x, (w8.alloc x).cell? ⟨w.heap.size + 1, 3, none⟩ = some (.slice A1 n1 cp1) := hf.out.elim; have hc4 : ∀ x, (w8.alloc x).cell? ⟨w.heap.size + 1, 2, none⟩ = some (.slice A0 n0 cp0) := hf.out.elim; have hc6 : ∀ x, (w8.alloc x).frozen? ⟨w.heap.size + 1, 3, none⟩ = false := hf.out.elim; have hc7 : ∀ x, (w8.alloc x).frozen? ⟨w.heap.size + 1, 2, none⟩ = false := hf.out.elim)
               | (refine law_false hf (.slice none 0 0) ?_))
              all_goals exact hf.out.elim
             case rest => exact hcut.elim
            | ok v r =>
             have hvl := Js.value_le hv
             have ho5 : Hid (some o = match Js.comma b 125 r with
               | .no x e => some (.no x e)
               | .ok true q => Js.pairs b j (d + 1) (ks ++ [key]) (l ++ [v]) q
               | .ok false q => some (.ok (.mk 6 [] (ks ++ [key]) (l ++ [v])) q)) := by have := ho4.out; rw [hv] at this; exact this
             clear ho4 hv
             go_cut [] (fun wc => ∃ kv lv, OS w0 g A c b w mb ((d : Int) + 1) wc r kv lv kv lv (D.put (.string (strOfNums key).data.toList) (.lit (.int .i64 1))) (n + 1) (ks ++ [key]) (l ++ [v]))
             case first =>
              go_region_law (first
               | (refine Kd.R_append_step Kd.string (w0 := w6.drew) (w.heap.size + 2) (by rfl) (.tmp 64) (.tmp 66) 22 9 _ 16 rfl Tryd.underlying22 info_9 rfl (by decide) (by decide) (.slice A0 n0 cp0) (ks.map strOfNums) (strOfNums key) [.string (strOfNums key)] (fun _ => True) (fun _ => False) rfl (by first | rfl | simp) (rfl) (fun k hk => hk.elim) (fun _ _ => trivial) hOd.own2 (Below.refl _ _) (by have := blk_lt hOd.vb; omega) (by rw [List.length_map]; omega) ?_; intro v1 w7 hR7 hB7 hg7 hat7; have hO7 := hOd.appK hg hR7 hg7 hat7; obtain ⟨A2, n2, cp2, rfl⟩ : ∃ A n c, v1 = .slice A n c := (by obtain ⟨A, c, e⟩ := Kd.R_slice hR7; exact ⟨_, _, _, e⟩); obtain ⟨⟨_, _, _, _⟩, ⟨_, _, a4, a5⟩, ⟨_, _, _, _⟩, b4, b5⟩ := hO7.cells)
               | (go_simp; go_at_call 59; refine (hV2 _ hO7.rs).mono ?_; rintro e w8 ⟨u, rfl, ⟨x0, x1, v2, v3, rfl, hM, _⟩, hS8, hK8⟩; have hO8 := OS.step hO7 hg hS8 hK8; obtain ⟨⟨_, _, _, _⟩, ⟨_, _, a6, a7⟩, ⟨_, _, _, _⟩, b6, b7⟩ := hO8.cells; have aa8 := fun x => (hO8.alloc hg x).cells.2.1.2.2.1; have aa9 := fun x => (hO8.alloc hg x).cells.2.1.2.2.2)
               | (refine Kd.R_append_step k27 (w0 := w8) (w.heap.size + 2) (by rfl) (.tmp 69) (.tmp 72) 25 27 _ 72 rfl Tryd.underlying25 info_25 rfl (by decide) (by decide) (.slice A1 n1 cp1) (toSs l) (toS v) [.int .i64 x0, .string x1, v2, v3] (fun k => True ∧ some k ≠ (Value.slice A2 n2 cp2).ownBlock) (fun k => w7.heap.size ≤ k) rfl (by first | rfl | simp) (k27.M_lower (show w.heap.size + 2 ≤ w7.heap.size by have := blk_lt hO7.vb; omega) (k27.M_mono (fun k hk => hk.2.1) (k27.M_bound hM))) (fun k hk => ⟨⟨trivial, fun e => by have := Kd.R_lt hO7.own2 k e.symm; omega⟩, fun e => by have := Kd.R_lt hO7.own k e.symm; omega⟩) (fun k hk => ⟨trivial, fun e => by have := Kd.R_lt hO8.own2 k e.symm; omega⟩) hO8.own (Below.refl _ _) (by have := blk_lt hO8.vb; omega) (by rw [toSs_length]; omega) ?_; intro v1 w9 hR9 hB9 hg9 hat9; have hO9 := hO8.appL hg hR9 hg9; obtain ⟨A3, n3, cp3, rfl⟩ : ∃ A n c, v1 = .slice A n c := (by obtain ⟨A, c, e⟩ := Kd.R_slice hR9; exact ⟨_, _, _, e⟩); obtain ⟨⟨_, _, _, _⟩, ⟨_, _, a8, a9⟩, ⟨_, _, _, _⟩, b8, b9⟩ := hO9.cells))
              all_goals
               go_wp2_with fail
               go_meet
               first
                | exact ⟨_, _, (hO9.setK hg hmb _).setL hg hmb _⟩
                | exact ⟨_, _, (hO9.setL hg hmb _).setK hg hmb _⟩
             case rest =>
              obtain ⟨kv2, lv2, hP⟩ := hcut;clear hO6 hOd hV2 hV a2 a3 a2' a3' b2 b3 b2' b3' aa2 aa3 ab2 ab3;have hcc := comma_calls (p := r) (d := d + 1) 125 (hP.rs.to rfl (by omega)) (by omega) (by omega)
              cases hcm : Js.comma b 125 r with
              | no y e =>
               rw [hcm] at hcc
               obtain rfl : o = Js.Out.no y e := by have := ho5.out; rw [hcm] at this; exact Option.some.inj this
               clear hcm ho5;go_wp2_with (go_at_call 98; refine hcc.mono ?_; rintro e2 w2 ⟨rfl, hB2, hK2⟩);refine ⟨rfl, ?_⟩;exact ⟨rfl, hB2, hP.kb.trans hK2 (.inl rfl)⟩
              | ok t r2 =>
               have hcl := Js.comma_le hvl.2 hcm
               cases t with
               | true =>
                rw [hcm] at hcc
                have ho6 : Hid (Js.pairs b j (d + 1) (ks ++ [key]) (l ++ [v]) r2 = some o) := by have := ho5.out; rw [hcm] at this; exact this.symm
                clear hcm ho5;go_wp2_with (go_at_call 98; refine hcc.mono ?_; rintro e2 w2 ⟨rfl, hS2, hK2⟩)
                go_roundg j
                case measure => omega
                exact ⟨r2, kv2, lv2, _, n + 1, _, _, ho6, hsee2, by omega, by simp; omega, by simp; omega, by omega, by omega, hP.step hg (hS2.to rfl (by omega)) hK2⟩
               | false =>
                rw [hcm] at hcc
                obtain rfl : o = Js.Out.ok (Js.Val.mk 6 [] (ks ++ [key]) (l ++ [v])) r2 := by have := ho5.out; rw [hcm] at this; exact Option.some.inj this
                clear hcm ho5
                obtain ⟨Ak, nk, ck, rfl⟩ : ∃ A n c, kv2 = .slice A n c := (by obtain ⟨A, c, e⟩ := Kd.R_slice hP.own2; exact ⟨_, _, _, e⟩)
                obtain ⟨Al, nl, cl, rfl⟩ : ∃ A n c, lv2 = .slice A n c := (by obtain ⟨A, c, e⟩ := Kd.R_slice hP.own; exact ⟨_, _, _, e⟩)
                go_wp2_with (go_at_call 98; refine hcc.mono ?_; rintro e2 w2 ⟨rfl, hS2, hK2⟩; have hA3 := hP.step hg hS2 hK2; obtain ⟨⟨z10, z11, z12, z13⟩, ⟨z20, z21, z22, z23⟩, ⟨y0, y1, y2, y3⟩, _, _⟩ := hA3.cells; have hF := Lib.hid (hA3.stored hg (.int .i64 6) (.string ⟨#[]⟩) (.slice Ak nk ck) (.slice Al nl cl)));obtain ⟨hB, hRS, hKB, hR2, hR⟩ := hF.out;generalize hwf : World.setCell _ _ _ = wf at hB hRS hKB hR2 hR ⊢;clear hwf;obtain ⟨c0, c1, c2, c3⟩ := blk4 hB;refine bodyPost_ret (v := .agg #[.int .i64 6, .string ⟨#[]⟩, .slice Ak nk ck, .slice Al nl cl]) (by simp [results, Tryd.results75, go_sem, c0, c1, c2, c3]) rfl ?_;exact ⟨_, rfl, VVal.of _ _ (Js.Val.mk 6 [] (ks ++ [key]) (l ++ [v])) (Kd.R_lower hR2 (Nat.le_add_right _ 2)) (Kd.R_lower hR (Nat.le_add_right _ 2)), hRS.to rfl (by omega), hKB⟩
          ·obtain rfl : o = Js.Out.no q2 6 := by
            have := ho3.out;rw [hx] at this;simp only at this;rw [if_neg (by simpa using h58)] at this;exact Option.some.inj this
           clear ho3
           have h58' : (x2 == 58) = false := by simpa using h58
           go_wp2_with (first
            | (go_at_call 77; refine hT.mono ?_; rintro e2 w2 ⟨u, rfl, rfl, hS2, hK2⟩; have hO2 := OS.step hO hg hS2 hK2; have f1 := hS2.fr 1; have g1 := hS2.c1)
            | (at_lookup; refine wpList_lookup_own_int _ rfl _ _ 147 rfl 9 3 .i64 law9 Tryd.underlying147 Tryd.underlying3 (zero3 _) mb n D rfl hO2.mp _ _ rfl hkey ?_; intro cv hat hwc; obtain rfl := lit_inj (hat0.symm.trans hat))
            | (at_mapUpdate; refine wpList_mapUpdate_own _ rfl _ _ _ 147 rfl 9 3 law9 Tryd.underlying147 _ mb n D rfl hO2.mp (by unfold maxLen; omega) _ _ _ rfl rfl hkey _ [] (plainElem_int Tryd.underlying3 (by decide)) ?_; intro w3 hm3 hg3; have hO3 := hO2.put hg hmb hm3 hg3)
            | (go_at_call 58; refine (hbl _ hO3.rs).mono ?_; rintro e2 w4 ⟨rfl, hS4, hK4⟩; have hO4 := hO3.step hg hS4 hK4)
            | (go_at_call 74; refine (peek_ok hS4 hx).mono ?_; rintro e2 w5 ⟨rfl, m, rfl⟩)
            | (go_at_call 60; refine (fail_calls 6 (hO4.drewN hg m).rs).mono ?_; rintro e2 w3 ⟨rfl, rfl⟩))
           refine ⟨rfl, ?_⟩;exact ⟨rfl, (hO4.drewN hg m).rs.bel, (hO4.drewN hg m).kb⟩
end Go.Proofs.YteighppcdpaekaaDoor.Rd
end
