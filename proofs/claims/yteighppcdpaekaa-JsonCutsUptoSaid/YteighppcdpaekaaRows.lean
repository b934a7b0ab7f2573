/-
  NARROWER THAN 'FOR EVERY INPUT', by the rows' own cells (each row's printed sentence says how): JsonCuts: loops · JsonBack: loops · JsonEquals: loops.
  DERIVED. THE GIVEN ROWS OF THIS SEAT. 3 by the template 'for every input the law returns true; each argument reads behind the call as it read before'; 0 by the template 'total and deterministic' (their statements: YteighppcdpaekaaTotals.lean).
  GIVEN WITH THE SEED: the statements are not yours to turn. If you find one false, say at which input.
  Laid BY PROGRAM, IN A SANDBOX (cutbox-rows.mjs): the forced cells as the released guide's own fill.sh prints them over the translation 29e00816dd122eb9… (all of the seat's roots in one cut). By AI agents, Wed Nov 11 2026. No macro, syntax, notation, axiom, sorry.
-/
import Derived.Test.YteighppcdpaekaaChecked
import GoSem.Claim
import GoSem.ClaimJoined
import GoSem.ClaimMapViews
import Derived.JoinedTies
import Derived.KernelRfl
namespace Go.Proofs.Yteighppcdpaekaa
/- THE CELL 'sum', in the pinned program and in every row, IS THE sha256 OF THE DUMP (.gsa) THAT YteighppcdpaekaaProg.lean LOADS. Nothing in Lean hashes anything: it is a label: what it is worth is what the hold of that sum in a sandbox is worth. -/
noncomputable def Try.pinned : Pinned := { name := "yteighppcdpaekaa", sum := "29e00816dd122eb992934dfa622d75a682d8689317350e92b9f586043d8001b2", checked := Try.checked }
namespace Rows
def none {H : Type} : Left H := { results := [], args := [] }

/-- 'whetstonelaw04.JsonCuts': WHATEVER THE INPUT: true; the input reads as it did. -/
def jsonCutsSpec : ChangeSpec := { name := "jsonCuts", fn := fun _ => fun
  | [d1, d2] => { results := [.lit (.bool true)], args := [d1, d2] }
  | _ => none }
def jsonCutsRow : OpenClaim := { program := "yteighppcdpaekaa", sum := "29e00816dd122eb992934dfa622d75a682d8689317350e92b9f586043d8001b2", func := "whetstone/whetstonelaw04.JsonCuts", spec := "jsonCuts", unfollowed := true, recurses := true, loops := true, apart := false }
def JsonCutsSaid : Prop := jsonCutsRow.holds Try.pinned (OpenSpec.ofChange jsonCutsSpec)

/-- ITS FALSE NEIGHBOUR: 'it returns false'. Refute it at one input. -/
def jsonCutsWrong : ChangeSpec := { name := "jsonCuts", fn := fun _ => fun
  | [d1, d2] => { results := [.lit (.bool false)], args := [d1, d2] }
  | _ => none }
def JsonCutsWrongFalsely : Prop := jsonCutsRow.holds Try.pinned (OpenSpec.ofChange jsonCutsWrong)

/-- 'whetstonelaw04.JsonBack': WHATEVER THE INPUT: true; the input reads as it did. -/
def jsonBackSpec : ChangeSpec := { name := "jsonBack", fn := fun _ => fun
  | [d1, d2] => { results := [.lit (.bool true)], args := [d1, d2] }
  | _ => none }
def jsonBackRow : OpenClaim := { program := "yteighppcdpaekaa", sum := "29e00816dd122eb992934dfa622d75a682d8689317350e92b9f586043d8001b2", func := "whetstone/whetstonelaw04.JsonBack", spec := "jsonBack", unfollowed := true, recurses := true, loops := true, apart := false }
def JsonBackSaid : Prop := jsonBackRow.holds Try.pinned (OpenSpec.ofChange jsonBackSpec)

/-- ITS FALSE NEIGHBOUR: 'it returns false'. Refute it at one input. -/
def jsonBackWrong : ChangeSpec := { name := "jsonBack", fn := fun _ => fun
  | [d1, d2] => { results := [.lit (.bool false)], args := [d1, d2] }
  | _ => none }
def JsonBackWrongFalsely : Prop := jsonBackRow.holds Try.pinned (OpenSpec.ofChange jsonBackWrong)

/-- 'whetstonelaw04.JsonEquals': WHATEVER THE INPUT: true; the input reads as it did. -/
def jsonEqualsSpec : ChangeSpec := { name := "jsonEquals", fn := fun _ => fun
  | [d1, d2] => { results := [.lit (.bool true)], args := [d1, d2] }
  | _ => none }
def jsonEqualsRow : OpenClaim := { program := "yteighppcdpaekaa", sum := "29e00816dd122eb992934dfa622d75a682d8689317350e92b9f586043d8001b2", func := "whetstone/whetstonelaw04.JsonEquals", spec := "jsonEquals", unfollowed := true, recurses := true, loops := true, apart := false }
def JsonEqualsSaid : Prop := jsonEqualsRow.holds Try.pinned (OpenSpec.ofChange jsonEqualsSpec)

/-- ITS FALSE NEIGHBOUR: 'it returns false'. Refute it at one input. -/
def jsonEqualsWrong : ChangeSpec := { name := "jsonEquals", fn := fun _ => fun
  | [d1, d2] => { results := [.lit (.bool false)], args := [d1, d2] }
  | _ => none }
def JsonEqualsWrongFalsely : Prop := jsonEqualsRow.holds Try.pinned (OpenSpec.ofChange jsonEqualsWrong)

/- THE SECOND FORM. 'bulk': how many values and letters a reading holds, each counted each time it is reached (what is shared counts as often as it is met; a slice's spare places count too). A statement '..UptoSaid' is the law's where the arguments, and the package variables that the reading takes, are together of bulk at most 1048576: NARROWER than '..Said'. Prove '..Said' where nothing that the law and all that it calls make is longer than what came in: it says more and counts as full. Else prove '..UptoSaid'. A law counts once. -/
mutual
def uptoBulk {H : Type} : DataW H → Nat
  | .lit (.string bytes) => bytes.length + 1
  | .lit _ => 1
  | .nil => 1
  | .ptr d => uptoBulk d + 1
  | .slice elems spare => uptoBulkAll elems + uptoBulkAll spare + 1
  | .agg parts => uptoBulkAll parts + 1
  | .iface _ d => uptoBulk d + 1
  | .map entries => uptoBulkEntries entries + 1
  | .held _ => 1
def uptoBulkAll {H : Type} : List (DataW H) → Nat
  | [] => 0
  | d :: r => uptoBulk d + uptoBulkAll r
def uptoBulkEntries {H : Type} : List (Lit × DataW H) → Nat
  | [] => 0
  | x :: r => uptoBulkEntry x + uptoBulkEntries r
def uptoBulkEntry {H : Type} : Lit × DataW H → Nat
  | (.string bytes, d) => bytes.length + uptoBulk d + 1
  | (_, d) => uptoBulk d + 1
 end
def uptoSmall : (H : Type) → List (DataW H) → Bool := fun _ ds => decide (uptoBulkAll ds ≤ 1048576)
def OpenSpec.upto (s : _root_.Go.ChangeSpec) : _root_.Go.OpenSpec := { _root_.Go.OpenSpec.ofChange s with cond := some uptoSmall }

/-- 'whetstonelaw04.JsonCuts', WHERE WHAT IT READS IS OF BULK AT MOST 1048576: true; the input reads as it did. -/
def jsonCutsUptoRow : OpenClaim := { program := "yteighppcdpaekaa", sum := "29e00816dd122eb992934dfa622d75a682d8689317350e92b9f586043d8001b2", func := "whetstone/whetstonelaw04.JsonCuts", spec := "jsonCuts", unfollowed := true, recurses := true, loops := true, apart := false, narrowed := true }
def JsonCutsUptoSaid : Prop := jsonCutsUptoRow.holds Try.pinned (OpenSpec.upto jsonCutsSpec)

/-- 'whetstonelaw04.JsonBack', WHERE WHAT IT READS IS OF BULK AT MOST 1048576: true; the input reads as it did. -/
def jsonBackUptoRow : OpenClaim := { program := "yteighppcdpaekaa", sum := "29e00816dd122eb992934dfa622d75a682d8689317350e92b9f586043d8001b2", func := "whetstone/whetstonelaw04.JsonBack", spec := "jsonBack", unfollowed := true, recurses := true, loops := true, apart := false, narrowed := true }
def JsonBackUptoSaid : Prop := jsonBackUptoRow.holds Try.pinned (OpenSpec.upto jsonBackSpec)

/-- 'whetstonelaw04.JsonEquals', WHERE WHAT IT READS IS OF BULK AT MOST 1048576: true; the input reads as it did. -/
def jsonEqualsUptoRow : OpenClaim := { program := "yteighppcdpaekaa", sum := "29e00816dd122eb992934dfa622d75a682d8689317350e92b9f586043d8001b2", func := "whetstone/whetstonelaw04.JsonEquals", spec := "jsonEquals", unfollowed := true, recurses := true, loops := true, apart := false, narrowed := true }
def JsonEqualsUptoSaid : Prop := jsonEqualsUptoRow.holds Try.pinned (OpenSpec.upto jsonEqualsSpec)

end Rows
end Go.Proofs.Yteighppcdpaekaa
