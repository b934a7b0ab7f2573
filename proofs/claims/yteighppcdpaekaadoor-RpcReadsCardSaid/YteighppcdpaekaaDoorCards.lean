/-
  DERIVED. GIVEN WITH THE SEED: THE CARDS: each row of YteighppcdpaekaaDoorRows.lean that lists a variable, with what it lists TIED to the program's text (the seventh form; the later family's looks); each row that meets fmt, with fmt's text TOLD by the authors' own Lean function (tested against real Go, not proved from fmt's source: count such statements apart). THE CARD IS WHAT COUNTS. Prove the row's statement (the work); the ties are given (YteighppcdpaekaaDoorTie.lean); close each card by the builder's one call (the guide's Derived/Test/ToyasCard.lean, 'card_holds'). Laid BY PROGRAM, IN A SANDBOX (cutbox-door.mjs). By AI agents, Wed Nov 11 2026. No macro, syntax, notation, axiom, sorry.
-/
import Derived.Test.YteighppcdpaekaaDoorRows
import GoSem.ClaimSeven
namespace Go.Proofs.YteighppcdpaekaaDoor
namespace Rows

/-- THE TIED CARD OF 'whetstonelaw04.JsonMakes'. -/
def jsonMakesCard : Claim7 := { stood := { row := jsonMakesRow, standIns := [], harness := (true, "567050a5d231a811c520fed3a3d7a902f14c61b758dec5e0856f42a7c5f6b992"), looks := true }, kinds := [], alts := [], laidByText := true, laidKinds := [.data, .data, .data], laidTests := true, laidLooks := .later }
def JsonMakesCardSaid : Prop := Claim7.holds Tryd.pinned (.plain (OpenSpec.ofChange jsonMakesSpec)) jsonMakesCard

/-- THE TIED CARD OF 'whetstonelaw06.RpcReads'. -/
def rpcReadsCard : Claim7 := { stood := { row := rpcReadsRow, standIns := [], harness := (true, "567050a5d231a811c520fed3a3d7a902f14c61b758dec5e0856f42a7c5f6b992"), looks := true }, kinds := [], alts := [], laidByText := true, laidKinds := [.data, .data, .data, .sentinel, .sentinel], laidTests := true, laidLooks := .later }
def RpcReadsCardSaid : Prop := Claim7.holds Tryd.pinned (.plain (OpenSpec.ofChange rpcReadsSpec)) rpcReadsCard

/-- THE TIED CARD OF 'whetstonelaw06.RpcPositions'. -/
def rpcPositionsCard : Claim7 := { stood := { row := rpcPositionsRow, standIns := [], harness := (true, "567050a5d231a811c520fed3a3d7a902f14c61b758dec5e0856f42a7c5f6b992"), looks := true }, kinds := [], alts := [], laidByText := true, laidKinds := [.data, .data, .data, .sentinel, .sentinel], laidTests := true, laidLooks := .later }
def RpcPositionsCardSaid : Prop := Claim7.holds Tryd.pinned (.plain (OpenSpec.ofChange rpcPositionsSpec)) rpcPositionsCard

/-- THE TIED CARD OF 'whetstonelaw04.JsonGets'. -/
def jsonGetsCard : Claim7 := { stood := { row := jsonGetsRow, standIns := [], harness := (true, "567050a5d231a811c520fed3a3d7a902f14c61b758dec5e0856f42a7c5f6b992"), looks := true }, kinds := [], alts := [], laidByText := true, laidKinds := [.data, .data, .data, .sentinel, .sentinel], laidTests := true, laidLooks := .later }
def JsonGetsCardSaid : Prop := Claim7.holds Tryd.pinned (.plain (OpenSpec.ofChange jsonGetsSpec)) jsonGetsCard

/-- THE TIED CARD OF 'whetstonelaw06.RpcMakes'. -/
def rpcMakesCard : Claim7 := { stood := { row := rpcMakesRow, standIns := [], harness := (true, "567050a5d231a811c520fed3a3d7a902f14c61b758dec5e0856f42a7c5f6b992"), looks := true }, kinds := [], alts := [], laidByText := true, laidKinds := [.data, .data, .data, .sentinel, .sentinel], laidTests := true, laidLooks := .later }
def RpcMakesCardSaid : Prop := Claim7.holds Tryd.pinned (.plain (OpenSpec.ofChange rpcMakesSpec)) rpcMakesCard

/-- THE TIED CARD OF 'whetstonelaw06.RpcBack'. -/
def rpcBackCard : Claim7 := { stood := { row := rpcBackRow, standIns := [], harness := (true, "567050a5d231a811c520fed3a3d7a902f14c61b758dec5e0856f42a7c5f6b992"), looks := true }, kinds := [], alts := [], laidByText := true, laidKinds := [.data, .data, .data, .sentinel, .sentinel], laidTests := true, laidLooks := .later }
def RpcBackCardSaid : Prop := Claim7.holds Tryd.pinned (.plain (OpenSpec.ofChange rpcBackSpec)) rpcBackCard

/-- THE SECOND FORM's CARD OF 'whetstonelaw04.JsonMakes'. -/
def jsonMakesUptoCard : Claim7 := { stood := { row := jsonMakesUptoRow, standIns := [], harness := (true, "567050a5d231a811c520fed3a3d7a902f14c61b758dec5e0856f42a7c5f6b992"), looks := true }, kinds := [], alts := [], laidByText := true, laidKinds := [.data, .data, .data], laidTests := true, laidLooks := .later }
def JsonMakesUptoCardSaid : Prop := Claim7.holds Tryd.pinned (.plain (OpenSpec.upto jsonMakesSpec)) jsonMakesUptoCard

/-- THE SECOND FORM's CARD OF 'whetstonelaw06.RpcReads'. -/
def rpcReadsUptoCard : Claim7 := { stood := { row := rpcReadsUptoRow, standIns := [], harness := (true, "567050a5d231a811c520fed3a3d7a902f14c61b758dec5e0856f42a7c5f6b992"), looks := true }, kinds := [], alts := [], laidByText := true, laidKinds := [.data, .data, .data, .sentinel, .sentinel], laidTests := true, laidLooks := .later }
def RpcReadsUptoCardSaid : Prop := Claim7.holds Tryd.pinned (.plain (OpenSpec.upto rpcReadsSpec)) rpcReadsUptoCard

/-- THE SECOND FORM's CARD OF 'whetstonelaw06.RpcPositions'. -/
def rpcPositionsUptoCard : Claim7 := { stood := { row := rpcPositionsUptoRow, standIns := [], harness := (true, "567050a5d231a811c520fed3a3d7a902f14c61b758dec5e0856f42a7c5f6b992"), looks := true }, kinds := [], alts := [], laidByText := true, laidKinds := [.data, .data, .data, .sentinel, .sentinel], laidTests := true, laidLooks := .later }
def RpcPositionsUptoCardSaid : Prop := Claim7.holds Tryd.pinned (.plain (OpenSpec.upto rpcPositionsSpec)) rpcPositionsUptoCard

/-- THE SECOND FORM's CARD OF 'whetstonelaw04.JsonGets'. -/
def jsonGetsUptoCard : Claim7 := { stood := { row := jsonGetsUptoRow, standIns := [], harness := (true, "567050a5d231a811c520fed3a3d7a902f14c61b758dec5e0856f42a7c5f6b992"), looks := true }, kinds := [], alts := [], laidByText := true, laidKinds := [.data, .data, .data, .sentinel, .sentinel], laidTests := true, laidLooks := .later }
def JsonGetsUptoCardSaid : Prop := Claim7.holds Tryd.pinned (.plain (OpenSpec.upto jsonGetsSpec)) jsonGetsUptoCard

/-- THE SECOND FORM's CARD OF 'whetstonelaw06.RpcMakes'. -/
def rpcMakesUptoCard : Claim7 := { stood := { row := rpcMakesUptoRow, standIns := [], harness := (true, "567050a5d231a811c520fed3a3d7a902f14c61b758dec5e0856f42a7c5f6b992"), looks := true }, kinds := [], alts := [], laidByText := true, laidKinds := [.data, .data, .data, .sentinel, .sentinel], laidTests := true, laidLooks := .later }
def RpcMakesUptoCardSaid : Prop := Claim7.holds Tryd.pinned (.plain (OpenSpec.upto rpcMakesSpec)) rpcMakesUptoCard

/-- THE SECOND FORM's CARD OF 'whetstonelaw06.RpcBack'. -/
def rpcBackUptoCard : Claim7 := { stood := { row := rpcBackUptoRow, standIns := [], harness := (true, "567050a5d231a811c520fed3a3d7a902f14c61b758dec5e0856f42a7c5f6b992"), looks := true }, kinds := [], alts := [], laidByText := true, laidKinds := [.data, .data, .data, .sentinel, .sentinel], laidTests := true, laidLooks := .later }
def RpcBackUptoCardSaid : Prop := Claim7.holds Tryd.pinned (.plain (OpenSpec.upto rpcBackSpec)) rpcBackUptoCard
end Rows
end Go.Proofs.YteighppcdpaekaaDoor
