/-
  DERIVED. GIVEN WITH THE SEED: THE CARDS: each row of YtljmndkpodcdnaaGreatDoorRows.lean that lists a variable, with what it lists TIED to the program's text (the seventh form; the later family's looks); each row that meets fmt, with fmt's text TOLD by the authors' own Lean function (tested against real Go, not proved from fmt's source: count such statements apart). THE CARD IS WHAT COUNTS. Prove the row's statement (the work); the ties are given (YtljmndkpodcdnaaGreatDoorTie.lean); close each card by the builder's one call (the guide's Derived/Test/ToyasCard.lean, 'card_holds'). Laid BY PROGRAM, IN A SANDBOX (cutbox-door.mjs). By AI agents, Wed Nov 11 2026. No macro, syntax, notation, axiom, sorry.
-/
import Derived.Test.YtljmndkpodcdnaaGreatDoorRows
import GoSem.ClaimSeven
namespace Go.Proofs.YtljmndkpodcdnaaGreatDoor
namespace Rows

/-- THE TIED CARD OF 'voussoirlaw01.ExactReads'. -/
def exactReadsCard : Claim7 := { stood := { row := exactReadsRow, standIns := [], harness := (true, "6e0efb055d6d848472277647c6f24855d8550069d49cbab1fa5da5a46937733a"), looks := false }, kinds := [], alts := [], laidByText := true, laidKinds := [.data, .data, .data, .data, .pinned], laidTests := true, laidLooks := .later }
def ExactReadsCardSaid : Prop := Claim7.holds Tryz.pinned (.plain (OpenSpec.ofChange exactReadsSpec)) exactReadsCard

/-- THE TIED CARD OF 'voussoirlaw01.ExactField'. -/
def exactFieldCard : Claim7 := { stood := { row := exactFieldRow, standIns := [], harness := (true, "6e0efb055d6d848472277647c6f24855d8550069d49cbab1fa5da5a46937733a"), looks := false }, kinds := [], alts := [], laidByText := true, laidKinds := [.data, .data, .data, .data, .pinned], laidTests := true, laidLooks := .later }
def ExactFieldCardSaid : Prop := Claim7.holds Tryz.pinned (.plain (OpenSpec.ofChange exactFieldSpec)) exactFieldCard

/-- THE TIED CARD OF 'voussoirlaw01.ExactOrder'. -/
def exactOrderCard : Claim7 := { stood := { row := exactOrderRow, standIns := [], harness := (true, "6e0efb055d6d848472277647c6f24855d8550069d49cbab1fa5da5a46937733a"), looks := false }, kinds := [], alts := [], laidByText := true, laidKinds := [.data, .data, .data, .data, .pinned], laidTests := true, laidLooks := .later }
def ExactOrderCardSaid : Prop := Claim7.holds Tryz.pinned (.plain (OpenSpec.ofChange exactOrderSpec)) exactOrderCard

/-- THE TIED CARD OF 'voussoirlaw01.ExactGrids'. -/
def exactGridsCard : Claim7 := { stood := { row := exactGridsRow, standIns := [], harness := (true, "6e0efb055d6d848472277647c6f24855d8550069d49cbab1fa5da5a46937733a"), looks := false }, kinds := [], alts := [], laidByText := true, laidKinds := [.data, .data, .data, .data, .pinned], laidTests := true, laidLooks := .later }
def ExactGridsCardSaid : Prop := Claim7.holds Tryz.pinned (.plain (OpenSpec.ofChange exactGridsSpec)) exactGridsCard

/-- THE TIED CARD OF 'voussoirlaw01.ExactForms'. -/
def exactFormsCard : Claim7 := { stood := { row := exactFormsRow, standIns := [], harness := (true, "6e0efb055d6d848472277647c6f24855d8550069d49cbab1fa5da5a46937733a"), looks := false }, kinds := [], alts := [], laidByText := true, laidKinds := [.data, .data, .data, .data, .pinned], laidTests := true, laidLooks := .later }
def ExactFormsCardSaid : Prop := Claim7.holds Tryz.pinned (.plain (OpenSpec.ofChange exactFormsSpec)) exactFormsCard

/-- THE TIED CARD OF 'voussoirlaw01.ExactValues'. -/
def exactValuesCard : Claim7 := { stood := { row := exactValuesRow, standIns := [], harness := (true, "6e0efb055d6d848472277647c6f24855d8550069d49cbab1fa5da5a46937733a"), looks := false }, kinds := [], alts := [], laidByText := true, laidKinds := [.data, .data, .data, .data, .pinned], laidTests := true, laidLooks := .later }
def ExactValuesCardSaid : Prop := Claim7.holds Tryz.pinned (.plain (OpenSpec.ofChange exactValuesSpec)) exactValuesCard

/-- THE TIED CARD OF 'voussoirlaw01.ExactMakes'. -/
def exactMakesCard : Claim7 := { stood := { row := exactMakesRow, standIns := [], harness := (true, "6e0efb055d6d848472277647c6f24855d8550069d49cbab1fa5da5a46937733a"), looks := false }, kinds := [], alts := [], laidByText := true, laidKinds := [.data, .data, .data, .data, .pinned], laidTests := true, laidLooks := .later }
def ExactMakesCardSaid : Prop := Claim7.holds Tryz.pinned (.plain (OpenSpec.ofChange exactMakesSpec)) exactMakesCard

/-- THE TIED CARD OF 'voussoirlaw01.ExactArith'. -/
def exactArithCard : Claim7 := { stood := { row := exactArithRow, standIns := [], harness := (true, "6e0efb055d6d848472277647c6f24855d8550069d49cbab1fa5da5a46937733a"), looks := false }, kinds := [], alts := [], laidByText := true, laidKinds := [.data, .data, .data, .data, .pinned], laidTests := true, laidLooks := .later }
def ExactArithCardSaid : Prop := Claim7.holds Tryz.pinned (.plain (OpenSpec.ofChange exactArithSpec)) exactArithCard

/-- THE TIED CARD OF 'voussoirlaw01.ExactWidens'. -/
def exactWidensCard : Claim7 := { stood := { row := exactWidensRow, standIns := [], harness := (true, "6e0efb055d6d848472277647c6f24855d8550069d49cbab1fa5da5a46937733a"), looks := false }, kinds := [], alts := [], laidByText := true, laidKinds := [.data, .data, .data, .data, .pinned], laidTests := true, laidLooks := .later }
def ExactWidensCardSaid : Prop := Claim7.holds Tryz.pinned (.plain (OpenSpec.ofChange exactWidensSpec)) exactWidensCard

/-- THE TIED CARD OF 'voussoirlaw01.ExactSpans'. -/
def exactSpansCard : Claim7 := { stood := { row := exactSpansRow, standIns := [], harness := (true, "6e0efb055d6d848472277647c6f24855d8550069d49cbab1fa5da5a46937733a"), looks := false }, kinds := [], alts := [], laidByText := true, laidKinds := [.data, .data, .data, .data, .pinned], laidTests := true, laidLooks := .later }
def ExactSpansCardSaid : Prop := Claim7.holds Tryz.pinned (.plain (OpenSpec.ofChange exactSpansSpec)) exactSpansCard

/-- THE TIED CARD OF 'voussoirlaw01.ExactHolds'. -/
def exactHoldsCard : Claim7 := { stood := { row := exactHoldsRow, standIns := [], harness := (true, "6e0efb055d6d848472277647c6f24855d8550069d49cbab1fa5da5a46937733a"), looks := false }, kinds := [], alts := [], laidByText := true, laidKinds := [.data, .data, .data, .data, .pinned], laidTests := true, laidLooks := .later }
def ExactHoldsCardSaid : Prop := Claim7.holds Tryz.pinned (.plain (OpenSpec.ofChange exactHoldsSpec)) exactHoldsCard

/-- THE SECOND FORM's CARD OF 'voussoirlaw01.ExactReads'. -/
def exactReadsUptoCard : Claim7 := { stood := { row := exactReadsUptoRow, standIns := [], harness := (true, "6e0efb055d6d848472277647c6f24855d8550069d49cbab1fa5da5a46937733a"), looks := false }, kinds := [], alts := [], laidByText := true, laidKinds := [.data, .data, .data, .data, .pinned], laidTests := true, laidLooks := .later }
def ExactReadsUptoCardSaid : Prop := Claim7.holds Tryz.pinned (.plain (OpenSpec.upto exactReadsSpec)) exactReadsUptoCard

/-- THE SECOND FORM's CARD OF 'voussoirlaw01.ExactField'. -/
def exactFieldUptoCard : Claim7 := { stood := { row := exactFieldUptoRow, standIns := [], harness := (true, "6e0efb055d6d848472277647c6f24855d8550069d49cbab1fa5da5a46937733a"), looks := false }, kinds := [], alts := [], laidByText := true, laidKinds := [.data, .data, .data, .data, .pinned], laidTests := true, laidLooks := .later }
def ExactFieldUptoCardSaid : Prop := Claim7.holds Tryz.pinned (.plain (OpenSpec.upto exactFieldSpec)) exactFieldUptoCard

/-- THE SECOND FORM's CARD OF 'voussoirlaw01.ExactOrder'. -/
def exactOrderUptoCard : Claim7 := { stood := { row := exactOrderUptoRow, standIns := [], harness := (true, "6e0efb055d6d848472277647c6f24855d8550069d49cbab1fa5da5a46937733a"), looks := false }, kinds := [], alts := [], laidByText := true, laidKinds := [.data, .data, .data, .data, .pinned], laidTests := true, laidLooks := .later }
def ExactOrderUptoCardSaid : Prop := Claim7.holds Tryz.pinned (.plain (OpenSpec.upto exactOrderSpec)) exactOrderUptoCard

/-- THE SECOND FORM's CARD OF 'voussoirlaw01.ExactGrids'. -/
def exactGridsUptoCard : Claim7 := { stood := { row := exactGridsUptoRow, standIns := [], harness := (true, "6e0efb055d6d848472277647c6f24855d8550069d49cbab1fa5da5a46937733a"), looks := false }, kinds := [], alts := [], laidByText := true, laidKinds := [.data, .data, .data, .data, .pinned], laidTests := true, laidLooks := .later }
def ExactGridsUptoCardSaid : Prop := Claim7.holds Tryz.pinned (.plain (OpenSpec.upto exactGridsSpec)) exactGridsUptoCard

/-- THE SECOND FORM's CARD OF 'voussoirlaw01.ExactForms'. -/
def exactFormsUptoCard : Claim7 := { stood := { row := exactFormsUptoRow, standIns := [], harness := (true, "6e0efb055d6d848472277647c6f24855d8550069d49cbab1fa5da5a46937733a"), looks := false }, kinds := [], alts := [], laidByText := true, laidKinds := [.data, .data, .data, .data, .pinned], laidTests := true, laidLooks := .later }
def ExactFormsUptoCardSaid : Prop := Claim7.holds Tryz.pinned (.plain (OpenSpec.upto exactFormsSpec)) exactFormsUptoCard

/-- THE SECOND FORM's CARD OF 'voussoirlaw01.ExactValues'. -/
def exactValuesUptoCard : Claim7 := { stood := { row := exactValuesUptoRow, standIns := [], harness := (true, "6e0efb055d6d848472277647c6f24855d8550069d49cbab1fa5da5a46937733a"), looks := false }, kinds := [], alts := [], laidByText := true, laidKinds := [.data, .data, .data, .data, .pinned], laidTests := true, laidLooks := .later }
def ExactValuesUptoCardSaid : Prop := Claim7.holds Tryz.pinned (.plain (OpenSpec.upto exactValuesSpec)) exactValuesUptoCard

/-- THE SECOND FORM's CARD OF 'voussoirlaw01.ExactMakes'. -/
def exactMakesUptoCard : Claim7 := { stood := { row := exactMakesUptoRow, standIns := [], harness := (true, "6e0efb055d6d848472277647c6f24855d8550069d49cbab1fa5da5a46937733a"), looks := false }, kinds := [], alts := [], laidByText := true, laidKinds := [.data, .data, .data, .data, .pinned], laidTests := true, laidLooks := .later }
def ExactMakesUptoCardSaid : Prop := Claim7.holds Tryz.pinned (.plain (OpenSpec.upto exactMakesSpec)) exactMakesUptoCard

/-- THE SECOND FORM's CARD OF 'voussoirlaw01.ExactArith'. -/
def exactArithUptoCard : Claim7 := { stood := { row := exactArithUptoRow, standIns := [], harness := (true, "6e0efb055d6d848472277647c6f24855d8550069d49cbab1fa5da5a46937733a"), looks := false }, kinds := [], alts := [], laidByText := true, laidKinds := [.data, .data, .data, .data, .pinned], laidTests := true, laidLooks := .later }
def ExactArithUptoCardSaid : Prop := Claim7.holds Tryz.pinned (.plain (OpenSpec.upto exactArithSpec)) exactArithUptoCard

/-- THE SECOND FORM's CARD OF 'voussoirlaw01.ExactWidens'. -/
def exactWidensUptoCard : Claim7 := { stood := { row := exactWidensUptoRow, standIns := [], harness := (true, "6e0efb055d6d848472277647c6f24855d8550069d49cbab1fa5da5a46937733a"), looks := false }, kinds := [], alts := [], laidByText := true, laidKinds := [.data, .data, .data, .data, .pinned], laidTests := true, laidLooks := .later }
def ExactWidensUptoCardSaid : Prop := Claim7.holds Tryz.pinned (.plain (OpenSpec.upto exactWidensSpec)) exactWidensUptoCard

/-- THE SECOND FORM's CARD OF 'voussoirlaw01.ExactSpans'. -/
def exactSpansUptoCard : Claim7 := { stood := { row := exactSpansUptoRow, standIns := [], harness := (true, "6e0efb055d6d848472277647c6f24855d8550069d49cbab1fa5da5a46937733a"), looks := false }, kinds := [], alts := [], laidByText := true, laidKinds := [.data, .data, .data, .data, .pinned], laidTests := true, laidLooks := .later }
def ExactSpansUptoCardSaid : Prop := Claim7.holds Tryz.pinned (.plain (OpenSpec.upto exactSpansSpec)) exactSpansUptoCard

/-- THE SECOND FORM's CARD OF 'voussoirlaw01.ExactHolds'. -/
def exactHoldsUptoCard : Claim7 := { stood := { row := exactHoldsUptoRow, standIns := [], harness := (true, "6e0efb055d6d848472277647c6f24855d8550069d49cbab1fa5da5a46937733a"), looks := false }, kinds := [], alts := [], laidByText := true, laidKinds := [.data, .data, .data, .data, .pinned], laidTests := true, laidLooks := .later }
def ExactHoldsUptoCardSaid : Prop := Claim7.holds Tryz.pinned (.plain (OpenSpec.upto exactHoldsSpec)) exactHoldsUptoCard
end Rows
end Go.Proofs.YtljmndkpodcdnaaGreatDoor
