/-
  DERIVED. GIVEN WITH THE SEED: THE CARDS: each row of YtofkiimaoahfjaaDoorRows.lean that lists a variable, with what it lists TIED to the program's text (the seventh form; the later family's looks); each row that meets fmt, with fmt's text TOLD by the authors' own Lean function (tested against real Go, not proved from fmt's source: count such statements apart). THE CARD IS WHAT COUNTS. Prove the row's statement (the work); the ties are given (YtofkiimaoahfjaaDoorTie.lean); close each card by the builder's one call (the guide's Derived/Test/ToyasCard.lean, 'card_holds'). Laid BY PROGRAM, IN A SANDBOX (cutbox-door.mjs). By AI agents, Wed Nov 11 2026. No macro, syntax, notation, axiom, sorry.
-/
import Derived.Test.YtofkiimaoahfjaaDoorRows
import GoSem.ClaimSeven
namespace Go.Proofs.YtofkiimaoahfjaaDoor
namespace Rows

/-- THE TIED CARD OF 'shellaclaw09.SubframeWrites'. -/
def subframeWritesCard : Claim7 := { stood := { row := subframeWritesRow, standIns := [], harness := (true, "e3b99c6d12af7ca71670f230fc436ce75461d4e606e5229b5f002967e7bf257a"), looks := false }, kinds := [], alts := [], laidByText := true, laidKinds := [.data], laidTests := true, laidLooks := .later }
def SubframeWritesCardSaid : Prop := Claim7.holds Tryd.pinned (.plain (OpenSpec.ofChange subframeWritesSpec)) subframeWritesCard

/-- THE TIED CARD OF 'shellaclaw09.SubframeShrinks'. -/
def subframeShrinksCard : Claim7 := { stood := { row := subframeShrinksRow, standIns := [], harness := (true, "e3b99c6d12af7ca71670f230fc436ce75461d4e606e5229b5f002967e7bf257a"), looks := false }, kinds := [], alts := [], laidByText := true, laidKinds := [.data], laidTests := true, laidLooks := .later }
def SubframeShrinksCardSaid : Prop := Claim7.holds Tryd.pinned (.plain (OpenSpec.ofChange subframeShrinksSpec)) subframeShrinksCard

/-- THE TIED CARD OF 'shellaclaw09.SubframeReads'. -/
def subframeReadsCard : Claim7 := { stood := { row := subframeReadsRow, standIns := [], harness := (true, "e3b99c6d12af7ca71670f230fc436ce75461d4e606e5229b5f002967e7bf257a"), looks := false }, kinds := [], alts := [], laidByText := true, laidKinds := [.data], laidTests := true, laidLooks := .later }
def SubframeReadsCardSaid : Prop := Claim7.holds Tryd.pinned (.plain (OpenSpec.ofChange subframeReadsSpec)) subframeReadsCard

/-- THE TIED CARD OF 'shellaclaw09.SubframeBack'. -/
def subframeBackCard : Claim7 := { stood := { row := subframeBackRow, standIns := [], harness := (true, "e3b99c6d12af7ca71670f230fc436ce75461d4e606e5229b5f002967e7bf257a"), looks := false }, kinds := [], alts := [], laidByText := true, laidKinds := [.data], laidTests := true, laidLooks := .later }
def SubframeBackCardSaid : Prop := Claim7.holds Tryd.pinned (.plain (OpenSpec.ofChange subframeBackSpec)) subframeBackCard

/-- THE TIED CARD OF 'shellaclaw09.SubframeApart'. -/
def subframeApartCard : Claim7 := { stood := { row := subframeApartRow, standIns := [], harness := (true, "e3b99c6d12af7ca71670f230fc436ce75461d4e606e5229b5f002967e7bf257a"), looks := false }, kinds := [], alts := [], laidByText := true, laidKinds := [.data], laidTests := true, laidLooks := .later }
def SubframeApartCardSaid : Prop := Claim7.holds Tryd.pinned (.plain (OpenSpec.ofChange subframeApartSpec)) subframeApartCard

/-- THE TIED CARD OF 'shellaclaw09.SubframeDeeper'. -/
def subframeDeeperCard : Claim7 := { stood := { row := subframeDeeperRow, standIns := [], harness := (true, "e3b99c6d12af7ca71670f230fc436ce75461d4e606e5229b5f002967e7bf257a"), looks := false }, kinds := [], alts := [], laidByText := true, laidKinds := [.data], laidTests := true, laidLooks := .later }
def SubframeDeeperCardSaid : Prop := Claim7.holds Tryd.pinned (.plain (OpenSpec.ofChange subframeDeeperSpec)) subframeDeeperCard

/-- THE SECOND FORM's CARD OF 'shellaclaw09.SubframeWrites'. -/
def subframeWritesUptoCard : Claim7 := { stood := { row := subframeWritesUptoRow, standIns := [], harness := (true, "e3b99c6d12af7ca71670f230fc436ce75461d4e606e5229b5f002967e7bf257a"), looks := false }, kinds := [], alts := [], laidByText := true, laidKinds := [.data], laidTests := true, laidLooks := .later }
def SubframeWritesUptoCardSaid : Prop := Claim7.holds Tryd.pinned (.plain (OpenSpec.upto subframeWritesSpec)) subframeWritesUptoCard

/-- THE SECOND FORM's CARD OF 'shellaclaw09.SubframeShrinks'. -/
def subframeShrinksUptoCard : Claim7 := { stood := { row := subframeShrinksUptoRow, standIns := [], harness := (true, "e3b99c6d12af7ca71670f230fc436ce75461d4e606e5229b5f002967e7bf257a"), looks := false }, kinds := [], alts := [], laidByText := true, laidKinds := [.data], laidTests := true, laidLooks := .later }
def SubframeShrinksUptoCardSaid : Prop := Claim7.holds Tryd.pinned (.plain (OpenSpec.upto subframeShrinksSpec)) subframeShrinksUptoCard

/-- THE SECOND FORM's CARD OF 'shellaclaw09.SubframeReads'. -/
def subframeReadsUptoCard : Claim7 := { stood := { row := subframeReadsUptoRow, standIns := [], harness := (true, "e3b99c6d12af7ca71670f230fc436ce75461d4e606e5229b5f002967e7bf257a"), looks := false }, kinds := [], alts := [], laidByText := true, laidKinds := [.data], laidTests := true, laidLooks := .later }
def SubframeReadsUptoCardSaid : Prop := Claim7.holds Tryd.pinned (.plain (OpenSpec.upto subframeReadsSpec)) subframeReadsUptoCard

/-- THE SECOND FORM's CARD OF 'shellaclaw09.SubframeBack'. -/
def subframeBackUptoCard : Claim7 := { stood := { row := subframeBackUptoRow, standIns := [], harness := (true, "e3b99c6d12af7ca71670f230fc436ce75461d4e606e5229b5f002967e7bf257a"), looks := false }, kinds := [], alts := [], laidByText := true, laidKinds := [.data], laidTests := true, laidLooks := .later }
def SubframeBackUptoCardSaid : Prop := Claim7.holds Tryd.pinned (.plain (OpenSpec.upto subframeBackSpec)) subframeBackUptoCard

/-- THE SECOND FORM's CARD OF 'shellaclaw09.SubframeApart'. -/
def subframeApartUptoCard : Claim7 := { stood := { row := subframeApartUptoRow, standIns := [], harness := (true, "e3b99c6d12af7ca71670f230fc436ce75461d4e606e5229b5f002967e7bf257a"), looks := false }, kinds := [], alts := [], laidByText := true, laidKinds := [.data], laidTests := true, laidLooks := .later }
def SubframeApartUptoCardSaid : Prop := Claim7.holds Tryd.pinned (.plain (OpenSpec.upto subframeApartSpec)) subframeApartUptoCard

/-- THE SECOND FORM's CARD OF 'shellaclaw09.SubframeDeeper'. -/
def subframeDeeperUptoCard : Claim7 := { stood := { row := subframeDeeperUptoRow, standIns := [], harness := (true, "e3b99c6d12af7ca71670f230fc436ce75461d4e606e5229b5f002967e7bf257a"), looks := false }, kinds := [], alts := [], laidByText := true, laidKinds := [.data], laidTests := true, laidLooks := .later }
def SubframeDeeperUptoCardSaid : Prop := Claim7.holds Tryd.pinned (.plain (OpenSpec.upto subframeDeeperSpec)) subframeDeeperUptoCard
end Rows
end Go.Proofs.YtofkiimaoahfjaaDoor
