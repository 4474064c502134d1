/-
  DERIVED. GIVEN WITH THE SEED: THE CARDS: each row of YtklcnffiplnifaaDoorRows.lean that lists a variable, with what it lists TIED to the program's text (the seventh form; the later family's looks); each row that meets fmt, with fmt's text TOLD by the authors' own Lean function (tested against real Go, not proved from fmt's source: count such statements apart). THE CARD IS WHAT COUNTS. Prove the row's statement (the work); the ties are given (YtklcnffiplnifaaDoorTie.lean); close each card by the builder's one call (the guide's Derived/Test/ToyasCard.lean, 'card_holds'). Laid BY PROGRAM, IN A SANDBOX (cutbox-door.mjs). By AI agents, Wed Nov 11 2026. No macro, syntax, notation, axiom, sorry.
-/
import Derived.Test.YtklcnffiplnifaaDoorRows
import GoSem.ClaimSeven
namespace Go.Proofs.YtklcnffiplnifaaDoor
namespace Rows

/-- THE TIED CARD OF 'tandemlaw01.CrcPieces'. -/
def crcPiecesCard : Claim7 := { stood := { row := crcPiecesRow, standIns := [], harness := (true, "f0389437a42d8dbafa6622f69ace7ce0adc1b6c93c789fb163a5c0d145441360"), looks := false }, kinds := [], alts := [], laidByText := true, laidKinds := [.data], laidTests := true, laidLooks := .later }
def CrcPiecesCardSaid : Prop := Claim7.holds Tryd.pinned (.plain (OpenSpec.ofChange crcPiecesSpec)) crcPiecesCard

/-- THE TIED CARD OF 'tandemlaw01.CrcTail'. -/
def crcTailCard : Claim7 := { stood := { row := crcTailRow, standIns := [], harness := (true, "f0389437a42d8dbafa6622f69ace7ce0adc1b6c93c789fb163a5c0d145441360"), looks := false }, kinds := [], alts := [], laidByText := true, laidKinds := [.data], laidTests := true, laidLooks := .later }
def CrcTailCardSaid : Prop := Claim7.holds Tryd.pinned (.plain (OpenSpec.ofChange crcTailSpec)) crcTailCard

/-- THE TIED CARD OF 'tandemlaw01.CrcXor'. -/
def crcXorCard : Claim7 := { stood := { row := crcXorRow, standIns := [], harness := (true, "f0389437a42d8dbafa6622f69ace7ce0adc1b6c93c789fb163a5c0d145441360"), looks := false }, kinds := [], alts := [], laidByText := true, laidKinds := [.data], laidTests := true, laidLooks := .later }
def CrcXorCardSaid : Prop := Claim7.holds Tryd.pinned (.plain (OpenSpec.ofChange crcXorSpec)) crcXorCard

/-- THE TIED CARD OF 'tandemlaw01.CrcSums'. -/
def crcSumsCard : Claim7 := { stood := { row := crcSumsRow, standIns := [], harness := (true, "f0389437a42d8dbafa6622f69ace7ce0adc1b6c93c789fb163a5c0d145441360"), looks := false }, kinds := [], alts := [], laidByText := true, laidKinds := [.data], laidTests := true, laidLooks := .later }
def CrcSumsCardSaid : Prop := Claim7.holds Tryd.pinned (.plain (OpenSpec.ofChange crcSumsSpec)) crcSumsCard

/-- THE TIED CARD OF 'tandemlaw01.CrcBursts'. -/
def crcBurstsCard : Claim7 := { stood := { row := crcBurstsRow, standIns := [], harness := (true, "f0389437a42d8dbafa6622f69ace7ce0adc1b6c93c789fb163a5c0d145441360"), looks := false }, kinds := [], alts := [], laidByText := true, laidKinds := [.data], laidTests := true, laidLooks := .later }
def CrcBurstsCardSaid : Prop := Claim7.holds Tryd.pinned (.plain (OpenSpec.ofChange crcBurstsSpec)) crcBurstsCard

/-- THE TIED CARD OF 'tandemlaw01.CrcKnown'. -/
def crcKnownCard : Claim7 := { stood := { row := crcKnownRow, standIns := [], harness := (true, "f0389437a42d8dbafa6622f69ace7ce0adc1b6c93c789fb163a5c0d145441360"), looks := false }, kinds := [], alts := [], laidByText := true, laidKinds := [.data], laidTests := true, laidLooks := .later }
def CrcKnownCardSaid : Prop := Claim7.holds Tryd.pinned (.plain (OpenSpec.ofChange crcKnownSpec)) crcKnownCard

/-- THE SECOND FORM's CARD OF 'tandemlaw01.CrcPieces'. -/
def crcPiecesUptoCard : Claim7 := { stood := { row := crcPiecesUptoRow, standIns := [], harness := (true, "f0389437a42d8dbafa6622f69ace7ce0adc1b6c93c789fb163a5c0d145441360"), looks := false }, kinds := [], alts := [], laidByText := true, laidKinds := [.data], laidTests := true, laidLooks := .later }
def CrcPiecesUptoCardSaid : Prop := Claim7.holds Tryd.pinned (.plain (OpenSpec.upto crcPiecesSpec)) crcPiecesUptoCard

/-- THE SECOND FORM's CARD OF 'tandemlaw01.CrcTail'. -/
def crcTailUptoCard : Claim7 := { stood := { row := crcTailUptoRow, standIns := [], harness := (true, "f0389437a42d8dbafa6622f69ace7ce0adc1b6c93c789fb163a5c0d145441360"), looks := false }, kinds := [], alts := [], laidByText := true, laidKinds := [.data], laidTests := true, laidLooks := .later }
def CrcTailUptoCardSaid : Prop := Claim7.holds Tryd.pinned (.plain (OpenSpec.upto crcTailSpec)) crcTailUptoCard

/-- THE SECOND FORM's CARD OF 'tandemlaw01.CrcXor'. -/
def crcXorUptoCard : Claim7 := { stood := { row := crcXorUptoRow, standIns := [], harness := (true, "f0389437a42d8dbafa6622f69ace7ce0adc1b6c93c789fb163a5c0d145441360"), looks := false }, kinds := [], alts := [], laidByText := true, laidKinds := [.data], laidTests := true, laidLooks := .later }
def CrcXorUptoCardSaid : Prop := Claim7.holds Tryd.pinned (.plain (OpenSpec.upto crcXorSpec)) crcXorUptoCard

/-- THE SECOND FORM's CARD OF 'tandemlaw01.CrcSums'. -/
def crcSumsUptoCard : Claim7 := { stood := { row := crcSumsUptoRow, standIns := [], harness := (true, "f0389437a42d8dbafa6622f69ace7ce0adc1b6c93c789fb163a5c0d145441360"), looks := false }, kinds := [], alts := [], laidByText := true, laidKinds := [.data], laidTests := true, laidLooks := .later }
def CrcSumsUptoCardSaid : Prop := Claim7.holds Tryd.pinned (.plain (OpenSpec.upto crcSumsSpec)) crcSumsUptoCard

/-- THE SECOND FORM's CARD OF 'tandemlaw01.CrcBursts'. -/
def crcBurstsUptoCard : Claim7 := { stood := { row := crcBurstsUptoRow, standIns := [], harness := (true, "f0389437a42d8dbafa6622f69ace7ce0adc1b6c93c789fb163a5c0d145441360"), looks := false }, kinds := [], alts := [], laidByText := true, laidKinds := [.data], laidTests := true, laidLooks := .later }
def CrcBurstsUptoCardSaid : Prop := Claim7.holds Tryd.pinned (.plain (OpenSpec.upto crcBurstsSpec)) crcBurstsUptoCard

/-- THE SECOND FORM's CARD OF 'tandemlaw01.CrcKnown'. -/
def crcKnownUptoCard : Claim7 := { stood := { row := crcKnownUptoRow, standIns := [], harness := (true, "f0389437a42d8dbafa6622f69ace7ce0adc1b6c93c789fb163a5c0d145441360"), looks := false }, kinds := [], alts := [], laidByText := true, laidKinds := [.data], laidTests := true, laidLooks := .later }
def CrcKnownUptoCardSaid : Prop := Claim7.holds Tryd.pinned (.plain (OpenSpec.upto crcKnownSpec)) crcKnownUptoCard
end Rows
end Go.Proofs.YtklcnffiplnifaaDoor
