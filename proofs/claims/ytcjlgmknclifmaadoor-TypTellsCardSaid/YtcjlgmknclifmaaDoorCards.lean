/-
  DERIVED. GIVEN WITH THE SEED: THE CARDS: each row of YtcjlgmknclifmaaDoorRows.lean that lists a variable, with what it lists TIED to the program's text (the seventh form; the later family's looks); each row that meets fmt, with fmt's text TOLD by the authors' own Lean function (tested against real Go, not proved from fmt's source: count such statements apart). THE CARD IS WHAT COUNTS. Prove the row's statement (the work); the ties are given (YtcjlgmknclifmaaDoorTie.lean); close each card by the builder's one call (the guide's Derived/Test/ToyasCard.lean, 'card_holds'). Laid BY PROGRAM, IN A SANDBOX (cutbox-door.mjs). By AI agents, Wed Nov 11 2026. No macro, syntax, notation, axiom, sorry.
-/
import Derived.Test.YtcjlgmknclifmaaDoorRows
import GoSem.ClaimSeven
namespace Go.Proofs.YtcjlgmknclifmaaDoor
namespace Rows

/-- THE TIED CARD OF 'emissarylaw8.TypTells'. -/
def typTellsCard : Claim7 := { stood := { row := typTellsRow, standIns := [], harness := (true, "cc07098acf69d0732724e087d47d5dac4868ba21143880a6ee599ed9d8683ce8"), looks := false }, kinds := [], alts := [], laidByText := true, laidKinds := [.data, .data, .data], laidTests := true, laidLooks := .later }
def TypTellsCardSaid : Prop := Claim7.holds Tryd.pinned (.plain (OpenSpec.ofChange typTellsSpec)) typTellsCard

/-- THE TIED CARD OF 'emissarylaw8.TypNorm'. -/
def typNormCard : Claim7 := { stood := { row := typNormRow, standIns := [], harness := (true, "cc07098acf69d0732724e087d47d5dac4868ba21143880a6ee599ed9d8683ce8"), looks := false }, kinds := [], alts := [], laidByText := true, laidKinds := [.data, .data, .data], laidTests := true, laidLooks := .later }
def TypNormCardSaid : Prop := Claim7.holds Tryd.pinned (.plain (OpenSpec.ofChange typNormSpec)) typNormCard

/-- THE TIED CARD OF 'emissarylaw8.TypOdd'. -/
def typOddCard : Claim7 := { stood := { row := typOddRow, standIns := [], harness := (true, "cc07098acf69d0732724e087d47d5dac4868ba21143880a6ee599ed9d8683ce8"), looks := false }, kinds := [], alts := [], laidByText := true, laidKinds := [.data, .data, .data], laidTests := true, laidLooks := .later }
def TypOddCardSaid : Prop := Claim7.holds Tryd.pinned (.plain (OpenSpec.ofChange typOddSpec)) typOddCard

/-- THE TIED CARD OF 'emissarylaw8.TypSent'. -/
def typSentCard : Claim7 := { stood := { row := typSentRow, standIns := [], harness := (true, "cc07098acf69d0732724e087d47d5dac4868ba21143880a6ee599ed9d8683ce8"), looks := false }, kinds := [], alts := [], laidByText := true, laidKinds := [.data, .data, .data], laidTests := true, laidLooks := .later }
def TypSentCardSaid : Prop := Claim7.holds Tryd.pinned (.plain (OpenSpec.ofChange typSentSpec)) typSentCard

/-- THE TIED CARD OF 'emissarylaw8.TypSame'. -/
def typSameCard : Claim7 := { stood := { row := typSameRow, standIns := [], harness := (true, "cc07098acf69d0732724e087d47d5dac4868ba21143880a6ee599ed9d8683ce8"), looks := false }, kinds := [], alts := [], laidByText := true, laidKinds := [.data, .data, .data], laidTests := true, laidLooks := .later }
def TypSameCardSaid : Prop := Claim7.holds Tryd.pinned (.plain (OpenSpec.ofChange typSameSpec)) typSameCard

/-- THE SECOND FORM's CARD OF 'emissarylaw8.TypTells'. -/
def typTellsUptoCard : Claim7 := { stood := { row := typTellsUptoRow, standIns := [], harness := (true, "cc07098acf69d0732724e087d47d5dac4868ba21143880a6ee599ed9d8683ce8"), looks := false }, kinds := [], alts := [], laidByText := true, laidKinds := [.data, .data, .data], laidTests := true, laidLooks := .later }
def TypTellsUptoCardSaid : Prop := Claim7.holds Tryd.pinned (.plain (OpenSpec.upto typTellsSpec)) typTellsUptoCard

/-- THE SECOND FORM's CARD OF 'emissarylaw8.TypNorm'. -/
def typNormUptoCard : Claim7 := { stood := { row := typNormUptoRow, standIns := [], harness := (true, "cc07098acf69d0732724e087d47d5dac4868ba21143880a6ee599ed9d8683ce8"), looks := false }, kinds := [], alts := [], laidByText := true, laidKinds := [.data, .data, .data], laidTests := true, laidLooks := .later }
def TypNormUptoCardSaid : Prop := Claim7.holds Tryd.pinned (.plain (OpenSpec.upto typNormSpec)) typNormUptoCard

/-- THE SECOND FORM's CARD OF 'emissarylaw8.TypOdd'. -/
def typOddUptoCard : Claim7 := { stood := { row := typOddUptoRow, standIns := [], harness := (true, "cc07098acf69d0732724e087d47d5dac4868ba21143880a6ee599ed9d8683ce8"), looks := false }, kinds := [], alts := [], laidByText := true, laidKinds := [.data, .data, .data], laidTests := true, laidLooks := .later }
def TypOddUptoCardSaid : Prop := Claim7.holds Tryd.pinned (.plain (OpenSpec.upto typOddSpec)) typOddUptoCard

/-- THE SECOND FORM's CARD OF 'emissarylaw8.TypSent'. -/
def typSentUptoCard : Claim7 := { stood := { row := typSentUptoRow, standIns := [], harness := (true, "cc07098acf69d0732724e087d47d5dac4868ba21143880a6ee599ed9d8683ce8"), looks := false }, kinds := [], alts := [], laidByText := true, laidKinds := [.data, .data, .data], laidTests := true, laidLooks := .later }
def TypSentUptoCardSaid : Prop := Claim7.holds Tryd.pinned (.plain (OpenSpec.upto typSentSpec)) typSentUptoCard

/-- THE SECOND FORM's CARD OF 'emissarylaw8.TypSame'. -/
def typSameUptoCard : Claim7 := { stood := { row := typSameUptoRow, standIns := [], harness := (true, "cc07098acf69d0732724e087d47d5dac4868ba21143880a6ee599ed9d8683ce8"), looks := false }, kinds := [], alts := [], laidByText := true, laidKinds := [.data, .data, .data], laidTests := true, laidLooks := .later }
def TypSameUptoCardSaid : Prop := Claim7.holds Tryd.pinned (.plain (OpenSpec.upto typSameSpec)) typSameUptoCard
end Rows
end Go.Proofs.YtcjlgmknclifmaaDoor
