/-
  DERIVED. GIVEN WITH THE SEED: THE CARDS: each row of YteocofoocbnfnaaDoorRows.lean that lists a variable, with what it lists TIED to the program's text (the seventh form; the later family's looks); each row that meets fmt, with fmt's text TOLD by the authors' own Lean function (tested against real Go, not proved from fmt's source: count such statements apart). THE CARD IS WHAT COUNTS. Prove the row's statement (the work); the ties are given (YteocofoocbnfnaaDoorTie.lean); close each card by the builder's one call (the guide's Derived/Test/ToyasCard.lean, 'card_holds'). Laid BY PROGRAM, IN A SANDBOX (cutbox-door.mjs). By AI agents, Wed Nov 11 2026. No macro, syntax, notation, axiom, sorry.
-/
import Derived.Test.YteocofoocbnfnaaDoorRows
import GoSem.ClaimSeven
namespace Go.Proofs.YteocofoocbnfnaaDoor
namespace Rows

/-- THE TIED CARD OF 'treadwheellaw05.FixedMul'. -/
def fixedMulCard : Claim7 := { stood := { row := fixedMulRow, standIns := [], harness := (true, "f88d5fe1e783e56fb02fb00bb603e250ff840dd50130989a6bf2a947efd33f86"), looks := false }, kinds := [], alts := [], laidByText := true, laidKinds := [.data, .data, .data], laidTests := true, laidLooks := .later }
def FixedMulCardSaid : Prop := Claim7.holds Tryd.pinned (.plain (OpenSpec.ofChange fixedMulSpec)) fixedMulCard

/-- THE TIED CARD OF 'treadwheellaw05.FixedShare'. -/
def fixedShareCard : Claim7 := { stood := { row := fixedShareRow, standIns := [], harness := (true, "f88d5fe1e783e56fb02fb00bb603e250ff840dd50130989a6bf2a947efd33f86"), looks := false }, kinds := [], alts := [], laidByText := true, laidKinds := [.data, .data, .data], laidTests := true, laidLooks := .later }
def FixedShareCardSaid : Prop := Claim7.holds Tryd.pinned (.plain (OpenSpec.ofChange fixedShareSpec)) fixedShareCard

/-- THE TIED CARD OF 'treadwheellaw05.FixedAdd'. -/
def fixedAddCard : Claim7 := { stood := { row := fixedAddRow, standIns := [], harness := (true, "f88d5fe1e783e56fb02fb00bb603e250ff840dd50130989a6bf2a947efd33f86"), looks := false }, kinds := [], alts := [], laidByText := true, laidKinds := [.data, .data, .data], laidTests := true, laidLooks := .later }
def FixedAddCardSaid : Prop := Claim7.holds Tryd.pinned (.plain (OpenSpec.ofChange fixedAddSpec)) fixedAddCard

/-- THE TIED CARD OF 'treadwheellaw05.FixedSums'. -/
def fixedSumsCard : Claim7 := { stood := { row := fixedSumsRow, standIns := [], harness := (true, "f88d5fe1e783e56fb02fb00bb603e250ff840dd50130989a6bf2a947efd33f86"), looks := false }, kinds := [], alts := [], laidByText := true, laidKinds := [.data, .data, .data], laidTests := true, laidLooks := .later }
def FixedSumsCardSaid : Prop := Claim7.holds Tryd.pinned (.plain (OpenSpec.ofChange fixedSumsSpec)) fixedSumsCard

/-- THE TIED CARD OF 'treadwheellaw05.FixedText'. -/
def fixedTextCard : Claim7 := { stood := { row := fixedTextRow, standIns := [], harness := (true, "f88d5fe1e783e56fb02fb00bb603e250ff840dd50130989a6bf2a947efd33f86"), looks := false }, kinds := [], alts := [], laidByText := true, laidKinds := [.data, .data, .data], laidTests := true, laidLooks := .later }
def FixedTextCardSaid : Prop := Claim7.holds Tryd.pinned (.plain (OpenSpec.ofChange fixedTextSpec)) fixedTextCard

/-- THE TIED CARD OF 'treadwheellaw05.FixedKnown'. -/
def fixedKnownCard : Claim7 := { stood := { row := fixedKnownRow, standIns := [], harness := (true, "f88d5fe1e783e56fb02fb00bb603e250ff840dd50130989a6bf2a947efd33f86"), looks := false }, kinds := [], alts := [], laidByText := true, laidKinds := [.data, .data, .data], laidTests := true, laidLooks := .later }
def FixedKnownCardSaid : Prop := Claim7.holds Tryd.pinned (.plain (OpenSpec.ofChange fixedKnownSpec)) fixedKnownCard

/-- THE SECOND FORM's CARD OF 'treadwheellaw05.FixedMul'. -/
def fixedMulUptoCard : Claim7 := { stood := { row := fixedMulUptoRow, standIns := [], harness := (true, "f88d5fe1e783e56fb02fb00bb603e250ff840dd50130989a6bf2a947efd33f86"), looks := false }, kinds := [], alts := [], laidByText := true, laidKinds := [.data, .data, .data], laidTests := true, laidLooks := .later }
def FixedMulUptoCardSaid : Prop := Claim7.holds Tryd.pinned (.plain (OpenSpec.upto fixedMulSpec)) fixedMulUptoCard

/-- THE SECOND FORM's CARD OF 'treadwheellaw05.FixedShare'. -/
def fixedShareUptoCard : Claim7 := { stood := { row := fixedShareUptoRow, standIns := [], harness := (true, "f88d5fe1e783e56fb02fb00bb603e250ff840dd50130989a6bf2a947efd33f86"), looks := false }, kinds := [], alts := [], laidByText := true, laidKinds := [.data, .data, .data], laidTests := true, laidLooks := .later }
def FixedShareUptoCardSaid : Prop := Claim7.holds Tryd.pinned (.plain (OpenSpec.upto fixedShareSpec)) fixedShareUptoCard

/-- THE SECOND FORM's CARD OF 'treadwheellaw05.FixedAdd'. -/
def fixedAddUptoCard : Claim7 := { stood := { row := fixedAddUptoRow, standIns := [], harness := (true, "f88d5fe1e783e56fb02fb00bb603e250ff840dd50130989a6bf2a947efd33f86"), looks := false }, kinds := [], alts := [], laidByText := true, laidKinds := [.data, .data, .data], laidTests := true, laidLooks := .later }
def FixedAddUptoCardSaid : Prop := Claim7.holds Tryd.pinned (.plain (OpenSpec.upto fixedAddSpec)) fixedAddUptoCard

/-- THE SECOND FORM's CARD OF 'treadwheellaw05.FixedSums'. -/
def fixedSumsUptoCard : Claim7 := { stood := { row := fixedSumsUptoRow, standIns := [], harness := (true, "f88d5fe1e783e56fb02fb00bb603e250ff840dd50130989a6bf2a947efd33f86"), looks := false }, kinds := [], alts := [], laidByText := true, laidKinds := [.data, .data, .data], laidTests := true, laidLooks := .later }
def FixedSumsUptoCardSaid : Prop := Claim7.holds Tryd.pinned (.plain (OpenSpec.upto fixedSumsSpec)) fixedSumsUptoCard

/-- THE SECOND FORM's CARD OF 'treadwheellaw05.FixedText'. -/
def fixedTextUptoCard : Claim7 := { stood := { row := fixedTextUptoRow, standIns := [], harness := (true, "f88d5fe1e783e56fb02fb00bb603e250ff840dd50130989a6bf2a947efd33f86"), looks := false }, kinds := [], alts := [], laidByText := true, laidKinds := [.data, .data, .data], laidTests := true, laidLooks := .later }
def FixedTextUptoCardSaid : Prop := Claim7.holds Tryd.pinned (.plain (OpenSpec.upto fixedTextSpec)) fixedTextUptoCard

/-- THE SECOND FORM's CARD OF 'treadwheellaw05.FixedKnown'. -/
def fixedKnownUptoCard : Claim7 := { stood := { row := fixedKnownUptoRow, standIns := [], harness := (true, "f88d5fe1e783e56fb02fb00bb603e250ff840dd50130989a6bf2a947efd33f86"), looks := false }, kinds := [], alts := [], laidByText := true, laidKinds := [.data, .data, .data], laidTests := true, laidLooks := .later }
def FixedKnownUptoCardSaid : Prop := Claim7.holds Tryd.pinned (.plain (OpenSpec.upto fixedKnownSpec)) fixedKnownUptoCard
end Rows
end Go.Proofs.YteocofoocbnfnaaDoor
