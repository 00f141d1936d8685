/-
  DERIVED. GIVEN WITH THE SEED: THE CARDS: each row of YtebappmamaafaaaDoorRows.lean that lists a variable, with what it lists TIED to the program's text (the seventh form; the later family's looks); each row that meets fmt, with fmt's text TOLD by the authors' own Lean function (tested against real Go, not proved from fmt's source: count such statements apart). THE CARD IS WHAT COUNTS. Prove the row's statement (the work); the ties are given (YtebappmamaafaaaDoorTie.lean); close each card by the builder's one call (the guide's Derived/Test/ToyasCard.lean, 'card_holds'). Laid BY PROGRAM, IN A SANDBOX (cutbox-door.mjs). By AI agents, Wed Nov 11 2026. No macro, syntax, notation, axiom, sorry.
-/
import Derived.Test.YtebappmamaafaaaDoorRows
import GoSem.ClaimSeven
namespace Go.Proofs.YtebappmamaafaaaDoor
namespace Rows

/-- THE TIED CARD OF 'mlcorelaw12.Encodes'. -/
def encodesCard : Claim7 := { stood := { row := encodesRow, standIns := [], harness := (true, "9292140db0379907038ac877307a19a3c8095bb4c6f6ede773f4b0d932bfb6cc"), looks := true }, kinds := [], alts := [], laidByText := true, laidKinds := [.data], laidTests := true, laidLooks := .later }
def EncodesCardSaid : Prop := Claim7.holds Tryd.pinned (.plain (OpenSpec.ofChange encodesSpec)) encodesCard

/-- THE TIED CARD OF 'mlcorelaw12.Checks'. -/
def checksCard : Claim7 := { stood := { row := checksRow, standIns := [], harness := (true, "9292140db0379907038ac877307a19a3c8095bb4c6f6ede773f4b0d932bfb6cc"), looks := true }, kinds := [], alts := [], laidByText := true, laidKinds := [.data], laidTests := true, laidLooks := .later }
def ChecksCardSaid : Prop := Claim7.holds Tryd.pinned (.plain (OpenSpec.ofChange checksSpec)) checksCard

/-- THE TIED CARD OF 'mlcorelaw12.Decodes'. -/
def decodesCard : Claim7 := { stood := { row := decodesRow, standIns := [], harness := (true, "9292140db0379907038ac877307a19a3c8095bb4c6f6ede773f4b0d932bfb6cc"), looks := true }, kinds := [], alts := [], laidByText := true, laidKinds := [.handle, .data], laidTests := true, laidLooks := .later }
def DecodesCardSaid : Prop := Claim7.holds Tryd.pinned (.plain (OpenSpec.ofChange decodesSpec)) decodesCard

/-- THE TIED CARD OF 'mlcorelaw12.Round'. -/
def roundCard : Claim7 := { stood := { row := roundRow, standIns := [], harness := (true, "9292140db0379907038ac877307a19a3c8095bb4c6f6ede773f4b0d932bfb6cc"), looks := true }, kinds := [], alts := [], laidByText := true, laidKinds := [.handle, .data], laidTests := true, laidLooks := .later }
def RoundCardSaid : Prop := Claim7.holds Tryd.pinned (.plain (OpenSpec.ofChange roundSpec)) roundCard

/-- THE SECOND FORM's CARD OF 'mlcorelaw12.Encodes'. -/
def encodesUptoCard : Claim7 := { stood := { row := encodesUptoRow, standIns := [], harness := (true, "9292140db0379907038ac877307a19a3c8095bb4c6f6ede773f4b0d932bfb6cc"), looks := true }, kinds := [], alts := [], laidByText := true, laidKinds := [.data], laidTests := true, laidLooks := .later }
def EncodesUptoCardSaid : Prop := Claim7.holds Tryd.pinned (.plain (OpenSpec.upto encodesSpec)) encodesUptoCard

/-- THE SECOND FORM's CARD OF 'mlcorelaw12.Checks'. -/
def checksUptoCard : Claim7 := { stood := { row := checksUptoRow, standIns := [], harness := (true, "9292140db0379907038ac877307a19a3c8095bb4c6f6ede773f4b0d932bfb6cc"), looks := true }, kinds := [], alts := [], laidByText := true, laidKinds := [.data], laidTests := true, laidLooks := .later }
def ChecksUptoCardSaid : Prop := Claim7.holds Tryd.pinned (.plain (OpenSpec.upto checksSpec)) checksUptoCard

/-- THE SECOND FORM's CARD OF 'mlcorelaw12.Decodes'. -/
def decodesUptoCard : Claim7 := { stood := { row := decodesUptoRow, standIns := [], harness := (true, "9292140db0379907038ac877307a19a3c8095bb4c6f6ede773f4b0d932bfb6cc"), looks := true }, kinds := [], alts := [], laidByText := true, laidKinds := [.handle, .data], laidTests := true, laidLooks := .later }
def DecodesUptoCardSaid : Prop := Claim7.holds Tryd.pinned (.plain (OpenSpec.upto decodesSpec)) decodesUptoCard

/-- THE SECOND FORM's CARD OF 'mlcorelaw12.Round'. -/
def roundUptoCard : Claim7 := { stood := { row := roundUptoRow, standIns := [], harness := (true, "9292140db0379907038ac877307a19a3c8095bb4c6f6ede773f4b0d932bfb6cc"), looks := true }, kinds := [], alts := [], laidByText := true, laidKinds := [.handle, .data], laidTests := true, laidLooks := .later }
def RoundUptoCardSaid : Prop := Claim7.holds Tryd.pinned (.plain (OpenSpec.upto roundSpec)) roundUptoCard
end Rows
end Go.Proofs.YtebappmamaafaaaDoor
