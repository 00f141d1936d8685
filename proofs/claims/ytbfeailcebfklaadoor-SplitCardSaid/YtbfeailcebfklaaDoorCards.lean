/-
  DERIVED. GIVEN WITH THE SEED: THE CARDS: each row of YtbfeailcebfklaaDoorRows.lean that lists a variable, with what it lists TIED to the program's text (the seventh form; the later family's looks); each row that meets fmt, with fmt's text TOLD by the authors' own Lean function (tested against real Go, not proved from fmt's source: count such statements apart). THE CARD IS WHAT COUNTS. Prove the row's statement (the work); the ties are given (YtbfeailcebfklaaDoorTie.lean); close each card by the builder's one call (the guide's Derived/Test/ToyasCard.lean, 'card_holds'). Laid BY PROGRAM, IN A SANDBOX (cutbox-door.mjs). By AI agents, Wed Nov 11 2026. No macro, syntax, notation, axiom, sorry.
-/
import Derived.Test.YtbfeailcebfklaaDoorRows
import GoSem.ClaimSeven
namespace Go.Proofs.YtbfeailcebfklaaDoor
namespace Rows

/-- THE TIED CARD OF 'mlcorelaw1.Tokens'. -/
def tokensCard : Claim7 := { stood := { row := tokensRow, standIns := [], harness := (true, "9a0497f014c4c98350b646c77f7413efb1e1c7a9c8190000d1348e9f74d0320d"), looks := false }, kinds := [], alts := [], laidByText := true, laidKinds := [.data], laidTests := true, laidLooks := .later }
def TokensCardSaid : Prop := Claim7.holds Tryd.pinned (.plain (OpenSpec.ofChange tokensSpec)) tokensCard

/-- THE TIED CARD OF 'mlcorelaw1.Split'. -/
def splitCard : Claim7 := { stood := { row := splitRow, standIns := [], harness := (true, "9a0497f014c4c98350b646c77f7413efb1e1c7a9c8190000d1348e9f74d0320d"), looks := false }, kinds := [], alts := [], laidByText := true, laidKinds := [.data], laidTests := true, laidLooks := .later }
def SplitCardSaid : Prop := Claim7.holds Tryd.pinned (.plain (OpenSpec.ofChange splitSpec)) splitCard

/-- THE TIED CARD OF 'mlcorelaw1.Quotes'. -/
def quotesCard : Claim7 := { stood := { row := quotesRow, standIns := [], harness := (true, "9a0497f014c4c98350b646c77f7413efb1e1c7a9c8190000d1348e9f74d0320d"), looks := false }, kinds := [], alts := [], laidByText := true, laidKinds := [.data], laidTests := true, laidLooks := .later }
def QuotesCardSaid : Prop := Claim7.holds Tryd.pinned (.plain (OpenSpec.ofChange quotesSpec)) quotesCard

/-- THE SECOND FORM's CARD OF 'mlcorelaw1.Tokens'. -/
def tokensUptoCard : Claim7 := { stood := { row := tokensUptoRow, standIns := [], harness := (true, "9a0497f014c4c98350b646c77f7413efb1e1c7a9c8190000d1348e9f74d0320d"), looks := false }, kinds := [], alts := [], laidByText := true, laidKinds := [.data], laidTests := true, laidLooks := .later }
def TokensUptoCardSaid : Prop := Claim7.holds Tryd.pinned (.plain (OpenSpec.upto tokensSpec)) tokensUptoCard

/-- THE SECOND FORM's CARD OF 'mlcorelaw1.Split'. -/
def splitUptoCard : Claim7 := { stood := { row := splitUptoRow, standIns := [], harness := (true, "9a0497f014c4c98350b646c77f7413efb1e1c7a9c8190000d1348e9f74d0320d"), looks := false }, kinds := [], alts := [], laidByText := true, laidKinds := [.data], laidTests := true, laidLooks := .later }
def SplitUptoCardSaid : Prop := Claim7.holds Tryd.pinned (.plain (OpenSpec.upto splitSpec)) splitUptoCard

/-- THE SECOND FORM's CARD OF 'mlcorelaw1.Quotes'. -/
def quotesUptoCard : Claim7 := { stood := { row := quotesUptoRow, standIns := [], harness := (true, "9a0497f014c4c98350b646c77f7413efb1e1c7a9c8190000d1348e9f74d0320d"), looks := false }, kinds := [], alts := [], laidByText := true, laidKinds := [.data], laidTests := true, laidLooks := .later }
def QuotesUptoCardSaid : Prop := Claim7.holds Tryd.pinned (.plain (OpenSpec.upto quotesSpec)) quotesUptoCard
end Rows
end Go.Proofs.YtbfeailcebfklaaDoor
