/-
  NARROWER THAN 'FOR EVERY INPUT', by the rows' own cells (each row's printed sentence says how): Tokens: laid · Split: laid · Quotes: laid.
  DERIVED. THE GIVEN ROWS OF THIS SEAT. 3 by the template 'for every input the law returns true; each argument reads behind the call as it read before'; 0 by the template 'total and deterministic' (their statements: YtbfeailcebfklaaDoorTotals.lean).
  GIVEN WITH THE SEED: the statements are not yours to turn. If you find one false, say at which input.
  Laid BY PROGRAM, IN A SANDBOX (cutbox-rows.mjs): the forced cells as the released guide's own fill.sh prints them over the translation 5483e29916df1f87… (all of the seat's roots in one cut). By AI agents, Wed Nov 11 2026. No macro, syntax, notation, axiom, sorry.
-/
import Derived.Test.YtbfeailcebfklaaDoorChecked
import GoSem.Claim
import GoSem.ClaimJoined
import GoSem.ClaimMapViews
import Derived.JoinedTies
import Derived.KernelRfl
namespace Go.Proofs.YtbfeailcebfklaaDoor
/- THE CELL 'sum', in the pinned program and in every row, IS THE sha256 OF THE DUMP (.gsa) THAT YtbfeailcebfklaaDoorProg.lean LOADS. Nothing in Lean hashes anything: it is a label: what it is worth is what the hold of that sum in a sandbox is worth. -/
noncomputable def Tryd.pinned : Pinned := { name := "ytbfeailcebfklaadoor", sum := "5483e29916df1f87bcab3620029d32af59a5941f11236d5b5852830ee5e4540c", checked := Tryd.checked }
namespace Rows
def none {H : Type} : Left H := { results := [], args := [] }

/- WHAT THE LISTED PACKAGE-LEVEL VARIABLES READ AS WHEN THE CALL BEGINS. Each datum BY PROGRAM (the guide's laid-datum.mjs) off the statement by which the dump's own 'gosem.cut.vars' lays the variable. In a bare row this is a premise. The card (YtbfeailcebfklaaDoorCards.lean) ties it to the program's text. -/
def laid_mlcore_lexer_sorts {H : Type} : DataW H := .agg [.lit (.int .i64 0), .lit (.int .i64 0), .lit (.int .i64 0), .lit (.int .i64 0), .lit (.int .i64 0), .lit (.int .i64 0), .lit (.int .i64 0), .lit (.int .i64 0), .lit (.int .i64 0), .lit (.int .i64 1), .lit (.int .i64 1), .lit (.int .i64 0), .lit (.int .i64 0), .lit (.int .i64 0), .lit (.int .i64 0), .lit (.int .i64 0), .lit (.int .i64 0), .lit (.int .i64 0), .lit (.int .i64 0), .lit (.int .i64 0), .lit (.int .i64 0), .lit (.int .i64 0), .lit (.int .i64 0), .lit (.int .i64 0), .lit (.int .i64 0), .lit (.int .i64 0), .lit (.int .i64 0), .lit (.int .i64 0), .lit (.int .i64 0), .lit (.int .i64 0), .lit (.int .i64 0), .lit (.int .i64 0), .lit (.int .i64 1), .lit (.int .i64 6), .lit (.int .i64 7), .lit (.int .i64 0), .lit (.int .i64 0), .lit (.int .i64 6), .lit (.int .i64 0), .lit (.int .i64 5), .lit (.int .i64 6), .lit (.int .i64 6), .lit (.int .i64 6), .lit (.int .i64 6), .lit (.int .i64 6), .lit (.int .i64 6), .lit (.int .i64 6), .lit (.int .i64 6), .lit (.int .i64 2), .lit (.int .i64 2), .lit (.int .i64 2), .lit (.int .i64 2), .lit (.int .i64 2), .lit (.int .i64 2), .lit (.int .i64 2), .lit (.int .i64 2), .lit (.int .i64 2), .lit (.int .i64 2), .lit (.int .i64 6), .lit (.int .i64 6), .lit (.int .i64 6), .lit (.int .i64 6), .lit (.int .i64 6), .lit (.int .i64 0), .lit (.int .i64 0), .lit (.int .i64 4), .lit (.int .i64 4), .lit (.int .i64 4), .lit (.int .i64 4), .lit (.int .i64 4), .lit (.int .i64 4), .lit (.int .i64 4), .lit (.int .i64 4), .lit (.int .i64 4), .lit (.int .i64 4), .lit (.int .i64 4), .lit (.int .i64 4), .lit (.int .i64 4), .lit (.int .i64 4), .lit (.int .i64 4), .lit (.int .i64 4), .lit (.int .i64 4), .lit (.int .i64 4), .lit (.int .i64 4), .lit (.int .i64 4), .lit (.int .i64 4), .lit (.int .i64 4), .lit (.int .i64 4), .lit (.int .i64 4), .lit (.int .i64 4), .lit (.int .i64 4), .lit (.int .i64 6), .lit (.int .i64 0), .lit (.int .i64 6), .lit (.int .i64 6), .lit (.int .i64 3), .lit (.int .i64 0), .lit (.int .i64 3), .lit (.int .i64 3), .lit (.int .i64 3), .lit (.int .i64 3), .lit (.int .i64 3), .lit (.int .i64 3), .lit (.int .i64 3), .lit (.int .i64 3), .lit (.int .i64 3), .lit (.int .i64 3), .lit (.int .i64 3), .lit (.int .i64 3), .lit (.int .i64 3), .lit (.int .i64 3), .lit (.int .i64 3), .lit (.int .i64 3), .lit (.int .i64 3), .lit (.int .i64 3), .lit (.int .i64 3), .lit (.int .i64 3), .lit (.int .i64 3), .lit (.int .i64 3), .lit (.int .i64 3), .lit (.int .i64 3), .lit (.int .i64 3), .lit (.int .i64 3), .lit (.int .i64 0), .lit (.int .i64 6), .lit (.int .i64 0), .lit (.int .i64 6), .lit (.int .i64 0)]

/-- 'mlcorelaw1.Tokens': WHATEVER THE INPUT: true; the input reads as it did. -/
def tokensSpec : ChangeSpec := { name := "tokens", fn := fun _ => fun
  | [d] => { results := [.lit (.bool true)], args := [d] }
  | _ => none }
def tokensRow : OpenClaim := { program := "ytbfeailcebfklaadoor", sum := "5483e29916df1f87bcab3620029d32af59a5941f11236d5b5852830ee5e4540c", func := "mlcore/mlcorelaw1.Tokens", spec := "tokens", named := ["mlcore/lexer.sorts"], apart := false, laid := [("mlcore/lexer.sorts", laid_mlcore_lexer_sorts)] }
def TokensSaid : Prop := tokensRow.holds Tryd.pinned (OpenSpec.ofChange tokensSpec)

/-- ITS FALSE NEIGHBOUR: 'it returns false'. Refute it at one input. -/
def tokensWrong : ChangeSpec := { name := "tokens", fn := fun _ => fun
  | [d] => { results := [.lit (.bool false)], args := [d] }
  | _ => none }
def TokensWrongFalsely : Prop := tokensRow.holds Tryd.pinned (OpenSpec.ofChange tokensWrong)

/-- 'mlcorelaw1.Split': WHATEVER THE INPUT: true; the input reads as it did. -/
def splitSpec : ChangeSpec := { name := "split", fn := fun _ => fun
  | [d1, d2] => { results := [.lit (.bool true)], args := [d1, d2] }
  | _ => none }
def splitRow : OpenClaim := { program := "ytbfeailcebfklaadoor", sum := "5483e29916df1f87bcab3620029d32af59a5941f11236d5b5852830ee5e4540c", func := "mlcore/mlcorelaw1.Split", spec := "split", named := ["mlcore/lexer.sorts"], apart := false, laid := [("mlcore/lexer.sorts", laid_mlcore_lexer_sorts)] }
def SplitSaid : Prop := splitRow.holds Tryd.pinned (OpenSpec.ofChange splitSpec)

/-- ITS FALSE NEIGHBOUR: 'it returns false'. Refute it at one input. -/
def splitWrong : ChangeSpec := { name := "split", fn := fun _ => fun
  | [d1, d2] => { results := [.lit (.bool false)], args := [d1, d2] }
  | _ => none }
def SplitWrongFalsely : Prop := splitRow.holds Tryd.pinned (OpenSpec.ofChange splitWrong)

/-- 'mlcorelaw1.Quotes': WHATEVER THE INPUT: true; the input reads as it did. -/
def quotesSpec : ChangeSpec := { name := "quotes", fn := fun _ => fun
  | [d] => { results := [.lit (.bool true)], args := [d] }
  | _ => none }
def quotesRow : OpenClaim := { program := "ytbfeailcebfklaadoor", sum := "5483e29916df1f87bcab3620029d32af59a5941f11236d5b5852830ee5e4540c", func := "mlcore/mlcorelaw1.Quotes", spec := "quotes", named := ["mlcore/lexer.sorts"], apart := false, laid := [("mlcore/lexer.sorts", laid_mlcore_lexer_sorts)] }
def QuotesSaid : Prop := quotesRow.holds Tryd.pinned (OpenSpec.ofChange quotesSpec)

/-- ITS FALSE NEIGHBOUR: 'it returns false'. Refute it at one input. -/
def quotesWrong : ChangeSpec := { name := "quotes", fn := fun _ => fun
  | [d] => { results := [.lit (.bool false)], args := [d] }
  | _ => none }
def QuotesWrongFalsely : Prop := quotesRow.holds Tryd.pinned (OpenSpec.ofChange quotesWrong)

/- THE SECOND FORM. 'bulk': how many values and letters a reading holds, each counted each time it is reached (what is shared counts as often as it is met; a slice's spare places count too). A statement '..UptoSaid' is the law's where the arguments, and the package variables that the reading takes, are together of bulk at most 1048576: NARROWER than '..Said'. Prove '..Said' where nothing that the law and all that it calls make is longer than what came in: it says more and counts as full. Else prove '..UptoSaid'. A law counts once. -/
mutual
def uptoBulk {H : Type} : DataW H → Nat
  | .lit (.string bytes) => bytes.length + 1
  | .lit _ => 1
  | .nil => 1
  | .ptr d => uptoBulk d + 1
  | .slice elems spare => uptoBulkAll elems + uptoBulkAll spare + 1
  | .agg parts => uptoBulkAll parts + 1
  | .iface _ d => uptoBulk d + 1
  | .map entries => uptoBulkEntries entries + 1
  | .held _ => 1
def uptoBulkAll {H : Type} : List (DataW H) → Nat
  | [] => 0
  | d :: r => uptoBulk d + uptoBulkAll r
def uptoBulkEntries {H : Type} : List (Lit × DataW H) → Nat
  | [] => 0
  | x :: r => uptoBulkEntry x + uptoBulkEntries r
def uptoBulkEntry {H : Type} : Lit × DataW H → Nat
  | (.string bytes, d) => bytes.length + uptoBulk d + 1
  | (_, d) => uptoBulk d + 1
 end
def uptoSmall : (H : Type) → List (DataW H) → Bool := fun _ ds => decide (uptoBulkAll ds ≤ 1048576)
def OpenSpec.upto (s : _root_.Go.ChangeSpec) : _root_.Go.OpenSpec := { _root_.Go.OpenSpec.ofChange s with cond := some uptoSmall }

/-- 'mlcorelaw1.Tokens', WHERE WHAT IT READS IS OF BULK AT MOST 1048576: true; the input reads as it did. -/
def tokensUptoRow : OpenClaim := { program := "ytbfeailcebfklaadoor", sum := "5483e29916df1f87bcab3620029d32af59a5941f11236d5b5852830ee5e4540c", func := "mlcore/mlcorelaw1.Tokens", spec := "tokens", named := ["mlcore/lexer.sorts"], apart := false, laid := [("mlcore/lexer.sorts", laid_mlcore_lexer_sorts)], narrowed := true }
def TokensUptoSaid : Prop := tokensUptoRow.holds Tryd.pinned (OpenSpec.upto tokensSpec)

/-- 'mlcorelaw1.Split', WHERE WHAT IT READS IS OF BULK AT MOST 1048576: true; the input reads as it did. -/
def splitUptoRow : OpenClaim := { program := "ytbfeailcebfklaadoor", sum := "5483e29916df1f87bcab3620029d32af59a5941f11236d5b5852830ee5e4540c", func := "mlcore/mlcorelaw1.Split", spec := "split", named := ["mlcore/lexer.sorts"], apart := false, laid := [("mlcore/lexer.sorts", laid_mlcore_lexer_sorts)], narrowed := true }
def SplitUptoSaid : Prop := splitUptoRow.holds Tryd.pinned (OpenSpec.upto splitSpec)

/-- 'mlcorelaw1.Quotes', WHERE WHAT IT READS IS OF BULK AT MOST 1048576: true; the input reads as it did. -/
def quotesUptoRow : OpenClaim := { program := "ytbfeailcebfklaadoor", sum := "5483e29916df1f87bcab3620029d32af59a5941f11236d5b5852830ee5e4540c", func := "mlcore/mlcorelaw1.Quotes", spec := "quotes", named := ["mlcore/lexer.sorts"], apart := false, laid := [("mlcore/lexer.sorts", laid_mlcore_lexer_sorts)], narrowed := true }
def QuotesUptoSaid : Prop := quotesUptoRow.holds Tryd.pinned (OpenSpec.upto quotesSpec)

end Rows
end Go.Proofs.YtbfeailcebfklaaDoor
