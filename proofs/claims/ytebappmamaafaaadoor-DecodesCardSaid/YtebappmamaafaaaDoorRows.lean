/-
  NARROWER THAN 'FOR EVERY INPUT', by the rows' own cells (each row's printed sentence says how): Encodes: laid · Checks: laid · Decodes: laid · Round: laid.
  DERIVED. THE GIVEN ROWS OF THIS SEAT. 4 by the template 'for every input the law returns true; each argument reads behind the call as it read before'; 0 by the template 'total and deterministic' (their statements: YtebappmamaafaaaDoorTotals.lean).
  GIVEN WITH THE SEED: the statements are not yours to turn. If you find one false, say at which input.
  Laid BY PROGRAM, IN A SANDBOX (cutbox-rows.mjs): the forced cells as the released guide's own fill.sh prints them over the translation 1d511adeae593ca2… (all of the seat's roots in one cut). By AI agents, Wed Nov 11 2026. No macro, syntax, notation, axiom, sorry.
-/
import Derived.Test.YtebappmamaafaaaDoorChecked
import GoSem.Claim
import GoSem.ClaimJoined
import GoSem.ClaimMapViews
import Derived.JoinedTies
import Derived.KernelRfl
namespace Go.Proofs.YtebappmamaafaaaDoor
/- THE CELL 'sum', in the pinned program and in every row, IS THE sha256 OF THE DUMP (.gsa) THAT YtebappmamaafaaaDoorProg.lean LOADS. Nothing in Lean hashes anything: it is a label: what it is worth is what the hold of that sum in a sandbox is worth. -/
noncomputable def Tryd.pinned : Pinned := { name := "ytebappmamaafaaadoor", sum := "1d511adeae593ca231dbc3c565c2be0ec236f64d34e98ba3976155e70a9b9bed", checked := Tryd.checked }
namespace Rows
def none {H : Type} : Left H := { results := [], args := [] }

/- WHAT THE LISTED PACKAGE-LEVEL VARIABLES READ AS WHEN THE CALL BEGINS. Each datum BY PROGRAM (the guide's laid-datum.mjs) off the statement by which the dump's own 'gosem.cut.vars' lays the variable. In a bare row this is a premise. The card (YtebappmamaafaaaDoorCards.lean) ties it to the program's text. -/
def laid_mlcore_code_forms {H : Type} : DataW H := .agg [.lit (.string [105]), .lit (.string [110]), .lit (.string [110]), .lit (.string []), .lit (.string [110]), .lit (.string [110]), .lit (.string [110]), .lit (.string [110, 110]), .lit (.string [110]), .lit (.string [105]), .lit (.string [110]), .lit (.string []), .lit (.string [110]), .lit (.string [110]), .lit (.string [110, 110]), .lit (.string []), .lit (.string []), .lit (.string []), .lit (.string [110]), .lit (.string [110]), .lit (.string [110]), .lit (.string []), .lit (.string []), .lit (.string [110, 110]), .lit (.string [110]), .lit (.string [])]
def laid_mlcore_code_Signs {H : Type} : DataW H := .agg [.lit (.string [43]), .lit (.string [45]), .lit (.string [42]), .lit (.string [47]), .lit (.string [37]), .lit (.string [60]), .lit (.string [60, 61]), .lit (.string [62]), .lit (.string [62, 61]), .lit (.string [61]), .lit (.string [60, 62]), .lit (.string [94]), .lit (.string [33]), .lit (.string [58, 61]), .lit (.string [126])]
def laid_errors_errorType {H : Type} : DataW H := .iface "internal/reflectlite.rtype" (.agg [.ptr (.lit (.string [101, 114, 114, 111, 114]))])

/-- 'mlcorelaw12.Encodes': WHATEVER THE INPUT: true; the input reads as it did. -/
def encodesSpec : ChangeSpec := { name := "encodes", fn := fun _ => fun
  | [d] => { results := [.lit (.bool true)], args := [d] }
  | _ => none }
def encodesRow : OpenClaim := { program := "ytebappmamaafaaadoor", sum := "1d511adeae593ca231dbc3c565c2be0ec236f64d34e98ba3976155e70a9b9bed", func := "mlcore/mlcorelaw12.Encodes", spec := "encodes", named := ["mlcore/code.forms"], apart := false, laid := [("mlcore/code.forms", laid_mlcore_code_forms)] }
def EncodesSaid : Prop := encodesRow.holds Tryd.pinned (OpenSpec.ofChange encodesSpec)

/-- ITS FALSE NEIGHBOUR: 'it returns false'. Refute it at one input. -/
def encodesWrong : ChangeSpec := { name := "encodes", fn := fun _ => fun
  | [d] => { results := [.lit (.bool false)], args := [d] }
  | _ => none }
def EncodesWrongFalsely : Prop := encodesRow.holds Tryd.pinned (OpenSpec.ofChange encodesWrong)

/-- 'mlcorelaw12.Checks': WHATEVER THE INPUT: true; the input reads as it did. -/
def checksSpec : ChangeSpec := { name := "checks", fn := fun _ => fun
  | [d] => { results := [.lit (.bool true)], args := [d] }
  | _ => none }
def checksRow : OpenClaim := { program := "ytebappmamaafaaadoor", sum := "1d511adeae593ca231dbc3c565c2be0ec236f64d34e98ba3976155e70a9b9bed", func := "mlcore/mlcorelaw12.Checks", spec := "checks", named := ["mlcore/code.Signs"], apart := false, laid := [("mlcore/code.Signs", laid_mlcore_code_Signs)] }
def ChecksSaid : Prop := checksRow.holds Tryd.pinned (OpenSpec.ofChange checksSpec)

/-- ITS FALSE NEIGHBOUR: 'it returns false'. Refute it at one input. -/
def checksWrong : ChangeSpec := { name := "checks", fn := fun _ => fun
  | [d] => { results := [.lit (.bool false)], args := [d] }
  | _ => none }
def ChecksWrongFalsely : Prop := checksRow.holds Tryd.pinned (OpenSpec.ofChange checksWrong)

/-- 'mlcorelaw12.Decodes': WHATEVER THE INPUT: true; the input reads as it did. -/
def decodesSpec : ChangeSpec := { name := "decodes", fn := fun _ => fun
  | [d] => { results := [.lit (.bool true)], args := [d] }
  | _ => none }
def decodesRow : OpenClaim := { program := "ytebappmamaafaaadoor", sum := "1d511adeae593ca231dbc3c565c2be0ec236f64d34e98ba3976155e70a9b9bed", func := "mlcore/mlcorelaw12.Decodes", spec := "decodes", inPlace := ["internal/reflectlite.ValueOf", "(internal/reflectlite.Value).Type", "(internal/reflectlite.Value).IsNil", "internal/reflectlite.TypeOf", "(internal/reflectlite.Value).Elem", "(internal/reflectlite.Value).Set"], unfollowed := true, recurses := true, named := ["mlcore/code.forms", "errors.errorType"], apart := false, laid := [("errors.errorType", laid_errors_errorType), ("mlcore/code.forms", laid_mlcore_code_forms)] }
def DecodesSaid : Prop := decodesRow.holds Tryd.pinned (OpenSpec.ofChange decodesSpec)

/-- ITS FALSE NEIGHBOUR: 'it returns false'. Refute it at one input. -/
def decodesWrong : ChangeSpec := { name := "decodes", fn := fun _ => fun
  | [d] => { results := [.lit (.bool false)], args := [d] }
  | _ => none }
def DecodesWrongFalsely : Prop := decodesRow.holds Tryd.pinned (OpenSpec.ofChange decodesWrong)

/-- 'mlcorelaw12.Round': WHATEVER THE INPUT: true; the input reads as it did. -/
def roundSpec : ChangeSpec := { name := "round", fn := fun _ => fun
  | [d1, d2] => { results := [.lit (.bool true)], args := [d1, d2] }
  | _ => none }
def roundRow : OpenClaim := { program := "ytebappmamaafaaadoor", sum := "1d511adeae593ca231dbc3c565c2be0ec236f64d34e98ba3976155e70a9b9bed", func := "mlcore/mlcorelaw12.Round", spec := "round", inPlace := ["internal/reflectlite.ValueOf", "(internal/reflectlite.Value).Type", "(internal/reflectlite.Value).IsNil", "internal/reflectlite.TypeOf", "(internal/reflectlite.Value).Elem", "(internal/reflectlite.Value).Set"], unfollowed := true, recurses := true, named := ["mlcore/code.forms", "errors.errorType"], apart := false, laid := [("errors.errorType", laid_errors_errorType), ("mlcore/code.forms", laid_mlcore_code_forms)] }
def RoundSaid : Prop := roundRow.holds Tryd.pinned (OpenSpec.ofChange roundSpec)

/-- ITS FALSE NEIGHBOUR: 'it returns false'. Refute it at one input. -/
def roundWrong : ChangeSpec := { name := "round", fn := fun _ => fun
  | [d1, d2] => { results := [.lit (.bool false)], args := [d1, d2] }
  | _ => none }
def RoundWrongFalsely : Prop := roundRow.holds Tryd.pinned (OpenSpec.ofChange roundWrong)

/- THE SECOND FORM. 'bulk': how many values and letters a reading holds, each counted each time it is reached (what is shared counts as often as it is met; a slice's spare places count too). A statement '..UptoSaid' is the law's where the arguments, and the package variables that the reading takes, are together of bulk at most 1048576: NARROWER than '..Said'. Prove '..Said' where nothing that the law and all that it calls make is longer than what came in: it says more and counts as full. Else prove '..UptoSaid'. A law counts once. -/
mutual
def uptoBulk {H : Type} : DataW H → Nat
  | .lit (.string bytes) => bytes.length + 1
  | .lit _ => 1
  | .nil => 1
  | .ptr d => uptoBulk d + 1
  | .slice elems spare => uptoBulkAll elems + uptoBulkAll spare + 1
  | .agg parts => uptoBulkAll parts + 1
  | .iface _ d => uptoBulk d + 1
  | .map entries => uptoBulkEntries entries + 1
  | .held _ => 1
def uptoBulkAll {H : Type} : List (DataW H) → Nat
  | [] => 0
  | d :: r => uptoBulk d + uptoBulkAll r
def uptoBulkEntries {H : Type} : List (Lit × DataW H) → Nat
  | [] => 0
  | x :: r => uptoBulkEntry x + uptoBulkEntries r
def uptoBulkEntry {H : Type} : Lit × DataW H → Nat
  | (.string bytes, d) => bytes.length + uptoBulk d + 1
  | (_, d) => uptoBulk d + 1
 end
def uptoSmall : (H : Type) → List (DataW H) → Bool := fun _ ds => decide (uptoBulkAll ds ≤ 1048576)
def OpenSpec.upto (s : _root_.Go.ChangeSpec) : _root_.Go.OpenSpec := { _root_.Go.OpenSpec.ofChange s with cond := some uptoSmall }

/-- 'mlcorelaw12.Encodes', WHERE WHAT IT READS IS OF BULK AT MOST 1048576: true; the input reads as it did. -/
def encodesUptoRow : OpenClaim := { program := "ytebappmamaafaaadoor", sum := "1d511adeae593ca231dbc3c565c2be0ec236f64d34e98ba3976155e70a9b9bed", func := "mlcore/mlcorelaw12.Encodes", spec := "encodes", named := ["mlcore/code.forms"], apart := false, laid := [("mlcore/code.forms", laid_mlcore_code_forms)], narrowed := true }
def EncodesUptoSaid : Prop := encodesUptoRow.holds Tryd.pinned (OpenSpec.upto encodesSpec)

/-- 'mlcorelaw12.Checks', WHERE WHAT IT READS IS OF BULK AT MOST 1048576: true; the input reads as it did. -/
def checksUptoRow : OpenClaim := { program := "ytebappmamaafaaadoor", sum := "1d511adeae593ca231dbc3c565c2be0ec236f64d34e98ba3976155e70a9b9bed", func := "mlcore/mlcorelaw12.Checks", spec := "checks", named := ["mlcore/code.Signs"], apart := false, laid := [("mlcore/code.Signs", laid_mlcore_code_Signs)], narrowed := true }
def ChecksUptoSaid : Prop := checksUptoRow.holds Tryd.pinned (OpenSpec.upto checksSpec)

/-- 'mlcorelaw12.Decodes', WHERE WHAT IT READS IS OF BULK AT MOST 1048576: true; the input reads as it did. -/
def decodesUptoRow : OpenClaim := { program := "ytebappmamaafaaadoor", sum := "1d511adeae593ca231dbc3c565c2be0ec236f64d34e98ba3976155e70a9b9bed", func := "mlcore/mlcorelaw12.Decodes", spec := "decodes", inPlace := ["internal/reflectlite.ValueOf", "(internal/reflectlite.Value).Type", "(internal/reflectlite.Value).IsNil", "internal/reflectlite.TypeOf", "(internal/reflectlite.Value).Elem", "(internal/reflectlite.Value).Set"], unfollowed := true, recurses := true, named := ["mlcore/code.forms", "errors.errorType"], apart := false, laid := [("errors.errorType", laid_errors_errorType), ("mlcore/code.forms", laid_mlcore_code_forms)], narrowed := true }
def DecodesUptoSaid : Prop := decodesUptoRow.holds Tryd.pinned (OpenSpec.upto decodesSpec)

/-- 'mlcorelaw12.Round', WHERE WHAT IT READS IS OF BULK AT MOST 1048576: true; the input reads as it did. -/
def roundUptoRow : OpenClaim := { program := "ytebappmamaafaaadoor", sum := "1d511adeae593ca231dbc3c565c2be0ec236f64d34e98ba3976155e70a9b9bed", func := "mlcore/mlcorelaw12.Round", spec := "round", inPlace := ["internal/reflectlite.ValueOf", "(internal/reflectlite.Value).Type", "(internal/reflectlite.Value).IsNil", "internal/reflectlite.TypeOf", "(internal/reflectlite.Value).Elem", "(internal/reflectlite.Value).Set"], unfollowed := true, recurses := true, named := ["mlcore/code.forms", "errors.errorType"], apart := false, laid := [("errors.errorType", laid_errors_errorType), ("mlcore/code.forms", laid_mlcore_code_forms)], narrowed := true }
def RoundUptoSaid : Prop := roundUptoRow.holds Tryd.pinned (OpenSpec.upto roundSpec)

end Rows
end Go.Proofs.YtebappmamaafaaaDoor
