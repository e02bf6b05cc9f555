/-
  NARROWER THAN 'FOR EVERY INPUT', by the rows' own cells (each row's printed sentence says how): DominoTurns: laid · DominoBack: laid · DominoSays: laid · DominoShuffles: laid · DominoAztec: laid.
  DERIVED. THE GIVEN ROWS OF THIS SEAT. 5 by the template 'for every input the law returns true; each argument reads behind the call as it read before'; 0 by the template 'total and deterministic' (their statements: YtahihapgbcoanaaDoorTotals.lean).
  GIVEN WITH THE SEED: the statements are not yours to turn. If you find one false, say at which input.
  Laid BY PROGRAM, IN A SANDBOX (cutbox-rows.mjs): the forced cells as the released guide's own fill.sh prints them over the translation 206c376c160a9b4c… (all of the seat's roots in one cut). By AI agents, Wed Nov 11 2026. No macro, syntax, notation, axiom, sorry.
-/
import Derived.Test.YtahihapgbcoanaaDoorChecked
import GoSem.PinnedTables
import GoSem.Claim
import GoSem.ClaimJoined
import GoSem.ClaimMapViews
import Derived.JoinedTies
import Derived.KernelRfl
namespace Go.Proofs.YtahihapgbcoanaaDoor
/- THE CELL 'sum', in the pinned program and in every row, IS THE sha256 OF THE DUMP (.gsa) THAT YtahihapgbcoanaaDoorProg.lean LOADS. Nothing in Lean hashes anything: it is a label: what it is worth is what the hold of that sum in a sandbox is worth. -/
noncomputable def Tryd.pinned : Pinned := { name := "ytahihapgbcoanaadoor", sum := "206c376c160a9b4c13d6258df280ac380adc11d5efcfa736b70dee2eca3ccf92", checked := Tryd.checked }
namespace Rows
def none {H : Type} : Left H := { results := [], args := [] }

/- WHAT THE LISTED PACKAGE-LEVEL VARIABLES READ AS WHEN THE CALL BEGINS. Each datum BY PROGRAM (the guide's laid-datum.mjs) off the statement by which the dump's own 'gosem.cut.vars' lays the variable. In a bare row this is a premise. The card (YtahihapgbcoanaaDoorCards.lean) ties it to the program's text. -/
def laid_unicode_utf8_acceptRanges {H : Type} : DataW H := .agg [.agg [.lit (.int .u8 128), .lit (.int .u8 191)], .agg [.lit (.int .u8 160), .lit (.int .u8 191)], .agg [.lit (.int .u8 128), .lit (.int .u8 159)], .agg [.lit (.int .u8 144), .lit (.int .u8 191)], .agg [.lit (.int .u8 128), .lit (.int .u8 143)], .agg [.lit (.int .u8 0), .lit (.int .u8 0)], .agg [.lit (.int .u8 0), .lit (.int .u8 0)], .agg [.lit (.int .u8 0), .lit (.int .u8 0)], .agg [.lit (.int .u8 0), .lit (.int .u8 0)], .agg [.lit (.int .u8 0), .lit (.int .u8 0)], .agg [.lit (.int .u8 0), .lit (.int .u8 0)], .agg [.lit (.int .u8 0), .lit (.int .u8 0)], .agg [.lit (.int .u8 0), .lit (.int .u8 0)], .agg [.lit (.int .u8 0), .lit (.int .u8 0)], .agg [.lit (.int .u8 0), .lit (.int .u8 0)], .agg [.lit (.int .u8 0), .lit (.int .u8 0)]]
/-- One of Go's own tables, pinned by name: the form's constant. -/
def laid_unicode_utf8_first : DataW Unit := Go.Pinned.utf8First

/-- 'ferlaw.DominoTurns': WHATEVER THE INPUT: true; the input reads as it did. -/
def dominoTurnsSpec : ChangeSpec := { name := "dominoTurns", fn := fun _ => fun
  | [d1, d2, d3] => { results := [.lit (.bool true)], args := [d1, d2, d3] }
  | _ => none }
def dominoTurnsRow : OpenClaim := { program := "ytahihapgbcoanaadoor", sum := "206c376c160a9b4c13d6258df280ac380adc11d5efcfa736b70dee2eca3ccf92", func := "ferrers/ferlaw.DominoTurns", spec := "dominoTurns", inPlace := ["internal/abi.NoEscape", "internal/bytealg.MakeNoZero", "internal/bytealg.IndexByteString", "internal/bytealg.IndexString", "internal/bytealg.CountString"], unfollowed := true, recurses := true, named := ["unicode/utf8.first", "unicode/utf8.acceptRanges", "internal/bytealg.MaxLen"], plainKeys := false, apart := false, laid := [("unicode/utf8.acceptRanges", laid_unicode_utf8_acceptRanges), ("unicode/utf8.first", laid_unicode_utf8_first)] }
def DominoTurnsSaid : Prop := dominoTurnsRow.holds Tryd.pinned (OpenSpec.ofChange dominoTurnsSpec)

/-- ITS FALSE NEIGHBOUR: 'it returns false'. Refute it at one input. -/
def dominoTurnsWrong : ChangeSpec := { name := "dominoTurns", fn := fun _ => fun
  | [d1, d2, d3] => { results := [.lit (.bool false)], args := [d1, d2, d3] }
  | _ => none }
def DominoTurnsWrongFalsely : Prop := dominoTurnsRow.holds Tryd.pinned (OpenSpec.ofChange dominoTurnsWrong)

/-- 'ferkeep.DominoBack': WHATEVER THE INPUT: true; the input reads as it did. -/
def dominoBackSpec : ChangeSpec := { name := "dominoBack", fn := fun _ => fun
  | [d1, d2, d3] => { results := [.lit (.bool true)], args := [d1, d2, d3] }
  | _ => none }
def dominoBackRow : OpenClaim := { program := "ytahihapgbcoanaadoor", sum := "206c376c160a9b4c13d6258df280ac380adc11d5efcfa736b70dee2eca3ccf92", func := "ferrers/ferkeep.DominoBack", spec := "dominoBack", inPlace := ["internal/bytealg.IndexByteString", "internal/bytealg.IndexString", "internal/abi.NoEscape", "internal/bytealg.MakeNoZero"], unfollowed := true, recurses := true, named := ["unicode/utf8.first", "unicode/utf8.acceptRanges", "internal/bytealg.MaxLen"], plainKeys := false, apart := false, laid := [("unicode/utf8.acceptRanges", laid_unicode_utf8_acceptRanges), ("unicode/utf8.first", laid_unicode_utf8_first)] }
def DominoBackSaid : Prop := dominoBackRow.holds Tryd.pinned (OpenSpec.ofChange dominoBackSpec)

/-- ITS FALSE NEIGHBOUR: 'it returns false'. Refute it at one input. -/
def dominoBackWrong : ChangeSpec := { name := "dominoBack", fn := fun _ => fun
  | [d1, d2, d3] => { results := [.lit (.bool false)], args := [d1, d2, d3] }
  | _ => none }
def DominoBackWrongFalsely : Prop := dominoBackRow.holds Tryd.pinned (OpenSpec.ofChange dominoBackWrong)

/-- 'ferlaw.DominoSays': WHATEVER THE INPUT: true; the input reads as it did. -/
def dominoSaysSpec : ChangeSpec := { name := "dominoSays", fn := fun _ => fun
  | [d1, d2] => { results := [.lit (.bool true)], args := [d1, d2] }
  | _ => none }
def dominoSaysRow : OpenClaim := { program := "ytahihapgbcoanaadoor", sum := "206c376c160a9b4c13d6258df280ac380adc11d5efcfa736b70dee2eca3ccf92", func := "ferrers/ferlaw.DominoSays", spec := "dominoSays", inPlace := ["internal/bytealg.IndexByteString", "internal/bytealg.IndexString", "internal/abi.NoEscape", "internal/bytealg.MakeNoZero", "internal/bytealg.CountString"], unfollowed := true, recurses := true, named := ["unicode/utf8.first", "unicode/utf8.acceptRanges", "internal/bytealg.MaxLen"], plainKeys := false, apart := false, laid := [("unicode/utf8.acceptRanges", laid_unicode_utf8_acceptRanges), ("unicode/utf8.first", laid_unicode_utf8_first)] }
def DominoSaysSaid : Prop := dominoSaysRow.holds Tryd.pinned (OpenSpec.ofChange dominoSaysSpec)

/-- ITS FALSE NEIGHBOUR: 'it returns false'. Refute it at one input. -/
def dominoSaysWrong : ChangeSpec := { name := "dominoSays", fn := fun _ => fun
  | [d1, d2] => { results := [.lit (.bool false)], args := [d1, d2] }
  | _ => none }
def DominoSaysWrongFalsely : Prop := dominoSaysRow.holds Tryd.pinned (OpenSpec.ofChange dominoSaysWrong)

/-- 'ferlaw.DominoShuffles': WHATEVER THE INPUT: true; the input reads as it did. -/
def dominoShufflesSpec : ChangeSpec := { name := "dominoShuffles", fn := fun _ => fun
  | [d1, d2] => { results := [.lit (.bool true)], args := [d1, d2] }
  | _ => none }
def dominoShufflesRow : OpenClaim := { program := "ytahihapgbcoanaadoor", sum := "206c376c160a9b4c13d6258df280ac380adc11d5efcfa736b70dee2eca3ccf92", func := "ferrers/ferlaw.DominoShuffles", spec := "dominoShuffles", inPlace := ["internal/bytealg.IndexByteString", "internal/bytealg.IndexString", "internal/abi.NoEscape", "internal/bytealg.MakeNoZero", "internal/bytealg.CountString"], unfollowed := true, recurses := true, named := ["unicode/utf8.first", "unicode/utf8.acceptRanges", "internal/bytealg.MaxLen"], plainKeys := false, apart := false, laid := [("unicode/utf8.acceptRanges", laid_unicode_utf8_acceptRanges), ("unicode/utf8.first", laid_unicode_utf8_first)] }
def DominoShufflesSaid : Prop := dominoShufflesRow.holds Tryd.pinned (OpenSpec.ofChange dominoShufflesSpec)

/-- ITS FALSE NEIGHBOUR: 'it returns false'. Refute it at one input. -/
def dominoShufflesWrong : ChangeSpec := { name := "dominoShuffles", fn := fun _ => fun
  | [d1, d2] => { results := [.lit (.bool false)], args := [d1, d2] }
  | _ => none }
def DominoShufflesWrongFalsely : Prop := dominoShufflesRow.holds Tryd.pinned (OpenSpec.ofChange dominoShufflesWrong)

/-- 'ferkeep.DominoAztec': WHATEVER THE INPUT: true; the input reads as it did. -/
def dominoAztecSpec : ChangeSpec := { name := "dominoAztec", fn := fun _ => fun
  | [d1, d2, d3] => { results := [.lit (.bool true)], args := [d1, d2, d3] }
  | _ => none }
def dominoAztecRow : OpenClaim := { program := "ytahihapgbcoanaadoor", sum := "206c376c160a9b4c13d6258df280ac380adc11d5efcfa736b70dee2eca3ccf92", func := "ferrers/ferkeep.DominoAztec", spec := "dominoAztec", inPlace := ["internal/abi.NoEscape", "internal/bytealg.MakeNoZero", "internal/bytealg.IndexByteString", "internal/bytealg.IndexString", "internal/bytealg.CountString"], unfollowed := true, recurses := true, named := ["unicode/utf8.first", "unicode/utf8.acceptRanges", "internal/bytealg.MaxLen"], plainKeys := false, apart := false, laid := [("unicode/utf8.acceptRanges", laid_unicode_utf8_acceptRanges), ("unicode/utf8.first", laid_unicode_utf8_first)] }
def DominoAztecSaid : Prop := dominoAztecRow.holds Tryd.pinned (OpenSpec.ofChange dominoAztecSpec)

/-- ITS FALSE NEIGHBOUR: 'it returns false'. Refute it at one input. -/
def dominoAztecWrong : ChangeSpec := { name := "dominoAztec", fn := fun _ => fun
  | [d1, d2, d3] => { results := [.lit (.bool false)], args := [d1, d2, d3] }
  | _ => none }
def DominoAztecWrongFalsely : Prop := dominoAztecRow.holds Tryd.pinned (OpenSpec.ofChange dominoAztecWrong)

/- THE SECOND FORM. 'bulk': how many values and letters a reading holds, each counted each time it is reached (what is shared counts as often as it is met; a slice's spare places count too). A statement '..UptoSaid' is the law's where the arguments, and the package variables that the reading takes, are together of bulk at most 1048576: NARROWER than '..Said'. Prove '..Said' where nothing that the law and all that it calls make is longer than what came in: it says more and counts as full. Else prove '..UptoSaid'. A law counts once. -/
mutual
def uptoBulk {H : Type} : DataW H → Nat
  | .lit (.string bytes) => bytes.length + 1
  | .lit _ => 1
  | .nil => 1
  | .ptr d => uptoBulk d + 1
  | .slice elems spare => uptoBulkAll elems + uptoBulkAll spare + 1
  | .agg parts => uptoBulkAll parts + 1
  | .iface _ d => uptoBulk d + 1
  | .map entries => uptoBulkEntries entries + 1
  | .held _ => 1
def uptoBulkAll {H : Type} : List (DataW H) → Nat
  | [] => 0
  | d :: r => uptoBulk d + uptoBulkAll r
def uptoBulkEntries {H : Type} : List (Lit × DataW H) → Nat
  | [] => 0
  | x :: r => uptoBulkEntry x + uptoBulkEntries r
def uptoBulkEntry {H : Type} : Lit × DataW H → Nat
  | (.string bytes, d) => bytes.length + uptoBulk d + 1
  | (_, d) => uptoBulk d + 1
 end
def uptoSmall : (H : Type) → List (DataW H) → Bool := fun _ ds => decide (uptoBulkAll ds ≤ 1048576)
def OpenSpec.upto (s : _root_.Go.ChangeSpec) : _root_.Go.OpenSpec := { _root_.Go.OpenSpec.ofChange s with cond := some uptoSmall }

/-- 'ferlaw.DominoTurns', WHERE WHAT IT READS IS OF BULK AT MOST 1048576: true; the input reads as it did. -/
def dominoTurnsUptoRow : OpenClaim := { program := "ytahihapgbcoanaadoor", sum := "206c376c160a9b4c13d6258df280ac380adc11d5efcfa736b70dee2eca3ccf92", func := "ferrers/ferlaw.DominoTurns", spec := "dominoTurns", inPlace := ["internal/abi.NoEscape", "internal/bytealg.MakeNoZero", "internal/bytealg.IndexByteString", "internal/bytealg.IndexString", "internal/bytealg.CountString"], unfollowed := true, recurses := true, named := ["unicode/utf8.first", "unicode/utf8.acceptRanges", "internal/bytealg.MaxLen"], plainKeys := false, apart := false, laid := [("unicode/utf8.acceptRanges", laid_unicode_utf8_acceptRanges), ("unicode/utf8.first", laid_unicode_utf8_first)], narrowed := true }
def DominoTurnsUptoSaid : Prop := dominoTurnsUptoRow.holds Tryd.pinned (OpenSpec.upto dominoTurnsSpec)

/-- 'ferkeep.DominoBack', WHERE WHAT IT READS IS OF BULK AT MOST 1048576: true; the input reads as it did. -/
def dominoBackUptoRow : OpenClaim := { program := "ytahihapgbcoanaadoor", sum := "206c376c160a9b4c13d6258df280ac380adc11d5efcfa736b70dee2eca3ccf92", func := "ferrers/ferkeep.DominoBack", spec := "dominoBack", inPlace := ["internal/bytealg.IndexByteString", "internal/bytealg.IndexString", "internal/abi.NoEscape", "internal/bytealg.MakeNoZero"], unfollowed := true, recurses := true, named := ["unicode/utf8.first", "unicode/utf8.acceptRanges", "internal/bytealg.MaxLen"], plainKeys := false, apart := false, laid := [("unicode/utf8.acceptRanges", laid_unicode_utf8_acceptRanges), ("unicode/utf8.first", laid_unicode_utf8_first)], narrowed := true }
def DominoBackUptoSaid : Prop := dominoBackUptoRow.holds Tryd.pinned (OpenSpec.upto dominoBackSpec)

/-- 'ferlaw.DominoSays', WHERE WHAT IT READS IS OF BULK AT MOST 1048576: true; the input reads as it did. -/
def dominoSaysUptoRow : OpenClaim := { program := "ytahihapgbcoanaadoor", sum := "206c376c160a9b4c13d6258df280ac380adc11d5efcfa736b70dee2eca3ccf92", func := "ferrers/ferlaw.DominoSays", spec := "dominoSays", inPlace := ["internal/bytealg.IndexByteString", "internal/bytealg.IndexString", "internal/abi.NoEscape", "internal/bytealg.MakeNoZero", "internal/bytealg.CountString"], unfollowed := true, recurses := true, named := ["unicode/utf8.first", "unicode/utf8.acceptRanges", "internal/bytealg.MaxLen"], plainKeys := false, apart := false, laid := [("unicode/utf8.acceptRanges", laid_unicode_utf8_acceptRanges), ("unicode/utf8.first", laid_unicode_utf8_first)], narrowed := true }
def DominoSaysUptoSaid : Prop := dominoSaysUptoRow.holds Tryd.pinned (OpenSpec.upto dominoSaysSpec)

/-- 'ferlaw.DominoShuffles', WHERE WHAT IT READS IS OF BULK AT MOST 1048576: true; the input reads as it did. -/
def dominoShufflesUptoRow : OpenClaim := { program := "ytahihapgbcoanaadoor", sum := "206c376c160a9b4c13d6258df280ac380adc11d5efcfa736b70dee2eca3ccf92", func := "ferrers/ferlaw.DominoShuffles", spec := "dominoShuffles", inPlace := ["internal/bytealg.IndexByteString", "internal/bytealg.IndexString", "internal/abi.NoEscape", "internal/bytealg.MakeNoZero", "internal/bytealg.CountString"], unfollowed := true, recurses := true, named := ["unicode/utf8.first", "unicode/utf8.acceptRanges", "internal/bytealg.MaxLen"], plainKeys := false, apart := false, laid := [("unicode/utf8.acceptRanges", laid_unicode_utf8_acceptRanges), ("unicode/utf8.first", laid_unicode_utf8_first)], narrowed := true }
def DominoShufflesUptoSaid : Prop := dominoShufflesUptoRow.holds Tryd.pinned (OpenSpec.upto dominoShufflesSpec)

/-- 'ferkeep.DominoAztec', WHERE WHAT IT READS IS OF BULK AT MOST 1048576: true; the input reads as it did. -/
def dominoAztecUptoRow : OpenClaim := { program := "ytahihapgbcoanaadoor", sum := "206c376c160a9b4c13d6258df280ac380adc11d5efcfa736b70dee2eca3ccf92", func := "ferrers/ferkeep.DominoAztec", spec := "dominoAztec", inPlace := ["internal/abi.NoEscape", "internal/bytealg.MakeNoZero", "internal/bytealg.IndexByteString", "internal/bytealg.IndexString", "internal/bytealg.CountString"], unfollowed := true, recurses := true, named := ["unicode/utf8.first", "unicode/utf8.acceptRanges", "internal/bytealg.MaxLen"], plainKeys := false, apart := false, laid := [("unicode/utf8.acceptRanges", laid_unicode_utf8_acceptRanges), ("unicode/utf8.first", laid_unicode_utf8_first)], narrowed := true }
def DominoAztecUptoSaid : Prop := dominoAztecUptoRow.holds Tryd.pinned (OpenSpec.upto dominoAztecSpec)

end Rows
end Go.Proofs.YtahihapgbcoanaaDoor
