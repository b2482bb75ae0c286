/-
  No cell of these rows narrows 'for every input' (looked for: loops, veiled, ifaces, maps, wideKeys, modest, calm, conditions, laid).
  DERIVED. THE GIVEN ROWS OF THIS SEAT. 18 by the template 'for every input the law returns true; each argument reads behind the call as it read before'; 0 by the template 'total and deterministic' (their statements: YtpbnciioeiohlaaTotals.lean).
  GIVEN WITH THE SEED: the statements are not yours to turn. If you find one false, say at which input.
  Laid BY PROGRAM, IN A SANDBOX (cutbox-rows.mjs): the forced cells as the released guide's own fill.sh prints them over the translation 216a5f23b222f7e9… (all of the seat's roots in one cut). By AI agents, Wed Nov 11 2026. No macro, syntax, notation, axiom, sorry.
-/
import Derived.Test.YtpbnciioeiohlaaChecked
import GoSem.Claim
import GoSem.ClaimJoined
import GoSem.ClaimMapViews
import Derived.JoinedTies
import Derived.KernelRfl
namespace Go.Proofs.Ytpbnciioeiohlaa
/- THE CELL 'sum', in the pinned program and in every row, IS THE sha256 OF THE DUMP (.gsa) THAT YtpbnciioeiohlaaProg.lean LOADS. Nothing in Lean hashes anything: it is a label: what it is worth is what the hold of that sum in a sandbox is worth. -/
noncomputable def Try.pinned : Pinned := { name := "ytpbnciioeiohlaa", sum := "216a5f23b222f7e93f90fee17be14eea4cf006b0b1e60303c985486d454adfeb", checked := Try.checked }
namespace Rows
def none {H : Type} : Left H := { results := [], args := [] }

/-- 'quartolaw04.ApplyDoes': WHATEVER THE INPUT: true; the input reads as it did. -/
def applyDoesSpec : ChangeSpec := { name := "applyDoes", fn := fun _ => fun
  | [d1, d2] => { results := [.lit (.bool true)], args := [d1, d2] }
  | _ => none }
def applyDoesRow : OpenClaim := { program := "ytpbnciioeiohlaa", sum := "216a5f23b222f7e93f90fee17be14eea4cf006b0b1e60303c985486d454adfeb", func := "quarto/quartolaw04.ApplyDoes", spec := "applyDoes", inPlace := ["internal/abi.NoEscape"], unfollowed := true, recurses := true, apart := false }
def ApplyDoesSaid : Prop := applyDoesRow.holds Try.pinned (OpenSpec.ofChange applyDoesSpec)

/-- ITS FALSE NEIGHBOUR: 'it returns false'. Refute it at one input. -/
def applyDoesWrong : ChangeSpec := { name := "applyDoes", fn := fun _ => fun
  | [d1, d2] => { results := [.lit (.bool false)], args := [d1, d2] }
  | _ => none }
def ApplyDoesWrongFalsely : Prop := applyDoesRow.holds Try.pinned (OpenSpec.ofChange applyDoesWrong)

/-- 'quartolaw04.ApplyInserted': WHATEVER THE INPUT: true; the input reads as it did. -/
def applyInsertedSpec : ChangeSpec := { name := "applyInserted", fn := fun _ => fun
  | [d] => { results := [.lit (.bool true)], args := [d] }
  | _ => none }
def applyInsertedRow : OpenClaim := { program := "ytpbnciioeiohlaa", sum := "216a5f23b222f7e93f90fee17be14eea4cf006b0b1e60303c985486d454adfeb", func := "quarto/quartolaw04.ApplyInserted", spec := "applyInserted", inPlace := ["internal/abi.NoEscape"], unfollowed := true, recurses := true, apart := false }
def ApplyInsertedSaid : Prop := applyInsertedRow.holds Try.pinned (OpenSpec.ofChange applyInsertedSpec)

/-- ITS FALSE NEIGHBOUR: 'it returns false'. Refute it at one input. -/
def applyInsertedWrong : ChangeSpec := { name := "applyInserted", fn := fun _ => fun
  | [d] => { results := [.lit (.bool false)], args := [d] }
  | _ => none }
def ApplyInsertedWrongFalsely : Prop := applyInsertedRow.holds Try.pinned (OpenSpec.ofChange applyInsertedWrong)

/-- 'quartolaw04.ApplyInverts': WHATEVER THE INPUT: true; the input reads as it did. -/
def applyInvertsSpec : ChangeSpec := { name := "applyInverts", fn := fun _ => fun
  | [d1, d2] => { results := [.lit (.bool true)], args := [d1, d2] }
  | _ => none }
def applyInvertsRow : OpenClaim := { program := "ytpbnciioeiohlaa", sum := "216a5f23b222f7e93f90fee17be14eea4cf006b0b1e60303c985486d454adfeb", func := "quarto/quartolaw04.ApplyInverts", spec := "applyInverts", inPlace := ["internal/abi.NoEscape"], unfollowed := true, recurses := true, apart := false }
def ApplyInvertsSaid : Prop := applyInvertsRow.holds Try.pinned (OpenSpec.ofChange applyInvertsSpec)

/-- ITS FALSE NEIGHBOUR: 'it returns false'. Refute it at one input. -/
def applyInvertsWrong : ChangeSpec := { name := "applyInverts", fn := fun _ => fun
  | [d1, d2] => { results := [.lit (.bool false)], args := [d1, d2] }
  | _ => none }
def ApplyInvertsWrongFalsely : Prop := applyInvertsRow.holds Try.pinned (OpenSpec.ofChange applyInvertsWrong)

/-- 'quartolaw04.ApplyMakes': WHATEVER THE INPUT: true; the input reads as it did. -/
def applyMakesSpec : ChangeSpec := { name := "applyMakes", fn := fun _ => fun
  | [d1, d2, d3, d4] => { results := [.lit (.bool true)], args := [d1, d2, d3, d4] }
  | _ => none }
def applyMakesRow : OpenClaim := { program := "ytpbnciioeiohlaa", sum := "216a5f23b222f7e93f90fee17be14eea4cf006b0b1e60303c985486d454adfeb", func := "quarto/quartolaw04.ApplyMakes", spec := "applyMakes", inPlace := ["internal/abi.NoEscape"], unfollowed := true, recurses := true, apart := false }
def ApplyMakesSaid : Prop := applyMakesRow.holds Try.pinned (OpenSpec.ofChange applyMakesSpec)

/-- ITS FALSE NEIGHBOUR: 'it returns false'. Refute it at one input. -/
def applyMakesWrong : ChangeSpec := { name := "applyMakes", fn := fun _ => fun
  | [d1, d2, d3, d4] => { results := [.lit (.bool false)], args := [d1, d2, d3, d4] }
  | _ => none }
def ApplyMakesWrongFalsely : Prop := applyMakesRow.holds Try.pinned (OpenSpec.ofChange applyMakesWrong)

/-- 'quartolaw04.ApplyBack': WHATEVER THE INPUT: true; the input reads as it did. -/
def applyBackSpec : ChangeSpec := { name := "applyBack", fn := fun _ => fun
  | [d1, d2] => { results := [.lit (.bool true)], args := [d1, d2] }
  | _ => none }
def applyBackRow : OpenClaim := { program := "ytpbnciioeiohlaa", sum := "216a5f23b222f7e93f90fee17be14eea4cf006b0b1e60303c985486d454adfeb", func := "quarto/quartolaw04.ApplyBack", spec := "applyBack", inPlace := ["internal/abi.NoEscape"], unfollowed := true, recurses := true, apart := false }
def ApplyBackSaid : Prop := applyBackRow.holds Try.pinned (OpenSpec.ofChange applyBackSpec)

/-- ITS FALSE NEIGHBOUR: 'it returns false'. Refute it at one input. -/
def applyBackWrong : ChangeSpec := { name := "applyBack", fn := fun _ => fun
  | [d1, d2] => { results := [.lit (.bool false)], args := [d1, d2] }
  | _ => none }
def ApplyBackWrongFalsely : Prop := applyBackRow.holds Try.pinned (OpenSpec.ofChange applyBackWrong)

/-- 'quartolaw04.ApplyEdits': WHATEVER THE INPUT: true; the input reads as it did. -/
def applyEditsSpec : ChangeSpec := { name := "applyEdits", fn := fun _ => fun
  | [d1, d2, d3, d4] => { results := [.lit (.bool true)], args := [d1, d2, d3, d4] }
  | _ => none }
def applyEditsRow : OpenClaim := { program := "ytpbnciioeiohlaa", sum := "216a5f23b222f7e93f90fee17be14eea4cf006b0b1e60303c985486d454adfeb", func := "quarto/quartolaw04.ApplyEdits", spec := "applyEdits", inPlace := ["internal/abi.NoEscape"], unfollowed := true, recurses := true, apart := false }
def ApplyEditsSaid : Prop := applyEditsRow.holds Try.pinned (OpenSpec.ofChange applyEditsSpec)

/-- ITS FALSE NEIGHBOUR: 'it returns false'. Refute it at one input. -/
def applyEditsWrong : ChangeSpec := { name := "applyEdits", fn := fun _ => fun
  | [d1, d2, d3, d4] => { results := [.lit (.bool false)], args := [d1, d2, d3, d4] }
  | _ => none }
def ApplyEditsWrongFalsely : Prop := applyEditsRow.holds Try.pinned (OpenSpec.ofChange applyEditsWrong)

/-- 'quartolaw04.ApplySame': WHATEVER THE INPUT: true; the input reads as it did. -/
def applySameSpec : ChangeSpec := { name := "applySame", fn := fun _ => fun
  | [d1, d2, d3] => { results := [.lit (.bool true)], args := [d1, d2, d3] }
  | _ => none }
def applySameRow : OpenClaim := { program := "ytpbnciioeiohlaa", sum := "216a5f23b222f7e93f90fee17be14eea4cf006b0b1e60303c985486d454adfeb", func := "quarto/quartolaw04.ApplySame", spec := "applySame", inPlace := ["internal/abi.NoEscape"], unfollowed := true, recurses := true, apart := false }
def ApplySameSaid : Prop := applySameRow.holds Try.pinned (OpenSpec.ofChange applySameSpec)

/-- ITS FALSE NEIGHBOUR: 'it returns false'. Refute it at one input. -/
def applySameWrong : ChangeSpec := { name := "applySame", fn := fun _ => fun
  | [d1, d2, d3] => { results := [.lit (.bool false)], args := [d1, d2, d3] }
  | _ => none }
def ApplySameWrongFalsely : Prop := applySameRow.holds Try.pinned (OpenSpec.ofChange applySameWrong)

/-- 'quartolaw04.ApplyTells': WHATEVER THE INPUT: true; the input reads as it did. -/
def applyTellsSpec : ChangeSpec := { name := "applyTells", fn := fun _ => fun
  | [d1, d2] => { results := [.lit (.bool true)], args := [d1, d2] }
  | _ => none }
def applyTellsRow : OpenClaim := { program := "ytpbnciioeiohlaa", sum := "216a5f23b222f7e93f90fee17be14eea4cf006b0b1e60303c985486d454adfeb", func := "quarto/quartolaw04.ApplyTells", spec := "applyTells", inPlace := ["internal/abi.NoEscape"], unfollowed := true, recurses := true, apart := false }
def ApplyTellsSaid : Prop := applyTellsRow.holds Try.pinned (OpenSpec.ofChange applyTellsSpec)

/-- ITS FALSE NEIGHBOUR: 'it returns false'. Refute it at one input. -/
def applyTellsWrong : ChangeSpec := { name := "applyTells", fn := fun _ => fun
  | [d1, d2] => { results := [.lit (.bool false)], args := [d1, d2] }
  | _ => none }
def ApplyTellsWrongFalsely : Prop := applyTellsRow.holds Try.pinned (OpenSpec.ofChange applyTellsWrong)

/-- 'quartolaw06.ShiftMoves': WHATEVER THE INPUT: true; the input reads as it did. -/
def shiftMovesSpec : ChangeSpec := { name := "shiftMoves", fn := fun _ => fun
  | [d1, d2, d3] => { results := [.lit (.bool true)], args := [d1, d2, d3] }
  | _ => none }
def shiftMovesRow : OpenClaim := { program := "ytpbnciioeiohlaa", sum := "216a5f23b222f7e93f90fee17be14eea4cf006b0b1e60303c985486d454adfeb", func := "quarto/quartolaw06.ShiftMoves", spec := "shiftMoves", inPlace := ["internal/abi.NoEscape"], unfollowed := true, recurses := true, apart := false }
def ShiftMovesSaid : Prop := shiftMovesRow.holds Try.pinned (OpenSpec.ofChange shiftMovesSpec)

/-- ITS FALSE NEIGHBOUR: 'it returns false'. Refute it at one input. -/
def shiftMovesWrong : ChangeSpec := { name := "shiftMoves", fn := fun _ => fun
  | [d1, d2, d3] => { results := [.lit (.bool false)], args := [d1, d2, d3] }
  | _ => none }
def ShiftMovesWrongFalsely : Prop := shiftMovesRow.holds Try.pinned (OpenSpec.ofChange shiftMovesWrong)

/-- 'quartolaw06.ShiftKeeps': WHATEVER THE INPUT: true; the input reads as it did. -/
def shiftKeepsSpec : ChangeSpec := { name := "shiftKeeps", fn := fun _ => fun
  | [d1, d2] => { results := [.lit (.bool true)], args := [d1, d2] }
  | _ => none }
def shiftKeepsRow : OpenClaim := { program := "ytpbnciioeiohlaa", sum := "216a5f23b222f7e93f90fee17be14eea4cf006b0b1e60303c985486d454adfeb", func := "quarto/quartolaw06.ShiftKeeps", spec := "shiftKeeps", inPlace := ["internal/abi.NoEscape"], unfollowed := true, recurses := true, apart := false }
def ShiftKeepsSaid : Prop := shiftKeepsRow.holds Try.pinned (OpenSpec.ofChange shiftKeepsSpec)

/-- ITS FALSE NEIGHBOUR: 'it returns false'. Refute it at one input. -/
def shiftKeepsWrong : ChangeSpec := { name := "shiftKeeps", fn := fun _ => fun
  | [d1, d2] => { results := [.lit (.bool false)], args := [d1, d2] }
  | _ => none }
def ShiftKeepsWrongFalsely : Prop := shiftKeepsRow.holds Try.pinned (OpenSpec.ofChange shiftKeepsWrong)

/-- 'quartolaw06.ShiftRanges': WHATEVER THE INPUT: true; the input reads as it did. -/
def shiftRangesSpec : ChangeSpec := { name := "shiftRanges", fn := fun _ => fun
  | [d1, d2, d3] => { results := [.lit (.bool true)], args := [d1, d2, d3] }
  | _ => none }
def shiftRangesRow : OpenClaim := { program := "ytpbnciioeiohlaa", sum := "216a5f23b222f7e93f90fee17be14eea4cf006b0b1e60303c985486d454adfeb", func := "quarto/quartolaw06.ShiftRanges", spec := "shiftRanges", inPlace := ["internal/abi.NoEscape"], unfollowed := true, recurses := true, apart := false }
def ShiftRangesSaid : Prop := shiftRangesRow.holds Try.pinned (OpenSpec.ofChange shiftRangesSpec)

/-- ITS FALSE NEIGHBOUR: 'it returns false'. Refute it at one input. -/
def shiftRangesWrong : ChangeSpec := { name := "shiftRanges", fn := fun _ => fun
  | [d1, d2, d3] => { results := [.lit (.bool false)], args := [d1, d2, d3] }
  | _ => none }
def ShiftRangesWrongFalsely : Prop := shiftRangesRow.holds Try.pinned (OpenSpec.ofChange shiftRangesWrong)

/-- 'quartolaw06.ShiftExtent': WHATEVER THE INPUT: true; the input reads as it did. -/
def shiftExtentSpec : ChangeSpec := { name := "shiftExtent", fn := fun _ => fun
  | [d] => { results := [.lit (.bool true)], args := [d] }
  | _ => none }
def shiftExtentRow : OpenClaim := { program := "ytpbnciioeiohlaa", sum := "216a5f23b222f7e93f90fee17be14eea4cf006b0b1e60303c985486d454adfeb", func := "quarto/quartolaw06.ShiftExtent", spec := "shiftExtent", inPlace := ["internal/abi.NoEscape"], unfollowed := true, recurses := true, apart := false }
def ShiftExtentSaid : Prop := shiftExtentRow.holds Try.pinned (OpenSpec.ofChange shiftExtentSpec)

/-- ITS FALSE NEIGHBOUR: 'it returns false'. Refute it at one input. -/
def shiftExtentWrong : ChangeSpec := { name := "shiftExtent", fn := fun _ => fun
  | [d] => { results := [.lit (.bool false)], args := [d] }
  | _ => none }
def ShiftExtentWrongFalsely : Prop := shiftExtentRow.holds Try.pinned (OpenSpec.ofChange shiftExtentWrong)

/-- 'quartolaw06.ShiftGaps': WHATEVER THE INPUT: true; the input reads as it did. -/
def shiftGapsSpec : ChangeSpec := { name := "shiftGaps", fn := fun _ => fun
  | [d1, d2] => { results := [.lit (.bool true)], args := [d1, d2] }
  | _ => none }
def shiftGapsRow : OpenClaim := { program := "ytpbnciioeiohlaa", sum := "216a5f23b222f7e93f90fee17be14eea4cf006b0b1e60303c985486d454adfeb", func := "quarto/quartolaw06.ShiftGaps", spec := "shiftGaps", inPlace := ["internal/abi.NoEscape"], unfollowed := true, recurses := true, apart := false }
def ShiftGapsSaid : Prop := shiftGapsRow.holds Try.pinned (OpenSpec.ofChange shiftGapsSpec)

/-- ITS FALSE NEIGHBOUR: 'it returns false'. Refute it at one input. -/
def shiftGapsWrong : ChangeSpec := { name := "shiftGaps", fn := fun _ => fun
  | [d1, d2] => { results := [.lit (.bool false)], args := [d1, d2] }
  | _ => none }
def ShiftGapsWrongFalsely : Prop := shiftGapsRow.holds Try.pinned (OpenSpec.ofChange shiftGapsWrong)

/-- 'quartolaw06.ShiftOrders': WHATEVER THE INPUT: true; the input reads as it did. -/
def shiftOrdersSpec : ChangeSpec := { name := "shiftOrders", fn := fun _ => fun
  | [d1, d2, d3] => { results := [.lit (.bool true)], args := [d1, d2, d3] }
  | _ => none }
def shiftOrdersRow : OpenClaim := { program := "ytpbnciioeiohlaa", sum := "216a5f23b222f7e93f90fee17be14eea4cf006b0b1e60303c985486d454adfeb", func := "quarto/quartolaw06.ShiftOrders", spec := "shiftOrders", inPlace := ["internal/abi.NoEscape"], unfollowed := true, recurses := true, apart := false }
def ShiftOrdersSaid : Prop := shiftOrdersRow.holds Try.pinned (OpenSpec.ofChange shiftOrdersSpec)

/-- ITS FALSE NEIGHBOUR: 'it returns false'. Refute it at one input. -/
def shiftOrdersWrong : ChangeSpec := { name := "shiftOrders", fn := fun _ => fun
  | [d1, d2, d3] => { results := [.lit (.bool false)], args := [d1, d2, d3] }
  | _ => none }
def ShiftOrdersWrongFalsely : Prop := shiftOrdersRow.holds Try.pinned (OpenSpec.ofChange shiftOrdersWrong)

/-- 'quartolaw06.ShiftAdjoint': WHATEVER THE INPUT: true; the input reads as it did. -/
def shiftAdjointSpec : ChangeSpec := { name := "shiftAdjoint", fn := fun _ => fun
  | [d1, d2, d3] => { results := [.lit (.bool true)], args := [d1, d2, d3] }
  | _ => none }
def shiftAdjointRow : OpenClaim := { program := "ytpbnciioeiohlaa", sum := "216a5f23b222f7e93f90fee17be14eea4cf006b0b1e60303c985486d454adfeb", func := "quarto/quartolaw06.ShiftAdjoint", spec := "shiftAdjoint", inPlace := ["internal/abi.NoEscape"], unfollowed := true, recurses := true, apart := false }
def ShiftAdjointSaid : Prop := shiftAdjointRow.holds Try.pinned (OpenSpec.ofChange shiftAdjointSpec)

/-- ITS FALSE NEIGHBOUR: 'it returns false'. Refute it at one input. -/
def shiftAdjointWrong : ChangeSpec := { name := "shiftAdjoint", fn := fun _ => fun
  | [d1, d2, d3] => { results := [.lit (.bool false)], args := [d1, d2, d3] }
  | _ => none }
def ShiftAdjointWrongFalsely : Prop := shiftAdjointRow.holds Try.pinned (OpenSpec.ofChange shiftAdjointWrong)

/-- 'quartolaw04.ApplyParts': WHATEVER THE INPUT: true; the input reads as it did. -/
def applyPartsSpec : ChangeSpec := { name := "applyParts", fn := fun _ => fun
  | [d1, d2, d3, d4] => { results := [.lit (.bool true)], args := [d1, d2, d3, d4] }
  | _ => none }
def applyPartsRow : OpenClaim := { program := "ytpbnciioeiohlaa", sum := "216a5f23b222f7e93f90fee17be14eea4cf006b0b1e60303c985486d454adfeb", func := "quarto/quartolaw04.ApplyParts", spec := "applyParts", inPlace := ["internal/abi.NoEscape"], unfollowed := true, recurses := true, apart := false }
def ApplyPartsSaid : Prop := applyPartsRow.holds Try.pinned (OpenSpec.ofChange applyPartsSpec)

/-- ITS FALSE NEIGHBOUR: 'it returns false'. Refute it at one input. -/
def applyPartsWrong : ChangeSpec := { name := "applyParts", fn := fun _ => fun
  | [d1, d2, d3, d4] => { results := [.lit (.bool false)], args := [d1, d2, d3, d4] }
  | _ => none }
def ApplyPartsWrongFalsely : Prop := applyPartsRow.holds Try.pinned (OpenSpec.ofChange applyPartsWrong)

/-- 'quartolaw06.ShiftInverts': WHATEVER THE INPUT: true; the input reads as it did. -/
def shiftInvertsSpec : ChangeSpec := { name := "shiftInverts", fn := fun _ => fun
  | [d1, d2, d3, d4] => { results := [.lit (.bool true)], args := [d1, d2, d3, d4] }
  | _ => none }
def shiftInvertsRow : OpenClaim := { program := "ytpbnciioeiohlaa", sum := "216a5f23b222f7e93f90fee17be14eea4cf006b0b1e60303c985486d454adfeb", func := "quarto/quartolaw06.ShiftInverts", spec := "shiftInverts", inPlace := ["internal/abi.NoEscape"], unfollowed := true, recurses := true, apart := false }
def ShiftInvertsSaid : Prop := shiftInvertsRow.holds Try.pinned (OpenSpec.ofChange shiftInvertsSpec)

/-- ITS FALSE NEIGHBOUR: 'it returns false'. Refute it at one input. -/
def shiftInvertsWrong : ChangeSpec := { name := "shiftInverts", fn := fun _ => fun
  | [d1, d2, d3, d4] => { results := [.lit (.bool false)], args := [d1, d2, d3, d4] }
  | _ => none }
def ShiftInvertsWrongFalsely : Prop := shiftInvertsRow.holds Try.pinned (OpenSpec.ofChange shiftInvertsWrong)

/-- 'quartolaw06.ShiftOutside': WHATEVER THE INPUT: true; the input reads as it did. -/
def shiftOutsideSpec : ChangeSpec := { name := "shiftOutside", fn := fun _ => fun
  | [d1, d2, d3] => { results := [.lit (.bool true)], args := [d1, d2, d3] }
  | _ => none }
def shiftOutsideRow : OpenClaim := { program := "ytpbnciioeiohlaa", sum := "216a5f23b222f7e93f90fee17be14eea4cf006b0b1e60303c985486d454adfeb", func := "quarto/quartolaw06.ShiftOutside", spec := "shiftOutside", inPlace := ["internal/abi.NoEscape"], unfollowed := true, recurses := true, apart := false }
def ShiftOutsideSaid : Prop := shiftOutsideRow.holds Try.pinned (OpenSpec.ofChange shiftOutsideSpec)

/-- ITS FALSE NEIGHBOUR: 'it returns false'. Refute it at one input. -/
def shiftOutsideWrong : ChangeSpec := { name := "shiftOutside", fn := fun _ => fun
  | [d1, d2, d3] => { results := [.lit (.bool false)], args := [d1, d2, d3] }
  | _ => none }
def ShiftOutsideWrongFalsely : Prop := shiftOutsideRow.holds Try.pinned (OpenSpec.ofChange shiftOutsideWrong)

/- THE SECOND FORM. 'bulk': how many values and letters a reading holds, each counted each time it is reached (what is shared counts as often as it is met; a slice's spare places count too). A statement '..UptoSaid' is the law's where the arguments, and the package variables that the reading takes, are together of bulk at most 1048576: NARROWER than '..Said'. Prove '..Said' where nothing that the law and all that it calls make is longer than what came in: it says more and counts as full. Else prove '..UptoSaid'. A law counts once. -/
mutual
def uptoBulk {H : Type} : DataW H → Nat
  | .lit (.string bytes) => bytes.length + 1
  | .lit _ => 1
  | .nil => 1
  | .ptr d => uptoBulk d + 1
  | .slice elems spare => uptoBulkAll elems + uptoBulkAll spare + 1
  | .agg parts => uptoBulkAll parts + 1
  | .iface _ d => uptoBulk d + 1
  | .map entries => uptoBulkEntries entries + 1
  | .held _ => 1
def uptoBulkAll {H : Type} : List (DataW H) → Nat
  | [] => 0
  | d :: r => uptoBulk d + uptoBulkAll r
def uptoBulkEntries {H : Type} : List (Lit × DataW H) → Nat
  | [] => 0
  | x :: r => uptoBulkEntry x + uptoBulkEntries r
def uptoBulkEntry {H : Type} : Lit × DataW H → Nat
  | (.string bytes, d) => bytes.length + uptoBulk d + 1
  | (_, d) => uptoBulk d + 1
 end
def uptoSmall : (H : Type) → List (DataW H) → Bool := fun _ ds => decide (uptoBulkAll ds ≤ 1048576)
def OpenSpec.upto (s : _root_.Go.ChangeSpec) : _root_.Go.OpenSpec := { _root_.Go.OpenSpec.ofChange s with cond := some uptoSmall }

/-- 'quartolaw04.ApplyDoes', WHERE WHAT IT READS IS OF BULK AT MOST 1048576: true; the input reads as it did. -/
def applyDoesUptoRow : OpenClaim := { program := "ytpbnciioeiohlaa", sum := "216a5f23b222f7e93f90fee17be14eea4cf006b0b1e60303c985486d454adfeb", func := "quarto/quartolaw04.ApplyDoes", spec := "applyDoes", inPlace := ["internal/abi.NoEscape"], unfollowed := true, recurses := true, apart := false, narrowed := true }
def ApplyDoesUptoSaid : Prop := applyDoesUptoRow.holds Try.pinned (OpenSpec.upto applyDoesSpec)

/-- 'quartolaw04.ApplyInserted', WHERE WHAT IT READS IS OF BULK AT MOST 1048576: true; the input reads as it did. -/
def applyInsertedUptoRow : OpenClaim := { program := "ytpbnciioeiohlaa", sum := "216a5f23b222f7e93f90fee17be14eea4cf006b0b1e60303c985486d454adfeb", func := "quarto/quartolaw04.ApplyInserted", spec := "applyInserted", inPlace := ["internal/abi.NoEscape"], unfollowed := true, recurses := true, apart := false, narrowed := true }
def ApplyInsertedUptoSaid : Prop := applyInsertedUptoRow.holds Try.pinned (OpenSpec.upto applyInsertedSpec)

/-- 'quartolaw04.ApplyInverts', WHERE WHAT IT READS IS OF BULK AT MOST 1048576: true; the input reads as it did. -/
def applyInvertsUptoRow : OpenClaim := { program := "ytpbnciioeiohlaa", sum := "216a5f23b222f7e93f90fee17be14eea4cf006b0b1e60303c985486d454adfeb", func := "quarto/quartolaw04.ApplyInverts", spec := "applyInverts", inPlace := ["internal/abi.NoEscape"], unfollowed := true, recurses := true, apart := false, narrowed := true }
def ApplyInvertsUptoSaid : Prop := applyInvertsUptoRow.holds Try.pinned (OpenSpec.upto applyInvertsSpec)

/-- 'quartolaw04.ApplyMakes', WHERE WHAT IT READS IS OF BULK AT MOST 1048576: true; the input reads as it did. -/
def applyMakesUptoRow : OpenClaim := { program := "ytpbnciioeiohlaa", sum := "216a5f23b222f7e93f90fee17be14eea4cf006b0b1e60303c985486d454adfeb", func := "quarto/quartolaw04.ApplyMakes", spec := "applyMakes", inPlace := ["internal/abi.NoEscape"], unfollowed := true, recurses := true, apart := false, narrowed := true }
def ApplyMakesUptoSaid : Prop := applyMakesUptoRow.holds Try.pinned (OpenSpec.upto applyMakesSpec)

/-- 'quartolaw04.ApplyBack', WHERE WHAT IT READS IS OF BULK AT MOST 1048576: true; the input reads as it did. -/
def applyBackUptoRow : OpenClaim := { program := "ytpbnciioeiohlaa", sum := "216a5f23b222f7e93f90fee17be14eea4cf006b0b1e60303c985486d454adfeb", func := "quarto/quartolaw04.ApplyBack", spec := "applyBack", inPlace := ["internal/abi.NoEscape"], unfollowed := true, recurses := true, apart := false, narrowed := true }
def ApplyBackUptoSaid : Prop := applyBackUptoRow.holds Try.pinned (OpenSpec.upto applyBackSpec)

/-- 'quartolaw04.ApplyEdits', WHERE WHAT IT READS IS OF BULK AT MOST 1048576: true; the input reads as it did. -/
def applyEditsUptoRow : OpenClaim := { program := "ytpbnciioeiohlaa", sum := "216a5f23b222f7e93f90fee17be14eea4cf006b0b1e60303c985486d454adfeb", func := "quarto/quartolaw04.ApplyEdits", spec := "applyEdits", inPlace := ["internal/abi.NoEscape"], unfollowed := true, recurses := true, apart := false, narrowed := true }
def ApplyEditsUptoSaid : Prop := applyEditsUptoRow.holds Try.pinned (OpenSpec.upto applyEditsSpec)

/-- 'quartolaw04.ApplySame', WHERE WHAT IT READS IS OF BULK AT MOST 1048576: true; the input reads as it did. -/
def applySameUptoRow : OpenClaim := { program := "ytpbnciioeiohlaa", sum := "216a5f23b222f7e93f90fee17be14eea4cf006b0b1e60303c985486d454adfeb", func := "quarto/quartolaw04.ApplySame", spec := "applySame", inPlace := ["internal/abi.NoEscape"], unfollowed := true, recurses := true, apart := false, narrowed := true }
def ApplySameUptoSaid : Prop := applySameUptoRow.holds Try.pinned (OpenSpec.upto applySameSpec)

/-- 'quartolaw04.ApplyTells', WHERE WHAT IT READS IS OF BULK AT MOST 1048576: true; the input reads as it did. -/
def applyTellsUptoRow : OpenClaim := { program := "ytpbnciioeiohlaa", sum := "216a5f23b222f7e93f90fee17be14eea4cf006b0b1e60303c985486d454adfeb", func := "quarto/quartolaw04.ApplyTells", spec := "applyTells", inPlace := ["internal/abi.NoEscape"], unfollowed := true, recurses := true, apart := false, narrowed := true }
def ApplyTellsUptoSaid : Prop := applyTellsUptoRow.holds Try.pinned (OpenSpec.upto applyTellsSpec)

/-- 'quartolaw06.ShiftMoves', WHERE WHAT IT READS IS OF BULK AT MOST 1048576: true; the input reads as it did. -/
def shiftMovesUptoRow : OpenClaim := { program := "ytpbnciioeiohlaa", sum := "216a5f23b222f7e93f90fee17be14eea4cf006b0b1e60303c985486d454adfeb", func := "quarto/quartolaw06.ShiftMoves", spec := "shiftMoves", inPlace := ["internal/abi.NoEscape"], unfollowed := true, recurses := true, apart := false, narrowed := true }
def ShiftMovesUptoSaid : Prop := shiftMovesUptoRow.holds Try.pinned (OpenSpec.upto shiftMovesSpec)

/-- 'quartolaw06.ShiftKeeps', WHERE WHAT IT READS IS OF BULK AT MOST 1048576: true; the input reads as it did. -/
def shiftKeepsUptoRow : OpenClaim := { program := "ytpbnciioeiohlaa", sum := "216a5f23b222f7e93f90fee17be14eea4cf006b0b1e60303c985486d454adfeb", func := "quarto/quartolaw06.ShiftKeeps", spec := "shiftKeeps", inPlace := ["internal/abi.NoEscape"], unfollowed := true, recurses := true, apart := false, narrowed := true }
def ShiftKeepsUptoSaid : Prop := shiftKeepsUptoRow.holds Try.pinned (OpenSpec.upto shiftKeepsSpec)

/-- 'quartolaw06.ShiftRanges', WHERE WHAT IT READS IS OF BULK AT MOST 1048576: true; the input reads as it did. -/
def shiftRangesUptoRow : OpenClaim := { program := "ytpbnciioeiohlaa", sum := "216a5f23b222f7e93f90fee17be14eea4cf006b0b1e60303c985486d454adfeb", func := "quarto/quartolaw06.ShiftRanges", spec := "shiftRanges", inPlace := ["internal/abi.NoEscape"], unfollowed := true, recurses := true, apart := false, narrowed := true }
def ShiftRangesUptoSaid : Prop := shiftRangesUptoRow.holds Try.pinned (OpenSpec.upto shiftRangesSpec)

/-- 'quartolaw06.ShiftExtent', WHERE WHAT IT READS IS OF BULK AT MOST 1048576: true; the input reads as it did. -/
def shiftExtentUptoRow : OpenClaim := { program := "ytpbnciioeiohlaa", sum := "216a5f23b222f7e93f90fee17be14eea4cf006b0b1e60303c985486d454adfeb", func := "quarto/quartolaw06.ShiftExtent", spec := "shiftExtent", inPlace := ["internal/abi.NoEscape"], unfollowed := true, recurses := true, apart := false, narrowed := true }
def ShiftExtentUptoSaid : Prop := shiftExtentUptoRow.holds Try.pinned (OpenSpec.upto shiftExtentSpec)

/-- 'quartolaw06.ShiftGaps', WHERE WHAT IT READS IS OF BULK AT MOST 1048576: true; the input reads as it did. -/
def shiftGapsUptoRow : OpenClaim := { program := "ytpbnciioeiohlaa", sum := "216a5f23b222f7e93f90fee17be14eea4cf006b0b1e60303c985486d454adfeb", func := "quarto/quartolaw06.ShiftGaps", spec := "shiftGaps", inPlace := ["internal/abi.NoEscape"], unfollowed := true, recurses := true, apart := false, narrowed := true }
def ShiftGapsUptoSaid : Prop := shiftGapsUptoRow.holds Try.pinned (OpenSpec.upto shiftGapsSpec)

/-- 'quartolaw06.ShiftOrders', WHERE WHAT IT READS IS OF BULK AT MOST 1048576: true; the input reads as it did. -/
def shiftOrdersUptoRow : OpenClaim := { program := "ytpbnciioeiohlaa", sum := "216a5f23b222f7e93f90fee17be14eea4cf006b0b1e60303c985486d454adfeb", func := "quarto/quartolaw06.ShiftOrders", spec := "shiftOrders", inPlace := ["internal/abi.NoEscape"], unfollowed := true, recurses := true, apart := false, narrowed := true }
def ShiftOrdersUptoSaid : Prop := shiftOrdersUptoRow.holds Try.pinned (OpenSpec.upto shiftOrdersSpec)

/-- 'quartolaw06.ShiftAdjoint', WHERE WHAT IT READS IS OF BULK AT MOST 1048576: true; the input reads as it did. -/
def shiftAdjointUptoRow : OpenClaim := { program := "ytpbnciioeiohlaa", sum := "216a5f23b222f7e93f90fee17be14eea4cf006b0b1e60303c985486d454adfeb", func := "quarto/quartolaw06.ShiftAdjoint", spec := "shiftAdjoint", inPlace := ["internal/abi.NoEscape"], unfollowed := true, recurses := true, apart := false, narrowed := true }
def ShiftAdjointUptoSaid : Prop := shiftAdjointUptoRow.holds Try.pinned (OpenSpec.upto shiftAdjointSpec)

/-- 'quartolaw04.ApplyParts', WHERE WHAT IT READS IS OF BULK AT MOST 1048576: true; the input reads as it did. -/
def applyPartsUptoRow : OpenClaim := { program := "ytpbnciioeiohlaa", sum := "216a5f23b222f7e93f90fee17be14eea4cf006b0b1e60303c985486d454adfeb", func := "quarto/quartolaw04.ApplyParts", spec := "applyParts", inPlace := ["internal/abi.NoEscape"], unfollowed := true, recurses := true, apart := false, narrowed := true }
def ApplyPartsUptoSaid : Prop := applyPartsUptoRow.holds Try.pinned (OpenSpec.upto applyPartsSpec)

/-- 'quartolaw06.ShiftInverts', WHERE WHAT IT READS IS OF BULK AT MOST 1048576: true; the input reads as it did. -/
def shiftInvertsUptoRow : OpenClaim := { program := "ytpbnciioeiohlaa", sum := "216a5f23b222f7e93f90fee17be14eea4cf006b0b1e60303c985486d454adfeb", func := "quarto/quartolaw06.ShiftInverts", spec := "shiftInverts", inPlace := ["internal/abi.NoEscape"], unfollowed := true, recurses := true, apart := false, narrowed := true }
def ShiftInvertsUptoSaid : Prop := shiftInvertsUptoRow.holds Try.pinned (OpenSpec.upto shiftInvertsSpec)

/-- 'quartolaw06.ShiftOutside', WHERE WHAT IT READS IS OF BULK AT MOST 1048576: true; the input reads as it did. -/
def shiftOutsideUptoRow : OpenClaim := { program := "ytpbnciioeiohlaa", sum := "216a5f23b222f7e93f90fee17be14eea4cf006b0b1e60303c985486d454adfeb", func := "quarto/quartolaw06.ShiftOutside", spec := "shiftOutside", inPlace := ["internal/abi.NoEscape"], unfollowed := true, recurses := true, apart := false, narrowed := true }
def ShiftOutsideUptoSaid : Prop := shiftOutsideUptoRow.holds Try.pinned (OpenSpec.upto shiftOutsideSpec)

end Rows
end Go.Proofs.Ytpbnciioeiohlaa
