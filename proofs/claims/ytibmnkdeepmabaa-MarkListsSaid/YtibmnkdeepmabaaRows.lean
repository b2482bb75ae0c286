/-
  No cell of these rows narrows 'for every input' (looked for: loops, veiled, ifaces, maps, wideKeys, modest, calm, conditions, laid).
  DERIVED. THE GIVEN ROWS OF THIS SEAT. 8 by the template 'for every input the law returns true; each argument reads behind the call as it read before'; 0 by the template 'total and deterministic' (their statements: YtibmnkdeepmabaaTotals.lean).
  GIVEN WITH THE SEED: the statements are not yours to turn. If you find one false, say at which input.
  Laid BY PROGRAM, IN A SANDBOX (cutbox-rows.mjs): the forced cells as the released guide's own fill.sh prints them over the translation 7142dcbc5765133c… (all of the seat's roots in one cut). By AI agents, Wed Nov 11 2026. No macro, syntax, notation, axiom, sorry.
-/
import Derived.Test.YtibmnkdeepmabaaChecked
import GoSem.Claim
import GoSem.ClaimJoined
import GoSem.ClaimMapViews
import Derived.JoinedTies
import Derived.KernelRfl
namespace Go.Proofs.Ytibmnkdeepmabaa
/- THE CELL 'sum', in the pinned program and in every row, IS THE sha256 OF THE DUMP (.gsa) THAT YtibmnkdeepmabaaProg.lean LOADS. Nothing in Lean hashes anything: it is a label: what it is worth is what the hold of that sum in a sandbox is worth. -/
noncomputable def Try.pinned : Pinned := { name := "ytibmnkdeepmabaa", sum := "7142dcbc5765133c0b94901298d7daac3ec44c65cf86c46e5be7f9b98708ce7d", checked := Try.checked }
namespace Rows
def none {H : Type} : Left H := { results := [], args := [] }

/-- 'quartolaw09.MarkChecks': WHATEVER THE INPUT: true; the input reads as it did. -/
def markChecksSpec : ChangeSpec := { name := "markChecks", fn := fun _ => fun
  | [d1, d2] => { results := [.lit (.bool true)], args := [d1, d2] }
  | _ => none }
def markChecksRow : OpenClaim := { program := "ytibmnkdeepmabaa", sum := "7142dcbc5765133c0b94901298d7daac3ec44c65cf86c46e5be7f9b98708ce7d", func := "quarto/quartolaw09.MarkChecks", spec := "markChecks", inPlace := ["slices.overlaps[quarto/api.Mark]"], unfollowed := true, recurses := true, apart := false }
def MarkChecksSaid : Prop := markChecksRow.holds Try.pinned (OpenSpec.ofChange markChecksSpec)

/-- ITS FALSE NEIGHBOUR: 'it returns false'. Refute it at one input. -/
def markChecksWrong : ChangeSpec := { name := "markChecks", fn := fun _ => fun
  | [d1, d2] => { results := [.lit (.bool false)], args := [d1, d2] }
  | _ => none }
def MarkChecksWrongFalsely : Prop := markChecksRow.holds Try.pinned (OpenSpec.ofChange markChecksWrong)

/-- 'quartolaw09.MarkSets': WHATEVER THE INPUT: true; the input reads as it did. -/
def markSetsSpec : ChangeSpec := { name := "markSets", fn := fun _ => fun
  | [d1, d2, d3] => { results := [.lit (.bool true)], args := [d1, d2, d3] }
  | _ => none }
def markSetsRow : OpenClaim := { program := "ytibmnkdeepmabaa", sum := "7142dcbc5765133c0b94901298d7daac3ec44c65cf86c46e5be7f9b98708ce7d", func := "quarto/quartolaw09.MarkSets", spec := "markSets", inPlace := ["slices.overlaps[quarto/api.Mark]"], unfollowed := true, recurses := true, apart := false }
def MarkSetsSaid : Prop := markSetsRow.holds Try.pinned (OpenSpec.ofChange markSetsSpec)

/-- ITS FALSE NEIGHBOUR: 'it returns false'. Refute it at one input. -/
def markSetsWrong : ChangeSpec := { name := "markSets", fn := fun _ => fun
  | [d1, d2, d3] => { results := [.lit (.bool false)], args := [d1, d2, d3] }
  | _ => none }
def MarkSetsWrongFalsely : Prop := markSetsRow.holds Try.pinned (OpenSpec.ofChange markSetsWrong)

/-- 'quartolaw09.MarkShifts': WHATEVER THE INPUT: true; the input reads as it did. -/
def markShiftsSpec : ChangeSpec := { name := "markShifts", fn := fun _ => fun
  | [d1, d2] => { results := [.lit (.bool true)], args := [d1, d2] }
  | _ => none }
def markShiftsRow : OpenClaim := { program := "ytibmnkdeepmabaa", sum := "7142dcbc5765133c0b94901298d7daac3ec44c65cf86c46e5be7f9b98708ce7d", func := "quarto/quartolaw09.MarkShifts", spec := "markShifts", inPlace := ["slices.overlaps[quarto/api.Mark]"], unfollowed := true, recurses := true, apart := false }
def MarkShiftsSaid : Prop := markShiftsRow.holds Try.pinned (OpenSpec.ofChange markShiftsSpec)

/-- ITS FALSE NEIGHBOUR: 'it returns false'. Refute it at one input. -/
def markShiftsWrong : ChangeSpec := { name := "markShifts", fn := fun _ => fun
  | [d1, d2] => { results := [.lit (.bool false)], args := [d1, d2] }
  | _ => none }
def MarkShiftsWrongFalsely : Prop := markShiftsRow.holds Try.pinned (OpenSpec.ofChange markShiftsWrong)

/-- 'quartolaw09.MarkLists': WHATEVER THE INPUT: true; the input reads as it did. -/
def markListsSpec : ChangeSpec := { name := "markLists", fn := fun _ => fun
  | [d1, d2, d3] => { results := [.lit (.bool true)], args := [d1, d2, d3] }
  | _ => none }
def markListsRow : OpenClaim := { program := "ytibmnkdeepmabaa", sum := "7142dcbc5765133c0b94901298d7daac3ec44c65cf86c46e5be7f9b98708ce7d", func := "quarto/quartolaw09.MarkLists", spec := "markLists", inPlace := ["slices.overlaps[quarto/api.Mark]"], unfollowed := true, recurses := true, apart := false }
def MarkListsSaid : Prop := markListsRow.holds Try.pinned (OpenSpec.ofChange markListsSpec)

/-- ITS FALSE NEIGHBOUR: 'it returns false'. Refute it at one input. -/
def markListsWrong : ChangeSpec := { name := "markLists", fn := fun _ => fun
  | [d1, d2, d3] => { results := [.lit (.bool false)], args := [d1, d2, d3] }
  | _ => none }
def MarkListsWrongFalsely : Prop := markListsRow.holds Try.pinned (OpenSpec.ofChange markListsWrong)

/-- 'quartolaw09.MarkKeeps': WHATEVER THE INPUT: true; the input reads as it did. -/
def markKeepsSpec : ChangeSpec := { name := "markKeeps", fn := fun _ => fun
  | [d1, d2, d3] => { results := [.lit (.bool true)], args := [d1, d2, d3] }
  | _ => none }
def markKeepsRow : OpenClaim := { program := "ytibmnkdeepmabaa", sum := "7142dcbc5765133c0b94901298d7daac3ec44c65cf86c46e5be7f9b98708ce7d", func := "quarto/quartolaw09.MarkKeeps", spec := "markKeeps", inPlace := ["slices.overlaps[quarto/api.Mark]"], unfollowed := true, recurses := true, apart := false }
def MarkKeepsSaid : Prop := markKeepsRow.holds Try.pinned (OpenSpec.ofChange markKeepsSpec)

/-- ITS FALSE NEIGHBOUR: 'it returns false'. Refute it at one input. -/
def markKeepsWrong : ChangeSpec := { name := "markKeeps", fn := fun _ => fun
  | [d1, d2, d3] => { results := [.lit (.bool false)], args := [d1, d2, d3] }
  | _ => none }
def MarkKeepsWrongFalsely : Prop := markKeepsRow.holds Try.pinned (OpenSpec.ofChange markKeepsWrong)

/-- 'quartolaw09.MarkMoves': WHATEVER THE INPUT: true; the input reads as it did. -/
def markMovesSpec : ChangeSpec := { name := "markMoves", fn := fun _ => fun
  | [d1, d2] => { results := [.lit (.bool true)], args := [d1, d2] }
  | _ => none }
def markMovesRow : OpenClaim := { program := "ytibmnkdeepmabaa", sum := "7142dcbc5765133c0b94901298d7daac3ec44c65cf86c46e5be7f9b98708ce7d", func := "quarto/quartolaw09.MarkMoves", spec := "markMoves", inPlace := ["slices.overlaps[quarto/api.Mark]"], unfollowed := true, recurses := true, apart := false }
def MarkMovesSaid : Prop := markMovesRow.holds Try.pinned (OpenSpec.ofChange markMovesSpec)

/-- ITS FALSE NEIGHBOUR: 'it returns false'. Refute it at one input. -/
def markMovesWrong : ChangeSpec := { name := "markMoves", fn := fun _ => fun
  | [d1, d2] => { results := [.lit (.bool false)], args := [d1, d2] }
  | _ => none }
def MarkMovesWrongFalsely : Prop := markMovesRow.holds Try.pinned (OpenSpec.ofChange markMovesWrong)

/-- 'quartolaw09.MarkReturns': WHATEVER THE INPUT: true; the input reads as it did. -/
def markReturnsSpec : ChangeSpec := { name := "markReturns", fn := fun _ => fun
  | [d1, d2, d3] => { results := [.lit (.bool true)], args := [d1, d2, d3] }
  | _ => none }
def markReturnsRow : OpenClaim := { program := "ytibmnkdeepmabaa", sum := "7142dcbc5765133c0b94901298d7daac3ec44c65cf86c46e5be7f9b98708ce7d", func := "quarto/quartolaw09.MarkReturns", spec := "markReturns", inPlace := ["internal/abi.NoEscape", "slices.overlaps[quarto/api.Mark]"], unfollowed := true, recurses := true, apart := false }
def MarkReturnsSaid : Prop := markReturnsRow.holds Try.pinned (OpenSpec.ofChange markReturnsSpec)

/-- ITS FALSE NEIGHBOUR: 'it returns false'. Refute it at one input. -/
def markReturnsWrong : ChangeSpec := { name := "markReturns", fn := fun _ => fun
  | [d1, d2, d3] => { results := [.lit (.bool false)], args := [d1, d2, d3] }
  | _ => none }
def MarkReturnsWrongFalsely : Prop := markReturnsRow.holds Try.pinned (OpenSpec.ofChange markReturnsWrong)

/-- 'quartolaw09.MarkFollows': WHATEVER THE INPUT: true; the input reads as it did. -/
def markFollowsSpec : ChangeSpec := { name := "markFollows", fn := fun _ => fun
  | [d1, d2, d3] => { results := [.lit (.bool true)], args := [d1, d2, d3] }
  | _ => none }
def markFollowsRow : OpenClaim := { program := "ytibmnkdeepmabaa", sum := "7142dcbc5765133c0b94901298d7daac3ec44c65cf86c46e5be7f9b98708ce7d", func := "quarto/quartolaw09.MarkFollows", spec := "markFollows", inPlace := ["internal/abi.NoEscape", "slices.overlaps[quarto/api.Mark]"], unfollowed := true, recurses := true, apart := false }
def MarkFollowsSaid : Prop := markFollowsRow.holds Try.pinned (OpenSpec.ofChange markFollowsSpec)

/-- ITS FALSE NEIGHBOUR: 'it returns false'. Refute it at one input. -/
def markFollowsWrong : ChangeSpec := { name := "markFollows", fn := fun _ => fun
  | [d1, d2, d3] => { results := [.lit (.bool false)], args := [d1, d2, d3] }
  | _ => none }
def MarkFollowsWrongFalsely : Prop := markFollowsRow.holds Try.pinned (OpenSpec.ofChange markFollowsWrong)

/- THE SECOND FORM. 'bulk': how many values and letters a reading holds, each counted each time it is reached (what is shared counts as often as it is met; a slice's spare places count too). A statement '..UptoSaid' is the law's where the arguments, and the package variables that the reading takes, are together of bulk at most 1048576: NARROWER than '..Said'. Prove '..Said' where nothing that the law and all that it calls make is longer than what came in: it says more and counts as full. Else prove '..UptoSaid'. A law counts once. -/
mutual
def uptoBulk {H : Type} : DataW H → Nat
  | .lit (.string bytes) => bytes.length + 1
  | .lit _ => 1
  | .nil => 1
  | .ptr d => uptoBulk d + 1
  | .slice elems spare => uptoBulkAll elems + uptoBulkAll spare + 1
  | .agg parts => uptoBulkAll parts + 1
  | .iface _ d => uptoBulk d + 1
  | .map entries => uptoBulkEntries entries + 1
  | .held _ => 1
def uptoBulkAll {H : Type} : List (DataW H) → Nat
  | [] => 0
  | d :: r => uptoBulk d + uptoBulkAll r
def uptoBulkEntries {H : Type} : List (Lit × DataW H) → Nat
  | [] => 0
  | x :: r => uptoBulkEntry x + uptoBulkEntries r
def uptoBulkEntry {H : Type} : Lit × DataW H → Nat
  | (.string bytes, d) => bytes.length + uptoBulk d + 1
  | (_, d) => uptoBulk d + 1
 end
def uptoSmall : (H : Type) → List (DataW H) → Bool := fun _ ds => decide (uptoBulkAll ds ≤ 1048576)
def OpenSpec.upto (s : _root_.Go.ChangeSpec) : _root_.Go.OpenSpec := { _root_.Go.OpenSpec.ofChange s with cond := some uptoSmall }

/-- 'quartolaw09.MarkChecks', WHERE WHAT IT READS IS OF BULK AT MOST 1048576: true; the input reads as it did. -/
def markChecksUptoRow : OpenClaim := { program := "ytibmnkdeepmabaa", sum := "7142dcbc5765133c0b94901298d7daac3ec44c65cf86c46e5be7f9b98708ce7d", func := "quarto/quartolaw09.MarkChecks", spec := "markChecks", inPlace := ["slices.overlaps[quarto/api.Mark]"], unfollowed := true, recurses := true, apart := false, narrowed := true }
def MarkChecksUptoSaid : Prop := markChecksUptoRow.holds Try.pinned (OpenSpec.upto markChecksSpec)

/-- 'quartolaw09.MarkSets', WHERE WHAT IT READS IS OF BULK AT MOST 1048576: true; the input reads as it did. -/
def markSetsUptoRow : OpenClaim := { program := "ytibmnkdeepmabaa", sum := "7142dcbc5765133c0b94901298d7daac3ec44c65cf86c46e5be7f9b98708ce7d", func := "quarto/quartolaw09.MarkSets", spec := "markSets", inPlace := ["slices.overlaps[quarto/api.Mark]"], unfollowed := true, recurses := true, apart := false, narrowed := true }
def MarkSetsUptoSaid : Prop := markSetsUptoRow.holds Try.pinned (OpenSpec.upto markSetsSpec)

/-- 'quartolaw09.MarkShifts', WHERE WHAT IT READS IS OF BULK AT MOST 1048576: true; the input reads as it did. -/
def markShiftsUptoRow : OpenClaim := { program := "ytibmnkdeepmabaa", sum := "7142dcbc5765133c0b94901298d7daac3ec44c65cf86c46e5be7f9b98708ce7d", func := "quarto/quartolaw09.MarkShifts", spec := "markShifts", inPlace := ["slices.overlaps[quarto/api.Mark]"], unfollowed := true, recurses := true, apart := false, narrowed := true }
def MarkShiftsUptoSaid : Prop := markShiftsUptoRow.holds Try.pinned (OpenSpec.upto markShiftsSpec)

/-- 'quartolaw09.MarkLists', WHERE WHAT IT READS IS OF BULK AT MOST 1048576: true; the input reads as it did. -/
def markListsUptoRow : OpenClaim := { program := "ytibmnkdeepmabaa", sum := "7142dcbc5765133c0b94901298d7daac3ec44c65cf86c46e5be7f9b98708ce7d", func := "quarto/quartolaw09.MarkLists", spec := "markLists", inPlace := ["slices.overlaps[quarto/api.Mark]"], unfollowed := true, recurses := true, apart := false, narrowed := true }
def MarkListsUptoSaid : Prop := markListsUptoRow.holds Try.pinned (OpenSpec.upto markListsSpec)

/-- 'quartolaw09.MarkKeeps', WHERE WHAT IT READS IS OF BULK AT MOST 1048576: true; the input reads as it did. -/
def markKeepsUptoRow : OpenClaim := { program := "ytibmnkdeepmabaa", sum := "7142dcbc5765133c0b94901298d7daac3ec44c65cf86c46e5be7f9b98708ce7d", func := "quarto/quartolaw09.MarkKeeps", spec := "markKeeps", inPlace := ["slices.overlaps[quarto/api.Mark]"], unfollowed := true, recurses := true, apart := false, narrowed := true }
def MarkKeepsUptoSaid : Prop := markKeepsUptoRow.holds Try.pinned (OpenSpec.upto markKeepsSpec)

/-- 'quartolaw09.MarkMoves', WHERE WHAT IT READS IS OF BULK AT MOST 1048576: true; the input reads as it did. -/
def markMovesUptoRow : OpenClaim := { program := "ytibmnkdeepmabaa", sum := "7142dcbc5765133c0b94901298d7daac3ec44c65cf86c46e5be7f9b98708ce7d", func := "quarto/quartolaw09.MarkMoves", spec := "markMoves", inPlace := ["slices.overlaps[quarto/api.Mark]"], unfollowed := true, recurses := true, apart := false, narrowed := true }
def MarkMovesUptoSaid : Prop := markMovesUptoRow.holds Try.pinned (OpenSpec.upto markMovesSpec)

/-- 'quartolaw09.MarkReturns', WHERE WHAT IT READS IS OF BULK AT MOST 1048576: true; the input reads as it did. -/
def markReturnsUptoRow : OpenClaim := { program := "ytibmnkdeepmabaa", sum := "7142dcbc5765133c0b94901298d7daac3ec44c65cf86c46e5be7f9b98708ce7d", func := "quarto/quartolaw09.MarkReturns", spec := "markReturns", inPlace := ["internal/abi.NoEscape", "slices.overlaps[quarto/api.Mark]"], unfollowed := true, recurses := true, apart := false, narrowed := true }
def MarkReturnsUptoSaid : Prop := markReturnsUptoRow.holds Try.pinned (OpenSpec.upto markReturnsSpec)

/-- 'quartolaw09.MarkFollows', WHERE WHAT IT READS IS OF BULK AT MOST 1048576: true; the input reads as it did. -/
def markFollowsUptoRow : OpenClaim := { program := "ytibmnkdeepmabaa", sum := "7142dcbc5765133c0b94901298d7daac3ec44c65cf86c46e5be7f9b98708ce7d", func := "quarto/quartolaw09.MarkFollows", spec := "markFollows", inPlace := ["internal/abi.NoEscape", "slices.overlaps[quarto/api.Mark]"], unfollowed := true, recurses := true, apart := false, narrowed := true }
def MarkFollowsUptoSaid : Prop := markFollowsUptoRow.holds Try.pinned (OpenSpec.upto markFollowsSpec)

end Rows
end Go.Proofs.Ytibmnkdeepmabaa
