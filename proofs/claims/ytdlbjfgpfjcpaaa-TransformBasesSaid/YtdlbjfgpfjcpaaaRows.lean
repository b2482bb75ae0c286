/-
  No cell of these rows narrows 'for every input' (looked for: loops, veiled, ifaces, maps, wideKeys, modest, calm, conditions, laid).
  DERIVED. THE GIVEN ROWS OF THIS SEAT. 19 by the template 'for every input the law returns true; each argument reads behind the call as it read before'; 0 by the template 'total and deterministic' (their statements: YtdlbjfgpfjcpaaaTotals.lean).
  GIVEN WITH THE SEED: the statements are not yours to turn. If you find one false, say at which input.
  Laid BY PROGRAM, IN A SANDBOX (cutbox-rows.mjs): the forced cells as the released guide's own fill.sh prints them over the translation 7731f74502846dc3… (all of the seat's roots in one cut). By AI agents, Wed Nov 11 2026. No macro, syntax, notation, axiom, sorry.
-/
import Derived.Test.YtdlbjfgpfjcpaaaChecked
import GoSem.Claim
import GoSem.ClaimJoined
import GoSem.ClaimMapViews
import Derived.JoinedTies
import Derived.KernelRfl
namespace Go.Proofs.Ytdlbjfgpfjcpaaa
/- THE CELL 'sum', in the pinned program and in every row, IS THE sha256 OF THE DUMP (.gsa) THAT YtdlbjfgpfjcpaaaProg.lean LOADS. Nothing in Lean hashes anything: it is a label: what it is worth is what the hold of that sum in a sandbox is worth. -/
noncomputable def Try.pinned : Pinned := { name := "ytdlbjfgpfjcpaaa", sum := "7731f74502846dc3f101df6c80d7b6127782c382cb314aa4115bc5c9a4b94840", checked := Try.checked }
namespace Rows
def none {H : Type} : Left H := { results := [], args := [] }

/-- 'quartolaw05.ComposeDoes': WHATEVER THE INPUT: true; the input reads as it did. -/
def composeDoesSpec : ChangeSpec := { name := "composeDoes", fn := fun _ => fun
  | [d1, d2] => { results := [.lit (.bool true)], args := [d1, d2] }
  | _ => none }
def composeDoesRow : OpenClaim := { program := "ytdlbjfgpfjcpaaa", sum := "7731f74502846dc3f101df6c80d7b6127782c382cb314aa4115bc5c9a4b94840", func := "quarto/quartolaw05.ComposeDoes", spec := "composeDoes", inPlace := ["internal/abi.NoEscape"], unfollowed := true, recurses := true, apart := false }
def ComposeDoesSaid : Prop := composeDoesRow.holds Try.pinned (OpenSpec.ofChange composeDoesSpec)

/-- ITS FALSE NEIGHBOUR: 'it returns false'. Refute it at one input. -/
def composeDoesWrong : ChangeSpec := { name := "composeDoes", fn := fun _ => fun
  | [d1, d2] => { results := [.lit (.bool false)], args := [d1, d2] }
  | _ => none }
def ComposeDoesWrongFalsely : Prop := composeDoesRow.holds Try.pinned (OpenSpec.ofChange composeDoesWrong)

/-- 'quartolaw05.ComposeAll': WHATEVER THE INPUT: true; the input reads as it did. -/
def composeAllSpec : ChangeSpec := { name := "composeAll", fn := fun _ => fun
  | [d1, d2] => { results := [.lit (.bool true)], args := [d1, d2] }
  | _ => none }
def composeAllRow : OpenClaim := { program := "ytdlbjfgpfjcpaaa", sum := "7731f74502846dc3f101df6c80d7b6127782c382cb314aa4115bc5c9a4b94840", func := "quarto/quartolaw05.ComposeAll", spec := "composeAll", inPlace := ["internal/abi.NoEscape"], unfollowed := true, recurses := true, apart := false }
def ComposeAllSaid : Prop := composeAllRow.holds Try.pinned (OpenSpec.ofChange composeAllSpec)

/-- ITS FALSE NEIGHBOUR: 'it returns false'. Refute it at one input. -/
def composeAllWrong : ChangeSpec := { name := "composeAll", fn := fun _ => fun
  | [d1, d2] => { results := [.lit (.bool false)], args := [d1, d2] }
  | _ => none }
def ComposeAllWrongFalsely : Prop := composeAllRow.holds Try.pinned (OpenSpec.ofChange composeAllWrong)

/-- 'quartolaw05.ComposeSplits': WHATEVER THE INPUT: true; the input reads as it did. -/
def composeSplitsSpec : ChangeSpec := { name := "composeSplits", fn := fun _ => fun
  | [d] => { results := [.lit (.bool true)], args := [d] }
  | _ => none }
def composeSplitsRow : OpenClaim := { program := "ytdlbjfgpfjcpaaa", sum := "7731f74502846dc3f101df6c80d7b6127782c382cb314aa4115bc5c9a4b94840", func := "quarto/quartolaw05.ComposeSplits", spec := "composeSplits", inPlace := ["internal/abi.NoEscape"], unfollowed := true, recurses := true, apart := false }
def ComposeSplitsSaid : Prop := composeSplitsRow.holds Try.pinned (OpenSpec.ofChange composeSplitsSpec)

/-- ITS FALSE NEIGHBOUR: 'it returns false'. Refute it at one input. -/
def composeSplitsWrong : ChangeSpec := { name := "composeSplits", fn := fun _ => fun
  | [d] => { results := [.lit (.bool false)], args := [d] }
  | _ => none }
def ComposeSplitsWrongFalsely : Prop := composeSplitsRow.holds Try.pinned (OpenSpec.ofChange composeSplitsWrong)

/-- 'quartolaw05.ComposeGroups': WHATEVER THE INPUT: true; the input reads as it did. -/
def composeGroupsSpec : ChangeSpec := { name := "composeGroups", fn := fun _ => fun
  | [d1, d2, d3] => { results := [.lit (.bool true)], args := [d1, d2, d3] }
  | _ => none }
def composeGroupsRow : OpenClaim := { program := "ytdlbjfgpfjcpaaa", sum := "7731f74502846dc3f101df6c80d7b6127782c382cb314aa4115bc5c9a4b94840", func := "quarto/quartolaw05.ComposeGroups", spec := "composeGroups", inPlace := ["internal/abi.NoEscape"], unfollowed := true, recurses := true, apart := false }
def ComposeGroupsSaid : Prop := composeGroupsRow.holds Try.pinned (OpenSpec.ofChange composeGroupsSpec)

/-- ITS FALSE NEIGHBOUR: 'it returns false'. Refute it at one input. -/
def composeGroupsWrong : ChangeSpec := { name := "composeGroups", fn := fun _ => fun
  | [d1, d2, d3] => { results := [.lit (.bool false)], args := [d1, d2, d3] }
  | _ => none }
def ComposeGroupsWrongFalsely : Prop := composeGroupsRow.holds Try.pinned (OpenSpec.ofChange composeGroupsWrong)

/-- 'quartolaw05.ComposeNeutral': WHATEVER THE INPUT: true; the input reads as it did. -/
def composeNeutralSpec : ChangeSpec := { name := "composeNeutral", fn := fun _ => fun
  | [d] => { results := [.lit (.bool true)], args := [d] }
  | _ => none }
def composeNeutralRow : OpenClaim := { program := "ytdlbjfgpfjcpaaa", sum := "7731f74502846dc3f101df6c80d7b6127782c382cb314aa4115bc5c9a4b94840", func := "quarto/quartolaw05.ComposeNeutral", spec := "composeNeutral", inPlace := ["internal/abi.NoEscape"], unfollowed := true, recurses := true, apart := false }
def ComposeNeutralSaid : Prop := composeNeutralRow.holds Try.pinned (OpenSpec.ofChange composeNeutralSpec)

/-- ITS FALSE NEIGHBOUR: 'it returns false'. Refute it at one input. -/
def composeNeutralWrong : ChangeSpec := { name := "composeNeutral", fn := fun _ => fun
  | [d] => { results := [.lit (.bool false)], args := [d] }
  | _ => none }
def ComposeNeutralWrongFalsely : Prop := composeNeutralRow.holds Try.pinned (OpenSpec.ofChange composeNeutralWrong)

/-- 'quartolaw05.ComposeCounts': WHATEVER THE INPUT: true; the input reads as it did. -/
def composeCountsSpec : ChangeSpec := { name := "composeCounts", fn := fun _ => fun
  | [d1, d2] => { results := [.lit (.bool true)], args := [d1, d2] }
  | _ => none }
def composeCountsRow : OpenClaim := { program := "ytdlbjfgpfjcpaaa", sum := "7731f74502846dc3f101df6c80d7b6127782c382cb314aa4115bc5c9a4b94840", func := "quarto/quartolaw05.ComposeCounts", spec := "composeCounts", inPlace := ["internal/abi.NoEscape"], unfollowed := true, recurses := true, apart := false }
def ComposeCountsSaid : Prop := composeCountsRow.holds Try.pinned (OpenSpec.ofChange composeCountsSpec)

/-- ITS FALSE NEIGHBOUR: 'it returns false'. Refute it at one input. -/
def composeCountsWrong : ChangeSpec := { name := "composeCounts", fn := fun _ => fun
  | [d1, d2] => { results := [.lit (.bool false)], args := [d1, d2] }
  | _ => none }
def ComposeCountsWrongFalsely : Prop := composeCountsRow.holds Try.pinned (OpenSpec.ofChange composeCountsWrong)

/-- 'quartolaw05.ComposeFolds': WHATEVER THE INPUT: true; the input reads as it did. -/
def composeFoldsSpec : ChangeSpec := { name := "composeFolds", fn := fun _ => fun
  | [d1, d2, d3] => { results := [.lit (.bool true)], args := [d1, d2, d3] }
  | _ => none }
def composeFoldsRow : OpenClaim := { program := "ytdlbjfgpfjcpaaa", sum := "7731f74502846dc3f101df6c80d7b6127782c382cb314aa4115bc5c9a4b94840", func := "quarto/quartolaw05.ComposeFolds", spec := "composeFolds", inPlace := ["internal/abi.NoEscape"], unfollowed := true, recurses := true, apart := false }
def ComposeFoldsSaid : Prop := composeFoldsRow.holds Try.pinned (OpenSpec.ofChange composeFoldsSpec)

/-- ITS FALSE NEIGHBOUR: 'it returns false'. Refute it at one input. -/
def composeFoldsWrong : ChangeSpec := { name := "composeFolds", fn := fun _ => fun
  | [d1, d2, d3] => { results := [.lit (.bool false)], args := [d1, d2, d3] }
  | _ => none }
def ComposeFoldsWrongFalsely : Prop := composeFoldsRow.holds Try.pinned (OpenSpec.ofChange composeFoldsWrong)

/-- 'quartolaw05.ComposeApplies': WHATEVER THE INPUT: true; the input reads as it did. -/
def composeAppliesSpec : ChangeSpec := { name := "composeApplies", fn := fun _ => fun
  | [d1, d2, d3] => { results := [.lit (.bool true)], args := [d1, d2, d3] }
  | _ => none }
def composeAppliesRow : OpenClaim := { program := "ytdlbjfgpfjcpaaa", sum := "7731f74502846dc3f101df6c80d7b6127782c382cb314aa4115bc5c9a4b94840", func := "quarto/quartolaw05.ComposeApplies", spec := "composeApplies", inPlace := ["internal/abi.NoEscape"], unfollowed := true, recurses := true, apart := false }
def ComposeAppliesSaid : Prop := composeAppliesRow.holds Try.pinned (OpenSpec.ofChange composeAppliesSpec)

/-- ITS FALSE NEIGHBOUR: 'it returns false'. Refute it at one input. -/
def composeAppliesWrong : ChangeSpec := { name := "composeApplies", fn := fun _ => fun
  | [d1, d2, d3] => { results := [.lit (.bool false)], args := [d1, d2, d3] }
  | _ => none }
def ComposeAppliesWrongFalsely : Prop := composeAppliesRow.holds Try.pinned (OpenSpec.ofChange composeAppliesWrong)

/-- 'quartolaw06.ShiftComposes': WHATEVER THE INPUT: true; the input reads as it did. -/
def shiftComposesSpec : ChangeSpec := { name := "shiftComposes", fn := fun _ => fun
  | [d1, d2, d3] => { results := [.lit (.bool true)], args := [d1, d2, d3] }
  | _ => none }
def shiftComposesRow : OpenClaim := { program := "ytdlbjfgpfjcpaaa", sum := "7731f74502846dc3f101df6c80d7b6127782c382cb314aa4115bc5c9a4b94840", func := "quarto/quartolaw06.ShiftComposes", spec := "shiftComposes", inPlace := ["internal/abi.NoEscape"], unfollowed := true, recurses := true, apart := false }
def ShiftComposesSaid : Prop := shiftComposesRow.holds Try.pinned (OpenSpec.ofChange shiftComposesSpec)

/-- ITS FALSE NEIGHBOUR: 'it returns false'. Refute it at one input. -/
def shiftComposesWrong : ChangeSpec := { name := "shiftComposes", fn := fun _ => fun
  | [d1, d2, d3] => { results := [.lit (.bool false)], args := [d1, d2, d3] }
  | _ => none }
def ShiftComposesWrongFalsely : Prop := shiftComposesRow.holds Try.pinned (OpenSpec.ofChange shiftComposesWrong)

/-- 'quartolaw05.ComposeBack': WHATEVER THE INPUT: true; the input reads as it did. -/
def composeBackSpec : ChangeSpec := { name := "composeBack", fn := fun _ => fun
  | [d1, d2, d3] => { results := [.lit (.bool true)], args := [d1, d2, d3] }
  | _ => none }
def composeBackRow : OpenClaim := { program := "ytdlbjfgpfjcpaaa", sum := "7731f74502846dc3f101df6c80d7b6127782c382cb314aa4115bc5c9a4b94840", func := "quarto/quartolaw05.ComposeBack", spec := "composeBack", inPlace := ["internal/abi.NoEscape"], unfollowed := true, recurses := true, apart := false }
def ComposeBackSaid : Prop := composeBackRow.holds Try.pinned (OpenSpec.ofChange composeBackSpec)

/-- ITS FALSE NEIGHBOUR: 'it returns false'. Refute it at one input. -/
def composeBackWrong : ChangeSpec := { name := "composeBack", fn := fun _ => fun
  | [d1, d2, d3] => { results := [.lit (.bool false)], args := [d1, d2, d3] }
  | _ => none }
def ComposeBackWrongFalsely : Prop := composeBackRow.holds Try.pinned (OpenSpec.ofChange composeBackWrong)

/-- 'quartolaw07.TransformDoes': WHATEVER THE INPUT: true; the input reads as it did. -/
def transformDoesSpec : ChangeSpec := { name := "transformDoes", fn := fun _ => fun
  | [d1, d2, d3] => { results := [.lit (.bool true)], args := [d1, d2, d3] }
  | _ => none }
def transformDoesRow : OpenClaim := { program := "ytdlbjfgpfjcpaaa", sum := "7731f74502846dc3f101df6c80d7b6127782c382cb314aa4115bc5c9a4b94840", func := "quarto/quartolaw07.TransformDoes", spec := "transformDoes", inPlace := ["internal/abi.NoEscape"], unfollowed := true, recurses := true, apart := false }
def TransformDoesSaid : Prop := transformDoesRow.holds Try.pinned (OpenSpec.ofChange transformDoesSpec)

/-- ITS FALSE NEIGHBOUR: 'it returns false'. Refute it at one input. -/
def transformDoesWrong : ChangeSpec := { name := "transformDoes", fn := fun _ => fun
  | [d1, d2, d3] => { results := [.lit (.bool false)], args := [d1, d2, d3] }
  | _ => none }
def TransformDoesWrongFalsely : Prop := transformDoesRow.holds Try.pinned (OpenSpec.ofChange transformDoesWrong)

/-- 'quartolaw07.TransformPairs': WHATEVER THE INPUT: true; the input reads as it did. -/
def transformPairsSpec : ChangeSpec := { name := "transformPairs", fn := fun _ => fun
  | [d1, d2] => { results := [.lit (.bool true)], args := [d1, d2] }
  | _ => none }
def transformPairsRow : OpenClaim := { program := "ytdlbjfgpfjcpaaa", sum := "7731f74502846dc3f101df6c80d7b6127782c382cb314aa4115bc5c9a4b94840", func := "quarto/quartolaw07.TransformPairs", spec := "transformPairs", inPlace := ["internal/abi.NoEscape"], unfollowed := true, recurses := true, apart := false }
def TransformPairsSaid : Prop := transformPairsRow.holds Try.pinned (OpenSpec.ofChange transformPairsSpec)

/-- ITS FALSE NEIGHBOUR: 'it returns false'. Refute it at one input. -/
def transformPairsWrong : ChangeSpec := { name := "transformPairs", fn := fun _ => fun
  | [d1, d2] => { results := [.lit (.bool false)], args := [d1, d2] }
  | _ => none }
def TransformPairsWrongFalsely : Prop := transformPairsRow.holds Try.pinned (OpenSpec.ofChange transformPairsWrong)

/-- 'quartolaw07.TransformRebases': WHATEVER THE INPUT: true; the input reads as it did. -/
def transformRebasesSpec : ChangeSpec := { name := "transformRebases", fn := fun _ => fun
  | [d1, d2] => { results := [.lit (.bool true)], args := [d1, d2] }
  | _ => none }
def transformRebasesRow : OpenClaim := { program := "ytdlbjfgpfjcpaaa", sum := "7731f74502846dc3f101df6c80d7b6127782c382cb314aa4115bc5c9a4b94840", func := "quarto/quartolaw07.TransformRebases", spec := "transformRebases", inPlace := ["internal/abi.NoEscape"], unfollowed := true, recurses := true, apart := false }
def TransformRebasesSaid : Prop := transformRebasesRow.holds Try.pinned (OpenSpec.ofChange transformRebasesSpec)

/-- ITS FALSE NEIGHBOUR: 'it returns false'. Refute it at one input. -/
def transformRebasesWrong : ChangeSpec := { name := "transformRebases", fn := fun _ => fun
  | [d1, d2] => { results := [.lit (.bool false)], args := [d1, d2] }
  | _ => none }
def TransformRebasesWrongFalsely : Prop := transformRebasesRow.holds Try.pinned (OpenSpec.ofChange transformRebasesWrong)

/-- 'quartolaw07.TransformApart': WHATEVER THE INPUT: true; the input reads as it did. -/
def transformApartSpec : ChangeSpec := { name := "transformApart", fn := fun _ => fun
  | [d1, d2] => { results := [.lit (.bool true)], args := [d1, d2] }
  | _ => none }
def transformApartRow : OpenClaim := { program := "ytdlbjfgpfjcpaaa", sum := "7731f74502846dc3f101df6c80d7b6127782c382cb314aa4115bc5c9a4b94840", func := "quarto/quartolaw07.TransformApart", spec := "transformApart", inPlace := ["internal/abi.NoEscape"], unfollowed := true, recurses := true, apart := false }
def TransformApartSaid : Prop := transformApartRow.holds Try.pinned (OpenSpec.ofChange transformApartSpec)

/-- ITS FALSE NEIGHBOUR: 'it returns false'. Refute it at one input. -/
def transformApartWrong : ChangeSpec := { name := "transformApart", fn := fun _ => fun
  | [d1, d2] => { results := [.lit (.bool false)], args := [d1, d2] }
  | _ => none }
def TransformApartWrongFalsely : Prop := transformApartRow.holds Try.pinned (OpenSpec.ofChange transformApartWrong)

/-- 'quartolaw07.TransformSplits': WHATEVER THE INPUT: true; the input reads as it did. -/
def transformSplitsSpec : ChangeSpec := { name := "transformSplits", fn := fun _ => fun
  | [d1, d2] => { results := [.lit (.bool true)], args := [d1, d2] }
  | _ => none }
def transformSplitsRow : OpenClaim := { program := "ytdlbjfgpfjcpaaa", sum := "7731f74502846dc3f101df6c80d7b6127782c382cb314aa4115bc5c9a4b94840", func := "quarto/quartolaw07.TransformSplits", spec := "transformSplits", inPlace := ["internal/abi.NoEscape"], unfollowed := true, recurses := true, apart := false }
def TransformSplitsSaid : Prop := transformSplitsRow.holds Try.pinned (OpenSpec.ofChange transformSplitsSpec)

/-- ITS FALSE NEIGHBOUR: 'it returns false'. Refute it at one input. -/
def transformSplitsWrong : ChangeSpec := { name := "transformSplits", fn := fun _ => fun
  | [d1, d2] => { results := [.lit (.bool false)], args := [d1, d2] }
  | _ => none }
def TransformSplitsWrongFalsely : Prop := transformSplitsRow.holds Try.pinned (OpenSpec.ofChange transformSplitsWrong)

/-- 'quartolaw07.TransformBases': WHATEVER THE INPUT: true; the input reads as it did. -/
def transformBasesSpec : ChangeSpec := { name := "transformBases", fn := fun _ => fun
  | [d1, d2, d3] => { results := [.lit (.bool true)], args := [d1, d2, d3] }
  | _ => none }
def transformBasesRow : OpenClaim := { program := "ytdlbjfgpfjcpaaa", sum := "7731f74502846dc3f101df6c80d7b6127782c382cb314aa4115bc5c9a4b94840", func := "quarto/quartolaw07.TransformBases", spec := "transformBases", inPlace := ["internal/abi.NoEscape"], unfollowed := true, recurses := true, apart := false }
def TransformBasesSaid : Prop := transformBasesRow.holds Try.pinned (OpenSpec.ofChange transformBasesSpec)

/-- ITS FALSE NEIGHBOUR: 'it returns false'. Refute it at one input. -/
def transformBasesWrong : ChangeSpec := { name := "transformBases", fn := fun _ => fun
  | [d1, d2, d3] => { results := [.lit (.bool false)], args := [d1, d2, d3] }
  | _ => none }
def TransformBasesWrongFalsely : Prop := transformBasesRow.holds Try.pinned (OpenSpec.ofChange transformBasesWrong)

/-- 'quartolaw07.TransformNeutral': WHATEVER THE INPUT: true; the input reads as it did. -/
def transformNeutralSpec : ChangeSpec := { name := "transformNeutral", fn := fun _ => fun
  | [d1, d2] => { results := [.lit (.bool true)], args := [d1, d2] }
  | _ => none }
def transformNeutralRow : OpenClaim := { program := "ytdlbjfgpfjcpaaa", sum := "7731f74502846dc3f101df6c80d7b6127782c382cb314aa4115bc5c9a4b94840", func := "quarto/quartolaw07.TransformNeutral", spec := "transformNeutral", inPlace := ["internal/abi.NoEscape"], unfollowed := true, recurses := true, apart := false }
def TransformNeutralSaid : Prop := transformNeutralRow.holds Try.pinned (OpenSpec.ofChange transformNeutralSpec)

/-- ITS FALSE NEIGHBOUR: 'it returns false'. Refute it at one input. -/
def transformNeutralWrong : ChangeSpec := { name := "transformNeutral", fn := fun _ => fun
  | [d1, d2] => { results := [.lit (.bool false)], args := [d1, d2] }
  | _ => none }
def TransformNeutralWrongFalsely : Prop := transformNeutralRow.holds Try.pinned (OpenSpec.ofChange transformNeutralWrong)

/-- 'quartolaw07.TransformForms': WHATEVER THE INPUT: true; the input reads as it did. -/
def transformFormsSpec : ChangeSpec := { name := "transformForms", fn := fun _ => fun
  | [d1, d2, d3] => { results := [.lit (.bool true)], args := [d1, d2, d3] }
  | _ => none }
def transformFormsRow : OpenClaim := { program := "ytdlbjfgpfjcpaaa", sum := "7731f74502846dc3f101df6c80d7b6127782c382cb314aa4115bc5c9a4b94840", func := "quarto/quartolaw07.TransformForms", spec := "transformForms", inPlace := ["internal/abi.NoEscape"], unfollowed := true, recurses := true, apart := false }
def TransformFormsSaid : Prop := transformFormsRow.holds Try.pinned (OpenSpec.ofChange transformFormsSpec)

/-- ITS FALSE NEIGHBOUR: 'it returns false'. Refute it at one input. -/
def transformFormsWrong : ChangeSpec := { name := "transformForms", fn := fun _ => fun
  | [d1, d2, d3] => { results := [.lit (.bool false)], args := [d1, d2, d3] }
  | _ => none }
def TransformFormsWrongFalsely : Prop := transformFormsRow.holds Try.pinned (OpenSpec.ofChange transformFormsWrong)

/-- 'quartolaw07.TransformConverges': WHATEVER THE INPUT: true; the input reads as it did. -/
def transformConvergesSpec : ChangeSpec := { name := "transformConverges", fn := fun _ => fun
  | [d1, d2, d3] => { results := [.lit (.bool true)], args := [d1, d2, d3] }
  | _ => none }
def transformConvergesRow : OpenClaim := { program := "ytdlbjfgpfjcpaaa", sum := "7731f74502846dc3f101df6c80d7b6127782c382cb314aa4115bc5c9a4b94840", func := "quarto/quartolaw07.TransformConverges", spec := "transformConverges", inPlace := ["internal/abi.NoEscape"], unfollowed := true, recurses := true, apart := false }
def TransformConvergesSaid : Prop := transformConvergesRow.holds Try.pinned (OpenSpec.ofChange transformConvergesSpec)

/-- ITS FALSE NEIGHBOUR: 'it returns false'. Refute it at one input. -/
def transformConvergesWrong : ChangeSpec := { name := "transformConverges", fn := fun _ => fun
  | [d1, d2, d3] => { results := [.lit (.bool false)], args := [d1, d2, d3] }
  | _ => none }
def TransformConvergesWrongFalsely : Prop := transformConvergesRow.holds Try.pinned (OpenSpec.ofChange transformConvergesWrong)

/- THE SECOND FORM. 'bulk': how many values and letters a reading holds, each counted each time it is reached (what is shared counts as often as it is met; a slice's spare places count too). A statement '..UptoSaid' is the law's where the arguments, and the package variables that the reading takes, are together of bulk at most 1048576: NARROWER than '..Said'. Prove '..Said' where nothing that the law and all that it calls make is longer than what came in: it says more and counts as full. Else prove '..UptoSaid'. A law counts once. -/
mutual
def uptoBulk {H : Type} : DataW H → Nat
  | .lit (.string bytes) => bytes.length + 1
  | .lit _ => 1
  | .nil => 1
  | .ptr d => uptoBulk d + 1
  | .slice elems spare => uptoBulkAll elems + uptoBulkAll spare + 1
  | .agg parts => uptoBulkAll parts + 1
  | .iface _ d => uptoBulk d + 1
  | .map entries => uptoBulkEntries entries + 1
  | .held _ => 1
def uptoBulkAll {H : Type} : List (DataW H) → Nat
  | [] => 0
  | d :: r => uptoBulk d + uptoBulkAll r
def uptoBulkEntries {H : Type} : List (Lit × DataW H) → Nat
  | [] => 0
  | x :: r => uptoBulkEntry x + uptoBulkEntries r
def uptoBulkEntry {H : Type} : Lit × DataW H → Nat
  | (.string bytes, d) => bytes.length + uptoBulk d + 1
  | (_, d) => uptoBulk d + 1
 end
def uptoSmall : (H : Type) → List (DataW H) → Bool := fun _ ds => decide (uptoBulkAll ds ≤ 1048576)
def OpenSpec.upto (s : _root_.Go.ChangeSpec) : _root_.Go.OpenSpec := { _root_.Go.OpenSpec.ofChange s with cond := some uptoSmall }

/-- 'quartolaw05.ComposeDoes', WHERE WHAT IT READS IS OF BULK AT MOST 1048576: true; the input reads as it did. -/
def composeDoesUptoRow : OpenClaim := { program := "ytdlbjfgpfjcpaaa", sum := "7731f74502846dc3f101df6c80d7b6127782c382cb314aa4115bc5c9a4b94840", func := "quarto/quartolaw05.ComposeDoes", spec := "composeDoes", inPlace := ["internal/abi.NoEscape"], unfollowed := true, recurses := true, apart := false, narrowed := true }
def ComposeDoesUptoSaid : Prop := composeDoesUptoRow.holds Try.pinned (OpenSpec.upto composeDoesSpec)

/-- 'quartolaw05.ComposeAll', WHERE WHAT IT READS IS OF BULK AT MOST 1048576: true; the input reads as it did. -/
def composeAllUptoRow : OpenClaim := { program := "ytdlbjfgpfjcpaaa", sum := "7731f74502846dc3f101df6c80d7b6127782c382cb314aa4115bc5c9a4b94840", func := "quarto/quartolaw05.ComposeAll", spec := "composeAll", inPlace := ["internal/abi.NoEscape"], unfollowed := true, recurses := true, apart := false, narrowed := true }
def ComposeAllUptoSaid : Prop := composeAllUptoRow.holds Try.pinned (OpenSpec.upto composeAllSpec)

/-- 'quartolaw05.ComposeSplits', WHERE WHAT IT READS IS OF BULK AT MOST 1048576: true; the input reads as it did. -/
def composeSplitsUptoRow : OpenClaim := { program := "ytdlbjfgpfjcpaaa", sum := "7731f74502846dc3f101df6c80d7b6127782c382cb314aa4115bc5c9a4b94840", func := "quarto/quartolaw05.ComposeSplits", spec := "composeSplits", inPlace := ["internal/abi.NoEscape"], unfollowed := true, recurses := true, apart := false, narrowed := true }
def ComposeSplitsUptoSaid : Prop := composeSplitsUptoRow.holds Try.pinned (OpenSpec.upto composeSplitsSpec)

/-- 'quartolaw05.ComposeGroups', WHERE WHAT IT READS IS OF BULK AT MOST 1048576: true; the input reads as it did. -/
def composeGroupsUptoRow : OpenClaim := { program := "ytdlbjfgpfjcpaaa", sum := "7731f74502846dc3f101df6c80d7b6127782c382cb314aa4115bc5c9a4b94840", func := "quarto/quartolaw05.ComposeGroups", spec := "composeGroups", inPlace := ["internal/abi.NoEscape"], unfollowed := true, recurses := true, apart := false, narrowed := true }
def ComposeGroupsUptoSaid : Prop := composeGroupsUptoRow.holds Try.pinned (OpenSpec.upto composeGroupsSpec)

/-- 'quartolaw05.ComposeNeutral', WHERE WHAT IT READS IS OF BULK AT MOST 1048576: true; the input reads as it did. -/
def composeNeutralUptoRow : OpenClaim := { program := "ytdlbjfgpfjcpaaa", sum := "7731f74502846dc3f101df6c80d7b6127782c382cb314aa4115bc5c9a4b94840", func := "quarto/quartolaw05.ComposeNeutral", spec := "composeNeutral", inPlace := ["internal/abi.NoEscape"], unfollowed := true, recurses := true, apart := false, narrowed := true }
def ComposeNeutralUptoSaid : Prop := composeNeutralUptoRow.holds Try.pinned (OpenSpec.upto composeNeutralSpec)

/-- 'quartolaw05.ComposeCounts', WHERE WHAT IT READS IS OF BULK AT MOST 1048576: true; the input reads as it did. -/
def composeCountsUptoRow : OpenClaim := { program := "ytdlbjfgpfjcpaaa", sum := "7731f74502846dc3f101df6c80d7b6127782c382cb314aa4115bc5c9a4b94840", func := "quarto/quartolaw05.ComposeCounts", spec := "composeCounts", inPlace := ["internal/abi.NoEscape"], unfollowed := true, recurses := true, apart := false, narrowed := true }
def ComposeCountsUptoSaid : Prop := composeCountsUptoRow.holds Try.pinned (OpenSpec.upto composeCountsSpec)

/-- 'quartolaw05.ComposeFolds', WHERE WHAT IT READS IS OF BULK AT MOST 1048576: true; the input reads as it did. -/
def composeFoldsUptoRow : OpenClaim := { program := "ytdlbjfgpfjcpaaa", sum := "7731f74502846dc3f101df6c80d7b6127782c382cb314aa4115bc5c9a4b94840", func := "quarto/quartolaw05.ComposeFolds", spec := "composeFolds", inPlace := ["internal/abi.NoEscape"], unfollowed := true, recurses := true, apart := false, narrowed := true }
def ComposeFoldsUptoSaid : Prop := composeFoldsUptoRow.holds Try.pinned (OpenSpec.upto composeFoldsSpec)

/-- 'quartolaw05.ComposeApplies', WHERE WHAT IT READS IS OF BULK AT MOST 1048576: true; the input reads as it did. -/
def composeAppliesUptoRow : OpenClaim := { program := "ytdlbjfgpfjcpaaa", sum := "7731f74502846dc3f101df6c80d7b6127782c382cb314aa4115bc5c9a4b94840", func := "quarto/quartolaw05.ComposeApplies", spec := "composeApplies", inPlace := ["internal/abi.NoEscape"], unfollowed := true, recurses := true, apart := false, narrowed := true }
def ComposeAppliesUptoSaid : Prop := composeAppliesUptoRow.holds Try.pinned (OpenSpec.upto composeAppliesSpec)

/-- 'quartolaw06.ShiftComposes', WHERE WHAT IT READS IS OF BULK AT MOST 1048576: true; the input reads as it did. -/
def shiftComposesUptoRow : OpenClaim := { program := "ytdlbjfgpfjcpaaa", sum := "7731f74502846dc3f101df6c80d7b6127782c382cb314aa4115bc5c9a4b94840", func := "quarto/quartolaw06.ShiftComposes", spec := "shiftComposes", inPlace := ["internal/abi.NoEscape"], unfollowed := true, recurses := true, apart := false, narrowed := true }
def ShiftComposesUptoSaid : Prop := shiftComposesUptoRow.holds Try.pinned (OpenSpec.upto shiftComposesSpec)

/-- 'quartolaw05.ComposeBack', WHERE WHAT IT READS IS OF BULK AT MOST 1048576: true; the input reads as it did. -/
def composeBackUptoRow : OpenClaim := { program := "ytdlbjfgpfjcpaaa", sum := "7731f74502846dc3f101df6c80d7b6127782c382cb314aa4115bc5c9a4b94840", func := "quarto/quartolaw05.ComposeBack", spec := "composeBack", inPlace := ["internal/abi.NoEscape"], unfollowed := true, recurses := true, apart := false, narrowed := true }
def ComposeBackUptoSaid : Prop := composeBackUptoRow.holds Try.pinned (OpenSpec.upto composeBackSpec)

/-- 'quartolaw07.TransformDoes', WHERE WHAT IT READS IS OF BULK AT MOST 1048576: true; the input reads as it did. -/
def transformDoesUptoRow : OpenClaim := { program := "ytdlbjfgpfjcpaaa", sum := "7731f74502846dc3f101df6c80d7b6127782c382cb314aa4115bc5c9a4b94840", func := "quarto/quartolaw07.TransformDoes", spec := "transformDoes", inPlace := ["internal/abi.NoEscape"], unfollowed := true, recurses := true, apart := false, narrowed := true }
def TransformDoesUptoSaid : Prop := transformDoesUptoRow.holds Try.pinned (OpenSpec.upto transformDoesSpec)

/-- 'quartolaw07.TransformPairs', WHERE WHAT IT READS IS OF BULK AT MOST 1048576: true; the input reads as it did. -/
def transformPairsUptoRow : OpenClaim := { program := "ytdlbjfgpfjcpaaa", sum := "7731f74502846dc3f101df6c80d7b6127782c382cb314aa4115bc5c9a4b94840", func := "quarto/quartolaw07.TransformPairs", spec := "transformPairs", inPlace := ["internal/abi.NoEscape"], unfollowed := true, recurses := true, apart := false, narrowed := true }
def TransformPairsUptoSaid : Prop := transformPairsUptoRow.holds Try.pinned (OpenSpec.upto transformPairsSpec)

/-- 'quartolaw07.TransformRebases', WHERE WHAT IT READS IS OF BULK AT MOST 1048576: true; the input reads as it did. -/
def transformRebasesUptoRow : OpenClaim := { program := "ytdlbjfgpfjcpaaa", sum := "7731f74502846dc3f101df6c80d7b6127782c382cb314aa4115bc5c9a4b94840", func := "quarto/quartolaw07.TransformRebases", spec := "transformRebases", inPlace := ["internal/abi.NoEscape"], unfollowed := true, recurses := true, apart := false, narrowed := true }
def TransformRebasesUptoSaid : Prop := transformRebasesUptoRow.holds Try.pinned (OpenSpec.upto transformRebasesSpec)

/-- 'quartolaw07.TransformApart', WHERE WHAT IT READS IS OF BULK AT MOST 1048576: true; the input reads as it did. -/
def transformApartUptoRow : OpenClaim := { program := "ytdlbjfgpfjcpaaa", sum := "7731f74502846dc3f101df6c80d7b6127782c382cb314aa4115bc5c9a4b94840", func := "quarto/quartolaw07.TransformApart", spec := "transformApart", inPlace := ["internal/abi.NoEscape"], unfollowed := true, recurses := true, apart := false, narrowed := true }
def TransformApartUptoSaid : Prop := transformApartUptoRow.holds Try.pinned (OpenSpec.upto transformApartSpec)

/-- 'quartolaw07.TransformSplits', WHERE WHAT IT READS IS OF BULK AT MOST 1048576: true; the input reads as it did. -/
def transformSplitsUptoRow : OpenClaim := { program := "ytdlbjfgpfjcpaaa", sum := "7731f74502846dc3f101df6c80d7b6127782c382cb314aa4115bc5c9a4b94840", func := "quarto/quartolaw07.TransformSplits", spec := "transformSplits", inPlace := ["internal/abi.NoEscape"], unfollowed := true, recurses := true, apart := false, narrowed := true }
def TransformSplitsUptoSaid : Prop := transformSplitsUptoRow.holds Try.pinned (OpenSpec.upto transformSplitsSpec)

/-- 'quartolaw07.TransformBases', WHERE WHAT IT READS IS OF BULK AT MOST 1048576: true; the input reads as it did. -/
def transformBasesUptoRow : OpenClaim := { program := "ytdlbjfgpfjcpaaa", sum := "7731f74502846dc3f101df6c80d7b6127782c382cb314aa4115bc5c9a4b94840", func := "quarto/quartolaw07.TransformBases", spec := "transformBases", inPlace := ["internal/abi.NoEscape"], unfollowed := true, recurses := true, apart := false, narrowed := true }
def TransformBasesUptoSaid : Prop := transformBasesUptoRow.holds Try.pinned (OpenSpec.upto transformBasesSpec)

/-- 'quartolaw07.TransformNeutral', WHERE WHAT IT READS IS OF BULK AT MOST 1048576: true; the input reads as it did. -/
def transformNeutralUptoRow : OpenClaim := { program := "ytdlbjfgpfjcpaaa", sum := "7731f74502846dc3f101df6c80d7b6127782c382cb314aa4115bc5c9a4b94840", func := "quarto/quartolaw07.TransformNeutral", spec := "transformNeutral", inPlace := ["internal/abi.NoEscape"], unfollowed := true, recurses := true, apart := false, narrowed := true }
def TransformNeutralUptoSaid : Prop := transformNeutralUptoRow.holds Try.pinned (OpenSpec.upto transformNeutralSpec)

/-- 'quartolaw07.TransformForms', WHERE WHAT IT READS IS OF BULK AT MOST 1048576: true; the input reads as it did. -/
def transformFormsUptoRow : OpenClaim := { program := "ytdlbjfgpfjcpaaa", sum := "7731f74502846dc3f101df6c80d7b6127782c382cb314aa4115bc5c9a4b94840", func := "quarto/quartolaw07.TransformForms", spec := "transformForms", inPlace := ["internal/abi.NoEscape"], unfollowed := true, recurses := true, apart := false, narrowed := true }
def TransformFormsUptoSaid : Prop := transformFormsUptoRow.holds Try.pinned (OpenSpec.upto transformFormsSpec)

/-- 'quartolaw07.TransformConverges', WHERE WHAT IT READS IS OF BULK AT MOST 1048576: true; the input reads as it did. -/
def transformConvergesUptoRow : OpenClaim := { program := "ytdlbjfgpfjcpaaa", sum := "7731f74502846dc3f101df6c80d7b6127782c382cb314aa4115bc5c9a4b94840", func := "quarto/quartolaw07.TransformConverges", spec := "transformConverges", inPlace := ["internal/abi.NoEscape"], unfollowed := true, recurses := true, apart := false, narrowed := true }
def TransformConvergesUptoSaid : Prop := transformConvergesUptoRow.holds Try.pinned (OpenSpec.upto transformConvergesSpec)

end Rows
end Go.Proofs.Ytdlbjfgpfjcpaaa
