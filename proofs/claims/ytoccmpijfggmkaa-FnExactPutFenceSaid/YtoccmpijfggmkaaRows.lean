/-
  No cell of these rows narrows 'for every input' (looked for: loops, veiled, ifaces, maps, wideKeys, modest, calm, conditions, laid).
  DERIVED. THE GIVEN ROWS OF THIS SEAT. 26 by the template 'for every input the law returns true; each argument reads behind the call as it read before'; 0 by the template 'total and deterministic' (their statements: YtoccmpijfggmkaaTotals.lean).
  GIVEN WITH THE SEED: the statements are not yours to turn. If you find one false, say at which input.
  Laid BY PROGRAM, IN A SANDBOX (cutbox-rows.mjs): the forced cells as the released guide's own fill.sh prints them over the translation b62563a54028294e… (all of the seat's roots in one cut). By AI agents, Wed Nov 11 2026. No macro, syntax, notation, axiom, sorry.
-/
import Derived.Test.YtoccmpijfggmkaaChecked
import GoSem.Claim
import GoSem.ClaimJoined
import GoSem.ClaimMapViews
import Derived.JoinedTies
import Derived.KernelRfl
namespace Go.Proofs.Ytoccmpijfggmkaa
/- THE CELL 'sum', in the pinned program and in every row, IS THE sha256 OF THE DUMP (.gsa) THAT YtoccmpijfggmkaaProg.lean LOADS. Nothing in Lean hashes anything: it is a label: what it is worth is what the hold of that sum in a sandbox is worth. -/
noncomputable def Try.pinned : Pinned := { name := "ytoccmpijfggmkaa", sum := "b62563a54028294e35ccdcf99422c4d5fcb996ad799715d2d4820087f6f72a7f", checked := Try.checked }
namespace Rows
def none {H : Type} : Left H := { results := [], args := [] }

/-- 'laws.FnExactEndOf': WHATEVER THE INPUT: true; the input reads as it did. -/
def fnExactEndOfSpec : ChangeSpec := { name := "fnExactEndOf", fn := fun _ => fun
  | [d] => { results := [.lit (.bool true)], args := [d] }
  | _ => none }
def fnExactEndOfRow : OpenClaim := { program := "ytoccmpijfggmkaa", sum := "b62563a54028294e35ccdcf99422c4d5fcb996ad799715d2d4820087f6f72a7f", func := "loop.example/g00965/laws.FnExactEndOf", spec := "fnExactEndOf", apart := false }
def FnExactEndOfSaid : Prop := fnExactEndOfRow.holds Try.pinned (OpenSpec.ofChange fnExactEndOfSpec)

/-- ITS FALSE NEIGHBOUR: 'it returns false'. Refute it at one input. -/
def fnExactEndOfWrong : ChangeSpec := { name := "fnExactEndOf", fn := fun _ => fun
  | [d] => { results := [.lit (.bool false)], args := [d] }
  | _ => none }
def FnExactEndOfWrongFalsely : Prop := fnExactEndOfRow.holds Try.pinned (OpenSpec.ofChange fnExactEndOfWrong)

/-- 'laws.FnExactFenceAt': WHATEVER THE INPUT: true; the input reads as it did. -/
def fnExactFenceAtSpec : ChangeSpec := { name := "fnExactFenceAt", fn := fun _ => fun
  | [d1, d2, d3] => { results := [.lit (.bool true)], args := [d1, d2, d3] }
  | _ => none }
def fnExactFenceAtRow : OpenClaim := { program := "ytoccmpijfggmkaa", sum := "b62563a54028294e35ccdcf99422c4d5fcb996ad799715d2d4820087f6f72a7f", func := "loop.example/g00965/laws.FnExactFenceAt", spec := "fnExactFenceAt", unfollowed := true, recurses := true, apart := false }
def FnExactFenceAtSaid : Prop := fnExactFenceAtRow.holds Try.pinned (OpenSpec.ofChange fnExactFenceAtSpec)

/-- ITS FALSE NEIGHBOUR: 'it returns false'. Refute it at one input. -/
def fnExactFenceAtWrong : ChangeSpec := { name := "fnExactFenceAt", fn := fun _ => fun
  | [d1, d2, d3] => { results := [.lit (.bool false)], args := [d1, d2, d3] }
  | _ => none }
def FnExactFenceAtWrongFalsely : Prop := fnExactFenceAtRow.holds Try.pinned (OpenSpec.ofChange fnExactFenceAtWrong)

/-- 'laws.FnExactFencesOk': WHATEVER THE INPUT: true; the input reads as it did. -/
def fnExactFencesOkSpec : ChangeSpec := { name := "fnExactFencesOk", fn := fun _ => fun
  | [d] => { results := [.lit (.bool true)], args := [d] }
  | _ => none }
def fnExactFencesOkRow : OpenClaim := { program := "ytoccmpijfggmkaa", sum := "b62563a54028294e35ccdcf99422c4d5fcb996ad799715d2d4820087f6f72a7f", func := "loop.example/g00965/laws.FnExactFencesOk", spec := "fnExactFencesOk", apart := false }
def FnExactFencesOkSaid : Prop := fnExactFencesOkRow.holds Try.pinned (OpenSpec.ofChange fnExactFencesOkSpec)

/-- ITS FALSE NEIGHBOUR: 'it returns false'. Refute it at one input. -/
def fnExactFencesOkWrong : ChangeSpec := { name := "fnExactFencesOk", fn := fun _ => fun
  | [d] => { results := [.lit (.bool false)], args := [d] }
  | _ => none }
def FnExactFencesOkWrongFalsely : Prop := fnExactFencesOkRow.holds Try.pinned (OpenSpec.ofChange fnExactFencesOkWrong)

/-- 'laws.FnExactIdleOf': WHATEVER THE INPUT: true; the input reads as it did. -/
def fnExactIdleOfSpec : ChangeSpec := { name := "fnExactIdleOf", fn := fun _ => fun
  | [d1, d2] => { results := [.lit (.bool true)], args := [d1, d2] }
  | _ => none }
def fnExactIdleOfRow : OpenClaim := { program := "ytoccmpijfggmkaa", sum := "b62563a54028294e35ccdcf99422c4d5fcb996ad799715d2d4820087f6f72a7f", func := "loop.example/g00965/laws.FnExactIdleOf", spec := "fnExactIdleOf", apart := false }
def FnExactIdleOfSaid : Prop := fnExactIdleOfRow.holds Try.pinned (OpenSpec.ofChange fnExactIdleOfSpec)

/-- ITS FALSE NEIGHBOUR: 'it returns false'. Refute it at one input. -/
def fnExactIdleOfWrong : ChangeSpec := { name := "fnExactIdleOf", fn := fun _ => fun
  | [d1, d2] => { results := [.lit (.bool false)], args := [d1, d2] }
  | _ => none }
def FnExactIdleOfWrongFalsely : Prop := fnExactIdleOfRow.holds Try.pinned (OpenSpec.ofChange fnExactIdleOfWrong)

/-- 'laws.FnExactSameOrder': WHATEVER THE INPUT: true; the input reads as it did. -/
def fnExactSameOrderSpec : ChangeSpec := { name := "fnExactSameOrder", fn := fun _ => fun
  | [d1, d2] => { results := [.lit (.bool true)], args := [d1, d2] }
  | _ => none }
def fnExactSameOrderRow : OpenClaim := { program := "ytoccmpijfggmkaa", sum := "b62563a54028294e35ccdcf99422c4d5fcb996ad799715d2d4820087f6f72a7f", func := "loop.example/g00965/laws.FnExactSameOrder", spec := "fnExactSameOrder", apart := false }
def FnExactSameOrderSaid : Prop := fnExactSameOrderRow.holds Try.pinned (OpenSpec.ofChange fnExactSameOrderSpec)

/-- ITS FALSE NEIGHBOUR: 'it returns false'. Refute it at one input. -/
def fnExactSameOrderWrong : ChangeSpec := { name := "fnExactSameOrder", fn := fun _ => fun
  | [d1, d2] => { results := [.lit (.bool false)], args := [d1, d2] }
  | _ => none }
def FnExactSameOrderWrongFalsely : Prop := fnExactSameOrderRow.holds Try.pinned (OpenSpec.ofChange fnExactSameOrderWrong)

/-- 'laws.FnExactWeightsOk': WHATEVER THE INPUT: true; the input reads as it did. -/
def fnExactWeightsOkSpec : ChangeSpec := { name := "fnExactWeightsOk", fn := fun _ => fun
  | [d1, d2] => { results := [.lit (.bool true)], args := [d1, d2] }
  | _ => none }
def fnExactWeightsOkRow : OpenClaim := { program := "ytoccmpijfggmkaa", sum := "b62563a54028294e35ccdcf99422c4d5fcb996ad799715d2d4820087f6f72a7f", func := "loop.example/g00965/laws.FnExactWeightsOk", spec := "fnExactWeightsOk", apart := false }
def FnExactWeightsOkSaid : Prop := fnExactWeightsOkRow.holds Try.pinned (OpenSpec.ofChange fnExactWeightsOkSpec)

/-- ITS FALSE NEIGHBOUR: 'it returns false'. Refute it at one input. -/
def fnExactWeightsOkWrong : ChangeSpec := { name := "fnExactWeightsOk", fn := fun _ => fun
  | [d1, d2] => { results := [.lit (.bool false)], args := [d1, d2] }
  | _ => none }
def FnExactWeightsOkWrongFalsely : Prop := fnExactWeightsOkRow.holds Try.pinned (OpenSpec.ofChange fnExactWeightsOkWrong)

/-- 'laws.FnSlots': WHATEVER THE INPUT: true; the input reads as it did. -/
def fnSlotsSpec : ChangeSpec := { name := "fnSlots", fn := fun _ => fun
  | [d] => { results := [.lit (.bool true)], args := [d] }
  | _ => none }
def fnSlotsRow : OpenClaim := { program := "ytoccmpijfggmkaa", sum := "b62563a54028294e35ccdcf99422c4d5fcb996ad799715d2d4820087f6f72a7f", func := "loop.example/g00965/laws.FnSlots", spec := "fnSlots", unfollowed := true, recurses := true, apart := false }
def FnSlotsSaid : Prop := fnSlotsRow.holds Try.pinned (OpenSpec.ofChange fnSlotsSpec)

/-- ITS FALSE NEIGHBOUR: 'it returns false'. Refute it at one input. -/
def fnSlotsWrong : ChangeSpec := { name := "fnSlots", fn := fun _ => fun
  | [d] => { results := [.lit (.bool false)], args := [d] }
  | _ => none }
def FnSlotsWrongFalsely : Prop := fnSlotsRow.holds Try.pinned (OpenSpec.ofChange fnSlotsWrong)

/-- 'laws.FnExactWorkOf': WHATEVER THE INPUT: true; the input reads as it did. -/
def fnExactWorkOfSpec : ChangeSpec := { name := "fnExactWorkOf", fn := fun _ => fun
  | [d1, d2] => { results := [.lit (.bool true)], args := [d1, d2] }
  | _ => none }
def fnExactWorkOfRow : OpenClaim := { program := "ytoccmpijfggmkaa", sum := "b62563a54028294e35ccdcf99422c4d5fcb996ad799715d2d4820087f6f72a7f", func := "loop.example/g00965/laws.FnExactWorkOf", spec := "fnExactWorkOf", apart := false }
def FnExactWorkOfSaid : Prop := fnExactWorkOfRow.holds Try.pinned (OpenSpec.ofChange fnExactWorkOfSpec)

/-- ITS FALSE NEIGHBOUR: 'it returns false'. Refute it at one input. -/
def fnExactWorkOfWrong : ChangeSpec := { name := "fnExactWorkOf", fn := fun _ => fun
  | [d1, d2] => { results := [.lit (.bool false)], args := [d1, d2] }
  | _ => none }
def FnExactWorkOfWrongFalsely : Prop := fnExactWorkOfRow.holds Try.pinned (OpenSpec.ofChange fnExactWorkOfWrong)

/-- 'laws.FnExactReversed': WHATEVER THE INPUT: true; the input reads as it did. -/
def fnExactReversedSpec : ChangeSpec := { name := "fnExactReversed", fn := fun _ => fun
  | [d] => { results := [.lit (.bool true)], args := [d] }
  | _ => none }
def fnExactReversedRow : OpenClaim := { program := "ytoccmpijfggmkaa", sum := "b62563a54028294e35ccdcf99422c4d5fcb996ad799715d2d4820087f6f72a7f", func := "loop.example/g00965/laws.FnExactReversed", spec := "fnExactReversed", apart := false }
def FnExactReversedSaid : Prop := fnExactReversedRow.holds Try.pinned (OpenSpec.ofChange fnExactReversedSpec)

/-- ITS FALSE NEIGHBOUR: 'it returns false'. Refute it at one input. -/
def fnExactReversedWrong : ChangeSpec := { name := "fnExactReversed", fn := fun _ => fun
  | [d] => { results := [.lit (.bool false)], args := [d] }
  | _ => none }
def FnExactReversedWrongFalsely : Prop := fnExactReversedRow.holds Try.pinned (OpenSpec.ofChange fnExactReversedWrong)

/-- 'laws.FnExactBeside': WHATEVER THE INPUT: true; the input reads as it did. -/
def fnExactBesideSpec : ChangeSpec := { name := "fnExactBeside", fn := fun _ => fun
  | [d1, d2] => { results := [.lit (.bool true)], args := [d1, d2] }
  | _ => none }
def fnExactBesideRow : OpenClaim := { program := "ytoccmpijfggmkaa", sum := "b62563a54028294e35ccdcf99422c4d5fcb996ad799715d2d4820087f6f72a7f", func := "loop.example/g00965/laws.FnExactBeside", spec := "fnExactBeside", apart := false }
def FnExactBesideSaid : Prop := fnExactBesideRow.holds Try.pinned (OpenSpec.ofChange fnExactBesideSpec)

/-- ITS FALSE NEIGHBOUR: 'it returns false'. Refute it at one input. -/
def fnExactBesideWrong : ChangeSpec := { name := "fnExactBeside", fn := fun _ => fun
  | [d1, d2] => { results := [.lit (.bool false)], args := [d1, d2] }
  | _ => none }
def FnExactBesideWrongFalsely : Prop := fnExactBesideRow.holds Try.pinned (OpenSpec.ofChange fnExactBesideWrong)

/-- 'laws.FnExactReduced': WHATEVER THE INPUT: true; the input reads as it did. -/
def fnExactReducedSpec : ChangeSpec := { name := "fnExactReduced", fn := fun _ => fun
  | [d] => { results := [.lit (.bool true)], args := [d] }
  | _ => none }
def fnExactReducedRow : OpenClaim := { program := "ytoccmpijfggmkaa", sum := "b62563a54028294e35ccdcf99422c4d5fcb996ad799715d2d4820087f6f72a7f", func := "loop.example/g00965/laws.FnExactReduced", spec := "fnExactReduced", apart := false }
def FnExactReducedSaid : Prop := fnExactReducedRow.holds Try.pinned (OpenSpec.ofChange fnExactReducedSpec)

/-- ITS FALSE NEIGHBOUR: 'it returns false'. Refute it at one input. -/
def fnExactReducedWrong : ChangeSpec := { name := "fnExactReduced", fn := fun _ => fun
  | [d] => { results := [.lit (.bool false)], args := [d] }
  | _ => none }
def FnExactReducedWrongFalsely : Prop := fnExactReducedRow.holds Try.pinned (OpenSpec.ofChange fnExactReducedWrong)

/-- 'laws.FnJoins': WHATEVER THE INPUT: true; the input reads as it did. -/
def fnJoinsSpec : ChangeSpec := { name := "fnJoins", fn := fun _ => fun
  | [d] => { results := [.lit (.bool true)], args := [d] }
  | _ => none }
def fnJoinsRow : OpenClaim := { program := "ytoccmpijfggmkaa", sum := "b62563a54028294e35ccdcf99422c4d5fcb996ad799715d2d4820087f6f72a7f", func := "loop.example/g00965/laws.FnJoins", spec := "fnJoins", unfollowed := true, recurses := true, apart := false }
def FnJoinsSaid : Prop := fnJoinsRow.holds Try.pinned (OpenSpec.ofChange fnJoinsSpec)

/-- ITS FALSE NEIGHBOUR: 'it returns false'. Refute it at one input. -/
def fnJoinsWrong : ChangeSpec := { name := "fnJoins", fn := fun _ => fun
  | [d] => { results := [.lit (.bool false)], args := [d] }
  | _ => none }
def FnJoinsWrongFalsely : Prop := fnJoinsRow.holds Try.pinned (OpenSpec.ofChange fnJoinsWrong)

/-- 'laws.FnExactSlotsOk': WHATEVER THE INPUT: true; the input reads as it did. -/
def fnExactSlotsOkSpec : ChangeSpec := { name := "fnExactSlotsOk", fn := fun _ => fun
  | [d1, d2, d3, d4] => { results := [.lit (.bool true)], args := [d1, d2, d3, d4] }
  | _ => none }
def fnExactSlotsOkRow : OpenClaim := { program := "ytoccmpijfggmkaa", sum := "b62563a54028294e35ccdcf99422c4d5fcb996ad799715d2d4820087f6f72a7f", func := "loop.example/g00965/laws.FnExactSlotsOk", spec := "fnExactSlotsOk", apart := false }
def FnExactSlotsOkSaid : Prop := fnExactSlotsOkRow.holds Try.pinned (OpenSpec.ofChange fnExactSlotsOkSpec)

/-- ITS FALSE NEIGHBOUR: 'it returns false'. Refute it at one input. -/
def fnExactSlotsOkWrong : ChangeSpec := { name := "fnExactSlotsOk", fn := fun _ => fun
  | [d1, d2, d3, d4] => { results := [.lit (.bool false)], args := [d1, d2, d3, d4] }
  | _ => none }
def FnExactSlotsOkWrongFalsely : Prop := fnExactSlotsOkRow.holds Try.pinned (OpenSpec.ofChange fnExactSlotsOkWrong)

/-- 'laws.FnExactPutFence': WHATEVER THE INPUT: true; the input reads as it did. -/
def fnExactPutFenceSpec : ChangeSpec := { name := "fnExactPutFence", fn := fun _ => fun
  | [d1, d2] => { results := [.lit (.bool true)], args := [d1, d2] }
  | _ => none }
def fnExactPutFenceRow : OpenClaim := { program := "ytoccmpijfggmkaa", sum := "b62563a54028294e35ccdcf99422c4d5fcb996ad799715d2d4820087f6f72a7f", func := "loop.example/g00965/laws.FnExactPutFence", spec := "fnExactPutFence", inPlace := ["slices.overlaps[loop.example/g00965/impl.Fence]"], unfollowed := true, recurses := true, apart := false }
def FnExactPutFenceSaid : Prop := fnExactPutFenceRow.holds Try.pinned (OpenSpec.ofChange fnExactPutFenceSpec)

/-- ITS FALSE NEIGHBOUR: 'it returns false'. Refute it at one input. -/
def fnExactPutFenceWrong : ChangeSpec := { name := "fnExactPutFence", fn := fun _ => fun
  | [d1, d2] => { results := [.lit (.bool false)], args := [d1, d2] }
  | _ => none }
def FnExactPutFenceWrongFalsely : Prop := fnExactPutFenceRow.holds Try.pinned (OpenSpec.ofChange fnExactPutFenceWrong)

/-- 'laws.FnExactPutAll': WHATEVER THE INPUT: true; the input reads as it did. -/
def fnExactPutAllSpec : ChangeSpec := { name := "fnExactPutAll", fn := fun _ => fun
  | [d1, d2] => { results := [.lit (.bool true)], args := [d1, d2] }
  | _ => none }
def fnExactPutAllRow : OpenClaim := { program := "ytoccmpijfggmkaa", sum := "b62563a54028294e35ccdcf99422c4d5fcb996ad799715d2d4820087f6f72a7f", func := "loop.example/g00965/laws.FnExactPutAll", spec := "fnExactPutAll", inPlace := ["slices.overlaps[loop.example/g00965/impl.Fence]"], unfollowed := true, recurses := true, apart := false }
def FnExactPutAllSaid : Prop := fnExactPutAllRow.holds Try.pinned (OpenSpec.ofChange fnExactPutAllSpec)

/-- ITS FALSE NEIGHBOUR: 'it returns false'. Refute it at one input. -/
def fnExactPutAllWrong : ChangeSpec := { name := "fnExactPutAll", fn := fun _ => fun
  | [d1, d2] => { results := [.lit (.bool false)], args := [d1, d2] }
  | _ => none }
def FnExactPutAllWrongFalsely : Prop := fnExactPutAllRow.holds Try.pinned (OpenSpec.ofChange fnExactPutAllWrong)

/-- 'laws.FnExactSinksOf': WHATEVER THE INPUT: true; the input reads as it did. -/
def fnExactSinksOfSpec : ChangeSpec := { name := "fnExactSinksOf", fn := fun _ => fun
  | [d] => { results := [.lit (.bool true)], args := [d] }
  | _ => none }
def fnExactSinksOfRow : OpenClaim := { program := "ytoccmpijfggmkaa", sum := "b62563a54028294e35ccdcf99422c4d5fcb996ad799715d2d4820087f6f72a7f", func := "loop.example/g00965/laws.FnExactSinksOf", spec := "fnExactSinksOf", recurses := true, apart := false }
def FnExactSinksOfSaid : Prop := fnExactSinksOfRow.holds Try.pinned (OpenSpec.ofChange fnExactSinksOfSpec)

/-- ITS FALSE NEIGHBOUR: 'it returns false'. Refute it at one input. -/
def fnExactSinksOfWrong : ChangeSpec := { name := "fnExactSinksOf", fn := fun _ => fun
  | [d] => { results := [.lit (.bool false)], args := [d] }
  | _ => none }
def FnExactSinksOfWrongFalsely : Prop := fnExactSinksOfRow.holds Try.pinned (OpenSpec.ofChange fnExactSinksOfWrong)

/-- 'laws.FnExactSourcesOf': WHATEVER THE INPUT: true; the input reads as it did. -/
def fnExactSourcesOfSpec : ChangeSpec := { name := "fnExactSourcesOf", fn := fun _ => fun
  | [d] => { results := [.lit (.bool true)], args := [d] }
  | _ => none }
def fnExactSourcesOfRow : OpenClaim := { program := "ytoccmpijfggmkaa", sum := "b62563a54028294e35ccdcf99422c4d5fcb996ad799715d2d4820087f6f72a7f", func := "loop.example/g00965/laws.FnExactSourcesOf", spec := "fnExactSourcesOf", recurses := true, apart := false }
def FnExactSourcesOfSaid : Prop := fnExactSourcesOfRow.holds Try.pinned (OpenSpec.ofChange fnExactSourcesOfSpec)

/-- ITS FALSE NEIGHBOUR: 'it returns false'. Refute it at one input. -/
def fnExactSourcesOfWrong : ChangeSpec := { name := "fnExactSourcesOf", fn := fun _ => fun
  | [d] => { results := [.lit (.bool false)], args := [d] }
  | _ => none }
def FnExactSourcesOfWrongFalsely : Prop := fnExactSourcesOfRow.holds Try.pinned (OpenSpec.ofChange fnExactSourcesOfWrong)

/-- 'laws.FnExactLongestOf': WHATEVER THE INPUT: true; the input reads as it did. -/
def fnExactLongestOfSpec : ChangeSpec := { name := "fnExactLongestOf", fn := fun _ => fun
  | [d1, d2] => { results := [.lit (.bool true)], args := [d1, d2] }
  | _ => none }
def fnExactLongestOfRow : OpenClaim := { program := "ytoccmpijfggmkaa", sum := "b62563a54028294e35ccdcf99422c4d5fcb996ad799715d2d4820087f6f72a7f", func := "loop.example/g00965/laws.FnExactLongestOf", spec := "fnExactLongestOf", unfollowed := true, recurses := true, apart := false }
def FnExactLongestOfSaid : Prop := fnExactLongestOfRow.holds Try.pinned (OpenSpec.ofChange fnExactLongestOfSpec)

/-- ITS FALSE NEIGHBOUR: 'it returns false'. Refute it at one input. -/
def fnExactLongestOfWrong : ChangeSpec := { name := "fnExactLongestOf", fn := fun _ => fun
  | [d1, d2] => { results := [.lit (.bool false)], args := [d1, d2] }
  | _ => none }
def FnExactLongestOfWrongFalsely : Prop := fnExactLongestOfRow.holds Try.pinned (OpenSpec.ofChange fnExactLongestOfWrong)

/-- 'laws.FnExactEarliestOf': WHATEVER THE INPUT: true; the input reads as it did. -/
def fnExactEarliestOfSpec : ChangeSpec := { name := "fnExactEarliestOf", fn := fun _ => fun
  | [d1, d2] => { results := [.lit (.bool true)], args := [d1, d2] }
  | _ => none }
def fnExactEarliestOfRow : OpenClaim := { program := "ytoccmpijfggmkaa", sum := "b62563a54028294e35ccdcf99422c4d5fcb996ad799715d2d4820087f6f72a7f", func := "loop.example/g00965/laws.FnExactEarliestOf", spec := "fnExactEarliestOf", unfollowed := true, recurses := true, apart := false }
def FnExactEarliestOfSaid : Prop := fnExactEarliestOfRow.holds Try.pinned (OpenSpec.ofChange fnExactEarliestOfSpec)

/-- ITS FALSE NEIGHBOUR: 'it returns false'. Refute it at one input. -/
def fnExactEarliestOfWrong : ChangeSpec := { name := "fnExactEarliestOf", fn := fun _ => fun
  | [d1, d2] => { results := [.lit (.bool false)], args := [d1, d2] }
  | _ => none }
def FnExactEarliestOfWrongFalsely : Prop := fnExactEarliestOfRow.holds Try.pinned (OpenSpec.ofChange fnExactEarliestOfWrong)

/-- 'laws.FnExactBehind': WHATEVER THE INPUT: true; the input reads as it did. -/
def fnExactBehindSpec : ChangeSpec := { name := "fnExactBehind", fn := fun _ => fun
  | [d1, d2] => { results := [.lit (.bool true)], args := [d1, d2] }
  | _ => none }
def fnExactBehindRow : OpenClaim := { program := "ytoccmpijfggmkaa", sum := "b62563a54028294e35ccdcf99422c4d5fcb996ad799715d2d4820087f6f72a7f", func := "loop.example/g00965/laws.FnExactBehind", spec := "fnExactBehind", recurses := true, apart := false }
def FnExactBehindSaid : Prop := fnExactBehindRow.holds Try.pinned (OpenSpec.ofChange fnExactBehindSpec)

/-- ITS FALSE NEIGHBOUR: 'it returns false'. Refute it at one input. -/
def fnExactBehindWrong : ChangeSpec := { name := "fnExactBehind", fn := fun _ => fun
  | [d1, d2] => { results := [.lit (.bool false)], args := [d1, d2] }
  | _ => none }
def FnExactBehindWrongFalsely : Prop := fnExactBehindRow.holds Try.pinned (OpenSpec.ofChange fnExactBehindWrong)

/-- 'laws.FnExactLeastEnd': WHATEVER THE INPUT: true; the input reads as it did. -/
def fnExactLeastEndSpec : ChangeSpec := { name := "fnExactLeastEnd", fn := fun _ => fun
  | [d1, d2, d3] => { results := [.lit (.bool true)], args := [d1, d2, d3] }
  | _ => none }
def fnExactLeastEndRow : OpenClaim := { program := "ytoccmpijfggmkaa", sum := "b62563a54028294e35ccdcf99422c4d5fcb996ad799715d2d4820087f6f72a7f", func := "loop.example/g00965/laws.FnExactLeastEnd", spec := "fnExactLeastEnd", unfollowed := true, recurses := true, apart := false }
def FnExactLeastEndSaid : Prop := fnExactLeastEndRow.holds Try.pinned (OpenSpec.ofChange fnExactLeastEndSpec)

/-- ITS FALSE NEIGHBOUR: 'it returns false'. Refute it at one input. -/
def fnExactLeastEndWrong : ChangeSpec := { name := "fnExactLeastEnd", fn := fun _ => fun
  | [d1, d2, d3] => { results := [.lit (.bool false)], args := [d1, d2, d3] }
  | _ => none }
def FnExactLeastEndWrongFalsely : Prop := fnExactLeastEndRow.holds Try.pinned (OpenSpec.ofChange fnExactLeastEndWrong)

/-- 'laws.FnExactSlotsFor': WHATEVER THE INPUT: true; the input reads as it did. -/
def fnExactSlotsForSpec : ChangeSpec := { name := "fnExactSlotsFor", fn := fun _ => fun
  | [d1, d2, d3] => { results := [.lit (.bool true)], args := [d1, d2, d3] }
  | _ => none }
def fnExactSlotsForRow : OpenClaim := { program := "ytoccmpijfggmkaa", sum := "b62563a54028294e35ccdcf99422c4d5fcb996ad799715d2d4820087f6f72a7f", func := "loop.example/g00965/laws.FnExactSlotsFor", spec := "fnExactSlotsFor", recurses := true, apart := false }
def FnExactSlotsForSaid : Prop := fnExactSlotsForRow.holds Try.pinned (OpenSpec.ofChange fnExactSlotsForSpec)

/-- ITS FALSE NEIGHBOUR: 'it returns false'. Refute it at one input. -/
def fnExactSlotsForWrong : ChangeSpec := { name := "fnExactSlotsFor", fn := fun _ => fun
  | [d1, d2, d3] => { results := [.lit (.bool false)], args := [d1, d2, d3] }
  | _ => none }
def FnExactSlotsForWrongFalsely : Prop := fnExactSlotsForRow.holds Try.pinned (OpenSpec.ofChange fnExactSlotsForWrong)

/-- 'laws.FnExactLatestOf': WHATEVER THE INPUT: true; the input reads as it did. -/
def fnExactLatestOfSpec : ChangeSpec := { name := "fnExactLatestOf", fn := fun _ => fun
  | [d1, d2] => { results := [.lit (.bool true)], args := [d1, d2] }
  | _ => none }
def fnExactLatestOfRow : OpenClaim := { program := "ytoccmpijfggmkaa", sum := "b62563a54028294e35ccdcf99422c4d5fcb996ad799715d2d4820087f6f72a7f", func := "loop.example/g00965/laws.FnExactLatestOf", spec := "fnExactLatestOf", unfollowed := true, recurses := true, apart := false }
def FnExactLatestOfSaid : Prop := fnExactLatestOfRow.holds Try.pinned (OpenSpec.ofChange fnExactLatestOfSpec)

/-- ITS FALSE NEIGHBOUR: 'it returns false'. Refute it at one input. -/
def fnExactLatestOfWrong : ChangeSpec := { name := "fnExactLatestOf", fn := fun _ => fun
  | [d1, d2] => { results := [.lit (.bool false)], args := [d1, d2] }
  | _ => none }
def FnExactLatestOfWrongFalsely : Prop := fnExactLatestOfRow.holds Try.pinned (OpenSpec.ofChange fnExactLatestOfWrong)

/-- 'laws.FnWeights': WHATEVER THE INPUT: true; the input reads as it did. -/
def fnWeightsSpec : ChangeSpec := { name := "fnWeights", fn := fun _ => fun
  | [d] => { results := [.lit (.bool true)], args := [d] }
  | _ => none }
def fnWeightsRow : OpenClaim := { program := "ytoccmpijfggmkaa", sum := "b62563a54028294e35ccdcf99422c4d5fcb996ad799715d2d4820087f6f72a7f", func := "loop.example/g00965/laws.FnWeights", spec := "fnWeights", unfollowed := true, recurses := true, apart := false }
def FnWeightsSaid : Prop := fnWeightsRow.holds Try.pinned (OpenSpec.ofChange fnWeightsSpec)

/-- ITS FALSE NEIGHBOUR: 'it returns false'. Refute it at one input. -/
def fnWeightsWrong : ChangeSpec := { name := "fnWeights", fn := fun _ => fun
  | [d] => { results := [.lit (.bool false)], args := [d] }
  | _ => none }
def FnWeightsWrongFalsely : Prop := fnWeightsRow.holds Try.pinned (OpenSpec.ofChange fnWeightsWrong)

/-- 'laws.FnExactSlackOf': WHATEVER THE INPUT: true; the input reads as it did. -/
def fnExactSlackOfSpec : ChangeSpec := { name := "fnExactSlackOf", fn := fun _ => fun
  | [d1, d2] => { results := [.lit (.bool true)], args := [d1, d2] }
  | _ => none }
def fnExactSlackOfRow : OpenClaim := { program := "ytoccmpijfggmkaa", sum := "b62563a54028294e35ccdcf99422c4d5fcb996ad799715d2d4820087f6f72a7f", func := "loop.example/g00965/laws.FnExactSlackOf", spec := "fnExactSlackOf", unfollowed := true, recurses := true, apart := false }
def FnExactSlackOfSaid : Prop := fnExactSlackOfRow.holds Try.pinned (OpenSpec.ofChange fnExactSlackOfSpec)

/-- ITS FALSE NEIGHBOUR: 'it returns false'. Refute it at one input. -/
def fnExactSlackOfWrong : ChangeSpec := { name := "fnExactSlackOf", fn := fun _ => fun
  | [d1, d2] => { results := [.lit (.bool false)], args := [d1, d2] }
  | _ => none }
def FnExactSlackOfWrongFalsely : Prop := fnExactSlackOfRow.holds Try.pinned (OpenSpec.ofChange fnExactSlackOfWrong)

/-- 'laws.FnExactTightOf': WHATEVER THE INPUT: true; the input reads as it did. -/
def fnExactTightOfSpec : ChangeSpec := { name := "fnExactTightOf", fn := fun _ => fun
  | [d1, d2] => { results := [.lit (.bool true)], args := [d1, d2] }
  | _ => none }
def fnExactTightOfRow : OpenClaim := { program := "ytoccmpijfggmkaa", sum := "b62563a54028294e35ccdcf99422c4d5fcb996ad799715d2d4820087f6f72a7f", func := "loop.example/g00965/laws.FnExactTightOf", spec := "fnExactTightOf", unfollowed := true, recurses := true, apart := false }
def FnExactTightOfSaid : Prop := fnExactTightOfRow.holds Try.pinned (OpenSpec.ofChange fnExactTightOfSpec)

/-- ITS FALSE NEIGHBOUR: 'it returns false'. Refute it at one input. -/
def fnExactTightOfWrong : ChangeSpec := { name := "fnExactTightOf", fn := fun _ => fun
  | [d1, d2] => { results := [.lit (.bool false)], args := [d1, d2] }
  | _ => none }
def FnExactTightOfWrongFalsely : Prop := fnExactTightOfRow.holds Try.pinned (OpenSpec.ofChange fnExactTightOfWrong)

/- THE SECOND FORM. 'bulk': how many values and letters a reading holds, each counted each time it is reached (what is shared counts as often as it is met; a slice's spare places count too). A statement '..UptoSaid' is the law's where the arguments, and the package variables that the reading takes, are together of bulk at most 1048576: NARROWER than '..Said'. Prove '..Said' where nothing that the law and all that it calls make is longer than what came in: it says more and counts as full. Else prove '..UptoSaid'. A law counts once. -/
mutual
def uptoBulk {H : Type} : DataW H → Nat
  | .lit (.string bytes) => bytes.length + 1
  | .lit _ => 1
  | .nil => 1
  | .ptr d => uptoBulk d + 1
  | .slice elems spare => uptoBulkAll elems + uptoBulkAll spare + 1
  | .agg parts => uptoBulkAll parts + 1
  | .iface _ d => uptoBulk d + 1
  | .map entries => uptoBulkEntries entries + 1
  | .held _ => 1
def uptoBulkAll {H : Type} : List (DataW H) → Nat
  | [] => 0
  | d :: r => uptoBulk d + uptoBulkAll r
def uptoBulkEntries {H : Type} : List (Lit × DataW H) → Nat
  | [] => 0
  | x :: r => uptoBulkEntry x + uptoBulkEntries r
def uptoBulkEntry {H : Type} : Lit × DataW H → Nat
  | (.string bytes, d) => bytes.length + uptoBulk d + 1
  | (_, d) => uptoBulk d + 1
 end
def uptoSmall : (H : Type) → List (DataW H) → Bool := fun _ ds => decide (uptoBulkAll ds ≤ 1048576)
def OpenSpec.upto (s : _root_.Go.ChangeSpec) : _root_.Go.OpenSpec := { _root_.Go.OpenSpec.ofChange s with cond := some uptoSmall }

/-- 'laws.FnExactEndOf', WHERE WHAT IT READS IS OF BULK AT MOST 1048576: true; the input reads as it did. -/
def fnExactEndOfUptoRow : OpenClaim := { program := "ytoccmpijfggmkaa", sum := "b62563a54028294e35ccdcf99422c4d5fcb996ad799715d2d4820087f6f72a7f", func := "loop.example/g00965/laws.FnExactEndOf", spec := "fnExactEndOf", apart := false, narrowed := true }
def FnExactEndOfUptoSaid : Prop := fnExactEndOfUptoRow.holds Try.pinned (OpenSpec.upto fnExactEndOfSpec)

/-- 'laws.FnExactFenceAt', WHERE WHAT IT READS IS OF BULK AT MOST 1048576: true; the input reads as it did. -/
def fnExactFenceAtUptoRow : OpenClaim := { program := "ytoccmpijfggmkaa", sum := "b62563a54028294e35ccdcf99422c4d5fcb996ad799715d2d4820087f6f72a7f", func := "loop.example/g00965/laws.FnExactFenceAt", spec := "fnExactFenceAt", unfollowed := true, recurses := true, apart := false, narrowed := true }
def FnExactFenceAtUptoSaid : Prop := fnExactFenceAtUptoRow.holds Try.pinned (OpenSpec.upto fnExactFenceAtSpec)

/-- 'laws.FnExactFencesOk', WHERE WHAT IT READS IS OF BULK AT MOST 1048576: true; the input reads as it did. -/
def fnExactFencesOkUptoRow : OpenClaim := { program := "ytoccmpijfggmkaa", sum := "b62563a54028294e35ccdcf99422c4d5fcb996ad799715d2d4820087f6f72a7f", func := "loop.example/g00965/laws.FnExactFencesOk", spec := "fnExactFencesOk", apart := false, narrowed := true }
def FnExactFencesOkUptoSaid : Prop := fnExactFencesOkUptoRow.holds Try.pinned (OpenSpec.upto fnExactFencesOkSpec)

/-- 'laws.FnExactIdleOf', WHERE WHAT IT READS IS OF BULK AT MOST 1048576: true; the input reads as it did. -/
def fnExactIdleOfUptoRow : OpenClaim := { program := "ytoccmpijfggmkaa", sum := "b62563a54028294e35ccdcf99422c4d5fcb996ad799715d2d4820087f6f72a7f", func := "loop.example/g00965/laws.FnExactIdleOf", spec := "fnExactIdleOf", apart := false, narrowed := true }
def FnExactIdleOfUptoSaid : Prop := fnExactIdleOfUptoRow.holds Try.pinned (OpenSpec.upto fnExactIdleOfSpec)

/-- 'laws.FnExactSameOrder', WHERE WHAT IT READS IS OF BULK AT MOST 1048576: true; the input reads as it did. -/
def fnExactSameOrderUptoRow : OpenClaim := { program := "ytoccmpijfggmkaa", sum := "b62563a54028294e35ccdcf99422c4d5fcb996ad799715d2d4820087f6f72a7f", func := "loop.example/g00965/laws.FnExactSameOrder", spec := "fnExactSameOrder", apart := false, narrowed := true }
def FnExactSameOrderUptoSaid : Prop := fnExactSameOrderUptoRow.holds Try.pinned (OpenSpec.upto fnExactSameOrderSpec)

/-- 'laws.FnExactWeightsOk', WHERE WHAT IT READS IS OF BULK AT MOST 1048576: true; the input reads as it did. -/
def fnExactWeightsOkUptoRow : OpenClaim := { program := "ytoccmpijfggmkaa", sum := "b62563a54028294e35ccdcf99422c4d5fcb996ad799715d2d4820087f6f72a7f", func := "loop.example/g00965/laws.FnExactWeightsOk", spec := "fnExactWeightsOk", apart := false, narrowed := true }
def FnExactWeightsOkUptoSaid : Prop := fnExactWeightsOkUptoRow.holds Try.pinned (OpenSpec.upto fnExactWeightsOkSpec)

/-- 'laws.FnSlots', WHERE WHAT IT READS IS OF BULK AT MOST 1048576: true; the input reads as it did. -/
def fnSlotsUptoRow : OpenClaim := { program := "ytoccmpijfggmkaa", sum := "b62563a54028294e35ccdcf99422c4d5fcb996ad799715d2d4820087f6f72a7f", func := "loop.example/g00965/laws.FnSlots", spec := "fnSlots", unfollowed := true, recurses := true, apart := false, narrowed := true }
def FnSlotsUptoSaid : Prop := fnSlotsUptoRow.holds Try.pinned (OpenSpec.upto fnSlotsSpec)

/-- 'laws.FnExactWorkOf', WHERE WHAT IT READS IS OF BULK AT MOST 1048576: true; the input reads as it did. -/
def fnExactWorkOfUptoRow : OpenClaim := { program := "ytoccmpijfggmkaa", sum := "b62563a54028294e35ccdcf99422c4d5fcb996ad799715d2d4820087f6f72a7f", func := "loop.example/g00965/laws.FnExactWorkOf", spec := "fnExactWorkOf", apart := false, narrowed := true }
def FnExactWorkOfUptoSaid : Prop := fnExactWorkOfUptoRow.holds Try.pinned (OpenSpec.upto fnExactWorkOfSpec)

/-- 'laws.FnExactReversed', WHERE WHAT IT READS IS OF BULK AT MOST 1048576: true; the input reads as it did. -/
def fnExactReversedUptoRow : OpenClaim := { program := "ytoccmpijfggmkaa", sum := "b62563a54028294e35ccdcf99422c4d5fcb996ad799715d2d4820087f6f72a7f", func := "loop.example/g00965/laws.FnExactReversed", spec := "fnExactReversed", apart := false, narrowed := true }
def FnExactReversedUptoSaid : Prop := fnExactReversedUptoRow.holds Try.pinned (OpenSpec.upto fnExactReversedSpec)

/-- 'laws.FnExactBeside', WHERE WHAT IT READS IS OF BULK AT MOST 1048576: true; the input reads as it did. -/
def fnExactBesideUptoRow : OpenClaim := { program := "ytoccmpijfggmkaa", sum := "b62563a54028294e35ccdcf99422c4d5fcb996ad799715d2d4820087f6f72a7f", func := "loop.example/g00965/laws.FnExactBeside", spec := "fnExactBeside", apart := false, narrowed := true }
def FnExactBesideUptoSaid : Prop := fnExactBesideUptoRow.holds Try.pinned (OpenSpec.upto fnExactBesideSpec)

/-- 'laws.FnExactReduced', WHERE WHAT IT READS IS OF BULK AT MOST 1048576: true; the input reads as it did. -/
def fnExactReducedUptoRow : OpenClaim := { program := "ytoccmpijfggmkaa", sum := "b62563a54028294e35ccdcf99422c4d5fcb996ad799715d2d4820087f6f72a7f", func := "loop.example/g00965/laws.FnExactReduced", spec := "fnExactReduced", apart := false, narrowed := true }
def FnExactReducedUptoSaid : Prop := fnExactReducedUptoRow.holds Try.pinned (OpenSpec.upto fnExactReducedSpec)

/-- 'laws.FnJoins', WHERE WHAT IT READS IS OF BULK AT MOST 1048576: true; the input reads as it did. -/
def fnJoinsUptoRow : OpenClaim := { program := "ytoccmpijfggmkaa", sum := "b62563a54028294e35ccdcf99422c4d5fcb996ad799715d2d4820087f6f72a7f", func := "loop.example/g00965/laws.FnJoins", spec := "fnJoins", unfollowed := true, recurses := true, apart := false, narrowed := true }
def FnJoinsUptoSaid : Prop := fnJoinsUptoRow.holds Try.pinned (OpenSpec.upto fnJoinsSpec)

/-- 'laws.FnExactSlotsOk', WHERE WHAT IT READS IS OF BULK AT MOST 1048576: true; the input reads as it did. -/
def fnExactSlotsOkUptoRow : OpenClaim := { program := "ytoccmpijfggmkaa", sum := "b62563a54028294e35ccdcf99422c4d5fcb996ad799715d2d4820087f6f72a7f", func := "loop.example/g00965/laws.FnExactSlotsOk", spec := "fnExactSlotsOk", apart := false, narrowed := true }
def FnExactSlotsOkUptoSaid : Prop := fnExactSlotsOkUptoRow.holds Try.pinned (OpenSpec.upto fnExactSlotsOkSpec)

/-- 'laws.FnExactPutFence', WHERE WHAT IT READS IS OF BULK AT MOST 1048576: true; the input reads as it did. -/
def fnExactPutFenceUptoRow : OpenClaim := { program := "ytoccmpijfggmkaa", sum := "b62563a54028294e35ccdcf99422c4d5fcb996ad799715d2d4820087f6f72a7f", func := "loop.example/g00965/laws.FnExactPutFence", spec := "fnExactPutFence", inPlace := ["slices.overlaps[loop.example/g00965/impl.Fence]"], unfollowed := true, recurses := true, apart := false, narrowed := true }
def FnExactPutFenceUptoSaid : Prop := fnExactPutFenceUptoRow.holds Try.pinned (OpenSpec.upto fnExactPutFenceSpec)

/-- 'laws.FnExactPutAll', WHERE WHAT IT READS IS OF BULK AT MOST 1048576: true; the input reads as it did. -/
def fnExactPutAllUptoRow : OpenClaim := { program := "ytoccmpijfggmkaa", sum := "b62563a54028294e35ccdcf99422c4d5fcb996ad799715d2d4820087f6f72a7f", func := "loop.example/g00965/laws.FnExactPutAll", spec := "fnExactPutAll", inPlace := ["slices.overlaps[loop.example/g00965/impl.Fence]"], unfollowed := true, recurses := true, apart := false, narrowed := true }
def FnExactPutAllUptoSaid : Prop := fnExactPutAllUptoRow.holds Try.pinned (OpenSpec.upto fnExactPutAllSpec)

/-- 'laws.FnExactSinksOf', WHERE WHAT IT READS IS OF BULK AT MOST 1048576: true; the input reads as it did. -/
def fnExactSinksOfUptoRow : OpenClaim := { program := "ytoccmpijfggmkaa", sum := "b62563a54028294e35ccdcf99422c4d5fcb996ad799715d2d4820087f6f72a7f", func := "loop.example/g00965/laws.FnExactSinksOf", spec := "fnExactSinksOf", recurses := true, apart := false, narrowed := true }
def FnExactSinksOfUptoSaid : Prop := fnExactSinksOfUptoRow.holds Try.pinned (OpenSpec.upto fnExactSinksOfSpec)

/-- 'laws.FnExactSourcesOf', WHERE WHAT IT READS IS OF BULK AT MOST 1048576: true; the input reads as it did. -/
def fnExactSourcesOfUptoRow : OpenClaim := { program := "ytoccmpijfggmkaa", sum := "b62563a54028294e35ccdcf99422c4d5fcb996ad799715d2d4820087f6f72a7f", func := "loop.example/g00965/laws.FnExactSourcesOf", spec := "fnExactSourcesOf", recurses := true, apart := false, narrowed := true }
def FnExactSourcesOfUptoSaid : Prop := fnExactSourcesOfUptoRow.holds Try.pinned (OpenSpec.upto fnExactSourcesOfSpec)

/-- 'laws.FnExactLongestOf', WHERE WHAT IT READS IS OF BULK AT MOST 1048576: true; the input reads as it did. -/
def fnExactLongestOfUptoRow : OpenClaim := { program := "ytoccmpijfggmkaa", sum := "b62563a54028294e35ccdcf99422c4d5fcb996ad799715d2d4820087f6f72a7f", func := "loop.example/g00965/laws.FnExactLongestOf", spec := "fnExactLongestOf", unfollowed := true, recurses := true, apart := false, narrowed := true }
def FnExactLongestOfUptoSaid : Prop := fnExactLongestOfUptoRow.holds Try.pinned (OpenSpec.upto fnExactLongestOfSpec)

/-- 'laws.FnExactEarliestOf', WHERE WHAT IT READS IS OF BULK AT MOST 1048576: true; the input reads as it did. -/
def fnExactEarliestOfUptoRow : OpenClaim := { program := "ytoccmpijfggmkaa", sum := "b62563a54028294e35ccdcf99422c4d5fcb996ad799715d2d4820087f6f72a7f", func := "loop.example/g00965/laws.FnExactEarliestOf", spec := "fnExactEarliestOf", unfollowed := true, recurses := true, apart := false, narrowed := true }
def FnExactEarliestOfUptoSaid : Prop := fnExactEarliestOfUptoRow.holds Try.pinned (OpenSpec.upto fnExactEarliestOfSpec)

/-- 'laws.FnExactBehind', WHERE WHAT IT READS IS OF BULK AT MOST 1048576: true; the input reads as it did. -/
def fnExactBehindUptoRow : OpenClaim := { program := "ytoccmpijfggmkaa", sum := "b62563a54028294e35ccdcf99422c4d5fcb996ad799715d2d4820087f6f72a7f", func := "loop.example/g00965/laws.FnExactBehind", spec := "fnExactBehind", recurses := true, apart := false, narrowed := true }
def FnExactBehindUptoSaid : Prop := fnExactBehindUptoRow.holds Try.pinned (OpenSpec.upto fnExactBehindSpec)

/-- 'laws.FnExactLeastEnd', WHERE WHAT IT READS IS OF BULK AT MOST 1048576: true; the input reads as it did. -/
def fnExactLeastEndUptoRow : OpenClaim := { program := "ytoccmpijfggmkaa", sum := "b62563a54028294e35ccdcf99422c4d5fcb996ad799715d2d4820087f6f72a7f", func := "loop.example/g00965/laws.FnExactLeastEnd", spec := "fnExactLeastEnd", unfollowed := true, recurses := true, apart := false, narrowed := true }
def FnExactLeastEndUptoSaid : Prop := fnExactLeastEndUptoRow.holds Try.pinned (OpenSpec.upto fnExactLeastEndSpec)

/-- 'laws.FnExactSlotsFor', WHERE WHAT IT READS IS OF BULK AT MOST 1048576: true; the input reads as it did. -/
def fnExactSlotsForUptoRow : OpenClaim := { program := "ytoccmpijfggmkaa", sum := "b62563a54028294e35ccdcf99422c4d5fcb996ad799715d2d4820087f6f72a7f", func := "loop.example/g00965/laws.FnExactSlotsFor", spec := "fnExactSlotsFor", recurses := true, apart := false, narrowed := true }
def FnExactSlotsForUptoSaid : Prop := fnExactSlotsForUptoRow.holds Try.pinned (OpenSpec.upto fnExactSlotsForSpec)

/-- 'laws.FnExactLatestOf', WHERE WHAT IT READS IS OF BULK AT MOST 1048576: true; the input reads as it did. -/
def fnExactLatestOfUptoRow : OpenClaim := { program := "ytoccmpijfggmkaa", sum := "b62563a54028294e35ccdcf99422c4d5fcb996ad799715d2d4820087f6f72a7f", func := "loop.example/g00965/laws.FnExactLatestOf", spec := "fnExactLatestOf", unfollowed := true, recurses := true, apart := false, narrowed := true }
def FnExactLatestOfUptoSaid : Prop := fnExactLatestOfUptoRow.holds Try.pinned (OpenSpec.upto fnExactLatestOfSpec)

/-- 'laws.FnWeights', WHERE WHAT IT READS IS OF BULK AT MOST 1048576: true; the input reads as it did. -/
def fnWeightsUptoRow : OpenClaim := { program := "ytoccmpijfggmkaa", sum := "b62563a54028294e35ccdcf99422c4d5fcb996ad799715d2d4820087f6f72a7f", func := "loop.example/g00965/laws.FnWeights", spec := "fnWeights", unfollowed := true, recurses := true, apart := false, narrowed := true }
def FnWeightsUptoSaid : Prop := fnWeightsUptoRow.holds Try.pinned (OpenSpec.upto fnWeightsSpec)

/-- 'laws.FnExactSlackOf', WHERE WHAT IT READS IS OF BULK AT MOST 1048576: true; the input reads as it did. -/
def fnExactSlackOfUptoRow : OpenClaim := { program := "ytoccmpijfggmkaa", sum := "b62563a54028294e35ccdcf99422c4d5fcb996ad799715d2d4820087f6f72a7f", func := "loop.example/g00965/laws.FnExactSlackOf", spec := "fnExactSlackOf", unfollowed := true, recurses := true, apart := false, narrowed := true }
def FnExactSlackOfUptoSaid : Prop := fnExactSlackOfUptoRow.holds Try.pinned (OpenSpec.upto fnExactSlackOfSpec)

/-- 'laws.FnExactTightOf', WHERE WHAT IT READS IS OF BULK AT MOST 1048576: true; the input reads as it did. -/
def fnExactTightOfUptoRow : OpenClaim := { program := "ytoccmpijfggmkaa", sum := "b62563a54028294e35ccdcf99422c4d5fcb996ad799715d2d4820087f6f72a7f", func := "loop.example/g00965/laws.FnExactTightOf", spec := "fnExactTightOf", unfollowed := true, recurses := true, apart := false, narrowed := true }
def FnExactTightOfUptoSaid : Prop := fnExactTightOfUptoRow.holds Try.pinned (OpenSpec.upto fnExactTightOfSpec)

end Rows
end Go.Proofs.Ytoccmpijfggmkaa
