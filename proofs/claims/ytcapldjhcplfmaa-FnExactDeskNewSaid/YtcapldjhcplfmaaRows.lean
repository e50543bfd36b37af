/-
  No cell of these rows narrows 'for every input' (looked for: loops, veiled, ifaces, maps, wideKeys, modest, calm, conditions, laid).
  DERIVED. THE GIVEN ROWS OF THIS SEAT. 14 by the template 'for every input the law returns true; each argument reads behind the call as it read before'; 0 by the template 'total and deterministic' (their statements: YtcapldjhcplfmaaTotals.lean).
  GIVEN WITH THE SEED: the statements are not yours to turn. If you find one false, say at which input.
  Laid BY PROGRAM, IN A SANDBOX (cutbox-rows.mjs): the forced cells as the released guide's own fill.sh prints them over the translation fd415514497af3d7… (all of the seat's roots in one cut). By AI agents, Wed Nov 11 2026. No macro, syntax, notation, axiom, sorry.
-/
import Derived.Test.YtcapldjhcplfmaaChecked
import GoSem.Claim
import GoSem.ClaimJoined
import GoSem.ClaimMapViews
import Derived.JoinedTies
import Derived.KernelRfl
namespace Go.Proofs.Ytcapldjhcplfmaa
/- THE CELL 'sum', in the pinned program and in every row, IS THE sha256 OF THE DUMP (.gsa) THAT YtcapldjhcplfmaaProg.lean LOADS. Nothing in Lean hashes anything: it is a label: what it is worth is what the hold of that sum in a sandbox is worth. -/
noncomputable def Try.pinned : Pinned := { name := "ytcapldjhcplfmaa", sum := "fd415514497af3d7a9bf75c85c68890e7c124248ea0610a4d47613edd29e4c64", checked := Try.checked }
namespace Rows
def none {H : Type} : Left H := { results := [], args := [] }

/-- 'laws.FnExactSegsOk': WHATEVER THE INPUT: true; the input reads as it did. -/
def fnExactSegsOkSpec : ChangeSpec := { name := "fnExactSegsOk", fn := fun _ => fun
  | [d] => { results := [.lit (.bool true)], args := [d] }
  | _ => none }
def fnExactSegsOkRow : OpenClaim := { program := "ytcapldjhcplfmaa", sum := "fd415514497af3d7a9bf75c85c68890e7c124248ea0610a4d47613edd29e4c64", func := "loop.example/g00965/laws.FnExactSegsOk", spec := "fnExactSegsOk", apart := false }
def FnExactSegsOkSaid : Prop := fnExactSegsOkRow.holds Try.pinned (OpenSpec.ofChange fnExactSegsOkSpec)

/-- ITS FALSE NEIGHBOUR: 'it returns false'. Refute it at one input. -/
def fnExactSegsOkWrong : ChangeSpec := { name := "fnExactSegsOk", fn := fun _ => fun
  | [d] => { results := [.lit (.bool false)], args := [d] }
  | _ => none }
def FnExactSegsOkWrongFalsely : Prop := fnExactSegsOkRow.holds Try.pinned (OpenSpec.ofChange fnExactSegsOkWrong)

/-- 'laws.FnExactSegFor': WHATEVER THE INPUT: true; the input reads as it did. -/
def fnExactSegForSpec : ChangeSpec := { name := "fnExactSegFor", fn := fun _ => fun
  | [d1, d2] => { results := [.lit (.bool true)], args := [d1, d2] }
  | _ => none }
def fnExactSegForRow : OpenClaim := { program := "ytcapldjhcplfmaa", sum := "fd415514497af3d7a9bf75c85c68890e7c124248ea0610a4d47613edd29e4c64", func := "loop.example/g00965/laws.FnExactSegFor", spec := "fnExactSegFor", apart := false }
def FnExactSegForSaid : Prop := fnExactSegForRow.holds Try.pinned (OpenSpec.ofChange fnExactSegForSpec)

/-- ITS FALSE NEIGHBOUR: 'it returns false'. Refute it at one input. -/
def fnExactSegForWrong : ChangeSpec := { name := "fnExactSegFor", fn := fun _ => fun
  | [d1, d2] => { results := [.lit (.bool false)], args := [d1, d2] }
  | _ => none }
def FnExactSegForWrongFalsely : Prop := fnExactSegForRow.holds Try.pinned (OpenSpec.ofChange fnExactSegForWrong)

/-- 'laws.FnExactNumbered': WHATEVER THE INPUT: true; the input reads as it did. -/
def fnExactNumberedSpec : ChangeSpec := { name := "fnExactNumbered", fn := fun _ => fun
  | [d1, d2] => { results := [.lit (.bool true)], args := [d1, d2] }
  | _ => none }
def fnExactNumberedRow : OpenClaim := { program := "ytcapldjhcplfmaa", sum := "fd415514497af3d7a9bf75c85c68890e7c124248ea0610a4d47613edd29e4c64", func := "loop.example/g00965/laws.FnExactNumbered", spec := "fnExactNumbered", apart := false }
def FnExactNumberedSaid : Prop := fnExactNumberedRow.holds Try.pinned (OpenSpec.ofChange fnExactNumberedSpec)

/-- ITS FALSE NEIGHBOUR: 'it returns false'. Refute it at one input. -/
def fnExactNumberedWrong : ChangeSpec := { name := "fnExactNumbered", fn := fun _ => fun
  | [d1, d2] => { results := [.lit (.bool false)], args := [d1, d2] }
  | _ => none }
def FnExactNumberedWrongFalsely : Prop := fnExactNumberedRow.holds Try.pinned (OpenSpec.ofChange fnExactNumberedWrong)

/-- 'laws.FnExactMattered': WHATEVER THE INPUT: true; the input reads as it did. -/
def fnExactMatteredSpec : ChangeSpec := { name := "fnExactMattered", fn := fun _ => fun
  | [d1, d2] => { results := [.lit (.bool true)], args := [d1, d2] }
  | _ => none }
def fnExactMatteredRow : OpenClaim := { program := "ytcapldjhcplfmaa", sum := "fd415514497af3d7a9bf75c85c68890e7c124248ea0610a4d47613edd29e4c64", func := "loop.example/g00965/laws.FnExactMattered", spec := "fnExactMattered", apart := false }
def FnExactMatteredSaid : Prop := fnExactMatteredRow.holds Try.pinned (OpenSpec.ofChange fnExactMatteredSpec)

/-- ITS FALSE NEIGHBOUR: 'it returns false'. Refute it at one input. -/
def fnExactMatteredWrong : ChangeSpec := { name := "fnExactMattered", fn := fun _ => fun
  | [d1, d2] => { results := [.lit (.bool false)], args := [d1, d2] }
  | _ => none }
def FnExactMatteredWrongFalsely : Prop := fnExactMatteredRow.holds Try.pinned (OpenSpec.ofChange fnExactMatteredWrong)

/-- 'laws.FnExactFenceFor': WHATEVER THE INPUT: true; the input reads as it did. -/
def fnExactFenceForSpec : ChangeSpec := { name := "fnExactFenceFor", fn := fun _ => fun
  | [d1, d2, d3, d4] => { results := [.lit (.bool true)], args := [d1, d2, d3, d4] }
  | _ => none }
def fnExactFenceForRow : OpenClaim := { program := "ytcapldjhcplfmaa", sum := "fd415514497af3d7a9bf75c85c68890e7c124248ea0610a4d47613edd29e4c64", func := "loop.example/g00965/laws.FnExactFenceFor", spec := "fnExactFenceFor", unfollowed := true, recurses := true, apart := false }
def FnExactFenceForSaid : Prop := fnExactFenceForRow.holds Try.pinned (OpenSpec.ofChange fnExactFenceForSpec)

/-- ITS FALSE NEIGHBOUR: 'it returns false'. Refute it at one input. -/
def fnExactFenceForWrong : ChangeSpec := { name := "fnExactFenceFor", fn := fun _ => fun
  | [d1, d2, d3, d4] => { results := [.lit (.bool false)], args := [d1, d2, d3, d4] }
  | _ => none }
def FnExactFenceForWrongFalsely : Prop := fnExactFenceForRow.holds Try.pinned (OpenSpec.ofChange fnExactFenceForWrong)

/-- 'laws.FnExactNotesOf': WHATEVER THE INPUT: true; the input reads as it did. -/
def fnExactNotesOfSpec : ChangeSpec := { name := "fnExactNotesOf", fn := fun _ => fun
  | [d] => { results := [.lit (.bool true)], args := [d] }
  | _ => none }
def fnExactNotesOfRow : OpenClaim := { program := "ytcapldjhcplfmaa", sum := "fd415514497af3d7a9bf75c85c68890e7c124248ea0610a4d47613edd29e4c64", func := "loop.example/g00965/laws.FnExactNotesOf", spec := "fnExactNotesOf", apart := false }
def FnExactNotesOfSaid : Prop := fnExactNotesOfRow.holds Try.pinned (OpenSpec.ofChange fnExactNotesOfSpec)

/-- ITS FALSE NEIGHBOUR: 'it returns false'. Refute it at one input. -/
def fnExactNotesOfWrong : ChangeSpec := { name := "fnExactNotesOf", fn := fun _ => fun
  | [d] => { results := [.lit (.bool false)], args := [d] }
  | _ => none }
def FnExactNotesOfWrongFalsely : Prop := fnExactNotesOfRow.holds Try.pinned (OpenSpec.ofChange fnExactNotesOfWrong)

/-- 'laws.FnExactMemoAt': WHATEVER THE INPUT: true; the input reads as it did. -/
def fnExactMemoAtSpec : ChangeSpec := { name := "fnExactMemoAt", fn := fun _ => fun
  | [d1, d2] => { results := [.lit (.bool true)], args := [d1, d2] }
  | _ => none }
def fnExactMemoAtRow : OpenClaim := { program := "ytcapldjhcplfmaa", sum := "fd415514497af3d7a9bf75c85c68890e7c124248ea0610a4d47613edd29e4c64", func := "loop.example/g00965/laws.FnExactMemoAt", spec := "fnExactMemoAt", apart := false }
def FnExactMemoAtSaid : Prop := fnExactMemoAtRow.holds Try.pinned (OpenSpec.ofChange fnExactMemoAtSpec)

/-- ITS FALSE NEIGHBOUR: 'it returns false'. Refute it at one input. -/
def fnExactMemoAtWrong : ChangeSpec := { name := "fnExactMemoAt", fn := fun _ => fun
  | [d1, d2] => { results := [.lit (.bool false)], args := [d1, d2] }
  | _ => none }
def FnExactMemoAtWrongFalsely : Prop := fnExactMemoAtRow.holds Try.pinned (OpenSpec.ofChange fnExactMemoAtWrong)

/-- 'laws.FnExactSegs': WHATEVER THE INPUT: true; the input reads as it did. -/
def fnExactSegsSpec : ChangeSpec := { name := "fnExactSegs", fn := fun _ => fun
  | [d1, d2] => { results := [.lit (.bool true)], args := [d1, d2] }
  | _ => none }
def fnExactSegsRow : OpenClaim := { program := "ytcapldjhcplfmaa", sum := "fd415514497af3d7a9bf75c85c68890e7c124248ea0610a4d47613edd29e4c64", func := "loop.example/g00965/laws.FnExactSegs", spec := "fnExactSegs", apart := false }
def FnExactSegsSaid : Prop := fnExactSegsRow.holds Try.pinned (OpenSpec.ofChange fnExactSegsSpec)

/-- ITS FALSE NEIGHBOUR: 'it returns false'. Refute it at one input. -/
def fnExactSegsWrong : ChangeSpec := { name := "fnExactSegs", fn := fun _ => fun
  | [d1, d2] => { results := [.lit (.bool false)], args := [d1, d2] }
  | _ => none }
def FnExactSegsWrongFalsely : Prop := fnExactSegsRow.holds Try.pinned (OpenSpec.ofChange fnExactSegsWrong)

/-- 'laws.FnExactBytesOf': WHATEVER THE INPUT: true; the input reads as it did. -/
def fnExactBytesOfSpec : ChangeSpec := { name := "fnExactBytesOf", fn := fun _ => fun
  | [d] => { results := [.lit (.bool true)], args := [d] }
  | _ => none }
def fnExactBytesOfRow : OpenClaim := { program := "ytcapldjhcplfmaa", sum := "fd415514497af3d7a9bf75c85c68890e7c124248ea0610a4d47613edd29e4c64", func := "loop.example/g00965/laws.FnExactBytesOf", spec := "fnExactBytesOf", apart := false }
def FnExactBytesOfSaid : Prop := fnExactBytesOfRow.holds Try.pinned (OpenSpec.ofChange fnExactBytesOfSpec)

/-- ITS FALSE NEIGHBOUR: 'it returns false'. Refute it at one input. -/
def fnExactBytesOfWrong : ChangeSpec := { name := "fnExactBytesOf", fn := fun _ => fun
  | [d] => { results := [.lit (.bool false)], args := [d] }
  | _ => none }
def FnExactBytesOfWrongFalsely : Prop := fnExactBytesOfRow.holds Try.pinned (OpenSpec.ofChange fnExactBytesOfWrong)

/-- 'laws.FnExactDeskNew': WHATEVER THE INPUT: true; the input reads as it did. -/
def fnExactDeskNewSpec : ChangeSpec := { name := "fnExactDeskNew", fn := fun _ => fun
  | [] => { results := [.lit (.bool true)], args := [] }
  | _ => none }
def fnExactDeskNewRow : OpenClaim := { program := "ytcapldjhcplfmaa", sum := "fd415514497af3d7a9bf75c85c68890e7c124248ea0610a4d47613edd29e4c64", func := "loop.example/g00965/laws.FnExactDeskNew", spec := "fnExactDeskNew", apart := false }
def FnExactDeskNewSaid : Prop := fnExactDeskNewRow.holds Try.pinned (OpenSpec.ofChange fnExactDeskNewSpec)

/-- ITS FALSE NEIGHBOUR: 'it returns false'. Refute it at one input. -/
def fnExactDeskNewWrong : ChangeSpec := { name := "fnExactDeskNew", fn := fun _ => fun
  | [] => { results := [.lit (.bool false)], args := [] }
  | _ => none }
def FnExactDeskNewWrongFalsely : Prop := fnExactDeskNewRow.holds Try.pinned (OpenSpec.ofChange fnExactDeskNewWrong)

/-- 'laws.FnExactLagOf': WHATEVER THE INPUT: true; the input reads as it did. -/
def fnExactLagOfSpec : ChangeSpec := { name := "fnExactLagOf", fn := fun _ => fun
  | [d1, d2] => { results := [.lit (.bool true)], args := [d1, d2] }
  | _ => none }
def fnExactLagOfRow : OpenClaim := { program := "ytcapldjhcplfmaa", sum := "fd415514497af3d7a9bf75c85c68890e7c124248ea0610a4d47613edd29e4c64", func := "loop.example/g00965/laws.FnExactLagOf", spec := "fnExactLagOf", apart := false }
def FnExactLagOfSaid : Prop := fnExactLagOfRow.holds Try.pinned (OpenSpec.ofChange fnExactLagOfSpec)

/-- ITS FALSE NEIGHBOUR: 'it returns false'. Refute it at one input. -/
def fnExactLagOfWrong : ChangeSpec := { name := "fnExactLagOf", fn := fun _ => fun
  | [d1, d2] => { results := [.lit (.bool false)], args := [d1, d2] }
  | _ => none }
def FnExactLagOfWrongFalsely : Prop := fnExactLagOfRow.holds Try.pinned (OpenSpec.ofChange fnExactLagOfWrong)

/-- 'laws.FnExactGapOf': WHATEVER THE INPUT: true; the input reads as it did. -/
def fnExactGapOfSpec : ChangeSpec := { name := "fnExactGapOf", fn := fun _ => fun
  | [d1, d2] => { results := [.lit (.bool true)], args := [d1, d2] }
  | _ => none }
def fnExactGapOfRow : OpenClaim := { program := "ytcapldjhcplfmaa", sum := "fd415514497af3d7a9bf75c85c68890e7c124248ea0610a4d47613edd29e4c64", func := "loop.example/g00965/laws.FnExactGapOf", spec := "fnExactGapOf", apart := false }
def FnExactGapOfSaid : Prop := fnExactGapOfRow.holds Try.pinned (OpenSpec.ofChange fnExactGapOfSpec)

/-- ITS FALSE NEIGHBOUR: 'it returns false'. Refute it at one input. -/
def fnExactGapOfWrong : ChangeSpec := { name := "fnExactGapOf", fn := fun _ => fun
  | [d1, d2] => { results := [.lit (.bool false)], args := [d1, d2] }
  | _ => none }
def FnExactGapOfWrongFalsely : Prop := fnExactGapOfRow.holds Try.pinned (OpenSpec.ofChange fnExactGapOfWrong)

/-- 'laws.FnExactDropTo': WHATEVER THE INPUT: true; the input reads as it did. -/
def fnExactDropToSpec : ChangeSpec := { name := "fnExactDropTo", fn := fun _ => fun
  | [d1, d2] => { results := [.lit (.bool true)], args := [d1, d2] }
  | _ => none }
def fnExactDropToRow : OpenClaim := { program := "ytcapldjhcplfmaa", sum := "fd415514497af3d7a9bf75c85c68890e7c124248ea0610a4d47613edd29e4c64", func := "loop.example/g00965/laws.FnExactDropTo", spec := "fnExactDropTo", apart := false }
def FnExactDropToSaid : Prop := fnExactDropToRow.holds Try.pinned (OpenSpec.ofChange fnExactDropToSpec)

/-- ITS FALSE NEIGHBOUR: 'it returns false'. Refute it at one input. -/
def fnExactDropToWrong : ChangeSpec := { name := "fnExactDropTo", fn := fun _ => fun
  | [d1, d2] => { results := [.lit (.bool false)], args := [d1, d2] }
  | _ => none }
def FnExactDropToWrongFalsely : Prop := fnExactDropToRow.holds Try.pinned (OpenSpec.ofChange fnExactDropToWrong)

/-- 'laws.FnExactCaughtUp': WHATEVER THE INPUT: true; the input reads as it did. -/
def fnExactCaughtUpSpec : ChangeSpec := { name := "fnExactCaughtUp", fn := fun _ => fun
  | [d1, d2] => { results := [.lit (.bool true)], args := [d1, d2] }
  | _ => none }
def fnExactCaughtUpRow : OpenClaim := { program := "ytcapldjhcplfmaa", sum := "fd415514497af3d7a9bf75c85c68890e7c124248ea0610a4d47613edd29e4c64", func := "loop.example/g00965/laws.FnExactCaughtUp", spec := "fnExactCaughtUp", unfollowed := true, recurses := true, apart := false }
def FnExactCaughtUpSaid : Prop := fnExactCaughtUpRow.holds Try.pinned (OpenSpec.ofChange fnExactCaughtUpSpec)

/-- ITS FALSE NEIGHBOUR: 'it returns false'. Refute it at one input. -/
def fnExactCaughtUpWrong : ChangeSpec := { name := "fnExactCaughtUp", fn := fun _ => fun
  | [d1, d2] => { results := [.lit (.bool false)], args := [d1, d2] }
  | _ => none }
def FnExactCaughtUpWrongFalsely : Prop := fnExactCaughtUpRow.holds Try.pinned (OpenSpec.ofChange fnExactCaughtUpWrong)

/- THE SECOND FORM. 'bulk': how many values and letters a reading holds, each counted each time it is reached (what is shared counts as often as it is met; a slice's spare places count too). A statement '..UptoSaid' is the law's where the arguments, and the package variables that the reading takes, are together of bulk at most 1048576: NARROWER than '..Said'. Prove '..Said' where nothing that the law and all that it calls make is longer than what came in: it says more and counts as full. Else prove '..UptoSaid'. A law counts once. -/
mutual
def uptoBulk {H : Type} : DataW H → Nat
  | .lit (.string bytes) => bytes.length + 1
  | .lit _ => 1
  | .nil => 1
  | .ptr d => uptoBulk d + 1
  | .slice elems spare => uptoBulkAll elems + uptoBulkAll spare + 1
  | .agg parts => uptoBulkAll parts + 1
  | .iface _ d => uptoBulk d + 1
  | .map entries => uptoBulkEntries entries + 1
  | .held _ => 1
def uptoBulkAll {H : Type} : List (DataW H) → Nat
  | [] => 0
  | d :: r => uptoBulk d + uptoBulkAll r
def uptoBulkEntries {H : Type} : List (Lit × DataW H) → Nat
  | [] => 0
  | x :: r => uptoBulkEntry x + uptoBulkEntries r
def uptoBulkEntry {H : Type} : Lit × DataW H → Nat
  | (.string bytes, d) => bytes.length + uptoBulk d + 1
  | (_, d) => uptoBulk d + 1
 end
def uptoSmall : (H : Type) → List (DataW H) → Bool := fun _ ds => decide (uptoBulkAll ds ≤ 1048576)
def OpenSpec.upto (s : _root_.Go.ChangeSpec) : _root_.Go.OpenSpec := { _root_.Go.OpenSpec.ofChange s with cond := some uptoSmall }

/-- 'laws.FnExactSegsOk', WHERE WHAT IT READS IS OF BULK AT MOST 1048576: true; the input reads as it did. -/
def fnExactSegsOkUptoRow : OpenClaim := { program := "ytcapldjhcplfmaa", sum := "fd415514497af3d7a9bf75c85c68890e7c124248ea0610a4d47613edd29e4c64", func := "loop.example/g00965/laws.FnExactSegsOk", spec := "fnExactSegsOk", apart := false, narrowed := true }
def FnExactSegsOkUptoSaid : Prop := fnExactSegsOkUptoRow.holds Try.pinned (OpenSpec.upto fnExactSegsOkSpec)

/-- 'laws.FnExactSegFor', WHERE WHAT IT READS IS OF BULK AT MOST 1048576: true; the input reads as it did. -/
def fnExactSegForUptoRow : OpenClaim := { program := "ytcapldjhcplfmaa", sum := "fd415514497af3d7a9bf75c85c68890e7c124248ea0610a4d47613edd29e4c64", func := "loop.example/g00965/laws.FnExactSegFor", spec := "fnExactSegFor", apart := false, narrowed := true }
def FnExactSegForUptoSaid : Prop := fnExactSegForUptoRow.holds Try.pinned (OpenSpec.upto fnExactSegForSpec)

/-- 'laws.FnExactNumbered', WHERE WHAT IT READS IS OF BULK AT MOST 1048576: true; the input reads as it did. -/
def fnExactNumberedUptoRow : OpenClaim := { program := "ytcapldjhcplfmaa", sum := "fd415514497af3d7a9bf75c85c68890e7c124248ea0610a4d47613edd29e4c64", func := "loop.example/g00965/laws.FnExactNumbered", spec := "fnExactNumbered", apart := false, narrowed := true }
def FnExactNumberedUptoSaid : Prop := fnExactNumberedUptoRow.holds Try.pinned (OpenSpec.upto fnExactNumberedSpec)

/-- 'laws.FnExactMattered', WHERE WHAT IT READS IS OF BULK AT MOST 1048576: true; the input reads as it did. -/
def fnExactMatteredUptoRow : OpenClaim := { program := "ytcapldjhcplfmaa", sum := "fd415514497af3d7a9bf75c85c68890e7c124248ea0610a4d47613edd29e4c64", func := "loop.example/g00965/laws.FnExactMattered", spec := "fnExactMattered", apart := false, narrowed := true }
def FnExactMatteredUptoSaid : Prop := fnExactMatteredUptoRow.holds Try.pinned (OpenSpec.upto fnExactMatteredSpec)

/-- 'laws.FnExactFenceFor', WHERE WHAT IT READS IS OF BULK AT MOST 1048576: true; the input reads as it did. -/
def fnExactFenceForUptoRow : OpenClaim := { program := "ytcapldjhcplfmaa", sum := "fd415514497af3d7a9bf75c85c68890e7c124248ea0610a4d47613edd29e4c64", func := "loop.example/g00965/laws.FnExactFenceFor", spec := "fnExactFenceFor", unfollowed := true, recurses := true, apart := false, narrowed := true }
def FnExactFenceForUptoSaid : Prop := fnExactFenceForUptoRow.holds Try.pinned (OpenSpec.upto fnExactFenceForSpec)

/-- 'laws.FnExactNotesOf', WHERE WHAT IT READS IS OF BULK AT MOST 1048576: true; the input reads as it did. -/
def fnExactNotesOfUptoRow : OpenClaim := { program := "ytcapldjhcplfmaa", sum := "fd415514497af3d7a9bf75c85c68890e7c124248ea0610a4d47613edd29e4c64", func := "loop.example/g00965/laws.FnExactNotesOf", spec := "fnExactNotesOf", apart := false, narrowed := true }
def FnExactNotesOfUptoSaid : Prop := fnExactNotesOfUptoRow.holds Try.pinned (OpenSpec.upto fnExactNotesOfSpec)

/-- 'laws.FnExactMemoAt', WHERE WHAT IT READS IS OF BULK AT MOST 1048576: true; the input reads as it did. -/
def fnExactMemoAtUptoRow : OpenClaim := { program := "ytcapldjhcplfmaa", sum := "fd415514497af3d7a9bf75c85c68890e7c124248ea0610a4d47613edd29e4c64", func := "loop.example/g00965/laws.FnExactMemoAt", spec := "fnExactMemoAt", apart := false, narrowed := true }
def FnExactMemoAtUptoSaid : Prop := fnExactMemoAtUptoRow.holds Try.pinned (OpenSpec.upto fnExactMemoAtSpec)

/-- 'laws.FnExactSegs', WHERE WHAT IT READS IS OF BULK AT MOST 1048576: true; the input reads as it did. -/
def fnExactSegsUptoRow : OpenClaim := { program := "ytcapldjhcplfmaa", sum := "fd415514497af3d7a9bf75c85c68890e7c124248ea0610a4d47613edd29e4c64", func := "loop.example/g00965/laws.FnExactSegs", spec := "fnExactSegs", apart := false, narrowed := true }
def FnExactSegsUptoSaid : Prop := fnExactSegsUptoRow.holds Try.pinned (OpenSpec.upto fnExactSegsSpec)

/-- 'laws.FnExactBytesOf', WHERE WHAT IT READS IS OF BULK AT MOST 1048576: true; the input reads as it did. -/
def fnExactBytesOfUptoRow : OpenClaim := { program := "ytcapldjhcplfmaa", sum := "fd415514497af3d7a9bf75c85c68890e7c124248ea0610a4d47613edd29e4c64", func := "loop.example/g00965/laws.FnExactBytesOf", spec := "fnExactBytesOf", apart := false, narrowed := true }
def FnExactBytesOfUptoSaid : Prop := fnExactBytesOfUptoRow.holds Try.pinned (OpenSpec.upto fnExactBytesOfSpec)

/-- 'laws.FnExactDeskNew', WHERE WHAT IT READS IS OF BULK AT MOST 1048576: true; the input reads as it did. -/
def fnExactDeskNewUptoRow : OpenClaim := { program := "ytcapldjhcplfmaa", sum := "fd415514497af3d7a9bf75c85c68890e7c124248ea0610a4d47613edd29e4c64", func := "loop.example/g00965/laws.FnExactDeskNew", spec := "fnExactDeskNew", apart := false, narrowed := true }
def FnExactDeskNewUptoSaid : Prop := fnExactDeskNewUptoRow.holds Try.pinned (OpenSpec.upto fnExactDeskNewSpec)

/-- 'laws.FnExactLagOf', WHERE WHAT IT READS IS OF BULK AT MOST 1048576: true; the input reads as it did. -/
def fnExactLagOfUptoRow : OpenClaim := { program := "ytcapldjhcplfmaa", sum := "fd415514497af3d7a9bf75c85c68890e7c124248ea0610a4d47613edd29e4c64", func := "loop.example/g00965/laws.FnExactLagOf", spec := "fnExactLagOf", apart := false, narrowed := true }
def FnExactLagOfUptoSaid : Prop := fnExactLagOfUptoRow.holds Try.pinned (OpenSpec.upto fnExactLagOfSpec)

/-- 'laws.FnExactGapOf', WHERE WHAT IT READS IS OF BULK AT MOST 1048576: true; the input reads as it did. -/
def fnExactGapOfUptoRow : OpenClaim := { program := "ytcapldjhcplfmaa", sum := "fd415514497af3d7a9bf75c85c68890e7c124248ea0610a4d47613edd29e4c64", func := "loop.example/g00965/laws.FnExactGapOf", spec := "fnExactGapOf", apart := false, narrowed := true }
def FnExactGapOfUptoSaid : Prop := fnExactGapOfUptoRow.holds Try.pinned (OpenSpec.upto fnExactGapOfSpec)

/-- 'laws.FnExactDropTo', WHERE WHAT IT READS IS OF BULK AT MOST 1048576: true; the input reads as it did. -/
def fnExactDropToUptoRow : OpenClaim := { program := "ytcapldjhcplfmaa", sum := "fd415514497af3d7a9bf75c85c68890e7c124248ea0610a4d47613edd29e4c64", func := "loop.example/g00965/laws.FnExactDropTo", spec := "fnExactDropTo", apart := false, narrowed := true }
def FnExactDropToUptoSaid : Prop := fnExactDropToUptoRow.holds Try.pinned (OpenSpec.upto fnExactDropToSpec)

/-- 'laws.FnExactCaughtUp', WHERE WHAT IT READS IS OF BULK AT MOST 1048576: true; the input reads as it did. -/
def fnExactCaughtUpUptoRow : OpenClaim := { program := "ytcapldjhcplfmaa", sum := "fd415514497af3d7a9bf75c85c68890e7c124248ea0610a4d47613edd29e4c64", func := "loop.example/g00965/laws.FnExactCaughtUp", spec := "fnExactCaughtUp", unfollowed := true, recurses := true, apart := false, narrowed := true }
def FnExactCaughtUpUptoSaid : Prop := fnExactCaughtUpUptoRow.holds Try.pinned (OpenSpec.upto fnExactCaughtUpSpec)

end Rows
end Go.Proofs.Ytcapldjhcplfmaa
