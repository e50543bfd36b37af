/-
  No cell of these rows narrows 'for every input' (looked for: loops, veiled, ifaces, maps, wideKeys, modest, calm, conditions, laid).
  DERIVED. THE GIVEN ROWS OF THIS SEAT. 5 by the template 'for every input the law returns true; each argument reads behind the call as it read before'; 0 by the template 'total and deterministic' (their statements: YtonlnjdempbfoaaGreatTotals.lean).
  GIVEN WITH THE SEED: the statements are not yours to turn. If you find one false, say at which input.
  Laid BY PROGRAM, IN A SANDBOX (cutbox-rows.mjs): the forced cells as the released guide's own fill.sh prints them over the translation e04912a94a309c79… (all of the seat's roots in one cut). By AI agents, Wed Nov 11 2026. No macro, syntax, notation, axiom, sorry.
-/
import Derived.Test.YtonlnjdempbfoaaGreatChecked
import GoSem.Claim
import GoSem.ClaimJoined
import GoSem.ClaimMapViews
import Derived.JoinedTies
import Derived.KernelRfl
namespace Go.Proofs.YtonlnjdempbfoaaGreat
/- THE CELL 'sum', in the pinned program and in every row, IS THE sha256 OF THE DUMP (.gsa) THAT YtonlnjdempbfoaaGreatProg.lean LOADS. Nothing in Lean hashes anything: it is a label: what it is worth is what the hold of that sum in a sandbox is worth. -/
noncomputable def Tryz.pinned : Pinned := { name := "ytonlnjdempbfoaagreat", sum := "e04912a94a309c791a7070b776b84720c3841cf9d41fe22d3142abe79a18c3b2", checked := Tryz.checked }
namespace Rows
def none {H : Type} : Left H := { results := [], args := [] }

/-- 'laws.FnFollows': WHATEVER THE INPUT: true; the input reads as it did. -/
def fnFollowsSpec : ChangeSpec := { name := "fnFollows", fn := fun _ => fun
  | [d] => { results := [.lit (.bool true)], args := [d] }
  | _ => none }
def fnFollowsRow : OpenClaim := { program := "ytonlnjdempbfoaagreat", sum := "e04912a94a309c791a7070b776b84720c3841cf9d41fe22d3142abe79a18c3b2", func := "loop.example/g00965/laws.FnFollows", spec := "fnFollows", inPlace := ["slices.overlaps[loop.example/g00965/impl.Entry]"], unfollowed := true, recurses := true, apart := false }
def FnFollowsSaid : Prop := fnFollowsRow.holds Tryz.pinned (OpenSpec.ofChange fnFollowsSpec)

/-- ITS FALSE NEIGHBOUR: 'it returns false'. Refute it at one input. -/
def fnFollowsWrong : ChangeSpec := { name := "fnFollows", fn := fun _ => fun
  | [d] => { results := [.lit (.bool false)], args := [d] }
  | _ => none }
def FnFollowsWrongFalsely : Prop := fnFollowsRow.holds Tryz.pinned (OpenSpec.ofChange fnFollowsWrong)

/-- 'laws.FnFences': WHATEVER THE INPUT: true; the input reads as it did. -/
def fnFencesSpec : ChangeSpec := { name := "fnFences", fn := fun _ => fun
  | [d] => { results := [.lit (.bool true)], args := [d] }
  | _ => none }
def fnFencesRow : OpenClaim := { program := "ytonlnjdempbfoaagreat", sum := "e04912a94a309c791a7070b776b84720c3841cf9d41fe22d3142abe79a18c3b2", func := "loop.example/g00965/laws.FnFences", spec := "fnFences", inPlace := ["slices.overlaps[loop.example/g00965/impl.Fence]", "slices.overlaps[loop.example/g00965/impl.Entry]"], unfollowed := true, recurses := true, apart := false }
def FnFencesSaid : Prop := fnFencesRow.holds Tryz.pinned (OpenSpec.ofChange fnFencesSpec)

/-- ITS FALSE NEIGHBOUR: 'it returns false'. Refute it at one input. -/
def fnFencesWrong : ChangeSpec := { name := "fnFences", fn := fun _ => fun
  | [d] => { results := [.lit (.bool false)], args := [d] }
  | _ => none }
def FnFencesWrongFalsely : Prop := fnFencesRow.holds Tryz.pinned (OpenSpec.ofChange fnFencesWrong)

/-- 'laws.FnExactOverAt': WHATEVER THE INPUT: true; the input reads as it did. -/
def fnExactOverAtSpec : ChangeSpec := { name := "fnExactOverAt", fn := fun _ => fun
  | [d1, d2] => { results := [.lit (.bool true)], args := [d1, d2] }
  | _ => none }
def fnExactOverAtRow : OpenClaim := { program := "ytonlnjdempbfoaagreat", sum := "e04912a94a309c791a7070b776b84720c3841cf9d41fe22d3142abe79a18c3b2", func := "loop.example/g00965/laws.FnExactOverAt", spec := "fnExactOverAt", inPlace := ["slices.overlaps[loop.example/g00965/impl.Entry]"], unfollowed := true, recurses := true, apart := false }
def FnExactOverAtSaid : Prop := fnExactOverAtRow.holds Tryz.pinned (OpenSpec.ofChange fnExactOverAtSpec)

/-- ITS FALSE NEIGHBOUR: 'it returns false'. Refute it at one input. -/
def fnExactOverAtWrong : ChangeSpec := { name := "fnExactOverAt", fn := fun _ => fun
  | [d1, d2] => { results := [.lit (.bool false)], args := [d1, d2] }
  | _ => none }
def FnExactOverAtWrongFalsely : Prop := fnExactOverAtRow.holds Tryz.pinned (OpenSpec.ofChange fnExactOverAtWrong)

/-- 'laws.FnViews': WHATEVER THE INPUT: true; the input reads as it did. -/
def fnViewsSpec : ChangeSpec := { name := "fnViews", fn := fun _ => fun
  | [d] => { results := [.lit (.bool true)], args := [d] }
  | _ => none }
def fnViewsRow : OpenClaim := { program := "ytonlnjdempbfoaagreat", sum := "e04912a94a309c791a7070b776b84720c3841cf9d41fe22d3142abe79a18c3b2", func := "loop.example/g00965/laws.FnViews", spec := "fnViews", inPlace := ["slices.overlaps[loop.example/g00965/impl.Entry]"], unfollowed := true, recurses := true, apart := false }
def FnViewsSaid : Prop := fnViewsRow.holds Tryz.pinned (OpenSpec.ofChange fnViewsSpec)

/-- ITS FALSE NEIGHBOUR: 'it returns false'. Refute it at one input. -/
def fnViewsWrong : ChangeSpec := { name := "fnViews", fn := fun _ => fun
  | [d] => { results := [.lit (.bool false)], args := [d] }
  | _ => none }
def FnViewsWrongFalsely : Prop := fnViewsRow.holds Tryz.pinned (OpenSpec.ofChange fnViewsWrong)

/-- 'laws.FnExactSlim': WHATEVER THE INPUT: true; the input reads as it did. -/
def fnExactSlimSpec : ChangeSpec := { name := "fnExactSlim", fn := fun _ => fun
  | [d] => { results := [.lit (.bool true)], args := [d] }
  | _ => none }
def fnExactSlimRow : OpenClaim := { program := "ytonlnjdempbfoaagreat", sum := "e04912a94a309c791a7070b776b84720c3841cf9d41fe22d3142abe79a18c3b2", func := "loop.example/g00965/laws.FnExactSlim", spec := "fnExactSlim", inPlace := ["slices.overlaps[loop.example/g00965/impl.Entry]"], unfollowed := true, recurses := true, apart := false }
def FnExactSlimSaid : Prop := fnExactSlimRow.holds Tryz.pinned (OpenSpec.ofChange fnExactSlimSpec)

/-- ITS FALSE NEIGHBOUR: 'it returns false'. Refute it at one input. -/
def fnExactSlimWrong : ChangeSpec := { name := "fnExactSlim", fn := fun _ => fun
  | [d] => { results := [.lit (.bool false)], args := [d] }
  | _ => none }
def FnExactSlimWrongFalsely : Prop := fnExactSlimRow.holds Tryz.pinned (OpenSpec.ofChange fnExactSlimWrong)

/- THE SECOND FORM. 'bulk': how many values and letters a reading holds, each counted each time it is reached (what is shared counts as often as it is met; a slice's spare places count too). A statement '..UptoSaid' is the law's where the arguments, and the package variables that the reading takes, are together of bulk at most 1048576: NARROWER than '..Said'. Prove '..Said' where nothing that the law and all that it calls make is longer than what came in: it says more and counts as full. Else prove '..UptoSaid'. A law counts once. -/
mutual
def uptoBulk {H : Type} : DataW H → Nat
  | .lit (.string bytes) => bytes.length + 1
  | .lit _ => 1
  | .nil => 1
  | .ptr d => uptoBulk d + 1
  | .slice elems spare => uptoBulkAll elems + uptoBulkAll spare + 1
  | .agg parts => uptoBulkAll parts + 1
  | .iface _ d => uptoBulk d + 1
  | .map entries => uptoBulkEntries entries + 1
  | .held _ => 1
def uptoBulkAll {H : Type} : List (DataW H) → Nat
  | [] => 0
  | d :: r => uptoBulk d + uptoBulkAll r
def uptoBulkEntries {H : Type} : List (Lit × DataW H) → Nat
  | [] => 0
  | x :: r => uptoBulkEntry x + uptoBulkEntries r
def uptoBulkEntry {H : Type} : Lit × DataW H → Nat
  | (.string bytes, d) => bytes.length + uptoBulk d + 1
  | (_, d) => uptoBulk d + 1
 end
def uptoSmall : (H : Type) → List (DataW H) → Bool := fun _ ds => decide (uptoBulkAll ds ≤ 1048576)
def OpenSpec.upto (s : _root_.Go.ChangeSpec) : _root_.Go.OpenSpec := { _root_.Go.OpenSpec.ofChange s with cond := some uptoSmall }

/-- 'laws.FnFollows', WHERE WHAT IT READS IS OF BULK AT MOST 1048576: true; the input reads as it did. -/
def fnFollowsUptoRow : OpenClaim := { program := "ytonlnjdempbfoaagreat", sum := "e04912a94a309c791a7070b776b84720c3841cf9d41fe22d3142abe79a18c3b2", func := "loop.example/g00965/laws.FnFollows", spec := "fnFollows", inPlace := ["slices.overlaps[loop.example/g00965/impl.Entry]"], unfollowed := true, recurses := true, apart := false, narrowed := true }
def FnFollowsUptoSaid : Prop := fnFollowsUptoRow.holds Tryz.pinned (OpenSpec.upto fnFollowsSpec)

/-- 'laws.FnFences', WHERE WHAT IT READS IS OF BULK AT MOST 1048576: true; the input reads as it did. -/
def fnFencesUptoRow : OpenClaim := { program := "ytonlnjdempbfoaagreat", sum := "e04912a94a309c791a7070b776b84720c3841cf9d41fe22d3142abe79a18c3b2", func := "loop.example/g00965/laws.FnFences", spec := "fnFences", inPlace := ["slices.overlaps[loop.example/g00965/impl.Fence]", "slices.overlaps[loop.example/g00965/impl.Entry]"], unfollowed := true, recurses := true, apart := false, narrowed := true }
def FnFencesUptoSaid : Prop := fnFencesUptoRow.holds Tryz.pinned (OpenSpec.upto fnFencesSpec)

/-- 'laws.FnExactOverAt', WHERE WHAT IT READS IS OF BULK AT MOST 1048576: true; the input reads as it did. -/
def fnExactOverAtUptoRow : OpenClaim := { program := "ytonlnjdempbfoaagreat", sum := "e04912a94a309c791a7070b776b84720c3841cf9d41fe22d3142abe79a18c3b2", func := "loop.example/g00965/laws.FnExactOverAt", spec := "fnExactOverAt", inPlace := ["slices.overlaps[loop.example/g00965/impl.Entry]"], unfollowed := true, recurses := true, apart := false, narrowed := true }
def FnExactOverAtUptoSaid : Prop := fnExactOverAtUptoRow.holds Tryz.pinned (OpenSpec.upto fnExactOverAtSpec)

/-- 'laws.FnViews', WHERE WHAT IT READS IS OF BULK AT MOST 1048576: true; the input reads as it did. -/
def fnViewsUptoRow : OpenClaim := { program := "ytonlnjdempbfoaagreat", sum := "e04912a94a309c791a7070b776b84720c3841cf9d41fe22d3142abe79a18c3b2", func := "loop.example/g00965/laws.FnViews", spec := "fnViews", inPlace := ["slices.overlaps[loop.example/g00965/impl.Entry]"], unfollowed := true, recurses := true, apart := false, narrowed := true }
def FnViewsUptoSaid : Prop := fnViewsUptoRow.holds Tryz.pinned (OpenSpec.upto fnViewsSpec)

/-- 'laws.FnExactSlim', WHERE WHAT IT READS IS OF BULK AT MOST 1048576: true; the input reads as it did. -/
def fnExactSlimUptoRow : OpenClaim := { program := "ytonlnjdempbfoaagreat", sum := "e04912a94a309c791a7070b776b84720c3841cf9d41fe22d3142abe79a18c3b2", func := "loop.example/g00965/laws.FnExactSlim", spec := "fnExactSlim", inPlace := ["slices.overlaps[loop.example/g00965/impl.Entry]"], unfollowed := true, recurses := true, apart := false, narrowed := true }
def FnExactSlimUptoSaid : Prop := fnExactSlimUptoRow.holds Tryz.pinned (OpenSpec.upto fnExactSlimSpec)

end Rows
end Go.Proofs.YtonlnjdempbfoaaGreat
