/-
  No cell of these rows narrows 'for every input' (looked for: loops, veiled, ifaces, maps, wideKeys, modest, calm, conditions, laid).
  DERIVED. THE GIVEN ROWS OF THIS SEAT. 5 by the template 'for every input the law returns true; each argument reads behind the call as it read before'; 0 by the template 'total and deterministic' (their statements: YtecnbnbopcblgaaGreatTotals.lean).
  GIVEN WITH THE SEED: the statements are not yours to turn. If you find one false, say at which input.
  Laid BY PROGRAM, IN A SANDBOX (cutbox-rows.mjs): the forced cells as the released guide's own fill.sh prints them over the translation 9a787cfbcfe1f050… (all of the seat's roots in one cut). By AI agents, Wed Nov 11 2026. No macro, syntax, notation, axiom, sorry.
-/
import Derived.Test.YtecnbnbopcblgaaGreatChecked
import GoSem.Claim
import GoSem.ClaimJoined
import GoSem.ClaimMapViews
import Derived.JoinedTies
import Derived.KernelRfl
namespace Go.Proofs.YtecnbnbopcblgaaGreat
/- THE CELL 'sum', in the pinned program and in every row, IS THE sha256 OF THE DUMP (.gsa) THAT YtecnbnbopcblgaaGreatProg.lean LOADS. Nothing in Lean hashes anything: it is a label: what it is worth is what the hold of that sum in a sandbox is worth. -/
noncomputable def Tryz.pinned : Pinned := { name := "ytecnbnbopcblgaagreat", sum := "9a787cfbcfe1f050cd882fa0487db3f1b9ea0a699f738e727ded87653dcbf4e0", checked := Tryz.checked }
namespace Rows
def none {H : Type} : Left H := { results := [], args := [] }

/-- 'laws.FnFollows': WHATEVER THE INPUT: true; the input reads as it did. -/
def fnFollowsSpec : ChangeSpec := { name := "fnFollows", fn := fun _ => fun
  | [d] => { results := [.lit (.bool true)], args := [d] }
  | _ => none }
def fnFollowsRow : OpenClaim := { program := "ytecnbnbopcblgaagreat", sum := "9a787cfbcfe1f050cd882fa0487db3f1b9ea0a699f738e727ded87653dcbf4e0", func := "loop.example/g00965/laws.FnFollows", spec := "fnFollows", inPlace := ["slices.overlaps[loop.example/g00965/impl.Entry]"], unfollowed := true, recurses := true, apart := false }
def FnFollowsSaid : Prop := fnFollowsRow.holds Tryz.pinned (OpenSpec.ofChange fnFollowsSpec)

/-- ITS FALSE NEIGHBOUR: 'it returns false'. Refute it at one input. -/
def fnFollowsWrong : ChangeSpec := { name := "fnFollows", fn := fun _ => fun
  | [d] => { results := [.lit (.bool false)], args := [d] }
  | _ => none }
def FnFollowsWrongFalsely : Prop := fnFollowsRow.holds Tryz.pinned (OpenSpec.ofChange fnFollowsWrong)

/-- 'laws.FnViews': WHATEVER THE INPUT: true; the input reads as it did. -/
def fnViewsSpec : ChangeSpec := { name := "fnViews", fn := fun _ => fun
  | [d] => { results := [.lit (.bool true)], args := [d] }
  | _ => none }
def fnViewsRow : OpenClaim := { program := "ytecnbnbopcblgaagreat", sum := "9a787cfbcfe1f050cd882fa0487db3f1b9ea0a699f738e727ded87653dcbf4e0", func := "loop.example/g00965/laws.FnViews", spec := "fnViews", inPlace := ["slices.overlaps[loop.example/g00965/impl.Entry]"], unfollowed := true, recurses := true, apart := false }
def FnViewsSaid : Prop := fnViewsRow.holds Tryz.pinned (OpenSpec.ofChange fnViewsSpec)

/-- ITS FALSE NEIGHBOUR: 'it returns false'. Refute it at one input. -/
def fnViewsWrong : ChangeSpec := { name := "fnViews", fn := fun _ => fun
  | [d] => { results := [.lit (.bool false)], args := [d] }
  | _ => none }
def FnViewsWrongFalsely : Prop := fnViewsRow.holds Tryz.pinned (OpenSpec.ofChange fnViewsWrong)

/-- 'laws.FnOnce': WHATEVER THE INPUT: true; the input reads as it did. -/
def fnOnceSpec : ChangeSpec := { name := "fnOnce", fn := fun _ => fun
  | [d] => { results := [.lit (.bool true)], args := [d] }
  | _ => none }
def fnOnceRow : OpenClaim := { program := "ytecnbnbopcblgaagreat", sum := "9a787cfbcfe1f050cd882fa0487db3f1b9ea0a699f738e727ded87653dcbf4e0", func := "loop.example/g00965/laws.FnOnce", spec := "fnOnce", inPlace := ["slices.overlaps[loop.example/g00965/impl.Entry]", "slices.overlaps[loop.example/g00965/impl.Memo]"], unfollowed := true, recurses := true, apart := false }
def FnOnceSaid : Prop := fnOnceRow.holds Tryz.pinned (OpenSpec.ofChange fnOnceSpec)

/-- ITS FALSE NEIGHBOUR: 'it returns false'. Refute it at one input. -/
def fnOnceWrong : ChangeSpec := { name := "fnOnce", fn := fun _ => fun
  | [d] => { results := [.lit (.bool false)], args := [d] }
  | _ => none }
def FnOnceWrongFalsely : Prop := fnOnceRow.holds Tryz.pinned (OpenSpec.ofChange fnOnceWrong)

/-- 'laws.FnSlim': WHATEVER THE INPUT: true; the input reads as it did. -/
def fnSlimSpec : ChangeSpec := { name := "fnSlim", fn := fun _ => fun
  | [d] => { results := [.lit (.bool true)], args := [d] }
  | _ => none }
def fnSlimRow : OpenClaim := { program := "ytecnbnbopcblgaagreat", sum := "9a787cfbcfe1f050cd882fa0487db3f1b9ea0a699f738e727ded87653dcbf4e0", func := "loop.example/g00965/laws.FnSlim", spec := "fnSlim", inPlace := ["slices.overlaps[loop.example/g00965/impl.Entry]"], unfollowed := true, recurses := true, apart := false }
def FnSlimSaid : Prop := fnSlimRow.holds Tryz.pinned (OpenSpec.ofChange fnSlimSpec)

/-- ITS FALSE NEIGHBOUR: 'it returns false'. Refute it at one input. -/
def fnSlimWrong : ChangeSpec := { name := "fnSlim", fn := fun _ => fun
  | [d] => { results := [.lit (.bool false)], args := [d] }
  | _ => none }
def FnSlimWrongFalsely : Prop := fnSlimRow.holds Tryz.pinned (OpenSpec.ofChange fnSlimWrong)

/-- 'laws.FnExactAsk': WHATEVER THE INPUT: true; the input reads as it did. -/
def fnExactAskSpec : ChangeSpec := { name := "fnExactAsk", fn := fun _ => fun
  | [d1, d2, d3] => { results := [.lit (.bool true)], args := [d1, d2, d3] }
  | _ => none }
def fnExactAskRow : OpenClaim := { program := "ytecnbnbopcblgaagreat", sum := "9a787cfbcfe1f050cd882fa0487db3f1b9ea0a699f738e727ded87653dcbf4e0", func := "loop.example/g00965/laws.FnExactAsk", spec := "fnExactAsk", inPlace := ["slices.overlaps[loop.example/g00965/impl.Entry]", "slices.overlaps[loop.example/g00965/impl.Memo]"], unfollowed := true, recurses := true, apart := false }
def FnExactAskSaid : Prop := fnExactAskRow.holds Tryz.pinned (OpenSpec.ofChange fnExactAskSpec)

/-- ITS FALSE NEIGHBOUR: 'it returns false'. Refute it at one input. -/
def fnExactAskWrong : ChangeSpec := { name := "fnExactAsk", fn := fun _ => fun
  | [d1, d2, d3] => { results := [.lit (.bool false)], args := [d1, d2, d3] }
  | _ => none }
def FnExactAskWrongFalsely : Prop := fnExactAskRow.holds Tryz.pinned (OpenSpec.ofChange fnExactAskWrong)

/- THE SECOND FORM. 'bulk': how many values and letters a reading holds, each counted each time it is reached (what is shared counts as often as it is met; a slice's spare places count too). A statement '..UptoSaid' is the law's where the arguments, and the package variables that the reading takes, are together of bulk at most 1048576: NARROWER than '..Said'. Prove '..Said' where nothing that the law and all that it calls make is longer than what came in: it says more and counts as full. Else prove '..UptoSaid'. A law counts once. -/
mutual
def uptoBulk {H : Type} : DataW H → Nat
  | .lit (.string bytes) => bytes.length + 1
  | .lit _ => 1
  | .nil => 1
  | .ptr d => uptoBulk d + 1
  | .slice elems spare => uptoBulkAll elems + uptoBulkAll spare + 1
  | .agg parts => uptoBulkAll parts + 1
  | .iface _ d => uptoBulk d + 1
  | .map entries => uptoBulkEntries entries + 1
  | .held _ => 1
def uptoBulkAll {H : Type} : List (DataW H) → Nat
  | [] => 0
  | d :: r => uptoBulk d + uptoBulkAll r
def uptoBulkEntries {H : Type} : List (Lit × DataW H) → Nat
  | [] => 0
  | x :: r => uptoBulkEntry x + uptoBulkEntries r
def uptoBulkEntry {H : Type} : Lit × DataW H → Nat
  | (.string bytes, d) => bytes.length + uptoBulk d + 1
  | (_, d) => uptoBulk d + 1
 end
def uptoSmall : (H : Type) → List (DataW H) → Bool := fun _ ds => decide (uptoBulkAll ds ≤ 1048576)
def OpenSpec.upto (s : _root_.Go.ChangeSpec) : _root_.Go.OpenSpec := { _root_.Go.OpenSpec.ofChange s with cond := some uptoSmall }

/-- 'laws.FnFollows', WHERE WHAT IT READS IS OF BULK AT MOST 1048576: true; the input reads as it did. -/
def fnFollowsUptoRow : OpenClaim := { program := "ytecnbnbopcblgaagreat", sum := "9a787cfbcfe1f050cd882fa0487db3f1b9ea0a699f738e727ded87653dcbf4e0", func := "loop.example/g00965/laws.FnFollows", spec := "fnFollows", inPlace := ["slices.overlaps[loop.example/g00965/impl.Entry]"], unfollowed := true, recurses := true, apart := false, narrowed := true }
def FnFollowsUptoSaid : Prop := fnFollowsUptoRow.holds Tryz.pinned (OpenSpec.upto fnFollowsSpec)

/-- 'laws.FnViews', WHERE WHAT IT READS IS OF BULK AT MOST 1048576: true; the input reads as it did. -/
def fnViewsUptoRow : OpenClaim := { program := "ytecnbnbopcblgaagreat", sum := "9a787cfbcfe1f050cd882fa0487db3f1b9ea0a699f738e727ded87653dcbf4e0", func := "loop.example/g00965/laws.FnViews", spec := "fnViews", inPlace := ["slices.overlaps[loop.example/g00965/impl.Entry]"], unfollowed := true, recurses := true, apart := false, narrowed := true }
def FnViewsUptoSaid : Prop := fnViewsUptoRow.holds Tryz.pinned (OpenSpec.upto fnViewsSpec)

/-- 'laws.FnOnce', WHERE WHAT IT READS IS OF BULK AT MOST 1048576: true; the input reads as it did. -/
def fnOnceUptoRow : OpenClaim := { program := "ytecnbnbopcblgaagreat", sum := "9a787cfbcfe1f050cd882fa0487db3f1b9ea0a699f738e727ded87653dcbf4e0", func := "loop.example/g00965/laws.FnOnce", spec := "fnOnce", inPlace := ["slices.overlaps[loop.example/g00965/impl.Entry]", "slices.overlaps[loop.example/g00965/impl.Memo]"], unfollowed := true, recurses := true, apart := false, narrowed := true }
def FnOnceUptoSaid : Prop := fnOnceUptoRow.holds Tryz.pinned (OpenSpec.upto fnOnceSpec)

/-- 'laws.FnSlim', WHERE WHAT IT READS IS OF BULK AT MOST 1048576: true; the input reads as it did. -/
def fnSlimUptoRow : OpenClaim := { program := "ytecnbnbopcblgaagreat", sum := "9a787cfbcfe1f050cd882fa0487db3f1b9ea0a699f738e727ded87653dcbf4e0", func := "loop.example/g00965/laws.FnSlim", spec := "fnSlim", inPlace := ["slices.overlaps[loop.example/g00965/impl.Entry]"], unfollowed := true, recurses := true, apart := false, narrowed := true }
def FnSlimUptoSaid : Prop := fnSlimUptoRow.holds Tryz.pinned (OpenSpec.upto fnSlimSpec)

/-- 'laws.FnExactAsk', WHERE WHAT IT READS IS OF BULK AT MOST 1048576: true; the input reads as it did. -/
def fnExactAskUptoRow : OpenClaim := { program := "ytecnbnbopcblgaagreat", sum := "9a787cfbcfe1f050cd882fa0487db3f1b9ea0a699f738e727ded87653dcbf4e0", func := "loop.example/g00965/laws.FnExactAsk", spec := "fnExactAsk", inPlace := ["slices.overlaps[loop.example/g00965/impl.Entry]", "slices.overlaps[loop.example/g00965/impl.Memo]"], unfollowed := true, recurses := true, apart := false, narrowed := true }
def FnExactAskUptoSaid : Prop := fnExactAskUptoRow.holds Tryz.pinned (OpenSpec.upto fnExactAskSpec)

end Rows
end Go.Proofs.YtecnbnbopcblgaaGreat
