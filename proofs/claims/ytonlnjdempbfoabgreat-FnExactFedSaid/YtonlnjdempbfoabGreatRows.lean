/-
  No cell of these rows narrows 'for every input' (looked for: loops, veiled, ifaces, maps, wideKeys, modest, calm, conditions, laid).
  DERIVED. THE GIVEN ROWS OF THIS SEAT. 4 by the template 'for every input the law returns true; each argument reads behind the call as it read before'; 0 by the template 'total and deterministic' (their statements: YtonlnjdempbfoabGreatTotals.lean).
  GIVEN WITH THE SEED: the statements are not yours to turn. If you find one false, say at which input.
  Laid BY PROGRAM, IN A SANDBOX (cutbox-rows.mjs): the forced cells as the released guide's own fill.sh prints them over the translation 00dd0a6983e5e83c… (all of the seat's roots in one cut). By AI agents, Wed Nov 11 2026. No macro, syntax, notation, axiom, sorry.
-/
import Derived.Test.YtonlnjdempbfoabGreatChecked
import GoSem.Claim
import GoSem.ClaimJoined
import GoSem.ClaimMapViews
import Derived.JoinedTies
import Derived.KernelRfl
namespace Go.Proofs.YtonlnjdempbfoabGreat
/- THE CELL 'sum', in the pinned program and in every row, IS THE sha256 OF THE DUMP (.gsa) THAT YtonlnjdempbfoabGreatProg.lean LOADS. Nothing in Lean hashes anything: it is a label: what it is worth is what the hold of that sum in a sandbox is worth. -/
noncomputable def Tryz.pinned : Pinned := { name := "ytonlnjdempbfoabgreat", sum := "00dd0a6983e5e83c99f9b7e61852b327b8b5769ea338cf2eda5a5b98148a0060", checked := Tryz.checked }
namespace Rows
def none {H : Type} : Left H := { results := [], args := [] }

/-- 'laws.FnOnce': WHATEVER THE INPUT: true; the input reads as it did. -/
def fnOnceSpec : ChangeSpec := { name := "fnOnce", fn := fun _ => fun
  | [d] => { results := [.lit (.bool true)], args := [d] }
  | _ => none }
def fnOnceRow : OpenClaim := { program := "ytonlnjdempbfoabgreat", sum := "00dd0a6983e5e83c99f9b7e61852b327b8b5769ea338cf2eda5a5b98148a0060", func := "loop.example/g00965/laws.FnOnce", spec := "fnOnce", inPlace := ["slices.overlaps[loop.example/g00965/impl.Entry]", "slices.overlaps[loop.example/g00965/impl.Memo]"], unfollowed := true, recurses := true, apart := false }
def FnOnceSaid : Prop := fnOnceRow.holds Tryz.pinned (OpenSpec.ofChange fnOnceSpec)

/-- ITS FALSE NEIGHBOUR: 'it returns false'. Refute it at one input. -/
def fnOnceWrong : ChangeSpec := { name := "fnOnce", fn := fun _ => fun
  | [d] => { results := [.lit (.bool false)], args := [d] }
  | _ => none }
def FnOnceWrongFalsely : Prop := fnOnceRow.holds Tryz.pinned (OpenSpec.ofChange fnOnceWrong)

/-- 'laws.FnSlim': WHATEVER THE INPUT: true; the input reads as it did. -/
def fnSlimSpec : ChangeSpec := { name := "fnSlim", fn := fun _ => fun
  | [d] => { results := [.lit (.bool true)], args := [d] }
  | _ => none }
def fnSlimRow : OpenClaim := { program := "ytonlnjdempbfoabgreat", sum := "00dd0a6983e5e83c99f9b7e61852b327b8b5769ea338cf2eda5a5b98148a0060", func := "loop.example/g00965/laws.FnSlim", spec := "fnSlim", inPlace := ["slices.overlaps[loop.example/g00965/impl.Entry]"], unfollowed := true, recurses := true, apart := false }
def FnSlimSaid : Prop := fnSlimRow.holds Tryz.pinned (OpenSpec.ofChange fnSlimSpec)

/-- ITS FALSE NEIGHBOUR: 'it returns false'. Refute it at one input. -/
def fnSlimWrong : ChangeSpec := { name := "fnSlim", fn := fun _ => fun
  | [d] => { results := [.lit (.bool false)], args := [d] }
  | _ => none }
def FnSlimWrongFalsely : Prop := fnSlimRow.holds Tryz.pinned (OpenSpec.ofChange fnSlimWrong)

/-- 'laws.FnExactFed': WHATEVER THE INPUT: true; the input reads as it did. -/
def fnExactFedSpec : ChangeSpec := { name := "fnExactFed", fn := fun _ => fun
  | [d1, d2] => { results := [.lit (.bool true)], args := [d1, d2] }
  | _ => none }
def fnExactFedRow : OpenClaim := { program := "ytonlnjdempbfoabgreat", sum := "00dd0a6983e5e83c99f9b7e61852b327b8b5769ea338cf2eda5a5b98148a0060", func := "loop.example/g00965/laws.FnExactFed", spec := "fnExactFed", inPlace := ["slices.overlaps[loop.example/g00965/impl.Entry]"], unfollowed := true, recurses := true, apart := false }
def FnExactFedSaid : Prop := fnExactFedRow.holds Tryz.pinned (OpenSpec.ofChange fnExactFedSpec)

/-- ITS FALSE NEIGHBOUR: 'it returns false'. Refute it at one input. -/
def fnExactFedWrong : ChangeSpec := { name := "fnExactFed", fn := fun _ => fun
  | [d1, d2] => { results := [.lit (.bool false)], args := [d1, d2] }
  | _ => none }
def FnExactFedWrongFalsely : Prop := fnExactFedRow.holds Tryz.pinned (OpenSpec.ofChange fnExactFedWrong)

/-- 'laws.FnExactAsk': WHATEVER THE INPUT: true; the input reads as it did. -/
def fnExactAskSpec : ChangeSpec := { name := "fnExactAsk", fn := fun _ => fun
  | [d1, d2, d3] => { results := [.lit (.bool true)], args := [d1, d2, d3] }
  | _ => none }
def fnExactAskRow : OpenClaim := { program := "ytonlnjdempbfoabgreat", sum := "00dd0a6983e5e83c99f9b7e61852b327b8b5769ea338cf2eda5a5b98148a0060", func := "loop.example/g00965/laws.FnExactAsk", spec := "fnExactAsk", inPlace := ["slices.overlaps[loop.example/g00965/impl.Entry]", "slices.overlaps[loop.example/g00965/impl.Memo]"], unfollowed := true, recurses := true, apart := false }
def FnExactAskSaid : Prop := fnExactAskRow.holds Tryz.pinned (OpenSpec.ofChange fnExactAskSpec)

/-- ITS FALSE NEIGHBOUR: 'it returns false'. Refute it at one input. -/
def fnExactAskWrong : ChangeSpec := { name := "fnExactAsk", fn := fun _ => fun
  | [d1, d2, d3] => { results := [.lit (.bool false)], args := [d1, d2, d3] }
  | _ => none }
def FnExactAskWrongFalsely : Prop := fnExactAskRow.holds Tryz.pinned (OpenSpec.ofChange fnExactAskWrong)

/- THE SECOND FORM. 'bulk': how many values and letters a reading holds, each counted each time it is reached (what is shared counts as often as it is met; a slice's spare places count too). A statement '..UptoSaid' is the law's where the arguments, and the package variables that the reading takes, are together of bulk at most 1048576: NARROWER than '..Said'. Prove '..Said' where nothing that the law and all that it calls make is longer than what came in: it says more and counts as full. Else prove '..UptoSaid'. A law counts once. -/
mutual
def uptoBulk {H : Type} : DataW H → Nat
  | .lit (.string bytes) => bytes.length + 1
  | .lit _ => 1
  | .nil => 1
  | .ptr d => uptoBulk d + 1
  | .slice elems spare => uptoBulkAll elems + uptoBulkAll spare + 1
  | .agg parts => uptoBulkAll parts + 1
  | .iface _ d => uptoBulk d + 1
  | .map entries => uptoBulkEntries entries + 1
  | .held _ => 1
def uptoBulkAll {H : Type} : List (DataW H) → Nat
  | [] => 0
  | d :: r => uptoBulk d + uptoBulkAll r
def uptoBulkEntries {H : Type} : List (Lit × DataW H) → Nat
  | [] => 0
  | x :: r => uptoBulkEntry x + uptoBulkEntries r
def uptoBulkEntry {H : Type} : Lit × DataW H → Nat
  | (.string bytes, d) => bytes.length + uptoBulk d + 1
  | (_, d) => uptoBulk d + 1
 end
def uptoSmall : (H : Type) → List (DataW H) → Bool := fun _ ds => decide (uptoBulkAll ds ≤ 1048576)
def OpenSpec.upto (s : _root_.Go.ChangeSpec) : _root_.Go.OpenSpec := { _root_.Go.OpenSpec.ofChange s with cond := some uptoSmall }

/-- 'laws.FnOnce', WHERE WHAT IT READS IS OF BULK AT MOST 1048576: true; the input reads as it did. -/
def fnOnceUptoRow : OpenClaim := { program := "ytonlnjdempbfoabgreat", sum := "00dd0a6983e5e83c99f9b7e61852b327b8b5769ea338cf2eda5a5b98148a0060", func := "loop.example/g00965/laws.FnOnce", spec := "fnOnce", inPlace := ["slices.overlaps[loop.example/g00965/impl.Entry]", "slices.overlaps[loop.example/g00965/impl.Memo]"], unfollowed := true, recurses := true, apart := false, narrowed := true }
def FnOnceUptoSaid : Prop := fnOnceUptoRow.holds Tryz.pinned (OpenSpec.upto fnOnceSpec)

/-- 'laws.FnSlim', WHERE WHAT IT READS IS OF BULK AT MOST 1048576: true; the input reads as it did. -/
def fnSlimUptoRow : OpenClaim := { program := "ytonlnjdempbfoabgreat", sum := "00dd0a6983e5e83c99f9b7e61852b327b8b5769ea338cf2eda5a5b98148a0060", func := "loop.example/g00965/laws.FnSlim", spec := "fnSlim", inPlace := ["slices.overlaps[loop.example/g00965/impl.Entry]"], unfollowed := true, recurses := true, apart := false, narrowed := true }
def FnSlimUptoSaid : Prop := fnSlimUptoRow.holds Tryz.pinned (OpenSpec.upto fnSlimSpec)

/-- 'laws.FnExactFed', WHERE WHAT IT READS IS OF BULK AT MOST 1048576: true; the input reads as it did. -/
def fnExactFedUptoRow : OpenClaim := { program := "ytonlnjdempbfoabgreat", sum := "00dd0a6983e5e83c99f9b7e61852b327b8b5769ea338cf2eda5a5b98148a0060", func := "loop.example/g00965/laws.FnExactFed", spec := "fnExactFed", inPlace := ["slices.overlaps[loop.example/g00965/impl.Entry]"], unfollowed := true, recurses := true, apart := false, narrowed := true }
def FnExactFedUptoSaid : Prop := fnExactFedUptoRow.holds Tryz.pinned (OpenSpec.upto fnExactFedSpec)

/-- 'laws.FnExactAsk', WHERE WHAT IT READS IS OF BULK AT MOST 1048576: true; the input reads as it did. -/
def fnExactAskUptoRow : OpenClaim := { program := "ytonlnjdempbfoabgreat", sum := "00dd0a6983e5e83c99f9b7e61852b327b8b5769ea338cf2eda5a5b98148a0060", func := "loop.example/g00965/laws.FnExactAsk", spec := "fnExactAsk", inPlace := ["slices.overlaps[loop.example/g00965/impl.Entry]", "slices.overlaps[loop.example/g00965/impl.Memo]"], unfollowed := true, recurses := true, apart := false, narrowed := true }
def FnExactAskUptoSaid : Prop := fnExactAskUptoRow.holds Tryz.pinned (OpenSpec.upto fnExactAskSpec)

end Rows
end Go.Proofs.YtonlnjdempbfoabGreat
