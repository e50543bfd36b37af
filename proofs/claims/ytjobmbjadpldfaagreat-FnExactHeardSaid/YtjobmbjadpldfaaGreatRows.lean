/-
  No cell of these rows narrows 'for every input' (looked for: loops, veiled, ifaces, maps, wideKeys, modest, calm, conditions, laid).
  DERIVED. THE GIVEN ROWS OF THIS SEAT. 3 by the template 'for every input the law returns true; each argument reads behind the call as it read before'; 0 by the template 'total and deterministic' (their statements: YtjobmbjadpldfaaGreatTotals.lean).
  GIVEN WITH THE SEED: the statements are not yours to turn. If you find one false, say at which input.
  Laid BY PROGRAM, IN A SANDBOX (cutbox-rows.mjs): the forced cells as the released guide's own fill.sh prints them over the translation 65004a40eefd5333… (all of the seat's roots in one cut). By AI agents, Wed Nov 11 2026. No macro, syntax, notation, axiom, sorry.
-/
import Derived.Test.YtjobmbjadpldfaaGreatChecked
import GoSem.Claim
import GoSem.ClaimJoined
import GoSem.ClaimMapViews
import Derived.JoinedTies
import Derived.KernelRfl
namespace Go.Proofs.YtjobmbjadpldfaaGreat
/- THE CELL 'sum', in the pinned program and in every row, IS THE sha256 OF THE DUMP (.gsa) THAT YtjobmbjadpldfaaGreatProg.lean LOADS. Nothing in Lean hashes anything: it is a label: what it is worth is what the hold of that sum in a sandbox is worth. -/
noncomputable def Tryz.pinned : Pinned := { name := "ytjobmbjadpldfaagreat", sum := "65004a40eefd53330b4fd0a7b3df7d1f6d5b3453be070d371cab019fa6507084", checked := Tryz.checked }
namespace Rows
def none {H : Type} : Left H := { results := [], args := [] }

/-- 'laws.FnExactDeskOk': WHATEVER THE INPUT: true; the input reads as it did. -/
def fnExactDeskOkSpec : ChangeSpec := { name := "fnExactDeskOk", fn := fun _ => fun
  | [d] => { results := [.lit (.bool true)], args := [d] }
  | _ => none }
def fnExactDeskOkRow : OpenClaim := { program := "ytjobmbjadpldfaagreat", sum := "65004a40eefd53330b4fd0a7b3df7d1f6d5b3453be070d371cab019fa6507084", func := "loop.example/g00965/laws.FnExactDeskOk", spec := "fnExactDeskOk", unfollowed := true, recurses := true, apart := false }
def FnExactDeskOkSaid : Prop := fnExactDeskOkRow.holds Tryz.pinned (OpenSpec.ofChange fnExactDeskOkSpec)

/-- ITS FALSE NEIGHBOUR: 'it returns false'. Refute it at one input. -/
def fnExactDeskOkWrong : ChangeSpec := { name := "fnExactDeskOk", fn := fun _ => fun
  | [d] => { results := [.lit (.bool false)], args := [d] }
  | _ => none }
def FnExactDeskOkWrongFalsely : Prop := fnExactDeskOkRow.holds Tryz.pinned (OpenSpec.ofChange fnExactDeskOkWrong)

/-- 'laws.FnExactFollowerNew': WHATEVER THE INPUT: true; the input reads as it did. -/
def fnExactFollowerNewSpec : ChangeSpec := { name := "fnExactFollowerNew", fn := fun _ => fun
  | [d1, d2] => { results := [.lit (.bool true)], args := [d1, d2] }
  | _ => none }
def fnExactFollowerNewRow : OpenClaim := { program := "ytjobmbjadpldfaagreat", sum := "65004a40eefd53330b4fd0a7b3df7d1f6d5b3453be070d371cab019fa6507084", func := "loop.example/g00965/laws.FnExactFollowerNew", spec := "fnExactFollowerNew", unfollowed := true, recurses := true, apart := false }
def FnExactFollowerNewSaid : Prop := fnExactFollowerNewRow.holds Tryz.pinned (OpenSpec.ofChange fnExactFollowerNewSpec)

/-- ITS FALSE NEIGHBOUR: 'it returns false'. Refute it at one input. -/
def fnExactFollowerNewWrong : ChangeSpec := { name := "fnExactFollowerNew", fn := fun _ => fun
  | [d1, d2] => { results := [.lit (.bool false)], args := [d1, d2] }
  | _ => none }
def FnExactFollowerNewWrongFalsely : Prop := fnExactFollowerNewRow.holds Tryz.pinned (OpenSpec.ofChange fnExactFollowerNewWrong)

/-- 'laws.FnExactHeard': WHATEVER THE INPUT: true; the input reads as it did. -/
def fnExactHeardSpec : ChangeSpec := { name := "fnExactHeard", fn := fun _ => fun
  | [d1, d2] => { results := [.lit (.bool true)], args := [d1, d2] }
  | _ => none }
def fnExactHeardRow : OpenClaim := { program := "ytjobmbjadpldfaagreat", sum := "65004a40eefd53330b4fd0a7b3df7d1f6d5b3453be070d371cab019fa6507084", func := "loop.example/g00965/laws.FnExactHeard", spec := "fnExactHeard", unfollowed := true, recurses := true, apart := false }
def FnExactHeardSaid : Prop := fnExactHeardRow.holds Tryz.pinned (OpenSpec.ofChange fnExactHeardSpec)

/-- ITS FALSE NEIGHBOUR: 'it returns false'. Refute it at one input. -/
def fnExactHeardWrong : ChangeSpec := { name := "fnExactHeard", fn := fun _ => fun
  | [d1, d2] => { results := [.lit (.bool false)], args := [d1, d2] }
  | _ => none }
def FnExactHeardWrongFalsely : Prop := fnExactHeardRow.holds Tryz.pinned (OpenSpec.ofChange fnExactHeardWrong)

/- THE SECOND FORM. 'bulk': how many values and letters a reading holds, each counted each time it is reached (what is shared counts as often as it is met; a slice's spare places count too). A statement '..UptoSaid' is the law's where the arguments, and the package variables that the reading takes, are together of bulk at most 1048576: NARROWER than '..Said'. Prove '..Said' where nothing that the law and all that it calls make is longer than what came in: it says more and counts as full. Else prove '..UptoSaid'. A law counts once. -/
mutual
def uptoBulk {H : Type} : DataW H → Nat
  | .lit (.string bytes) => bytes.length + 1
  | .lit _ => 1
  | .nil => 1
  | .ptr d => uptoBulk d + 1
  | .slice elems spare => uptoBulkAll elems + uptoBulkAll spare + 1
  | .agg parts => uptoBulkAll parts + 1
  | .iface _ d => uptoBulk d + 1
  | .map entries => uptoBulkEntries entries + 1
  | .held _ => 1
def uptoBulkAll {H : Type} : List (DataW H) → Nat
  | [] => 0
  | d :: r => uptoBulk d + uptoBulkAll r
def uptoBulkEntries {H : Type} : List (Lit × DataW H) → Nat
  | [] => 0
  | x :: r => uptoBulkEntry x + uptoBulkEntries r
def uptoBulkEntry {H : Type} : Lit × DataW H → Nat
  | (.string bytes, d) => bytes.length + uptoBulk d + 1
  | (_, d) => uptoBulk d + 1
 end
def uptoSmall : (H : Type) → List (DataW H) → Bool := fun _ ds => decide (uptoBulkAll ds ≤ 1048576)
def OpenSpec.upto (s : _root_.Go.ChangeSpec) : _root_.Go.OpenSpec := { _root_.Go.OpenSpec.ofChange s with cond := some uptoSmall }

/-- 'laws.FnExactDeskOk', WHERE WHAT IT READS IS OF BULK AT MOST 1048576: true; the input reads as it did. -/
def fnExactDeskOkUptoRow : OpenClaim := { program := "ytjobmbjadpldfaagreat", sum := "65004a40eefd53330b4fd0a7b3df7d1f6d5b3453be070d371cab019fa6507084", func := "loop.example/g00965/laws.FnExactDeskOk", spec := "fnExactDeskOk", unfollowed := true, recurses := true, apart := false, narrowed := true }
def FnExactDeskOkUptoSaid : Prop := fnExactDeskOkUptoRow.holds Tryz.pinned (OpenSpec.upto fnExactDeskOkSpec)

/-- 'laws.FnExactFollowerNew', WHERE WHAT IT READS IS OF BULK AT MOST 1048576: true; the input reads as it did. -/
def fnExactFollowerNewUptoRow : OpenClaim := { program := "ytjobmbjadpldfaagreat", sum := "65004a40eefd53330b4fd0a7b3df7d1f6d5b3453be070d371cab019fa6507084", func := "loop.example/g00965/laws.FnExactFollowerNew", spec := "fnExactFollowerNew", unfollowed := true, recurses := true, apart := false, narrowed := true }
def FnExactFollowerNewUptoSaid : Prop := fnExactFollowerNewUptoRow.holds Tryz.pinned (OpenSpec.upto fnExactFollowerNewSpec)

/-- 'laws.FnExactHeard', WHERE WHAT IT READS IS OF BULK AT MOST 1048576: true; the input reads as it did. -/
def fnExactHeardUptoRow : OpenClaim := { program := "ytjobmbjadpldfaagreat", sum := "65004a40eefd53330b4fd0a7b3df7d1f6d5b3453be070d371cab019fa6507084", func := "loop.example/g00965/laws.FnExactHeard", spec := "fnExactHeard", unfollowed := true, recurses := true, apart := false, narrowed := true }
def FnExactHeardUptoSaid : Prop := fnExactHeardUptoRow.holds Tryz.pinned (OpenSpec.upto fnExactHeardSpec)

end Rows
end Go.Proofs.YtjobmbjadpldfaaGreat
