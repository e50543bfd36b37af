/-
  copyPlan of the program, l06Copy of the reference: a plan whose edges lie in memory of its own.
-/
import Derived.Test.YtjobmbjadpldfaaAp
import Derived.Test.YtjobmbjadpldfaaEd
namespace Go.Proofs.Ytjobmbjadpldfaa
open Go.RowKit
set_option maxRecDepth 100000
set_option maxHeartbeats 1000000

end Go.Proofs.Ytjobmbjadpldfaa
