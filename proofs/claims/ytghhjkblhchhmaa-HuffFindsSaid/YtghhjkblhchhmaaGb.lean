/- The range of a number of sixteen bits. -/
import Derived.Test.YtghhjkblhchhmaaGa
import Derived.Test.YtghhjkblhchhmaaDf
namespace Go.Ai
open Go Go.Proofs
theorem u16_wf {n : Int} (h : (Lit.int .u16 n).wf = true) : 0 ≤ n ∧ n < 65536 := by
  have := bounds_u16 h
  omega
end Go.Ai
