/- The law of the seals returns true for all arguments of its types. -/
import Derived.Test.YtnklbfmdojpfkaaL3
import Derived.Test.YtnklbfmdojpfkaaFT
namespace Go.Proofs.Ytnklbfmdojpfkaa
open Go Go.Oc
theorem law3' {x0 x1 : RV} (h0 : FitsT Try.prog 9 24 x0) (h1 : FitsT Try.prog 9 27 x1) : ACalls Try.prog 3 [x0, x1] (.bo true) := by
  obtain ⟨r, rfl⟩ := fits24 h0
  obtain ⟨l, k, rfl⟩ := fits27 h1
  exact law3 r l k
end Go.Proofs.Ytnklbfmdojpfkaa
