/- The law of the openings returns true for all arguments of its types. -/
import Derived.Test.YtnklbfmdojpfkaaL4
import Derived.Test.YtnklbfmdojpfkaaFT
namespace Go.Proofs.Ytnklbfmdojpfkaa
open Go Go.Oc
theorem law4' {x0 x1 x2 : RV} (h0 : FitsT Try.prog 9 24 x0) (h1 : FitsT Try.prog 9 36 x1) (h2 : FitsT Try.prog 9 3 x2) : ACalls Try.prog 4 [x0, x1, x2] (.bo true) := by
  obtain ⟨r, rfl⟩ := fits24 h0
  obtain ⟨A, B, rfl⟩ := fits36 h1
  obtain ⟨k, rfl, _⟩ := fitsT_int h2 (by kernel_rfl) (by kernel_rfl)
  exact law4 r A B k
end Go.Proofs.Ytnklbfmdojpfkaa
