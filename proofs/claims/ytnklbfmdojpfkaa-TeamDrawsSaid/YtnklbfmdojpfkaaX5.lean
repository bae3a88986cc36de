/- The law of the draws returns true for all arguments of its types. -/
import Derived.Test.YtnklbfmdojpfkaaL5
import Derived.Test.YtnklbfmdojpfkaaO3
namespace Go.Proofs.Ytnklbfmdojpfkaa
open Go Go.Oc
theorem law5' {x0 x1 x2 : RV} (h0 : FitsT Try.prog 9 3 x0) (h1 : FitsT Try.prog 9 3 x1) (h2 : FitsT Try.prog 9 3 x2) : ACalls Try.prog 5 [x0, x1, x2] (.bo true) := by
  obtain ⟨m, rfl, _⟩ := fitsT_int h0 (by kernel_rfl) (by kernel_rfl)
  obtain ⟨a, rfl, _⟩ := fitsT_int h1 (by kernel_rfl) (by kernel_rfl)
  obtain ⟨b, rfl, _⟩ := fitsT_int h2 (by kernel_rfl) (by kernel_rfl)
  exact law5 m a b
end Go.Proofs.Ytnklbfmdojpfkaa
