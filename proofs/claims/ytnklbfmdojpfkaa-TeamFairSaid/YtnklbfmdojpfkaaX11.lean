/- The law that no captain draws alone returns true for all arguments of its types. -/
import Derived.Test.YtnklbfmdojpfkaaL11
import Derived.Test.YtnklbfmdojpfkaaO9
namespace Go.Proofs.Ytnklbfmdojpfkaa
open Go Go.Oc
theorem law11' {x0 x1 : RV} (h0 : FitsT Try.prog 9 5 x0) (h1 : FitsT Try.prog 9 76 x1) : ACalls Try.prog 11 [x0, x1] (.bo true) := by
  have h2 := fitsT_one (s := .int .u8) h0 (by kernel_rfl) (by kernel_rfl)
  obtain ⟨xs, rfl, hx⟩ := fitsT_ag (ss := [.int .u32, .int .u32]) h1 (by kernel_rfl) (by kernel_rfl)
  simp only [Oc.FitsL, Oc.Fits] at hx h2
  obtain ⟨p, rfl, rp⟩ := h2
  obtain ⟨_, _, rfl, ⟨a0, rfl, ra0⟩, _, _, rfl, ⟨a1, rfl, ra1⟩, rfl⟩ := hx
  exact law11 p a0 a1 (wf_u8 rp) (wf_u32 ra0) (wf_u32 ra1)
end Go.Proofs.Ytnklbfmdojpfkaa
