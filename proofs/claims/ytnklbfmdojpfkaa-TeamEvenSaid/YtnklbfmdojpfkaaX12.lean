/- The law of even starts returns true for all arguments of its types. -/
import Derived.Test.YtnklbfmdojpfkaaL12
import Derived.Test.YtnklbfmdojpfkaaO9
namespace Go.Proofs.Ytnklbfmdojpfkaa
open Go Go.Oc
theorem law12' {x0 x1 x2 : RV} (h0 : FitsT Try.prog 9 95 x0) (h1 : FitsT Try.prog 9 97 x1) (h2 : FitsT Try.prog 9 96 x2) : ACalls Try.prog 12 [x0, x1, x2] (.bo true) := by
  obtain ⟨xs, rfl, hx⟩ := fitsT_ag (ss := [.int .u16, .int .u16, .int .u16]) h0 (by kernel_rfl) (by kernel_rfl)
  obtain ⟨ys, rfl, hy⟩ := fitsT_ag (ss := [.int .u8, .int .u8, .int .u8, .int .u8]) h1 (by kernel_rfl) (by kernel_rfl)
  obtain ⟨zs, rfl, hz⟩ := fitsT_ag (ss := [.int .u8, .int .u8]) h2 (by kernel_rfl) (by kernel_rfl)
  simp only [Oc.FitsL, Oc.Fits] at hx hy hz
  obtain ⟨_, _, rfl, ⟨a0, rfl, ra0⟩, _, _, rfl, ⟨a1, rfl, ra1⟩, _, _, rfl, ⟨a2, rfl, ra2⟩, rfl⟩ := hx
  obtain ⟨_, _, rfl, ⟨b0, rfl, rb0⟩, _, _, rfl, ⟨b1, rfl, rb1⟩, _, _, rfl, ⟨b2, rfl, rb2⟩, _, _, rfl, ⟨b3, rfl, rb3⟩, rfl⟩ := hy
  obtain ⟨_, _, rfl, ⟨c0, rfl, rc0⟩, _, _, rfl, ⟨c1, rfl, rc1⟩, rfl⟩ := hz
  exact law12 a0 a1 a2 b0 b1 b2 b3 c0 c1 (wf_u16 ra0) (wf_u16 ra1) (wf_u16 ra2) (wf_u8 rb0) (wf_u8 rb1) (wf_u8 rb2) (wf_u8 rb3) (wf_u8 rc0) (wf_u8 rc1)
end Go.Proofs.Ytnklbfmdojpfkaa
