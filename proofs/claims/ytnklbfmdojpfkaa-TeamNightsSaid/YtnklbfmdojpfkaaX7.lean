/- The law of the nights returns true for all arguments of its types. -/
import Derived.Test.YtnklbfmdojpfkaaL7
import Derived.Test.YtnklbfmdojpfkaaFT
namespace Go.Proofs.Ytnklbfmdojpfkaa
open Go Go.Oc
theorem fitsE_sheets : ∀ {es : List (List RV)}, FitsE [.int .i64, .int .i64, .int .i64, .int .i64] es → ∃ l : List Sheet, es = l.map sheetC
  | [], _ => ⟨[], rfl⟩
  | e :: es, h => by
    simp only [Oc.FitsE, Oc.FitsL, Oc.Fits] at h
    obtain ⟨⟨_, _, rfl, ⟨a, rfl, _⟩, _, _, rfl, ⟨b, rfl, _⟩, _, _, rfl, ⟨c, rfl, _⟩, _, _, rfl, ⟨d, rfl, _⟩, rfl⟩, h⟩ := h
    obtain ⟨gs, rfl⟩ := fitsE_sheets h
    exact ⟨⟨a, b, c, d⟩ :: gs, rfl⟩
theorem law7' {x0 x1 : RV} (h0 : FitsT Try.prog 9 24 x0) (h1 : FitsT Try.prog 9 62 x1) : ACalls Try.prog 7 [x0, x1] (.bo true) := by
  obtain ⟨r, rfl⟩ := fits24 h0
  have h2 := fitsT_one (s := .sl [.int .i64, .int .i64, .int .i64, .int .i64]) h1 (by kernel_rfl) (by kernel_rfl)
  simp only [Oc.Fits] at h2
  obtain ⟨es, rfl, hes⟩ := h2
  obtain ⟨l, rfl⟩ := fitsE_sheets hes
  exact law7 r l
end Go.Proofs.Ytnklbfmdojpfkaa
