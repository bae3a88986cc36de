/- Arguments of the types of chapter 10. -/
import Derived.Test.YtnklbfmdojpfkaaA9
import Derived.Test.YtnklbfmdojpfkaaO3
namespace Go.Proofs.Ytnklbfmdojpfkaa
open Go Go.Oc
theorem fitsE_games : ∀ {es : List (List RV)}, FitsE [.int .i64, .int .i64, .int .i64] es → ∃ gs : List Game, es = gs.map gameC
  | [], _ => ⟨[], rfl⟩
  | e :: es, h => by
    simp only [Oc.FitsE, Oc.FitsL, Oc.Fits] at h
    obtain ⟨⟨_, _, rfl, ⟨a, rfl, _⟩, _, _, rfl, ⟨b, rfl, _⟩, _, _, rfl, ⟨c, rfl, _⟩, rfl⟩, h⟩ := h
    obtain ⟨gs, rfl⟩ := fitsE_games h
    exact ⟨⟨a, b, c⟩ :: gs, rfl⟩
theorem fitsE_lists : ∀ {es : List (List RV)}, FitsE [.sl [.int .i64]] es → ∃ l : List (List Int), es = l.map fun x => [ints x]
  | [], _ => ⟨[], rfl⟩
  | e :: es, h => by
    simp only [Oc.FitsE, Oc.FitsL, Oc.Fits] at h
    obtain ⟨⟨_, _, rfl, ⟨q, rfl, hq⟩, rfl⟩, h⟩ := h
    obtain ⟨l, rfl⟩ := fitsE_lists h
    obtain ⟨x, rfl, _⟩ := fitsE_ints (es := q) hq
    exact ⟨x :: l, rfl⟩
theorem fits24 {x : RV} (h : FitsT Try.prog 9 24 x) : ∃ r, x = .ag (rulesC r) := by
  obtain ⟨xs, rfl, hx⟩ := fitsT_ag (ss := [.int .i64, .sl [.int .i64, .int .i64, .int .i64], .int .i64, .int .i64]) h (by kernel_rfl) (by kernel_rfl)
  simp only [Oc.FitsL, Oc.Fits] at hx
  obtain ⟨_, _, rfl, ⟨s, rfl, _⟩, _, _, rfl, ⟨es, rfl, hes⟩, _, _, rfl, ⟨m, rfl, _⟩, _, _, rfl, ⟨b, rfl, _⟩, rfl⟩ := hx
  obtain ⟨gs, rfl⟩ := fitsE_games hes
  exact ⟨⟨s, gs, m, b⟩, rfl⟩
theorem fits27 {x : RV} (h : FitsT Try.prog 9 27 x) : ∃ l k, x = .ag [listsR l, i64 k] := by
  obtain ⟨xs, rfl, hx⟩ := fitsT_ag (ss := [.sl [.sl [.int .i64]], .int .i64]) h (by kernel_rfl) (by kernel_rfl)
  simp only [Oc.FitsL, Oc.Fits] at hx
  obtain ⟨_, _, rfl, ⟨es, rfl, hes⟩, _, _, rfl, ⟨k, rfl, _⟩, rfl⟩ := hx
  obtain ⟨l, rfl⟩ := fitsE_lists hes
  exact ⟨l, k, rfl⟩
theorem fits36 {x : RV} (h : FitsT Try.prog 9 36 x) : ∃ a b, x = .ag [i64 a, ints b] := by
  obtain ⟨xs, rfl, hx⟩ := fitsT_ag (ss := [.int .i64, .sl [.int .i64]]) h (by kernel_rfl) (by kernel_rfl)
  simp only [Oc.FitsL, Oc.Fits] at hx
  obtain ⟨_, _, rfl, ⟨a, rfl, _⟩, _, _, rfl, ⟨es, rfl, hes⟩, rfl⟩ := hx
  obtain ⟨b, rfl, _⟩ := fitsE_ints hes
  exact ⟨a, b, rfl⟩
end Go.Proofs.Ytnklbfmdojpfkaa
