/- Plain helpers of the walks: numbers without overflow, elements of slices, closed tests. -/
import Derived.Test.YtnklbfmdojpfkaaOt
import Derived.Lib.EndianBits
namespace Go.Oc
open Go Go.RowKit

theorem wrapI {n : Int} (h1 : -9223372036854775808 ≤ n) (h2 : n ≤ 9223372036854775807) : IntKind.i64.wrap n = n := by
  unfold IntKind.wrap
  simp only [IntKind.bits, IntKind.signed, Bool.true_and]
  split <;> rename_i h <;> simp only [ge_iff_le, decide_eq_true_eq] at h <;> omega
theorem getD_map_opt {α : Type} {f : α → List RV} {l : List α} {i : Nat} : (l.map f).getD i [] = match l[i]? with | some x => f x | none => [] := by
  rw [List.getD_eq_getElem?_getD, List.getElem?_map]
  cases l[i]? <;> rfl
theorem opt_some {α β : Type} {x : α} {f : α → β} {y : β} : (match some x with | some x => f x | none => y) = f x := rfl
/-- Integers, and lists of them. -/
abbrev i64 (n : Int) : RV := .it .i64 n
abbrev ints (l : List Int) : RV := .sl 1 (l.map fun x => [.it .i64 x])
theorem mem_of_opt {α : Type} {l : List α} {i : Nat} {x : α} (h : l[i]? = some x) : x ∈ l := List.mem_of_getElem? h
theorem drop_of_opt {α : Type} {l : List α} {i : Nat} {x : α} (h : l[i]? = some x) : l.drop i = x :: l.drop (i + 1) := by
  obtain ⟨hi, rfl⟩ := List.getElem?_eq_some_iff.1 h
  exact List.drop_eq_getElem_cons hi
theorem take_of_opt {α : Type} {l : List α} {i : Nat} {x : α} (h : l[i]? = some x) : l.take (i + 1) = l.take i ++ [x] := by
  obtain ⟨hi, rfl⟩ := List.getElem?_eq_some_iff.1 h
  exact List.take_succ_eq_append_getElem hi
theorem opt_of_lt {α : Type} {l : List α} {i : Nat} (h : i < l.length) : ∃ x, l[i]? = some x := ⟨l[i], List.getElem?_eq_getElem h⟩

theorem snapVL_ro {rows : Nat → Row} : ∀ l : List RV, snapVL rows (l.map .r) = l
  | [] => by simp only [List.map_nil, snapVL]
  | x :: l => by simp only [List.map_cons, snapVL, snapV, snapVL_ro l]
theorem snapPL_ro {rows : Nat → Row} : ∀ l : List RV, snapPL rows (l.map .r) ↔ True
  | [] => by simp only [List.map_nil, snapPL]
  | x :: l => by simp only [List.map_cons, snapPL, snapP, snapPL_ro l, true_and]

theorem take_map_len {α β : Type} {f : α → β} {l : List α} : (l.map f).take l.length = l.map f := List.take_of_length_le (by simp)
theorem toNat_add1 {n : Nat} : ((n : Int) + 1).toNat = n + 1 := rfl
/-- The index of the first one with p, or -1. -/
def indexF {α : Type} (p : α → Bool) : List α → Int
  | [] => -1
  | x :: l => if p x then 0 else if indexF p l < 0 then -1 else indexF p l + 1
theorem indexF_any {α : Type} (p : α → Bool) : ∀ l : List α, decide (indexF p l ≥ 0) = l.any p
  | [] => rfl
  | x :: l => by
    have ih := indexF_any p l
    unfold indexF
    cases h : p x
    · simp only [Bool.false_eq_true, if_false, List.any_cons, h, Bool.false_or, ← ih]
      split
      · rename_i h1
        have : ¬ indexF p l ≥ 0 := by omega
        simp [this]
      · rename_i h1
        have : indexF p l ≥ 0 := by omega
        have h2 : indexF p l + 1 ≥ 0 := by omega
        simp only [this, h2]
    · simp [h]
theorem indexF_ge {α : Type} (p : α → Bool) : ∀ l : List α, -1 ≤ indexF p l
  | [] => by simp [indexF]
  | x :: l => by
    have := indexF_ge p l
    unfold indexF
    split
    · omega
    · split <;> omega
end Go.Oc
