/- The draws of five players or less: each number has a way of its own. -/
import Derived.Test.YtnklbfmdojpfkaaA6
namespace Go.Proofs.Ytnklbfmdojpfkaa
open Go Go.Oc
set_option linter.unusedVariables false
theorem fact_dvd {m : Nat} : ∀ {d : Nat}, factN m ∣ factN (m + d)
  | 0 => Nat.dvd_refl _
  | d + 1 => Nat.dvd_trans (fact_dvd (d := d)) ⟨m + d + 1, rfl⟩
theorem digit_mod {m N p : Nat} (hp : p < m) : digit m (N % factN m) p = digit m N p := by
  unfold digit
  have h1 : factN (m - 1 - p) * (m - p) ∣ factN m := by
    have h2 : factN (m - 1 - p + 1) ∣ factN (m - 1 - p + 1 + p) := fact_dvd
    rw [show m - 1 - p + 1 + p = m by omega] at h2
    have h3 : factN (m - 1 - p + 1) = factN (m - 1 - p) * (m - p) := by
      show factN (m - 1 - p) * (m - 1 - p + 1) = _
      rw [show m - 1 - p + 1 = m - p by omega]
    rwa [h3] at h2
  obtain ⟨c, hc⟩ := h1
  rw [hc, Nat.mul_assoc]
  have hpos := factN_pos (m - 1 - p)
  generalize factN (m - 1 - p) = a at *
  generalize m - p = b at *
  rw [Nat.mod_mul_right_div_self]
  exact Nat.mod_mul_right_mod _ _ _
theorem leftAt_mod {m N : Nat} : ∀ {i : Nat}, i ≤ m → leftAt m (N % factN m) i = leftAt m N i
  | 0, _ => rfl
  | i + 1, h => by
    unfold leftAt
    rw [leftAt_mod (i := i) (by omega), digit_mod (by omega)]
theorem outAt_mod {m N : Nat} : ∀ {i : Nat}, i ≤ m → outAt m (N % factN m) i = outAt m N i
  | 0, _ => rfl
  | i + 1, h => by
    unfold outAt
    rw [outAt_mod (i := i) (by omega), leftAt_mod (by omega), digit_mod (by omega)]
def goodB (n : Nat) : Bool := (List.range (factN n)).all fun a => decide (outAt n a n).Nodup && (outAt n a n).all fun x => decide (0 ≤ x) && decide (x < n)
def diffB (n : Nat) : Bool := decide ((List.range (factN n)).map fun a => outAt n a n).Nodup
theorem good_all : (List.range 6).all goodB = true := by decide +kernel
theorem diff_all : (List.range 6).all diffB = true := by decide +kernel
theorem out_facts {n : Nat} (hn : n ≤ 5) (N : Nat) : (outAt n N n).Nodup ∧ ∀ x ∈ outAt n N n, 0 ≤ x ∧ x < n := by
  have h1 := List.all_eq_true.1 good_all n (List.mem_range.2 (by omega))
  have h2 := List.all_eq_true.1 h1 (N % factN n) (List.mem_range.2 (Nat.mod_lt _ (factN_pos n)))
  rw [outAt_mod (Nat.le_refl n)] at h2
  simp only [Bool.and_eq_true, decide_eq_true_eq, List.all_eq_true] at h2
  exact h2
theorem out_inj {n a b : Nat} (hn : n ≤ 5) (h : outAt n a n = outAt n b n) : a % factN n = b % factN n := by
  have h1 := List.all_eq_true.1 diff_all n (List.mem_range.2 (by omega))
  simp only [diffB, decide_eq_true_eq] at h1
  have ha := Nat.mod_lt a (factN_pos n)
  have hb := Nat.mod_lt b (factN_pos n)
  rw [← outAt_mod (Nat.le_refl n), ← outAt_mod (N := b) (Nat.le_refl n)] at h
  generalize a % factN n = x at *
  generalize b % factN n = y at *
  have h2 := List.pairwise_iff_getElem.1 (List.pairwise_map.1 h1)
  rcases Nat.lt_trichotomy x y with hl | hl | hl
  · have := h2 x y (by simpa using ha) (by simpa using hb) hl
    simp only [List.getElem_range] at this
    exact absurd h this
  · exact hl
  · have := h2 y x (by simpa using hb) (by simpa using ha) hl
    simp only [List.getElem_range] at this
    exact absurd h.symm this
/-- Of as many numbers as there are ways, one after another, each one has another way. -/
theorem out_next {n N j k : Nat} (hn : n ≤ 5) (hj : j < k) (hk : k < factN n) : outAt n (N + j) n ≠ outAt n (N + k) n := fun h => by
  have h1 := out_inj hn h
  have h2 : (N + k) = (N + j) + (k - j) := by omega
  rw [h2] at h1
  have h3 : (N + j) % factN n = ((N + j) + (k - j)) % factN n := h1
  have h4 : (factN n) ∣ (k - j) := by
    have := Nat.sub_mod_eq_zero_of_mod_eq h3.symm
    rw [Nat.add_sub_cancel_left] at this
    exact Nat.dvd_of_mod_eq_zero this
  have := Nat.le_of_dvd (by omega) h4
  omega
end Go.Proofs.Ytnklbfmdojpfkaa
