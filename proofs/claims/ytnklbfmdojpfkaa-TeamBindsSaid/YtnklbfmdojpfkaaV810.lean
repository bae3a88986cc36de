/- Part 10 of the texts of this claim. -/
import Derived.Test.YtnklbfmdojpfkaaV89
/- The powers of 7 modulo 2147483647, without that this number is a prime. -/
namespace Go.Proofs.Ytnklbfmdojpfkaa
open Go Go.Oc
set_option linter.unusedVariables false
def One (n : Nat) : Prop := 7 ^ n % 2147483647 = 1
theorem one_add {m n : Nat} (hm : One m) (hn : One n) : One (m + n) := by
  unfold One at *
  rw [Nat.pow_add, Nat.mul_mod, hm, hn]
theorem one_cancel {m n : Nat} (hm : One m) (h : One (m + n)) : One n := by
  unfold One at *
  rw [Nat.pow_add, Nat.mul_mod, hm, Nat.one_mul, Nat.mod_mod] at h
  exact h
theorem one_mul {m : Nat} (hm : One m) (n : Nat) : One (m * n) := by
  unfold One at *
  rw [Nat.pow_mul, Nat.pow_mod, hm, Nat.one_pow]
theorem one_gcd (a b : Nat) : One a → One b → One (Nat.gcd a b) := by
  induction a, b using Nat.gcd.induction with
  | H0 n => intro _ h; rwa [Nat.gcd_zero_left]
  | H1 m n _ ih =>
    intro h1 h2
    rw [Nat.gcd_rec]
    refine ih ?_ h1
    have : n = m * (n / m) + n % m := (Nat.div_add_mod n m).symm
    exact one_cancel (one_mul h1 (n / m)) (this ▸ h2)
theorem one_reckon (e : Nat) (h : e < 2 ^ 31) : One e ↔ pmod 2147483647 31 7 e 1 = 1 := by
  rw [pmod_eq 2147483647 31 7 e 1 h, Nat.one_mul]; rfl
theorem one_all : One 2147483646 := (one_reckon _ (by decide)).2 (by decide +kernel)
theorem not_one (e : Nat) (he : e ∈ [1073741823, 715827882, 306783378, 195225786, 69273666, 14221746, 6487866]) : ¬ One e := by
  have hlt : e < 2 ^ 31 := by
    have : ∀ x ∈ [1073741823, 715827882, 306783378, 195225786, 69273666, 14221746, 6487866], x < 2 ^ 31 := by decide
    exact this e he
  rw [one_reckon e hlt]
  have : ∀ x ∈ [1073741823, 715827882, 306783378, 195225786, 69273666, 14221746, 6487866], ¬ pmod 2147483647 31 7 x 1 = 1 := by decide +kernel
  exact this e he
/-- A number that none of these divides shares no divisor with their product. -/
theorem coprime_of {c r : Nat} (hr : ∀ g, g ≤ r → g ∣ r → g = 1 ∨ g = r) (hr0 : 0 < r) (h : ¬ r ∣ c) : Nat.gcd c r = 1 := by
  rcases hr (Nat.gcd c r) (Nat.le_of_dvd hr0 (Nat.gcd_dvd_right c r)) (Nat.gcd_dvd_right c r) with h1 | h1
  · exact h1
  · exact absurd (h1 ▸ Nat.gcd_dvd_left c r) h
theorem gcd_mul_one {c a b : Nat} (ha : Nat.gcd c a = 1) (hb : Nat.gcd c b = 1) : Nat.gcd c (a * b) = 1 := Nat.Coprime.mul_right ha hb
theorem some_divides {c : Nat} (hc : c ∣ 2147483646) (h1 : c ≠ 1) : 2 ∣ c ∨ 3 ∣ c ∨ 7 ∣ c ∨ 11 ∣ c ∨ 31 ∣ c ∨ 151 ∣ c ∨ 331 ∣ c := by
  refine Decidable.byContradiction fun h => h1 ?_
  simp only [not_or] at h
  obtain ⟨a2, a3, a7, a11, a31, a151, a331⟩ := h
  have p2 : ∀ g, g ≤ 2 → g ∣ 2 → g = 1 ∨ g = 2 := by decide
  have p3 : ∀ g, g ≤ 3 → g ∣ 3 → g = 1 ∨ g = 3 := by decide
  have p7 : ∀ g, g ≤ 7 → g ∣ 7 → g = 1 ∨ g = 7 := by decide
  have p11 : ∀ g, g ≤ 11 → g ∣ 11 → g = 1 ∨ g = 11 := by decide
  have p31 : ∀ g, g ≤ 31 → g ∣ 31 → g = 1 ∨ g = 31 := by decide
  have p151 : ∀ g, g ≤ 151 → g ∣ 151 → g = 1 ∨ g = 151 := by decide +kernel
  have p331 : ∀ g, g ≤ 331 → g ∣ 331 → g = 1 ∨ g = 331 := by decide +kernel
  have e2 := coprime_of p2 (by omega) a2
  have e3 := coprime_of p3 (by omega) a3
  have e7 := coprime_of p7 (by omega) a7
  have e11 := coprime_of p11 (by omega) a11
  have e31 := coprime_of p31 (by omega) a31
  have e151 := coprime_of p151 (by omega) a151
  have e331 := coprime_of p331 (by omega) a331
  have := gcd_mul_one e2 (gcd_mul_one e3 (gcd_mul_one e3 (gcd_mul_one e7 (gcd_mul_one e11 (gcd_mul_one e31 (gcd_mul_one e151 e331))))))
  rw [show (2 * (3 * (3 * (7 * (11 * (31 * (151 * 331)))))) : Nat) = 2147483646 from rfl, Nat.gcd_eq_left hc] at this
  exact this
theorem one_none {d : Nat} (h0 : 0 < d) (hd : d < 2147483646) : ¬ One d := fun h => by
  have he := one_gcd d 2147483646 h one_all
  have hle : Nat.gcd d 2147483646 ≤ d := Nat.le_of_dvd h0 (Nat.gcd_dvd_left d _)
  obtain ⟨c, hc⟩ := Nat.gcd_dvd_right d 2147483646
  generalize Nat.gcd d 2147483646 = e at *
  have hc1 : c ≠ 1 := fun e1 => by subst e1; omega
  have fin : ∀ r q, r * q = 2147483646 → 0 < r → r ∣ c → One q := fun r q hrq hr ⟨c', hc'⟩ => by
    have : q = e * c' := by
      refine Nat.eq_of_mul_eq_mul_left hr ?_
      rw [hrq, hc, hc', ← Nat.mul_assoc, ← Nat.mul_assoc, Nat.mul_comm e r]
    rw [this]
    exact one_mul he c'
  rcases some_divides ⟨e, by rw [hc, Nat.mul_comm]⟩ hc1 with h | h | h | h | h | h | h
  · exact not_one 1073741823 (by simp) (fin 2 _ rfl (by omega) h)
  · exact not_one 715827882 (by simp) (fin 3 _ rfl (by omega) h)
  · exact not_one 306783378 (by simp) (fin 7 _ rfl (by omega) h)
  · exact not_one 195225786 (by simp) (fin 11 _ rfl (by omega) h)
  · exact not_one 69273666 (by simp) (fin 31 _ rfl (by omega) h)
  · exact not_one 14221746 (by simp) (fin 151 _ rfl (by omega) h)
  · exact not_one 6487866 (by simp) (fin 331 _ rfl (by omega) h)
theorem pow_lt {a b : Nat} (hab : a < b) (hb : b < 2147483646) : 7 ^ a % 2147483647 ≠ 7 ^ b % 2147483647 := fun h => by
  have h1 : (7 ^ (2147483646 - a) * 7 ^ a) % 2147483647 = (7 ^ (2147483646 - a) * 7 ^ b) % 2147483647 := by
    rw [Nat.mul_mod, h, ← Nat.mul_mod]
  rw [← Nat.pow_add, ← Nat.pow_add] at h1
  have h2 : 2147483646 - a + a = 2147483646 := by omega
  have h3 : 2147483646 - a + b = 2147483646 + (b - a) := by omega
  rw [h2, h3] at h1
  have h4 : One (2147483646 + (b - a)) := h1.symm.trans one_all
  exact one_none (by omega) (by omega) (one_cancel one_all h4)
theorem seven_inj {a b : Nat} (ha : a < 2147483646) (hb : b < 2147483646) (h : tpow 7 a = tpow 7 b) : a = b := by
  have e : (7 : Int) = ((7 : Nat) : Int) := rfl
  rw [e, tpow_nat, tpow_nat] at h
  have h : 7 ^ a % 2147483647 = 7 ^ b % 2147483647 := by exact_mod_cast h
  rcases Nat.lt_trichotomy a b with hlt | hlt | hlt
  · exact absurd h (pow_lt hlt hb)
  · exact hlt
  · exact absurd h.symm (pow_lt hlt ha)
theorem pos_gen {q a : Nat} (h : 7 ^ (q * a) % 2147483647 = 1) (hq : q ≠ 0) : 7 ^ a % 2147483647 ≠ 0 := fun h0 => by
  rw [Nat.mul_comm, Nat.pow_mul, Nat.pow_mod, h0, Nat.zero_pow (by omega)] at h
  simp at h
theorem seven_pos (a : Nat) : 1 ≤ tpow 7 a := by
  have e : (7 : Int) = ((7 : Nat) : Int) := rfl
  rw [e, tpow_nat]
  have h := one_mul one_all a
  unfold One at h
  generalize hq : (2147483646 : Nat) = q at h
  have := pos_gen h (by omega)
  omega
theorem mask_pos {c : Int} (n : Nat) (hc : 1 ≤ c) (hc' : c < 2147483647) : 1 ≤ tmul c (tpow 48271 n) := by
  have h0 := tmul_lo c (tpow 48271 n)
  refine Decidable.byContradiction fun h => ?_
  have h1 : tmul c (tpow 48271 n) = 0 := by omega
  have h2 := (over_iff c 0 n (by omega) hc' (by omega) (by omega)).1 h1
  have : tover 0 (tpow 48271 n) = 0 := by unfold tover tmul; simp
  omega
end Go.Proofs.Ytnklbfmdojpfkaa
