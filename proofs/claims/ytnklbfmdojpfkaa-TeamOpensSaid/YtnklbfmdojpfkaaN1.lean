/- Dividing modulo 2147483647 by powers of 48271, without that this number is a prime. -/
import Derived.Test.YtnklbfmdojpfkaaA2
namespace Go.Proofs.Ytnklbfmdojpfkaa
open Go Go.Oc
set_option linter.unusedVariables false
/-- Powers by squaring, to be reckoned out. -/
def pmod (m : Nat) : Nat → Nat → Nat → Nat → Nat
  | 0, _, _, o => o % m
  | f + 1, b, e, o => if e = 0 then o % m else pmod m f (b * b % m) (e / 2) (if e % 2 = 1 then o * b % m else o)
theorem pmod_eq (m : Nat) : ∀ f b e o, e < 2 ^ f → pmod m f b e o = o * b ^ e % m
  | 0, b, e, o, h => by
    have : e = 0 := by simpa using h
    subst this
    simp [pmod]
  | f + 1, b, e, o, h => by
    unfold pmod
    split
    · rename_i h0; subst h0; simp
    · have he : e = e % 2 + 2 * (e / 2) := by omega
      have hlt : e / 2 < 2 ^ f := by rw [Nat.pow_succ] at h; omega
      rw [pmod_eq m f _ _ _ hlt]
      have h1 : b ^ e = b ^ (e % 2) * (b * b) ^ (e / 2) := by
        conv => lhs; rw [he]
        rw [Nat.pow_add, Nat.pow_mul]
        congr 2
        rw [Nat.pow_succ, Nat.pow_one]
      have h2 : (b * b % m) ^ (e / 2) % m = (b * b) ^ (e / 2) % m := (Nat.pow_mod _ _ _).symm
      split
      · rename_i h3
        rw [h1, h3, Nat.pow_one, ← Nat.mul_assoc, Nat.mul_mod, h2, Nat.mod_mod, ← Nat.mul_mod]
      · have h3 : e % 2 = 0 := by omega
        rw [h1, h3, Nat.pow_zero, Nat.one_mul, Nat.mul_mod, h2, ← Nat.mul_mod]
theorem fermat_gen (q : Nat) (hq : q = 2147483646) : 48271 ^ q % 2147483647 = 1 := by
  have h := pmod_eq 2147483647 31 48271 q 1 (by omega)
  rw [Nat.one_mul] at h
  rw [← h]
  clear h
  subst hq
  decide +kernel
theorem tpow_nat (a n : Nat) : tpow (a : Int) n = ((a ^ n % 2147483647 : Nat) : Int) := by
  unfold tpow
  rw [← Int.natCast_pow]
  rfl
theorem inv_gen (n q : Nat) (hq' : ∀ q', q' = q + 1 → 48271 ^ q' % 2147483647 = 1) : tmul (tpow 48271 n) (tpow (tpow 48271 n) q) = 1 := by
  have hq := hq' (q + 1) rfl
  have e : (48271 : Int) = ((48271 : Nat) : Int) := rfl
  rw [e, tpow_nat, tpow_nat]
  unfold tmul
  rw [← Int.natCast_mul]
  have h1 : 48271 ^ n % 2147483647 * ((48271 ^ n % 2147483647) ^ q % 2147483647) % 2147483647 = 1 := by
    rw [← Nat.pow_mod, ← Nat.mul_mod, ← Nat.pow_succ', ← Nat.pow_mul, Nat.mul_comm, Nat.pow_mul, Nat.pow_mod, hq, Nat.one_pow]
  generalize 48271 ^ n % 2147483647 * ((48271 ^ n % 2147483647) ^ q % 2147483647) = z at h1
  omega
/-- The power times its power to the prime minus 2 is 1. -/
theorem mask_inv (n : Nat) : tmul (tpow 48271 n) (tpow (tpow 48271 n) 2147483645) = 1 := inv_gen n 2147483645 fun q' h => fermat_gen q' h
/-- Just one code is masked as b. -/
theorem over_iff (c b : Int) (n : Nat) (hc : 0 ≤ c) (hc' : c < 2147483647) (hb : 0 ≤ b) (hb' : b < 2147483647) : tmul c (tpow 48271 n) = b ↔ c = tover b (tpow 48271 n) := by
  have hi := mask_inv n
  unfold tover
  generalize tpow (tpow 48271 n) 2147483645 = I at *
  generalize tpow 48271 n = M at *
  unfold tmul at *
  constructor
  · intro h
    have : c * M % 2147483647 * I % 2147483647 = c := by
      rw [Int.mul_emod, Int.emod_emod, ← Int.mul_emod, Int.mul_assoc, Int.mul_emod, hi, Int.mul_one, Int.emod_emod]
      exact Int.emod_eq_of_lt hc hc'
    rw [← h, this]
  · intro h
    rw [h, Int.mul_emod, Int.emod_emod, ← Int.mul_emod, Int.mul_assoc, Int.mul_comm I M, Int.mul_emod, hi, Int.mul_one, Int.emod_emod]
    exact Int.emod_eq_of_lt hb hb'
end Go.Proofs.Ytnklbfmdojpfkaa
