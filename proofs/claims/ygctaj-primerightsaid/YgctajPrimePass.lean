/- Plain: primes pass the strong tests; small numbers. -/
import Derived.Test.YgctajPrimeSieve
namespace Go.Proofs.Ygctaj.Pq
open Num
set_option linter.unusedVariables false

theorem sq_one {n x : Nat} (hn : Prm n) (h : x ^ 2 % n = 1) : x % n = 1 ∨ x % n = n - 1 := by
  have h2 := hn.1
  rw [Nat.pow_mod] at h
  have hy := Nat.mod_lt x hn.pos
  generalize x % n = y at *
  rcases Nat.eq_zero_or_pos y with h0 | h0
  · subst h0; rw [Nat.pow_two, Nat.mul_zero, Nat.zero_mod] at h; omega
  · obtain ⟨z, rfl⟩ : ∃ z, y = z + 1 := ⟨y - 1, by omega⟩
    have hd : n ∣ z * (z + 2) := by
      have e : (z + 1) ^ 2 = z * (z + 2) + 1 := by grind
      rw [e] at h
      have h3 : (z * (z + 2) + 1) % n = (0 + 1) % n := by rw [h, Nat.zero_add, one_mod h2]
      have h4 := Nat.div_add_mod (z * (z + 2) + 1) n
      rw [h] at h4
      exact ⟨(z * (z + 2) + 1) / n, by omega⟩
    rcases hn.euclid hd with h3 | h3
    · left
      rcases Nat.eq_zero_or_pos z with h4 | h4
      · omega
      · have := Nat.le_of_dvd h4 h3; omega
    · right
      have := Nat.le_of_dvd (by omega) h3
      omega
theorem prm_pass {n a d s : Nat} (hn : Prm n) (ha : ¬ n ∣ a) (e : n - 1 = d * 2 ^ s) : a ^ d % n = 1 ∨ ∃ r, r < s ∧ a ^ (d * 2 ^ r) % n = n - 1 := by
  have hf := hn.fermat_one a ha
  rw [e] at hf
  clear e
  induction s with
  | zero => rw [Nat.pow_zero, Nat.mul_one] at hf; exact .inl hf
  | succ s ih =>
    rw [Nat.pow_succ, ← Nat.mul_assoc, Nat.pow_mul] at hf
    rcases sq_one hn hf with h | h
    · rcases ih h with h1 | ⟨r, hr, h1⟩
      · exact .inl h1
      · exact .inr ⟨r, by omega, h1⟩
    · exact .inr ⟨s, by omega, h⟩

/-- no factor up to 41, and below 43*43: a prime. -/
theorem prm_below {n : Nat} (h2 : 2 ≤ n) (hl : n < 1849) (hc : ∀ a ∈ bases, n % a ≠ 0) : Prm n := by
  refine prm_of h2 fun d hd1 hd2 hd3 => ?_
  have hd43 : d < 43 := by
    rcases Nat.lt_or_ge d 43 with h | h
    · exact h
    · have := Nat.mul_le_mul h h; omega
  obtain ⟨p, hp, hpd⟩ := prm_factor d hd1
  have h3 : Nat.gcd p PRM ≠ 1 := by
    have h4 : ∀ r, r < 43 → 2 ≤ r → Nat.gcd r PRM ≠ 1 := by decide +kernel
    have := Nat.le_of_dvd (by omega) hpd
    exact h4 p (by omega) hp.1
  have h5 : p ∣ PRM := by
    rcases hp.2 _ (Nat.gcd_dvd_left p PRM) with h | h
    · exact absurd h h3
    · rw [← h]; exact Nat.gcd_dvd_right _ _
  exact hc p (base_of hp h5) (Nat.mod_eq_zero_of_dvd (Nat.dvd_trans hpd (Nat.dvd_of_mod_eq_zero hd3)))
/-- no factor up to 41. -/
theorem cop_of {n : Nat} (hc : ∀ a ∈ bases, n % a ≠ 0) : Nat.gcd n PRM = 1 := by
  rcases Nat.lt_or_ge (Nat.gcd n PRM) 2 with h | h
  · have : 0 < Nat.gcd n PRM := Nat.gcd_pos_of_pos_right _ (by decide)
    omega
  · obtain ⟨p, hp, hd⟩ := prm_factor _ h
    exact absurd (Nat.mod_eq_zero_of_dvd (Nat.dvd_trans hd (Nat.gcd_dvd_left _ _))) (hc p (base_of hp (Nat.dvd_trans hd (Nat.gcd_dvd_right _ _))))
theorem base_is : ∀ p ∈ bases, Prm p := fun p hp => by
  refine ⟨?_, fun d hd => ?_⟩
  · have : ∀ p ∈ bases, 2 ≤ p := by decide
    exact this p hp
  · have h := base_le p hp
    exact base_prm p hp d (by have := Nat.le_of_dvd h.1 hd; omega) hd
theorem not_prm_of {n p : Nat} (hp : p ∈ bases) (hn : n ≠ p) (h : n % p = 0) : ¬ Prm n := fun h1 => by
  have h2 := (base_is p hp).1
  rcases h1.2 p (Nat.dvd_of_mod_eq_zero h) with h3 | h3
  · omega
  · exact hn h3.symm
end Go.Proofs.Ygctaj.Pq
