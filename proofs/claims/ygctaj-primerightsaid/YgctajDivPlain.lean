/- division by Newton's reciprocal: plain. -/
import Derived.Test.YgctajNat
namespace Go.Proofs.Ygctaj.Nt

/-- what 'lead' gives. -/
def ld (N k : Nat) : Nat := if dl N ≤ k then N * 256 ^ (k - dl N) else N / 256 ^ (dl N - k) + 1

theorem pp (n : Nat) : 0 < 256 ^ n := Nat.pow_pos (by decide)
theorem lt_up (N q : Nat) : N < (N / 256 ^ q + 1) * 256 ^ q := by
  rw [Nat.add_mul, Nat.one_mul]
  have h1 := Nat.div_add_mod N (256 ^ q)
  have h2 := Nat.mod_lt N (pp q)
  rw [Nat.mul_comm] at h1
  omega

theorem ld_step (N k j : Nat) : ld N (k + j) ≤ ld N k * 256 ^ j := by
  unfold ld
  by_cases h1 : dl N ≤ k
  · rw [if_pos h1, if_pos (by omega), Nat.mul_assoc, ← Nat.pow_add, show k - dl N + j = k + j - dl N from by omega]
    exact Nat.le_refl _
  · rw [if_neg h1]
    by_cases h2 : dl N ≤ k + j
    · rw [if_pos h2]
      have h3 := lt_up N (dl N - k)
      have h4 := Nat.mul_le_mul_right (256 ^ (k + j - dl N)) (Nat.le_of_lt h3)
      rwa [Nat.mul_assoc, ← Nat.pow_add, show dl N - k + (k + j - dl N) = j from by omega] at h4
    · rw [if_neg h2]
      have h3 := lt_up N (dl N - k)
      have e : 256 ^ (dl N - k) = 256 ^ j * 256 ^ (dl N - (k + j)) := by rw [← Nat.pow_add]; congr 1; omega
      generalize N / 256 ^ (dl N - k) + 1 = u at *
      rw [e, ← Nat.mul_assoc] at h3
      exact (Nat.div_lt_iff_lt_mul (pp _)).2 h3

theorem ld_unit (N k : Nat) : N * 256 ^ k ≤ ld N k * 256 ^ dl N := by
  unfold ld
  by_cases h1 : dl N ≤ k
  · rw [if_pos h1, Nat.mul_assoc, ← Nat.pow_add, show k - dl N + dl N = k from by omega]
    exact Nat.le_refl _
  · rw [if_neg h1]
    have h3 := lt_up N (dl N - k)
    have e : 256 ^ dl N = 256 ^ (dl N - k) * 256 ^ k := by rw [← Nat.pow_add]; congr 1; omega
    rw [e, ← Nat.mul_assoc]
    exact Nat.mul_le_mul_right _ (Nat.le_of_lt h3)

theorem ld_low (N k : Nat) (hN : N ≠ 0) (hk : 0 < k) : 256 ^ (k - 1) ≤ ld N k := by
  have hd : 0 < dl N := Nat.pos_of_ne_zero fun h => hN (dl_eq_zero.1 h)
  have h0 : 256 ^ (dl N - 1) ≤ N := le_of_dl (by omega)
  unfold ld
  by_cases h1 : dl N ≤ k
  · rw [if_pos h1]
    have := Nat.mul_le_mul_right (256 ^ (k - dl N)) h0
    rwa [← Nat.pow_add, show dl N - 1 + (k - dl N) = k - 1 from by omega] at this
  · rw [if_neg h1]
    have : 256 ^ (k - 1) ≤ N / 256 ^ (dl N - k) := (Nat.le_div_iff_mul_le (pp _)).2 (by rw [← Nat.pow_add, show k - 1 + (dl N - k) = dl N - 1 from by omega]; exact h0)
    omega
theorem ld_high (N k : Nat) : ld N k ≤ 256 ^ k := by
  have h0 := lt_dl N
  unfold ld
  by_cases h1 : dl N ≤ k
  · rw [if_pos h1]
    have := Nat.mul_le_mul_right (256 ^ (k - dl N)) (Nat.le_of_lt h0)
    rwa [← Nat.pow_add, show dl N + (k - dl N) = k from by omega] at this
  · rw [if_neg h1]
    exact (Nat.div_lt_iff_lt_mul (pp _)).2 (by rw [← Nat.pow_add, show k + (dl N - k) = dl N from by omega]; exact h0)

/-- what 'refine' gives. -/
def rf (D X p k : Nat) : Nat := X * 256 ^ k + X * ((256 ^ (2 * p) - D * X * 256 ^ k) / 256 ^ (p - 2)) / 256 ^ (2 * p - k - (p - 2))

theorem sq_le (A R : Nat) (h : A ≤ R) : A * (R + (R - A)) ≤ R * R := by
  obtain ⟨d, rfl⟩ : ∃ d, R = A + d := ⟨R - A, by omega⟩
  rw [Nat.add_sub_cancel_left, Nat.add_mul, Nat.mul_add, Nat.mul_add, Nat.mul_add]
  have h1 : A * d = d * A := Nat.mul_comm _ _
  omega

theorem rf_ok (D X p k : Nat) (hp : 2 ≤ p) (hk : k + 2 ≤ p) (h : D * X * 256 ^ k ≤ 256 ^ (2 * p)) : rf D X p k * D ≤ 256 ^ (2 * p) := by
  unfold rf
  generalize hR : 256 ^ (2 * p) = R at *
  have hR0 : 0 < R := by rw [← hR]; exact pp _
  generalize hY : X * 256 ^ k = Y
  have hDY : D * X * 256 ^ k = D * Y := by rw [← hY, Nat.mul_assoc]
  rw [hDY] at h ⊢
  generalize he : R - D * Y = e
  generalize hst : X * (e / 256 ^ (p - 2)) / 256 ^ (2 * p - k - (p - 2)) = st
  have h1 : st * 256 ^ (2 * p - k - (p - 2)) ≤ X * (e / 256 ^ (p - 2)) := by rw [← hst]; exact Nat.div_mul_le_self _ _
  have h2 : e / 256 ^ (p - 2) * 256 ^ (p - 2) ≤ e := Nat.div_mul_le_self _ _
  have h3 : st * R ≤ Y * e := by
    have e1 : R = 256 ^ (2 * p - k - (p - 2)) * 256 ^ (p - 2) * 256 ^ k := by rw [← hR, ← Nat.pow_add, ← Nat.pow_add]; congr 1; omega
    calc st * R = st * 256 ^ (2 * p - k - (p - 2)) * 256 ^ (p - 2) * 256 ^ k := by rw [e1]; simp only [Nat.mul_assoc]
      _ ≤ X * (e / 256 ^ (p - 2)) * 256 ^ (p - 2) * 256 ^ k := Nat.mul_le_mul_right _ (Nat.mul_le_mul_right _ h1)
      _ = X * (e / 256 ^ (p - 2) * 256 ^ (p - 2)) * 256 ^ k := by simp only [Nat.mul_assoc]
      _ ≤ X * e * 256 ^ k := Nat.mul_le_mul_right _ (Nat.mul_le_mul_left _ h2)
      _ = Y * e := by rw [← hY]; simp only [Nat.mul_assoc, Nat.mul_comm e]
  have h4 : (Y + st) * D * R ≤ R * R := by
    calc (Y + st) * D * R = D * Y * R + D * (st * R) := by
          rw [Nat.add_mul, Nat.add_mul, Nat.mul_comm Y D, Nat.mul_comm st D, Nat.mul_assoc D st]
      _ ≤ D * Y * R + D * (Y * e) := Nat.add_le_add_left (Nat.mul_le_mul_left _ h3) _
      _ = D * Y * (R + (R - D * Y)) := by rw [he, Nat.mul_add, Nat.mul_assoc D Y e]
      _ ≤ R * R := sq_le _ _ h
  exact Nat.le_of_mul_le_mul_right h4 hR0

theorem rf_arg (N X h k : Nat) (hx : X * ld N h ≤ 256 ^ (2 * h)) : ld N (h + k) * X * 256 ^ k ≤ 256 ^ (2 * (h + k)) := by
  calc ld N (h + k) * X * 256 ^ k ≤ ld N h * 256 ^ k * X * 256 ^ k := Nat.mul_le_mul_right _ (Nat.mul_le_mul_right _ (ld_step N h k))
    _ = X * ld N h * (256 ^ k * 256 ^ k) := by simp only [Nat.mul_assoc, Nat.mul_comm, Nat.mul_left_comm]
    _ ≤ 256 ^ (2 * h) * (256 ^ k * 256 ^ k) := Nat.mul_le_mul_right _ hx
    _ = 256 ^ (2 * (h + k)) := by rw [← Nat.pow_add, ← Nat.pow_add]; congr 1; omega

/-- the quotient is never too great. -/
theorem quo_le (A B X L lb p d : Nat) (hd : d ≤ lb) (h1 : B * 256 ^ p ≤ L * 256 ^ lb) (h2 : X * L ≤ 256 ^ (2 * p)) : A / 256 ^ d * X / 256 ^ (lb + p - d) * B ≤ A := by
  generalize hq : A / 256 ^ d * X / 256 ^ (lb + p - d) = q
  have g1 : q * 256 ^ (lb + p - d) ≤ A / 256 ^ d * X := by rw [← hq]; exact Nat.div_mul_le_self _ _
  have g2 : A / 256 ^ d * 256 ^ d ≤ A := Nat.div_mul_le_self _ _
  have g3 : q * 256 ^ (lb + p) ≤ A * X := by
    have e1 : 256 ^ (lb + p) = 256 ^ (lb + p - d) * 256 ^ d := by rw [← Nat.pow_add]; congr 1; omega
    calc q * 256 ^ (lb + p) = q * 256 ^ (lb + p - d) * 256 ^ d := by rw [e1, Nat.mul_assoc]
      _ ≤ A / 256 ^ d * X * 256 ^ d := Nat.mul_le_mul_right _ g1
      _ = A / 256 ^ d * 256 ^ d * X := by rw [Nat.mul_assoc, Nat.mul_comm X, ← Nat.mul_assoc]
      _ ≤ A * X := Nat.mul_le_mul_right _ g2
  have g4 : q * B * 256 ^ (lb + 2 * p) ≤ A * 256 ^ (lb + 2 * p) := by
    calc q * B * 256 ^ (lb + 2 * p) = q * 256 ^ (lb + p) * (B * 256 ^ p) := by
          rw [show lb + 2 * p = (lb + p) + p from by omega, Nat.pow_add]; simp only [Nat.mul_assoc, Nat.mul_comm, Nat.mul_left_comm]
      _ ≤ A * X * (L * 256 ^ lb) := Nat.mul_le_mul g3 h1
      _ = A * 256 ^ lb * (X * L) := by simp only [Nat.mul_assoc, Nat.mul_comm, Nat.mul_left_comm]
      _ ≤ A * 256 ^ lb * 256 ^ (2 * p) := Nat.mul_le_mul_left _ h2
      _ = A * 256 ^ (lb + 2 * p) := by rw [Nat.mul_assoc, ← Nat.pow_add]
  exact Nat.le_of_mul_le_mul_right g4 (pp _)

/-- the reciprocal's length. -/
theorem x_lt (N X p : Nat) (hN : N ≠ 0) (hp : 0 < p) (h : X * ld N p ≤ 256 ^ (2 * p)) : X < 256 ^ (p + 2) := by
  have h1 := ld_low N p hN hp
  have h2 : X * 256 ^ (p - 1) ≤ 256 ^ (2 * p) := Nat.le_trans (Nat.mul_le_mul_left _ h1) h
  have e : 256 ^ (2 * p) = 256 ^ (p + 1) * 256 ^ (p - 1) := by rw [← Nat.pow_add]; congr 1; omega
  rw [e] at h2
  have h3 := Nat.le_of_mul_le_mul_right h2 (pp _)
  exact Nat.lt_of_le_of_lt h3 (Nat.pow_lt_pow_right (by decide) (by omega))
end Go.Proofs.Ygctaj.Nt
