import Derived.Test.YgctajNumber
namespace Go.Proofs.Ygctaj.Field

/-- a to the power e modulo the prime, on naturals. -/
def pw (a e : Nat) : Nat := a ^ e % 998244353

theorem pw_lt (a e : Nat) : pw a e < 998244353 := Nat.mod_lt _ (by decide)

theorem pow_mod' (a e : Nat) : (a % 998244353) ^ e % 998244353 = a ^ e % 998244353 := by
  rw [← Nat.pow_mod]

theorem mul_pow_mod' (x a e : Nat) : x * (a % 998244353) ^ e % 998244353 = x * a ^ e % 998244353 := by
  rw [Nat.mul_mod, pow_mod', ← Nat.mul_mod]

/-- what a loop of PowMod keeps: R * A^E. -/
def Keeps (a e A E R : Nat) : Prop := R * A ^ E % 998244353 = a ^ e % 998244353

theorem keeps_start (a e : Nat) : Keeps a e (a % 998244353) e 1 := by
  unfold Keeps; rw [Nat.one_mul, pow_mod']

theorem keeps_odd {a e A E R : Nat} (h : Keeps a e A E R) (ho : E % 2 = 1) :
    Keeps a e (A * A % 998244353) (E / 2) (R * A % 998244353) := by
  unfold Keeps at *
  rw [← h]
  have hE : E = 2 * (E / 2) + 1 := by omega
  rw [Nat.mul_mod, pow_mod', Nat.mod_mod, ← Nat.mul_mod]
  congr 1
  conv => rhs; rw [hE, Nat.pow_succ, Nat.pow_mul, Nat.pow_two]
  rw [Nat.mul_assoc, Nat.mul_comm A]

theorem keeps_even {a e A E R : Nat} (h : Keeps a e A E R) (ho : E % 2 = 0) :
    Keeps a e (A * A % 998244353) (E / 2) R := by
  unfold Keeps at *
  rw [← h]
  have hE : E = 2 * (E / 2) := by omega
  rw [Nat.mul_mod, pow_mod', ← Nat.mul_mod]
  conv => rhs; rw [hE, Nat.pow_mul, Nat.pow_two]

theorem keeps_end {a e A R : Nat} (h : Keeps a e A 0 R) (hR : R < 998244353) : R = pw a e := by
  unfold Keeps at h; unfold pw
  rw [← h, Nat.pow_zero, Nat.mul_one, Nat.mod_eq_of_lt hR]

/-- the power by squaring, for the kernel's run. -/
def fp : Nat → Nat → Nat → Nat → Nat
  | 0, _, _, r => r
  | f + 1, a, e, r => fp f (a * a % 998244353) (e / 2) (if e % 2 = 1 then r * a % 998244353 else r)

theorem fp_eq (f : Nat) : ∀ (a e r : Nat), e < 2 ^ f → fp f a e r % 998244353 = r * a ^ e % 998244353 := by
  induction f with
  | zero => intro a e r h; obtain rfl : e = 0 := by omega
            simp [fp]
  | succ f ih =>
    intro a e r h
    rw [fp, ih _ _ _ (by rw [Nat.pow_succ] at h; omega)]
    by_cases ho : e % 2 = 1
    · rw [if_pos ho]
      have := keeps_odd (a := a) (e := e) (A := a) (E := e) (R := 1) (by unfold Keeps; simp) ho
      unfold Keeps at this
      rw [Nat.one_mul] at this
      rw [Nat.mul_mod r (a ^ e), ← this]
      simp [mul_pow_mod', Nat.mul_assoc]
    · rw [if_neg ho]
      have := keeps_even (a := a) (e := e) (A := a) (E := e) (R := 1) (by unfold Keeps; simp) (by omega)
      unfold Keeps at this
      rw [Nat.one_mul] at this
      rw [Nat.mul_mod r (a ^ e), ← this]
      simp [mul_pow_mod']

theorem pw_fp (a e : Nat) (h : e < 4294967296) : pw a e = fp 32 a e 1 % 998244353 := by
  unfold pw; rw [fp_eq 32 a e 1 (by simpa using h), Nat.one_mul]

theorem root_pow (k : Nat) (hk : k ≤ 23) : pw (pw 3 (998244352 / 2 ^ k)) (2 ^ k) = 1 := by
  have h1 : 998244352 / 2 ^ k < 4294967296 := Nat.lt_of_le_of_lt (Nat.div_le_self _ _) (by decide)
  have h2 : 2 ^ k < 4294967296 := Nat.lt_of_le_of_lt (Nat.pow_le_pow_right (by decide) hk) (by decide)
  rw [pw_fp _ _ h2, pw_fp _ _ h1]
  have key : ∀ k, k < 24 → fp 32 (fp 32 3 (998244352 / 2 ^ k) 1 % 998244353) (2 ^ k) 1 % 998244353 = 1 := by decide +kernel
  exact key k (by omega)

theorem root_half (k : Nat) (hk : k < 23) : pw (pw 3 (998244352 / 2 ^ (k + 1))) (2 ^ k) = 998244352 := by
  have h1 : 998244352 / 2 ^ (k + 1) < 4294967296 := Nat.lt_of_le_of_lt (Nat.div_le_self _ _) (by decide)
  have h2 : 2 ^ k < 4294967296 := Nat.lt_of_le_of_lt (Nat.pow_le_pow_right (by decide) (Nat.le_of_lt hk)) (by decide)
  rw [pw_fp _ _ h2, pw_fp _ _ h1]
  have key : ∀ k, k < 23 → fp 32 (fp 32 3 (998244352 / 2 ^ (k + 1)) 1 % 998244353) (2 ^ k) 1 % 998244353 = 998244352 := by decide +kernel
  exact key k hk

theorem pw_zero (a : Nat) : pw a 0 = 1 := by simp [pw]
theorem pw_succ (a e : Nat) : pw a (e + 1) = pw a e * a % 998244353 := by
  unfold pw; rw [Nat.pow_succ]; simp
theorem pw_of_zero (e : Nat) (h : e ≠ 0) : pw 0 e = 0 := by unfold pw; rw [Nat.zero_pow (by omega)]
theorem inv_zero : pw 0 998244351 = 0 := pw_of_zero _ (by decide)
theorem inv_gen (p a e : Nat) (hp : Num.Prm p) (he : e + 1 = p - 1) (h0 : 0 < a) (h1 : a < p) : a ^ (e + 1) % p = 1 := by
  rw [he]; exact hp.fermat_one a (fun hd => by have := Nat.le_of_dvd h0 hd; omega)
theorem inv_pw (a e : Nat) (h : a ^ (e + 1) % 998244353 = 1) : a * pw a e % 998244353 = 1 := by
  rw [Nat.mul_comm, ← pw_succ]; exact h
theorem inv_right (a : Nat) (h0 : 0 < a) (h1 : a < 998244353) : a * pw a 998244351 % 998244353 = 1 :=
  inv_pw a _ (inv_gen 998244353 a 998244351 Num.prime_P (by decide) h0 h1)
end Go.Proofs.Ygctaj.Field
