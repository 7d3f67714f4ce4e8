/- Plain number theory: primes, Euclid's lemma, Fermat's little theorem. No Go in sight. -/
namespace Go.Proofs.Ygctaj.Num

/-- p is a prime. -/
def Prm (p : Nat) : Prop := 2 ≤ p ∧ ∀ d, d ∣ p → d = 1 ∨ d = p

theorem Prm.pos {p : Nat} (h : Prm p) : 0 < p := by have := h.1; omega

theorem Prm.coprime {p a : Nat} (h : Prm p) (ha : ¬ p ∣ a) : Nat.gcd p a = 1 := by
  rcases h.2 _ (Nat.gcd_dvd_left p a) with h1 | h1
  · exact h1
  · exact absurd (h1 ▸ Nat.gcd_dvd_right p a) ha

theorem Prm.euclid {p a b : Nat} (h : Prm p) (hab : p ∣ a * b) : p ∣ a ∨ p ∣ b := by
  by_cases ha : p ∣ a
  · exact .inl ha
  · exact .inr (Nat.Coprime.dvd_of_dvd_mul_left (h.coprime ha) hab)

/-- binomial coefficients. -/
def C : Nat → Nat → Nat
  | _, 0 => 1
  | 0, _ + 1 => 0
  | n + 1, k + 1 => C n k + C n (k + 1)

theorem C_zero (n : Nat) : C n 0 = 1 := by cases n <;> rfl

theorem C_over : ∀ n k : Nat, n < k → C n k = 0
  | 0, 0, h => by omega
  | 0, _ + 1, _ => rfl
  | n + 1, 0, h => by omega
  | n + 1, k + 1, h => by rw [C, C_over n k (by omega), C_over n (k + 1) (by omega)]

theorem C_self : ∀ n : Nat, C n n = 1
  | 0 => rfl
  | n + 1 => by rw [C, C_self n, C_over n (n + 1) (by omega)]

theorem C_absorb : ∀ n k : Nat, (k + 1) * C (n + 1) (k + 1) = (n + 1) * C n k
  | 0, 0 => rfl
  | 0, k + 1 => by simp [C]
  | n + 1, 0 => by
    have h := C_absorb n 0
    rw [C_zero] at *
    rw [C, C_zero]; omega
  | n + 1, k + 1 => by
    have h1 := C_absorb n k
    have h2 := C_absorb n (k + 1)
    have e1 : C (n + 1 + 1) (k + 1 + 1) = C (n + 1) (k + 1) + C (n + 1) (k + 1 + 1) := rfl
    have e2 : C (n + 1) (k + 1) = C n k + C n (k + 1) := rfl
    rw [e1, Nat.mul_add, h2, Nat.add_mul (k + 1) 1, h1, e2]
    grind

/-- the sum of f i for i < n. -/
def sm (f : Nat → Nat) : Nat → Nat
  | 0 => 0
  | n + 1 => sm f n + f n

theorem sm_add (f g : Nat → Nat) : ∀ n, sm (fun i => f i + g i) n = sm f n + sm g n
  | 0 => rfl
  | n + 1 => by simp only [sm, sm_add f g n]; omega

theorem sm_congr (f g : Nat → Nat) : ∀ n, (∀ i, i < n → f i = g i) → sm f n = sm g n
  | 0, _ => rfl
  | n + 1, h => by simp only [sm]; rw [sm_congr f g n (fun i hi => h i (by omega)), h n (by omega)]

theorem sm_head (f : Nat → Nat) : ∀ n, sm f (n + 1) = f 0 + sm (fun i => f (i + 1)) n
  | 0 => by simp [sm]
  | n + 1 => by rw [sm, sm_head f n]; simp only [sm]; omega

theorem sm_mul (c : Nat) (f : Nat → Nat) : ∀ n, c * sm f n = sm (fun i => c * f i) n
  | 0 => rfl
  | n + 1 => by simp only [sm]; rw [Nat.mul_add, sm_mul c f n]

theorem sm_dvd (p : Nat) (f : Nat → Nat) : ∀ n, (∀ i, i < n → p ∣ f i) → p ∣ sm f n
  | 0, _ => Nat.dvd_zero _
  | n + 1, h => Nat.dvd_add (sm_dvd p f n (fun i hi => h i (by omega))) (h n (by omega))

theorem binomial (a : Nat) : ∀ n, (a + 1) ^ n = sm (fun k => C n k * a ^ k) (n + 1)
  | 0 => by simp [sm, C]
  | n + 1 => by
    rw [Nat.pow_succ, binomial a n, sm_head _ (n + 1)]
    have e : sm (fun i => C (n + 1) (i + 1) * a ^ (i + 1)) (n + 1) = sm (fun i => C n i * a ^ (i + 1)) (n + 1) + sm (fun i => C n (i + 1) * a ^ (i + 1)) (n + 1) := by
      rw [← sm_add]; exact sm_congr _ _ _ fun i _ => by rw [C, Nat.add_mul]
    rw [e]
    have e2 : sm (fun i => C n i * a ^ (i + 1)) (n + 1) = a * sm (fun k => C n k * a ^ k) (n + 1) := by
      rw [sm_mul]; exact sm_congr _ _ _ fun i _ => by rw [Nat.pow_succ]; grind
    have e3 : sm (fun i => C n (i + 1) * a ^ (i + 1)) (n + 1) + C (n + 1) 0 * a ^ 0 = sm (fun k => C n k * a ^ k) (n + 1) := by
      have h1 := sm_head (fun k => C n k * a ^ k) (n + 1)
      have h2 : sm (fun k => C n k * a ^ k) (n + 1 + 1) = sm (fun k => C n k * a ^ k) (n + 1) := by
        rw [sm, C_over n (n + 1) (by omega)]; simp
      rw [h2] at h1
      rw [h1, C_zero, C_zero]; omega
    rw [e2]
    generalize sm (fun k => C n k * a ^ k) (n + 1) = s at *
    rw [← e3]; grind

theorem Prm.dvd_C {p : Nat} (h : Prm p) (k : Nat) (h0 : 0 < k) (h1 : k < p) : p ∣ C p k := by
  obtain ⟨j, rfl⟩ := Nat.exists_eq_succ_of_ne_zero (show k ≠ 0 by omega)
  obtain ⟨n, rfl⟩ := Nat.exists_eq_succ_of_ne_zero (show p ≠ 0 by omega)
  have e := C_absorb n j
  have hd : n.succ ∣ (j + 1) * C n.succ j.succ := e ▸ Nat.dvd_mul_right _ _
  rcases h.euclid hd with h2 | h2
  · have := Nat.le_of_dvd (by omega) h2; omega
  · exact h2

/-- FERMAT: a^p = a modulo a prime p. -/
theorem Prm.fermat {p : Nat} (h : Prm p) (a : Nat) : a ^ p % p = a % p := by
  induction a with
  | zero => have := h.1; rw [Nat.zero_pow (by omega)]
  | succ a ih =>
    have hp := h.1
    obtain ⟨n, rfl⟩ := Nat.exists_eq_succ_of_ne_zero (show p ≠ 0 by omega)
    rw [binomial, sm_head, sm]
    have hd : n.succ ∣ sm (fun i => C n.succ (i + 1) * a ^ (i + 1)) n :=
      sm_dvd _ _ _ fun i hi => Nat.dvd_trans (h.dvd_C (i + 1) (by omega) (by omega)) (Nat.dvd_mul_right _ _)
    have e : C n.succ (n + 1) = 1 := C_self _
    rw [C_zero, e]
    obtain ⟨q, hq⟩ := hd
    rw [hq]
    have e2 : 1 * a ^ 0 + (n.succ * q + 1 * a ^ (n + 1)) = n.succ * q + (1 + a ^ n.succ) := by simp; omega
    rw [e2, Nat.mul_add_mod, Nat.add_mod, ih, ← Nat.add_mod, Nat.add_comm]

theorem Prm.fermat_one {p : Nat} (h : Prm p) (a : Nat) (ha : ¬ p ∣ a) : a ^ (p - 1) % p = 1 := by
  have hp := h.1
  have hf := h.fermat a
  have hs : p ∣ a * (a ^ (p - 1) - 1) := by
    rw [Nat.mul_sub, Nat.mul_one]
    have e : a * a ^ (p - 1) = a ^ p := by
      rw [Nat.mul_comm, ← Nat.pow_succ]; congr 1; omega
    rw [e]
    exact Nat.dvd_of_mod_eq_zero (Nat.sub_mod_eq_zero_of_mod_eq hf)
  have h1 : 1 ≤ a ^ (p - 1) := Nat.pos_of_ne_zero (by
    intro h0
    have := Nat.pow_eq_zero.1 h0
    rw [this.1] at ha; exact ha (Nat.dvd_zero p))
  rcases h.euclid hs with h2 | h2
  · exact absurd h2 ha
  · obtain ⟨q, hq⟩ := h2
    have e : a ^ (p - 1) = p * q + 1 := by omega
    rw [e, Nat.mul_add_mod, Nat.mod_eq_of_lt (by omega)]

/-- no divisor from 2 up to the root: a prime. -/
theorem prm_of {n : Nat} (h2 : 2 ≤ n) (h : ∀ d, 2 ≤ d → d * d ≤ n → n % d ≠ 0) : Prm n := by
  refine ⟨h2, fun d hd => ?_⟩
  obtain ⟨e, he⟩ := hd
  have hd0 : d ≠ 0 := by rintro rfl; omega
  have he0 : e ≠ 0 := by rintro rfl; omega
  by_cases h1 : d = 1
  · exact .inl h1
  · right
    by_cases h3 : e = 1
    · rw [he, h3, Nat.mul_one]
    · exfalso
      rcases Nat.le_total d e with hle | hle
      · exact h d (by omega) (by rw [he]; exact Nat.mul_le_mul_left _ hle) (by rw [he]; exact Nat.mul_mod_right _ _)
      · exact h e (by omega) (by rw [he]; exact Nat.mul_le_mul_right _ hle) (by rw [he]; exact Nat.mul_mod_left _ _)

/-- none of the 2^f numbers from d on divides n. -/
def clear2 (n : Nat) : Nat → Nat → Bool
  | 0, d => n % d != 0
  | f + 1, d => clear2 n f d && clear2 n f (d + 2 ^ f)

theorem clear2_spec (n : Nat) : ∀ (f d : Nat), clear2 n f d = true → ∀ x, d ≤ x → x < d + 2 ^ f → n % x ≠ 0
  | 0, d, h, x, h1, h2 => by
    obtain rfl : x = d := by simp at h2; omega
    simpa [clear2] using h
  | f + 1, d, h, x, h1, h2 => by
    rw [clear2, Bool.and_eq_true] at h
    rw [Nat.pow_succ] at h2
    by_cases hx : x < d + 2 ^ f
    · exact clear2_spec n f d h.1 x h1 hx
    · exact clear2_spec n f (d + 2 ^ f) h.2 x (by omega) (by omega)

theorem prime_P : Prm 998244353 := by
  refine prm_of (by decide) fun d h2 hd => ?_
  have hlt : d < 2 + 2 ^ 15 := by
    rcases Nat.lt_or_ge d 31596 with h | h
    · omega
    · have := Nat.mul_le_mul h h; omega
  exact clear2_spec 998244353 15 2 (by decide +kernel) d h2 hlt
end Go.Proofs.Ygctaj.Num
