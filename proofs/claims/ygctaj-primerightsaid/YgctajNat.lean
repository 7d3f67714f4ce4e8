/- Naturals in base 256, plain. -/
import Derived.Test.YgctajRows
namespace Go.Proofs.Ygctaj.Nt

/-- the value of the n digits x 0, x 1, .., the least first. -/
def val (x : Nat → Nat) : Nat → Nat
  | 0 => 0
  | n + 1 => val x n + x n * 256 ^ n

theorem val_lt (x : Nat → Nat) : ∀ n, (∀ i, i < n → x i < 256) → val x n < 256 ^ n
  | 0, _ => by simp [val]
  | n + 1, h => by
    have h1 := val_lt x n fun i hi => h i (by omega)
    have h2 := h n (by omega)
    have h3 : x n * 256 ^ n ≤ 255 * 256 ^ n := Nat.mul_le_mul_right _ (by omega)
    rw [val, Nat.pow_succ]; omega

theorem val_congr (x y : Nat → Nat) : ∀ n, (∀ i, i < n → x i = y i) → val x n = val y n
  | 0, _ => rfl
  | n + 1, h => by rw [val, val, val_congr x y n fun i hi => h i (by omega), h n (by omega)]

theorem val_append (x : Nat → Nat) (m : Nat) : ∀ n, val x (m + n) = val x m + 256 ^ m * val (fun i => x (m + i)) n
  | 0 => by simp [val]
  | n + 1 => by
    rw [← Nat.add_assoc, val, val_append x m n, val, Nat.mul_add, Nat.pow_add, Nat.add_assoc]
    congr 2
    show _ = 256 ^ m * (x (m + n) * 256 ^ n)
    rw [Nat.mul_left_comm]

theorem val_zeros (x : Nat → Nat) : ∀ n, (∀ i, i < n → x i = 0) → val x n = 0
  | 0, _ => rfl
  | n + 1, h => by rw [val, val_zeros x n fun i hi => h i (by omega), h n (by omega)]; simp

theorem val_top (x : Nat → Nat) (m n : Nat) (h : m ≤ n) (hz : ∀ i, m ≤ i → i < n → x i = 0) : val x n = val x m := by
  obtain ⟨r, rfl⟩ := Nat.exists_eq_add_of_le h
  rw [val_append, val_zeros (fun i => x (m + i)) r fun i hi => hz (m + i) (by omega) (by omega)]; simp

theorem val_inj (x y : Nat → Nat) : ∀ n, (∀ i, i < n → x i < 256) → (∀ i, i < n → y i < 256) → val x n = val y n → ∀ i, i < n → x i = y i
  | 0, _, _, _ => fun i hi => by omega
  | n + 1, hx, hy, h => by
    have h1 := val_lt x n fun i hi => hx i (by omega)
    have h2 := val_lt y n fun i hi => hy i (by omega)
    rw [val, val] at h
    have hp : 0 < 256 ^ n := Nat.pow_pos (by decide)
    have e1 : (val x n + x n * 256 ^ n) / 256 ^ n = x n := by rw [Nat.add_mul_div_right _ _ hp, Nat.div_eq_of_lt h1, Nat.zero_add]
    have e2 : (val y n + y n * 256 ^ n) / 256 ^ n = y n := by rw [Nat.add_mul_div_right _ _ hp, Nat.div_eq_of_lt h2, Nat.zero_add]
    have e : x n = y n := by rw [← e1, h, e2]
    have e3 : val x n = val y n := by rw [e] at h; omega
    intro i hi
    by_cases hin : i = n
    · rw [hin]; exact e
    · exact val_inj x y n (fun i hi => hx i (by omega)) (fun i hi => hy i (by omega)) e3 i (by omega)

/-- how many digits N has. -/
def dl (N : Nat) : Nat := if h : N = 0 then 0 else dl (N / 256) + 1
decreasing_by exact Nat.div_lt_self (by omega) (by decide)

theorem dl_zero : dl 0 = 0 := by rw [dl]; simp
theorem dl_pos {N : Nat} (h : N ≠ 0) : dl N = dl (N / 256) + 1 := by rw [dl, dif_neg h]

theorem lt_dl (N : Nat) : N < 256 ^ dl N := by
  induction N using Nat.strongRecOn with
  | _ N ih =>
    by_cases h : N = 0
    · subst h; simp [dl_zero]
    · rw [dl_pos h, Nat.pow_succ]
      have := ih (N / 256) (Nat.div_lt_self (by omega) (by decide))
      omega

theorem dl_le (n : Nat) : ∀ N, N < 256 ^ n → dl N ≤ n := by
  induction n with
  | zero => intro N h; simp at h; subst h; simp [dl_zero]
  | succ n ih =>
    intro N h
    by_cases h0 : N = 0
    · subst h0; simp [dl_zero]
    · rw [dl_pos h0]
      have := ih (N / 256) (by rw [Nat.pow_succ] at h; omega)
      omega

theorem dl_mono {M N : Nat} (h : M ≤ N) : dl M ≤ dl N := dl_le _ _ (Nat.lt_of_le_of_lt h (lt_dl N))
theorem dl_eq_zero {N : Nat} : dl N = 0 ↔ N = 0 := by
  constructor
  · intro h; have := lt_dl N; rw [h] at this; simpa using this
  · intro h; subst h; exact dl_zero
theorem le_of_dl {N n : Nat} (h : n < dl N) : 256 ^ n ≤ N := by
  rcases Nat.lt_or_ge N (256 ^ n) with h' | h'
  · have := dl_le n N h'; omega
  · exact h'

/-- the top digit is no zero: then the count is N's own. -/
theorem dl_val (x : Nat → Nat) (n : Nat) (hx : ∀ i, i < n → x i < 256) (h : n = 0 ∨ x (n - 1) ≠ 0) : dl (val x n) = n := by
  refine Nat.le_antisymm (dl_le _ _ (val_lt x n hx)) ?_
  rcases h with rfl | h
  · omega
  · rcases Nat.lt_or_ge (dl (val x n)) n with h' | h'
    · exfalso
      obtain ⟨m, rfl⟩ : ∃ m, n = m + 1 := ⟨n - 1, by omega⟩
      simp at h
      have h1 := lt_dl (val x (m + 1))
      have h2 : 256 ^ dl (val x (m + 1)) ≤ 256 ^ m := Nat.pow_le_pow_right (by decide) (by omega)
      have h3 : 1 * 256 ^ m ≤ x m * 256 ^ m := Nat.mul_le_mul_right _ (by omega)
      have h4 : val x (m + 1) = val x m + x m * 256 ^ m := rfl
      omega
    · exact h'

/-- digit i of N. -/
def dg (N i : Nat) : Nat := N / 256 ^ i % 256
theorem dg_lt (N i : Nat) : dg N i < 256 := Nat.mod_lt _ (by decide)
theorem val_dg (N : Nat) : ∀ n, val (dg N) n = N % 256 ^ n
  | 0 => by simp [val, Nat.mod_one]
  | n + 1 => by rw [val, val_dg N n, dg, Nat.mod_pow_succ, Nat.mul_comm]
theorem val_dg_dl (N : Nat) : val (dg N) (dl N) = N := by rw [val_dg]; exact Nat.mod_eq_of_lt (lt_dl N)
theorem dg_val (x : Nat → Nat) (n : Nat) (hx : ∀ i, i < n → x i < 256) : ∀ i, i < n → dg (val x n) i = x i :=
  fun i hi => val_inj _ _ n (fun i _ => dg_lt _ i) hx (by rw [val_dg]; exact Nat.mod_eq_of_lt (val_lt x n hx)) i hi
theorem dg_top (N : Nat) (h : N ≠ 0) : dg N (dl N - 1) ≠ 0 := by
  have h0 : dl N ≠ 0 := fun e => h (dl_eq_zero.1 e)
  have h1 := le_of_dl (N := N) (n := dl N - 1) (by omega)
  have h2 := lt_dl N
  have e : 256 ^ dl N = 256 ^ (dl N - 1) * 256 := by rw [← Nat.pow_succ]; congr 1; omega
  rw [e] at h2
  unfold dg
  have h3 : 1 ≤ N / 256 ^ (dl N - 1) := (Nat.le_div_iff_mul_le (Nat.pow_pos (by decide))).2 (by omega)
  have h4 : N / 256 ^ (dl N - 1) < 256 := Nat.div_lt_of_lt_mul h2
  omega
theorem dg_zero_top (N m : Nat) (h : N < 256 ^ (m + 1)) (hz : dg N m = 0) : N < 256 ^ m := by
  unfold dg at hz
  have h1 : N / 256 ^ m < 256 := Nat.div_lt_of_lt_mul (by rw [← Nat.pow_succ]; exact h)
  have h2 : N / 256 ^ m = 0 := by generalize N / 256 ^ m = q at *; omega
  exact (Nat.div_eq_zero_iff.1 h2).resolve_left (by have : 0 < 256 ^ m := Nat.pow_pos (by decide); omega)
theorem dl_top (N m : Nat) (h : N < 256 ^ (m + 1)) (hz : dg N m ≠ 0) : dl N = m + 1 := by
  refine Nat.le_antisymm (dl_le _ _ h) ?_
  rcases Nat.lt_or_ge (dl N) (m + 1) with h' | h'
  · exfalso
    refine hz ?_
    unfold dg
    have h1 := lt_dl N
    have h2 : 256 ^ dl N ≤ 256 ^ m := Nat.pow_le_pow_right (by decide) (by omega)
    rw [Nat.div_eq_of_lt (by omega)]
  · exact h'
theorem val_upd (x : Nat → Nat) (k v : Nat) : ∀ n, k < n → val (fun j => if j = k then v else x j) n + x k * 256 ^ k = val x n + v * 256 ^ k
  | 0, h => by omega
  | n + 1, h => by
    rw [val, val]
    by_cases e : k = n
    · subst e
      rw [if_pos rfl, val_congr _ x k (fun i hi => if_neg (by omega))]; omega
    · rw [if_neg (by omega)]
      have := val_upd x k v n (by omega)
      omega
end Go.Proofs.Ygctaj.Nt
