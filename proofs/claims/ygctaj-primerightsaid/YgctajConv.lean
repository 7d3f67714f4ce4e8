/- The convolution of digits, plain. -/
import Derived.Test.YgctajDft
namespace Go.Proofs.Ygctaj.Dft

/-- what the double loop has gathered behind i rows. -/
def cvN (x y : Nat → Nat) (b : Nat) : Nat → Nat → Nat
  | 0, _ => 0
  | i + 1, l => cvN x y b i l + (if i ≤ l ∧ l < i + b then x i * y (l - i) else 0)

theorem cvN_toF (x y : Nat → Nat) (b : Nat) : ∀ i l, toF (cvN x y b i l) = cv (fun i => toF (x i)) (fun i => toF (y i)) b i l
  | 0, _ => rfl
  | i + 1, l => by
    rw [cvN, cv, toF_add, cvN_toF x y b i l]
    split
    · rw [toF_mul]
    · rfl

theorem cvN_le (x y : Nat → Nat) (b M N : Nat) : ∀ i l, (∀ j, j < i → x j ≤ M) → (∀ j, j < b → y j ≤ N) → cvN x y b i l ≤ i * (M * N)
  | 0, _, _, _ => by simp [cvN]
  | i + 1, l, hx, hy => by
    have h1 := cvN_le x y b M N i l (fun j hj => hx j (by omega)) hy
    rw [cvN, Nat.add_mul, Nat.one_mul]
    refine Nat.add_le_add h1 ?_
    split
    · rename_i h; exact Nat.mul_le_mul (hx i (by omega)) (hy (l - i) (by omega))
    · exact Nat.zero_le _

theorem cvN_zero (x y : Nat → Nat) (b : Nat) : ∀ a l, a + b ≤ l + 1 → cvN x y b a l = 0
  | 0, _, _ => rfl
  | a + 1, l, h => by rw [cvN, cvN_zero x y b a l (by omega), if_neg (by omega)]

/-- j entries of row i done. -/
def row (x y : Nat → Nat) (b i j l : Nat) : Nat := cvN x y b i l + (if i ≤ l ∧ l < i + j then x i * y (l - i) else 0)
theorem row_zero (x y : Nat → Nat) (b i l : Nat) : row x y b i 0 l = cvN x y b i l := by
  unfold row; rw [if_neg (by omega)]; rfl
theorem row_end (x y : Nat → Nat) (b i l : Nat) : row x y b i b l = cvN x y b (i + 1) l := rfl
theorem row_step (x y : Nat → Nat) (b i j l : Nat) (h : l ≠ i + j) : row x y b i j l = row x y b i (j + 1) l := by
  unfold row
  by_cases h1 : i ≤ l ∧ l < i + j
  · rw [if_pos h1, if_pos (by omega)]
  · rw [if_neg h1, if_neg (by omega)]
theorem row_at (x y : Nat → Nat) (b i j : Nat) : row x y b i j (i + j) + x i * y j = row x y b i (j + 1) (i + j) := by
  unfold row
  rw [if_neg (by omega), if_pos (by omega)]
  have : i + j - i = j := by omega
  rw [this]; omega
theorem row_le (x y : Nat → Nat) (b i j l M N : Nat) (hj : j ≤ b) (hx : ∀ k, k < i + 1 → x k ≤ M) (hy : ∀ k, k < b → y k ≤ N) : row x y b i j l ≤ (i + 1) * (M * N) := by
  have h1 := cvN_le x y b M N i l (fun j hj => hx j (by omega)) hy
  unfold row
  rw [Nat.add_mul, Nat.one_mul]
  refine Nat.add_le_add h1 ?_
  split
  · rename_i h; exact Nat.mul_le_mul (hx i (by omega)) (hy (l - i) (by omega))
  · exact Nat.zero_le _
end Go.Proofs.Ygctaj.Dft
