/- Montgomery's products: plain. -/
import Derived.Test.YgctajWords
namespace Go.Proofs.Ygctaj.Nt
set_option linter.unusedVariables false

/-- the carry into word j of P + u*Q. -/
def cy (P Q u j : Nat) : Nat := (P % 256 ^ (4 * j) + u * (Q % 256 ^ (4 * j))) / 256 ^ (4 * j)

theorem lowW (x i : Nat) : x % 256 ^ (4 * (i + 1)) = x % 256 ^ (4 * i) + 256 ^ (4 * i) * dw x i := by
  unfold dw
  rw [show 256 ^ (4 * (i + 1)) = 256 ^ (4 * i) * 4294967296 from by rw [show 4 * (i + 1) = 4 * i + 4 from by omega, Nat.pow_add], Nat.mod_mul]
theorem powW (i : Nat) : 256 ^ (4 * (i + 1)) = 256 ^ (4 * i) * 4294967296 := by
  rw [show 4 * (i + 1) = 4 * i + 4 from by omega, Nat.pow_add]
theorem cy_zero (P Q u : Nat) : cy P Q u 0 = 0 := by unfold cy; simp [Nat.mod_one]
theorem cy_le (P Q u j : Nat) : cy P Q u j ≤ u := by
  unfold cy
  have h1 := Nat.mod_lt P (pp (4 * j))
  have h2 := Nat.mod_lt Q (pp (4 * j))
  refine Nat.le_of_lt_succ ((Nat.div_lt_iff_lt_mul (pp _)).2 ?_)
  have h3 : u * (Q % 256 ^ (4 * j)) ≤ u * 256 ^ (4 * j) := Nat.mul_le_mul_left _ (Nat.le_of_lt h2)
  rw [Nat.succ_eq_add_one, Nat.add_mul, Nat.one_mul]
  generalize u * 256 ^ (4 * j) = a at *
  generalize u * (Q % 256 ^ (4 * j)) = b at *
  omega
theorem cy_sum (P Q u j : Nat) : dw P j + u * dw Q j + cy P Q u j = (P % 256 ^ (4 * (j + 1)) + u * (Q % 256 ^ (4 * (j + 1)))) / 256 ^ (4 * j) := by
  unfold cy
  rw [lowW, lowW]
  generalize P % 256 ^ (4 * j) = p
  generalize Q % 256 ^ (4 * j) = q
  generalize dw P j = d
  generalize dw Q j = e
  have h := pp (4 * j)
  generalize 256 ^ (4 * j) = B at *
  have e1 : p + B * d + u * (q + B * e) = p + u * q + B * (d + u * e) := by grind
  rw [e1, Nat.add_mul_div_left _ _ h]; omega
theorem cy_div (P Q u j : Nat) : (dw P j + u * dw Q j + cy P Q u j) / 4294967296 = cy P Q u (j + 1) := by
  rw [cy_sum, Nat.div_div_eq_div_mul, ← powW]; rfl
theorem cy_mod (P Q u j : Nat) : (dw P j + u * dw Q j + cy P Q u j) % 4294967296 = dw (P + u * Q) j := by
  rw [cy_sum]
  unfold dw
  have h1 := Nat.mod_add_div P (256 ^ (4 * (j + 1)))
  have h2 := Nat.mod_add_div Q (256 ^ (4 * (j + 1)))
  have e : P + u * Q = P % 256 ^ (4 * (j + 1)) + u * (Q % 256 ^ (4 * (j + 1))) + 256 ^ (4 * j) * (4294967296 * (P / 256 ^ (4 * (j + 1)) + u * (Q / 256 ^ (4 * (j + 1))))) := by
    have h3 := powW j
    generalize P % 256 ^ (4 * (j + 1)) = p at *
    generalize Q % 256 ^ (4 * (j + 1)) = q at *
    generalize P / 256 ^ (4 * (j + 1)) = ph at *
    generalize Q / 256 ^ (4 * (j + 1)) = qh at *
    rw [h3] at h1 h2
    generalize 256 ^ (4 * j) = B at *
    rw [← h1, ← h2]
    grind
  rw [e, Nat.add_mul_div_left _ _ (pp _), Nat.add_mul_mod_self_left]

/-- one row of the product. -/
def mS (T Y u : Nat) : Nat := T + u * Y
/-- the multiple of m that is added. -/
def mf (S inv : Nat) : Nat := S % 4294967296 * inv % 4294967296
/-- what the row leaves. -/
def mT (S f M : Nat) : Nat := (S + f * M) / 4294967296

theorem mf_ok (S M inv : Nat) (h : (M * inv + 1) % 4294967296 = 0) : (S + mf S inv * M) % 4294967296 = 0 := by
  unfold mf
  rw [Nat.add_mod, Nat.mod_mul_mod, ← Nat.add_mod]
  have e : S + S % 4294967296 * inv * M = S % 4294967296 * (M * inv + 1) + 4294967296 * (S / 4294967296) := by
    have := Nat.mod_add_div S 4294967296
    generalize S % 4294967296 = s at *
    generalize S / 4294967296 = q at *
    grind
  rw [e, Nat.add_mul_mod_self_left, Nat.mul_mod, h, Nat.mul_zero, Nat.zero_mod]
theorem mT_mul (S M inv : Nat) (h : (M * inv + 1) % 4294967296 = 0) : mT S (mf S inv) M * 4294967296 = S + mf S inv * M := by
  unfold mT
  exact Nat.div_mul_cancel (Nat.dvd_of_mod_eq_zero (mf_ok S M inv h))
theorem mf_lt (S inv : Nat) : mf S inv < 4294967296 := Nat.mod_lt _ (by decide)
theorem mT_lt (T Y M u f : Nat) (hT : T < M + Y) (hu : u < 4294967296) (hf : f < 4294967296) : mT (mS T Y u) f M < M + Y := by
  unfold mT mS
  refine (Nat.div_lt_iff_lt_mul (by decide)).2 ?_
  have h1 := Nat.mul_le_mul_right Y (show u ≤ 4294967295 by omega)
  have h2 := Nat.mul_le_mul_right M (show f ≤ 4294967295 by omega)
  omega
/-- the identity behind the loop. -/
theorem mT_step (X Y M T F inv i : Nat) (h : (M * inv + 1) % 4294967296 = 0) (hT : T * 256 ^ (4 * i) = X % 256 ^ (4 * i) * Y + F * M) :
    mT (mS T Y (dw X i)) (mf (mS T Y (dw X i)) inv) M * 256 ^ (4 * (i + 1)) = X % 256 ^ (4 * (i + 1)) * Y + (F + mf (mS T Y (dw X i)) inv * 256 ^ (4 * i)) * M := by
  have h1 := mT_mul (mS T Y (dw X i)) M inv h
  rw [lowW, powW]
  generalize mf (mS T Y (dw X i)) inv = f at *
  generalize mT (mS T Y (dw X i)) f M = T' at *
  unfold mS at h1
  generalize X % 256 ^ (4 * i) = p at *
  generalize dw X i = d at *
  generalize 256 ^ (4 * i) = B at *
  grind
theorem dw_shift (N k : Nat) : dw (N / 4294967296) k = dw N (k + 1) := by
  unfold dw
  rw [Nat.div_div_eq_div_mul, Nat.mul_comm 4294967296, ← powW]
/-- the last two words. -/
theorem last_sum (T Y M u f n : Nat) (hT : T < 256 ^ (4 * (n + 1))) (hY : Y < 256 ^ (4 * n)) (hM : M < 256 ^ (4 * n)) : dw T n + cy T Y u n + cy (T + u * Y) M f n = (T + u * Y + f * M) / 256 ^ (4 * n) := by
  have e1 : T / 256 ^ (4 * n) = dw T n := by
    unfold dw
    refine (Nat.mod_eq_of_lt ((Nat.div_lt_iff_lt_mul (pp _)).2 ?_)).symm
    rw [Nat.mul_comm, ← powW]; exact hT
  have e2 : (T + u * Y) / 256 ^ (4 * n) = dw T n + cy T Y u n := by
    unfold cy
    have := Nat.mod_add_div T (256 ^ (4 * n))
    rw [Nat.mod_eq_of_lt hY, ← e1]
    conv => lhs; rw [← this]
    rw [Nat.add_right_comm, Nat.add_mul_div_left _ _ (pp _), Nat.add_comm]
  have e3 : (T + u * Y + f * M) / 256 ^ (4 * n) = (T + u * Y) / 256 ^ (4 * n) + cy (T + u * Y) M f n := by
    unfold cy
    have := Nat.mod_add_div (T + u * Y) (256 ^ (4 * n))
    rw [Nat.mod_eq_of_lt hM]
    conv => lhs; rw [← this]
    rw [Nat.add_right_comm, Nat.add_mul_div_left _ _ (pp _), Nat.add_comm]
  rw [e3, e2]
end Go.Proofs.Ygctaj.Nt
