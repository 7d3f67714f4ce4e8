/- one step of the long division: plain. -/
import Derived.Test.YgctajDivSmall
namespace Go.Proofs.Ygctaj.Nt

theorem dg_join_lo (x y c i : Nat) (hi : i < c) : dg (x % 256 ^ c + 256 ^ c * y) i = dg x i := by
  have e : 256 ^ c = 256 ^ (i + 1) * 256 ^ (c - (i + 1)) := by rw [← Nat.pow_add]; congr 1; omega
  have key : ∀ z, dg z i = z % 256 ^ (i + 1) / 256 ^ i := by
    intro z
    unfold dg
    rw [Nat.pow_succ, Nat.mod_mul_right_div_self]
  rw [key, key]
  congr 1
  rw [Nat.add_mod, e, Nat.mul_assoc (256 ^ (i + 1)), Nat.mul_mod_right, Nat.add_zero, Nat.mod_mod, Nat.mod_mul_right_mod]
theorem dg_join_hi (x y c i : Nat) : dg (x % 256 ^ c + 256 ^ c * y) (c + i) = dg y i := by
  unfold dg
  rw [Nat.pow_add, ← Nat.div_div_eq_div_mul, Nat.add_mul_div_left _ _ (pp c), Nat.div_eq_of_lt (Nat.mod_lt _ (pp c)), Nat.zero_add]

/-- the piece that is divided next. -/
def pc (A B h lo : Nat) : Nat := A / 256 ^ lo % 256 ^ (h - lo) + 256 ^ (h - lo) * (A / 256 ^ h % B)

theorem pc_eq (A B h lo : Nat) (hlo : lo ≤ h) : A / 256 ^ lo = 256 ^ (h - lo) * B * (A / 256 ^ h / B) + pc A B h lo := by
  unfold pc
  have e : A / 256 ^ h = A / 256 ^ lo / 256 ^ (h - lo) := by rw [Nat.div_div_eq_div_mul, ← Nat.pow_add]; congr 2; omega
  rw [e]
  generalize A / 256 ^ lo = Al
  generalize 256 ^ (h - lo) = T
  have h1 := Nat.div_add_mod Al T
  have h2 := Nat.div_add_mod (Al / T) B
  have h3 : T * (Al / T) = T * B * (Al / T / B) + T * (Al / T % B) := by
    rw [Nat.mul_assoc, ← Nat.mul_add, h2]
  omega
theorem pc_lt (A B h lo : Nat) (hB : 0 < B) : pc A B h lo < 256 ^ (h - lo) * B := by
  unfold pc
  have h1 := Nat.mod_lt (A / 256 ^ lo) (pp (h - lo))
  have h2 : A / 256 ^ h % B ≤ B - 1 := by have := Nat.mod_lt (A / 256 ^ h) hB; omega
  have h3 := Nat.mul_le_mul_left (256 ^ (h - lo)) h2
  have h4 : 256 ^ (h - lo) * B = 256 ^ (h - lo) * (B - 1) + 256 ^ (h - lo) := by
    rw [← Nat.mul_succ]; congr 1; omega
  omega
theorem pc_mod (A B h lo : Nat) (hlo : lo ≤ h) : pc A B h lo % B = A / 256 ^ lo % B := by
  rw [pc_eq A B h lo hlo, Nat.mul_assoc, Nat.mul_left_comm, Nat.mul_add_mod]
theorem pc_quo (A B h lo : Nat) (hB : 0 < B) : pc A B h lo / B < 256 ^ (h - lo) := (Nat.div_lt_iff_lt_mul hB).2 (pc_lt A B h lo hB)
theorem pc_dg (A B h lo i : Nat) (hlo : lo ≤ h) (hB : 0 < B) (hi : i < h - lo) : dg (A / B) (lo + i) = dg (pc A B h lo / B) i := by
  have e1 : dg (A / B) (lo + i) = dg (A / 256 ^ lo / B) i := by
    unfold dg
    rw [Nat.pow_add, ← Nat.div_div_eq_div_mul, Nat.div_div_eq_div_mul A B, Nat.mul_comm B, ← Nat.div_div_eq_div_mul]
  rw [e1, pc_eq A B h lo hlo, Nat.mul_assoc, Nat.mul_left_comm, Nat.mul_add_div hB, Nat.add_comm]
  have h1 := pc_quo A B h lo hB
  rw [show pc A B h lo / B = pc A B h lo / B % 256 ^ (h - lo) from (Nat.mod_eq_of_lt h1).symm]
  rw [dg_join_lo _ _ _ _ hi, Nat.mod_eq_of_lt h1]
end Go.Proofs.Ygctaj.Nt
