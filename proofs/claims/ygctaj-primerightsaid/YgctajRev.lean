/- The reversed counter, plain, and the bits of int. -/
import Derived.Test.YgctajDft
import Derived.WalkKit
namespace Go.Proofs.Ygctaj.Dft
open Go

/-- the bit at which the reversed counter stands with s bits to go. -/
def bt : Nat → Nat
  | 0 => 0
  | s + 1 => 2 ^ s
theorem bt_half : ∀ s, bt (s + 1) / 2 = bt s
  | 0 => rfl
  | s + 1 => by show 2 ^ (s + 1) / 2 = 2 ^ s; rw [Nat.pow_succ]; omega

/-- the reversed counter's step. -/
def nxt : Nat → Nat → Nat
  | 0, j => j
  | s + 1, j => if 2 ^ s ≤ j then nxt s (j - 2 ^ s) else j + 2 ^ s

theorem nxt_rev : ∀ k i, i < 2 ^ k → nxt k (rev k i) = rev k ((i + 1) % 2 ^ k)
  | 0, i, h => by simp [nxt, rev]
  | k + 1, i, h => by
    have hp : 2 ^ (k + 1) = 2 * 2 ^ k := by rw [Nat.pow_succ, Nat.mul_comm]
    have hl := rev_lt k (i / 2)
    rw [nxt]
    rcases Nat.mod_two_eq_zero_or_one i with h0 | h1
    · have e : rev (k + 1) i = rev k (i / 2) := by rw [rev, h0]; omega
      rw [e, if_neg (by omega), Nat.mod_eq_of_lt (by omega)]
      have e2 : i + 1 = 2 * (i / 2) + 1 := by omega
      rw [e2, rev_odd, Nat.add_comm]
    · have e : rev (k + 1) i = 2 ^ k + rev k (i / 2) := by rw [rev, h1]; omega
      rw [e, if_pos (by omega), Nat.add_sub_cancel_left, nxt_rev k (i / 2) (by omega)]
      have e2 : (i + 1) % 2 ^ (k + 1) = 2 * ((i / 2 + 1) % 2 ^ k) := by
        rw [hp, ← Nat.mul_mod_mul_left]; congr 1; omega
      rw [e2, rev_even]

theorem rev_zero : ∀ k, rev k 0 = 0
  | 0 => rfl
  | k + 1 => by rw [rev, Nat.zero_mod, Nat.zero_div, rev_zero k]; omega

/-- the top of the reversed counter goes below. -/
theorem rev_split : ∀ k i, i < 2 ^ (k + 1) → rev (k + 1) i = 2 * rev k (i % 2 ^ k) + i / 2 ^ k
  | 0, i, h => by
    have : i = 0 ∨ i = 1 := by omega
    rcases this with rfl | rfl <;> rfl
  | k + 1, i, h => by
    have hp : 2 ^ (k + 1 + 1) = 2 * 2 ^ (k + 1) := by rw [Nat.pow_succ, Nat.mul_comm]
    have hp1 : 2 ^ (k + 1) = 2 * 2 ^ k := by rw [Nat.pow_succ, Nat.mul_comm]
    rw [rev, rev_split k (i / 2) (by omega), rev]
    have e1 : i % 2 ^ (k + 1) % 2 = i % 2 := by rw [hp1, Nat.mod_mul_right_mod]
    have e2 : i % 2 ^ (k + 1) / 2 = i / 2 % 2 ^ k := by rw [hp1, Nat.mod_mul_right_div_self]
    have e3 : i / 2 / 2 ^ k = i / 2 ^ (k + 1) := by rw [Nat.div_div_eq_div_mul, hp1]
    rw [e1, e2, e3, hp1]
    rcases Nat.mod_two_eq_zero_or_one i with h0 | h1
    · rw [h0]; omega
    · rw [h1]; omega

theorem rev_rev : ∀ k i, i < 2 ^ k → rev k (rev k i) = i
  | 0, i, h => by simp at h; subst h; rfl
  | k + 1, i, h => by
    have hp : 2 ^ (k + 1) = 2 * 2 ^ k := by rw [Nat.pow_succ, Nat.mul_comm]
    rw [rev_split k (rev (k + 1) i) (rev_lt _ _), rev]
    have hl := rev_lt k (i / 2)
    have hpos : 0 < 2 ^ k := Nat.two_pow_pos k
    have e1 : (i % 2 * 2 ^ k + rev k (i / 2)) % 2 ^ k = rev k (i / 2) := by
      rw [Nat.add_comm, Nat.add_mul_mod_self_right, Nat.mod_eq_of_lt hl]
    have e2 : (i % 2 * 2 ^ k + rev k (i / 2)) / 2 ^ k = i % 2 := by
      rw [Nat.add_comm, Nat.add_mul_div_right _ _ hpos, Nat.div_eq_of_lt hl]; omega
    rw [e1, e2, rev_rev k (i / 2) (by omega)]; omega

/-! ### int's bits -/
theorem bits_i64 (a b : Nat) (ha : a < 2 ^ 62) (hb : b < 2 ^ 62) :
    bits .and .i64 (a : Int) (b : Int) = ((a &&& b : Nat) : Int) ∧ bits .or .i64 (a : Int) (b : Int) = ((a ||| b : Nat) : Int) ∧ bits .xor .i64 (a : Int) (b : Int) = ((a ^^^ b : Nat) : Int) := by
  have ha' : a % 2 ^ IntKind.i64.bits = a := Nat.mod_eq_of_lt (by simp [IntKind.bits]; omega)
  have hb' : b % 2 ^ IntKind.i64.bits = b := Nat.mod_eq_of_lt (by simp [IntKind.bits]; omega)
  have w : ∀ n : Nat, n < 2 ^ 62 → IntKind.i64.wrap (n : Int) = n := fun n h => by rw [IntKind.wrap_i64]; omega
  refine ⟨?_, ?_, ?_⟩
  · simp only [bits, BitVec.ofInt_natCast, BitVec.toNat_and, BitVec.toNat_ofNat, ha', hb']; exact w _ (Nat.and_lt_two_pow _ hb)
  · simp only [bits, BitVec.ofInt_natCast, BitVec.toNat_or, BitVec.toNat_ofNat, ha', hb']; exact w _ (Nat.or_lt_two_pow ha hb)
  · simp only [bits, BitVec.ofInt_natCast, BitVec.toNat_xor, BitVec.toNat_ofNat, ha', hb']; exact w _ (Nat.xor_lt_two_pow ha hb)

theorem and_pow_zero (r s : Nat) (h : r < 2 ^ s) : r &&& 2 ^ s = 0 := by
  apply Nat.eq_of_testBit_eq
  intro i
  rw [Nat.testBit_and, Nat.zero_testBit]
  by_cases hi : i = s
  · subst hi; rw [Nat.testBit_lt_two_pow h]; rfl
  · have : (2 ^ s).testBit i = false := by rw [Nat.testBit_two_pow]; simp; omega
    rw [this, Bool.and_false]

theorem and_bit (j s : Nat) (h : j < 2 ^ (s + 1)) : j &&& 2 ^ s = if 2 ^ s ≤ j then 2 ^ s else 0 := by
  rw [Nat.pow_succ] at h
  by_cases hj : 2 ^ s ≤ j
  · rw [if_pos hj]
    obtain ⟨r, rfl⟩ := Nat.exists_eq_add_of_le hj
    have hr : r < 2 ^ s := by omega
    have : 2 ^ s + r = 2 ^ s * 1 ||| r := by rw [← Nat.two_pow_add_eq_or_of_lt hr 1]; omega
    rw [this, Nat.mul_one, Nat.and_comm, Nat.and_or_distrib_left, Nat.and_self]
    have : 2 ^ s &&& r = 0 := by rw [Nat.and_comm]; exact and_pow_zero r s hr
    rw [this, Nat.or_zero]
  · rw [if_neg hj]; exact and_pow_zero j s (by omega)

theorem or_bit (j s : Nat) (h : j < 2 ^ s) : j ||| 2 ^ s = j + 2 ^ s := by
  have := Nat.two_pow_add_eq_or_of_lt h 1
  rw [Nat.mul_one] at this
  rw [Nat.or_comm, ← this, Nat.add_comm]

theorem xor_bit (j s : Nat) (h : j < 2 ^ (s + 1)) (hj : 2 ^ s ≤ j) : j ^^^ 2 ^ s = j - 2 ^ s := by
  rw [Nat.pow_succ] at h
  obtain ⟨r, rfl⟩ := Nat.exists_eq_add_of_le hj
  have hr : r < 2 ^ s := by omega
  have e : 2 ^ s + r = r ^^^ 2 ^ s := by
    rw [Nat.add_comm, ← or_bit r s hr]
    apply Nat.eq_of_testBit_eq
    intro i
    rw [Nat.testBit_or, Nat.testBit_xor]
    by_cases hi : i = s
    · subst hi; simp [Nat.testBit_lt_two_pow hr]
    · have : (2 ^ s).testBit i = false := by rw [Nat.testBit_two_pow]; simp; omega
      rw [this]; simp
  rw [e, Nat.xor_assoc, Nat.xor_self, Nat.xor_zero, ← e]; omega
end Go.Proofs.Ygctaj.Dft
