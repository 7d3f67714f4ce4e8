/- Plain: the strong test, and a form of it that the kernel works out. -/
import Derived.Test.YgctajPrimeRoots
namespace Go.Proofs.Ygctaj.Pq
open Num
set_option linter.unusedVariables false

/-- n passes the strong test to the base a. -/
def SP (a n : Nat) : Prop := ∃ d s, n - 1 = d * 2 ^ s ∧ d % 2 = 1 ∧ (a ^ d % n = 1 ∨ ∃ r, r < s ∧ a ^ (d * 2 ^ r) % n = n - 1)

theorem neg_sq {n x : Nat} (hn : 2 ≤ n) (hx : x % n = n - 1) : x ^ 2 % n = 1 := by
  rw [Nat.pow_mod, hx, Nat.pow_two]
  obtain ⟨m, rfl⟩ : ∃ m, n = m + 1 := ⟨n - 1, by omega⟩
  rw [Nat.add_sub_cancel, show m * m = 1 + (m + 1) * (m - 1) from by
    obtain ⟨k, rfl⟩ : ∃ k, m = k + 1 := ⟨m - 1, by omega⟩
    rw [Nat.add_sub_cancel]; grind, Nat.add_mul_mod_self_left]
  exact one_mod hn
theorem neg_pow {n x m : Nat} (hn : 2 ≤ n) (hx : x % n = n - 1) (hm : 0 < m) : x ^ 2 ^ m % n = 1 := by
  obtain ⟨k, rfl⟩ : ∃ k, m = k + 1 := ⟨m - 1, by omega⟩
  rw [Nat.pow_succ, Nat.mul_comm, Nat.pow_mul]
  exact pow_one_mod hn (neg_sq hn hx) _
theorem SP.fermat {a n : Nat} (hn : 2 ≤ n) (h : SP a n) : a ^ (n - 1) % n = 1 := by
  obtain ⟨d, s, e, -, h | ⟨r, hr, h⟩⟩ := h
  · rw [e, Nat.pow_mul]; exact pow_one_mod hn h _
  · rw [e, show s = r + (s - r) from by omega, Nat.pow_add, ← Nat.mul_assoc, Nat.pow_mul]
    exact neg_pow hn h (by omega)

noncomputable section
/-- a^e modulo n. -/
def pm (a e n : Nat) : Nat :=
  Nat.mod (Nat.mul (Nat.pow (Nat.mod (Nat.mul (Nat.pow (Nat.mod (Nat.mul (Nat.pow (Nat.mod (Nat.pow a (Nat.div e 16777216)) n) 256) (Nat.pow a (Nat.mod (Nat.div e 65536) 256))) n) 256) (Nat.pow a (Nat.mod (Nat.div e 256) 256))) n) 256) (Nat.pow a (Nat.mod e 256))) n
theorem pm_step (x y n : Nat) : (x % n) ^ 256 * y % n = x ^ 256 * y % n := by
  rw [Nat.mul_mod, ← Nat.pow_mod, ← Nat.mul_mod]
theorem pm_eq (a e n : Nat) : pm a e n = a ^ e % n := by
  show ((((a ^ (e / 16777216) % n) ^ 256 * a ^ (e / 65536 % 256) % n) ^ 256 * a ^ (e / 256 % 256) % n) ^ 256 * a ^ (e % 256)) % n = _
  rw [pm_step (a ^ (e / 16777216)), pm_step ((a ^ (e / 16777216)) ^ 256 * a ^ (e / 65536 % 256)), pm_step]
  congr 1
  have h : e = ((e / 16777216 * 256 + e / 65536 % 256) * 256 + e / 256 % 256) * 256 + e % 256 := by omega
  conv => rhs; rw [h]
  rw [Nat.pow_add, Nat.pow_mul, Nat.pow_add, Nat.pow_mul, Nat.pow_add, Nat.pow_mul]

/-- a choice, bare for the kernel. -/
theorem br_true {F T b : Bool} : (Bool.rec (motive := fun _ => Bool) F T b = true) ↔ (b = true → T = true) ∧ (b = false → F = true) := by
  cases b <;> simp
/-- the halves of e: false only if a strong test fails. -/
def td (a n fuel : Nat) : Nat → Bool :=
  Nat.rec (motive := fun _ => Nat → Bool) (fun _ => true) (fun _ ih e =>
    Bool.rec (motive := fun _ => Bool) (Bool.rec (motive := fun _ => Bool) (Bool.rec (motive := fun _ => Bool) false (ih (Nat.div e 2)) (Nat.beq (pm a (Nat.div e 2) n) 1)) true (Nat.beq (pm a (Nat.div e 2) n) (Nat.sub n 1))) true (Nat.beq (Nat.mod e 2) 1)) fuel
theorem td_succ (a n fuel e : Nat) : td a n (fuel + 1) e = Bool.rec (motive := fun _ => Bool) (Bool.rec (motive := fun _ => Bool) (Bool.rec (motive := fun _ => Bool) false (td a n fuel (e / 2)) (Nat.beq (pm a (e / 2) n) 1)) true (Nat.beq (pm a (e / 2) n) (n - 1))) true (Nat.beq (e % 2) 1) := rfl
theorem td_pass {a n d : Nat} (hn : 2 ≤ n) (hd : d % 2 = 1) : ∀ (fuel j : Nat), (a ^ d % n = 1 ∨ ∃ r, r < j ∧ a ^ (d * 2 ^ r) % n = n - 1) → td a n fuel (d * 2 ^ j) = true := by
  intro fuel
  induction fuel with
  | zero => intro j _; rfl
  | succ fuel ih =>
    intro j h
    rw [td_succ, br_true]
    refine ⟨fun _ => rfl, fun h1 => ?_⟩
    have hj : j ≠ 0 := by
      rintro rfl
      rw [Nat.pow_zero, Nat.mul_one, hd] at h1
      cases h1
    obtain ⟨i, rfl⟩ : ∃ i, j = i + 1 := ⟨j - 1, by omega⟩
    have e2 : d * 2 ^ (i + 1) / 2 = d * 2 ^ i := by rw [Nat.pow_succ, ← Nat.mul_assoc, Nat.mul_div_cancel _ (by decide)]
    rw [e2, br_true]
    refine ⟨fun _ => rfl, fun h2 => ?_⟩
    rw [pm_eq] at h2 ⊢
    have h3 : a ^ (d * 2 ^ i) % n = 1 ∧ (a ^ d % n = 1 ∨ ∃ r, r < i ∧ a ^ (d * 2 ^ r) % n = n - 1) := by
      rcases h with h | ⟨r, hr, h⟩
      · exact ⟨by rw [Nat.pow_mul]; exact pow_one_mod hn h _, .inl h⟩
      · have hne : r ≠ i := by
          rintro rfl
          rw [h] at h2
          rw [Nat.beq_refl] at h2
          cases h2
        refine ⟨?_, .inr ⟨r, by omega, h⟩⟩
        rw [show i = r + (i - r) from by omega, Nat.pow_add, ← Nat.mul_assoc, Nat.pow_mul]
        exact neg_pow hn h (by omega)
    rw [h3.1, br_true]
    exact ⟨fun _ => ih i h3.2, fun h => by cases h⟩
theorem SP.td {a n : Nat} (hn : 2 ≤ n) (h : SP a n) (fuel : Nat) : td a n fuel (n - 1) = true := by
  obtain ⟨d, s, e, hd, h⟩ := h
  rw [e]
  exact td_pass hn hd fuel s h

/-- n is refused by one of five tests. -/
def bad2 (n : Nat) : Bool :=
  Bool.rec (motive := fun _ => Bool) true (Bool.rec (motive := fun _ => Bool) true (Bool.rec (motive := fun _ => Bool) true (Bool.rec (motive := fun _ => Bool) true (Bool.rec (motive := fun _ => Bool) true false (td 11 n 32 (Nat.sub n 1))) (td 7 n 32 (Nat.sub n 1))) (td 5 n 32 (Nat.sub n 1))) (td 3 n 32 (Nat.sub n 1))) (td 2 n 32 (Nat.sub n 1))
def bad (n : Nat) : Bool := Bool.rec (motive := fun _ => Bool) true (bad2 n) (Nat.beq (pm 2 (Nat.sub n 1) n) 1)
theorem bad_not {n : Nat} (hn : 2 ≤ n) (h2 : SP 2 n) (h3 : SP 3 n) (h5 : SP 5 n) (h7 : SP 7 n) (h11 : SP 11 n) : bad n = false := by
  have e2 := h2.td hn 32
  have e3 := h3.td hn 32
  have e5 := h5.td hn 32
  have e7 := h7.td hn 32
  have e11 := h11.td hn 32
  have ef : Nat.beq (pm 2 (n - 1) n) 1 = true := by rw [pm_eq, h2.fermat hn]; rfl
  show (Bool.rec (motive := fun _ => Bool) true (bad2 n) (Nat.beq (pm 2 (n - 1) n) 1) : Bool) = false
  rw [ef]
  show (Bool.rec (motive := fun _ => Bool) true (Bool.rec (motive := fun _ => Bool) true (Bool.rec (motive := fun _ => Bool) true (Bool.rec (motive := fun _ => Bool) true (Bool.rec (motive := fun _ => Bool) true false (Pq.td 11 n 32 (n - 1))) (Pq.td 7 n 32 (n - 1))) (Pq.td 5 n 32 (n - 1))) (Pq.td 3 n 32 (n - 1))) (Pq.td 2 n 32 (n - 1)) : Bool) = false
  rw [e2, e3, e5, e7, e11]

/-- f at s, s + 1, .., s + 2^d - 1, as far as T. -/
def allB (f : Nat → Bool) (T d : Nat) : Nat → Bool :=
  Nat.rec (motive := fun _ => Nat → Bool) f (fun d ih s => Bool.rec (motive := fun _ => Bool) (Bool.rec (motive := fun _ => Bool) false (ih (Nat.add s (Nat.pow 2 d))) (ih s)) true (Nat.ble (Nat.succ T) s)) d
theorem allB_at (f : Nat → Bool) (T : Nat) : ∀ (d s : Nat), allB f T d s = true → ∀ x, s ≤ x → x < s + 2 ^ d → x ≤ T → f x = true := by
  intro d
  induction d with
  | zero =>
    intro s h x h1 h2 h3
    rw [Nat.pow_zero] at h2
    obtain rfl : x = s := by omega
    exact h
  | succ d ih =>
    intro s h x h1 h2 h3
    replace h : (Bool.rec (motive := fun _ => Bool) (Bool.rec (motive := fun _ => Bool) false (allB f T d (s + 2 ^ d)) (allB f T d s)) true (Nat.ble (Nat.succ T) s) : Bool) = true := h
    have hb : Nat.ble (Nat.succ T) s = false := by
      cases hc : Nat.ble (Nat.succ T) s
      · rfl
      · have := Nat.le_of_ble_eq_true hc; omega
    rw [hb] at h
    have h := br_true.1 h
    rw [Nat.pow_succ] at h2
    have ha : allB f T d s = true := by
      cases hc : allB f T d s
      · exact absurd (h.2 hc) (by simp)
      · rfl
    by_cases hx : x < s + 2 ^ d
    · exact ih s ha x h1 hx h3
    · exact ih (s + 2 ^ d) (h.1 ha) x (by omega) (by omega) h3
end
end Go.Proofs.Ygctaj.Pq
