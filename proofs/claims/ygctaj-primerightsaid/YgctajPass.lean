/- The passes of butterflies, plain. -/
import Derived.Test.YgctajDft
import Derived.Test.YgctajShoup
namespace Go.Proofs.Ygctaj.Ntt
open Dft

/-- v less 2*P if it is not below that. -/
def low2 (u : Nat) : Nat := if u < 1996488706 then u else u - 1996488706
theorem low2_lt {u : Nat} (h : u < 3992977412) : low2 u < 1996488706 := by unfold low2; split <;> omega
theorem low2_toF (u : Nat) : toF (low2 u) = toF u := by
  refine toF_eq ?_
  unfold low2
  split
  · rfl
  · omega
theorem shoup_toF (f x : Nat) : toF (shoup f x) = toF x * toF f := by rw [← toF_mul]; exact toF_eq (shoup_mod f x)

/-- the first pass: sums and differences of neighbours. -/
def fp1 (z : Nat → Nat) (a : Nat) : Nat := if a % 2 = 0 then z a + z (a + 1) else z (a - 1) + 998244353 - z a

/-- one pass of butterflies over blocks of 2h, h = 2^t. -/
def stp (h : Nat) (f y : Nat → Nat) (a : Nat) : Nat :=
  if a % (2 * h) < h then low2 (y a) + shoup (f (a % (2 * h))) (y (a + h)) else low2 (y (a - h)) + 1996488706 - shoup (f (a % (2 * h) - h)) (y a)

/-- the last: brought below P. -/
def fin (v : Nat) : Nat := low2 v % 998244353

/-- behind t passes of k. -/
structure Lv (k : Nat) (W : F) (X : Nat → F) (t : Nat) (y : Nat → Nat) : Prop where
  lt : ∀ a, a < 2 ^ k → y a < 3992977412
  eq : ∀ m j, m < 2 ^ (k - t) → j < 2 ^ t → toF (y (m * 2 ^ t + j)) = lev W X (k - t) t m j

theorem Lv_start (k : Nat) (W : F) (x : Nat → Nat) (hx : ∀ i, i < 2 ^ k → x i < 998244353) : Lv k W (fun i => toF (x i)) 0 (fun i => x (rev k i)) := by
  refine ⟨fun a _ => by have := hx (rev k a) (rev_lt k a); omega, fun m j hm hj => ?_⟩
  simp only [Nat.pow_zero] at hj
  obtain rfl : j = 0 := by omega
  rw [Nat.sub_zero, lev_start, Nat.pow_zero, Nat.mul_one, Nat.add_zero]

theorem pow_pred (k : Nat) (h : 1 ≤ k) : 2 * 2 ^ (k - 1) = 2 ^ k := by
  rw [Nat.mul_comm, ← Nat.pow_succ]; congr 1; omega

theorem Lv_first (k : Nat) (W : F) (X : Nat → F) (z : Nat → Nat) (hk : 1 ≤ k) (hW : pwF W (2 ^ (k - 1)) = -1) (hz : ∀ i, i < 2 ^ k → z i < 998244353) (h : Lv k W X 0 z) : Lv k W X 1 (fp1 z) := by
  have hp := pow_pred k hk
  have hk1 : k - 1 + 1 = k := by omega
  refine ⟨fun a ha => ?_, fun m j hm hj => ?_⟩
  · unfold fp1
    split
    · have h1 := hz a ha
      have h2 := hz (a + 1) (by omega)
      omega
    · have h1 := hz (a - 1) (by omega)
      omega
  · have e0 : ∀ m, m < 2 ^ k → toF (z m) = lev W X k 0 m 0 := fun m hm => by
      have := h.eq m 0 (by simpa using hm) (by decide)
      simpa using this
    rw [Nat.pow_one] at hj ⊢
    have h0 := e0 (m * 2) (by omega)
    have h1 := e0 (m * 2 + 1) (by omega)
    have j01 : j = 0 ∨ j = 1 := by omega
    rcases j01 with rfl | rfl
    · have := lev_low W X (k - 1) 0 m 0
      rw [hk1] at this
      rw [this, fp1, if_pos (by omega), Nat.add_zero, toF_add, h0, h1, Nat.mul_comm 2 m, Nat.mul_zero, pwF_zero]; grind
    · have := lev_high W X (k - 1) 0 m 0 (by rw [Nat.add_zero]; exact hW)
      rw [hk1] at this
      have hb1 := hz (m * 2 + 1) (by omega)
      rw [show (1 : Nat) = 0 + 2 ^ 0 from rfl] 
      rw [this, fp1, if_neg (by simp), toF_sub (by simp; omega), toF_add, toF_P]
      simp only [Nat.pow_zero, Nat.zero_add, Nat.add_sub_cancel]
      rw [h0, h1, Nat.mul_comm 2 m, Nat.mul_zero, pwF_zero]; grind

theorem Lv_step (k : Nat) (W : F) (X : Nat → F) (w t : Nat) (f y : Nat → Nat) (hw : toF w = W) (htk : t < k) (hW : pwF W (2 ^ (k - 1)) = -1)
    (hf : ∀ j, j < 2 ^ t → f j = Field.pw w (j * 2 ^ (k - (t + 1)))) (h : Lv k W X t y) : Lv k W X (t + 1) (stp (2 ^ t) f y) := by
  have hp : 2 ^ (t + 1) = 2 * 2 ^ t := by rw [Nat.pow_succ, Nat.mul_comm]
  have hd : k - t = k - (t + 1) + 1 := by omega
  have hpk : 2 ^ k = 2 ^ (k - (t + 1)) * (2 * 2 ^ t) := by rw [← hp, ← Nat.pow_add]; congr 1; omega
  have hpd : 2 ^ (k - t) = 2 * 2 ^ (k - (t + 1)) := by rw [hd, Nat.pow_succ, Nat.mul_comm]
  have hpos : 0 < 2 ^ t := Nat.two_pow_pos t
  have hff : ∀ j, j < 2 ^ t → toF (f j) = pwF W (2 ^ (k - (t + 1)) * j) := fun j hj => by
    rw [hf j hj, toF_pw, hw, Nat.mul_comm]
  -- a place of a block
  have place : ∀ a, a < 2 ^ k → a % (2 * 2 ^ t) < 2 ^ t → a + 2 ^ t < 2 ^ k := fun a ha hr => by
    have h1 := Nat.div_add_mod a (2 * 2 ^ t)
    have h2 : a / (2 * 2 ^ t) < 2 ^ (k - (t + 1)) := Nat.div_lt_of_lt_mul (by rw [Nat.mul_comm, ← hpk]; exact ha)
    have h3 : (2 * 2 ^ t) * (a / (2 * 2 ^ t) + 1) ≤ (2 * 2 ^ t) * 2 ^ (k - (t + 1)) := Nat.mul_le_mul_left _ h2
    rw [Nat.mul_comm (2 * 2 ^ t) (2 ^ (k - (t + 1))), ← hpk, Nat.mul_add, Nat.mul_one] at h3
    omega
  refine ⟨fun a ha => ?_, fun m j hm hj => ?_⟩
  · unfold stp
    split
    · rename_i hr
      have h1 := low2_lt (h.lt a ha)
      have h2 := shoup_lt (f (a % (2 * 2 ^ t))) (y (a + 2 ^ t)) (by have := h.lt _ (place a ha hr); omega)
      omega
    · have h1 := low2_lt (h.lt (a - 2 ^ t) (by omega))
      omega
  · rw [hp] at hj ⊢
    have hm2 : 2 * m < 2 ^ (k - t) ∧ 2 * m + 1 < 2 ^ (k - t) := by rw [hpd]; omega
    have er : (m * (2 * 2 ^ t) + j) % (2 * 2 ^ t) = j := by rw [Nat.mul_add_mod_self_right, Nat.mod_eq_of_lt hj]
    have em : m * (2 * 2 ^ t) = 2 * m * 2 ^ t := by rw [Nat.mul_left_comm, Nat.mul_assoc]
    have em1 : (2 * m + 1) * 2 ^ t = m * (2 * 2 ^ t) + 2 ^ t := by rw [Nat.add_mul, Nat.one_mul, em]
    unfold stp
    rw [er]
    by_cases hjl : j < 2 ^ t
    · rw [if_pos hjl, toF_add, low2_toF, shoup_toF, hff j hjl, lev_low, ← hd]
      have h1 := h.eq (2 * m) j hm2.1 hjl
      have h2 := h.eq (2 * m + 1) j hm2.2 hjl
      rw [← h1, ← h2, em, em1, em]
      have e : 2 * m * 2 ^ t + j + 2 ^ t = 2 * m * 2 ^ t + 2 ^ t + j := by omega
      rw [e]; grind
    · obtain ⟨i, rfl⟩ := Nat.exists_eq_add_of_le (Nat.le_of_not_lt hjl)
      have hi : i < 2 ^ t := by omega
      have h1 := h.eq (2 * m) i hm2.1 hi
      have h2 := h.eq (2 * m + 1) i hm2.2 hi
      have ya : y (m * (2 * 2 ^ t) + (2 ^ t + i)) < 3992977412 := by
        refine h.lt _ ?_
        have h3 : (m + 1) * (2 * 2 ^ t) ≤ 2 ^ (k - (t + 1)) * (2 * 2 ^ t) := Nat.mul_le_mul_right _ hm
        rw [← hpk, Nat.add_mul, Nat.one_mul] at h3
        omega
      have hs := shoup_lt (f i) (y (m * (2 * 2 ^ t) + (2 ^ t + i))) (by omega)
      have e1 : m * (2 * 2 ^ t) + (2 ^ t + i) - 2 ^ t = 2 * m * 2 ^ t + i := by rw [em]; omega
      have e2 : m * (2 * 2 ^ t) + (2 ^ t + i) = (2 * m + 1) * 2 ^ t + i := by rw [em1]; omega
      have hh := lev_high W X (k - (t + 1)) t m i (by rw [show k - (t + 1) + t = k - 1 from by omega]; exact hW)
      have e3 : 2 ^ t + i - 2 ^ t = i := by omega
      rw [if_neg hjl, e3, Nat.add_comm (2 ^ t) i, hh, ← hd, ← h1, ← h2, Nat.add_comm i (2 ^ t), toF_sub (by omega), toF_add, low2_toF, shoup_toF, hff i hi, e1]
      rw [e2] at *
      have e4 : toF 1996488706 = 0 := rfl
      rw [e4]; grind

theorem Lv_end (k : Nat) (W : F) (X : Nat → F) (y : Nat → Nat) (h : Lv k W X k y) (j : Nat) (hj : j < 2 ^ k) : fin (y j) < 998244353 ∧ toF (fin (y j)) = dft W X (2 ^ k) j := by
  refine ⟨Nat.mod_lt _ (by decide), ?_⟩
  have := h.eq 0 j (by rw [Nat.sub_self]; decide) hj
  rw [Nat.zero_mul, Nat.zero_add, Nat.sub_self, lev_end] at this
  unfold fin
  rw [toF_mod, low2_toF, this]
end Go.Proofs.Ygctaj.Ntt
