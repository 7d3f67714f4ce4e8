/- powEven, the plain part. -/
import Derived.Test.YgctajBinInverse
import Derived.Test.YgctajBinPow
namespace Go.Proofs.Ygctaj.Nt
open Go.RowKit Mem
set_option linter.unusedVariables false

theorem pow256 (n : Nat) : (256 : Nat) ^ (4 * n) = 2 ^ (32 * n) := by
  rw [show (256 : Nat) = 2 ^ 8 from rfl, ← Nat.pow_mul]; congr 1; omega

theorem sub_emod (X R : Nat) : (X : Int) - ((X % R : Nat) : Int) = (R : Int) * ((X / R : Nat) : Int) := by
  have := Nat.div_add_mod X R
  have h2 : ((R * (X / R) + X % R : Nat) : Int) = (X : Int) := by rw [this]
  rw [Int.natCast_add, Int.natCast_mul] at h2
  omega

theorem even_int (K M V R T O Oh Th D x y cR cV c1 c2 c3 c4 c5 : Int) (hR : R = K * cR) (hV : M * V - 1 = K * cV) (h1 : T - Th = R * c1) (h2 : O - Oh = R * c2)
    (h3 : Th + R - Oh - D = R * c3) (h4 : D * V - x = R * c4) (h5 : x - y = K * c5) : T - (O + M * y) = K * (cR * c1 - cR * c2 + cR * c3 - cR - D * cV + M * cR * c4 + M * c5) := by
  subst hR
  grind

/-- the power modulo M*2^k, of those modulo M and modulo 2^k. -/
theorem even_pow (A E M k n V : Nat) (hk : k ≤ 32 * n) (hodd : M % 2 = 1) (hV : (2 : Int) ^ k ∣ (M : Int) * (V : Int) - 1) :
    A ^ E % M + M * (bmn n (bx n (A % 256 ^ (4 * n)) E) (A ^ E % M % 256 ^ (4 * n)) * V % 256 ^ (4 * n) % 2 ^ k) = A ^ E % (M * 2 ^ k) := by
  have hR : ((256 ^ (4 * n) : Nat) : Int) = ((2 ^ k : Nat) : Int) * ((2 ^ (32 * n - k) : Nat) : Int) := by
    rw [pow256, ← Int.natCast_mul, ← Nat.pow_add]; congr 2; omega
  have hRp : 0 < 256 ^ (4 * n) := pp _
  have hMp : 0 < M := by omega
  have h2p : 0 < 2 ^ k := Nat.two_pow_pos k
  have hcop : Nat.Coprime M (2 ^ k) := by
    refine Nat.Coprime.pow_right k ?_
    unfold Nat.Coprime
    rw [Nat.gcd_comm, Nat.gcd_rec, hodd]; rfl
  unfold bmn bx
  rw [show (2 : Int) ^ k = ((2 ^ k : Nat) : Int) from by simp] at hV
  generalize 256 ^ (4 * n) = R at hR hRp ⊢
  generalize 2 ^ k = K at *
  rw [← Nat.pow_mod]
  generalize A ^ E = T
  obtain ⟨cV, hV⟩ := hV
  have hO : T % M < M := Nat.mod_lt _ hMp
  have f2 := sub_emod (T % M) R
  have hOh : T % M % R < R := Nat.mod_lt _ hRp
  have f1 := sub_emod T R
  have f3 := sub_emod (T % R + R - T % M % R) R
  rw [show ((T % R + R - T % M % R : Nat) : Int) = ((T % R : Nat) : Int) + (R : Int) - ((T % M % R : Nat) : Int) from by omega] at f3
  generalize (T % R + R - T % M % R) % R = D at *
  have f4 := sub_emod (D * V) R
  rw [Int.natCast_mul] at f4
  have f5 := sub_emod (D * V % R) K
  have hy : D * V % R % K < K := Nat.mod_lt _ h2p
  generalize D * V % R % K = y at *
  have hz := even_int _ _ _ _ _ _ _ _ _ _ _ _ _ _ _ _ _ _ hR hV f1 f2 f3 f4 f5
  have hm := sub_emod T M
  generalize T % M = O at *
  have k1 : (K : Int) ∣ (T : Int) - ((O : Int) + (M : Int) * (y : Int)) := ⟨_, hz⟩
  have k2 : (M : Int) ∣ (T : Int) - ((O : Int) + (M : Int) * (y : Int)) := ⟨((T / M : Nat) : Int) - (y : Int), by rw [Int.mul_sub, ← hm]; omega⟩
  have k3 : ((M * K : Nat) : Int) ∣ (T : Int) - ((O + M * y : Nat) : Int) := by
    rw [Int.natCast_add, Int.natCast_mul M y]
    rw [Int.ofNat_dvd_left] at k1 k2 ⊢
    exact Nat.Coprime.mul_dvd_of_dvd_of_dvd hcop k2 k1
  have hlt : O + M * y < M * K := by
    have : M * (y + 1) ≤ M * K := Nat.mul_le_mul_left M (by omega)
    rw [Nat.mul_add, Nat.mul_one] at this
    omega
  have h6 := Int.emod_eq_emod_iff_emod_sub_eq_zero.2 (Int.emod_eq_zero_of_dvd k3)
  rw [← Int.natCast_emod, ← Int.natCast_emod, Nat.mod_eq_of_lt hlt] at h6
  exact (Int.ofNat.inj h6).symm

theorem inv_mod (M V k n : Nat) (hk : k ≤ 32 * n) (h : (2 : Int) ^ k ∣ ((M % 256 ^ (4 * n) : Nat) : Int) * (V : Int) - 1) : (2 : Int) ^ k ∣ (M : Int) * (V : Int) - 1 := by
  have hR : ((256 ^ (4 * n) : Nat) : Int) = (2 : Int) ^ k * ((2 ^ (32 * n - k) : Nat) : Int) := by
    rw [pow256, show (2 : Int) ^ k = ((2 ^ k : Nat) : Int) from by simp, ← Int.natCast_mul, ← Nat.pow_add]; congr 2; omega
  have f := sub_emod M (256 ^ (4 * n))
  rw [hR] at f
  obtain ⟨c, hc⟩ := h
  generalize ((M % 256 ^ (4 * n) : Nat) : Int) = m at *
  generalize ((M / 256 ^ (4 * n) : Nat) : Int) = q at *
  generalize ((2 ^ (32 * n - k) : Nat) : Int) = r at *
  generalize (2 : Int) ^ k = K at *
  generalize (M : Int) = M' at *
  exact ⟨c + r * q * V, by grind⟩
theorem odd_mod (M n : Nat) (hn : 1 ≤ n) (h : M % 2 = 1) : M % 256 ^ (4 * n) % 2 = 1 := by
  rw [Nat.mod_mod_of_dvd _ (by rw [pow256]; exact Nat.dvd_trans (by decide : 2 ∣ 2 ^ 1) (Nat.pow_dvd_pow 2 (by omega))), h]
/-- the mask on the last word. -/
theorem dw_mask_lt (X n t i : Nat) (hi : i + 1 < n + 1) : dw (X % 2 ^ (32 * n + t)) i = dw X i := by
  rw [dw_of_mod, dw_of_mod]
  congr 1
  rw [Nat.pow_add, ← pow256]
  refine Nat.mod_mod_of_dvd _ (Nat.dvd_trans (Nat.pow_dvd_pow 256 (by omega)) (Nat.dvd_mul_right _ _))
theorem dw_mask (X n t : Nat) (ht : t < 32) : dw (X % 2 ^ (32 * n + t)) n = dw X n % 2 ^ t := by
  have h : (4294967296 : Nat) = 2 ^ t * 2 ^ (32 - t) := by rw [← Nat.pow_add, show t + (32 - t) = 32 from by omega]
  unfold dw
  rw [Nat.pow_add, ← pow256, Nat.mod_mul_right_div_self, h, Nat.mod_mul_right_mod, Nat.mod_eq_of_lt (Nat.lt_of_lt_of_le (Nat.mod_lt _ (Nat.two_pow_pos t)) (Nat.le_mul_of_pos_right _ (Nat.two_pow_pos _)))]
end Go.Proofs.Ygctaj.Nt
