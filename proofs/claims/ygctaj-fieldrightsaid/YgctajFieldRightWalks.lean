import Derived.Test.YgctajRows
import Derived.Test.YgctajFieldWalks
import Derived.WalkKit
import Derived.ProofKit
import Derived.OpenShut
namespace Go.Proofs.Ygctaj.fieldRight
open Go.RowKit

theorem walk (a0 : Int) (a1 : Int) (a2 : Int) (w0 : (Lit.int .u32 a0).wf = true) (w1 : (Lit.int .u32 a1).wf = true) (w2 : (Lit.int .u32 a2).wf = true) (w : World) :
    Calls Tajg.prog 10 #[.int .u32 a0, .int .u32 a1, .int .u32 a2] w fun e w' => e = .returned (.bool true) ∧ Grown w w' := by
  have b0 := bounds_u32 w0
  have b1 := bounds_u32 w1
  have b2 := bounds_u32 w2
  clear w0 w1 w2
  go_enter Tajg.func10, Tajg.ntmps10
  go_wp2_with fail
  have hx0 : 0 ≤ a0 % 998244353 := by omega
  have hx1 : a0 % 998244353 < 998244353 := by omega
  have hy0 : 0 ≤ a1 % 998244353 := by omega
  have hy1 : a1 % 998244353 < 998244353 := by omega
  generalize a0 % 998244353 = x at *
  generalize a1 % 998244353 = y at *
  obtain ⟨x, rfl⟩ := Int.eq_ofNat_of_zero_le hx0
  obtain ⟨y, rfl⟩ := Int.eq_ofNat_of_zero_le hy0
  obtain ⟨e, rfl⟩ := Int.eq_ofNat_of_zero_le b2.1
  clear hx0 hy0 b0 b1
  refine (Field.addMod_any _ _ _ (by omega) (by omega) (by omega) (by omega)).mono ?_
  rintro _ w' ⟨rfl, rfl⟩
  go_wp2_with fail
  refine (Field.subMod_any _ _ _ (by omega) (by omega) (by omega) (by omega)).mono ?_
  rintro _ w' ⟨rfl, rfl⟩
  rw [show ((x : Int) - y) % 998244353 = ((x : Int) + 998244353 - y) % 998244353 from by omega]
  go_wp2_with fail
  refine (Field.mulMod_nat _ _ _ (by omega) (by omega)).mono ?_
  rintro _ w' ⟨rfl, rfl⟩
  have hxy : (x : Int) * y ≤ 998244352 * 998244352 := Int.mul_le_mul (by omega) (by omega) (by omega) (by omega)
  have hxn : 0 ≤ (x : Int) * y := Int.mul_nonneg (by omega) (by omega)
  go_wp2_with fail
  clear hxy hxn
  have hx1' : x < 998244353 := by omega
  have b2' : e < 4294967296 := by omega
  refine (Field.powMod_any _ _ _ (by omega) (by omega) (by omega) (by omega)).mono ?_
  rintro _ w' ⟨rfl, rfl⟩
  rw [Int.toNat_natCast, show (0 : Int).toNat = 0 from rfl, Field.pw_zero]
  go_wp2_with fail
  refine (Field.invMod_any _ _ (by omega) (by omega)).mono ?_
  rintro _ w' ⟨rfl, rfl⟩
  rw [show (0 : Int).toNat = 0 from rfl, Field.inv_zero]
  by_cases he : (e : Int) < 4294967295
  · go_wp2_with fail
    refine (Field.powMod_any _ _ _ (by omega) (by omega) (by omega) (by omega)).mono ?_
    rintro _ w' ⟨rfl, rfl⟩
    rw [Int.toNat_natCast, show ((e : Int) + 1).toNat = e + 1 from by omega, Field.pw_succ]
    have hp := Field.pw_lt x e
    go_wp2_with fail
    refine (Field.powMod_any _ _ _ (by omega) (by omega) (by omega) (by omega)).mono ?_
    rintro _ w' ⟨rfl, rfl⟩
    rw [Int.toNat_natCast, Int.toNat_natCast]
    go_wp2_with fail
    refine (Field.mulMod_nat _ _ _ (by omega) (by omega)).mono ?_
    rintro _ w' ⟨rfl, rfl⟩
    by_cases hx : x = 0
    · subst hx
      go_wp2_with fail
      go_ret
      exact ⟨rfl, Grown.refl _⟩
    · have hi := Field.inv_right x (by omega) hx1'
      have hpi := Field.pw_lt x 998244351
      go_wp2_with fail
      refine (Field.invMod_any _ _ (by omega) (by omega)).mono ?_
      rintro _ w' ⟨rfl, rfl⟩
      rw [Int.toNat_natCast]
      go_wp2_with fail
      refine (Field.mulMod_nat _ _ _ (by omega) (by omega)).mono ?_
      rintro _ w' ⟨rfl, rfl⟩
      rw [hi]
      go_wp2_with fail
      go_ret
      exact ⟨rfl, Grown.refl _⟩
  · have hd : decide ((e : Int) < 4294967295) = false := by simpa using he
    by_cases hx : x = 0
    · subst hx
      go_wp2_with fail
      go_ret
      exact ⟨rfl, Grown.refl _⟩
    · have hi := Field.inv_right x (by omega) hx1'
      have hpi := Field.pw_lt x 998244351
      go_wp2_with fail
      refine (Field.invMod_any _ _ (by omega) (by omega)).mono ?_
      rintro _ w' ⟨rfl, rfl⟩
      rw [Int.toNat_natCast]
      go_wp2_with fail
      refine (Field.mulMod_nat _ _ _ (by omega) (by omega)).mono ?_
      rintro _ w' ⟨rfl, rfl⟩
      rw [hi]
      go_wp2_with fail
      go_ret
      exact ⟨rfl, Grown.refl _⟩
end Go.Proofs.Ygctaj.fieldRight
