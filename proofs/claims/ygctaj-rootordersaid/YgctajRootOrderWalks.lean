import Derived.Test.YgctajRows
import Derived.Test.YgctajFieldWalks
import Derived.WalkKit
import Derived.ProofKit
import Derived.OpenShut
namespace Go.Proofs.Ygctaj.rootOrder
open Go.RowKit

theorem walk_high (a0 : Int) (w : World) (h : 23 < a0) :
    Calls Tajg.prog 11 #[.int .u8 a0] w fun e w' => e = .returned (.bool true) ∧ Grown w w' := by
  go_enter Tajg.func11, Tajg.ntmps11
  go_wp2_with fail
  refine (Field.root_high _ _ h).mono ?_
  rintro e w' ⟨rfl, rfl⟩
  go_wp2_with fail
  go_ret
  exact ⟨rfl, Grown.refl _⟩

theorem two_pow_nn (k : Nat) : (2 : Int) ^ k % 4294967296 = ((2 ^ k % 4294967296 : Nat) : Int) := by simp
theorem two_pow_toNat (k : Nat) (hk : k ≤ 23) : ((2 : Int) ^ k % 4294967296).toNat = 2 ^ k := by
  have h : 2 ^ k < 4294967296 := Nat.lt_of_le_of_lt (Nat.pow_le_pow_right (by decide) hk) (by decide)
  rw [two_pow_nn, Int.toNat_natCast, Nat.mod_eq_of_lt h]

theorem walk_low (k : Nat) (w : World) (hk : k ≤ 23) :
    Calls Tajg.prog 11 #[.int .u8 (k : Int)] w fun e w' => e = .returned (.bool true) ∧ Grown w w' := by
  have h1 := Field.root_pow k hk
  have h2 : ∀ j, k = j + 1 → Field.pw (Field.pw 3 (998244352 / 2 ^ k)) (2 ^ j) = 998244352 := by
    intro j hj; subst hj; exact Field.root_half j (by omega)
  have hr := Field.pw_lt 3 (998244352 / 2 ^ k)
  go_enter Tajg.func11, Tajg.ntmps11
  go_wp2_with fail
  refine (Field.root_low _ _ hk).mono ?_
  rintro e w' ⟨rfl, rfl⟩
  generalize hg : Field.pw 3 (998244352 / 2 ^ k) = r at *
  have Hg : Hid (Field.pw 3 (998244352 / 2 ^ k) = r) := hg
  clear hg
  have H1 : Hid (Field.pw r (2 ^ k) = 1) := h1
  clear h1
  have H2 : Hid (∀ j, k = j + 1 → Field.pw r (2 ^ j) = 998244352) := h2
  clear h2
  go_wp2_with fail
  refine (Field.powMod_any _ _ _ (by omega) (by omega) (Field.half_nn k) (Field.half_lt k)).mono ?_
  rintro e w' ⟨rfl, rfl⟩
  rw [Field.half_toNat, show (3 : Int).toNat = 3 from rfl, Hg.out]
  go_wp2_with fail
  refine (Field.powMod_any _ _ _ (by omega) (by omega) (by omega) (by omega)).mono ?_
  rintro e w' ⟨rfl, rfl⟩
  rw [two_pow_toNat k hk, Int.toNat_natCast, H1.out]
  by_cases hk0 : k = 0
  · subst hk0
    go_wp2_with fail
    go_ret
    exact ⟨rfl, Grown.refl _⟩
  · obtain ⟨j, rfl⟩ := Nat.exists_eq_succ_of_ne_zero hk0
    go_wp2_with fail
    refine (Field.powMod_any _ _ _ (by omega) (by omega) (by omega) (by omega)).mono ?_
    rintro e w' ⟨rfl, rfl⟩
    rw [two_pow_toNat j (by omega), Int.toNat_natCast, H2.out j rfl]
    go_wp2_with fail
    go_ret
    exact ⟨rfl, Grown.refl _⟩

theorem walk (a0 : Int) (w0 : (Lit.int .u8 a0).wf = true) (w : World) :
    Calls Tajg.prog 11 #[.int .u8 a0] w fun e w' => e = .returned (.bool true) ∧ Grown w w' := by
  have hb := bounds_u8 w0
  by_cases h : 23 < a0
  · exact walk_high a0 w h
  · obtain ⟨k, rfl⟩ := Int.eq_ofNat_of_zero_le (show 0 ≤ a0 by omega)
    exact walk_low k w (by omega)

end Go.Proofs.Ygctaj.rootOrder
