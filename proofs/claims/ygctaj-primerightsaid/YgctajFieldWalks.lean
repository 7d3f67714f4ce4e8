import Derived.Test.YgctajRows
import Derived.Test.YgctajFieldMath
import Derived.WalkKit
import Derived.ProofKit
namespace Go.Proofs.Ygctaj.Field
open Go.RowKit

theorem ret_int {k : IntKind} {a b : Int} (h : a = b) : Ending.returned (.int k a) = .returned (.int k b) := by rw [h]

set_option maxHeartbeats 400000 in
theorem below_any (a : Int) (w : World) (h0 : 0 ≤ a) (h1 : a < 4294967296) :
    Calls Tajg.prog 75 #[.int .u32 a] w fun e w' => e = .returned (.int .u32 (a % 998244353)) ∧ w' = w := by
  by_cases h : a < 998244353
  · go_enter Tajg.func75, Tajg.ntmps75
    go_wp2
    go_ret
    exact ⟨ret_int (Int.emod_eq_of_lt h0 h).symm, rfl⟩
  · go_enter Tajg.func75, Tajg.ntmps75
    go_wp2
    go_ret
    exact ⟨rfl, rfl⟩

theorem mulP_lt (a b : Int) : a % 998244353 * (b % 998244353) ≤ 998244352 * 998244352 :=
  Int.mul_le_mul (by omega) (by omega) (by omega) (by omega)
theorem mulP_nn (a b : Int) : 0 ≤ a % 998244353 * (b % 998244353) := Int.mul_nonneg (by omega) (by omega)

set_option maxHeartbeats 400000 in
theorem mulMod_any (a b : Int) (w : World) (h0 : 0 ≤ a) (h1 : a < 4294967296) (g0 : 0 ≤ b) (g1 : b < 4294967296) :
    Calls Tajg.prog 35 #[.int .u32 a, .int .u32 b] w fun e w' => e = .returned (.int .u32 (a % 998244353 * (b % 998244353) % 998244353)) ∧ w' = w := by
  have hb := mulP_lt a b
  have hn := mulP_nn a b
  go_enter Tajg.func35, Tajg.ntmps35
  go_wp2_with fail
  refine (below_any _ _ h0 h1).mono ?_
  rintro e w' ⟨rfl, rfl⟩
  go_wp2_with fail
  refine (below_any _ _ g0 g1).mono ?_
  rintro e w' ⟨rfl, rfl⟩
  go_wp2_with fail
  go_ret
  exact ⟨rfl, rfl⟩

/-- MulMod on naturals, of any two of a word. -/
theorem mulMod_nat (a b : Nat) (w : World) (h1 : a < 4294967296) (g1 : b < 4294967296) :
    Calls Tajg.prog 35 #[.int .u32 (a : Int), .int .u32 (b : Int)] w fun e w' => e = .returned (.int .u32 ((a * b % 998244353 : Nat) : Int)) ∧ w' = w := by
  refine (mulMod_any a b w (by omega) (by omega) (by omega) (by omega)).mono ?_
  rintro e w' ⟨rfl, rfl⟩
  exact ⟨ret_int (by rw [← Int.mul_emod]; simp), rfl⟩

theorem and_one_u32 (E : Nat) (h1 : E < 4294967296) : bits BinOp.and IntKind.u32 (E : Int) 1 = ((E % 2 : Nat) : Int) := by
  have h := bits_mask .u32 32 (by decide) (fun n h0 h1 => by rw [IntKind.wrap_u32]; omega) 1 (by decide) (E : Int) (by omega) (by omega)
  simpa using h

set_option maxHeartbeats 400000 in
theorem powMod_nat (a e : Nat) (w : World) (h1 : a < 4294967296) (g1 : e < 4294967296) :
    Calls Tajg.prog 36 #[.int .u32 (a : Int), .int .u32 (e : Int)] w fun r w' => r = .returned (.int .u32 ((pw a e : Nat) : Int)) ∧ w' = w := by
  go_enter Tajg.func36, Tajg.ntmps36
  go_wp2_with fail
  refine (below_any _ _ (by omega) (by omega)).mono ?_
  rintro e' w' ⟨rfl, rfl⟩
  go_wp2_with fail
  go_loop [0, 1, 5] (fun x y z => ∃ A E R : Nat, A < 998244353 ∧ E < 4294967296 ∧ R < 998244353 ∧ x = .int .u32 A ∧ y = .int .u32 E ∧ z = .int .u32 R ∧ Keeps a e A E R)
    (fun _ y _ => (intOf y).toNat)
  case atStart => exact ⟨a % 998244353, e, 1, by omega, g1, by omega, by simp, rfl, rfl, keeps_start a e⟩
  case round =>
    obtain ⟨A, E, R, hA, hE, hR, rfl, rfl, rfl, hk⟩ := hrel
    have hb1 := and_one_u32 E hE
    by_cases hz : 0 < E
    · by_cases ho : E % 2 = 1
      · have hk' := keeps_odd hk ho
        have hbit : (((E % 2 : Nat) : Int) != 0) = true := by rw [bne_iff_ne]; omega
        clear hk
        go_wp2_with fail
        refine (mulMod_nat _ _ _ (by omega) (by omega)).mono ?_
        rintro e' w' ⟨rfl, rfl⟩
        go_wp2_with fail
        refine (mulMod_nat _ _ _ (by omega) (by omega)).mono ?_
        rintro e' w' ⟨rfl, rfl⟩
        go_wp2_with fail
        go_round
        case rel => exact ⟨_, E / 2, _, Nat.mod_lt _ (by decide), by omega, Nat.mod_lt _ (by decide), rfl, by go_num, rfl, hk'⟩
        case measure => simp [intOf]; omega
      · have hk' := keeps_even hk (by omega)
        have hbit : (((E % 2 : Nat) : Int) != 0) = false := by rw [bne_eq_false_iff_eq]; omega
        clear hk
        go_wp2_with fail
        refine (mulMod_nat _ _ _ (by omega) (by omega)).mono ?_
        rintro e' w' ⟨rfl, rfl⟩
        go_wp2_with fail
        go_round
        case rel => exact ⟨_, E / 2, _, Nat.mod_lt _ (by decide), by omega, hR, rfl, by go_num, rfl, hk'⟩
        case measure => simp [intOf]; omega
    · obtain rfl : E = 0 := by omega
      have hfin := keeps_end hk hR
      clear hk
      go_wp2_with fail
      go_ret
      exact ⟨rfl, rfl⟩

/-- PowMod at whatever two words. -/
theorem powMod_any (a e : Int) (w : World) (h0 : 0 ≤ a) (h1 : a < 4294967296) (g0 : 0 ≤ e) (g1 : e < 4294967296) :
    Calls Tajg.prog 36 #[.int .u32 a, .int .u32 e] w fun r w' => r = .returned (.int .u32 ((pw a.toNat e.toNat : Nat) : Int)) ∧ w' = w := by
  obtain ⟨x, rfl⟩ := Int.eq_ofNat_of_zero_le h0
  obtain ⟨y, rfl⟩ := Int.eq_ofNat_of_zero_le g0
  exact powMod_nat x y w (by omega) (by omega)

theorem half_cast (k : Nat) : (998244352 : Int) / 2 ^ k = ((998244352 / 2 ^ k : Nat) : Int) := by simp
theorem half_nn (k : Nat) : 0 ≤ (998244352 : Int) / 2 ^ k := by rw [half_cast]; exact Int.natCast_nonneg _
theorem half_lt (k : Nat) : (998244352 : Int) / 2 ^ k < 4294967296 := by
  have h := Nat.div_le_self 998244352 (2 ^ k)
  rw [half_cast]; generalize 998244352 / 2 ^ k = x at *; omega
theorem half_toNat (k : Nat) : ((998244352 : Int) / 2 ^ k).toNat = 998244352 / 2 ^ k := by rw [half_cast]; rfl

set_option maxHeartbeats 400000 in
theorem root_low (k : Nat) (w : World) (hk : k ≤ 23) :
    Calls Tajg.prog 38 #[.int .u8 (k : Int)] w fun r w' => r = .returned (.int .u32 ((pw 3 (998244352 / 2 ^ k) : Nat) : Int)) ∧ w' = w := by
  go_enter Tajg.func38, Tajg.ntmps38
  go_wp2_with fail
  refine (powMod_any _ _ _ (by omega) (by omega) (half_nn k) (half_lt k)).mono ?_
  rintro e w' ⟨rfl, rfl⟩
  go_wp2_with fail
  go_ret
  exact ⟨ret_int (by rw [half_toNat]), rfl⟩

set_option maxHeartbeats 400000 in
theorem root_high (k : Int) (w : World) (hk : 23 < k) :
    Calls Tajg.prog 38 #[.int .u8 (k : Int)] w fun r w' => r = .returned (.int .u32 0) ∧ w' = w := by
  go_enter Tajg.func38, Tajg.ntmps38
  go_wp2_with fail
  go_ret
  exact ⟨rfl, rfl⟩

set_option maxHeartbeats 400000 in
theorem addMod_any (a b : Int) (w : World) (h0 : 0 ≤ a) (h1 : a < 4294967296) (g0 : 0 ≤ b) (g1 : b < 4294967296) :
    Calls Tajg.prog 33 #[.int .u32 a, .int .u32 b] w fun e w' => e = .returned (.int .u32 ((a + b) % 998244353)) ∧ w' = w := by
  go_enter Tajg.func33, Tajg.ntmps33
  go_wp2_with fail
  refine (below_any _ _ h0 h1).mono ?_
  rintro e w' ⟨rfl, rfl⟩
  go_wp2_with fail
  refine (below_any _ _ g0 g1).mono ?_
  rintro e w' ⟨rfl, rfl⟩
  by_cases hs : a % 998244353 + b % 998244353 < 998244353
  · go_wp2_with fail
    go_ret
    exact ⟨ret_int (by omega), rfl⟩
  · go_wp2_with fail
    go_ret
    exact ⟨ret_int (by omega), rfl⟩

set_option maxHeartbeats 400000 in
theorem subMod_any (a b : Int) (w : World) (h0 : 0 ≤ a) (h1 : a < 4294967296) (g0 : 0 ≤ b) (g1 : b < 4294967296) :
    Calls Tajg.prog 34 #[.int .u32 a, .int .u32 b] w fun e w' => e = .returned (.int .u32 ((a - b) % 998244353)) ∧ w' = w := by
  go_enter Tajg.func34, Tajg.ntmps34
  go_wp2_with fail
  refine (below_any _ _ h0 h1).mono ?_
  rintro e w' ⟨rfl, rfl⟩
  go_wp2_with fail
  refine (below_any _ _ g0 g1).mono ?_
  rintro e w' ⟨rfl, rfl⟩
  by_cases hs : a % 998244353 + 998244353 - b % 998244353 < 998244353
  · go_wp2_with fail
    go_ret
    exact ⟨ret_int (by omega), rfl⟩
  · go_wp2_with fail
    go_ret
    exact ⟨ret_int (by omega), rfl⟩

set_option maxHeartbeats 400000 in
theorem invMod_any (a : Int) (w : World) (h0 : 0 ≤ a) (h1 : a < 4294967296) :
    Calls Tajg.prog 37 #[.int .u32 a] w fun e w' => e = .returned (.int .u32 ((pw a.toNat 998244351 : Nat) : Int)) ∧ w' = w := by
  go_enter Tajg.func37, Tajg.ntmps37
  go_wp2_with fail
  refine (powMod_any _ _ _ h0 h1 (by omega) (by omega)).mono ?_
  rintro e w' ⟨rfl, rfl⟩
  go_wp2_with fail
  go_ret
  exact ⟨rfl, rfl⟩
end Go.Proofs.Ygctaj.Field
