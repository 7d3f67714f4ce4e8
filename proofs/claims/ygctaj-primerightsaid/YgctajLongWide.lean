/- mlong.wideLog, sameMemory, walked. -/
import Derived.Test.YgctajLongConv
import Derived.Test.YgctajNatCarry
import Derived.Test.YgctajEqlPtr
namespace Go.Proofs.Ygctaj.Long
open Go.RowKit Mem Dft Ntt Nt
set_option linter.unusedVariables false

theorem wide_lt (la lb k : Nat) (h1 : la ≤ 16384) (h3 : 2 * (la + lb) ≤ 2 ^ k) : la * lb < 10000 * 2 ^ k := by
  have h4 : la * lb ≤ 16384 * lb := Nat.mul_le_mul_right _ h1
  have h5 : 0 < 2 ^ k := Nat.two_pow_pos k
  omega

set_option maxRecDepth 20000 in
set_option maxHeartbeats 400000 in
theorem wideLog_any (la lb : Nat) (w : World) (h1 : la ≤ 16384) (h2 : lb ≤ 16384) :
    Calls Tajg.prog 88 #[.int .i64 (la : Int), .int .i64 (lb : Int)] w fun e w' => e = .returned (.int .u8 0) ∧ w' = w := by
  have hd1 : decide ((1048576 : Int) < (la : Int)) = false := by simp; omega
  have hd2 : decide ((1048576 : Int) < (lb : Int)) = false := by simp; omega
  go_enter Tajg.func88, Tajg.ntmps88
  go_wp2_with fail
  go_loop [5] (fun k => ∃ k' : Nat, 1 ≤ k' ∧ k' ≤ 16 ∧ k = .int .u8 k') (fun k => 17 - (intOf k).toNat)
  case atStart => exact ⟨1, by omega, by omega, rfl⟩
  case round =>
    obtain ⟨k, hk1, hk2, rfl⟩ := hrel
    obtain ⟨p, hp⟩ : ∃ p, p = 2 ^ k := ⟨_, rfl⟩
    have hp16 : 2 ^ k ≤ 2 ^ 16 := Nat.pow_le_pow_right (by decide) hk2
    have hpl : p ≤ 65536 := by omega
    have hpI : (2 : Int) ^ k = (p : Int) := by rw [hp]; simp
    have HP : Hid (p = 2 ^ k) := hp
    clear hp hp16
    by_cases hlt : p < 2 * (la + lb)
    · have hk3 : k ≤ 15 := by
        rcases Nat.lt_or_ge k 16 with h | h
        · omega
        · have e : k = 16 := by omega
          have := HP.out
          rw [e] at this; omega
      go_wp2_with fail
      go_round
      case rel => exact ⟨k + 1, by omega, by omega, by go_num⟩
      case measure => simp [intOf]; omega
    · have hw := wide_lt la lb k h1 (by rw [← HP.out]; omega)
      rw [← HP.out] at hw
      have hm : la * lb ≤ 16384 * 16384 := Nat.mul_le_mul h1 h2
      have hwI : (la : Int) * (lb : Int) < 10000 * (p : Int) := by rw [← Int.natCast_mul]; omega
      have b1 : (la : Int) * (lb : Int) ≤ 268435456 := by rw [← Int.natCast_mul]; omega
      have b2 : 0 ≤ (la : Int) * (lb : Int) := by rw [← Int.natCast_mul]; omega
      have hd3 : decide ((22 : Int) < (k : Int)) = false := by simp; omega
      have hd4 : decide ((la : Int) * (lb : Int) < 10000 * (p : Int)) = true := by simp; exact hwI
      clear hw hm
      go_wp2_with fail
      go_ret
      exact ⟨rfl, rfl⟩

/-- one and the same slice. -/
def sm (la lb b b' off off' : Nat) : Bool := decide (la = lb ∧ b = b' ∧ off = off')

theorem ptr143 : Tajg.prog.underlying 143 = some (.pointer 5) := by kernel_rfl

set_option maxRecDepth 20000 in
set_option maxHeartbeats 400000 in
theorem sameMemory_any (b off b' off' la lb ca cb : Nat) (x y : Nat → Nat) (w : World) (h1 : 0 < la) (h2 : 0 < lb) (h3 : la ≤ 1048576) (h4 : lb ≤ 1048576) (hx : Rd .u8 w b off la x) (hy : Rd .u8 w b' off' lb y) (hc : Cl w b) :
    Calls Tajg.prog 91 #[.slice (some ⟨b, off, none⟩) la ca, .slice (some ⟨b', off', none⟩) lb cb] w fun e w' => e = .returned (.bool (sm la lb b b' off off')) ∧ Same w w' := by
  by_cases h : la = lb
  · subst h
    have cx := hx 0 h1
    have cy := hy 0 h1
    rw [Nat.add_zero] at cx cy
    have hrun := run_eql_clean (P := Tajg.prog) (sz := 0) w.drew ptr143 size5 cx cy hc.drew
    have HD : Hid (sm la la b b' off off' = decide (b = b' ∧ off = off')) := by show _ = _; simp [sm]
    clear hx hy cx cy
    generalize decide (b = b' ∧ off = off') = t at *
    go_enter Tajg.func91, Tajg.ntmps91
    go_wp2_with fail
    go_region_held3 (fun w' => w' = w.drew) (rfl) (fail)
    all_goals go_wp2_with fail
    all_goals go_ret
    all_goals exact ⟨by rw [HD.out]; rfl, (Chg.refl _ _).drew⟩
  · have hb : ((la : Int) == (lb : Int)) = false := by rw [beq_eq_false_iff_ne]; omega
    have HD : Hid (sm la lb b b' off off' = false) := by show _ = _; simp [sm, h]
    clear hx hy
    go_enter Tajg.func91, Tajg.ntmps91
    go_wp2_with fail
    go_region
    all_goals go_wp2_with fail
    all_goals go_ret
    all_goals exact ⟨by rw [HD.out]; rfl, (Chg.refl _ _).drew⟩
end Go.Proofs.Ygctaj.Long
