/- nlong.oddPart, walked. -/
import Derived.Test.YgctajOddPart
namespace Go.Proofs.Ygctaj.Nt
open Go.RowKit Mem
set_option linter.unusedVariables false

theorem twos_le (A N s n : Nat) (h : A = N * 2 ^ s) (h0 : A ≠ 0) (hn : dl A ≤ n) : s ≤ 8 * n := by
  have hN : N ≠ 0 := by rintro rfl; rw [Nat.zero_mul] at h; exact h0 h
  have h1 : 2 ^ s ≤ A := by rw [h]; exact Nat.le_mul_of_pos_left _ (by omega)
  have h2 : A < 2 ^ (8 * n) := by
    have := Nat.lt_of_lt_of_le (lt_dl A) (Nat.pow_le_pow_right (by decide) hn)
    rw [show (256 : Nat) = 2 ^ 8 from rfl, ← Nat.pow_mul] at this
    exact this
  have h3 : 2 ^ s < 2 ^ (8 * n) := Nat.lt_of_le_of_lt h1 h2
  exact Nat.le_of_lt ((Nat.pow_lt_pow_iff_right (by decide)).1 h3)
theorem Nm.down {w : World} {v : Value} {N : Nat} (h0 : N ≠ 0) (hz : dg N 0 = 0) (h : Na w v (dl N - 1) (N / 256 ^ 1)) : Nm w v (N / 256) ∧ N = N / 256 * 256 := by
  unfold dg at hz
  rw [Nat.pow_zero, Nat.div_one] at hz
  have e := dl_pos h0
  have e2 : N = N / 256 * 256 := by omega
  refine ⟨⟨?_, fun h => by omega⟩, e2⟩
  rw [e, Nat.add_sub_cancel, Nat.pow_one] at h
  exact h

set_option maxRecDepth 100000 in
set_option maxHeartbeats 1000000 in
theorem oddPart_any (a : Value) (A : Nat) (w : World) (hA : A ≠ 0) (hn2 : dl A ≤ 100000) (ha : Nm w a A) :
    Calls Tajg.prog 102 #[a] w fun e w' => ∃ (v' : Value) (M k : Nat), e = .returned (.tuple #[v', .int .i64 (k : Int)]) ∧ A = M * 2 ^ k ∧ M % 2 = 1 ∧ Nm w' v' M ∧ Same w w' := by
  have HA : Hid (Nm w a A) := ha
  clear ha
  go_enter Tajg.func102, Tajg.ntmps102
  go_wp2_with fail
  go_loopw [0, 3] (fun v i wr => ∃ N s : Nat, i = .int .i64 (s : Int) ∧ Hid (A = N * 2 ^ s) ∧ Hid (Nm wr v N) ∧ Hid (wr = w)) (fun v _ wr => mz wr v)
  case atStart => exact ⟨A, 0, rfl, (by simp : A = A * 2 ^ 0), HA, (rfl : w = w)⟩
  case round =>
    obtain ⟨N, s, rfl, HN, Hv, Hw⟩ := hrel
    have hs8 : s ≤ 800000 := twos_le A N s 100000 HN.out hA hn2
    have hN0 : N ≠ 0 := by have := HN.out; rintro rfl; rw [Nat.zero_mul] at this; exact hA this
    have hNA : N ≤ A := by rw [HN.out]; exact Nat.le_mul_of_pos_right _ (Nat.two_pow_pos s)
    have hdN := dl_mono hNA
    obtain ⟨h0, _⟩ | ⟨_, b, off, cap, rfl, hcap, hp, hR, hcl⟩ := Hv.out.open
    · exact absurd h0 hN0
    have c0 := hR 0 hp
    rw [Nat.add_zero] at c0
    have d0 := dg_lt N 0
    clear hR hcl hNA
    by_cases hz : dg N 0 = 0
    · rw [hz] at c0
      clear d0
      go_wp2_with fail
      refine (down_any _ (dl N) N 1 1 wr (by omega) (by decide) rfl Hv.out.na).mono ?_
      rintro e w' ⟨⟨v', rfl, hv', -, -⟩, rfl⟩
      obtain ⟨hv1, hv2⟩ := Nm.down hN0 hz hv'
      have HV1 : Hid (Nm w' v' (N / 256)) := hv1
      have HN2 : Hid (N = N / 256 * 256) := hv2
      clear hv' hv1 hv2
      go_wp2_with fail
      go_roundw
      case rel =>
        refine ⟨N / 256, s + 8, by go_num, ?_, HV1, Hw⟩
        show A = _
        rw [Nat.pow_add, show (2 : Nat) ^ 8 = 256 from rfl, Nat.mul_comm (2 ^ s), ← Nat.mul_assoc, ← HN2.out]
        exact HN.out
      case measure =>
        show mz _ _ < mz _ _
        rw [HV1.out.mz, Hv.out.mz]
        omega
    · have z1 : (((dg N 0 : Nat) : Int) == 0) = false := by rw [beq_eq_false_iff_ne]; omega
      have z2 : 0 ≤ ((dg N 0 : Nat) : Int) := by omega
      have z3 : ((dg N 0 : Nat) : Int) < 256 := by omega
      clear d0 hz
      generalize ((dg N 0 : Nat) : Int) = D at *
      have HS0 : Hid (Same w wr) := by rw [Hw.out]; exact Chg.refl _ _
      obtain ⟨x0, Hx⟩ : ∃ x0 : Value, Hid (x0 = .slice (some ⟨b, off, none⟩) (dl N) cap) := ⟨_, rfl⟩
      go_wp2_with fail
      rw [← Hx.out] at Hv ⊢
      clear c0 z1 z2 z3
      go_loopw [0, 3] (fun v i w5 => ∃ N s : Nat, i = .int .i64 (s : Int) ∧ Hid (A = N * 2 ^ s) ∧ Hid (Nm w5 v N) ∧ Hid (Same w w5)) (fun v _ w5 => mz w5 v)
      case atStart => exact ⟨N, s, rfl, HN, Hv, HS0⟩
      case round =>
        clear HN Hv HS0 hs8 hN0 hdN hcap hp Hx Hw
        obtain ⟨N, s, rfl, HN, Hv, HS⟩ := hrel
        have hs8 : s ≤ 800000 := twos_le A N s 100000 HN.out hA hn2
        have hN0 : N ≠ 0 := by have := HN.out; rintro rfl; rw [Nat.zero_mul] at this; exact hA this
        have hNA : N ≤ A := by rw [HN.out]; exact Nat.le_mul_of_pos_right _ (Nat.two_pow_pos s)
        have hdN : dl N ≤ 100000 := Nat.le_trans (dl_mono hNA) hn2
        obtain ⟨h0, _⟩ | ⟨_, b, off, cap, rfl, hcap, hp, hR, hcl⟩ := Hv.out.open
        · exact absurd h0 hN0
        have c0 := hR 0 hp
        rw [Nat.add_zero] at c0
        have d0 := dg_lt N 0
        have hm : dg N 0 % 2 = N % 2 := by unfold dg; rw [Nat.pow_zero, Nat.div_one]; omega
        have ha : bits .and .u8 ((dg N 0 : Nat) : Int) 1 = ((N % 2 : Nat) : Int) := by
          have h := u8_and_nat (dg N 0) 1 d0 (by decide)
          rw [nat_mask1, hm] at h
          exact h
        have z2 : 0 ≤ ((dg N 0 : Nat) : Int) := by omega
        have z3 : ((dg N 0 : Nat) : Int) < 256 := by omega
        clear hR hcl hNA d0 hm
        generalize ((dg N 0 : Nat) : Int) = D at *
        by_cases hz : N % 2 = 0
        · rw [hz, Int.natCast_zero] at ha
          go_wp2_with fail
          refine (halved_any _ N _ hN0 hdN Hv.out).mono ?_
          rintro e w' ⟨v', rfl, hv', -, hs'⟩
          have HV1 : Hid (Nm w' v' (N / 2)) := hv'
          have HS1 := HS.out.trans hs'
          clear hv'
          go_wp2_with fail
          go_roundw
          case rel =>
            refine ⟨N / 2, s + 1, by go_num, ?_, HV1, HS1⟩
            show A = _
            rw [Nat.pow_succ, Nat.mul_comm (2 ^ s), ← Nat.mul_assoc, show N / 2 * 2 = N from by omega]
            exact HN.out
          case measure =>
            show mz _ _ < mz _ _
            rw [HV1.out.mz, Hv.out.mz]
            omega
        · have hz1 : N % 2 = 1 := by omega
          rw [hz1, Int.natCast_one] at ha
          go_wp2_with fail
          go_ret2
          exact ⟨_, N, s, rfl, HN.out, hz1, Hv.out, HS.out⟩
end Go.Proofs.Ygctaj.Nt
