import Derived.Test.YgctajPrime
import Derived.Test.YgctajPrimeLaw
import Derived.Test.YgctajWhole
import Derived.OpenShut
import Derived.Below
namespace Go.Proofs.Ygctaj.primeRight
open Go.RowKit Mem Nt Pq Num
set_option linter.unusedVariables false

/-- what the law's own divisions have seen. -/
def Seen (V j : Nat) (b : Bool) : Prop := (b = false → ¬ Prm V) ∧ (b = true → (V = 2 ∨ V % 2 = 1 ∧ 3 ≤ V) ∧ ∀ d, 3 ≤ d → d < 2 * j + 3 → d % 2 = 1 → V % d ≠ 0)
theorem Seen.done {V j : Nat} (h : Seen V j true) (hq : V < (2 * j + 3) * (2 * j + 3)) : Prm V := by
  obtain ⟨h1, h2⟩ := h.2 rfl
  rcases h1 with h1 | ⟨h1, h3⟩
  · subst h1; exact base_is 2 (by decide)
  · refine prm_of (by omega) fun d hd hdd hm => ?_
    have hdj : d < 2 * j + 3 := by
      rcases Nat.lt_or_ge d (2 * j + 3) with h | h
      · exact h
      · have := Nat.mul_le_mul h h; omega
    by_cases h4 : d % 2 = 1
    · exact h2 d (by omega) hdj h4 hm
    · have h5 : 2 ∣ V := Nat.dvd_trans (Nat.dvd_of_mod_eq_zero (by omega)) (Nat.dvd_of_mod_eq_zero hm)
      have := Nat.mod_eq_zero_of_dvd h5
      omega
theorem Seen.more {V j : Nat} (h : Seen V j true) (hr : V % (2 * j + 3) ≠ 0) : Seen V (j + 1) true := by
  refine ⟨fun h => (by cases h), fun _ => ⟨(h.2 rfl).1, fun d h1 h2 h3 => ?_⟩⟩
  by_cases h4 : d = 2 * j + 3
  · rw [h4]; exact hr
  · exact (h.2 rfl).2 d h1 (by omega) h3
theorem Seen.off {V j : Nat} (hq : (2 * j + 3) * (2 * j + 3) ≤ V) (hr : V % (2 * j + 3) = 0) : Seen V (j + 1) false := by
  refine ⟨fun _ hp => ?_, fun h => by cases h⟩
  have h1 : 3 * (2 * j + 3) ≤ (2 * j + 3) * (2 * j + 3) := Nat.mul_le_mul_right _ (by omega)
  rcases hp.2 _ (Nat.dvd_of_mod_eq_zero hr) with h | h <;> omega

set_option maxRecDepth 100000 in
set_option maxHeartbeats 4000000 in
theorem main (V : Nat) (w : World) (hV : V < 4294967296) :
    Calls Tajg.prog 8 #[.int .u32 (V : Int)] w fun e w' => e = .returned (.bool true) ∧ Same w w' := by
  have v0 : (0 : Int) ≤ (V : Int) := by omega
  have v1 : (V : Int) < 4294967296 := by omega
  obtain ⟨b0, Hb0, hcase⟩ : ∃ b0 : Bool, Hid (Seen V 0 b0) ∧ ((V = 2 ∧ b0 = true) ∨ (V ≠ 2 ∧ ¬ (2 : Int) < (V : Int) ∧ b0 = false) ∨ (V ≠ 2 ∧ (2 : Int) < (V : Int) ∧ (V : Int) % 2 = 0 ∧ b0 = false) ∨ (V ≠ 2 ∧ (2 : Int) < (V : Int) ∧ (V : Int) % 2 = 1 ∧ b0 = true)) := by
    by_cases h2 : V = 2
    · exact ⟨true, ⟨fun h => (by cases h), fun _ => ⟨.inl h2, fun d h1 h3 => by omega⟩⟩, .inl ⟨h2, rfl⟩⟩
    · by_cases h3 : 2 < V
      · by_cases h4 : V % 2 = 0
        · refine ⟨false, ⟨fun _ hp => ?_, fun h => by cases h⟩, .inr (.inr (.inl ⟨h2, by omega, by omega, rfl⟩))⟩
          rcases hp.2 2 (Nat.dvd_of_mod_eq_zero h4) with h | h <;> omega
        · exact ⟨true, ⟨fun h => (by cases h), fun _ => ⟨.inr (by omega), fun d h1 h3 => by omega⟩⟩, .inr (.inr (.inr ⟨h2, by omega, by omega, rfl⟩))⟩
      · refine ⟨false, ⟨fun _ hp => ?_, fun h => by cases h⟩, .inr (.inl ⟨h2, by omega, rfl⟩)⟩
        have := hp.1; omega
  go_enter Tajg.func8, Tajg.ntmps8
  rcases hcase with ⟨h2, rfl⟩ | ⟨h2, h3, rfl⟩ | ⟨h2, h3, h4, rfl⟩ | ⟨h2, h3, h4, rfl⟩
  · have hn2 : ((V : Int) == 2) = true := by rw [beq_iff_eq]; omega
    have hVn : V ≠ 0 := by omega
    clear h2
    go_wp2_with fail
    go_loop [3, 4] (fun p i => ∃ (b : Bool) (j : Nat), p = .bool b ∧ i = .int .u64 ((2 * j + 3 : Nat) : Int) ∧ j ≤ 33000 ∧ Hid (Seen V j b)) (fun _ i => (70000 - intOf i).toNat)
    case atStart => exact ⟨_, 0, rfl, rfl, by omega, Hb0⟩
    case round =>
      obtain ⟨b, j, rfl, rfl, hj, HSn⟩ := hrel
      obtain ⟨I, HI⟩ : ∃ I, Hid (I = 2 * j + 3) := ⟨_, rfl⟩
      obtain ⟨Q, HQ⟩ : ∃ Q, Hid (Q = I * I) := ⟨_, rfl⟩
      rw [← HI.out]
      have hI3 : 3 ≤ I := by have := HI.out; omega
      have hI4 : I ≤ 66003 := by have := HI.out; omega
      have hQ4 : Q ≤ 66003 * 66003 := by rw [HQ.out]; exact Nat.mul_le_mul hI4 hI4
      have hQ9 : 9 ≤ Q := by rw [HQ.out]; exact Nat.mul_le_mul hI3 hI3
      have eQ : (I : Int) * (I : Int) = (Q : Int) := by rw [HQ.out, Int.natCast_mul]
      have hI0 : ((I : Int) == 0) = false := by rw [beq_eq_false_iff_ne]; omega
      by_cases hqv : Q ≤ V
      · cases b with
        | false =>
          have HT : Hid (¬ Prm V) := HSn.out.1 rfl
          clear hI0
          go_wp2_with fail
          refine (whole_any V w (by omega)).mono ?_
          rintro e w1 ⟨a1, rfl, ha1, -, hs1⟩
          have HA1 : Hid (Nm w1 a1 V) := ha1
          have HS1 : Hid (Same w w1) := hs1
          have hdV : dl V ≤ 4 := dl_le 4 _ (by omega)
          clear ha1 hs1
          go_wp2_with fail
          refine (prime_any a1 (dl V) V w1 (by omega) (by omega) HA1.out.na).mono ?_
          rintro e w2 ⟨c2, rfl, hc2, hs2⟩
          have HA2 : Hid (Nm w2 a1 V) := HA1.out.same hs2
          have HS2 : Hid (Same w w2) := HS1.out.trans hs2
          clear HA1 HS1 hs2
          rcases hc2 with ⟨-, hc2⟩ | ⟨rfl, -⟩
          · exact absurd hc2 HT.out
          go_wp2_with fail
          refine (under_three w2).mono ?_
          rintro e w3 ⟨u3, rfl, hu3, hs3⟩
          have HA3 : Hid (Nm w3 a1 V) := HA2.out.same hs3
          have HS3 : Hid (Same w w3) := HS2.out.trans hs3
          have HU3 : Hid (Na w3 u3 3 0) := hu3
          clear HA2 HS2 hs3 hu3
          go_wp2_with fail
          refine (prime_any u3 3 0 w3 (by omega) (by omega) HU3.out).mono ?_
          rintro e w4 ⟨c4, rfl, hc4, hs4⟩
          have HA4 : Hid (Nm w4 a1 V) := HA3.out.same hs4
          have HS4 : Hid (Same w w4) := HS3.out.trans hs4
          rcases hc4 with ⟨-, hc4⟩ | ⟨rfl, -⟩
          · exact absurd hc4.1 (by omega)
          clear HA3 HS3 HU3 hs4
          rcases HA4.out.open with ⟨h0, rfl⟩ | ⟨h0, b, off, cap, rfl, hcap, hp, hR, -⟩
          · omega
          · go_wp2_with fail
            refine (ownNat_exact (dl V) b off cap V w4 hp (by omega) hcap hR).mono ?_
            rintro e w5 ⟨B5, rfl, hR5, -, hs5⟩
            obtain ⟨c6, w6, hap, hv6, hs6⟩ := run_two (dl V) B5 V w5 (by omega) (lt_dl V) hR5
            have HV6 : Hid (Na w6 _ (dl V + 2) V) := hv6
            have HS6 : Hid (Same w w6) := (HS4.out.trans hs5).trans hs6
            clear hv6 hs6 hs5 hR5 hR HA4
            obtain ⟨L2, HL2⟩ : ∃ L2, Hid (L2 = dl V + 2) := ⟨_, rfl⟩
            rw [← HL2.out] at hap HV6
            have hL2 : L2 ≤ 6 := by have := HL2.out; omega
            go_wp2_with (first | (refine wpList_bs2 (by rfl) ?_) | (refine wpList_app2 (by rfl) (by rfl) (by rfl) hap ?_))
            refine (prime_any _ L2 V w6 (by omega) (by omega) HV6.out).mono ?_
            rintro e w7 ⟨c7, rfl, hc7, hs7⟩
            rcases hc7 with ⟨-, hc7⟩ | ⟨rfl, -⟩
            · exact absurd hc7 HT.out
            go_wp2_with fail
            go_ret
            exact ⟨rfl, HS6.out.trans hs7⟩
        | true =>
          have hI5 : I < 65536 := by
            rcases Nat.lt_or_ge I 65536 with h | h
            · exact h
            · have h1 := Nat.mul_le_mul h h
              have h2 := HQ.out
              omega
          obtain ⟨R, HR⟩ : ∃ R, Hid (R = V % I) := ⟨_, rfl⟩
          have eR : (V : Int) % (I : Int) = (R : Int) := by rw [HR.out]; rfl
          have e2 : (I : Int) + 2 = ((2 * (j + 1) + 3 : Nat) : Int) := by have := HI.out; omega
          by_cases hr : R = 0
          · have HSn2 : Hid (Seen V (j + 1) false) := Seen.off (by rw [← HI.out, ← HQ.out]; exact hqv) (by rw [← HI.out, ← HR.out]; exact hr)
            subst hr
            rw [Int.natCast_zero] at eR
            go_wp2_with fail
            go_round
            case rel => exact ⟨false, j + 1, rfl, by first | rfl | rw [e2], by have := HI.out; omega, HSn2⟩
            case measure => simp [intOf]; omega
          · have HSn2 : Hid (Seen V (j + 1) true) := HSn.out.more (by rw [← HI.out, ← HR.out]; exact hr)
            have hrb : ((R : Int) != 0) = true := by simp [bne]; omega
            go_wp2_with fail
            go_round
            case rel => exact ⟨true, j + 1, by first | rfl | simp [hrb], by first | rfl | rw [e2], by have := HI.out; omega, HSn2⟩
            case measure => simp [intOf]; omega
      · cases b with
        | false =>
          have HT : Hid (¬ Prm V) := HSn.out.1 rfl
          clear hI0
          go_wp2_with fail
          refine (whole_any V w (by omega)).mono ?_
          rintro e w1 ⟨a1, rfl, ha1, -, hs1⟩
          have HA1 : Hid (Nm w1 a1 V) := ha1
          have HS1 : Hid (Same w w1) := hs1
          have hdV : dl V ≤ 4 := dl_le 4 _ (by omega)
          clear ha1 hs1
          go_wp2_with fail
          refine (prime_any a1 (dl V) V w1 (by omega) (by omega) HA1.out.na).mono ?_
          rintro e w2 ⟨c2, rfl, hc2, hs2⟩
          have HA2 : Hid (Nm w2 a1 V) := HA1.out.same hs2
          have HS2 : Hid (Same w w2) := HS1.out.trans hs2
          clear HA1 HS1 hs2
          rcases hc2 with ⟨-, hc2⟩ | ⟨rfl, -⟩
          · exact absurd hc2 HT.out
          go_wp2_with fail
          refine (under_three w2).mono ?_
          rintro e w3 ⟨u3, rfl, hu3, hs3⟩
          have HA3 : Hid (Nm w3 a1 V) := HA2.out.same hs3
          have HS3 : Hid (Same w w3) := HS2.out.trans hs3
          have HU3 : Hid (Na w3 u3 3 0) := hu3
          clear HA2 HS2 hs3 hu3
          go_wp2_with fail
          refine (prime_any u3 3 0 w3 (by omega) (by omega) HU3.out).mono ?_
          rintro e w4 ⟨c4, rfl, hc4, hs4⟩
          have HA4 : Hid (Nm w4 a1 V) := HA3.out.same hs4
          have HS4 : Hid (Same w w4) := HS3.out.trans hs4
          rcases hc4 with ⟨-, hc4⟩ | ⟨rfl, -⟩
          · exact absurd hc4.1 (by omega)
          clear HA3 HS3 HU3 hs4
          rcases HA4.out.open with ⟨h0, rfl⟩ | ⟨h0, b, off, cap, rfl, hcap, hp, hR, -⟩
          · omega
          · go_wp2_with fail
            refine (ownNat_exact (dl V) b off cap V w4 hp (by omega) hcap hR).mono ?_
            rintro e w5 ⟨B5, rfl, hR5, -, hs5⟩
            obtain ⟨c6, w6, hap, hv6, hs6⟩ := run_two (dl V) B5 V w5 (by omega) (lt_dl V) hR5
            have HV6 : Hid (Na w6 _ (dl V + 2) V) := hv6
            have HS6 : Hid (Same w w6) := (HS4.out.trans hs5).trans hs6
            clear hv6 hs6 hs5 hR5 hR HA4
            obtain ⟨L2, HL2⟩ : ∃ L2, Hid (L2 = dl V + 2) := ⟨_, rfl⟩
            rw [← HL2.out] at hap HV6
            have hL2 : L2 ≤ 6 := by have := HL2.out; omega
            go_wp2_with (first | (refine wpList_bs2 (by rfl) ?_) | (refine wpList_app2 (by rfl) (by rfl) (by rfl) hap ?_))
            refine (prime_any _ L2 V w6 (by omega) (by omega) HV6.out).mono ?_
            rintro e w7 ⟨c7, rfl, hc7, hs7⟩
            rcases hc7 with ⟨-, hc7⟩ | ⟨rfl, -⟩
            · exact absurd hc7 HT.out
            go_wp2_with fail
            go_ret
            exact ⟨rfl, HS6.out.trans hs7⟩
        | true =>
          have HT : Hid (Prm V) := HSn.out.done (by rw [← HI.out, ← HQ.out]; omega)
          clear hI0
          go_wp2_with fail
          refine (whole_any V w (by omega)).mono ?_
          rintro e w1 ⟨a1, rfl, ha1, -, hs1⟩
          have HA1 : Hid (Nm w1 a1 V) := ha1
          have HS1 : Hid (Same w w1) := hs1
          have hdV : dl V ≤ 4 := dl_le 4 _ (by omega)
          clear ha1 hs1
          go_wp2_with fail
          refine (prime_any a1 (dl V) V w1 (by omega) (by omega) HA1.out.na).mono ?_
          rintro e w2 ⟨c2, rfl, hc2, hs2⟩
          have HA2 : Hid (Nm w2 a1 V) := HA1.out.same hs2
          have HS2 : Hid (Same w w2) := HS1.out.trans hs2
          clear HA1 HS1 hs2
          rcases hc2 with ⟨rfl, -⟩ | ⟨-, hc2⟩
          rotate_left
          · exact absurd HT.out hc2
          go_wp2_with fail
          refine (under_three w2).mono ?_
          rintro e w3 ⟨u3, rfl, hu3, hs3⟩
          have HA3 : Hid (Nm w3 a1 V) := HA2.out.same hs3
          have HS3 : Hid (Same w w3) := HS2.out.trans hs3
          have HU3 : Hid (Na w3 u3 3 0) := hu3
          clear HA2 HS2 hs3 hu3
          go_wp2_with fail
          refine (prime_any u3 3 0 w3 (by omega) (by omega) HU3.out).mono ?_
          rintro e w4 ⟨c4, rfl, hc4, hs4⟩
          have HA4 : Hid (Nm w4 a1 V) := HA3.out.same hs4
          have HS4 : Hid (Same w w4) := HS3.out.trans hs4
          rcases hc4 with ⟨-, hc4⟩ | ⟨rfl, -⟩
          · exact absurd hc4.1 (by omega)
          clear HA3 HS3 HU3 hs4
          rcases HA4.out.open with ⟨h0, rfl⟩ | ⟨h0, b, off, cap, rfl, hcap, hp, hR, -⟩
          · exact absurd HT.out.1 (by omega)
          · go_wp2_with fail
            refine (ownNat_exact (dl V) b off cap V w4 hp (by omega) hcap hR).mono ?_
            rintro e w5 ⟨B5, rfl, hR5, -, hs5⟩
            obtain ⟨c6, w6, hap, hv6, hs6⟩ := run_two (dl V) B5 V w5 (by omega) (lt_dl V) hR5
            have HV6 : Hid (Na w6 _ (dl V + 2) V) := hv6
            have HS6 : Hid (Same w w6) := (HS4.out.trans hs5).trans hs6
            clear hv6 hs6 hs5 hR5 hR HA4
            obtain ⟨L2, HL2⟩ : ∃ L2, Hid (L2 = dl V + 2) := ⟨_, rfl⟩
            rw [← HL2.out] at hap HV6
            have hL2 : L2 ≤ 6 := by have := HL2.out; omega
            go_wp2_with (first | (refine wpList_bs2 (by rfl) ?_) | (refine wpList_app2 (by rfl) (by rfl) (by rfl) hap ?_))
            refine (prime_any _ L2 V w6 (by omega) (by omega) HV6.out).mono ?_
            rintro e w7 ⟨c7, rfl, hc7, hs7⟩
            rcases hc7 with ⟨rfl, -⟩ | ⟨-, hc7⟩
            rotate_left
            · exact absurd HT.out hc7
            go_wp2_with fail
            go_ret
            exact ⟨rfl, HS6.out.trans hs7⟩
  · have hn2 : ((V : Int) == 2) = false := by rw [beq_eq_false_iff_ne]; omega
    go_wp2_with fail
    go_loop [3, 4] (fun p i => ∃ (b : Bool) (j : Nat), p = .bool b ∧ i = .int .u64 ((2 * j + 3 : Nat) : Int) ∧ j ≤ 33000 ∧ Hid (Seen V j b)) (fun _ i => (70000 - intOf i).toNat)
    case atStart => exact ⟨_, 0, rfl, rfl, by omega, Hb0⟩
    case round =>
      obtain ⟨b, j, rfl, rfl, hj, HSn⟩ := hrel
      obtain ⟨I, HI⟩ : ∃ I, Hid (I = 2 * j + 3) := ⟨_, rfl⟩
      obtain ⟨Q, HQ⟩ : ∃ Q, Hid (Q = I * I) := ⟨_, rfl⟩
      rw [← HI.out]
      have hI3 : 3 ≤ I := by have := HI.out; omega
      have hI4 : I ≤ 66003 := by have := HI.out; omega
      have hQ4 : Q ≤ 66003 * 66003 := by rw [HQ.out]; exact Nat.mul_le_mul hI4 hI4
      have hQ9 : 9 ≤ Q := by rw [HQ.out]; exact Nat.mul_le_mul hI3 hI3
      have eQ : (I : Int) * (I : Int) = (Q : Int) := by rw [HQ.out, Int.natCast_mul]
      have hI0 : ((I : Int) == 0) = false := by rw [beq_eq_false_iff_ne]; omega
      by_cases hqv : Q ≤ V
      · omega
      · cases b with
        | false =>
          have HT : Hid (¬ Prm V) := HSn.out.1 rfl
          clear hI0
          go_wp2_with fail
          refine (whole_any V w (by omega)).mono ?_
          rintro e w1 ⟨a1, rfl, ha1, -, hs1⟩
          have HA1 : Hid (Nm w1 a1 V) := ha1
          have HS1 : Hid (Same w w1) := hs1
          have hdV : dl V ≤ 4 := dl_le 4 _ (by omega)
          clear ha1 hs1
          go_wp2_with fail
          refine (prime_any a1 (dl V) V w1 (by omega) (by omega) HA1.out.na).mono ?_
          rintro e w2 ⟨c2, rfl, hc2, hs2⟩
          have HA2 : Hid (Nm w2 a1 V) := HA1.out.same hs2
          have HS2 : Hid (Same w w2) := HS1.out.trans hs2
          clear HA1 HS1 hs2
          rcases hc2 with ⟨-, hc2⟩ | ⟨rfl, -⟩
          · exact absurd hc2 HT.out
          go_wp2_with fail
          refine (under_three w2).mono ?_
          rintro e w3 ⟨u3, rfl, hu3, hs3⟩
          have HA3 : Hid (Nm w3 a1 V) := HA2.out.same hs3
          have HS3 : Hid (Same w w3) := HS2.out.trans hs3
          have HU3 : Hid (Na w3 u3 3 0) := hu3
          clear HA2 HS2 hs3 hu3
          go_wp2_with fail
          refine (prime_any u3 3 0 w3 (by omega) (by omega) HU3.out).mono ?_
          rintro e w4 ⟨c4, rfl, hc4, hs4⟩
          have HA4 : Hid (Nm w4 a1 V) := HA3.out.same hs4
          have HS4 : Hid (Same w w4) := HS3.out.trans hs4
          rcases hc4 with ⟨-, hc4⟩ | ⟨rfl, -⟩
          · exact absurd hc4.1 (by omega)
          clear HA3 HS3 HU3 hs4
          rcases HA4.out.open with ⟨h0, rfl⟩ | ⟨h0, b, off, cap, rfl, hcap, hp, hR, -⟩
          · subst h0
            clear HA4
            go_wp2_with fail
            refine (ownNat_zero w4).mono ?_
            rintro e w5 ⟨rfl, rfl⟩
            obtain ⟨c6, w6, hap, hv6, hs6⟩ := run_two_nil w5
            have HV6 : Hid (Na w6 _ 2 0) := hv6
            have HS6 : Hid (Same w w6) := HS4.out.trans hs6
            clear hv6 hs6
            go_wp2_with (first | (refine wpList_bs2 (by rfl) ?_) | (refine wpList_app2 (by rfl) (by rfl) (by rfl) hap ?_))
            refine (prime_any _ 2 0 w6 (by omega) (by omega) HV6.out).mono ?_
            rintro e w7 ⟨c7, rfl, hc7, hs7⟩
            rcases hc7 with ⟨-, hc7⟩ | ⟨rfl, -⟩
            · exact absurd hc7 HT.out
            go_wp2_with fail
            go_ret
            exact ⟨rfl, HS6.out.trans hs7⟩
          · go_wp2_with fail
            refine (ownNat_exact (dl V) b off cap V w4 hp (by omega) hcap hR).mono ?_
            rintro e w5 ⟨B5, rfl, hR5, -, hs5⟩
            obtain ⟨c6, w6, hap, hv6, hs6⟩ := run_two (dl V) B5 V w5 (by omega) (lt_dl V) hR5
            have HV6 : Hid (Na w6 _ (dl V + 2) V) := hv6
            have HS6 : Hid (Same w w6) := (HS4.out.trans hs5).trans hs6
            clear hv6 hs6 hs5 hR5 hR HA4
            obtain ⟨L2, HL2⟩ : ∃ L2, Hid (L2 = dl V + 2) := ⟨_, rfl⟩
            rw [← HL2.out] at hap HV6
            have hL2 : L2 ≤ 6 := by have := HL2.out; omega
            go_wp2_with (first | (refine wpList_bs2 (by rfl) ?_) | (refine wpList_app2 (by rfl) (by rfl) (by rfl) hap ?_))
            refine (prime_any _ L2 V w6 (by omega) (by omega) HV6.out).mono ?_
            rintro e w7 ⟨c7, rfl, hc7, hs7⟩
            rcases hc7 with ⟨-, hc7⟩ | ⟨rfl, -⟩
            · exact absurd hc7 HT.out
            go_wp2_with fail
            go_ret
            exact ⟨rfl, HS6.out.trans hs7⟩
        | true =>
          have HT : Hid (Prm V) := HSn.out.done (by rw [← HI.out, ← HQ.out]; omega)
          clear hI0
          go_wp2_with fail
          refine (whole_any V w (by omega)).mono ?_
          rintro e w1 ⟨a1, rfl, ha1, -, hs1⟩
          have HA1 : Hid (Nm w1 a1 V) := ha1
          have HS1 : Hid (Same w w1) := hs1
          have hdV : dl V ≤ 4 := dl_le 4 _ (by omega)
          clear ha1 hs1
          go_wp2_with fail
          refine (prime_any a1 (dl V) V w1 (by omega) (by omega) HA1.out.na).mono ?_
          rintro e w2 ⟨c2, rfl, hc2, hs2⟩
          have HA2 : Hid (Nm w2 a1 V) := HA1.out.same hs2
          have HS2 : Hid (Same w w2) := HS1.out.trans hs2
          clear HA1 HS1 hs2
          rcases hc2 with ⟨rfl, -⟩ | ⟨-, hc2⟩
          rotate_left
          · exact absurd HT.out hc2
          go_wp2_with fail
          refine (under_three w2).mono ?_
          rintro e w3 ⟨u3, rfl, hu3, hs3⟩
          have HA3 : Hid (Nm w3 a1 V) := HA2.out.same hs3
          have HS3 : Hid (Same w w3) := HS2.out.trans hs3
          have HU3 : Hid (Na w3 u3 3 0) := hu3
          clear HA2 HS2 hs3 hu3
          go_wp2_with fail
          refine (prime_any u3 3 0 w3 (by omega) (by omega) HU3.out).mono ?_
          rintro e w4 ⟨c4, rfl, hc4, hs4⟩
          have HA4 : Hid (Nm w4 a1 V) := HA3.out.same hs4
          have HS4 : Hid (Same w w4) := HS3.out.trans hs4
          rcases hc4 with ⟨-, hc4⟩ | ⟨rfl, -⟩
          · exact absurd hc4.1 (by omega)
          clear HA3 HS3 HU3 hs4
          rcases HA4.out.open with ⟨h0, rfl⟩ | ⟨h0, b, off, cap, rfl, hcap, hp, hR, -⟩
          · exact absurd HT.out.1 (by omega)
          · go_wp2_with fail
            refine (ownNat_exact (dl V) b off cap V w4 hp (by omega) hcap hR).mono ?_
            rintro e w5 ⟨B5, rfl, hR5, -, hs5⟩
            obtain ⟨c6, w6, hap, hv6, hs6⟩ := run_two (dl V) B5 V w5 (by omega) (lt_dl V) hR5
            have HV6 : Hid (Na w6 _ (dl V + 2) V) := hv6
            have HS6 : Hid (Same w w6) := (HS4.out.trans hs5).trans hs6
            clear hv6 hs6 hs5 hR5 hR HA4
            obtain ⟨L2, HL2⟩ : ∃ L2, Hid (L2 = dl V + 2) := ⟨_, rfl⟩
            rw [← HL2.out] at hap HV6
            have hL2 : L2 ≤ 6 := by have := HL2.out; omega
            go_wp2_with (first | (refine wpList_bs2 (by rfl) ?_) | (refine wpList_app2 (by rfl) (by rfl) (by rfl) hap ?_))
            refine (prime_any _ L2 V w6 (by omega) (by omega) HV6.out).mono ?_
            rintro e w7 ⟨c7, rfl, hc7, hs7⟩
            rcases hc7 with ⟨rfl, -⟩ | ⟨-, hc7⟩
            rotate_left
            · exact absurd HT.out hc7
            go_wp2_with fail
            go_ret
            exact ⟨rfl, HS6.out.trans hs7⟩
  · have hn2 : ((V : Int) == 2) = false := by rw [beq_eq_false_iff_ne]; omega
    go_wp2_with fail
    go_loop [3, 4] (fun p i => ∃ (b : Bool) (j : Nat), p = .bool b ∧ i = .int .u64 ((2 * j + 3 : Nat) : Int) ∧ j ≤ 33000 ∧ Hid (Seen V j b)) (fun _ i => (70000 - intOf i).toNat)
    case atStart => exact ⟨_, 0, rfl, rfl, by omega, Hb0⟩
    case round =>
      obtain ⟨b, j, rfl, rfl, hj, HSn⟩ := hrel
      obtain ⟨I, HI⟩ : ∃ I, Hid (I = 2 * j + 3) := ⟨_, rfl⟩
      obtain ⟨Q, HQ⟩ : ∃ Q, Hid (Q = I * I) := ⟨_, rfl⟩
      rw [← HI.out]
      have hI3 : 3 ≤ I := by have := HI.out; omega
      have hI4 : I ≤ 66003 := by have := HI.out; omega
      have hQ4 : Q ≤ 66003 * 66003 := by rw [HQ.out]; exact Nat.mul_le_mul hI4 hI4
      have hQ9 : 9 ≤ Q := by rw [HQ.out]; exact Nat.mul_le_mul hI3 hI3
      have eQ : (I : Int) * (I : Int) = (Q : Int) := by rw [HQ.out, Int.natCast_mul]
      have hI0 : ((I : Int) == 0) = false := by rw [beq_eq_false_iff_ne]; omega
      by_cases hqv : Q ≤ V
      · cases b with
        | false =>
          have HT : Hid (¬ Prm V) := HSn.out.1 rfl
          clear hI0
          go_wp2_with fail
          refine (whole_any V w (by omega)).mono ?_
          rintro e w1 ⟨a1, rfl, ha1, -, hs1⟩
          have HA1 : Hid (Nm w1 a1 V) := ha1
          have HS1 : Hid (Same w w1) := hs1
          have hdV : dl V ≤ 4 := dl_le 4 _ (by omega)
          clear ha1 hs1
          go_wp2_with fail
          refine (prime_any a1 (dl V) V w1 (by omega) (by omega) HA1.out.na).mono ?_
          rintro e w2 ⟨c2, rfl, hc2, hs2⟩
          have HA2 : Hid (Nm w2 a1 V) := HA1.out.same hs2
          have HS2 : Hid (Same w w2) := HS1.out.trans hs2
          clear HA1 HS1 hs2
          rcases hc2 with ⟨-, hc2⟩ | ⟨rfl, -⟩
          · exact absurd hc2 HT.out
          go_wp2_with fail
          refine (under_three w2).mono ?_
          rintro e w3 ⟨u3, rfl, hu3, hs3⟩
          have HA3 : Hid (Nm w3 a1 V) := HA2.out.same hs3
          have HS3 : Hid (Same w w3) := HS2.out.trans hs3
          have HU3 : Hid (Na w3 u3 3 0) := hu3
          clear HA2 HS2 hs3 hu3
          go_wp2_with fail
          refine (prime_any u3 3 0 w3 (by omega) (by omega) HU3.out).mono ?_
          rintro e w4 ⟨c4, rfl, hc4, hs4⟩
          have HA4 : Hid (Nm w4 a1 V) := HA3.out.same hs4
          have HS4 : Hid (Same w w4) := HS3.out.trans hs4
          rcases hc4 with ⟨-, hc4⟩ | ⟨rfl, -⟩
          · exact absurd hc4.1 (by omega)
          clear HA3 HS3 HU3 hs4
          rcases HA4.out.open with ⟨h0, rfl⟩ | ⟨h0, b, off, cap, rfl, hcap, hp, hR, -⟩
          · omega
          · go_wp2_with fail
            refine (ownNat_exact (dl V) b off cap V w4 hp (by omega) hcap hR).mono ?_
            rintro e w5 ⟨B5, rfl, hR5, -, hs5⟩
            obtain ⟨c6, w6, hap, hv6, hs6⟩ := run_two (dl V) B5 V w5 (by omega) (lt_dl V) hR5
            have HV6 : Hid (Na w6 _ (dl V + 2) V) := hv6
            have HS6 : Hid (Same w w6) := (HS4.out.trans hs5).trans hs6
            clear hv6 hs6 hs5 hR5 hR HA4
            obtain ⟨L2, HL2⟩ : ∃ L2, Hid (L2 = dl V + 2) := ⟨_, rfl⟩
            rw [← HL2.out] at hap HV6
            have hL2 : L2 ≤ 6 := by have := HL2.out; omega
            go_wp2_with (first | (refine wpList_bs2 (by rfl) ?_) | (refine wpList_app2 (by rfl) (by rfl) (by rfl) hap ?_))
            refine (prime_any _ L2 V w6 (by omega) (by omega) HV6.out).mono ?_
            rintro e w7 ⟨c7, rfl, hc7, hs7⟩
            rcases hc7 with ⟨-, hc7⟩ | ⟨rfl, -⟩
            · exact absurd hc7 HT.out
            go_wp2_with fail
            go_ret
            exact ⟨rfl, HS6.out.trans hs7⟩
        | true =>
          have hI5 : I < 65536 := by
            rcases Nat.lt_or_ge I 65536 with h | h
            · exact h
            · have h1 := Nat.mul_le_mul h h
              have h2 := HQ.out
              omega
          obtain ⟨R, HR⟩ : ∃ R, Hid (R = V % I) := ⟨_, rfl⟩
          have eR : (V : Int) % (I : Int) = (R : Int) := by rw [HR.out]; rfl
          have e2 : (I : Int) + 2 = ((2 * (j + 1) + 3 : Nat) : Int) := by have := HI.out; omega
          by_cases hr : R = 0
          · have HSn2 : Hid (Seen V (j + 1) false) := Seen.off (by rw [← HI.out, ← HQ.out]; exact hqv) (by rw [← HI.out, ← HR.out]; exact hr)
            subst hr
            rw [Int.natCast_zero] at eR
            go_wp2_with fail
            go_round
            case rel => exact ⟨false, j + 1, rfl, by first | rfl | rw [e2], by have := HI.out; omega, HSn2⟩
            case measure => simp [intOf]; omega
          · have HSn2 : Hid (Seen V (j + 1) true) := HSn.out.more (by rw [← HI.out, ← HR.out]; exact hr)
            have hrb : ((R : Int) != 0) = true := by simp [bne]; omega
            go_wp2_with fail
            go_round
            case rel => exact ⟨true, j + 1, by first | rfl | simp [hrb], by first | rfl | rw [e2], by have := HI.out; omega, HSn2⟩
            case measure => simp [intOf]; omega
      · cases b with
        | false =>
          have HT : Hid (¬ Prm V) := HSn.out.1 rfl
          clear hI0
          go_wp2_with fail
          refine (whole_any V w (by omega)).mono ?_
          rintro e w1 ⟨a1, rfl, ha1, -, hs1⟩
          have HA1 : Hid (Nm w1 a1 V) := ha1
          have HS1 : Hid (Same w w1) := hs1
          have hdV : dl V ≤ 4 := dl_le 4 _ (by omega)
          clear ha1 hs1
          go_wp2_with fail
          refine (prime_any a1 (dl V) V w1 (by omega) (by omega) HA1.out.na).mono ?_
          rintro e w2 ⟨c2, rfl, hc2, hs2⟩
          have HA2 : Hid (Nm w2 a1 V) := HA1.out.same hs2
          have HS2 : Hid (Same w w2) := HS1.out.trans hs2
          clear HA1 HS1 hs2
          rcases hc2 with ⟨-, hc2⟩ | ⟨rfl, -⟩
          · exact absurd hc2 HT.out
          go_wp2_with fail
          refine (under_three w2).mono ?_
          rintro e w3 ⟨u3, rfl, hu3, hs3⟩
          have HA3 : Hid (Nm w3 a1 V) := HA2.out.same hs3
          have HS3 : Hid (Same w w3) := HS2.out.trans hs3
          have HU3 : Hid (Na w3 u3 3 0) := hu3
          clear HA2 HS2 hs3 hu3
          go_wp2_with fail
          refine (prime_any u3 3 0 w3 (by omega) (by omega) HU3.out).mono ?_
          rintro e w4 ⟨c4, rfl, hc4, hs4⟩
          have HA4 : Hid (Nm w4 a1 V) := HA3.out.same hs4
          have HS4 : Hid (Same w w4) := HS3.out.trans hs4
          rcases hc4 with ⟨-, hc4⟩ | ⟨rfl, -⟩
          · exact absurd hc4.1 (by omega)
          clear HA3 HS3 HU3 hs4
          rcases HA4.out.open with ⟨h0, rfl⟩ | ⟨h0, b, off, cap, rfl, hcap, hp, hR, -⟩
          · omega
          · go_wp2_with fail
            refine (ownNat_exact (dl V) b off cap V w4 hp (by omega) hcap hR).mono ?_
            rintro e w5 ⟨B5, rfl, hR5, -, hs5⟩
            obtain ⟨c6, w6, hap, hv6, hs6⟩ := run_two (dl V) B5 V w5 (by omega) (lt_dl V) hR5
            have HV6 : Hid (Na w6 _ (dl V + 2) V) := hv6
            have HS6 : Hid (Same w w6) := (HS4.out.trans hs5).trans hs6
            clear hv6 hs6 hs5 hR5 hR HA4
            obtain ⟨L2, HL2⟩ : ∃ L2, Hid (L2 = dl V + 2) := ⟨_, rfl⟩
            rw [← HL2.out] at hap HV6
            have hL2 : L2 ≤ 6 := by have := HL2.out; omega
            go_wp2_with (first | (refine wpList_bs2 (by rfl) ?_) | (refine wpList_app2 (by rfl) (by rfl) (by rfl) hap ?_))
            refine (prime_any _ L2 V w6 (by omega) (by omega) HV6.out).mono ?_
            rintro e w7 ⟨c7, rfl, hc7, hs7⟩
            rcases hc7 with ⟨-, hc7⟩ | ⟨rfl, -⟩
            · exact absurd hc7 HT.out
            go_wp2_with fail
            go_ret
            exact ⟨rfl, HS6.out.trans hs7⟩
        | true =>
          have HT : Hid (Prm V) := HSn.out.done (by rw [← HI.out, ← HQ.out]; omega)
          clear hI0
          go_wp2_with fail
          refine (whole_any V w (by omega)).mono ?_
          rintro e w1 ⟨a1, rfl, ha1, -, hs1⟩
          have HA1 : Hid (Nm w1 a1 V) := ha1
          have HS1 : Hid (Same w w1) := hs1
          have hdV : dl V ≤ 4 := dl_le 4 _ (by omega)
          clear ha1 hs1
          go_wp2_with fail
          refine (prime_any a1 (dl V) V w1 (by omega) (by omega) HA1.out.na).mono ?_
          rintro e w2 ⟨c2, rfl, hc2, hs2⟩
          have HA2 : Hid (Nm w2 a1 V) := HA1.out.same hs2
          have HS2 : Hid (Same w w2) := HS1.out.trans hs2
          clear HA1 HS1 hs2
          rcases hc2 with ⟨rfl, -⟩ | ⟨-, hc2⟩
          rotate_left
          · exact absurd HT.out hc2
          go_wp2_with fail
          refine (under_three w2).mono ?_
          rintro e w3 ⟨u3, rfl, hu3, hs3⟩
          have HA3 : Hid (Nm w3 a1 V) := HA2.out.same hs3
          have HS3 : Hid (Same w w3) := HS2.out.trans hs3
          have HU3 : Hid (Na w3 u3 3 0) := hu3
          clear HA2 HS2 hs3 hu3
          go_wp2_with fail
          refine (prime_any u3 3 0 w3 (by omega) (by omega) HU3.out).mono ?_
          rintro e w4 ⟨c4, rfl, hc4, hs4⟩
          have HA4 : Hid (Nm w4 a1 V) := HA3.out.same hs4
          have HS4 : Hid (Same w w4) := HS3.out.trans hs4
          rcases hc4 with ⟨-, hc4⟩ | ⟨rfl, -⟩
          · exact absurd hc4.1 (by omega)
          clear HA3 HS3 HU3 hs4
          rcases HA4.out.open with ⟨h0, rfl⟩ | ⟨h0, b, off, cap, rfl, hcap, hp, hR, -⟩
          · exact absurd HT.out.1 (by omega)
          · go_wp2_with fail
            refine (ownNat_exact (dl V) b off cap V w4 hp (by omega) hcap hR).mono ?_
            rintro e w5 ⟨B5, rfl, hR5, -, hs5⟩
            obtain ⟨c6, w6, hap, hv6, hs6⟩ := run_two (dl V) B5 V w5 (by omega) (lt_dl V) hR5
            have HV6 : Hid (Na w6 _ (dl V + 2) V) := hv6
            have HS6 : Hid (Same w w6) := (HS4.out.trans hs5).trans hs6
            clear hv6 hs6 hs5 hR5 hR HA4
            obtain ⟨L2, HL2⟩ : ∃ L2, Hid (L2 = dl V + 2) := ⟨_, rfl⟩
            rw [← HL2.out] at hap HV6
            have hL2 : L2 ≤ 6 := by have := HL2.out; omega
            go_wp2_with (first | (refine wpList_bs2 (by rfl) ?_) | (refine wpList_app2 (by rfl) (by rfl) (by rfl) hap ?_))
            refine (prime_any _ L2 V w6 (by omega) (by omega) HV6.out).mono ?_
            rintro e w7 ⟨c7, rfl, hc7, hs7⟩
            rcases hc7 with ⟨rfl, -⟩ | ⟨-, hc7⟩
            rotate_left
            · exact absurd HT.out hc7
            go_wp2_with fail
            go_ret
            exact ⟨rfl, HS6.out.trans hs7⟩
  · have hn2 : ((V : Int) == 2) = false := by rw [beq_eq_false_iff_ne]; omega
    go_wp2_with fail
    go_loop [3, 4] (fun p i => ∃ (b : Bool) (j : Nat), p = .bool b ∧ i = .int .u64 ((2 * j + 3 : Nat) : Int) ∧ j ≤ 33000 ∧ Hid (Seen V j b)) (fun _ i => (70000 - intOf i).toNat)
    case atStart => exact ⟨_, 0, rfl, rfl, by omega, Hb0⟩
    case round =>
      obtain ⟨b, j, rfl, rfl, hj, HSn⟩ := hrel
      obtain ⟨I, HI⟩ : ∃ I, Hid (I = 2 * j + 3) := ⟨_, rfl⟩
      obtain ⟨Q, HQ⟩ : ∃ Q, Hid (Q = I * I) := ⟨_, rfl⟩
      rw [← HI.out]
      have hI3 : 3 ≤ I := by have := HI.out; omega
      have hI4 : I ≤ 66003 := by have := HI.out; omega
      have hQ4 : Q ≤ 66003 * 66003 := by rw [HQ.out]; exact Nat.mul_le_mul hI4 hI4
      have hQ9 : 9 ≤ Q := by rw [HQ.out]; exact Nat.mul_le_mul hI3 hI3
      have eQ : (I : Int) * (I : Int) = (Q : Int) := by rw [HQ.out, Int.natCast_mul]
      have hI0 : ((I : Int) == 0) = false := by rw [beq_eq_false_iff_ne]; omega
      by_cases hqv : Q ≤ V
      · cases b with
        | false =>
          have HT : Hid (¬ Prm V) := HSn.out.1 rfl
          clear hI0
          go_wp2_with fail
          refine (whole_any V w (by omega)).mono ?_
          rintro e w1 ⟨a1, rfl, ha1, -, hs1⟩
          have HA1 : Hid (Nm w1 a1 V) := ha1
          have HS1 : Hid (Same w w1) := hs1
          have hdV : dl V ≤ 4 := dl_le 4 _ (by omega)
          clear ha1 hs1
          go_wp2_with fail
          refine (prime_any a1 (dl V) V w1 (by omega) (by omega) HA1.out.na).mono ?_
          rintro e w2 ⟨c2, rfl, hc2, hs2⟩
          have HA2 : Hid (Nm w2 a1 V) := HA1.out.same hs2
          have HS2 : Hid (Same w w2) := HS1.out.trans hs2
          clear HA1 HS1 hs2
          rcases hc2 with ⟨-, hc2⟩ | ⟨rfl, -⟩
          · exact absurd hc2 HT.out
          go_wp2_with fail
          refine (under_three w2).mono ?_
          rintro e w3 ⟨u3, rfl, hu3, hs3⟩
          have HA3 : Hid (Nm w3 a1 V) := HA2.out.same hs3
          have HS3 : Hid (Same w w3) := HS2.out.trans hs3
          have HU3 : Hid (Na w3 u3 3 0) := hu3
          clear HA2 HS2 hs3 hu3
          go_wp2_with fail
          refine (prime_any u3 3 0 w3 (by omega) (by omega) HU3.out).mono ?_
          rintro e w4 ⟨c4, rfl, hc4, hs4⟩
          have HA4 : Hid (Nm w4 a1 V) := HA3.out.same hs4
          have HS4 : Hid (Same w w4) := HS3.out.trans hs4
          rcases hc4 with ⟨-, hc4⟩ | ⟨rfl, -⟩
          · exact absurd hc4.1 (by omega)
          clear HA3 HS3 HU3 hs4
          rcases HA4.out.open with ⟨h0, rfl⟩ | ⟨h0, b, off, cap, rfl, hcap, hp, hR, -⟩
          · omega
          · go_wp2_with fail
            refine (ownNat_exact (dl V) b off cap V w4 hp (by omega) hcap hR).mono ?_
            rintro e w5 ⟨B5, rfl, hR5, -, hs5⟩
            obtain ⟨c6, w6, hap, hv6, hs6⟩ := run_two (dl V) B5 V w5 (by omega) (lt_dl V) hR5
            have HV6 : Hid (Na w6 _ (dl V + 2) V) := hv6
            have HS6 : Hid (Same w w6) := (HS4.out.trans hs5).trans hs6
            clear hv6 hs6 hs5 hR5 hR HA4
            obtain ⟨L2, HL2⟩ : ∃ L2, Hid (L2 = dl V + 2) := ⟨_, rfl⟩
            rw [← HL2.out] at hap HV6
            have hL2 : L2 ≤ 6 := by have := HL2.out; omega
            go_wp2_with (first | (refine wpList_bs2 (by rfl) ?_) | (refine wpList_app2 (by rfl) (by rfl) (by rfl) hap ?_))
            refine (prime_any _ L2 V w6 (by omega) (by omega) HV6.out).mono ?_
            rintro e w7 ⟨c7, rfl, hc7, hs7⟩
            rcases hc7 with ⟨-, hc7⟩ | ⟨rfl, -⟩
            · exact absurd hc7 HT.out
            go_wp2_with fail
            go_ret
            exact ⟨rfl, HS6.out.trans hs7⟩
        | true =>
          have hI5 : I < 65536 := by
            rcases Nat.lt_or_ge I 65536 with h | h
            · exact h
            · have h1 := Nat.mul_le_mul h h
              have h2 := HQ.out
              omega
          obtain ⟨R, HR⟩ : ∃ R, Hid (R = V % I) := ⟨_, rfl⟩
          have eR : (V : Int) % (I : Int) = (R : Int) := by rw [HR.out]; rfl
          have e2 : (I : Int) + 2 = ((2 * (j + 1) + 3 : Nat) : Int) := by have := HI.out; omega
          by_cases hr : R = 0
          · have HSn2 : Hid (Seen V (j + 1) false) := Seen.off (by rw [← HI.out, ← HQ.out]; exact hqv) (by rw [← HI.out, ← HR.out]; exact hr)
            subst hr
            rw [Int.natCast_zero] at eR
            go_wp2_with fail
            go_round
            case rel => exact ⟨false, j + 1, rfl, by first | rfl | rw [e2], by have := HI.out; omega, HSn2⟩
            case measure => simp [intOf]; omega
          · have HSn2 : Hid (Seen V (j + 1) true) := HSn.out.more (by rw [← HI.out, ← HR.out]; exact hr)
            have hrb : ((R : Int) != 0) = true := by simp [bne]; omega
            go_wp2_with fail
            go_round
            case rel => exact ⟨true, j + 1, by first | rfl | simp [hrb], by first | rfl | rw [e2], by have := HI.out; omega, HSn2⟩
            case measure => simp [intOf]; omega
      · cases b with
        | false =>
          have HT : Hid (¬ Prm V) := HSn.out.1 rfl
          clear hI0
          go_wp2_with fail
          refine (whole_any V w (by omega)).mono ?_
          rintro e w1 ⟨a1, rfl, ha1, -, hs1⟩
          have HA1 : Hid (Nm w1 a1 V) := ha1
          have HS1 : Hid (Same w w1) := hs1
          have hdV : dl V ≤ 4 := dl_le 4 _ (by omega)
          clear ha1 hs1
          go_wp2_with fail
          refine (prime_any a1 (dl V) V w1 (by omega) (by omega) HA1.out.na).mono ?_
          rintro e w2 ⟨c2, rfl, hc2, hs2⟩
          have HA2 : Hid (Nm w2 a1 V) := HA1.out.same hs2
          have HS2 : Hid (Same w w2) := HS1.out.trans hs2
          clear HA1 HS1 hs2
          rcases hc2 with ⟨-, hc2⟩ | ⟨rfl, -⟩
          · exact absurd hc2 HT.out
          go_wp2_with fail
          refine (under_three w2).mono ?_
          rintro e w3 ⟨u3, rfl, hu3, hs3⟩
          have HA3 : Hid (Nm w3 a1 V) := HA2.out.same hs3
          have HS3 : Hid (Same w w3) := HS2.out.trans hs3
          have HU3 : Hid (Na w3 u3 3 0) := hu3
          clear HA2 HS2 hs3 hu3
          go_wp2_with fail
          refine (prime_any u3 3 0 w3 (by omega) (by omega) HU3.out).mono ?_
          rintro e w4 ⟨c4, rfl, hc4, hs4⟩
          have HA4 : Hid (Nm w4 a1 V) := HA3.out.same hs4
          have HS4 : Hid (Same w w4) := HS3.out.trans hs4
          rcases hc4 with ⟨-, hc4⟩ | ⟨rfl, -⟩
          · exact absurd hc4.1 (by omega)
          clear HA3 HS3 HU3 hs4
          rcases HA4.out.open with ⟨h0, rfl⟩ | ⟨h0, b, off, cap, rfl, hcap, hp, hR, -⟩
          · omega
          · go_wp2_with fail
            refine (ownNat_exact (dl V) b off cap V w4 hp (by omega) hcap hR).mono ?_
            rintro e w5 ⟨B5, rfl, hR5, -, hs5⟩
            obtain ⟨c6, w6, hap, hv6, hs6⟩ := run_two (dl V) B5 V w5 (by omega) (lt_dl V) hR5
            have HV6 : Hid (Na w6 _ (dl V + 2) V) := hv6
            have HS6 : Hid (Same w w6) := (HS4.out.trans hs5).trans hs6
            clear hv6 hs6 hs5 hR5 hR HA4
            obtain ⟨L2, HL2⟩ : ∃ L2, Hid (L2 = dl V + 2) := ⟨_, rfl⟩
            rw [← HL2.out] at hap HV6
            have hL2 : L2 ≤ 6 := by have := HL2.out; omega
            go_wp2_with (first | (refine wpList_bs2 (by rfl) ?_) | (refine wpList_app2 (by rfl) (by rfl) (by rfl) hap ?_))
            refine (prime_any _ L2 V w6 (by omega) (by omega) HV6.out).mono ?_
            rintro e w7 ⟨c7, rfl, hc7, hs7⟩
            rcases hc7 with ⟨-, hc7⟩ | ⟨rfl, -⟩
            · exact absurd hc7 HT.out
            go_wp2_with fail
            go_ret
            exact ⟨rfl, HS6.out.trans hs7⟩
        | true =>
          have HT : Hid (Prm V) := HSn.out.done (by rw [← HI.out, ← HQ.out]; omega)
          clear hI0
          go_wp2_with fail
          refine (whole_any V w (by omega)).mono ?_
          rintro e w1 ⟨a1, rfl, ha1, -, hs1⟩
          have HA1 : Hid (Nm w1 a1 V) := ha1
          have HS1 : Hid (Same w w1) := hs1
          have hdV : dl V ≤ 4 := dl_le 4 _ (by omega)
          clear ha1 hs1
          go_wp2_with fail
          refine (prime_any a1 (dl V) V w1 (by omega) (by omega) HA1.out.na).mono ?_
          rintro e w2 ⟨c2, rfl, hc2, hs2⟩
          have HA2 : Hid (Nm w2 a1 V) := HA1.out.same hs2
          have HS2 : Hid (Same w w2) := HS1.out.trans hs2
          clear HA1 HS1 hs2
          rcases hc2 with ⟨rfl, -⟩ | ⟨-, hc2⟩
          rotate_left
          · exact absurd HT.out hc2
          go_wp2_with fail
          refine (under_three w2).mono ?_
          rintro e w3 ⟨u3, rfl, hu3, hs3⟩
          have HA3 : Hid (Nm w3 a1 V) := HA2.out.same hs3
          have HS3 : Hid (Same w w3) := HS2.out.trans hs3
          have HU3 : Hid (Na w3 u3 3 0) := hu3
          clear HA2 HS2 hs3 hu3
          go_wp2_with fail
          refine (prime_any u3 3 0 w3 (by omega) (by omega) HU3.out).mono ?_
          rintro e w4 ⟨c4, rfl, hc4, hs4⟩
          have HA4 : Hid (Nm w4 a1 V) := HA3.out.same hs4
          have HS4 : Hid (Same w w4) := HS3.out.trans hs4
          rcases hc4 with ⟨-, hc4⟩ | ⟨rfl, -⟩
          · exact absurd hc4.1 (by omega)
          clear HA3 HS3 HU3 hs4
          rcases HA4.out.open with ⟨h0, rfl⟩ | ⟨h0, b, off, cap, rfl, hcap, hp, hR, -⟩
          · exact absurd HT.out.1 (by omega)
          · go_wp2_with fail
            refine (ownNat_exact (dl V) b off cap V w4 hp (by omega) hcap hR).mono ?_
            rintro e w5 ⟨B5, rfl, hR5, -, hs5⟩
            obtain ⟨c6, w6, hap, hv6, hs6⟩ := run_two (dl V) B5 V w5 (by omega) (lt_dl V) hR5
            have HV6 : Hid (Na w6 _ (dl V + 2) V) := hv6
            have HS6 : Hid (Same w w6) := (HS4.out.trans hs5).trans hs6
            clear hv6 hs6 hs5 hR5 hR HA4
            obtain ⟨L2, HL2⟩ : ∃ L2, Hid (L2 = dl V + 2) := ⟨_, rfl⟩
            rw [← HL2.out] at hap HV6
            have hL2 : L2 ≤ 6 := by have := HL2.out; omega
            go_wp2_with (first | (refine wpList_bs2 (by rfl) ?_) | (refine wpList_app2 (by rfl) (by rfl) (by rfl) hap ?_))
            refine (prime_any _ L2 V w6 (by omega) (by omega) HV6.out).mono ?_
            rintro e w7 ⟨c7, rfl, hc7, hs7⟩
            rcases hc7 with ⟨rfl, -⟩ | ⟨-, hc7⟩
            rotate_left
            · exact absurd HT.out hc7
            go_wp2_with fail
            go_ret
            exact ⟨rfl, HS6.out.trans hs7⟩

theorem walk (a0 : Int) (w0 : (Lit.int .u32 a0).wf = true) (w : World) :
    Calls Tajg.prog 8 #[.int .u32 a0] w fun e w' => e = .returned (.bool true) ∧ Below w.heap.size w w' := by
  have b1 := bounds_u32 w0
  obtain ⟨V, rfl⟩ : ∃ V : Nat, a0 = (V : Int) := ⟨a0.toNat, by omega⟩
  exact (main V w (by omega)).mono fun e w' ⟨he, hs⟩ => ⟨he, Chg.below (Nat.le_refl _) (Same.chg hs)⟩
end Go.Proofs.Ygctaj.primeRight
