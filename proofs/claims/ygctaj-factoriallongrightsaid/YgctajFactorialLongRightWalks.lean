import Derived.Test.YgctajFactorial
import Derived.Test.YgctajWhole
import Derived.OpenShut
import Derived.Below
namespace Go.Proofs.Ygctaj.factorialLongRight
open Go.RowKit Mem Nt Long
set_option linter.unusedVariables false

theorem whole_anyX (V : Nat) (X : Int) (w : World) (hV : V < 18446744073709551616) (hX : (V : Int) = X) :
    Calls Tajg.prog 24 #[.int .u64 X] w fun e w' => ∃ v', e = .returned v' ∧ Nm w' v' V ∧ Fr w.heap.size w' v' ∧ Same w w' := by
  subst hX; exact whole_any V w hV

set_option maxRecDepth 100000 in
set_option maxHeartbeats 2000000 in
theorem main (X M : Int) (w : World) (x0 : 0 ≤ X) (x1 : X < 18446744073709551616) (m0 : -9223372036854775808 ≤ M) (m1 : M < 9223372036854775808) :
    Calls Tajg.prog 4 #[.int .u64 X, .int .i64 M] w fun e w' => e = .returned (.bool true) ∧ Same w w' := by
  obtain ⟨E, HX⟩ : ∃ E : Nat, Hid (X = (E : Int)) := ⟨X.toNat, by show X = _; omega⟩
  have HE : Hid (E < 18446744073709551616) := by have := HX.out; show _ < _; omega
  have hE := @run_eql_slice_nil Tajg.prog 24 _ Tajg.underlying24
  go_enter Tajg.func4, Tajg.ntmps4
  by_cases hM : 4096 < M
  · go_wp2_with fail
    obtain ⟨M', hM', h4, m2⟩ : ∃ M' : Int, Value.int IntKind.i64 4096 = .int .i64 M' ∧ M' ≤ 4096 ∧ -9223372036854775808 ≤ M' := ⟨4096, rfl, by omega, by omega⟩
    rw [hM']
    clear hM' hM m0 m1
    by_cases hM1 : M' < 1
    · refine (factorial_none X M' w hM1).mono ?_
      rintro e w4 ⟨rfl, rfl⟩
      have hg : decide ((1 : Int) ≤ M') = false := by simp; omega
      go_wp2_with fail
      go_loopw [7, 8] (fun o i wr => o = .slice (some ⟨w4.heap.size, 0, none⟩) 1 1 ∧ i = .int .u64 1 ∧ Same w4 wr) (fun _ _ _ => 0)
      case atStart => exact ⟨rfl, rfl, (Chg.refl _ _).alloc _⟩
      case round =>
        obtain ⟨rfl, rfl, hS⟩ := hrel
        by_cases hx1 : 1 ≤ X
        all_goals
          go_wp2_with fail
          go_ret
          exact ⟨rfl, hS⟩
    · obtain ⟨m, rfl⟩ : ∃ m : Nat, M' = (m : Int) := ⟨M'.toNat, by omega⟩
      have hm1 : 1 ≤ m := by omega
      have hm4 : m ≤ 4096 := by omega
      clear hM1 h4 m2
      refine (factorial_any E m X w HX.out HE.out hm1 hm4).mono ?_
      rintro e w4 ⟨hans, hS4⟩
      rcases hans with ⟨hd, g, rfl, hg⟩ | ⟨hd, rfl⟩
      · have HD : Hid (dl (fa E) ≤ m) := hd
        clear hd
        go_wp2_with fail
        go_loopw [7, 8] (fun o i wr => ∃ j : Nat, Hid (j ≤ E) ∧ i = .int .u64 ((j : Int) + 1) ∧ Nm wr o (fa j) ∧ Same w4 wr) (fun _ i _ => E + 1 - (intOf i).toNat)
        case atStart => exact ⟨0, Nat.zero_le _, rfl, one_nm _ _, (Chg.refl _ _).alloc _⟩
        case round =>
          obtain ⟨j, HJ, rfl, hO, hSr⟩ := hrel
          have hS := hS4.trans hSr
          obtain ⟨J, HJJ⟩ : ∃ J : Int, Hid ((j : Int) + 1 = J) := ⟨_, rfl⟩
          rw [HJJ.out]
          have hj0 : 0 ≤ J := by have := HJJ.out; omega
          by_cases hj : j < E
          · have ht : J ≤ X := by have h1 := HX.out; have h2 := HJJ.out; omega
            by_cases hdj : dl (fa j) ≤ m
            · have hO2 := hO.na
              obtain ⟨a, ca, rfl, hca, -, -⟩ := hO.na
              have hj1 : J ≤ 40000 := by
                have h2 := HJJ.out
                have h3 : ¬ 8 * m < j := fun h => absurd (fa_big j m h) (by omega)
                omega
              have hqm : dl (fa j) ≤ 4096 := by omega
              have HJ1 : Hid (j + 1 ≤ E) := hj
              clear hO hj HJ
              generalize hL : dl (fa j) = L at *
              go_wp2_with fail
              refine (whole_anyX (j + 1) J wr (by have h1 := HE.out; have h2 := HJ1.out; omega) (by have := HJJ.out; omega)).mono ?_
              rintro e w8 ⟨o8, rfl, hO8, -, hS8⟩
              have hO3 := hO2.same hS8
              have hd8 : dl (j + 1) ≤ 8 := dl_le 8 _ (by have h1 := HE.out; have h2 := HJ1.out; omega)
              clear hO2
              go_wp2_with fail
              refine (mul_any _ o8 L (dl (j + 1)) (fa j) (j + 1) w8 (by omega) (by omega) hO3 hO8.na).mono ?_
              rintro e w9 ⟨o9, rfl, hO9, -, hS9⟩
              have hO9 : Nm w9 o9 (fa (j + 1)) := by rw [Nat.mul_comm] at hO9; exact hO9
              go_wp2_with fail
              go_roundw
              case rel => exact ⟨j + 1, HJ1, by rw [← HJJ.out]; go_num, hO9, (hSr.trans hS8).trans hS9⟩
              case measure =>
                have h2 := HJJ.out
                have h3 := HJ1.out
                simp only [intOf]; omega
            · exact absurd (dl_mono (fa_mono (show j ≤ E by omega))) (by have := HD.out; omega)
          · have hjE : j = E := by have := HJ.out; omega
            rw [hjE] at hO
            have ht : X < J := by have h1 := HX.out; have h2 := HJJ.out; omega
            have HO : Hid (Nm wr _ (fa E)) := hO
            obtain ⟨a, ca, rfl, hca, -, -⟩ := hO.na
            have hdm : dl (fa E) ≤ m := HD.out
            clear hO
            generalize hL : dl (fa E) = L at *
            go_wp2_with fail
            refine (answers_any g _ (fa E) wr (by rw [hL]; have := HD.out; omega) (hg.same hSr) HO.out).mono ?_
            rintro e w9 ⟨rfl, hS9⟩
            go_wp2_with fail
            go_ret
            exact ⟨rfl, hS.trans hS9⟩
      · have HD : Hid (m < dl (fa E)) := hd
        clear hd
        go_wp2_with fail
        go_loopw [7, 8] (fun o i wr => ∃ j : Nat, Hid (j ≤ E) ∧ i = .int .u64 ((j : Int) + 1) ∧ Nm wr o (fa j) ∧ Same w4 wr) (fun _ i _ => E + 1 - (intOf i).toNat)
        case atStart => exact ⟨0, Nat.zero_le _, rfl, one_nm _ _, (Chg.refl _ _).alloc _⟩
        case round =>
          obtain ⟨j, HJ, rfl, hO, hSr⟩ := hrel
          have hS := hS4.trans hSr
          obtain ⟨J, HJJ⟩ : ∃ J : Int, Hid ((j : Int) + 1 = J) := ⟨_, rfl⟩
          rw [HJJ.out]
          have hj0 : 0 ≤ J := by have := HJJ.out; omega
          by_cases hj : j < E
          · have ht : J ≤ X := by have h1 := HX.out; have h2 := HJJ.out; omega
            by_cases hdj : dl (fa j) ≤ m
            · have hO2 := hO.na
              obtain ⟨a, ca, rfl, hca, -, -⟩ := hO.na
              have hj1 : J ≤ 40000 := by
                have h2 := HJJ.out
                have h3 : ¬ 8 * m < j := fun h => absurd (fa_big j m h) (by omega)
                omega
              have hqm : dl (fa j) ≤ 4096 := by omega
              have HJ1 : Hid (j + 1 ≤ E) := hj
              clear hO hj HJ
              generalize hL : dl (fa j) = L at *
              go_wp2_with fail
              refine (whole_anyX (j + 1) J wr (by have h1 := HE.out; have h2 := HJ1.out; omega) (by have := HJJ.out; omega)).mono ?_
              rintro e w8 ⟨o8, rfl, hO8, -, hS8⟩
              have hO3 := hO2.same hS8
              have hd8 : dl (j + 1) ≤ 8 := dl_le 8 _ (by have h1 := HE.out; have h2 := HJ1.out; omega)
              clear hO2
              go_wp2_with fail
              refine (mul_any _ o8 L (dl (j + 1)) (fa j) (j + 1) w8 (by omega) (by omega) hO3 hO8.na).mono ?_
              rintro e w9 ⟨o9, rfl, hO9, -, hS9⟩
              have hO9 : Nm w9 o9 (fa (j + 1)) := by rw [Nat.mul_comm] at hO9; exact hO9
              go_wp2_with fail
              go_roundw
              case rel => exact ⟨j + 1, HJ1, by rw [← HJJ.out]; go_num, hO9, (hSr.trans hS8).trans hS9⟩
              case measure =>
                have h2 := HJJ.out
                have h3 := HJ1.out
                simp only [intOf]; omega
            · obtain ⟨a, ca, rfl, hca, -, -⟩ := hO.na
              clear hO
              generalize dl (fa j) = L at *
              go_wp2_with fail
              go_ret
              exact ⟨rfl, hS⟩
          · have hjE : j = E := by have := HJ.out; omega
            rw [hjE] at hO
            have ht : X < J := by have h1 := HX.out; have h2 := HJJ.out; omega
            obtain ⟨a, ca, rfl, hca, -, -⟩ := hO.na
            have hdm : m < dl (fa E) := HD.out
            clear hO
            generalize dl (fa E) = L at *
            go_wp2_with fail
            go_ret
            exact ⟨rfl, hS⟩
  · obtain ⟨M', rfl⟩ : ∃ M', M' = M := ⟨M, rfl⟩
    have h4 : M' ≤ 4096 := by omega
    have m2 : -9223372036854775808 ≤ M' := m0
    clear hM m0 m1
    go_wp2_with fail
    by_cases hM1 : M' < 1
    · refine (factorial_none X M' w hM1).mono ?_
      rintro e w4 ⟨rfl, rfl⟩
      have hg : decide ((1 : Int) ≤ M') = false := by simp; omega
      go_wp2_with fail
      go_loopw [7, 8] (fun o i wr => o = .slice (some ⟨w4.heap.size, 0, none⟩) 1 1 ∧ i = .int .u64 1 ∧ Same w4 wr) (fun _ _ _ => 0)
      case atStart => exact ⟨rfl, rfl, (Chg.refl _ _).alloc _⟩
      case round =>
        obtain ⟨rfl, rfl, hS⟩ := hrel
        by_cases hx1 : 1 ≤ X
        all_goals
          go_wp2_with fail
          go_ret
          exact ⟨rfl, hS⟩
    · obtain ⟨m, rfl⟩ : ∃ m : Nat, M' = (m : Int) := ⟨M'.toNat, by omega⟩
      have hm1 : 1 ≤ m := by omega
      have hm4 : m ≤ 4096 := by omega
      clear hM1 h4 m2
      refine (factorial_any E m X w HX.out HE.out hm1 hm4).mono ?_
      rintro e w4 ⟨hans, hS4⟩
      rcases hans with ⟨hd, g, rfl, hg⟩ | ⟨hd, rfl⟩
      · have HD : Hid (dl (fa E) ≤ m) := hd
        clear hd
        go_wp2_with fail
        go_loopw [7, 8] (fun o i wr => ∃ j : Nat, Hid (j ≤ E) ∧ i = .int .u64 ((j : Int) + 1) ∧ Nm wr o (fa j) ∧ Same w4 wr) (fun _ i _ => E + 1 - (intOf i).toNat)
        case atStart => exact ⟨0, Nat.zero_le _, rfl, one_nm _ _, (Chg.refl _ _).alloc _⟩
        case round =>
          obtain ⟨j, HJ, rfl, hO, hSr⟩ := hrel
          have hS := hS4.trans hSr
          obtain ⟨J, HJJ⟩ : ∃ J : Int, Hid ((j : Int) + 1 = J) := ⟨_, rfl⟩
          rw [HJJ.out]
          have hj0 : 0 ≤ J := by have := HJJ.out; omega
          by_cases hj : j < E
          · have ht : J ≤ X := by have h1 := HX.out; have h2 := HJJ.out; omega
            by_cases hdj : dl (fa j) ≤ m
            · have hO2 := hO.na
              obtain ⟨a, ca, rfl, hca, -, -⟩ := hO.na
              have hj1 : J ≤ 40000 := by
                have h2 := HJJ.out
                have h3 : ¬ 8 * m < j := fun h => absurd (fa_big j m h) (by omega)
                omega
              have hqm : dl (fa j) ≤ 4096 := by omega
              have HJ1 : Hid (j + 1 ≤ E) := hj
              clear hO hj HJ
              generalize hL : dl (fa j) = L at *
              go_wp2_with fail
              refine (whole_anyX (j + 1) J wr (by have h1 := HE.out; have h2 := HJ1.out; omega) (by have := HJJ.out; omega)).mono ?_
              rintro e w8 ⟨o8, rfl, hO8, -, hS8⟩
              have hO3 := hO2.same hS8
              have hd8 : dl (j + 1) ≤ 8 := dl_le 8 _ (by have h1 := HE.out; have h2 := HJ1.out; omega)
              clear hO2
              go_wp2_with fail
              refine (mul_any _ o8 L (dl (j + 1)) (fa j) (j + 1) w8 (by omega) (by omega) hO3 hO8.na).mono ?_
              rintro e w9 ⟨o9, rfl, hO9, -, hS9⟩
              have hO9 : Nm w9 o9 (fa (j + 1)) := by rw [Nat.mul_comm] at hO9; exact hO9
              go_wp2_with fail
              go_roundw
              case rel => exact ⟨j + 1, HJ1, by rw [← HJJ.out]; go_num, hO9, (hSr.trans hS8).trans hS9⟩
              case measure =>
                have h2 := HJJ.out
                have h3 := HJ1.out
                simp only [intOf]; omega
            · exact absurd (dl_mono (fa_mono (show j ≤ E by omega))) (by have := HD.out; omega)
          · have hjE : j = E := by have := HJ.out; omega
            rw [hjE] at hO
            have ht : X < J := by have h1 := HX.out; have h2 := HJJ.out; omega
            have HO : Hid (Nm wr _ (fa E)) := hO
            obtain ⟨a, ca, rfl, hca, -, -⟩ := hO.na
            have hdm : dl (fa E) ≤ m := HD.out
            clear hO
            generalize hL : dl (fa E) = L at *
            go_wp2_with fail
            refine (answers_any g _ (fa E) wr (by rw [hL]; have := HD.out; omega) (hg.same hSr) HO.out).mono ?_
            rintro e w9 ⟨rfl, hS9⟩
            go_wp2_with fail
            go_ret
            exact ⟨rfl, hS.trans hS9⟩
      · have HD : Hid (m < dl (fa E)) := hd
        clear hd
        go_wp2_with fail
        go_loopw [7, 8] (fun o i wr => ∃ j : Nat, Hid (j ≤ E) ∧ i = .int .u64 ((j : Int) + 1) ∧ Nm wr o (fa j) ∧ Same w4 wr) (fun _ i _ => E + 1 - (intOf i).toNat)
        case atStart => exact ⟨0, Nat.zero_le _, rfl, one_nm _ _, (Chg.refl _ _).alloc _⟩
        case round =>
          obtain ⟨j, HJ, rfl, hO, hSr⟩ := hrel
          have hS := hS4.trans hSr
          obtain ⟨J, HJJ⟩ : ∃ J : Int, Hid ((j : Int) + 1 = J) := ⟨_, rfl⟩
          rw [HJJ.out]
          have hj0 : 0 ≤ J := by have := HJJ.out; omega
          by_cases hj : j < E
          · have ht : J ≤ X := by have h1 := HX.out; have h2 := HJJ.out; omega
            by_cases hdj : dl (fa j) ≤ m
            · have hO2 := hO.na
              obtain ⟨a, ca, rfl, hca, -, -⟩ := hO.na
              have hj1 : J ≤ 40000 := by
                have h2 := HJJ.out
                have h3 : ¬ 8 * m < j := fun h => absurd (fa_big j m h) (by omega)
                omega
              have hqm : dl (fa j) ≤ 4096 := by omega
              have HJ1 : Hid (j + 1 ≤ E) := hj
              clear hO hj HJ
              generalize hL : dl (fa j) = L at *
              go_wp2_with fail
              refine (whole_anyX (j + 1) J wr (by have h1 := HE.out; have h2 := HJ1.out; omega) (by have := HJJ.out; omega)).mono ?_
              rintro e w8 ⟨o8, rfl, hO8, -, hS8⟩
              have hO3 := hO2.same hS8
              have hd8 : dl (j + 1) ≤ 8 := dl_le 8 _ (by have h1 := HE.out; have h2 := HJ1.out; omega)
              clear hO2
              go_wp2_with fail
              refine (mul_any _ o8 L (dl (j + 1)) (fa j) (j + 1) w8 (by omega) (by omega) hO3 hO8.na).mono ?_
              rintro e w9 ⟨o9, rfl, hO9, -, hS9⟩
              have hO9 : Nm w9 o9 (fa (j + 1)) := by rw [Nat.mul_comm] at hO9; exact hO9
              go_wp2_with fail
              go_roundw
              case rel => exact ⟨j + 1, HJ1, by rw [← HJJ.out]; go_num, hO9, (hSr.trans hS8).trans hS9⟩
              case measure =>
                have h2 := HJJ.out
                have h3 := HJ1.out
                simp only [intOf]; omega
            · obtain ⟨a, ca, rfl, hca, -, -⟩ := hO.na
              clear hO
              generalize dl (fa j) = L at *
              go_wp2_with fail
              go_ret
              exact ⟨rfl, hS⟩
          · have hjE : j = E := by have := HJ.out; omega
            rw [hjE] at hO
            have ht : X < J := by have h1 := HX.out; have h2 := HJJ.out; omega
            obtain ⟨a, ca, rfl, hca, -, -⟩ := hO.na
            have hdm : m < dl (fa E) := HD.out
            clear hO
            generalize dl (fa E) = L at *
            go_wp2_with fail
            go_ret
            exact ⟨rfl, hS⟩

theorem walk (a0 : Int) (a1 : Int) (w0 : (Lit.int .u64 a0).wf = true) (w1 : (Lit.int .i64 a1).wf = true) (w : World) :
    Calls Tajg.prog 4 #[.int .u64 a0, .int .i64 a1] w fun e w' => e = .returned (.bool true) ∧ Below w.heap.size w w' := by
  have b1 := bounds_u64 w0
  have b2 := bounds_i64 w1
  exact (main a0 a1 w (by omega) (by omega) (by omega) (by omega)).mono fun e w' ⟨he, hs⟩ => ⟨he, Chg.below (Nat.le_refl _) (Same.chg hs)⟩
end Go.Proofs.Ygctaj.factorialLongRight
