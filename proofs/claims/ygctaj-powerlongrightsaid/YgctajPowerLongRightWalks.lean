import Derived.Test.YgctajPower2
import Derived.Test.YgctajLawRow
namespace Go.Proofs.Ygctaj.powerLongRight
open Go.RowKit Mem Nt Long Ntt
set_option linter.unusedVariables false

theorem power_any (v : Value) (n A E : Nat) (m : Nat) (w : World) (hn : n ≤ 16384) (hm1 : 1 ≤ m) (hm : m ≤ 4096) (hE : E < 18446744073709551616) (hv : Na w v n A) :
    Calls Tajg.prog 17 #[v, .int .u64 (E : Int), .int .i64 (m : Int)] w fun e w' => PowAns w.heap.size w' e (A ^ E) m ∧ Same w w' := by
  by_cases h : E = 0 ∨ A ≤ 1
  · refine (power_few v n A E m w (by omega) (by omega) hE h hv).mono ?_
    rintro e w' ⟨v', rfl, h1, h2, h3⟩
    refine ⟨.inl ⟨?_, v', rfl, h1, h2⟩, h3⟩
    have : A ^ E ≤ 1 := by
      rcases h with rfl | h
      · simp
      · rcases Nat.eq_zero_or_pos A with rfl | h0
        · rcases Nat.eq_zero_or_pos E with rfl | h1
          · simp
          · rw [Nat.zero_pow h1]; omega
        · obtain rfl : A = 1 := by omega
          simp
    have h4 := dl_le 1 (A ^ E) (by omega)
    omega
  · exact power_many v n A E m w hn hm1 hm hE (by omega) (by omega) hv

theorem power_anyX (v : Value) (n A E : Nat) (m : Nat) (X : Int) (w : World) (hn : n ≤ 16384) (hm1 : 1 ≤ m) (hm : m ≤ 4096) (hE : E < 18446744073709551616) (hX : X = (E : Int)) (hv : Na w v n A) :
    Calls Tajg.prog 17 #[v, .int .u64 X, .int .i64 (m : Int)] w fun e w' => PowAns w.heap.size w' e (A ^ E) m ∧ Same w w' := by
  subst hX; exact power_any v n A E m w hn hm1 hm hE hv

theorem pow_same (A E : Nat) (hA : A ≤ 1) (hE : 1 < E) : A ^ 1 = A ^ E := by
  rcases Nat.eq_zero_or_pos A with rfl | h0
  · rw [Nat.zero_pow (by omega), Nat.zero_pow (by omega)]
  · obtain rfl : A = 1 := by omega
    simp

theorem pow_up (A E i m : Nat) (hi : i ≤ E) (hm : 1 ≤ m) (h : m < dl (A ^ i)) : m < dl (A ^ E) := by
  rcases Nat.eq_zero_or_pos A with rfl | h0
  · exfalso
    have : 0 ^ i ≤ 1 := by
      rcases Nat.eq_zero_or_pos i with rfl | h1
      · simp
      · rw [Nat.zero_pow h1]; omega
    have := dl_le 1 (0 ^ i) (by omega)
    omega
  · have := dl_mono (Nat.pow_le_pow_right h0 hi)
    omega

set_option maxRecDepth 100000 in
set_option maxHeartbeats 2000000 in
theorem main (v : Value) (n : Nat) (x : Nat → Nat) (X M : Int) (w : World) (hn : n ≤ 9223372036854775807) (hv : Sl .u8 w v n x) (hx : ∀ i, i < n → x i < 256) (x0 : 0 ≤ X) (x1 : X < 18446744073709551616) (m0 : -9223372036854775808 ≤ M) (m1 : M < 9223372036854775808) :
    Calls Tajg.prog 3 #[v, .int .u64 X, .int .i64 M] w fun e w' => e = .returned (.bool true) ∧ Same w w' := by
  obtain ⟨E, HX⟩ : ∃ E : Nat, Hid (X = (E : Int)) := ⟨X.toNat, by show X = _; omega⟩
  have HE : Hid (E < 18446744073709551616) := by have := HX.out; show _ < _; omega
  have hE := @run_eql_slice_nil Tajg.prog 24 _ Tajg.underlying24
  go_enter Tajg.func3, Tajg.ntmps3
  by_cases hM : 4096 < M
  · go_wp2_with fail
    obtain ⟨M', hM', h4, m2⟩ : ∃ M' : Int, Value.int IntKind.i64 4096 = .int .i64 M' ∧ M' ≤ 4096 ∧ -9223372036854775808 ≤ M' := ⟨4096, rfl, by omega, by omega⟩
    rw [hM']
    clear hM' hM m0 m1
    refine (digits_any v n 512 x w hn (by omega) (by omega) hv).mono ?_
    rintro e w1 ⟨⟨v2, rfl, hv2⟩, rfl⟩
    have HX2 : Hid (∀ i, i < min n 512 → x i < 256) := fun i hi => hx i (by omega)
    have hq : min n 512 ≤ 512 := Nat.min_le_right _ _
    clear hv hx hn
    generalize min n 512 = q at *
    go_wp2_with fail
    refine (ownNat_any v2 q x _ (by omega) HX2.out hv2).mono ?_
    rintro e w2 ⟨v3, rfl, hv3, hz3, -, hS2⟩
    have hdl : dl (val x q) ≤ 512 := by have := dl_le _ _ hv3.lt; omega
    generalize val x q = A at *
    clear hv2 HX2
    go_wp2_with fail
    refine (ownNat_any v3 q (dg A) w2 (by omega) (fun i _ => dg_lt A i) hv3.sl).mono ?_
    rintro e w3 ⟨v4, rfl, hv4, hz4, -, hS3⟩
    rw [hv3.val] at hv4
    have hv3 := hv3.same hS3
    have hS3 := hS2.trans hS3
    by_cases hM1 : M' < 1
    · go_wp2_with fail
      refine (power_none v3 q A X M' w3 (by omega) hM1 hv3).mono ?_
      rintro e w4 ⟨rfl, rfl⟩
      go_wp2_with fail
      refine (sameNat_any v3 v4 q A _ (by omega) hv3 hv4 hz4.symm).mono ?_
      rintro e w5 ⟨rfl, hS5⟩
      have hv3 := hv3.same hS5
      have hS5 := hS3.trans hS5
      go_wp2_with fail
      refine (sound_any v3 q A _ (by omega) hv3).mono ?_
      rintro e w6 ⟨v6, rfl, hv6, -, hS6⟩
      have hS6 := hS5.trans hS6
      go_wp2_with fail
      refine (cmp_any v6 _ (dl A) 1 A 1 _ (by omega) (by omega) (hv6.same (((Chg.refl _ _).alloc _).alloc _)).na (one_nm2 _ _ _ (by simp))).mono ?_
      rintro e w7 ⟨rfl, hS7⟩
      have hS67 := Chg.trans (((Chg.refl (fun _ _ => False) w6).alloc _).alloc _) hS7
      have hv7 := hv6.same hS67
      have hw7 := (one_nm w6 5).same (Chg.trans ((Chg.refl _ _).alloc _) hS7)
      have hS7 := hS6.trans hS67
      clear hS67 hS6 hS5 hS3 hS2 hv6 hv3 hv4 hz3 hz4
      obtain ⟨C, HC⟩ : ∃ C : Int, Hid (cmpN A 1 = C) := ⟨_, rfl⟩
      have hC1 : -1 ≤ C ∧ C ≤ 1 := by have := HC.out; unfold cmpN at this; split at this <;> (try split at this) <;> omega
      rw [HC.out]
      have hcs : (C ≤ 0 ∧ 1 < X ∧ A ≤ 1 ∧ 1 < E) ∨ (C ≤ 0 ∧ ¬ 1 < X) ∨ ¬ C ≤ 0 := by
        have h1 := HC.out
        have h2 := HX.out
        unfold cmpN at h1
        split at h1 <;> (try split at h1) <;> omega
      clear HC
      have hg : decide ((1 : Int) ≤ M') = false := by simp; omega
      have hx0 : X = 0 ∨ 0 < X := by omega
      rcases hcs with ⟨h1, h2, -, -⟩ | ⟨h1, h2⟩ | h1
      all_goals
        rcases hx0 with hx0 | hx0
        all_goals
          go_wp2_with fail
          go_loopw [12, 13] (fun o i wr => o = .slice (some ⟨w6.heap.size, 0, none⟩) 1 1 ∧ i = .int .u64 0 ∧ wr = w7) (fun _ _ _ => 0)
          case atStart => exact ⟨rfl, rfl, rfl⟩
          case round =>
            obtain ⟨rfl, rfl, rfl⟩ := hrel
            go_wp2_with fail
            go_ret
            exact ⟨rfl, hS7⟩
    · obtain ⟨m, rfl⟩ : ∃ m : Nat, M' = (m : Int) := ⟨M'.toNat, by omega⟩
      have hm1 : 1 ≤ m := by omega
      have hm4 : m ≤ 4096 := by omega
      clear hM1 h4 m2
      go_wp2_with fail
      refine (power_anyX v3 q A E m X w3 (by omega) hm1 hm4 HE.out HX.out hv3).mono ?_
      rintro e w4 ⟨hans, hS4⟩
      have hv3 := hv3.same hS4
      have hv4 := hv4.same hS4
      have hS3 := hS3.trans hS4
      rcases hans with ⟨hd, g, rfl, hg, -⟩ | ⟨hd, rfl⟩
      · have HD : Hid (dl (A ^ E) ≤ m) := hd
        clear hd
        go_wp2_with fail
        refine (sameNat_any v3 v4 q A _ (by omega) hv3 hv4 hz4.symm).mono ?_
        rintro e w5 ⟨rfl, hS5⟩
        have hv3 := hv3.same hS5
        have hg := hg.same hS5
        have hS5 := hS3.trans hS5
        go_wp2_with fail
        refine (sound_any v3 q A _ (by omega) hv3).mono ?_
        rintro e w6 ⟨v6, rfl, hv6, -, hS6⟩
        have hg := hg.same hS6
        have hS6 := hS5.trans hS6
        go_wp2_with fail
        refine (cmp_any v6 _ (dl A) 1 A 1 _ (by omega) (by omega) (hv6.same (((Chg.refl _ _).alloc _).alloc _)).na (one_nm2 _ _ _ (by simp))).mono ?_
        rintro e w7 ⟨rfl, hS7⟩
        have hS67 := Chg.trans (((Chg.refl (fun _ _ => False) w6).alloc _).alloc _) hS7
        have hv7 := hv6.same hS67
        have hw7 := (one_nm w6 5).same (Chg.trans ((Chg.refl _ _).alloc _) hS7)
        have hg := hg.same hS67
        have hS7 := hS6.trans hS67
        clear hS67 hS6 hS5 hS3 hS2 hv6 hv3 hv4 hz3 hz4
        obtain ⟨C, HC⟩ : ∃ C : Int, Hid (cmpN A 1 = C) := ⟨_, rfl⟩
        have hC1 : -1 ≤ C ∧ C ≤ 1 := by have := HC.out; unfold cmpN at this; split at this <;> (try split at this) <;> omega
        rw [HC.out]
        have hcs : (C ≤ 0 ∧ 1 < X ∧ A ≤ 1 ∧ 1 < E) ∨ (C ≤ 0 ∧ ¬ 1 < X) ∨ ¬ C ≤ 0 := by
          have h1 := HC.out
          have h2 := HX.out
          unfold cmpN at h1
          split at h1 <;> (try split at h1) <;> omega
        have hxe : (0 ≤ X) := x0
        rcases hcs with ⟨h1, h2, h3, h3'⟩ | ⟨h1, h2⟩ | h1
        · have HT : Hid (∀ j : Nat, decide ((j : Int) < 1) = decide (j < 1)) := fun j => decide_eq_decide.2 (by omega)
          have HEp : Hid (A ^ 1 = A ^ E) := pow_same A E h3 h3'
          have HEl : Hid (1 ≤ E) := by show _ ≤ _; omega
          clear HC h3 h3'
          go_wp2_with fail
          go_loopw [12, 13] (fun o i wr => ∃ j : Nat, Hid (j ≤ 1) ∧ i = .int .u64 (j : Int) ∧ Nm wr o (A ^ j) ∧ Same w7 wr) (fun _ i _ => 1 - (intOf i).toNat)
          case atStart => exact ⟨0, Nat.zero_le _, rfl, hw7, Chg.refl _ _⟩
          case round =>
            obtain ⟨j, HJ, rfl, hO, hSr⟩ := hrel
            have hS := hS7.trans hSr
            have ht := HT.out j
            by_cases hj : j < 1
            · rw [decide_eq_true hj] at ht
              by_cases hdj : dl (A ^ j) ≤ m
              · have hb := hv7.same hSr
                have hO2 := hO.na
                obtain ⟨a, ca, rfl, hca, -, -⟩ := hO.na
                have hj0 : 0 ≤ (j : Int) := by omega
                have hj1 : (j : Int) < 18446744073709551615 := by have h1 := HE.out; have h2 := HEl.out; omega
                have hqm : dl (A ^ j) ≤ 4096 := by omega
                have HJ1 : Hid (j + 1 ≤ 1) := hj
                have HM : Hid (1 - (j + 1) < 1 - j) := by show _ < _; omega
                obtain ⟨J, HJJ⟩ : ∃ J : Int, Hid ((j : Int) = J) := ⟨_, rfl⟩
                rw [HJJ.out] at ht hj0 hj1 ⊢
                clear hO hj HJ
                generalize hL : dl (A ^ j) = L at *
                go_wp2_with fail
                refine (mul_any _ v6 L (dl A) (A ^ j) A wr (by omega) (by omega) hO2 hb.na).mono ?_
                rintro e w9 ⟨o9, rfl, hO9, -, hS9⟩
                rw [← Nat.pow_succ] at hO9
                go_wp2_with fail
                go_roundw
                case rel => exact ⟨j + 1, HJ1, by rw [← HJJ.out]; go_num, hO9, hSr.trans hS9⟩
                case measure =>
                  have h1 := HM.out
                  have h2 := HJJ.out
                  simp only [intOf]; omega
              · exact absurd (pow_up A E j m (by have := HEl.out; omega) hm1 (by omega)) (by have := HD.out; omega)
            · have hjE : j = 1 := by have := HJ.out; omega
              rw [decide_eq_false hj] at ht
              rw [hjE] at hO
              rw [HEp.out] at hO
              have HO : Hid (Nm wr _ (A ^ E)) := hO
              obtain ⟨a, ca, rfl, hca, -, -⟩ := hO.na
              have hdm : dl (A ^ E) ≤ m := HD.out
              clear hO
              generalize hL : dl (A ^ E) = L at *
              generalize (j : Int) = J at *
              go_wp2_with fail
              refine (answers_any g _ (A ^ E) wr (by rw [hL]; have := HD.out; omega) (hg.same hSr) HO.out).mono ?_
              rintro e w9 ⟨rfl, hS9⟩
              go_wp2_with fail
              go_ret
              exact ⟨rfl, hS.trans hS9⟩
        · have HT : Hid (∀ j : Nat, decide ((j : Int) < X) = decide (j < E)) := fun j => decide_eq_decide.2 (by have := HX.out; omega)
          have HEl : Hid (E ≤ E) := Nat.le_refl _
          clear HC
          go_wp2_with fail
          go_loopw [12, 13] (fun o i wr => ∃ j : Nat, Hid (j ≤ E) ∧ i = .int .u64 (j : Int) ∧ Nm wr o (A ^ j) ∧ Same w7 wr) (fun _ i _ => E - (intOf i).toNat)
          case atStart => exact ⟨0, Nat.zero_le _, rfl, hw7, Chg.refl _ _⟩
          case round =>
            obtain ⟨j, HJ, rfl, hO, hSr⟩ := hrel
            have hS := hS7.trans hSr
            have ht := HT.out j
            by_cases hj : j < E
            · rw [decide_eq_true hj] at ht
              by_cases hdj : dl (A ^ j) ≤ m
              · have hb := hv7.same hSr
                have hO2 := hO.na
                obtain ⟨a, ca, rfl, hca, -, -⟩ := hO.na
                have hj0 : 0 ≤ (j : Int) := by omega
                have hj1 : (j : Int) < 18446744073709551615 := by have h1 := HE.out; have h2 := HEl.out; omega
                have hqm : dl (A ^ j) ≤ 4096 := by omega
                have HJ1 : Hid (j + 1 ≤ E) := hj
                have HM : Hid (E - (j + 1) < E - j) := by show _ < _; omega
                obtain ⟨J, HJJ⟩ : ∃ J : Int, Hid ((j : Int) = J) := ⟨_, rfl⟩
                rw [HJJ.out] at ht hj0 hj1 ⊢
                clear hO hj HJ
                generalize hL : dl (A ^ j) = L at *
                go_wp2_with fail
                refine (mul_any _ v6 L (dl A) (A ^ j) A wr (by omega) (by omega) hO2 hb.na).mono ?_
                rintro e w9 ⟨o9, rfl, hO9, -, hS9⟩
                rw [← Nat.pow_succ] at hO9
                go_wp2_with fail
                go_roundw
                case rel => exact ⟨j + 1, HJ1, by rw [← HJJ.out]; go_num, hO9, hSr.trans hS9⟩
                case measure =>
                  have h1 := HM.out
                  have h2 := HJJ.out
                  simp only [intOf]; omega
              · exact absurd (pow_up A E j m (by have := HEl.out; omega) hm1 (by omega)) (by have := HD.out; omega)
            · have hjE : j = E := by have := HJ.out; omega
              rw [decide_eq_false hj] at ht
              rw [hjE] at hO
              have HO : Hid (Nm wr _ (A ^ E)) := hO
              obtain ⟨a, ca, rfl, hca, -, -⟩ := hO.na
              have hdm : dl (A ^ E) ≤ m := HD.out
              clear hO
              generalize hL : dl (A ^ E) = L at *
              generalize (j : Int) = J at *
              go_wp2_with fail
              refine (answers_any g _ (A ^ E) wr (by rw [hL]; have := HD.out; omega) (hg.same hSr) HO.out).mono ?_
              rintro e w9 ⟨rfl, hS9⟩
              go_wp2_with fail
              go_ret
              exact ⟨rfl, hS.trans hS9⟩
        · have HT : Hid (∀ j : Nat, decide ((j : Int) < X) = decide (j < E)) := fun j => decide_eq_decide.2 (by have := HX.out; omega)
          have HEl : Hid (E ≤ E) := Nat.le_refl _
          clear HC
          go_wp2_with fail
          go_loopw [12, 13] (fun o i wr => ∃ j : Nat, Hid (j ≤ E) ∧ i = .int .u64 (j : Int) ∧ Nm wr o (A ^ j) ∧ Same w7 wr) (fun _ i _ => E - (intOf i).toNat)
          case atStart => exact ⟨0, Nat.zero_le _, rfl, hw7, Chg.refl _ _⟩
          case round =>
            obtain ⟨j, HJ, rfl, hO, hSr⟩ := hrel
            have hS := hS7.trans hSr
            have ht := HT.out j
            by_cases hj : j < E
            · rw [decide_eq_true hj] at ht
              by_cases hdj : dl (A ^ j) ≤ m
              · have hb := hv7.same hSr
                have hO2 := hO.na
                obtain ⟨a, ca, rfl, hca, -, -⟩ := hO.na
                have hj0 : 0 ≤ (j : Int) := by omega
                have hj1 : (j : Int) < 18446744073709551615 := by have h1 := HE.out; have h2 := HEl.out; omega
                have hqm : dl (A ^ j) ≤ 4096 := by omega
                have HJ1 : Hid (j + 1 ≤ E) := hj
                have HM : Hid (E - (j + 1) < E - j) := by show _ < _; omega
                obtain ⟨J, HJJ⟩ : ∃ J : Int, Hid ((j : Int) = J) := ⟨_, rfl⟩
                rw [HJJ.out] at ht hj0 hj1 ⊢
                clear hO hj HJ
                generalize hL : dl (A ^ j) = L at *
                go_wp2_with fail
                refine (mul_any _ v6 L (dl A) (A ^ j) A wr (by omega) (by omega) hO2 hb.na).mono ?_
                rintro e w9 ⟨o9, rfl, hO9, -, hS9⟩
                rw [← Nat.pow_succ] at hO9
                go_wp2_with fail
                go_roundw
                case rel => exact ⟨j + 1, HJ1, by rw [← HJJ.out]; go_num, hO9, hSr.trans hS9⟩
                case measure =>
                  have h1 := HM.out
                  have h2 := HJJ.out
                  simp only [intOf]; omega
              · exact absurd (pow_up A E j m (by have := HEl.out; omega) hm1 (by omega)) (by have := HD.out; omega)
            · have hjE : j = E := by have := HJ.out; omega
              rw [decide_eq_false hj] at ht
              rw [hjE] at hO
              have HO : Hid (Nm wr _ (A ^ E)) := hO
              obtain ⟨a, ca, rfl, hca, -, -⟩ := hO.na
              have hdm : dl (A ^ E) ≤ m := HD.out
              clear hO
              generalize hL : dl (A ^ E) = L at *
              generalize (j : Int) = J at *
              go_wp2_with fail
              refine (answers_any g _ (A ^ E) wr (by rw [hL]; have := HD.out; omega) (hg.same hSr) HO.out).mono ?_
              rintro e w9 ⟨rfl, hS9⟩
              go_wp2_with fail
              go_ret
              exact ⟨rfl, hS.trans hS9⟩
      · have HD : Hid (m < dl (A ^ E)) := hd
        clear hd
        go_wp2_with fail
        refine (sameNat_any v3 v4 q A _ (by omega) hv3 hv4 hz4.symm).mono ?_
        rintro e w5 ⟨rfl, hS5⟩
        have hv3 := hv3.same hS5
        have hS5 := hS3.trans hS5
        go_wp2_with fail
        refine (sound_any v3 q A _ (by omega) hv3).mono ?_
        rintro e w6 ⟨v6, rfl, hv6, -, hS6⟩
        have hS6 := hS5.trans hS6
        go_wp2_with fail
        refine (cmp_any v6 _ (dl A) 1 A 1 _ (by omega) (by omega) (hv6.same (((Chg.refl _ _).alloc _).alloc _)).na (one_nm2 _ _ _ (by simp))).mono ?_
        rintro e w7 ⟨rfl, hS7⟩
        have hS67 := Chg.trans (((Chg.refl (fun _ _ => False) w6).alloc _).alloc _) hS7
        have hv7 := hv6.same hS67
        have hw7 := (one_nm w6 5).same (Chg.trans ((Chg.refl _ _).alloc _) hS7)
        have hS7 := hS6.trans hS67
        clear hS67 hS6 hS5 hS3 hS2 hv6 hv3 hv4 hz3 hz4
        obtain ⟨C, HC⟩ : ∃ C : Int, Hid (cmpN A 1 = C) := ⟨_, rfl⟩
        have hC1 : -1 ≤ C ∧ C ≤ 1 := by have := HC.out; unfold cmpN at this; split at this <;> (try split at this) <;> omega
        rw [HC.out]
        have hcs : (C ≤ 0 ∧ 1 < X ∧ A ≤ 1 ∧ 1 < E) ∨ (C ≤ 0 ∧ ¬ 1 < X) ∨ ¬ C ≤ 0 := by
          have h1 := HC.out
          have h2 := HX.out
          unfold cmpN at h1
          split at h1 <;> (try split at h1) <;> omega
        have hxe : (0 ≤ X) := x0
        rcases hcs with ⟨h1, h2, h3, h3'⟩ | ⟨h1, h2⟩ | h1
        · have HT : Hid (∀ j : Nat, decide ((j : Int) < 1) = decide (j < 1)) := fun j => decide_eq_decide.2 (by omega)
          have HEp : Hid (A ^ 1 = A ^ E) := pow_same A E h3 h3'
          have HEl : Hid (1 ≤ E) := by show _ ≤ _; omega
          clear HC h3 h3'
          go_wp2_with fail
          go_loopw [12, 13] (fun o i wr => ∃ j : Nat, Hid (j ≤ 1) ∧ i = .int .u64 (j : Int) ∧ Nm wr o (A ^ j) ∧ Same w7 wr) (fun _ i _ => 1 - (intOf i).toNat)
          case atStart => exact ⟨0, Nat.zero_le _, rfl, hw7, Chg.refl _ _⟩
          case round =>
            obtain ⟨j, HJ, rfl, hO, hSr⟩ := hrel
            have hS := hS7.trans hSr
            have ht := HT.out j
            by_cases hj : j < 1
            · rw [decide_eq_true hj] at ht
              by_cases hdj : dl (A ^ j) ≤ m
              · have hb := hv7.same hSr
                have hO2 := hO.na
                obtain ⟨a, ca, rfl, hca, -, -⟩ := hO.na
                have hj0 : 0 ≤ (j : Int) := by omega
                have hj1 : (j : Int) < 18446744073709551615 := by have h1 := HE.out; have h2 := HEl.out; omega
                have hqm : dl (A ^ j) ≤ 4096 := by omega
                have HJ1 : Hid (j + 1 ≤ 1) := hj
                have HM : Hid (1 - (j + 1) < 1 - j) := by show _ < _; omega
                obtain ⟨J, HJJ⟩ : ∃ J : Int, Hid ((j : Int) = J) := ⟨_, rfl⟩
                rw [HJJ.out] at ht hj0 hj1 ⊢
                clear hO hj HJ
                generalize hL : dl (A ^ j) = L at *
                go_wp2_with fail
                refine (mul_any _ v6 L (dl A) (A ^ j) A wr (by omega) (by omega) hO2 hb.na).mono ?_
                rintro e w9 ⟨o9, rfl, hO9, -, hS9⟩
                rw [← Nat.pow_succ] at hO9
                go_wp2_with fail
                go_roundw
                case rel => exact ⟨j + 1, HJ1, by rw [← HJJ.out]; go_num, hO9, hSr.trans hS9⟩
                case measure =>
                  have h1 := HM.out
                  have h2 := HJJ.out
                  simp only [intOf]; omega
              · obtain ⟨a, ca, rfl, hca, -, -⟩ := hO.na
                clear hO
                generalize dl (A ^ j) = L at *
                generalize (j : Int) = J at *
                go_wp2_with fail
                go_ret
                exact ⟨rfl, hS⟩
            · have hjE : j = 1 := by have := HJ.out; omega
              rw [decide_eq_false hj] at ht
              rw [hjE] at hO
              rw [HEp.out] at hO
              obtain ⟨a, ca, rfl, hca, -, -⟩ := hO.na
              have hdm : m < dl (A ^ E) := HD.out
              clear hO
              generalize hL : dl (A ^ E) = L at *
              generalize (j : Int) = J at *
              go_wp2_with fail
              go_ret
              exact ⟨rfl, hS⟩
        · have HT : Hid (∀ j : Nat, decide ((j : Int) < X) = decide (j < E)) := fun j => decide_eq_decide.2 (by have := HX.out; omega)
          have HEl : Hid (E ≤ E) := Nat.le_refl _
          clear HC
          go_wp2_with fail
          go_loopw [12, 13] (fun o i wr => ∃ j : Nat, Hid (j ≤ E) ∧ i = .int .u64 (j : Int) ∧ Nm wr o (A ^ j) ∧ Same w7 wr) (fun _ i _ => E - (intOf i).toNat)
          case atStart => exact ⟨0, Nat.zero_le _, rfl, hw7, Chg.refl _ _⟩
          case round =>
            obtain ⟨j, HJ, rfl, hO, hSr⟩ := hrel
            have hS := hS7.trans hSr
            have ht := HT.out j
            by_cases hj : j < E
            · rw [decide_eq_true hj] at ht
              by_cases hdj : dl (A ^ j) ≤ m
              · have hb := hv7.same hSr
                have hO2 := hO.na
                obtain ⟨a, ca, rfl, hca, -, -⟩ := hO.na
                have hj0 : 0 ≤ (j : Int) := by omega
                have hj1 : (j : Int) < 18446744073709551615 := by have h1 := HE.out; have h2 := HEl.out; omega
                have hqm : dl (A ^ j) ≤ 4096 := by omega
                have HJ1 : Hid (j + 1 ≤ E) := hj
                have HM : Hid (E - (j + 1) < E - j) := by show _ < _; omega
                obtain ⟨J, HJJ⟩ : ∃ J : Int, Hid ((j : Int) = J) := ⟨_, rfl⟩
                rw [HJJ.out] at ht hj0 hj1 ⊢
                clear hO hj HJ
                generalize hL : dl (A ^ j) = L at *
                go_wp2_with fail
                refine (mul_any _ v6 L (dl A) (A ^ j) A wr (by omega) (by omega) hO2 hb.na).mono ?_
                rintro e w9 ⟨o9, rfl, hO9, -, hS9⟩
                rw [← Nat.pow_succ] at hO9
                go_wp2_with fail
                go_roundw
                case rel => exact ⟨j + 1, HJ1, by rw [← HJJ.out]; go_num, hO9, hSr.trans hS9⟩
                case measure =>
                  have h1 := HM.out
                  have h2 := HJJ.out
                  simp only [intOf]; omega
              · obtain ⟨a, ca, rfl, hca, -, -⟩ := hO.na
                clear hO
                generalize dl (A ^ j) = L at *
                generalize (j : Int) = J at *
                go_wp2_with fail
                go_ret
                exact ⟨rfl, hS⟩
            · have hjE : j = E := by have := HJ.out; omega
              rw [decide_eq_false hj] at ht
              rw [hjE] at hO
              obtain ⟨a, ca, rfl, hca, -, -⟩ := hO.na
              have hdm : m < dl (A ^ E) := HD.out
              clear hO
              generalize hL : dl (A ^ E) = L at *
              generalize (j : Int) = J at *
              go_wp2_with fail
              go_ret
              exact ⟨rfl, hS⟩
        · have HT : Hid (∀ j : Nat, decide ((j : Int) < X) = decide (j < E)) := fun j => decide_eq_decide.2 (by have := HX.out; omega)
          have HEl : Hid (E ≤ E) := Nat.le_refl _
          clear HC
          go_wp2_with fail
          go_loopw [12, 13] (fun o i wr => ∃ j : Nat, Hid (j ≤ E) ∧ i = .int .u64 (j : Int) ∧ Nm wr o (A ^ j) ∧ Same w7 wr) (fun _ i _ => E - (intOf i).toNat)
          case atStart => exact ⟨0, Nat.zero_le _, rfl, hw7, Chg.refl _ _⟩
          case round =>
            obtain ⟨j, HJ, rfl, hO, hSr⟩ := hrel
            have hS := hS7.trans hSr
            have ht := HT.out j
            by_cases hj : j < E
            · rw [decide_eq_true hj] at ht
              by_cases hdj : dl (A ^ j) ≤ m
              · have hb := hv7.same hSr
                have hO2 := hO.na
                obtain ⟨a, ca, rfl, hca, -, -⟩ := hO.na
                have hj0 : 0 ≤ (j : Int) := by omega
                have hj1 : (j : Int) < 18446744073709551615 := by have h1 := HE.out; have h2 := HEl.out; omega
                have hqm : dl (A ^ j) ≤ 4096 := by omega
                have HJ1 : Hid (j + 1 ≤ E) := hj
                have HM : Hid (E - (j + 1) < E - j) := by show _ < _; omega
                obtain ⟨J, HJJ⟩ : ∃ J : Int, Hid ((j : Int) = J) := ⟨_, rfl⟩
                rw [HJJ.out] at ht hj0 hj1 ⊢
                clear hO hj HJ
                generalize hL : dl (A ^ j) = L at *
                go_wp2_with fail
                refine (mul_any _ v6 L (dl A) (A ^ j) A wr (by omega) (by omega) hO2 hb.na).mono ?_
                rintro e w9 ⟨o9, rfl, hO9, -, hS9⟩
                rw [← Nat.pow_succ] at hO9
                go_wp2_with fail
                go_roundw
                case rel => exact ⟨j + 1, HJ1, by rw [← HJJ.out]; go_num, hO9, hSr.trans hS9⟩
                case measure =>
                  have h1 := HM.out
                  have h2 := HJJ.out
                  simp only [intOf]; omega
              · obtain ⟨a, ca, rfl, hca, -, -⟩ := hO.na
                clear hO
                generalize dl (A ^ j) = L at *
                generalize (j : Int) = J at *
                go_wp2_with fail
                go_ret
                exact ⟨rfl, hS⟩
            · have hjE : j = E := by have := HJ.out; omega
              rw [decide_eq_false hj] at ht
              rw [hjE] at hO
              obtain ⟨a, ca, rfl, hca, -, -⟩ := hO.na
              have hdm : m < dl (A ^ E) := HD.out
              clear hO
              generalize hL : dl (A ^ E) = L at *
              generalize (j : Int) = J at *
              go_wp2_with fail
              go_ret
              exact ⟨rfl, hS⟩
  · obtain ⟨M', rfl⟩ : ∃ M', M' = M := ⟨M, rfl⟩
    have h4 : M' ≤ 4096 := by omega
    have m2 : -9223372036854775808 ≤ M' := m0
    clear hM m0 m1
    go_wp2_with fail
    refine (digits_any v n 512 x w hn (by omega) (by omega) hv).mono ?_
    rintro e w1 ⟨⟨v2, rfl, hv2⟩, rfl⟩
    have HX2 : Hid (∀ i, i < min n 512 → x i < 256) := fun i hi => hx i (by omega)
    have hq : min n 512 ≤ 512 := Nat.min_le_right _ _
    clear hv hx hn
    generalize min n 512 = q at *
    go_wp2_with fail
    refine (ownNat_any v2 q x _ (by omega) HX2.out hv2).mono ?_
    rintro e w2 ⟨v3, rfl, hv3, hz3, -, hS2⟩
    have hdl : dl (val x q) ≤ 512 := by have := dl_le _ _ hv3.lt; omega
    generalize val x q = A at *
    clear hv2 HX2
    go_wp2_with fail
    refine (ownNat_any v3 q (dg A) w2 (by omega) (fun i _ => dg_lt A i) hv3.sl).mono ?_
    rintro e w3 ⟨v4, rfl, hv4, hz4, -, hS3⟩
    rw [hv3.val] at hv4
    have hv3 := hv3.same hS3
    have hS3 := hS2.trans hS3
    by_cases hM1 : M' < 1
    · go_wp2_with fail
      refine (power_none v3 q A X M' w3 (by omega) hM1 hv3).mono ?_
      rintro e w4 ⟨rfl, rfl⟩
      go_wp2_with fail
      refine (sameNat_any v3 v4 q A _ (by omega) hv3 hv4 hz4.symm).mono ?_
      rintro e w5 ⟨rfl, hS5⟩
      have hv3 := hv3.same hS5
      have hS5 := hS3.trans hS5
      go_wp2_with fail
      refine (sound_any v3 q A _ (by omega) hv3).mono ?_
      rintro e w6 ⟨v6, rfl, hv6, -, hS6⟩
      have hS6 := hS5.trans hS6
      go_wp2_with fail
      refine (cmp_any v6 _ (dl A) 1 A 1 _ (by omega) (by omega) (hv6.same (((Chg.refl _ _).alloc _).alloc _)).na (one_nm2 _ _ _ (by simp))).mono ?_
      rintro e w7 ⟨rfl, hS7⟩
      have hS67 := Chg.trans (((Chg.refl (fun _ _ => False) w6).alloc _).alloc _) hS7
      have hv7 := hv6.same hS67
      have hw7 := (one_nm w6 5).same (Chg.trans ((Chg.refl _ _).alloc _) hS7)
      have hS7 := hS6.trans hS67
      clear hS67 hS6 hS5 hS3 hS2 hv6 hv3 hv4 hz3 hz4
      obtain ⟨C, HC⟩ : ∃ C : Int, Hid (cmpN A 1 = C) := ⟨_, rfl⟩
      have hC1 : -1 ≤ C ∧ C ≤ 1 := by have := HC.out; unfold cmpN at this; split at this <;> (try split at this) <;> omega
      rw [HC.out]
      have hcs : (C ≤ 0 ∧ 1 < X ∧ A ≤ 1 ∧ 1 < E) ∨ (C ≤ 0 ∧ ¬ 1 < X) ∨ ¬ C ≤ 0 := by
        have h1 := HC.out
        have h2 := HX.out
        unfold cmpN at h1
        split at h1 <;> (try split at h1) <;> omega
      clear HC
      have hg : decide ((1 : Int) ≤ M') = false := by simp; omega
      have hx0 : X = 0 ∨ 0 < X := by omega
      rcases hcs with ⟨h1, h2, -, -⟩ | ⟨h1, h2⟩ | h1
      all_goals
        rcases hx0 with hx0 | hx0
        all_goals
          go_wp2_with fail
          go_loopw [12, 13] (fun o i wr => o = .slice (some ⟨w6.heap.size, 0, none⟩) 1 1 ∧ i = .int .u64 0 ∧ wr = w7) (fun _ _ _ => 0)
          case atStart => exact ⟨rfl, rfl, rfl⟩
          case round =>
            obtain ⟨rfl, rfl, rfl⟩ := hrel
            go_wp2_with fail
            go_ret
            exact ⟨rfl, hS7⟩
    · obtain ⟨m, rfl⟩ : ∃ m : Nat, M' = (m : Int) := ⟨M'.toNat, by omega⟩
      have hm1 : 1 ≤ m := by omega
      have hm4 : m ≤ 4096 := by omega
      clear hM1 h4 m2
      go_wp2_with fail
      refine (power_anyX v3 q A E m X w3 (by omega) hm1 hm4 HE.out HX.out hv3).mono ?_
      rintro e w4 ⟨hans, hS4⟩
      have hv3 := hv3.same hS4
      have hv4 := hv4.same hS4
      have hS3 := hS3.trans hS4
      rcases hans with ⟨hd, g, rfl, hg, -⟩ | ⟨hd, rfl⟩
      · have HD : Hid (dl (A ^ E) ≤ m) := hd
        clear hd
        go_wp2_with fail
        refine (sameNat_any v3 v4 q A _ (by omega) hv3 hv4 hz4.symm).mono ?_
        rintro e w5 ⟨rfl, hS5⟩
        have hv3 := hv3.same hS5
        have hg := hg.same hS5
        have hS5 := hS3.trans hS5
        go_wp2_with fail
        refine (sound_any v3 q A _ (by omega) hv3).mono ?_
        rintro e w6 ⟨v6, rfl, hv6, -, hS6⟩
        have hg := hg.same hS6
        have hS6 := hS5.trans hS6
        go_wp2_with fail
        refine (cmp_any v6 _ (dl A) 1 A 1 _ (by omega) (by omega) (hv6.same (((Chg.refl _ _).alloc _).alloc _)).na (one_nm2 _ _ _ (by simp))).mono ?_
        rintro e w7 ⟨rfl, hS7⟩
        have hS67 := Chg.trans (((Chg.refl (fun _ _ => False) w6).alloc _).alloc _) hS7
        have hv7 := hv6.same hS67
        have hw7 := (one_nm w6 5).same (Chg.trans ((Chg.refl _ _).alloc _) hS7)
        have hg := hg.same hS67
        have hS7 := hS6.trans hS67
        clear hS67 hS6 hS5 hS3 hS2 hv6 hv3 hv4 hz3 hz4
        obtain ⟨C, HC⟩ : ∃ C : Int, Hid (cmpN A 1 = C) := ⟨_, rfl⟩
        have hC1 : -1 ≤ C ∧ C ≤ 1 := by have := HC.out; unfold cmpN at this; split at this <;> (try split at this) <;> omega
        rw [HC.out]
        have hcs : (C ≤ 0 ∧ 1 < X ∧ A ≤ 1 ∧ 1 < E) ∨ (C ≤ 0 ∧ ¬ 1 < X) ∨ ¬ C ≤ 0 := by
          have h1 := HC.out
          have h2 := HX.out
          unfold cmpN at h1
          split at h1 <;> (try split at h1) <;> omega
        have hxe : (0 ≤ X) := x0
        rcases hcs with ⟨h1, h2, h3, h3'⟩ | ⟨h1, h2⟩ | h1
        · have HT : Hid (∀ j : Nat, decide ((j : Int) < 1) = decide (j < 1)) := fun j => decide_eq_decide.2 (by omega)
          have HEp : Hid (A ^ 1 = A ^ E) := pow_same A E h3 h3'
          have HEl : Hid (1 ≤ E) := by show _ ≤ _; omega
          clear HC h3 h3'
          go_wp2_with fail
          go_loopw [12, 13] (fun o i wr => ∃ j : Nat, Hid (j ≤ 1) ∧ i = .int .u64 (j : Int) ∧ Nm wr o (A ^ j) ∧ Same w7 wr) (fun _ i _ => 1 - (intOf i).toNat)
          case atStart => exact ⟨0, Nat.zero_le _, rfl, hw7, Chg.refl _ _⟩
          case round =>
            obtain ⟨j, HJ, rfl, hO, hSr⟩ := hrel
            have hS := hS7.trans hSr
            have ht := HT.out j
            by_cases hj : j < 1
            · rw [decide_eq_true hj] at ht
              by_cases hdj : dl (A ^ j) ≤ m
              · have hb := hv7.same hSr
                have hO2 := hO.na
                obtain ⟨a, ca, rfl, hca, -, -⟩ := hO.na
                have hj0 : 0 ≤ (j : Int) := by omega
                have hj1 : (j : Int) < 18446744073709551615 := by have h1 := HE.out; have h2 := HEl.out; omega
                have hqm : dl (A ^ j) ≤ 4096 := by omega
                have HJ1 : Hid (j + 1 ≤ 1) := hj
                have HM : Hid (1 - (j + 1) < 1 - j) := by show _ < _; omega
                obtain ⟨J, HJJ⟩ : ∃ J : Int, Hid ((j : Int) = J) := ⟨_, rfl⟩
                rw [HJJ.out] at ht hj0 hj1 ⊢
                clear hO hj HJ
                generalize hL : dl (A ^ j) = L at *
                go_wp2_with fail
                refine (mul_any _ v6 L (dl A) (A ^ j) A wr (by omega) (by omega) hO2 hb.na).mono ?_
                rintro e w9 ⟨o9, rfl, hO9, -, hS9⟩
                rw [← Nat.pow_succ] at hO9
                go_wp2_with fail
                go_roundw
                case rel => exact ⟨j + 1, HJ1, by rw [← HJJ.out]; go_num, hO9, hSr.trans hS9⟩
                case measure =>
                  have h1 := HM.out
                  have h2 := HJJ.out
                  simp only [intOf]; omega
              · exact absurd (pow_up A E j m (by have := HEl.out; omega) hm1 (by omega)) (by have := HD.out; omega)
            · have hjE : j = 1 := by have := HJ.out; omega
              rw [decide_eq_false hj] at ht
              rw [hjE] at hO
              rw [HEp.out] at hO
              have HO : Hid (Nm wr _ (A ^ E)) := hO
              obtain ⟨a, ca, rfl, hca, -, -⟩ := hO.na
              have hdm : dl (A ^ E) ≤ m := HD.out
              clear hO
              generalize hL : dl (A ^ E) = L at *
              generalize (j : Int) = J at *
              go_wp2_with fail
              refine (answers_any g _ (A ^ E) wr (by rw [hL]; have := HD.out; omega) (hg.same hSr) HO.out).mono ?_
              rintro e w9 ⟨rfl, hS9⟩
              go_wp2_with fail
              go_ret
              exact ⟨rfl, hS.trans hS9⟩
        · have HT : Hid (∀ j : Nat, decide ((j : Int) < X) = decide (j < E)) := fun j => decide_eq_decide.2 (by have := HX.out; omega)
          have HEl : Hid (E ≤ E) := Nat.le_refl _
          clear HC
          go_wp2_with fail
          go_loopw [12, 13] (fun o i wr => ∃ j : Nat, Hid (j ≤ E) ∧ i = .int .u64 (j : Int) ∧ Nm wr o (A ^ j) ∧ Same w7 wr) (fun _ i _ => E - (intOf i).toNat)
          case atStart => exact ⟨0, Nat.zero_le _, rfl, hw7, Chg.refl _ _⟩
          case round =>
            obtain ⟨j, HJ, rfl, hO, hSr⟩ := hrel
            have hS := hS7.trans hSr
            have ht := HT.out j
            by_cases hj : j < E
            · rw [decide_eq_true hj] at ht
              by_cases hdj : dl (A ^ j) ≤ m
              · have hb := hv7.same hSr
                have hO2 := hO.na
                obtain ⟨a, ca, rfl, hca, -, -⟩ := hO.na
                have hj0 : 0 ≤ (j : Int) := by omega
                have hj1 : (j : Int) < 18446744073709551615 := by have h1 := HE.out; have h2 := HEl.out; omega
                have hqm : dl (A ^ j) ≤ 4096 := by omega
                have HJ1 : Hid (j + 1 ≤ E) := hj
                have HM : Hid (E - (j + 1) < E - j) := by show _ < _; omega
                obtain ⟨J, HJJ⟩ : ∃ J : Int, Hid ((j : Int) = J) := ⟨_, rfl⟩
                rw [HJJ.out] at ht hj0 hj1 ⊢
                clear hO hj HJ
                generalize hL : dl (A ^ j) = L at *
                go_wp2_with fail
                refine (mul_any _ v6 L (dl A) (A ^ j) A wr (by omega) (by omega) hO2 hb.na).mono ?_
                rintro e w9 ⟨o9, rfl, hO9, -, hS9⟩
                rw [← Nat.pow_succ] at hO9
                go_wp2_with fail
                go_roundw
                case rel => exact ⟨j + 1, HJ1, by rw [← HJJ.out]; go_num, hO9, hSr.trans hS9⟩
                case measure =>
                  have h1 := HM.out
                  have h2 := HJJ.out
                  simp only [intOf]; omega
              · exact absurd (pow_up A E j m (by have := HEl.out; omega) hm1 (by omega)) (by have := HD.out; omega)
            · have hjE : j = E := by have := HJ.out; omega
              rw [decide_eq_false hj] at ht
              rw [hjE] at hO
              have HO : Hid (Nm wr _ (A ^ E)) := hO
              obtain ⟨a, ca, rfl, hca, -, -⟩ := hO.na
              have hdm : dl (A ^ E) ≤ m := HD.out
              clear hO
              generalize hL : dl (A ^ E) = L at *
              generalize (j : Int) = J at *
              go_wp2_with fail
              refine (answers_any g _ (A ^ E) wr (by rw [hL]; have := HD.out; omega) (hg.same hSr) HO.out).mono ?_
              rintro e w9 ⟨rfl, hS9⟩
              go_wp2_with fail
              go_ret
              exact ⟨rfl, hS.trans hS9⟩
        · have HT : Hid (∀ j : Nat, decide ((j : Int) < X) = decide (j < E)) := fun j => decide_eq_decide.2 (by have := HX.out; omega)
          have HEl : Hid (E ≤ E) := Nat.le_refl _
          clear HC
          go_wp2_with fail
          go_loopw [12, 13] (fun o i wr => ∃ j : Nat, Hid (j ≤ E) ∧ i = .int .u64 (j : Int) ∧ Nm wr o (A ^ j) ∧ Same w7 wr) (fun _ i _ => E - (intOf i).toNat)
          case atStart => exact ⟨0, Nat.zero_le _, rfl, hw7, Chg.refl _ _⟩
          case round =>
            obtain ⟨j, HJ, rfl, hO, hSr⟩ := hrel
            have hS := hS7.trans hSr
            have ht := HT.out j
            by_cases hj : j < E
            · rw [decide_eq_true hj] at ht
              by_cases hdj : dl (A ^ j) ≤ m
              · have hb := hv7.same hSr
                have hO2 := hO.na
                obtain ⟨a, ca, rfl, hca, -, -⟩ := hO.na
                have hj0 : 0 ≤ (j : Int) := by omega
                have hj1 : (j : Int) < 18446744073709551615 := by have h1 := HE.out; have h2 := HEl.out; omega
                have hqm : dl (A ^ j) ≤ 4096 := by omega
                have HJ1 : Hid (j + 1 ≤ E) := hj
                have HM : Hid (E - (j + 1) < E - j) := by show _ < _; omega
                obtain ⟨J, HJJ⟩ : ∃ J : Int, Hid ((j : Int) = J) := ⟨_, rfl⟩
                rw [HJJ.out] at ht hj0 hj1 ⊢
                clear hO hj HJ
                generalize hL : dl (A ^ j) = L at *
                go_wp2_with fail
                refine (mul_any _ v6 L (dl A) (A ^ j) A wr (by omega) (by omega) hO2 hb.na).mono ?_
                rintro e w9 ⟨o9, rfl, hO9, -, hS9⟩
                rw [← Nat.pow_succ] at hO9
                go_wp2_with fail
                go_roundw
                case rel => exact ⟨j + 1, HJ1, by rw [← HJJ.out]; go_num, hO9, hSr.trans hS9⟩
                case measure =>
                  have h1 := HM.out
                  have h2 := HJJ.out
                  simp only [intOf]; omega
              · exact absurd (pow_up A E j m (by have := HEl.out; omega) hm1 (by omega)) (by have := HD.out; omega)
            · have hjE : j = E := by have := HJ.out; omega
              rw [decide_eq_false hj] at ht
              rw [hjE] at hO
              have HO : Hid (Nm wr _ (A ^ E)) := hO
              obtain ⟨a, ca, rfl, hca, -, -⟩ := hO.na
              have hdm : dl (A ^ E) ≤ m := HD.out
              clear hO
              generalize hL : dl (A ^ E) = L at *
              generalize (j : Int) = J at *
              go_wp2_with fail
              refine (answers_any g _ (A ^ E) wr (by rw [hL]; have := HD.out; omega) (hg.same hSr) HO.out).mono ?_
              rintro e w9 ⟨rfl, hS9⟩
              go_wp2_with fail
              go_ret
              exact ⟨rfl, hS.trans hS9⟩
      · have HD : Hid (m < dl (A ^ E)) := hd
        clear hd
        go_wp2_with fail
        refine (sameNat_any v3 v4 q A _ (by omega) hv3 hv4 hz4.symm).mono ?_
        rintro e w5 ⟨rfl, hS5⟩
        have hv3 := hv3.same hS5
        have hS5 := hS3.trans hS5
        go_wp2_with fail
        refine (sound_any v3 q A _ (by omega) hv3).mono ?_
        rintro e w6 ⟨v6, rfl, hv6, -, hS6⟩
        have hS6 := hS5.trans hS6
        go_wp2_with fail
        refine (cmp_any v6 _ (dl A) 1 A 1 _ (by omega) (by omega) (hv6.same (((Chg.refl _ _).alloc _).alloc _)).na (one_nm2 _ _ _ (by simp))).mono ?_
        rintro e w7 ⟨rfl, hS7⟩
        have hS67 := Chg.trans (((Chg.refl (fun _ _ => False) w6).alloc _).alloc _) hS7
        have hv7 := hv6.same hS67
        have hw7 := (one_nm w6 5).same (Chg.trans ((Chg.refl _ _).alloc _) hS7)
        have hS7 := hS6.trans hS67
        clear hS67 hS6 hS5 hS3 hS2 hv6 hv3 hv4 hz3 hz4
        obtain ⟨C, HC⟩ : ∃ C : Int, Hid (cmpN A 1 = C) := ⟨_, rfl⟩
        have hC1 : -1 ≤ C ∧ C ≤ 1 := by have := HC.out; unfold cmpN at this; split at this <;> (try split at this) <;> omega
        rw [HC.out]
        have hcs : (C ≤ 0 ∧ 1 < X ∧ A ≤ 1 ∧ 1 < E) ∨ (C ≤ 0 ∧ ¬ 1 < X) ∨ ¬ C ≤ 0 := by
          have h1 := HC.out
          have h2 := HX.out
          unfold cmpN at h1
          split at h1 <;> (try split at h1) <;> omega
        have hxe : (0 ≤ X) := x0
        rcases hcs with ⟨h1, h2, h3, h3'⟩ | ⟨h1, h2⟩ | h1
        · have HT : Hid (∀ j : Nat, decide ((j : Int) < 1) = decide (j < 1)) := fun j => decide_eq_decide.2 (by omega)
          have HEp : Hid (A ^ 1 = A ^ E) := pow_same A E h3 h3'
          have HEl : Hid (1 ≤ E) := by show _ ≤ _; omega
          clear HC h3 h3'
          go_wp2_with fail
          go_loopw [12, 13] (fun o i wr => ∃ j : Nat, Hid (j ≤ 1) ∧ i = .int .u64 (j : Int) ∧ Nm wr o (A ^ j) ∧ Same w7 wr) (fun _ i _ => 1 - (intOf i).toNat)
          case atStart => exact ⟨0, Nat.zero_le _, rfl, hw7, Chg.refl _ _⟩
          case round =>
            obtain ⟨j, HJ, rfl, hO, hSr⟩ := hrel
            have hS := hS7.trans hSr
            have ht := HT.out j
            by_cases hj : j < 1
            · rw [decide_eq_true hj] at ht
              by_cases hdj : dl (A ^ j) ≤ m
              · have hb := hv7.same hSr
                have hO2 := hO.na
                obtain ⟨a, ca, rfl, hca, -, -⟩ := hO.na
                have hj0 : 0 ≤ (j : Int) := by omega
                have hj1 : (j : Int) < 18446744073709551615 := by have h1 := HE.out; have h2 := HEl.out; omega
                have hqm : dl (A ^ j) ≤ 4096 := by omega
                have HJ1 : Hid (j + 1 ≤ 1) := hj
                have HM : Hid (1 - (j + 1) < 1 - j) := by show _ < _; omega
                obtain ⟨J, HJJ⟩ : ∃ J : Int, Hid ((j : Int) = J) := ⟨_, rfl⟩
                rw [HJJ.out] at ht hj0 hj1 ⊢
                clear hO hj HJ
                generalize hL : dl (A ^ j) = L at *
                go_wp2_with fail
                refine (mul_any _ v6 L (dl A) (A ^ j) A wr (by omega) (by omega) hO2 hb.na).mono ?_
                rintro e w9 ⟨o9, rfl, hO9, -, hS9⟩
                rw [← Nat.pow_succ] at hO9
                go_wp2_with fail
                go_roundw
                case rel => exact ⟨j + 1, HJ1, by rw [← HJJ.out]; go_num, hO9, hSr.trans hS9⟩
                case measure =>
                  have h1 := HM.out
                  have h2 := HJJ.out
                  simp only [intOf]; omega
              · obtain ⟨a, ca, rfl, hca, -, -⟩ := hO.na
                clear hO
                generalize dl (A ^ j) = L at *
                generalize (j : Int) = J at *
                go_wp2_with fail
                go_ret
                exact ⟨rfl, hS⟩
            · have hjE : j = 1 := by have := HJ.out; omega
              rw [decide_eq_false hj] at ht
              rw [hjE] at hO
              rw [HEp.out] at hO
              obtain ⟨a, ca, rfl, hca, -, -⟩ := hO.na
              have hdm : m < dl (A ^ E) := HD.out
              clear hO
              generalize hL : dl (A ^ E) = L at *
              generalize (j : Int) = J at *
              go_wp2_with fail
              go_ret
              exact ⟨rfl, hS⟩
        · have HT : Hid (∀ j : Nat, decide ((j : Int) < X) = decide (j < E)) := fun j => decide_eq_decide.2 (by have := HX.out; omega)
          have HEl : Hid (E ≤ E) := Nat.le_refl _
          clear HC
          go_wp2_with fail
          go_loopw [12, 13] (fun o i wr => ∃ j : Nat, Hid (j ≤ E) ∧ i = .int .u64 (j : Int) ∧ Nm wr o (A ^ j) ∧ Same w7 wr) (fun _ i _ => E - (intOf i).toNat)
          case atStart => exact ⟨0, Nat.zero_le _, rfl, hw7, Chg.refl _ _⟩
          case round =>
            obtain ⟨j, HJ, rfl, hO, hSr⟩ := hrel
            have hS := hS7.trans hSr
            have ht := HT.out j
            by_cases hj : j < E
            · rw [decide_eq_true hj] at ht
              by_cases hdj : dl (A ^ j) ≤ m
              · have hb := hv7.same hSr
                have hO2 := hO.na
                obtain ⟨a, ca, rfl, hca, -, -⟩ := hO.na
                have hj0 : 0 ≤ (j : Int) := by omega
                have hj1 : (j : Int) < 18446744073709551615 := by have h1 := HE.out; have h2 := HEl.out; omega
                have hqm : dl (A ^ j) ≤ 4096 := by omega
                have HJ1 : Hid (j + 1 ≤ E) := hj
                have HM : Hid (E - (j + 1) < E - j) := by show _ < _; omega
                obtain ⟨J, HJJ⟩ : ∃ J : Int, Hid ((j : Int) = J) := ⟨_, rfl⟩
                rw [HJJ.out] at ht hj0 hj1 ⊢
                clear hO hj HJ
                generalize hL : dl (A ^ j) = L at *
                go_wp2_with fail
                refine (mul_any _ v6 L (dl A) (A ^ j) A wr (by omega) (by omega) hO2 hb.na).mono ?_
                rintro e w9 ⟨o9, rfl, hO9, -, hS9⟩
                rw [← Nat.pow_succ] at hO9
                go_wp2_with fail
                go_roundw
                case rel => exact ⟨j + 1, HJ1, by rw [← HJJ.out]; go_num, hO9, hSr.trans hS9⟩
                case measure =>
                  have h1 := HM.out
                  have h2 := HJJ.out
                  simp only [intOf]; omega
              · obtain ⟨a, ca, rfl, hca, -, -⟩ := hO.na
                clear hO
                generalize dl (A ^ j) = L at *
                generalize (j : Int) = J at *
                go_wp2_with fail
                go_ret
                exact ⟨rfl, hS⟩
            · have hjE : j = E := by have := HJ.out; omega
              rw [decide_eq_false hj] at ht
              rw [hjE] at hO
              obtain ⟨a, ca, rfl, hca, -, -⟩ := hO.na
              have hdm : m < dl (A ^ E) := HD.out
              clear hO
              generalize hL : dl (A ^ E) = L at *
              generalize (j : Int) = J at *
              go_wp2_with fail
              go_ret
              exact ⟨rfl, hS⟩
        · have HT : Hid (∀ j : Nat, decide ((j : Int) < X) = decide (j < E)) := fun j => decide_eq_decide.2 (by have := HX.out; omega)
          have HEl : Hid (E ≤ E) := Nat.le_refl _
          clear HC
          go_wp2_with fail
          go_loopw [12, 13] (fun o i wr => ∃ j : Nat, Hid (j ≤ E) ∧ i = .int .u64 (j : Int) ∧ Nm wr o (A ^ j) ∧ Same w7 wr) (fun _ i _ => E - (intOf i).toNat)
          case atStart => exact ⟨0, Nat.zero_le _, rfl, hw7, Chg.refl _ _⟩
          case round =>
            obtain ⟨j, HJ, rfl, hO, hSr⟩ := hrel
            have hS := hS7.trans hSr
            have ht := HT.out j
            by_cases hj : j < E
            · rw [decide_eq_true hj] at ht
              by_cases hdj : dl (A ^ j) ≤ m
              · have hb := hv7.same hSr
                have hO2 := hO.na
                obtain ⟨a, ca, rfl, hca, -, -⟩ := hO.na
                have hj0 : 0 ≤ (j : Int) := by omega
                have hj1 : (j : Int) < 18446744073709551615 := by have h1 := HE.out; have h2 := HEl.out; omega
                have hqm : dl (A ^ j) ≤ 4096 := by omega
                have HJ1 : Hid (j + 1 ≤ E) := hj
                have HM : Hid (E - (j + 1) < E - j) := by show _ < _; omega
                obtain ⟨J, HJJ⟩ : ∃ J : Int, Hid ((j : Int) = J) := ⟨_, rfl⟩
                rw [HJJ.out] at ht hj0 hj1 ⊢
                clear hO hj HJ
                generalize hL : dl (A ^ j) = L at *
                go_wp2_with fail
                refine (mul_any _ v6 L (dl A) (A ^ j) A wr (by omega) (by omega) hO2 hb.na).mono ?_
                rintro e w9 ⟨o9, rfl, hO9, -, hS9⟩
                rw [← Nat.pow_succ] at hO9
                go_wp2_with fail
                go_roundw
                case rel => exact ⟨j + 1, HJ1, by rw [← HJJ.out]; go_num, hO9, hSr.trans hS9⟩
                case measure =>
                  have h1 := HM.out
                  have h2 := HJJ.out
                  simp only [intOf]; omega
              · obtain ⟨a, ca, rfl, hca, -, -⟩ := hO.na
                clear hO
                generalize dl (A ^ j) = L at *
                generalize (j : Int) = J at *
                go_wp2_with fail
                go_ret
                exact ⟨rfl, hS⟩
            · have hjE : j = E := by have := HJ.out; omega
              rw [decide_eq_false hj] at ht
              rw [hjE] at hO
              obtain ⟨a, ca, rfl, hca, -, -⟩ := hO.na
              have hdm : m < dl (A ^ E) := HD.out
              clear hO
              generalize hL : dl (A ^ E) = L at *
              generalize (j : Int) = J at *
              go_wp2_with fail
              go_ret
              exact ⟨rfl, hS⟩

theorem walk (a0 : Option Addr) (len0 cap0 : Nat) (z0 : List Int) (a1 : Int) (a2 : Int) (w : World) (w0 : IsRow .u8 w a0 len0 cap0 z0) (w1 : (Lit.int .u64 a1).wf = true) (w2 : (Lit.int .i64 a2).wf = true) :
    Calls Tajg.prog 3 #[.slice a0 len0 cap0, .int .u64 a1, .int .i64 a2] w fun e w' => e = .returned (.bool true) ∧ Below w.heap.size w w' := by
  obtain ⟨h1, h2, h3⟩ := row_u8 w0
  have b1 := bounds_u64 w1
  have b2 := bounds_i64 w2
  exact (main _ _ _ a1 a2 w h1 h2 h3 (by omega) (by omega) (by omega) (by omega)).mono fun e w' ⟨he, hs⟩ => ⟨he, Chg.below (Nat.le_refl _) (Same.chg hs)⟩
end Go.Proofs.Ygctaj.powerLongRight
