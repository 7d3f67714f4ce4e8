/- nlong.Power for a base above 1, walked. -/
import Derived.Test.YgctajPower
namespace Go.Proofs.Ygctaj.Nt
open Go.RowKit Mem Long
set_option linter.unusedVariables false

/-- what Power answers. -/
def PowAns (B : Nat) (w' : World) (e : Ending) (R m : Nat) : Prop :=
  (dl R ≤ m ∧ ∃ v', e = .returned (.tuple #[v', .bool true]) ∧ Nm w' v' R ∧ Fr B w' v') ∨ (m < dl R ∧ e = .returned (.tuple #[.slice none 0 0, .bool false]))

set_option maxRecDepth 100000 in
set_option maxHeartbeats 1000000 in
theorem power_many (v : Value) (n A E m : Nat) (w : World) (hn : n ≤ 16384) (hm1 : 1 ≤ m) (hm : m ≤ 4096) (hE : E < 18446744073709551616) (hE0 : 0 < E) (hA : 2 ≤ A) (hv : Na w v n A) :
    Calls Tajg.prog 17 #[v, .int .u64 (E : Int), .int .i64 (m : Int)] w fun e w' => PowAns w.heap.size w' e (A ^ E) m ∧ Same w w' := by
  have hlA : dl A ≤ 16384 := by have := dl_le _ _ hv.lt; omega
  go_enter Tajg.func17, Tajg.ntmps17
  go_wp2_with fail
  refine (normal_any v n A w (by omega) hv).mono ?_
  rintro e w1 ⟨⟨v', rfl, hv', -⟩, rfl⟩
  rcases hv'.open with ⟨rfl, rfl⟩ | ⟨h0', b, off, cap, rfl, hc, hp, hr, -⟩
  · omega
  have c1 := hr 0 (by omega)
  rw [Nat.add_zero] at c1
  have d1 := dg_lt A 0
  have t1 : (((dl A : Nat) : Int) == 1) = false ∨ (((dl A : Nat) : Int) == 1) = true ∧ (((dg A 0 : Nat) : Int) == 1) = false := by
    by_cases h : dl A = 1
    · refine .inr ⟨by rw [h]; rfl, ?_⟩
      have := lt_dl A
      rw [h] at this
      have h2 : dg A 0 = A := by unfold dg; simp; omega
      rw [h2, beq_eq_false_iff_ne]; omega
    · exact .inl (by rw [beq_eq_false_iff_ne]; omega)
  have t2 : (((dl A : Nat) : Int) == 0) = false := by rw [beq_eq_false_iff_ne]; omega
  have hx : ((E : Int) == 0) = false := by rw [beq_eq_false_iff_ne]; omega
  have x0 : 0 < (E : Int) := by omega
  have x1 : (E : Int) < 18446744073709551616 := by omega
  have HE : Hid (E < 18446744073709551616) := hE
  have HE0 : Hid (0 < E) := hE0
  have HA : Hid (2 ≤ A) := hA
  have HL : Hid (dl A ≤ 16384) := hlA
  have z3 : 0 ≤ ((dg A 0 : Nat) : Int) := by omega
  have z4 : ((dg A 0 : Nat) : Int) < 256 := by omega
  obtain ⟨r, HR⟩ : ∃ r : Nat, Hid (r = 8 * m) := ⟨_, rfl⟩
  have er : (8 : Int) * (m : Int) = (r : Int) := by have := HR.out; omega
  have hr1 : r ≤ 32768 := by have := HR.out; omega
  have hr0 : 8 ≤ r := by have := HR.out; omega
  clear hE hE0 hA hr d1 hv h0' hn hlA
  have HV : Hid (Nm w1 (.slice (some ⟨b, off, none⟩) (dl A) cap) A) := hv'
  clear hv'
  generalize ((dg A 0 : Nat) : Int) = D at *
  obtain ⟨X, HX⟩ : ∃ X : Int, Hid (((E : Nat) : Int) = X) := ⟨_, rfl⟩
  rw [HX.out] at hx x0 x1 ⊢
  rcases t1 with t1 | ⟨t1, t1'⟩
  all_goals
    go_wp2_with fail
    refine (bitsOf_any _ A _ (by have := HA.out; omega) (by have := HL.out; omega) HV.out).mono ?_
    rintro e w2 ⟨⟨K, rfl, hK1, hK2, hK3, hK4⟩, rfl⟩
    have hK5 : 2 ≤ K := by
      rcases Nat.lt_or_ge K 2 with h | h
      · obtain rfl : K = 1 := by omega
        have := HA.out; omega
      · exact h
    obtain ⟨l, rfl⟩ : ∃ l, K = l + 1 := ⟨K - 1, by omega⟩
    have HK3 : Hid (2 ^ l ≤ A) := by rw [Nat.add_sub_cancel] at hK3; exact hK3
    have HK4 : Hid (A < 2 ^ (l + 1)) := hK4
    have el : ((l + 1 : Nat) : Int) - 1 = (l : Int) := by omega
    have hl1 : 0 < l := by omega
    clear hK2 hK3 hK4 hK5
    by_cases g1 : (r : Int) ≤ X
    · have HB : Hid (m < dl (A ^ E)) := pow_ge_two A E m HA.out (by have h1 := HX.out; have h2 := HR.out; omega)
      go_wp2_with fail
      go_ret2
      exact ⟨.inr ⟨HB.out, rfl⟩, Chg.refl _ _⟩
    · have g1' : decide ((r : Int) ≤ X) = false := by simpa using g1
      by_cases g2 : r ≤ l
      · have HB : Hid (m < dl (A ^ E)) := pow_ge_low A E m l HK3.out (by
          have h2 := HR.out
          have h3 := HE0.out
          have : l ≤ l * E := Nat.le_mul_of_pos_right _ h3
          omega)
        go_wp2_with fail
        go_ret2
        exact ⟨.inr ⟨HB.out, rfl⟩, Chg.refl _ _⟩
      · obtain ⟨y, HY⟩ : ∃ y : Nat, Hid (y = l * E) := ⟨_, rfl⟩
        have ey : (l : Int) * X = (y : Int) := by rw [HY.out, ← HX.out]; push_cast; rfl
        have hy : y < 2000000000 := by
          rw [HY.out]
          have h1 : E < 32768 := by have := HX.out; omega
          have h2 : l * E ≤ 32768 * 32768 := Nat.mul_le_mul (by omega) (by omega)
          omega
        by_cases g3 : r ≤ y
        · have HB : Hid (m < dl (A ^ E)) := pow_ge_low A E m l HK3.out (by have h2 := HR.out; have h1 := HY.out; omega)
          go_wp2_with fail
          go_ret2
          exact ⟨.inr ⟨HB.out, rfl⟩, Chg.refl _ _⟩
        · have HB : Hid (dl (A ^ E) ≤ 8192) := by
            have := pow_low A E m l (by omega) HK4.out (by have h2 := HR.out; have h1 := HY.out; omega)
            show _ ≤ _; omega
          have HAE : Hid (∀ i, dl (A ^ (E / 2 ^ i)) ≤ 8192) := fun i => Nat.le_trans (dl_mono (pow_le_all A E i (by have := HA.out; omega))) HB.out
          clear HY HK3 HK4
          go_wp2_with fail
          go_loopw [10, 11] (fun o i wr => ∃ j : Nat, j ≤ 64 ∧ i = .int .i64 ((j : Int) - 1) ∧ Nm wr o (A ^ (E / 2 ^ j)) ∧ Fr w2.heap.size wr o ∧ Same w2 wr) (fun _ i _ => (intOf i + 1).toNat)
          case atStart =>
            refine ⟨64, by omega, rfl, ?_, ?_, ?_⟩
            · rw [Nat.div_eq_of_lt HE.out, Nat.pow_zero]; exact one_nm _ _
            · exact Fr.mk (Nat.le_refl _) (fun i _ => by rw [World.frozen?_alloc_new])
            · exact (Chg.refl _ _).alloc _
          case round =>
            obtain ⟨j, hj, rfl, hO, hF, hS⟩ := hrel
            by_cases h0 : j = 0
            · subst h0
              rw [Nat.pow_zero, Nat.div_one] at hO
              obtain ⟨a, ca, rfl, hca, -, -⟩ := hO.na
              by_cases hdm : dl (A ^ E) ≤ m
              · have HO : Hid (Nm wr (.slice a (dl (A ^ E)) ca) (A ^ E)) := hO
                have HD : Hid (dl (A ^ E) ≤ m) := hdm
                clear hO
                generalize hq : dl (A ^ E) = q at *
                go_wp2_with fail
                go_ret2
                exact ⟨.inl ⟨by rw [hq]; exact HD.out, _, rfl, HO.out, hF⟩, hS⟩
              · have HD : Hid (m < dl (A ^ E)) := Nat.lt_of_not_le hdm
                clear hO
                generalize hq : dl (A ^ E) = q at *
                go_wp2_with fail
                go_ret2
                exact ⟨.inr ⟨by rw [hq]; exact HD.out, rfl⟩, hS⟩
            · obtain ⟨i, rfl⟩ : ∃ i, j = i + 1 := ⟨j - 1, by omega⟩
              have ei : ((i + 1 : Nat) : Int) - 1 = (i : Int) := by omega
              have hi : i < 64 := by omega
              have HP := pow_bit A E i
              have HI := HAE.out i
              have HI1 := HAE.out (i + 1)
              have HQ : Hid (dl (A ^ (E / 2 ^ (i + 1)) * A ^ (E / 2 ^ (i + 1))) ≤ 8192) := Nat.le_trans (dl_mono (pow_sq_le A E i (by have := HA.out; omega))) HI
              have hb := and_bit_u64 E i HE.out
              rw [HX.out] at hb
              clear h0 hj
              rw [ei]
              go_wp2_with fail
              refine (mulLong_any _ _ _ _ _ _ wr (by omega) (by omega) hO.na hO.na).mono ?_
              rintro e w3 ⟨o3, rfl, hO3, hF3, hS3⟩
              have hS13 := hS.trans hS3
              rcases Nat.mod_two_eq_zero_or_one (E / 2 ^ i) with hbit | hbit
              · rw [hbit] at hb HP
                rw [Nat.pow_zero, Nat.mul_one] at HP
                rw [HP] at hO3
                go_wp2_with fail
                go_roundw
                case rel => exact ⟨i, by omega, rfl, hO3, hF3.mono hS.size, hS13⟩
                case measure => simp [intOf]
              · rw [hbit] at hb HP
                rw [Nat.pow_one] at HP
                have hVA := HV.out.same hS13
                go_wp2_with fail
                refine (mulLong_any _ _ _ _ _ _ w3 (by have := HQ.out; omega) HL.out hO3.na hVA.na).mono ?_
                rintro e w4 ⟨o4, rfl, hO4, hF4, hS4⟩
                rw [HP] at hO4
                go_wp2_with fail
                go_roundw
                case rel => exact ⟨i, by omega, rfl, hO4, hF4.mono hS13.size, hS13.trans hS4⟩
                case measure => simp [intOf]
end Go.Proofs.Ygctaj.Nt
