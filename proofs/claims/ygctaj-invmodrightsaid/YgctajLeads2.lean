/- nlong.leads, walked. -/
import Derived.Test.YgctajLeads
namespace Go.Proofs.Ygctaj.Nt
open Go.RowKit Mem
set_option linter.unusedVariables false

theorem top_word (X m : Nat) (h : X < 256 ^ (4 * (m + 1))) : X / 256 ^ (4 * m) = dw X m := by
  unfold dw
  refine (Nat.mod_eq_of_lt ((Nat.div_lt_iff_lt_mul (pp _)).2 ?_)).symm
  rw [show (4294967296 : Nat) = 256 ^ 4 from rfl, ← Nat.pow_add, show 4 + 4 * m = 4 * (m + 1) from by omega]; exact h
theorem top_bound (X m j t : Nat) (h : X < 256 ^ (4 * (m + 2))) (hj : j ≤ 31) (hT : dw X (m + 1) * 2 ^ j < 4294967296) (ht : t + j = 32 * m + 2) : X / 2 ^ t < 4611686018427387904 := by
  have h1 : dw X (m + 1) < 2 ^ (32 - j) := by
    have e : (4294967296 : Nat) = 2 ^ (32 - j) * 2 ^ j := by rw [← Nat.pow_add, show 32 - j + j = 32 from by omega]
    rw [e] at hT
    exact Nat.lt_of_mul_lt_mul_right hT
  have h2 := top_word X (m + 1) h
  have h3 : X < (dw X (m + 1) + 1) * 256 ^ (4 * (m + 1)) := by rw [← h2]; exact lt_up X _
  refine (Nat.div_lt_iff_lt_mul (Nat.pow_pos (by decide))).2 (Nat.lt_of_lt_of_le h3 ?_)
  have e : 4611686018427387904 * 2 ^ t = 2 ^ (32 - j) * 256 ^ (4 * (m + 1)) := by
    rw [show (4611686018427387904 : Nat) = 2 ^ 62 from by decide, pow8, ← Nat.pow_add, ← Nat.pow_add]; congr 1; omega
  rw [e]
  exact Nat.mul_le_mul_right _ h1

theorem leadAt_any (v : Value) (n N m j t : Nat) (I D : Int) (w : World) (hn : n ≤ 100000) (hm : m ≤ 90000) (hI : I = ((m + 1 : Nat) : Int)) (hj : j ≤ 31) (hD : D = 2 - (j : Int)) (ht : t + j = 32 * (m + 1) + 2) (hN : N < 256 ^ (4 * (m + 3))) (hU : N / 2 ^ t < 4611686018427387904) (hv : Wn w v n N) :
    Calls Tajg.prog 97 #[v, .int .i64 I, .int .i64 D] w fun e w' => e = .returned (.int .i64 ((N / 2 ^ t : Nat) : Int)) ∧ Same w w' := by
  by_cases h : j ≤ 2
  · refine (leadAt_pos v n N (m + 1) (2 - j) t I D w hn (by omega) hI (by omega) (by omega) (by omega) hN hU hv).mono ?_
    rintro e w' ⟨rfl, rfl⟩
    exact ⟨rfl, Chg.refl _ _⟩
  · exact leadAt_neg v n N m (j - 2) t I D w hn (by omega) hI (by omega) (by omega) (by omega) (by omega) hN hU hv

set_option maxRecDepth 20000 in
set_option maxHeartbeats 1000000 in
theorem leads_any (x y : Value) (n ny X Y : Nat) (w : World) (hn : 3 ≤ n) (hn2 : n ≤ 80000) (hny : ny ≤ 80000) (hwl : wl X = n) (hYX : Y ≤ X) (hx : Wn w x n X) (hy : Wn w y ny Y) :
    Calls Tajg.prog 61 #[x, y] w fun e w' => ∃ t, e = .returned (.tuple #[.int .i64 ((X / 2 ^ t : Nat) : Int), .int .i64 ((Y / 2 ^ t : Nat) : Int)]) ∧ X / 2 ^ t < 4611686018427387904 ∧ Same w w' := by
  obtain ⟨m, rfl⟩ : ∃ m, n = m + 3 := ⟨n - 3, by omega⟩
  have hXl := hx.lt
  have hX0 : X ≠ 0 := fun h => by rw [h, wl_zero] at hwl; omega
  have hT1 : 1 ≤ dw X (m + 2) := by
    rw [← top_word X (m + 2) hXl]
    have := le_wl X hX0
    rw [hwl, show m + 3 - 1 = m + 2 from by omega] at this
    exact Nat.div_pos this (pp _)
  have hTlt := dw_lt X (m + 2)
  have HXl : Hid (X < 256 ^ (4 * (m + 1 + 2))) := hXl
  have HYl : Hid (Y < 256 ^ (4 * (m + 3))) := Nat.lt_of_le_of_lt hYX hXl
  have HYX : Hid (Y ≤ X) := hYX
  have HX : Hid (Wn w x (m + 3) X) := hx
  obtain ⟨a, cap, rfl, hc, -, hr⟩ := hx
  obtain ⟨b, off, rfl, hR, -⟩ := hr (by omega)
  have c1 := hR (m + 2) (by omega)
  have e1 : ((m + 3 : Nat) : Int) - 1 = ((m + 2 : Nat) : Int) := by omega
  have e2 : ((m + 3 : Nat) : Int) - 2 = ((m + 1 : Nat) : Int) := by omega
  clear hr hR hXl hX0 hwl hYX
  obtain ⟨T, HT⟩ : ∃ T, Hid (T = dw X (m + 2)) := ⟨_, rfl⟩
  rw [← HT.out] at c1 hT1 hTlt
  obtain ⟨n, Hn⟩ : ∃ n, Hid (n = m + 3) := ⟨_, rfl⟩
  obtain ⟨n1, Hn1⟩ : ∃ n1, Hid (n1 = m + 2) := ⟨_, rfl⟩
  obtain ⟨n2, Hn2⟩ : ∃ n2, Hid (n2 = m + 1) := ⟨_, rfl⟩
  rw [← Hn.out, ← Hn1.out] at e1
  rw [← Hn.out, ← Hn2.out] at e2
  rw [← Hn1.out] at c1
  rw [← Hn.out] at HX hc hn2 ⊢
  have hnn : n1 < n := by have h1 := Hn.out; have h2 := Hn1.out; omega
  have HTT : Hid (T < 4294967296) := hTlt
  clear hTlt hn
  go_enter Tajg.func61, Tajg.ntmps61
  go_wp2_with fail
  go_loop [6, 7] (fun d o => ∃ (j S : Nat), j ≤ 31 ∧ d = .int .i64 (2 - (j : Int)) ∧ o = .int .u32 (S : Int) ∧ Hid (S = T * 2 ^ j ∧ S < 4294967296)) (fun _ o => (4294967296 - intOf o).toNat)
  case atStart => exact ⟨0, T, by omega, rfl, rfl, by simp, HTT.out⟩
  case round =>
    obtain ⟨j, S, hj, rfl, rfl, HS⟩ := hrel
    obtain ⟨Z, HZ⟩ : ∃ Z : Int, Hid (Z = (S : Int)) := ⟨_, rfl⟩
    rw [← HZ.out]
    have z0 : 0 < Z := by
      have h1 := HZ.out
      have h2 : 1 ≤ S := by rw [HS.out.1]; exact Nat.mul_pos hT1 (Nat.pow_pos (by decide))
      omega
    have z1 : Z < 4294967296 := by have h1 := HZ.out; have h2 := HS.out.2; omega
    by_cases hlt : Z < 2147483648
    · have hj30 : j ≤ 30 := by
        rcases Nat.lt_or_ge 30 j with h | h
        · exfalso
          have h1 : 2 ^ 31 ≤ 2 ^ j := Nat.pow_le_pow_right (by decide) h
          have h2 := Nat.mul_le_mul hT1 h1
          rw [← HS.out.1] at h2
          have h3 := HZ.out
          omega
        · exact h
      have HS2 : Hid (S * 2 = T * 2 ^ (j + 1) ∧ S * 2 < 4294967296) := ⟨by rw [HS.out.1, Nat.pow_succ, Nat.mul_assoc], by have := HZ.out; omega⟩
      go_wp2_with fail
      go_round
      case rel => exact ⟨j + 1, S * 2, by omega, by go_num, by have := HZ.out; go_num, HS2⟩
      case measure => have := HZ.out; simp [intOf]; omega
    · obtain ⟨t, HTt⟩ : ∃ t, Hid (t + j = 32 * (m + 1) + 2) := ⟨32 * (m + 1) + 2 - j, by show _ = _; omega⟩
      have HU : Hid (X / 2 ^ t < 4611686018427387904) := top_bound X (m + 1) j t HXl.out hj (by rw [show m + 1 + 1 = m + 2 from rfl, ← HT.out, ← HS.out.1]; exact HS.out.2) HTt.out
      have HV : Hid (Y / 2 ^ t < 4611686018427387904) := Nat.lt_of_le_of_lt (Nat.div_le_div_right HYX.out) HU.out
      go_wp2_with fail
      refine (leadAt_any _ n X m j t _ _ w (by omega) (by have := Hn.out; omega) (by rw [← Hn2.out]) hj rfl HTt.out HXl.out HU.out HX.out).mono ?_
      rintro e w1 ⟨rfl, hs1⟩
      have hy1 := hy.same hs1
      obtain ⟨U, HUU⟩ : ∃ U : Int, Hid (U = ((X / 2 ^ t : Nat) : Int)) := ⟨_, rfl⟩
      rw [← HUU.out]
      go_wp2_with fail
      refine (leadAt_any y ny Y m j t _ _ w1 (by omega) (by have := Hn.out; omega) (by rw [← Hn2.out]) hj rfl HTt.out HYl.out HV.out hy1).mono ?_
      rintro e w2 ⟨rfl, hs2⟩
      obtain ⟨V, HVV⟩ : ∃ V : Int, Hid (V = ((Y / 2 ^ t : Nat) : Int)) := ⟨_, rfl⟩
      rw [← HVV.out]
      go_wp2_with fail
      go_ret2
      exact ⟨t, by rw [← HUU.out, ← HVV.out]; rfl, HU.out, hs1.trans hs2⟩
end Go.Proofs.Ygctaj.Nt
