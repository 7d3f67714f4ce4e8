/- nlong.leadAt, leads, walked. -/
import Derived.Test.YgctajWords
namespace Go.Proofs.Ygctaj.Nt
open Go.RowKit Mem
set_option linter.unusedVariables false

theorem pow8 (i : Nat) : 256 ^ (4 * i) = 2 ^ (32 * i) := by
  rw [show (256 : Nat) = 2 ^ 8 from rfl, ← Nat.pow_mul]; congr 1; omega
theorem dw_next (N i : Nat) : N / 256 ^ (4 * i) = dw N i + 4294967296 * (N / 256 ^ (4 * (i + 1))) := by
  unfold dw
  rw [show 256 ^ (4 * (i + 1)) = 256 ^ (4 * i) * 4294967296 from by rw [show 4 * (i + 1) = 4 * i + 4 from by omega, Nat.pow_add], ← Nat.div_div_eq_div_mul]
  omega
theorem two_words (N i : Nat) (h : N < 256 ^ (4 * (i + 2))) : dw N i + dw N (i + 1) * 2 ^ 32 = N / 256 ^ (4 * i) := by
  rw [dw_next N i]
  have : N / 256 ^ (4 * (i + 1)) < 4294967296 := (Nat.div_lt_iff_lt_mul (pp _)).2 (by
    rw [show (4294967296 : Nat) = 256 ^ 4 from rfl, ← Nat.pow_add, show 4 + 4 * (i + 1) = 4 * (i + 2) from by omega]; exact h)
  have e : dw N (i + 1) = N / 256 ^ (4 * (i + 1)) := by unfold dw; exact Nat.mod_eq_of_lt this
  rw [e]
  omega
theorem lead_pos (N i k t : Nat) (ht : t = 32 * i + k) : N / 256 ^ (4 * i) / 2 ^ k = N / 2 ^ t := by
  rw [ht, Nat.div_div_eq_div_mul, pow8, ← Nat.pow_add]
theorem lead_neg (N i k t : Nat) (hk : k ≤ 32) (ht : t + k = 32 * (i + 1)) : N / 256 ^ (4 * (i + 1)) * 2 ^ k + dw N i / 2 ^ (32 - k) = N / 2 ^ t := by
  have e : 2 ^ t = 256 ^ (4 * i) * 2 ^ (32 - k) := by rw [pow8, ← Nat.pow_add]; congr 1; omega
  rw [e, ← Nat.div_div_eq_div_mul, dw_next N i]
  generalize N / 256 ^ (4 * (i + 1)) = M
  have e2 : 4294967296 * M = 2 ^ (32 - k) * (2 ^ k * M) := by
    rw [← Nat.mul_assoc, ← Nat.pow_add, show 32 - k + k = 32 from by omega]
  rw [e2, Nat.add_mul_div_left _ _ (Nat.pow_pos (by decide)), Nat.mul_comm M, Nat.add_comm]

set_option maxRecDepth 20000 in
set_option maxHeartbeats 1000000 in
theorem leadAt_pos (v : Value) (n N i k t : Nat) (I D : Int) (w : World) (hn : n ≤ 100000) (hi : i ≤ 100000) (hI : I = (i : Int)) (hD : D = (k : Int)) (hk : k ≤ 2) (ht : t = 32 * i + k) (hN : N < 256 ^ (4 * (i + 2))) (hU : N / 2 ^ t < 4611686018427387904) (hv : Wn w v n N) :
    Calls Tajg.prog 97 #[v, .int .i64 I, .int .i64 D] w fun e w' => e = .returned (.int .i64 ((N / 2 ^ t : Nat) : Int)) ∧ w' = w := by
  subst hI hD
  have h2 := two_words N i hN
  have hor := or_words (dw N i) (dw N (i + 1)) 32 (dw_lt N i)
  rw [h2] at hor
  have hl := lead_pos N i k t ht
  have hMb : N / 256 ^ (4 * i) < 18446744073709551616 := (Nat.div_lt_iff_lt_mul (pp _)).2 (by
    rw [show (18446744073709551616 : Nat) = 256 ^ 8 from by decide, ← Nat.pow_add, show 8 + 4 * i = 4 * (i + 2) from by omega]; exact hN)
  have hd1 := dw_lt N (i + 1)
  have hd0 := dw_lt N i
  have hb : dw N (i + 1) * 2 ^ 32 < 18446744073709551616 := by omega
  have hor2 := u64_or_nat (dw N i) (dw N (i + 1) * 2 ^ 32) (by omega) hb
  rw [hor] at hor2
  have HS : Hid (((N / 256 ^ (4 * i) : Nat) : Int) / 2 ^ k = ((N / 2 ^ t : Nat) : Int)) := by
    show _ = _
    rw [← hl]; push_cast; rfl
  have eS : ((N / 256 ^ (4 * i) : Nat) : Int) / 2 ^ k = ((N / 2 ^ t : Nat) : Int) := HS.out
  have e32 : ((dw N (i + 1) : Nat) : Int) * 4294967296 = ((dw N (i + 1) * 2 ^ 32 : Nat) : Int) := by omega
  have z0 : 0 ≤ ((dw N i : Nat) : Int) := by omega
  have z1 : ((dw N i : Nat) : Int) < 4294967296 := by omega
  have z2 : 0 ≤ ((dw N (i + 1) : Nat) : Int) := by omega
  have z3 : ((dw N (i + 1) : Nat) : Int) < 4294967296 := by omega
  have z4 : 0 ≤ ((dw N (i + 1) * 2 ^ 32 : Nat) : Int) := Int.natCast_nonneg _
  have z5 : ((dw N (i + 1) * 2 ^ 32 : Nat) : Int) < 18446744073709551616 := Int.ofNat_lt.2 hb
  have z6 : 0 ≤ ((N / 256 ^ (4 * i) : Nat) : Int) := Int.natCast_nonneg _
  have z7 : ((N / 256 ^ (4 * i) : Nat) : Int) < 18446744073709551616 := Int.ofNat_lt.2 hMb
  have z8 : 0 ≤ ((N / 2 ^ t : Nat) : Int) := Int.natCast_nonneg _
  have z9 : ((N / 2 ^ t : Nat) : Int) < 4611686018427387904 := Int.ofNat_lt.2 hU
  clear HS hor h2 hl hMb hd1 hd0 hb hU ht hN
  go_enter Tajg.func97, Tajg.ntmps97
  go_wp2_with fail
  refine (wordAt_any v n N i _ w hn (by omega) rfl hv).mono ?_
  rintro e w1 ⟨rfl, rfl⟩
  generalize ((dw N i : Nat) : Int) = D0 at *
  go_wp2_with fail
  refine (wordAt_any v n N (i + 1) _ _ hn (by omega) (by go_num) hv).mono ?_
  rintro e w1 ⟨rfl, rfl⟩
  generalize ((dw N (i + 1) * 2 ^ 32 : Nat) : Int) = E1 at *
  generalize ((dw N (i + 1) : Nat) : Int) = D1 at *
  generalize ((N / 256 ^ (4 * i) : Nat) : Int) = M at *
  obtain ⟨U, HU⟩ : ∃ U : Int, Hid (U = ((N / 2 ^ t : Nat) : Int)) := ⟨_, rfl⟩
  rw [← HU.out] at eS z8 z9
  go_wp2_with fail
  go_ret
  exact ⟨ret_int HU.out, rfl⟩

set_option maxRecDepth 200000 in
set_option maxHeartbeats 1000000 in
theorem leadAt_neg (v : Value) (n N i k t : Nat) (I D : Int) (w : World) (hn : n ≤ 100000) (hi : i ≤ 100000) (hI : I = ((i + 1 : Nat) : Int)) (hD : D = -(k : Int)) (hk1 : 1 ≤ k) (hk : k ≤ 29) (ht : t + k = 32 * (i + 1)) (hN : N < 256 ^ (4 * (i + 3))) (hU : N / 2 ^ t < 4611686018427387904) (hv : Wn w v n N) :
    Calls Tajg.prog 97 #[v, .int .i64 I, .int .i64 D] w fun e w' => e = .returned (.int .i64 ((N / 2 ^ t : Nat) : Int)) ∧ Same w w' := by
  have HD : Hid (D = -(k : Int)) := hD
  have hDn : -D = (k : Int) := by omega
  have hD0 : D < 0 := by omega
  have hD29 : -29 ≤ D := by omega
  clear hD
  have h2 := two_words N (i + 1) hN
  have hor := or_words (dw N (i + 1)) (dw N (i + 1 + 1)) 32 (dw_lt N (i + 1))
  rw [h2] at hor
  have hl := lead_neg N i k t (by omega) ht
  have hMb : N / 256 ^ (4 * (i + 1)) < 18446744073709551616 := (Nat.div_lt_iff_lt_mul (pp _)).2 (by
    rw [show (18446744073709551616 : Nat) = 256 ^ 8 from by decide, ← Nat.pow_add, show 8 + 4 * (i + 1) = 4 * (i + 3) from by omega]; exact hN)
  have hd1 := dw_lt N (i + 1 + 1)
  have hd0 := dw_lt N (i + 1)
  have hdm := dw_lt N i
  have hb : dw N (i + 1 + 1) * 2 ^ 32 < 18446744073709551616 := by omega
  have hor2 := u64_or_nat (dw N (i + 1)) (dw N (i + 1 + 1) * 2 ^ 32) (by omega) hb
  rw [hor] at hor2
  have hsm : dw N i / 2 ^ (32 - k) < 2 ^ k := (Nat.div_lt_iff_lt_mul (Nat.pow_pos (by decide))).2 (by
    rw [← Nat.pow_add, show k + (32 - k) = 32 from by omega]; exact hdm)
  have hor3 := Nat.two_pow_add_eq_or_of_lt hsm (N / 256 ^ (4 * (i + 1)))
  rw [Nat.mul_comm, hl] at hor3
  have hMk : N / 256 ^ (4 * (i + 1)) * 2 ^ k < 18446744073709551616 := Nat.lt_of_le_of_lt (Nat.le_trans (Nat.le_add_right _ _) (Nat.le_of_eq hl)) (Nat.lt_trans hU (by decide))
  have hsm2 : dw N i / 2 ^ (32 - k) < 18446744073709551616 := Nat.lt_of_le_of_lt (Nat.le_trans (Nat.le_add_left _ _) (Nat.le_of_eq hl)) (Nat.lt_trans hU (by decide))
  have hor4 := u64_or_nat (N / 256 ^ (4 * (i + 1)) * 2 ^ k) (dw N i / 2 ^ (32 - k)) hMk hsm2
  rw [← hor3] at hor4
  obtain ⟨j, HJ⟩ : ∃ j, Hid (j = 32 - k) := ⟨_, rfl⟩
  have ej : (32 : Int) + D = (j : Int) := by have h1 := HJ.out; have h2 := HD.out; omega
  have hj32 : j < 32 := by have := HJ.out; omega
  rw [← HJ.out] at hor4 hsm2
  have eMk : ((N / 256 ^ (4 * (i + 1)) : Nat) : Int) * 2 ^ k = ((N / 256 ^ (4 * (i + 1)) * 2 ^ k : Nat) : Int) := by push_cast; rfl
  have eDj : ((dw N i : Nat) : Int) / 2 ^ j = ((dw N i / 2 ^ j : Nat) : Int) := by push_cast; rfl
  have e32 : ((dw N (i + 1 + 1) : Nat) : Int) * 4294967296 = ((dw N (i + 1 + 1) * 2 ^ 32 : Nat) : Int) := by omega
  have z0 : 0 ≤ ((dw N (i + 1) : Nat) : Int) := by omega
  have z1 : ((dw N (i + 1) : Nat) : Int) < 4294967296 := by omega
  have z2 : 0 ≤ ((dw N (i + 1 + 1) : Nat) : Int) := by omega
  have z3 : ((dw N (i + 1 + 1) : Nat) : Int) < 4294967296 := by omega
  have z4 : 0 ≤ ((dw N (i + 1 + 1) * 2 ^ 32 : Nat) : Int) := Int.natCast_nonneg _
  have z5 : ((dw N (i + 1 + 1) * 2 ^ 32 : Nat) : Int) < 18446744073709551616 := Int.ofNat_lt.2 hb
  have z6 : 0 ≤ ((N / 256 ^ (4 * (i + 1)) : Nat) : Int) := Int.natCast_nonneg _
  have z7 : ((N / 256 ^ (4 * (i + 1)) : Nat) : Int) < 18446744073709551616 := Int.ofNat_lt.2 hMb
  have y0 : 0 ≤ ((dw N i : Nat) : Int) := by omega
  have y1 : ((dw N i : Nat) : Int) < 4294967296 := by omega
  have y2 : 0 ≤ ((N / 256 ^ (4 * (i + 1)) * 2 ^ k : Nat) : Int) := Int.natCast_nonneg _
  have y3 : ((N / 256 ^ (4 * (i + 1)) * 2 ^ k : Nat) : Int) < 18446744073709551616 := Int.ofNat_lt.2 hMk
  have y4 : 0 ≤ ((dw N i / 2 ^ j : Nat) : Int) := Int.natCast_nonneg _
  have y5 : ((dw N i / 2 ^ j : Nat) : Int) < 18446744073709551616 := Int.ofNat_lt.2 hsm2
  have z8 : 0 ≤ ((N / 2 ^ t : Nat) : Int) := Int.natCast_nonneg _
  have z9 : ((N / 2 ^ t : Nat) : Int) < 4611686018427387904 := Int.ofNat_lt.2 hU
  clear hor h2 hl hMb hd1 hd0 hb hU ht hN hdm hsm hor3 hMk hsm2
  subst hI
  have ei : ((i + 1 : Nat) : Int) - 1 = (i : Int) := by omega
  obtain ⟨i2, Hi2⟩ : ∃ i2, Hid (i2 = i + 1 + 1) := ⟨_, rfl⟩
  have ei2 : ((i + 1 : Nat) : Int) + 1 = (i2 : Int) := by have := Hi2.out; omega
  rw [← Hi2.out] at z2 z3 e32
  obtain ⟨U, HU⟩ : ∃ U : Int, Hid (U = ((N / 2 ^ t : Nat) : Int)) := ⟨_, rfl⟩
  rw [← HU.out] at hor4 z8 z9
  generalize ((dw N i / 2 ^ j : Nat) : Int) = Dj at *
  generalize ((N / 256 ^ (4 * (i + 1)) * 2 ^ k : Nat) : Int) = Mk at *
  generalize ((N / 256 ^ (4 * (i + 1)) : Nat) : Int) = M at *
  rw [← Hi2.out] at hor2 z4 z5
  generalize ((dw N i2 * 2 ^ 32 : Nat) : Int) = E1 at *
  obtain ⟨Dm, HDm⟩ : ∃ Dm : Int, Hid (Dm = ((dw N i : Nat) : Int)) := ⟨_, rfl⟩
  rw [← HDm.out] at eDj y0 y1
  obtain ⟨i1, Hi1⟩ : ∃ i1, Hid (i1 = i + 1) := ⟨_, rfl⟩
  rw [← Hi1.out] at hor2 z0 z1 ei ei2 ⊢
  go_enter Tajg.func97, Tajg.ntmps97
  go_wp2_with fail
  refine (wordAt_any v n N i1 _ w hn (by have := Hi1.out; omega) rfl hv).mono ?_
  rintro e w1 ⟨rfl, rfl⟩
  generalize ((dw N i1 : Nat) : Int) = D0 at *
  go_wp2_with fail
  refine (wordAt_any v n N i2 _ _ hn (by have := Hi2.out; omega) (by first | rfl | exact ei2) hv).mono ?_
  rintro e w1 ⟨rfl, rfl⟩
  generalize ((dw N i2 : Nat) : Int) = D1 at *
  go_wp2_with fail
  refine Text.wp_text (by kernel_rfl) (by kernel_rfl) ⟨fun c a w h => by exact absurd h.2.1 (by simp), fun a w h => by exact absurd h.1 (by simp)⟩ ?_
  intro K hK
  go_wp2_with fail
  refine (wordAt_any v n N i _ _ hn (by omega) (by first | rfl | exact ei) (hv.same (Chg.refl _ _).drew)).mono ?_
  rintro e w2 ⟨rfl, rfl⟩
  rw [← HDm.out]
  go_wp2_with fail
  refine hK _ _ (by rfl) ?_
  go_wp2_with fail
  go_ret
  exact ⟨ret_int HU.out, (Chg.refl _ _).drew⟩
end Go.Proofs.Ygctaj.Nt
