/- nlong.up, down, value, lead, nat.Succ, walked. -/
import Derived.Test.YgctajLawNat
import Derived.Test.YgctajDivPlain
import Derived.Laws.BitsAllLaws
import Derived.Laws.AppendOwn
namespace Go.Proofs.Ygctaj.Nt
open Go.RowKit Mem
set_option linter.unusedVariables false

theorem Na.zero {w : World} {v : Value} {N : Nat} (h : Na w v 0 N) : N = 0 := by have := h.lt; simpa using this
theorem Na.nil (w : World) : Na w (.slice none 0 0) 0 0 := ⟨none, 0, rfl, Nat.le_refl _, by simp, fun h => absurd h (by omega)⟩

theorem dg_up (N k i : Nat) : dg (N * 256 ^ k) (k + i) = dg N i := by
  unfold dg
  rw [Nat.pow_add, ← Nat.div_div_eq_div_mul, Nat.mul_div_cancel _ (pp k)]
theorem dg_up0 (N k i : Nat) (h : i < k) : dg (N * 256 ^ k) i = 0 := by
  unfold dg
  rw [show 256 ^ k = 256 ^ (k - i - 1) * 256 * 256 ^ i from by rw [← Nat.pow_succ, ← Nat.pow_add]; congr 1; omega, ← Nat.mul_assoc, Nat.mul_div_cancel _ (pp i), ← Nat.mul_assoc, Nat.mul_mod_left]
theorem dg_down (N k i : Nat) : dg (N / 256 ^ k) i = dg N (k + i) := by
  unfold dg
  rw [Nat.div_div_eq_div_mul, ← Nat.pow_add]

set_option maxRecDepth 20000 in
set_option maxHeartbeats 400000 in
theorem up_any (v : Value) (n N k : Nat) (K : Int) (w : World) (hn : n ≤ 1000000) (hk : k ≤ 1000000) (hK : K = (k : Int)) (hv : Na w v n N) :
    Calls Tajg.prog 118 #[v, .int .i64 K] w fun e w' => ∃ v' n', e = .returned v' ∧ n' ≤ k + n ∧ Na w' v' n' (N * 256 ^ k) ∧ Fr w.heap.size w' v' ∧ Same w w' := by
  subst hK
  rcases Nat.eq_zero_or_pos n with h0 | h0
  · subst h0
    have hz := hv.zero
    subst hz
    obtain ⟨a, cap, rfl, _⟩ := hv
    go_enter Tajg.func118, Tajg.ntmps118
    go_wp2_with fail
    go_ret
    exact ⟨_, 0, rfl, by omega, by rw [Nat.zero_mul]; exact Na.nil _, Fr.nil _ _, Chg.refl _ _⟩
  · have HV : Hid (N < 256 ^ n) := hv.lt
    obtain ⟨a, cap, rfl, hc, -, hr⟩ := hv
    obtain ⟨b, off, rfl, hR, -⟩ := hr h0
    have hz2 : ((n : Int) == 0) = false := by rw [beq_eq_false_iff_ne]; omega
    have ekn : (k : Int) + (n : Int) = ((k + n : Nat) : Int) := by omega
    have hkn : k ≤ k + n := by omega
    have hkn2 : k + n ≤ 2000000 := by omega
    have hkn3 : k + n - k = n := by omega
    have HR : Hid (Rd .u8 w b off n (dg N)) := hR
    clear hr hR
    obtain ⟨m, HM⟩ : ∃ m, Hid (m = k + n) := ⟨_, rfl⟩
    rw [← HM.out] at ekn hkn hkn2 hkn3
    go_enter Tajg.func118, Tajg.ntmps118
    go_wp2_with (first
        | (at_make; refine wpList_mkc m .u8 5 1 _ _ (by rfl) (by rfl) (by go_num) (by go_num) Tajg.underlying24 info5 (by omega) (by omega) ?_; intro B w1 hB1 hB2 hRB hCB hs1)
        | (refine wpList_cp n .u8 5 (by rfl) (by rfl) (Nat.min_self n).symm (HR.out.same hs1) (show Rd .u8 w1 B k n (fun _ => 0) from fun i hi => by have := HM.out; have h := hRB (k + i) (by omega); rw [Nat.zero_add] at h; exact h) (hCB.wr _ _) Tajg.underlying24 size5 ?_; intro w2 hR2 hC2))
    have hC2' := hCB.kept hC2 hB2
    have hS2 := hs1.trans_new hC2 (fun q o hq h => by obtain ⟨rfl, _⟩ := h; omega)
    have hRm : Rd .u8 w2 B 0 m (dg (N * 256 ^ k)) := by
      intro i hi
      rw [Nat.zero_add]
      by_cases h : i < k
      · have c := hRB i hi
        rw [Nat.zero_add] at c
        rw [dg_up0 N k i h]
        exact cellK hC2 c (by omega)
      · have c := hR2 (i - k) (by have := HM.out; omega)
        rw [mix_lt _ _ (by have := HM.out; omega), show k + (i - k) = i from by omega] at c
        rw [show i = k + (i - k) from by omega, dg_up, show k + (i - k) = i from by omega]
        exact c
    go_ret
    refine ⟨_, m, rfl, by have := HM.out; omega, ⟨_, m, rfl, Nat.le_refl _, ?_, fun _ => ⟨B, 0, rfl, hRm, hC2'⟩⟩, Fr.mk hB1 (hC2'.wr _ _), hS2⟩
    rw [HM.out, Nat.pow_add, Nat.mul_comm]
    exact (Nat.mul_lt_mul_left (pp k)).2 HV.out

set_option maxRecDepth 20000 in
set_option maxHeartbeats 400000 in
theorem down_any (v : Value) (n N k : Nat) (K : Int) (w : World) (hn : n ≤ 1000000) (hk : k ≤ 1000000) (hK : K = (k : Int)) (hv : Na w v n N) :
    Calls Tajg.prog 57 #[v, .int .i64 K] w fun e w' => (∃ v', e = .returned v' ∧ Na w v' (n - k) (N / 256 ^ k) ∧ (∀ B, Fr B w v → Fr B w v') ∧ ∀ b, v'.ownBlock = some b → v.ownBlock = some b) ∧ w' = w := by
  subst hK
  have HV : Hid (N < 256 ^ n) := hv.lt
  obtain ⟨a, cap, rfl, hc, -, hr⟩ := hv
  by_cases hkn : n ≤ k
  · clear hr
    go_enter Tajg.func57, Tajg.ntmps57
    go_wp2_with fail
    go_ret
    refine ⟨⟨_, rfl, ?_, fun B _ => Fr.nil B _, fun b hb => by cases hb⟩, rfl⟩
    rw [show n - k = 0 from by omega, Nat.div_eq_of_lt (Nat.lt_of_lt_of_le HV.out (Nat.pow_le_pow_right (by decide) hkn))]
    exact Na.nil _
  · obtain ⟨b, off, rfl, hR, hcl⟩ := hr (by omega)
    have HNa : Hid (Na w (.slice (some ⟨b, off + k, none⟩) (n - k) (n - k)) (n - k) (N / 256 ^ k)) := by
      refine ⟨_, _, rfl, Nat.le_refl _, (Nat.div_lt_iff_lt_mul (pp k)).2 (by rw [← Nat.pow_add, show n - k + k = n from by omega]; exact HV.out), fun _ => ⟨b, off + k, rfl, fun i hi => ?_, hcl⟩⟩
      rw [dg_down, Nat.add_assoc]; exact hR (k + i) (by omega)
    have HFr : Hid (∀ B, Fr B w (.slice (some ⟨b, off, none⟩) n cap) → Fr B w (.slice (some ⟨b, off + k, none⟩) (n - k) (n - k))) := by
      intro B h
      obtain ⟨h1, _, h3⟩ := h b off none n cap rfl
      exact Fr.mk h1 (hcl.wr _ _)
    have hkn2 : k < n := by omega
    clear hr hR hcl hkn
    go_enter Tajg.func57, Tajg.ntmps57
    go_wp2_with fail
    go_ret
    exact ⟨⟨_, rfl, HNa.out, HFr.out, fun b hb => hb⟩, rfl⟩

theorem or_nat (a d : Nat) (hd : d < 256) : (a * 256 ||| d) = a * 256 + d := by
  have := Nat.two_pow_add_eq_or_of_lt (i := 8) (b := d) hd a
  rw [show (2 : Nat) ^ 8 = 256 from rfl, Nat.mul_comm] at this
  exact this.symm
theorem or_dg (a d : Nat) (ha : a * 256 + d < 18446744073709551616) (hd : d < 256) : bits .or .u64 ((a * 256 : Nat) : Int) (d : Int) = ((a * 256 + d : Nat) : Int) := by
  have h1 : a * 256 < 18446744073709551616 := Nat.lt_of_le_of_lt (Nat.le_add_right _ _) ha
  have h2 : d < 18446744073709551616 := Nat.lt_of_le_of_lt (Nat.le_add_left _ _) ha
  exact (u64_or_nat (a * 256) d h1 h2).trans (congrArg _ (or_nat a d hd))

set_option maxRecDepth 20000 in
set_option maxHeartbeats 400000 in
theorem value_any (v : Value) (n N : Nat) (w : World) (hn : n ≤ 8) (hv : Na w v n N) :
    Calls Tajg.prog 65 #[v] w fun e w' => e = .returned (.int .u64 (N : Int)) ∧ w' = w := by
  have HV : Hid (N < 256 ^ n) := hv.lt
  have HB : Hid (N < 18446744073709551616) := Nat.lt_of_lt_of_le HV.out (Nat.le_trans (Nat.pow_le_pow_right (by decide) hn) (by decide))
  obtain ⟨a, cap, rfl, hc, -, hr⟩ := hv
  have HR : Hid (0 < n → ∃ b off, a = some ⟨b, off, none⟩ ∧ Rd .u8 w b off n (dg N) ∧ Cl w b) := hr
  clear hr
  go_enter Tajg.func65, Tajg.ntmps65
  go_wp2_with fail
  go_loop [3, 4] (fun o i => ∃ j : Nat, j ≤ n ∧ i = .int .i64 ((j : Int) - 1) ∧ o = .int .u64 ((N / 256 ^ j : Nat) : Int)) (fun _ i => (intOf i + 1).toNat)
  case atStart => exact ⟨n, Nat.le_refl _, rfl, by rw [Nat.div_eq_of_lt HV.out]; rfl⟩
  case round =>
    obtain ⟨j, hj, rfl, rfl⟩ := hrel
    by_cases h0 : j = 0
    · subst h0
      rw [Nat.pow_zero, Nat.div_one]
      have x0 : (0 : Int) ≤ (N : Int) := by omega
      have x1 : (N : Int) < 18446744073709551616 := by have := HB.out; omega
      clear HR
      go_wp2_with fail
      go_ret
      exact ⟨rfl, rfl⟩
    · obtain ⟨b, off, rfl, hR, -⟩ := HR.out (by omega)
      obtain ⟨i, rfl⟩ : ∃ i, j = i + 1 := ⟨j - 1, by omega⟩
      have c1 := hR i (by omega)
      have d1 := dg_lt N i
      have ei : ((i + 1 : Nat) : Int) - 1 = (i : Int) := by omega
      have hd := div_dg N (i + 1) (by omega)
      rw [Nat.add_sub_cancel] at hd
      have hb : N / 256 ^ i ≤ N := Nat.div_le_self _ _
      have ho := or_dg (N / 256 ^ (i + 1)) (dg N i) (by have := HB.out; omega) d1
      have HQ : Hid (N / 256 ^ (i + 1) * 256 + dg N i = N / 256 ^ i) := by show _ = _; omega
      rw [HQ.out] at ho
      have hA1 : N / 256 ^ (i + 1) * 256 < 18446744073709551616 := by have := HB.out; omega
      clear hR HR HQ hd
      rw [ei]
      generalize N / 256 ^ (i + 1) = A at *
      have ea : (A : Int) * 256 = ((A * 256 : Nat) : Int) := by omega
      have z0 : (0 : Int) ≤ (A : Int) := by omega
      have z1 : (A : Int) < 18446744073709551616 := by omega
      have z2 : (0 : Int) ≤ ((A * 256 : Nat) : Int) := by omega
      have z3 : ((A * 256 : Nat) : Int) < 18446744073709551616 := by omega
      have z4 : (0 : Int) ≤ ((dg N i : Nat) : Int) := by omega
      have z5 : ((dg N i : Nat) : Int) < 256 := by omega
      clear hA1 d1 hb
      generalize ((A * 256 : Nat) : Int) = A2 at *
      generalize (A : Int) = A1 at *
      generalize ((dg N i : Nat) : Int) = D at *
      go_wp2_with fail
      go_round
      case rel => exact ⟨i, by omega, rfl, rfl⟩
      case measure => simp [intOf]

set_option maxRecDepth 20000 in
theorem succ_any (v : Value) (n N : Nat) (w : World) (hn : n ≤ 1000000) (hv : Na w v n N) :
    Calls Tajg.prog 96 #[v] w fun e w' => ∃ v', e = .returned v' ∧ Nm w' v' (N + 1) ∧ Fr w.heap.size w' v' ∧ Same w w' := by
  go_enter Tajg.func96, Tajg.ntmps96
  go_wp2_with fail
  refine (add_any v _ n 1 N 1 _ (by omega) (by omega) (hv.same ((Chg.refl _ _).alloc _)) (one_nm2 _ _ _ rfl)).mono ?_
  rintro e w1 ⟨v', rfl, hv', hf, hs⟩
  go_wp2_with fail
  go_ret
  exact ⟨_, rfl, hv', hf.mono (by simp), Chg.trans ((Chg.refl _ _).alloc _) hs⟩

set_option maxRecDepth 20000 in
theorem lead_any (v : Value) (N k : Nat) (K : Int) (w : World) (hN : dl N ≤ 100000) (hk : k ≤ 100000) (hK : K = (k : Int)) (hv : Nm w v N) :
    Calls Tajg.prog 94 #[v, .int .i64 K] w fun e w' => ∃ v' n', e = .returned v' ∧ n' ≤ k + 1 ∧ Na w' v' n' (ld N k) ∧ Same w w' := by
  subst hK
  have HV := hv.na
  obtain ⟨a, cap, rfl, hc, -, -⟩ := hv.na
  by_cases h : dl N ≤ k
  · have HL : Hid (ld N k = N * 256 ^ (k - dl N)) := by show _ = _; unfold ld; rw [if_pos h]
    rw [HL.out]
    have ek : (k : Int) - (dl N : Int) = ((k - dl N : Nat) : Int) := by omega
    have hj : k - dl N ≤ 100000 := by omega
    have HJ : Hid (k - dl N + dl N ≤ k + 1) := by show _ ≤ _; omega
    clear hv
    generalize dl N = m at *
    generalize k - m = j at *
    go_enter Tajg.func94, Tajg.ntmps94
    go_wp2_with fail
    refine (up_any _ m N j _ w (by omega) (by omega) (by go_num) HV).mono ?_
    rintro e w1 ⟨v', n', rfl, hn', hv', -, hs⟩
    go_wp2_with fail
    go_ret
    exact ⟨_, n', rfl, by have := HJ.out; omega, hv', hs⟩
  · have HL : Hid (ld N k = N / 256 ^ (dl N - k) + 1) := by show _ = _; unfold ld; rw [if_neg h]
    have HH : Hid (dl (ld N k) ≤ k + 1) := dl_le _ _ (Nat.lt_of_le_of_lt (ld_high N k) (Nat.pow_lt_pow_right (by decide) (by omega)))
    rw [HL.out] at HH ⊢
    have ek : (dl N : Int) - (k : Int) = ((dl N - k : Nat) : Int) := by omega
    have hj : dl N - k ≤ 100000 := by omega
    clear hv
    generalize dl N = m at *
    generalize m - k = j at *
    go_enter Tajg.func94, Tajg.ntmps94
    go_wp2_with fail
    refine (down_any _ m N j _ w (by omega) (by omega) (by go_num) HV).mono ?_
    rintro e w1 ⟨⟨v', rfl, hv', -⟩, rfl⟩
    go_wp2_with fail
    refine (succ_any v' _ _ _ (by omega) hv').mono ?_
    rintro e w2 ⟨v2, rfl, hv2, -, hs⟩
    go_wp2_with fail
    go_ret
    exact ⟨_, _, rfl, HH.out, hv2.na, hs⟩
end Go.Proofs.Ygctaj.Nt
