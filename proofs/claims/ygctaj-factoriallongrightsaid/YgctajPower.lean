/- nlong.bitsOf, nlong.Power, walked. -/
import Derived.Test.YgctajLawNat
import Derived.Test.YgctajLongMul
namespace Go.Proofs.Ygctaj.Nt
open Go.RowKit Mem
set_option linter.unusedVariables false

theorem top_lt (N m k : Nat) (h : N < 256 ^ (m + 1)) (hk : dg N m < 2 ^ k) : N < 2 ^ (8 * m + k) := by
  unfold dg at hk
  have hp : 0 < 256 ^ m := Nat.pow_pos (by decide)
  have e : N / 256 ^ m < 256 := (Nat.div_lt_iff_lt_mul hp).2 (by rw [Nat.mul_comm, ← Nat.pow_succ]; exact h)
  rw [Nat.mod_eq_of_lt e] at hk
  have := (Nat.div_lt_iff_lt_mul hp).1 hk
  rw [Nat.pow_add, Nat.mul_comm (2 ^ (8 * m)), Nat.pow_mul]
  exact this
theorem top_ge (N m k : Nat) (h : N < 256 ^ (m + 1)) (hk : 2 ^ k ≤ dg N m) : 2 ^ (8 * m + k) ≤ N := by
  unfold dg at hk
  have hp : 0 < 256 ^ m := Nat.pow_pos (by decide)
  have e : N / 256 ^ m < 256 := (Nat.div_lt_iff_lt_mul hp).2 (by rw [Nat.mul_comm, ← Nat.pow_succ]; exact h)
  rw [Nat.mod_eq_of_lt e] at hk
  have := (Nat.le_div_iff_mul_le hp).1 hk
  rw [Nat.pow_add, Nat.mul_comm (2 ^ (8 * m)), Nat.pow_mul]
  exact this
theorem half_step (t k : Nat) : t / 2 ^ k / 2 = t / 2 ^ (k + 1) := by
  rw [Nat.div_div_eq_div_mul, Nat.pow_succ]

set_option maxRecDepth 20000 in
set_option maxHeartbeats 400000 in
theorem bitsOf_any (v : Value) (N : Nat) (w : World) (h0 : N ≠ 0) (hn : dl N ≤ 1000000) (hv : Nm w v N) :
    Calls Tajg.prog 48 #[v] w fun e w' => (∃ K : Nat, e = .returned (.int .u64 ((K : Nat) : Int)) ∧ K ≤ 8000000 ∧ 0 < K ∧ 2 ^ (K - 1) ≤ N ∧ N < 2 ^ K) ∧ w' = w := by
  rcases hv.open with ⟨rfl, rfl⟩ | ⟨h0, b, off, cap, rfl, hc, hp, hr, -⟩
  · exact absurd rfl h0
  have c1 := hr (dl N - 1) (by omega)
  have d0 := dg_top N h0
  have d1 := dg_lt N (dl N - 1)
  have em : (dl N : Int) - 1 = ((dl N - 1 : Nat) : Int) := by omega
  have HL : Hid (N < 256 ^ (dl N - 1 + 1)) := by show N < _; rw [show dl N - 1 + 1 = dl N from by omega]; exact lt_dl N
  have e8 : (8 : Int) * ((dl N - 1 : Nat) : Int) = ((8 * (dl N - 1) : Nat) : Int) := by omega
  have hb8 : 8 * (dl N - 1) < 8000000 := by omega
  have HE : Hid (8 * (dl N - 1) = 8 * (dl N - 1)) := rfl
  have HT : Hid (∀ k, dg N (dl N - 1) < 2 ^ k → N < 2 ^ (8 * (dl N - 1) + k)) := fun k hk => top_lt N _ k HL.out hk
  have HG : Hid (∀ k, 2 ^ k ≤ dg N (dl N - 1) → 2 ^ (8 * (dl N - 1) + k) ≤ N) := fun k hk => top_ge N _ k HL.out hk
  have HD0 : Hid (dg N (dl N - 1) ≠ 0) := d0
  have HM : Hid (8 * (dl N - 1) + 8 ≤ 8000000) := by show _ ≤ _; omega
  clear hr hv h0 d0 HL HE
  generalize dg N (dl N - 1) = t at *
  generalize 8 * (dl N - 1) = m8 at *
  generalize hm1 : dl N - 1 = m1 at *
  generalize dl N = m at *
  go_enter Tajg.func48, Tajg.ntmps48
  go_wp2_with fail
  go_loop [3, 4] (fun i j => ∃ k : Nat, k ≤ 8 ∧ i = .int .u64 ((m8 + k : Nat) : Int) ∧ j = .int .u8 ((t / 2 ^ k : Nat) : Int) ∧ Hid (k = 0 ∨ 0 < t / 2 ^ (k - 1))) (fun _ j => (intOf j).toNat)
  case atStart => exact ⟨0, by omega, rfl, by simp, .inl rfl⟩
  case round =>
    obtain ⟨k, hk, rfl, rfl, HK⟩ := hrel
    have hs := half_step t k
    have hlt : t / 2 ^ k < 256 := Nat.lt_of_le_of_lt (Nat.div_le_self _ _) d1
    by_cases hz : t / 2 ^ k = 0
    · have HR : Hid (0 < m8 + k ∧ 2 ^ (m8 + k - 1) ≤ N ∧ N < 2 ^ (m8 + k)) := by
        rcases HK.out with h | h
        · subst h
          exact absurd (by simpa using hz) HD0.out
        · have h1 : 2 ^ (k - 1) ≤ t := by
            rcases Nat.lt_or_ge t (2 ^ (k - 1)) with h' | h'
            · rw [Nat.div_eq_of_lt h'] at h; omega
            · exact h'
          have h2 : t < 2 ^ k := by
            rcases Nat.lt_or_ge t (2 ^ k) with h' | h'
            · exact h'
            · have := Nat.div_pos h' (Nat.pow_pos (n := k) (show 0 < 2 by decide)); omega
          have hk0 : 0 < k := by
            rcases Nat.eq_zero_or_pos k with h' | h'
            · subst h'; simp at h2 hz; exact absurd hz HD0.out
            · exact h'
          refine ⟨by omega, ?_, HT.out k h2⟩
          rw [show m8 + k - 1 = m8 + (k - 1) from by omega]
          exact HG.out _ h1
      rw [hz]
      clear hs hz hlt HK
      go_wp2_with fail
      go_ret
      exact ⟨⟨m8 + k, rfl, by have := HM.out; omega, HR.out.1, HR.out.2.1, HR.out.2.2⟩, rfl⟩
    · have hk8 : k < 8 := by
        rcases Nat.lt_or_ge k 8 with h | h
        · exact h
        · exfalso; apply hz
          exact Nat.div_eq_of_lt (Nat.lt_of_lt_of_le d1 (show 2 ^ 8 ≤ 2 ^ k from Nat.pow_le_pow_right (by decide) h))
      have HK2 : Hid (k + 1 = 0 ∨ 0 < t / 2 ^ (k + 1 - 1)) := .inr (by rw [Nat.add_sub_cancel]; exact Nat.pos_of_ne_zero hz)
      have HQ : Hid (∃ q1, q1 = t / 2 ^ (k + 1)) := ⟨_, rfl⟩
      obtain ⟨q1, hq1⟩ := HQ.out
      have HQ1 : Hid (q1 = t / 2 ^ (k + 1)) := hq1
      rw [← hq1] at hs
      clear hq1 HQ HK HT HG
      generalize t / 2 ^ k = q at *
      have e2 : ((q : Nat) : Int) / 2 = ((q1 : Nat) : Int) := by omega
      have HX : Hid (q1 < q) := by show _ < _; omega
      have b1 : 0 < ((q : Nat) : Int) := by omega
      have b2 : ((q : Nat) : Int) < 256 := by omega
      clear hs hlt hz
      go_wp2_with fail
      go_round
      case rel => exact ⟨k + 1, by omega, by go_num, by rw [← HQ1.out], HK2⟩
      case measure =>
        have h1 := HX.out
        simp [intOf]; omega

theorem pow_bit (A E i : Nat) : A ^ (E / 2 ^ (i + 1)) * A ^ (E / 2 ^ (i + 1)) * A ^ (E / 2 ^ i % 2) = A ^ (E / 2 ^ i) := by
  rw [← Nat.pow_add, ← Nat.pow_add, ← half_step]
  congr 1; omega
theorem pow_sq_le (A E i : Nat) (hA : 0 < A) : A ^ (E / 2 ^ (i + 1)) * A ^ (E / 2 ^ (i + 1)) ≤ A ^ (E / 2 ^ i) := by
  rw [← pow_bit A E i]
  exact Nat.le_mul_of_pos_right _ (Nat.pow_pos hA)
theorem pow_le_all (A E i : Nat) (hA : 0 < A) : A ^ (E / 2 ^ i) ≤ A ^ E := Nat.pow_le_pow_right hA (Nat.div_le_self _ _)
theorem pow_ge_two (A E r : Nat) (hA : 2 ≤ A) (h : 8 * r ≤ E) : r < dl (A ^ E) := by
  rcases Nat.lt_or_ge r (dl (A ^ E)) with h' | h'
  · exact h'
  · have h1 := lt_dl (A ^ E)
    have h2 : 256 ^ dl (A ^ E) ≤ 256 ^ r := Nat.pow_le_pow_right (by decide) h'
    have h3 : 256 ^ r ≤ 2 ^ E := by rw [show (256 : Nat) = 2 ^ 8 from rfl, ← Nat.pow_mul]; exact Nat.pow_le_pow_right (by decide) h
    have h4 : 2 ^ E ≤ A ^ E := Nat.pow_le_pow_left hA E
    omega
theorem pow_ge_low (A E r l : Nat) (hA : 2 ^ l ≤ A) (h : 8 * r ≤ l * E) : r < dl (A ^ E) := by
  rcases Nat.lt_or_ge r (dl (A ^ E)) with h' | h'
  · exact h'
  · have h1 := lt_dl (A ^ E)
    have h2 : 256 ^ dl (A ^ E) ≤ 256 ^ r := Nat.pow_le_pow_right (by decide) h'
    have h3 : 256 ^ r ≤ 2 ^ (l * E) := by rw [show (256 : Nat) = 2 ^ 8 from rfl, ← Nat.pow_mul]; exact Nat.pow_le_pow_right (by decide) h
    have h4 : (2 ^ l) ^ E ≤ A ^ E := Nat.pow_le_pow_left hA E
    rw [← Nat.pow_mul] at h4
    omega
theorem pow_low (A E r l : Nat) (hl : 1 ≤ l) (hA : A < 2 ^ (l + 1)) (h : l * E < 8 * r) : dl (A ^ E) ≤ 2 * r := by
  apply dl_le
  rcases Nat.eq_zero_or_pos E with h0 | h0
  · subst h0; rw [Nat.pow_zero]; exact Nat.one_lt_pow (by omega) (by decide)
  have h1 : A ^ E < (2 ^ (l + 1)) ^ E := Nat.pow_lt_pow_left hA (by omega)
  rw [← Nat.pow_mul] at h1
  refine Nat.lt_of_lt_of_le h1 ?_
  rw [show (256 : Nat) = 2 ^ 8 from rfl, ← Nat.pow_mul]
  refine Nat.pow_le_pow_right (by decide) ?_
  have : E ≤ l * E := Nat.le_mul_of_pos_left _ hl
  rw [Nat.add_mul]; omega
theorem and_one_u64 (E : Nat) (h1 : E < 18446744073709551616) : bits BinOp.and IntKind.u64 (E : Int) 1 = ((E % 2 : Nat) : Int) := by
  have h := bits_mask .u64 64 (by decide) (fun n h0 h1 => by rw [IntKind.wrap_u64]; omega) 1 (by decide) (E : Int) (by omega) (by omega)
  simpa using h
theorem and_bit_u64 (E i : Nat) (h1 : E < 18446744073709551616) : bits BinOp.and IntKind.u64 ((E : Int) / 2 ^ i) 1 = ((E / 2 ^ i % 2 : Nat) : Int) := by
  have h := and_one_u64 (E / 2 ^ i) (Nat.lt_of_le_of_lt (Nat.div_le_self _ _) h1)
  rw [← h]; push_cast; rfl

/-- Power for most below 1. -/
theorem power_none (v : Value) (n A : Nat) (X M : Int) (w : World) (hn : n ≤ 1000000) (hM : M < 1) (hv : Na w v n A) :
    Calls Tajg.prog 17 #[v, .int .u64 X, .int .i64 M] w fun e w' => e = .returned (.tuple #[.slice none 0 0, .bool false]) ∧ w' = w := by
  go_enter Tajg.func17, Tajg.ntmps17
  go_wp2_with fail
  refine (normal_any v n A w (by omega) hv).mono ?_
  rintro e w1 ⟨⟨v', rfl, hv', hf⟩, rfl⟩
  go_wp2_with fail
  go_ret2
  exact ⟨rfl, rfl⟩

/-- Power where the power is 1 or the base is 0. -/
theorem power_few (v : Value) (n A E : Nat) (M : Int) (w : World) (hn : n ≤ 1000000) (hM : 1 ≤ M) (hE : E < 18446744073709551616) (h : E = 0 ∨ A ≤ 1) (hv : Na w v n A) :
    Calls Tajg.prog 17 #[v, .int .u64 (E : Int), .int .i64 M] w fun e w' => ∃ v', e = .returned (.tuple #[v', .bool true]) ∧ Nm w' v' (A ^ E) ∧ Fr w.heap.size w' v' ∧ Same w w' := by
  go_enter Tajg.func17, Tajg.ntmps17
  go_wp2_with fail
  refine (normal_any v n A w (by omega) hv).mono ?_
  rintro e w1 ⟨⟨v', rfl, hv', hf⟩, rfl⟩
  by_cases h0 : E = 0
  · subst h0
    clear hf hv
    go_wp2_with fail
    go_ret2
    exact ⟨_, rfl, by rw [Nat.pow_zero]; exact one_nm _ _, Fr.mk (Nat.le_refl _) (fun i _ => by rw [World.frozen?_alloc_new]), (Chg.refl _ _).alloc _⟩
  · rcases hv'.open with ⟨rfl, rfl⟩ | ⟨h0', b, off, cap, rfl, hc, hp, hr, -⟩
    · have hx : ((E : Int) == 0) = false := by rw [beq_eq_false_iff_ne]; omega
      have x0 : 0 < (E : Int) := by omega
      have x1 : (E : Int) < 18446744073709551616 := by omega
      have HP : Hid (0 ^ E = 0) := Nat.zero_pow (by omega)
      clear hE h h0
      generalize ((E : Nat) : Int) = X at *
      go_wp2_with fail
      go_ret2
      exact ⟨_, rfl, by rw [HP.out]; exact Nm.nil _, Fr.nil _ _, Chg.refl _ _⟩
    · have hA : A = 1 := by omega
      subst hA
      have hd : dl 1 = 1 := by rw [dl_pos (by decide), show 1 / 256 = 0 from rfl, dl_zero]
      rw [hd] at hr hp hc ⊢
      have c1 := hr 0 (by omega)
      have hx : ((E : Int) == 0) = false := by rw [beq_eq_false_iff_ne]; omega
      have x0 : 0 < (E : Int) := by omega
      have x1 : (E : Int) < 18446744073709551616 := by omega
      rw [Nat.add_zero, show dg 1 0 = 1 from rfl] at c1
      clear hE h h0 h0' hv' hf hv hr
      generalize ((E : Nat) : Int) = X at *
      go_wp2_with fail
      go_ret2
      exact ⟨_, rfl, by rw [Nat.one_pow]; exact one_nm _ _, Fr.mk (Nat.le_refl _) (fun i _ => by rw [World.frozen?_alloc_new]), (Chg.refl _ _).alloc _⟩
end Go.Proofs.Ygctaj.Nt
