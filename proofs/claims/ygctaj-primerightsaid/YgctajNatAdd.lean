/- nat.Add, nat.Cmp, nat.Sub, walked. -/
import Derived.Test.YgctajNatMem
namespace Go.Proofs.Ygctaj.Nt
open Go.RowKit Mem
set_option linter.unusedVariables false

/-- the carry into digit i. -/
def car (P Q i : Nat) : Nat := (P % 256 ^ i + Q % 256 ^ i) / 256 ^ i
theorem car_zero (P Q : Nat) : car P Q 0 = 0 := by simp [car, Nat.mod_one]
theorem car_le (P Q i : Nat) : car P Q i ≤ 1 := by
  unfold car
  have hp : 0 < 256 ^ i := Nat.pow_pos (by decide)
  have h1 := Nat.mod_lt P hp
  have h2 := Nat.mod_lt Q hp
  refine Nat.le_of_lt_succ ((Nat.div_lt_iff_lt_mul hp).2 ?_)
  omega
theorem add_step (P Q i : Nat) : dg P i + car P Q i + dg Q i = 256 * car P Q (i + 1) + dg (P + Q) i := by
  unfold car dg
  have hp : 0 < 256 ^ i := Nat.pow_pos (by decide)
  have e0 : P + Q = P % 256 ^ i + Q % 256 ^ i + 256 ^ i * (P / 256 ^ i + Q / 256 ^ i) := by
    have h1 := Nat.mod_add_div P (256 ^ i)
    have h2 := Nat.mod_add_div Q (256 ^ i)
    rw [Nat.mul_add]; omega
  have e1 : (P + Q) / 256 ^ i = (P % 256 ^ i + Q % 256 ^ i) / 256 ^ i + (P / 256 ^ i + Q / 256 ^ i) := by
    rw [← Nat.add_mul_div_left _ _ hp, ← e0]
  rw [e1, Nat.pow_succ, Nat.mod_mul, Nat.mod_mul, ← Nat.div_div_eq_div_mul]
  have e : (P % 256 ^ i + 256 ^ i * (P / 256 ^ i % 256) + (Q % 256 ^ i + 256 ^ i * (Q / 256 ^ i % 256))) = P % 256 ^ i + Q % 256 ^ i + 256 ^ i * (P / 256 ^ i % 256 + Q / 256 ^ i % 256) := by rw [Nat.mul_add]; omega
  rw [e, Nat.add_mul_div_left _ _ hp]
  generalize (P % 256 ^ i + Q % 256 ^ i) / 256 ^ i = C
  generalize P / 256 ^ i = A
  generalize Q / 256 ^ i = B
  omega
theorem car_end (P Q n : Nat) (hP : P < 256 ^ n) (hQ : Q < 256 ^ n) : car P Q n = dg (P + Q) n := by
  have := car_le P Q n
  unfold car at this ⊢
  unfold dg
  rw [Nat.mod_eq_of_lt hP, Nat.mod_eq_of_lt hQ] at this ⊢
  generalize (P + Q) / 256 ^ n = q at *
  omega
theorem dg_above (N i n : Nat) (hN : N < 256 ^ n) (hi : n ≤ i) : dg N i = 0 := by
  unfold dg
  rw [Nat.div_eq_of_lt (Nat.lt_of_lt_of_le hN (Nat.pow_le_pow_right (by decide) hi))]

theorem info5 : (Tajg.prog.info? 5).map (fun i => (i.zero, i.size, i.bytes)) = some (some (.int .u8 0), 1, 1) := by kernel_rfl
theorem size5 : (Tajg.prog.info? 5).map (fun i => i.size) = some 1 := by kernel_rfl

set_option maxRecDepth 100000 in
set_option maxHeartbeats 1000000 in
theorem add_any (u v : Value) (m n M N : Nat) (w : World) (hm : m ≤ 1099511627776) (hn : n ≤ 1099511627776) (hu : Na w u m M) (hv : Na w v n N) :
    Calls Tajg.prog 50 #[u, v] w fun e w' => ∃ v', e = .returned v' ∧ Nm w' v' (M + N) ∧ Fr w.heap.size w' v' ∧ Same w w' := by
  have hlM : dl M ≤ m := by obtain ⟨_, _, _, _, h, _⟩ := hu; exact dl_le _ _ h
  have hlN : dl N ≤ n := by obtain ⟨_, _, _, _, h, _⟩ := hv; exact dl_le _ _ h
  go_enter Tajg.func50, Tajg.ntmps50
  go_wp2_with fail
  refine (trim_any u m M w (by omega) hu).mono ?_
  rintro e w1 ⟨⟨u1, rfl, hu1, -⟩, rfl⟩
  go_wp2_with fail
  refine (trim_any v n N _ (by omega) hv).mono ?_
  rintro e w1 ⟨⟨v1, rfl, hv1, -⟩, rfl⟩
  clear hu hv
  obtain ⟨⟨a, ca, rfl, hca, hM, hra⟩, -⟩ := hu1
  obtain ⟨⟨a', cb, rfl, hcb, hN, hrb⟩, -⟩ := hv1
  have HM : Hid (M < 256 ^ dl M) := hM
  have HN : Hid (N < 256 ^ dl N) := hN
  clear hM hN
  have hk : dl M ≤ 1099511627776 := by omega
  have hl : dl N ≤ 1099511627776 := by omega
  clear hm hn hlM hlN
  generalize hSum : M + N = S
  have HSum : Hid (M + N = S) := hSum
  generalize dl M = la at *
  generalize dl N = lb at *
  have hcase : ∃ P Q lp lq : Nat, (∃ (p q : Option Addr) (cp cq : Nat), lq ≤ lp ∧ lp ≤ 1099511627776 ∧ Hid (P < 256 ^ lp) ∧ Hid (Q < 256 ^ lq) ∧ Hid (P + Q = S) ∧
      (0 < lp → ∃ b off, p = some ⟨b, off, none⟩ ∧ Rd .u8 w1 b off lp (dg P) ∧ Cl w1 b) ∧ (0 < lq → ∃ b off, q = some ⟨b, off, none⟩ ∧ Rd .u8 w1 b off lq (dg Q) ∧ Cl w1 b) ∧
      ((la < lb ∧ lp = lb ∧ lq = la ∧ p = a' ∧ q = a ∧ cp = cb ∧ cq = ca) ∨ (lb ≤ la ∧ lp = la ∧ lq = lb ∧ p = a ∧ q = a' ∧ cp = ca ∧ cq = cb))) := by
    by_cases h : la < lb
    · exact ⟨N, M, lb, la, a', a, cb, ca, by omega, by omega, HN, HM, (by show _ = _; omega), hrb, hra, .inl ⟨h, rfl, rfl, rfl, rfl, rfl, rfl⟩⟩
    · exact ⟨M, N, la, lb, a, a', ca, cb, by omega, by omega, HM, HN, hSum, hra, hrb, .inr ⟨by omega, rfl, rfl, rfl, rfl, rfl, rfl⟩⟩
  clear hra hrb HM HN hSum hca hcb hk hl
  obtain ⟨P, Q, lp, lq, p, q, cp, cq, hle, hlp, HP, HQ, HS, hrp, hrq, hc⟩ := hcase
  rcases hc with ⟨hlt, rfl, rfl, rfl, rfl, rfl, rfl⟩ | ⟨hlt, rfl, rfl, rfl, rfl, rfl, rfl⟩
  all_goals
    go_wp2_with (at_make; refine wpList_mkc (lp + 1) .u8 5 1 _ _ (by rfl) (by rfl) (by go_num) (by go_num) Tajg.underlying24 info5 (by omega) (by omega) ?_; intro B w2 hB1 hB2 hR hW hS)
    clear hlt
    go_loopw [6, 7] (fun c i wr => ∃ i' : Nat, i' ≤ lp ∧ i = .int .i64 i' ∧ c = .int .u16 ((car P Q i' : Nat) : Int) ∧ Rd .u8 wr B 0 (lp + 1) (mix i' (dg S) (fun _ => 0)) ∧ Cl wr B ∧ Same w1 wr) (fun _ i _ => lp - (intOf i).toNat)
    case atStart => exact ⟨0, Nat.zero_le _, rfl, by rw [car_zero]; rfl, hR.start _, hW, hS⟩
    case round =>
      clear hR hW hS
      obtain ⟨i, hi, rfl, rfl, hR, hW, hS⟩ := hrel
      have hcl := car_le P Q i
      have b1 : 0 ≤ ((car P Q i : Nat) : Int) := by omega
      have b2 : ((car P Q i : Nat) : Int) ≤ 1 := by omega
      by_cases hlt : i < lp
      · obtain ⟨b, off, rfl, hrp2, -⟩ := hrp (by omega)
        have cp := (hrp2.same hS) i hlt
        have di := hR.at (show i < lp + 1 by omega)
        have fi := hW (0 + i)
        rw [Nat.zero_add] at di fi
        have hst := add_step P Q i
        have hcl2 := car_le P Q (i + 1)
        have hd1 := dg_lt P i
        have hd2 := dg_lt Q i
        have hd3 := dg_lt (P + Q) i
        rw [HS.out] at hst hd3
        have HST : Hid (Rd .u8 (wr.setCell ⟨B, i, none⟩ (.int .u8 ((dg S i : Nat) : Int))) B 0 (lp + 1) (mix (i + 1) (dg S) (fun _ => 0))) := by
          have := hR.step (show i < lp + 1 by omega) _ rfl
          rw [Nat.zero_add] at this
          exact this
        have b3 : 0 ≤ ((dg P i : Nat) : Int) := by omega
        have b4 : ((dg P i : Nat) : Int) < 256 := by omega
        have b7 : 0 ≤ ((dg S i : Nat) : Int) := by omega
        have b8 : ((dg S i : Nat) : Int) < 256 := by omega
        have b9 : 0 ≤ ((car P Q (i + 1) : Nat) : Int) := by omega
        have b10 : ((car P Q (i + 1) : Nat) : Int) ≤ 1 := by omega
        by_cases hlq : i < lq
        · obtain ⟨b', off', rfl, hrq2, -⟩ := hrq (by omega)
          have cq := (hrq2.same hS) i hlq
          have b5 : 0 ≤ ((dg Q i : Nat) : Int) := by omega
          have b6 : ((dg Q i : Nat) : Int) < 256 := by omega
          have hstI : ((dg P i : Nat) : Int) + ((car P Q i : Nat) : Int) + ((dg Q i : Nat) : Int) = 256 * ((car P Q (i + 1) : Nat) : Int) + ((dg S i : Nat) : Int) := by omega
          have HC : Hid (((dg P i : Nat) : Int) + ((car P Q i : Nat) : Int) + ((dg Q i : Nat) : Int) = 256 * ((car P Q (i + 1) : Nat) : Int) + ((dg S i : Nat) : Int)) := hstI
          clear hst hcl2 hd1 hd2 hd3 hcl hrp hrq hrp2 hrq2 hstI
          generalize ((car P Q i : Nat) : Int) = C at *
          generalize hC1 : ((car P Q (i + 1) : Nat) : Int) = C1 at *
          have HC1 : Hid (((car P Q (i + 1) : Nat) : Int) = C1) := hC1
          clear hC1
          generalize ((dg P i : Nat) : Int) = A at *
          generalize ((dg Q i : Nat) : Int) = A' at *
          generalize ((dg S i : Nat) : Int) = D at *
          go_wp2_with fail
          go_roundw
          case rel =>
            have e1 : (A + C + A') % 256 = D := by have := HC.out; omega
            have e2 : (A + C + A') / 256 = C1 := by have := HC.out; omega
            rw [e1, e2]
            exact ⟨i + 1, by omega, by go_num, by rw [HC1.out], HST.out, hW.setCell _ _, hS.setCell _ _ _ (by omega)⟩
          case measure => simp [intOf]; omega
        · have hz := dg_above Q i lq HQ.out (by omega)
          have HC : Hid (((dg P i : Nat) : Int) + ((car P Q i : Nat) : Int) = 256 * ((car P Q (i + 1) : Nat) : Int) + ((dg S i : Nat) : Int)) := by show _ = _; omega
          clear hst hcl2 hd1 hd2 hd3 hcl hrp hrq hrp2 hz
          generalize ((car P Q i : Nat) : Int) = C at *
          generalize hC1 : ((car P Q (i + 1) : Nat) : Int) = C1 at *
          have HC1 : Hid (((car P Q (i + 1) : Nat) : Int) = C1) := hC1
          clear hC1
          generalize ((dg P i : Nat) : Int) = A at *
          generalize ((dg S i : Nat) : Int) = D at *
          go_wp2_with fail
          go_roundw
          case rel =>
            have e1 : (A + C) % 256 = D := by have := HC.out; omega
            have e2 : (A + C) / 256 = C1 := by have := HC.out; omega
            rw [e1, e2]
            exact ⟨i + 1, by omega, by go_num, by rw [HC1.out], HST.out, hW.setCell _ _, hS.setCell _ _ _ (by omega)⟩
          case measure => simp [intOf]; omega
      · have ei : i = lp := by omega
        have di := hR.at (show i < lp + 1 by omega)
        have fi := hW (0 + i)
        rw [Nat.zero_add] at di fi
        have hce := car_end P Q i (by rw [ei]; exact HP.out) (Nat.lt_of_lt_of_le HQ.out (Nat.pow_le_pow_right (by decide) (by omega)))
        rw [HS.out] at hce
        have HSl : Hid (S < 256 ^ (lp + 1)) := by
          show _ < _
          have h1 := HP.out
          have h2 := Nat.lt_of_lt_of_le HQ.out (Nat.pow_le_pow_right (show 0 < 256 by decide) hle)
          have h3 := HS.out
          rw [Nat.pow_succ]; omega
        have HST : Hid (Rd .u8 (wr.setCell ⟨B, i, none⟩ (.int .u8 ((car P Q i : Nat) : Int))) B 0 (lp + 1) (dg S)) := by
          have := hR.step (show i < lp + 1 by omega) _ rfl
          rw [Nat.zero_add, ← hce] at this
          exact this.done (by omega)
        clear hce hcl hrp hrq hR
        generalize ((car P Q i : Nat) : Int) = C at *
        subst ei
        go_wp2_with fail
        refine (trim_any _ (i + 1) S _ (by omega) ⟨_, i + 1, rfl, Nat.le_refl _, HSl.out, fun _ => ⟨B, 0, rfl, HST.out, hW.setCell _ _⟩⟩).mono ?_
        rintro e w4 ⟨⟨v', rfl, hv', hf⟩, rfl⟩
        go_wp2_with fail
        go_ret
        exact ⟨_, rfl, by rw [HSum.out]; exact hv', hf _ (Fr.mk hB1 ((hW.setCell _ _).wr _ _)), hS.setCell _ _ _ (by omega)⟩
end Go.Proofs.Ygctaj.Nt
