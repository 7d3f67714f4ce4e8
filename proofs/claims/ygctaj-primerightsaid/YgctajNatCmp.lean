/- nat.Cmp, nat.Sub, walked. -/
import Derived.Test.YgctajNatAdd
namespace Go.Proofs.Ygctaj.Nt
open Go.RowKit Mem
set_option linter.unusedVariables false

def cmpN (M N : Nat) : Int := if M < N then -1 else if M = N then 0 else 1

theorem div_dg (M j : Nat) (h : 0 < j) : M / 256 ^ (j - 1) = 256 * (M / 256 ^ j) + dg M (j - 1) := by
  have e : 256 ^ j = 256 ^ (j - 1) * 256 := by rw [← Nat.pow_succ]; congr 1; omega
  unfold dg
  rw [e, ← Nat.div_div_eq_div_mul]
  generalize M / 256 ^ (j - 1) = q
  omega
theorem lt_of_div {M N p : Nat} (h : M / p < N / p) : M < N := by
  rcases Nat.lt_or_ge M N with h' | h'
  · exact h'
  · exact absurd (Nat.div_le_div_right (c := p) h') (by omega)
theorem lt_of_dl {M N : Nat} (h : dl M < dl N) : M < N := by
  rcases Nat.lt_or_ge M N with h' | h'
  · exact h'
  · have := dl_mono h'; omega

set_option maxRecDepth 100000 in
set_option maxHeartbeats 1000000 in
theorem cmp_any (u v : Value) (m n M N : Nat) (w : World) (hm : m ≤ 1099511627776) (hn : n ≤ 1099511627776) (hu : Na w u m M) (hv : Na w v n N) :
    Calls Tajg.prog 20 #[u, v] w fun e w' => e = .returned (.int .i8 (cmpN M N)) ∧ Same w w' := by
  have hlM : dl M ≤ m := by obtain ⟨_, _, _, _, h, _⟩ := hu; exact dl_le _ _ h
  have hlN : dl N ≤ n := by obtain ⟨_, _, _, _, h, _⟩ := hv; exact dl_le _ _ h
  go_enter Tajg.func20, Tajg.ntmps20
  go_wp2_with fail
  refine (trim_any u m M w (by omega) hu).mono ?_
  rintro e w1 ⟨⟨u1, rfl, hu1, -⟩, rfl⟩
  go_wp2_with fail
  refine (trim_any v n N _ (by omega) hv).mono ?_
  rintro e w1 ⟨⟨v1, rfl, hv1, -⟩, rfl⟩
  clear hu hv
  obtain ⟨⟨a, ca, rfl, hca, hM, hra⟩, -⟩ := hu1
  obtain ⟨⟨a', cb, rfl, hcb, hN, hrb⟩, -⟩ := hv1
  have HM : Hid (M < 256 ^ dl M) := hM
  have HN : Hid (N < 256 ^ dl N) := hN
  clear hM hN
  have hk : dl M ≤ 1099511627776 := by omega
  have hl : dl N ≤ 1099511627776 := by omega
  clear hm hn hlM hlN hca hcb
  by_cases hne : dl M = dl N
  · have hb : ((dl M : Int) == (dl N : Int)) = true := by rw [beq_iff_eq]; omega
    rw [← hne] at hrb HN hl hb ⊢
    clear hne
    generalize dl M = la at *
    go_wp2_with fail
    go_loopw [5] (fun i wr => ∃ j : Nat, j ≤ la ∧ i = .int .i64 ((j : Int) - 1) ∧ Hid (M / 256 ^ j = N / 256 ^ j) ∧ Same w1 wr) (fun i _ => (intOf i + 1).toNat)
    case atStart => exact ⟨la, Nat.le_refl _, rfl, (by show _ = _; rw [Nat.div_eq_of_lt HM.out, Nat.div_eq_of_lt HN.out]), Chg.refl _ _⟩
    case round =>
      obtain ⟨j, hj, rfl, HJ, hS⟩ := hrel
      by_cases h0 : j = 0
      · subst h0
        have e : M = N := by have := HJ.out; simpa using this
        have e2 : cmpN M N = 0 := by unfold cmpN; rw [if_neg (by omega), if_pos e]
        clear hra hrb
        go_wp2_with fail
        go_ret
        exact ⟨by rw [e2]; rfl, hS⟩
      · obtain ⟨b, off, rfl, hra2, -⟩ := hra (by omega)
        obtain ⟨b', off', rfl, hrb2, -⟩ := hrb (by omega)
        have c1 := (hra2.same hS) (j - 1) (by omega)
        have c2 := (hrb2.same hS) (j - 1) (by omega)
        have d1 := dg_lt M (j - 1)
        have d2 := dg_lt N (j - 1)
        have q1 := div_dg M j (by omega)
        have q2 := div_dg N j (by omega)
        rw [HJ.out] at q1
        have HQ : Hid (M / 256 ^ (j - 1) + dg N (j - 1) = N / 256 ^ (j - 1) + dg M (j - 1)) := by show _ = _; omega
        clear q1 q2 hra hrb hra2 hrb2
        have ej : (j : Int) - 1 = ((j - 1 : Nat) : Int) := by omega
        have b1 : 0 ≤ ((dg M (j - 1) : Nat) : Int) := by omega
        have b2 : ((dg M (j - 1) : Nat) : Int) < 256 := by omega
        have b3 : 0 ≤ ((dg N (j - 1) : Nat) : Int) := by omega
        have b4 : ((dg N (j - 1) : Nat) : Int) < 256 := by omega
        rw [ej]
        rcases Nat.lt_trichotomy (dg M (j - 1)) (dg N (j - 1)) with h | h | h
        · have e2 : cmpN M N = -1 := by
            unfold cmpN; rw [if_pos (lt_of_div (p := 256 ^ (j - 1)) (by have := HQ.out; omega))]
          have t1 : ((dg M (j - 1) : Nat) : Int) < ((dg N (j - 1) : Nat) : Int) := by omega
          clear d1 d2 h
          generalize ((dg M (j - 1) : Nat) : Int) = X at *
          generalize ((dg N (j - 1) : Nat) : Int) = Y at *
          generalize j - 1 = j1 at *
          go_wp2_with fail
          refine Text.wp_text (by kernel_rfl) (by kernel_rfl) ⟨fun c a w h => by exact absurd h.2.1 (by simp), fun a w h => by exact absurd h.1 (by simp)⟩ ?_
          intro K hK
          go_wp2_with fail
          refine hK _ _ (by rfl) ?_
          go_wp2_with fail
          go_ret
          exact ⟨by rw [e2]; rfl, hS.drew⟩
        · have HE : Hid (M / 256 ^ (j - 1) = N / 256 ^ (j - 1)) := by show _ = _; have := HQ.out; omega
          rw [h] at c1
          clear d1 d2 h b1 b2
          generalize ((dg N (j - 1) : Nat) : Int) = Y at *
          generalize hj1 : j - 1 = j1 at *
          go_wp2_with fail
          refine Text.wp_text (by kernel_rfl) (by kernel_rfl) ⟨fun c a w h => by exact absurd h.2.1 (by simp), fun a w h => by exact absurd h.1 (by simp)⟩ ?_
          intro K hK
          go_wp2_with fail
          refine hK _ _ (by rfl) ?_
          clear hK
          go_wp2_with fail
          refine Text.wp_text (by kernel_rfl) (by kernel_rfl) ⟨fun c a w h => by exact absurd h.2.1 (by simp), fun a w h => by exact absurd h.1 (by simp)⟩ ?_
          intro K hK
          go_wp2_with fail
          refine hK _ _ (by rfl) ?_
          go_wp2_with fail
          go_roundw
          case rel => exact ⟨j1, by omega, rfl, HE, hS.drew.drew⟩
          case measure => simp [intOf]
        · have e2 : cmpN M N = 1 := by
            have := lt_of_div (M := N) (N := M) (p := 256 ^ (j - 1)) (by have := HQ.out; omega)
            unfold cmpN; rw [if_neg (by omega), if_neg (by omega)]
          have t1 : ((dg N (j - 1) : Nat) : Int) < ((dg M (j - 1) : Nat) : Int) := by omega
          clear d1 d2 h
          generalize ((dg M (j - 1) : Nat) : Int) = X at *
          generalize ((dg N (j - 1) : Nat) : Int) = Y at *
          generalize j - 1 = j1 at *
          go_wp2_with fail
          refine Text.wp_text (by kernel_rfl) (by kernel_rfl) ⟨fun c a w h => by exact absurd h.2.1 (by simp), fun a w h => by exact absurd h.1 (by simp)⟩ ?_
          intro K hK
          go_wp2_with fail
          refine hK _ _ (by rfl) ?_
          clear hK
          go_wp2_with fail
          refine Text.wp_text (by kernel_rfl) (by kernel_rfl) ⟨fun c a w h => by exact absurd h.2.1 (by simp), fun a w h => by exact absurd h.1 (by simp)⟩ ?_
          intro K hK
          go_wp2_with fail
          refine hK _ _ (by rfl) ?_
          go_wp2_with fail
          go_ret
          exact ⟨by rw [e2]; rfl, hS.drew.drew⟩
  · have hb : ((dl M : Int) == (dl N : Int)) = false := by rw [beq_eq_false_iff_ne]; omega
    clear hra hrb
    by_cases hlt : dl M < dl N
    · have e2 : cmpN M N = -1 := by unfold cmpN; rw [if_pos (lt_of_dl hlt)]
      generalize dl M = la at *
      generalize dl N = lb at *
      go_wp2_with fail
      go_ret
      exact ⟨by rw [e2]; rfl, Chg.refl _ _⟩
    · have e2 : cmpN M N = 1 := by
        have := lt_of_dl (M := N) (N := M) (by omega)
        unfold cmpN; rw [if_neg (by omega), if_neg (by omega)]
      generalize dl M = la at *
      generalize dl N = lb at *
      go_wp2_with fail
      go_ret
      exact ⟨by rw [e2]; rfl, Chg.refl _ _⟩
end Go.Proofs.Ygctaj.Nt
