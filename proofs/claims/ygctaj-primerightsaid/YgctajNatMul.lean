/- mschool.MulSchool, walked. -/
import Derived.Test.YgctajNatSub
namespace Go.Proofs.Ygctaj.Nt
open Go.RowKit Mem
set_option linter.unusedVariables false

theorem mod_next (N j : Nat) : N % 256 ^ (j + 1) = N % 256 ^ j + 256 ^ j * dg N j := by
  rw [Nat.pow_succ, Nat.mod_mul]; rfl

theorem mul_in (x : Nat → Nat) (L i j X N Z C V0 t : Nat) (hZ : x (i + j) = Z) (hk : i + j < L) (ht : X * dg N j + Z + C = t)
    (h : val x L + C * 256 ^ (i + j) = V0 + X * (N % 256 ^ j) * 256 ^ i) :
    val (upd x (i + j) (t % 256)) L + t / 256 * 256 ^ (i + (j + 1)) = V0 + X * (N % 256 ^ (j + 1)) * 256 ^ i := by
  have h1 := val_upd x (i + j) (t % 256) L hk
  rw [hZ] at h1
  have h2 : val (upd x (i + j) (t % 256)) L + Z * 256 ^ (i + j) = val x L + t % 256 * 256 ^ (i + j) := h1
  have e1 : t / 256 * 256 ^ (i + (j + 1)) = t / 256 * 256 * 256 ^ (i + j) := by
    rw [← Nat.add_assoc, Nat.pow_succ, Nat.mul_assoc, Nat.mul_comm 256]
  have e2 : t * 256 ^ (i + j) = t / 256 * 256 * 256 ^ (i + j) + t % 256 * 256 ^ (i + j) := by
    rw [← Nat.add_mul]; congr 1; omega
  have e3 : t * 256 ^ (i + j) = X * dg N j * 256 ^ (i + j) + Z * 256 ^ (i + j) + C * 256 ^ (i + j) := by
    rw [← ht, Nat.add_mul, Nat.add_mul]
  have e4 : X * (N % 256 ^ (j + 1)) * 256 ^ i = X * (N % 256 ^ j) * 256 ^ i + X * dg N j * 256 ^ (i + j) := by
    rw [mod_next, Nat.mul_add, Nat.add_mul, Nat.pow_add]
    congr 1
    ac_rfl
  omega

theorem mul_out (x : Nat → Nat) (L i lb M N C V0 : Nat) (hV : V0 = M % 256 ^ i * N) (hN : N < 256 ^ lb) (hz : x (i + lb) = 0) (hk : i + lb < L)
    (h : val x L + C * 256 ^ (i + lb) = V0 + dg M i * (N % 256 ^ lb) * 256 ^ i) :
    val (upd x (i + lb) C) L = M % 256 ^ (i + 1) * N := by
  have h1 := val_upd x (i + lb) C L hk
  rw [hz, Nat.zero_mul] at h1
  have h2 : val (upd x (i + lb) C) L + 0 = val x L + C * 256 ^ (i + lb) := h1
  rw [Nat.mod_eq_of_lt hN] at h
  rw [mod_next, Nat.add_mul]
  have e : 256 ^ i * dg M i * N = dg M i * N * 256 ^ i := by ac_rfl
  omega

theorem mul_nil (u v : Value) (m n M N : Nat) (w : World) (hm : m ≤ 1099511627776) (hn : n ≤ 1099511627776) (hu : Na w u m M) (hv : Na w v n N) (h : M = 0 ∨ N = 0) :
    Calls Tajg.prog 21 #[u, v] w fun e w' => e = .returned (.slice none 0 0) ∧ w' = w := by
  go_enter Tajg.func21, Tajg.ntmps21
  go_wp2_with fail
  refine (schoolStrip_any u m M w (by omega) hu).mono ?_
  rintro e w1 ⟨⟨u1, rfl, hu1, -⟩, rfl⟩
  go_wp2_with fail
  refine (schoolStrip_any v n N _ (by omega) hv).mono ?_
  rintro e w1 ⟨⟨v1, rfl, hv1, -⟩, rfl⟩
  clear hu hv
  rcases hu1.open with ⟨hM, rfl⟩ | ⟨hM, b, off, cap, rfl, hc, hl, hr, -⟩
  · clear hu1
    obtain ⟨⟨a', cb, rfl, -, -, -⟩, -⟩ := hv1
    go_wp2_with fail
    go_ret
    exact ⟨rfl, rfl⟩
  · have hN : N = 0 := by omega
    rw [hv1.2 hN]
    have hd : ((dl M : Int) == 0) = false := by rw [beq_eq_false_iff_ne]; omega
    clear hr hv1 hu1
    generalize dl M = la at *
    go_wp2_with fail
    go_ret
    exact ⟨rfl, rfl⟩

set_option maxRecDepth 100000 in
set_option maxHeartbeats 2000000 in
theorem mul_some (u v : Value) (m n M N : Nat) (w : World) (hm : m ≤ 1099511627776) (hn : n ≤ 1099511627776) (hu : Na w u m M) (hv : Na w v n N) (hM0 : M ≠ 0) (hN0 : N ≠ 0) :
    Calls Tajg.prog 21 #[u, v] w fun e w' => ∃ v', e = .returned v' ∧ Nm w' v' (M * N) ∧ Fr w.heap.size w' v' ∧ Same w w' := by
  have hlM : dl M ≤ m := by obtain ⟨_, _, _, _, h, _⟩ := hu; exact dl_le _ _ h
  have hlN : dl N ≤ n := by obtain ⟨_, _, _, _, h, _⟩ := hv; exact dl_le _ _ h
  go_enter Tajg.func21, Tajg.ntmps21
  go_wp2_with fail
  refine (schoolStrip_any u m M w (by omega) hu).mono ?_
  rintro e w1 ⟨⟨u1, rfl, hu1, -⟩, rfl⟩
  go_wp2_with fail
  refine (schoolStrip_any v n N _ (by omega) hv).mono ?_
  rintro e w1 ⟨⟨v1, rfl, hv1, -⟩, rfl⟩
  clear hu hv
  obtain ⟨-, b, off, ca, rfl, hca, hla, hra, -⟩ := hu1.open.resolve_left (fun h => hM0 h.1)
  obtain ⟨-, b', off', cb, rfl, hcb, hlb, hrb, -⟩ := hv1.open.resolve_left (fun h => hN0 h.1)
  have HM : Hid (M < 256 ^ dl M) := lt_dl M
  have HN : Hid (N < 256 ^ dl N) := lt_dl N
  have hk : dl M ≤ 1099511627776 := by omega
  have hl : dl N ≤ 1099511627776 := by omega
  have hd1 : ((dl M : Int) == 0) = false := by rw [beq_eq_false_iff_ne]; omega
  have hd2 : ((dl N : Int) == 0) = false := by rw [beq_eq_false_iff_ne]; omega
  have hb := hra.lt hla
  have hb' := hrb.lt hlb
  clear hm hn hlM hlN hca hcb hu1 hv1
  generalize dl M = la at *
  generalize dl N = lb at *
  go_wp2_with (at_make; refine wpList_mkc (la + lb) .u8 5 1 _ _ (by rfl) (by rfl) (by go_num) (by go_num) Tajg.underlying24 info5 (by omega) (by omega) ?_; intro B w2 hB1 hB2 hR hW hS)
  clear hd1 hd2
  go_loopw [6] (fun i wr => ∃ (i' : Nat) (x : Nat → Nat), i' ≤ la ∧ i = .int .i64 i' ∧ Rd .u8 wr B 0 (la + lb) x ∧ Hid (∀ j, j < la + lb → x j < 256) ∧ Hid (val x (la + lb) = M % 256 ^ i' * N) ∧ Hid (∀ j, i' + lb ≤ j → x j = 0) ∧ Cl wr B ∧ Same w1 wr) (fun i _ => la - (intOf i).toNat)
  case atStart => exact ⟨0, fun _ => 0, Nat.zero_le _, rfl, hR, (fun _ _ => by show 0 < 256; omega), (by show _ = _; rw [val_zeros _ _ (fun _ _ => rfl)]; simp [Nat.mod_one]), (fun _ _ => rfl), hW, hS⟩
  case round =>
    clear hR hW hS
    obtain ⟨i, x, hi, rfl, hR, HX, HV, HZ, hW, hS⟩ := hrel
    by_cases hlt : i < la
    · go_wp2_with fail
      go_loopw [7, 8] (fun c j wr => ∃ (j' c' : Nat) (x : Nat → Nat), j' ≤ lb ∧ j = .int .i64 j' ∧ c' < 256 ∧ c = .int .u32 (c' : Int) ∧ Rd .u8 wr B 0 (la + lb) x ∧ Hid (∀ j, j < la + lb → x j < 256) ∧ Hid (val x (la + lb) + c' * 256 ^ (i + j') = M % 256 ^ i * N + dg M i * (N % 256 ^ j') * 256 ^ i) ∧ Hid (∀ j, i + lb ≤ j → x j = 0) ∧ Cl wr B ∧ Same w1 wr) (fun _ j _ => lb - (intOf j).toNat)
      case atStart => exact ⟨0, 0, x, Nat.zero_le _, rfl, by omega, rfl, hR, HX, (by show _ = _; rw [HV.out]; simp [Nat.mod_one]), HZ, hW, hS⟩
      case round =>
        clear hR hW hS HX HV HZ
        obtain ⟨j, c, x, hj, rfl, hc, rfl, hR, HX, HV, HZ, hW, hS⟩ := hrel
        by_cases hjl : j < lb
        · have cz := hR (i + j) (by omega)
          have fz := hW (0 + (i + j))
          rw [Nat.zero_add] at cz fz
          have ci := (hra.same hS) i hlt
          have cj := (hrb.same hS) j hjl
          have hx1 := HX.out (i + j) (by omega)
          have hd1 := dg_lt M i
          have hd2 := dg_lt N j
          generalize ht : dg M i * dg N j + x (i + j) + c = t
          have hp : dg M i * dg N j ≤ 255 * 255 := Nat.mul_le_mul (by omega) (by omega)
          have htl : t < 65536 := by omega
          have HT : Hid (((dg M i : Nat) : Int) * ((dg N j : Nat) : Int) + ((x (i + j) : Nat) : Int) + (c : Int) = (t : Int)) := by show _ = _; rw [← ht]; simp
          have HV2 : Hid (val (upd x (i + j) (t % 256)) (la + lb) + t / 256 * 256 ^ (i + (j + 1)) = M % 256 ^ i * N + dg M i * (N % 256 ^ (j + 1)) * 256 ^ i) :=
            mul_in x (la + lb) i j (dg M i) N (x (i + j)) c _ t rfl (by omega) ht HV.out
          have b1 : ((dg M i : Nat) : Int) * ((dg N j : Nat) : Int) ≤ 65025 := by rw [← Int.natCast_mul]; omega
          have b2 : 0 ≤ ((dg M i : Nat) : Int) * ((dg N j : Nat) : Int) := by rw [← Int.natCast_mul]; omega
          have b3 : 0 ≤ ((dg M i : Nat) : Int) := by omega
          have b4 : ((dg M i : Nat) : Int) < 256 := by omega
          have b5 : 0 ≤ ((dg N j : Nat) : Int) := by omega
          have b6 : ((dg N j : Nat) : Int) < 256 := by omega
          have b7 : 0 ≤ ((x (i + j) : Nat) : Int) := by omega
          have b8 : ((x (i + j) : Nat) : Int) < 256 := by omega
          clear ht hp hx1 hd1 hd2 HV
          generalize ((dg M i : Nat) : Int) = X at *
          generalize ((dg N j : Nat) : Int) = Y at *
          generalize ((x (i + j) : Nat) : Int) = Z at *
          go_wp2_with fail
          refine Text.wp_text (by kernel_rfl) (by kernel_rfl) ⟨fun c a w h => (by obtain ⟨_, _, h, _⟩ := h; cases h), fun a w h => (by obtain ⟨_, h, _⟩ := h; cases h)⟩ ?_
          intro K hK
          go_wp2_with fail
          refine hK _ _ (by rfl) ?_
          rw [HT.out]
          go_wp2_with fail
          go_roundw
          case rel =>
            refine ⟨j + 1, t / 256, upd x (i + j) (t % 256), by omega, by go_num, by omega, rfl, ?_, ?_, HV2, ?_, hW.drew.setCell _ _, hS.drew.setCell _ _ _ (by omega)⟩
            · have := hR.drew.setCell (i + j) (t % 256) (by omega)
              rw [Nat.zero_add] at this
              exact this
            · intro k hk
              by_cases e : k = i + j
              · subst e; rw [upd_same]; omega
              · rw [upd_other _ _ _ _ e]; exact HX.out k hk
            · intro k hk
              rw [upd_other _ _ _ _ (by omega)]; exact HZ.out k hk
          case measure => simp [intOf]; omega
        · have ej : j = lb := by omega
          subst ej
          have cz := hR (i + j) (by omega)
          have fz := hW (0 + (i + j))
          rw [Nat.zero_add] at cz fz
          have HV2 : Hid (val (upd x (i + j) c) (la + j) = M % 256 ^ (i + 1) * N) := mul_out x (la + j) i j M N c _ rfl HN.out (HZ.out _ (Nat.le_refl _)) (by omega) HV.out
          generalize ((x (i + j) : Nat) : Int) = Z at *
          go_wp2_with fail
          go_roundw
          case rel =>
            refine ⟨i + 1, upd x (i + j) c, by omega, by go_num, ?_, ?_, HV2, ?_, hW.setCell _ _, hS.setCell _ _ _ (by omega)⟩
            · have := hR.setCell (i + j) c (by omega)
              rw [Nat.zero_add] at this
              exact this
            · intro k hk
              by_cases e : k = i + j
              · subst e; rw [upd_same]; omega
              · rw [upd_other _ _ _ _ e]; exact HX.out k hk
            · intro k hk
              rw [upd_other _ _ _ _ (by omega)]; exact HZ.out k (by omega)
          case measure => simp [intOf]; omega
    · have ei : i = la := by omega
      subst ei
      have HV2 : Hid (val x (i + lb) = M * N) := by show _ = _; rw [HV.out, Nat.mod_eq_of_lt HM.out]
      have hna : Na wr (.slice (some ⟨B, 0, none⟩) (i + lb) (i + lb)) (i + lb) (M * N) := by
        rw [← HV2.out]; exact Na.mk (Nat.le_refl _) hR hW HX.out
      clear hR HX HV HZ HV2
      go_wp2_with fail
      refine (schoolStrip_any _ (i + lb) (M * N) _ (by omega) hna).mono ?_
      rintro e w4 ⟨⟨v', rfl, hv', hf⟩, rfl⟩
      go_wp2_with fail
      go_ret
      exact ⟨_, rfl, hv', hf _ (Fr.mk hB1 (hW.wr _ _)), hS⟩

theorem mul_any (u v : Value) (m n M N : Nat) (w : World) (hm : m ≤ 1099511627776) (hn : n ≤ 1099511627776) (hu : Na w u m M) (hv : Na w v n N) :
    Calls Tajg.prog 21 #[u, v] w fun e w' => ∃ v', e = .returned v' ∧ Nm w' v' (M * N) ∧ Fr w.heap.size w' v' ∧ Same w w' := by
  by_cases h : M = 0 ∨ N = 0
  · refine (mul_nil u v m n M N w hm hn hu hv h).mono ?_
    rintro e w1 ⟨rfl, rfl⟩
    refine ⟨_, rfl, ?_, Fr.nil _ _, Chg.refl _ _⟩
    have : M * N = 0 := by rcases h with h | h <;> simp [h]
    rw [this]; exact Nm.nil _
  · exact mul_some u v m n M N w hm hn hu hv (by omega) (by omega)
end Go.Proofs.Ygctaj.Nt
