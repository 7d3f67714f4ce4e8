/- the laws' own small functions on naturals. -/
import Derived.Test.YgctajNatCmp
import Derived.Test.YgctajLawConv
namespace Go.Proofs.Ygctaj.Nt
open Go.RowKit Mem
set_option linter.unusedVariables false

/-- the slice is nil. -/
def nl : Value → Bool
  | .slice none _ _ => true
  | _ => false

theorem Na.sl {w : World} {v : Value} {n N : Nat} (h : Na w v n N) : Sl .u8 w v n (dg N) := by
  obtain ⟨a, cap, rfl, hc, -, h⟩ := h
  refine ⟨a, cap, rfl, hc, fun hn => ?_⟩
  obtain ⟨b, off, e, hr, -⟩ := h hn
  exact ⟨b, off, e, hr⟩
theorem Na.lt {w : World} {v : Value} {n N : Nat} (h : Na w v n N) : N < 256 ^ n := by
  obtain ⟨_, _, _, _, h, _⟩ := h; exact h
theorem Na.val {w : World} {v : Value} {n N : Nat} (h : Na w v n N) : val (dg N) n = N := by
  rw [val_dg]; exact Nat.mod_eq_of_lt h.lt
theorem Nm.nl {w : World} {v : Value} {N : Nat} (h : Nm w v N) : Nt.nl v = decide (N = 0) := by
  rcases h.open with ⟨rfl, rfl⟩ | ⟨h0, b, off, cap, rfl, _⟩
  · rfl
  · simp [Nt.nl, h0]

set_option maxRecDepth 20000 in
set_option maxHeartbeats 400000 in
theorem ownNat_any (v : Value) (n : Nat) (x : Nat → Nat) (w : World) (hn : n ≤ 1000000) (hx : ∀ i, i < n → x i < 256) (hv : Sl .u8 w v n x) :
    Calls Tajg.prog 15 #[v] w fun e w' => ∃ v', e = .returned v' ∧ Na w' v' n (val x n) ∧ nl v' = nl v ∧ Fr w.heap.size w' v' ∧ Same w w' := by
  obtain ⟨a, cap, rfl, hc, hr⟩ := hv
  have hE := @run_eql_slice_nil Tajg.prog 22 _ Tajg.underlying22
  cases a with
  | none =>
    have h0 : n = 0 := by
      rcases Nat.eq_zero_or_pos n with h | h
      · exact h
      · obtain ⟨b, off, e, _⟩ := hr h; cases e
    subst h0
    clear hr
    go_enter Tajg.func15, Tajg.ntmps15
    go_wp2_with fail
    go_ret
    exact ⟨_, rfl, ⟨none, 0, rfl, Nat.le_refl _, by simp [Nt.val], fun h => absurd h (by omega)⟩, rfl, Fr.nil _ _, Chg.refl _ _⟩
  | some p =>
    have HR : Hid (0 < n → ∃ b off, some p = some ⟨b, off, none⟩ ∧ Rd .u8 w b off n x) := hr
    have HX : Hid (∀ i, i < n → x i < 256) := hx
    clear hr hx
    rcases Nat.eq_zero_or_pos n with h0 | h0
    · subst h0
      clear HR
      go_enter Tajg.func15, Tajg.ntmps15
      go_wp2_with (first
        | (at_make; refine wpList_mkc 0 .u8 5 1 _ _ (by rfl) (by rfl) rfl rfl Tajg.underlying24 info5 (by omega) (by omega) ?_; intro B w1 hB1 hB2 hRB hCB hs1)
        | (refine wpList_cp0 5 (by rfl) (by rfl) (by rfl) Tajg.underlying24 size5 ?_))
      go_ret
      exact ⟨_, rfl, ⟨_, 0, rfl, Nat.le_refl _, by simp [Nt.val], fun h => absurd h (by omega)⟩, rfl, Fr.mk hB1 (hCB.wr _ _), hs1⟩
    · obtain ⟨b, off, e, hR⟩ := HR.out h0
      cases e
      clear HR
      go_enter Tajg.func15, Tajg.ntmps15
      go_wp2_with (first
        | (at_make; refine wpList_mkc n .u8 5 1 _ _ (by rfl) (by rfl) rfl rfl Tajg.underlying24 info5 (by omega) (by omega) ?_; intro B w1 hB1 hB2 hRB hCB hs1)
        | (refine wpList_cp n .u8 5 (by rfl) (by rfl) (Nat.min_self n).symm (hR.same hs1) hRB (hCB.wr _ _) Tajg.underlying24 size5 ?_; intro w2 hR2 hC2))
      have hC2' := hCB.kept hC2 hB2
      have hS2 : Same w w2 := hs1.trans_new hC2 (fun q o hq h => by obtain ⟨rfl, _⟩ := h; omega)
      go_ret
      exact ⟨_, rfl, Na.mk (Nat.le_refl _) (hR2.done (Nat.le_refl _)) hC2' HX.out, rfl, Fr.mk hB1 (hC2'.wr _ _), hS2⟩

set_option maxRecDepth 20000 in
set_option maxHeartbeats 400000 in
theorem sound_any (v : Value) (n N : Nat) (w : World) (hn : n ≤ 1099511627776) (hv : Na w v n N) :
    Calls Tajg.prog 19 #[v] w fun e w' => ∃ v', e = .returned v' ∧ Nm w' v' N ∧ Fr w.heap.size w' v' ∧ Same w w' := by
  go_enter Tajg.func19, Tajg.ntmps19
  go_wp2_with fail
  refine (add_any v (.slice none 0 0) n 0 N 0 w hn (by omega) hv (by have := (Nm.nil w).na; rwa [dl_zero] at this)).mono ?_
  rintro e w1 ⟨v', rfl, hv', hf, hs⟩
  rw [Nat.add_zero] at hv'
  go_wp2_with fail
  go_ret
  exact ⟨_, rfl, hv', hf, hs⟩

set_option maxRecDepth 20000 in
set_option maxHeartbeats 1000000 in
theorem sameNat_any (u v : Value) (n N : Nat) (w : World) (hn : n ≤ 1099511627776) (hu : Na w u n N) (hv : Na w v n N) (hz : nl u = nl v) :
    Calls Tajg.prog 18 #[u, v] w fun e w' => e = .returned (.bool true) ∧ Same w w' := by
  obtain ⟨a, ca, rfl, hca, -, hra⟩ := hu
  obtain ⟨a', cb, rfl, hcb, -, hrb⟩ := hv
  have hE := @run_eql_slice_nil Tajg.prog 24 _ Tajg.underlying24
  have hz2 : a.isNone = a'.isNone := by cases a <;> cases a' <;> simp_all [nl]
  clear hz hca hcb
  have hne : ((n : Int) == (n : Int)) = true := by simp
  have HA : Hid (0 < n → ∃ b off, a = some ⟨b, off, none⟩ ∧ Rd .u8 w b off n (dg N) ∧ Cl w b) := hra
  have HB : Hid (0 < n → ∃ b off, a' = some ⟨b, off, none⟩ ∧ Rd .u8 w b off n (dg N) ∧ Cl w b) := hrb
  clear hra hrb
  go_enter Tajg.func18, Tajg.ntmps18
  go_wp2_with fail
  go_loopw [5] (fun i wr => ∃ j : Nat, j ≤ n ∧ i = .int .i64 (j : Int) ∧ Same w wr) (fun i _ => (n - intOf i).toNat)
  case atStart => exact ⟨0, by omega, rfl, Chg.refl _ _⟩
  case round =>
    obtain ⟨j, hj, rfl, hS⟩ := hrel
    by_cases h0 : j = n
    · subst h0
      go_wp2_with fail
      go_ret
      exact ⟨rfl, hS⟩
    · obtain ⟨b, off, rfl, hra2, -⟩ := HA.out (by omega)
      obtain ⟨b', off', rfl, hrb2, -⟩ := HB.out (by omega)
      have c1 := (hra2.same hS) j (by omega)
      have c2 := (hrb2.same hS) j (by omega)
      have d1 := dg_lt N j
      have b1 : 0 ≤ ((dg N j : Nat) : Int) := by omega
      have b2 : ((dg N j : Nat) : Int) < 256 := by omega
      have hlt : j < n := by omega
      clear hra2 hrb2 d1 HA HB
      generalize ((dg N j : Nat) : Int) = X at *
      go_wp2_with fail
      refine Text.wp_text (by kernel_rfl) (by kernel_rfl) ⟨fun c a w h => by exact absurd h.2.1 (by simp), fun a w h => by exact absurd h.1 (by simp)⟩ ?_
      intro K hK
      go_wp2_with fail
      refine hK _ _ (by rfl) ?_
      go_wp2_with fail
      go_roundw
      case rel => exact ⟨j + 1, by omega, by go_num, hS.drew⟩
      case measure => simp [intOf]; omega

set_option maxRecDepth 20000 in
set_option maxHeartbeats 400000 in
theorem lawNormal_any (v : Value) (N : Nat) (w : World) (hn : dl N ≤ 1099511627776) (hv : Nm w v N) :
    Calls Tajg.prog 30 #[v] w fun e w' => e = .returned (.bool true) ∧ w' = w := by
  have hE := @run_eql_slice_nil Tajg.prog 24 _ Tajg.underlying24
  rcases hv.open with ⟨rfl, rfl⟩ | ⟨h0, b, off, cap, rfl, hc, hp, hr, -⟩
  · go_enter Tajg.func30, Tajg.ntmps30
    go_wp2_with fail
    go_ret
    exact ⟨rfl, rfl⟩
  · have c1 := hr (dl N - 1) (by omega)
    have d0 := dg_top N h0
    have d1 := dg_lt N (dl N - 1)
    have em : (dl N : Int) - 1 = ((dl N - 1 : Nat) : Int) := by omega
    have hz2 : (((dg N (dl N - 1) : Nat) : Int) == 0) = false := by rw [beq_eq_false_iff_ne]; omega
    have hz3 : 0 ≤ ((dg N (dl N - 1) : Nat) : Int) := by omega
    have hz4 : ((dg N (dl N - 1) : Nat) : Int) < 256 := by omega
    have hg0 : decide ((0 : Int) < (dl N : Int)) = true := by simp; omega
    clear hr hv h0 d0 d1
    generalize ((dg N (dl N - 1) : Nat) : Int) = D at *
    generalize hm1 : dl N - 1 = m1 at *
    generalize dl N = m at *
    go_enter Tajg.func30, Tajg.ntmps30
    go_wp2_with fail
    go_ret
    exact ⟨by show Ending.returned (.bool (D != 0)) = _; rw [show (D != 0) = true from by simp [bne, hz2]], rfl⟩

set_option maxRecDepth 20000 in
set_option maxHeartbeats 400000 in
theorem natNormal_any (v : Value) (N : Nat) (w : World) (hn : dl N ≤ 1099511627776) (hv : Nm w v N) :
    Calls Tajg.prog 53 #[v] w fun e w' => e = .returned (.bool true) ∧ w' = w := by
  have hE := @run_eql_slice_nil Tajg.prog 24 _ Tajg.underlying24
  rcases hv.open with ⟨rfl, rfl⟩ | ⟨h0, b, off, cap, rfl, hc, hp, hr, -⟩
  · go_enter Tajg.func53, Tajg.ntmps53
    go_wp2_with fail
    go_ret
    exact ⟨rfl, rfl⟩
  · have c1 := hr (dl N - 1) (by omega)
    have d0 := dg_top N h0
    have d1 := dg_lt N (dl N - 1)
    have em : (dl N : Int) - 1 = ((dl N - 1 : Nat) : Int) := by omega
    have hz2 : (((dg N (dl N - 1) : Nat) : Int) == 0) = false := by rw [beq_eq_false_iff_ne]; omega
    have hz3 : 0 ≤ ((dg N (dl N - 1) : Nat) : Int) := by omega
    have hz4 : ((dg N (dl N - 1) : Nat) : Int) < 256 := by omega
    have hg0 : ((dl N : Int) == 0) = false := by rw [beq_eq_false_iff_ne]; omega
    clear hr hv h0 d0 d1
    generalize ((dg N (dl N - 1) : Nat) : Int) = D at *
    generalize hm1 : dl N - 1 = m1 at *
    generalize dl N = m at *
    go_enter Tajg.func53, Tajg.ntmps53
    go_wp2_with fail
    go_ret
    exact ⟨by show Ending.returned (.bool (D != 0)) = _; rw [show (D != 0) = true from by simp [bne, hz2]], rfl⟩

set_option maxRecDepth 20000 in
set_option maxHeartbeats 400000 in
theorem answers_any (u v : Value) (N : Nat) (w : World) (hn : dl N ≤ 1099511627776) (hu : Nm w u N) (hv : Nm w v N) :
    Calls Tajg.prog 22 #[u, v] w fun e w' => e = .returned (.bool true) ∧ Same w w' := by
  go_enter Tajg.func22, Tajg.ntmps22
  go_wp2_with fail
  refine (sameNat_any u v (dl N) N w hn hu.na hv.na (by rw [hu.nl, hv.nl])).mono ?_
  rintro e w1 ⟨rfl, hs⟩
  have hu1 := hu.same hs
  go_wp2_with fail
  refine (lawNormal_any u N w1 hn hu1).mono ?_
  rintro e w2 ⟨rfl, rfl⟩
  go_wp2_with fail
  refine (natNormal_any u N _ hn hu1).mono ?_
  rintro e w2 ⟨rfl, rfl⟩
  go_wp2_with fail
  go_ret
  exact ⟨rfl, hs⟩

set_option maxRecDepth 20000 in
set_option maxHeartbeats 400000 in
theorem small_any (V : Nat) (w : World) (hV : V < 18446744073709551616) :
    Calls Tajg.prog 66 #[.int .u64 (V : Int)] w fun e w' => ∃ v', e = .returned v' ∧ Nm w' v' V ∧ Fr w.heap.size w' v' ∧ Same w w' := by
  have HX : Hid (∀ i : Nat, (V : Int) / 2 ^ (8 * i) % 256 = ((dg V i : Nat) : Int)) := by
    intro i
    unfold dg
    rw [show (256 : Nat) ^ i = 2 ^ (8 * i) from by rw [Nat.pow_mul]]
    push_cast
    rfl
  have x0 : (0 : Int) ≤ (V : Int) := by omega
  have x1 : (V : Int) < 18446744073709551616 := by omega
  have HV : Hid (V < 256 ^ 8) := by show V < _; omega
  clear hV
  generalize hX : (V : Int) = X at *
  clear hX
  go_enter Tajg.func66, Tajg.ntmps66
  go_wp2_with (at_make; refine wpList_mkc 8 .u8 5 1 _ _ (by rfl) (by rfl) rfl rfl Tajg.underlying24 info5 (by omega) (by omega) ?_; intro B w1 hB1 hB2 hRB hCB hs1)
  go_loopw [4] (fun i wr => ∃ j : Nat, j ≤ 8 ∧ i = .int .i64 (j : Int) ∧ Rd .u8 wr B 0 8 (mix j (dg V) (fun _ => 0)) ∧ Cl wr B ∧ Same w wr) (fun i _ => (8 - intOf i).toNat)
  case atStart => exact ⟨0, by omega, rfl, hRB.start _, hCB, hs1⟩
  case round =>
    obtain ⟨j, hj, rfl, hR, hC, hS⟩ := hrel
    by_cases h0 : j = 8
    · subst h0
      go_wp2_with fail
      have hna : Na wr (.slice (some ⟨B, 0, none⟩) 8 8) 8 V := ⟨_, 8, rfl, Nat.le_refl _, HV.out, fun _ => ⟨B, 0, rfl, hR.done (Nat.le_refl _), hC⟩⟩
      refine (normal_any _ 8 V _ (by omega) hna).mono ?_
      rintro e w2 ⟨⟨v', rfl, hv', hf⟩, rfl⟩
      go_wp2_with fail
      go_ret
      exact ⟨_, rfl, hv', hf _ (Fr.mk hB1 (hC.wr _ _)), hS⟩
    · have c1 := hR.at (j := j) (by omega)
      have c2 := hC (0 + j)
      rw [Nat.zero_add] at c1 c2
      have hlt : j < 8 := by omega
      have e8 : (8 : Int) * (j : Int) = ((8 * j : Nat) : Int) := by omega
      have hs8 : 8 * j < 64 := by omega
      have HJ := HX.out j
      generalize 8 * j = s at *
      go_wp2_with fail
      go_roundw
      case rel =>
        have h2 := hR.step (by omega) _ rfl
        rw [Nat.zero_add] at h2
        exact ⟨j + 1, by omega, by go_num, h2, hC.setCell _ _, hS.setCell B _ _ (fun h => absurd h (by omega))⟩
      case measure => simp [intOf]; omega

/-- the literal 'nat.Nat{1}'. -/
theorem one_nm (w : World) (t : TypeId) : Nm (w.alloc (.cells #[.int .u8 1] t)) (.slice (some ⟨w.heap.size, 0, none⟩) 1 1) 1 := by
  refine Nm.mk (by decide) (Nat.le_refl _) ?_ (fun i => by rw [World.frozen?_alloc_new]) (by rw [dl_pos (by decide), show 1 / 256 = 0 from rfl, dl_zero]) (by omega)
  intro i hi
  obtain rfl : i = 0 := by omega
  rw [World.cell?_alloc_new]; rfl
theorem dl_one : dl 1 = 1 := by rw [dl_pos (by decide), show 1 / 256 = 0 from rfl, dl_zero]
theorem one_nm2 (w : World) (t : TypeId) (b : Nat) (hb : b = w.heap.size) : Na (w.alloc (.cells #[.int .u8 1] t)) (.slice (some ⟨b, 0, none⟩) 1 1) 1 1 := by
  subst hb
  have h := (one_nm w t).na
  rwa [dl_one] at h
end Go.Proofs.Ygctaj.Nt
