/- nat.Sub, walked. -/
import Derived.Test.YgctajNatCmp
namespace Go.Proofs.Ygctaj.Nt
open Go.RowKit Mem
set_option linter.unusedVariables false

theorem wrap16 (x : Int) : IntKind.u16.wrap x = x % 65536 := rfl

set_option maxRecDepth 100000 in
set_option maxHeartbeats 1000000 in
theorem sub_less (u v : Value) (m n M N : Nat) (w : World) (hm : m ≤ 1099511627776) (hn : n ≤ 1099511627776) (hu : Na w u m M) (hv : Na w v n N) (h : M < N) :
    Calls Tajg.prog 71 #[u, v] w fun e w' => e = .returned (.tuple #[.slice none 0 0, .bool false]) ∧ Same w w' := by
  have hlM : dl M ≤ m := by obtain ⟨_, _, _, _, h, _⟩ := hu; exact dl_le _ _ h
  have hlN : dl N ≤ n := by obtain ⟨_, _, _, _, h, _⟩ := hv; exact dl_le _ _ h
  go_enter Tajg.func71, Tajg.ntmps71
  go_wp2_with fail
  refine (trim_any u m M w (by omega) hu).mono ?_
  rintro e w1 ⟨⟨u1, rfl, hu1, -⟩, rfl⟩
  go_wp2_with fail
  refine (trim_any v n N _ (by omega) hv).mono ?_
  rintro e w1 ⟨⟨v1, rfl, hv1, -⟩, rfl⟩
  clear hu hv
  go_wp2_with fail
  refine (cmp_any u1 v1 _ _ M N _ (by omega) (by omega) hu1.na hv1.na).mono ?_
  rintro e w2 ⟨rfl, hS⟩
  have e2 : cmpN M N = -1 := by unfold cmpN; rw [if_pos h]
  rw [e2]
  go_wp2_with fail
  go_ret2
  exact ⟨rfl, hS⟩

set_option maxRecDepth 100000 in
set_option maxHeartbeats 1000000 in
theorem sub_any (u v : Value) (m n M N : Nat) (w : World) (hm : m ≤ 1099511627776) (hn : n ≤ 1099511627776) (hu : Na w u m M) (hv : Na w v n N) (hle : N ≤ M) :
    Calls Tajg.prog 71 #[u, v] w fun e w' => ∃ v', e = .returned (.tuple #[v', .bool true]) ∧ Nm w' v' (M - N) ∧ Fr w.heap.size w' v' ∧ Same w w' := by
  have hlM : dl M ≤ m := by obtain ⟨_, _, _, _, h, _⟩ := hu; exact dl_le _ _ h
  have hlN : dl N ≤ n := by obtain ⟨_, _, _, _, h, _⟩ := hv; exact dl_le _ _ h
  go_enter Tajg.func71, Tajg.ntmps71
  go_wp2_with fail
  refine (trim_any u m M w (by omega) hu).mono ?_
  rintro e w1 ⟨⟨u1, rfl, hu1, -⟩, rfl⟩
  go_wp2_with fail
  refine (trim_any v n N _ (by omega) hv).mono ?_
  rintro e w1 ⟨⟨v1, rfl, hv1, -⟩, rfl⟩
  clear hu hv
  go_wp2_with fail
  refine (cmp_any u1 v1 _ _ M N _ (by omega) (by omega) hu1.na hv1.na).mono ?_
  rintro e w2 ⟨rfl, hS2⟩
  have hcp : decide (cmpN M N < 0) = false := by
    unfold cmpN
    rw [if_neg (by omega)]
    split <;> rfl
  have hws := hS2.size
  generalize cmpN M N = cc at *
  obtain ⟨⟨a, ca, rfl, hca, hM, hra⟩, -⟩ := hu1
  obtain ⟨⟨a', cb, rfl, hcb, hN, hrb⟩, -⟩ := hv1
  have HN : Hid (N < 256 ^ dl N) := hN
  have HM : Hid (M < 256 ^ dl M) := hM
  have HL : Hid (N ≤ M) := hle
  have hk : dl M ≤ 1099511627776 := by omega
  have hl : dl N ≤ dl M := dl_mono hle
  clear hM hN hm hn hlM hlN hca hcb hle
  generalize hD : M - N = S
  have HD : Hid (M - N = S) := hD
  have HS : Hid (S + N = M) := by show _ = _; have := HL.out; omega
  clear hD
  generalize dl M = la at *
  generalize dl N = lb at *
  go_wp2_with (at_make; refine wpList_mkc la .u8 5 1 _ _ (by rfl) (by rfl) rfl rfl Tajg.underlying24 info5 (by omega) (by omega) ?_; intro B w3 hB1 hB2 hR hW hS)
  replace hS := hS2.trans hS
  go_loopw [7, 8] (fun c i wr => ∃ i' : Nat, i' ≤ la ∧ i = .int .i64 i' ∧ c = .int .u16 ((car S N i' : Nat) : Int) ∧ Rd .u8 wr B 0 la (mix i' (dg S) (fun _ => 0)) ∧ Cl wr B ∧ Same w1 wr) (fun _ i _ => la - (intOf i).toNat)
  case atStart => exact ⟨0, Nat.zero_le _, rfl, by rw [car_zero]; rfl, hR.start _, hW, hS⟩
  case round =>
    clear hR hW hS
    obtain ⟨i, hi, rfl, rfl, hR, hW, hS⟩ := hrel
    have hcl := car_le S N i
    have b1 : 0 ≤ ((car S N i : Nat) : Int) := by omega
    have b2 : ((car S N i : Nat) : Int) ≤ 1 := by omega
    by_cases hlt : i < la
    · obtain ⟨b, off, rfl, hra2, -⟩ := hra (by omega)
      have cp := (hra2.same hS) i hlt
      have di := hR.at hlt
      have fi := hW (0 + i)
      rw [Nat.zero_add] at di fi
      have hst := add_step S N i
      have hcl2 := car_le S N (i + 1)
      have hd1 := dg_lt M i
      have hd2 := dg_lt N i
      have hd3 := dg_lt S i
      rw [HS.out] at hst
      have HST : Hid (Rd .u8 (wr.setCell ⟨B, i, none⟩ (.int .u8 ((dg S i : Nat) : Int))) B 0 la (mix (i + 1) (dg S) (fun _ => 0))) := by
        have := hR.step hlt _ rfl
        rw [Nat.zero_add] at this
        exact this
      have b3 : 0 ≤ ((dg M i : Nat) : Int) := by omega
      have b4 : ((dg M i : Nat) : Int) < 256 := by omega
      have b7 : 0 ≤ ((dg S i : Nat) : Int) := by omega
      have b8 : ((dg S i : Nat) : Int) < 256 := by omega
      have b9 : 0 ≤ ((car S N (i + 1) : Nat) : Int) := by omega
      have b10 : ((car S N (i + 1) : Nat) : Int) ≤ 1 := by omega
      by_cases hlq : i < lb
      · obtain ⟨b', off', rfl, hrb2, -⟩ := hrb (by omega)
        have cq := (hrb2.same hS) i hlq
        have b5 : 0 ≤ ((dg N i : Nat) : Int) := by omega
        have b6 : ((dg N i : Nat) : Int) < 256 := by omega
        have HC : Hid (((dg S i : Nat) : Int) + ((car S N i : Nat) : Int) + ((dg N i : Nat) : Int) = 256 * ((car S N (i + 1) : Nat) : Int) + ((dg M i : Nat) : Int)) := by show _ = _; omega
        clear hst hcl2 hd1 hd2 hd3 hcl hra hrb hra2 hrb2
        generalize ((car S N i : Nat) : Int) = C at *
        generalize hC1 : ((car S N (i + 1) : Nat) : Int) = C1 at *
        have HC1 : Hid (((car S N (i + 1) : Nat) : Int) = C1) := hC1
        clear hC1
        generalize ((dg M i : Nat) : Int) = A at *
        generalize ((dg N i : Nat) : Int) = A' at *
        generalize ((dg S i : Nat) : Int) = D at *
        go_wp2_with fail
        go_roundw
        case rel =>
          have e1 : (((A - C) % 65536 - A') % 65536) % 256 = D := by have := HC.out; omega
          have e2 : (((A - C) % 65536 - A') % 65536) / 32768 = C1 := by have := HC.out; omega
          rw [wrap16, wrap16]
          rw [e1, e2]
          exact ⟨i + 1, by omega, by go_num, by rw [HC1.out], HST.out, hW.setCell _ _, hS.setCell _ _ _ (by omega)⟩
        case measure => simp [intOf]; omega
      · have hz := dg_above N i lb HN.out (by omega)
        have HC : Hid (((dg S i : Nat) : Int) + ((car S N i : Nat) : Int) = 256 * ((car S N (i + 1) : Nat) : Int) + ((dg M i : Nat) : Int)) := by show _ = _; omega
        clear hst hcl2 hd1 hd2 hd3 hcl hra hrb hra2 hz
        generalize ((car S N i : Nat) : Int) = C at *
        generalize hC1 : ((car S N (i + 1) : Nat) : Int) = C1 at *
        have HC1 : Hid (((car S N (i + 1) : Nat) : Int) = C1) := hC1
        clear hC1
        generalize ((dg M i : Nat) : Int) = A at *
        generalize ((dg S i : Nat) : Int) = D at *
        go_wp2_with fail
        go_roundw
        case rel =>
          have e1 : ((A - C) % 65536) % 256 = D := by have := HC.out; omega
          have e2 : ((A - C) % 65536) / 32768 = C1 := by have := HC.out; omega
          rw [wrap16]
          rw [e1, e2]
          exact ⟨i + 1, by omega, by go_num, by rw [HC1.out], HST.out, hW.setCell _ _, hS.setCell _ _ _ (by omega)⟩
        case measure => simp [intOf]; omega
    · have HSl : Hid (S < 256 ^ la) := by
        show _ < _
        have h1 := HM.out
        have h3 := HS.out
        omega
      have hR2 := hR.done (show la ≤ i by omega)
      clear hR hra hrb hcl
      generalize ((car S N i : Nat) : Int) = C at *
      go_wp2_with fail
      refine (trim_any _ la S _ (by omega) ⟨_, la, rfl, Nat.le_refl _, HSl.out, fun _ => ⟨B, 0, rfl, hR2, hW⟩⟩).mono ?_
      rintro e w4 ⟨⟨v', rfl, hv', hf⟩, rfl⟩
      go_wp2_with fail
      go_ret2
      exact ⟨_, rfl, by rw [HD.out]; exact hv', hf _ (Fr.mk (by omega) (hW.wr _ _)), hS⟩
end Go.Proofs.Ygctaj.Nt
