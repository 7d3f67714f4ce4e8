/- nlong.halved, oddPart, walked. -/
import Derived.Test.YgctajDivide
import Derived.Test.YgctajWords
namespace Go.Proofs.Ygctaj.Nt
open Go.RowKit Mem
set_option linter.unusedVariables false

theorem dg_half (A i : Nat) : dg (A / 2) i = dg A i / 2 + dg A (i + 1) % 2 * 128 := by
  unfold dg
  rw [Nat.div_div_eq_div_mul, Nat.mul_comm 2, ← Nat.div_div_eq_div_mul, Nat.pow_succ, ← Nat.div_div_eq_div_mul]
  generalize A / 256 ^ i = q
  omega
theorem half_or (d e : Nat) (hd : d < 256) : bits .or .u8 ((d / 2 : Nat) : Int) ((e % 2 * 128 : Nat) : Int) = ((d / 2 + e % 2 * 128 : Nat) : Int) := by
  rw [u8_or_nat (d / 2) (e % 2 * 128) (by omega) (by omega)]
  have := Nat.two_pow_add_eq_or_of_lt (i := 7) (b := d / 2) (by omega) (e % 2)
  rw [show (2 : Nat) ^ 7 = 128 from rfl, Nat.mul_comm 128] at this
  rw [Nat.or_comm, ← this, Nat.add_comm]

set_option maxRecDepth 100000 in
set_option maxHeartbeats 1000000 in
theorem halved_any (a : Value) (A : Nat) (w : World) (hA : A ≠ 0) (hn2 : dl A ≤ 100000) (ha : Nm w a A) :
    Calls Tajg.prog 120 #[a] w fun e w' => ∃ v, e = .returned v ∧ Nm w' v (A / 2) ∧ Fr w.heap.size w' v ∧ Same w w' := by
  have HL : Hid (A < 256 ^ dl A) := lt_dl A
  obtain ⟨h0, _⟩ | ⟨_, b, off, cap, rfl, hcap, hp, hR, hcl⟩ := ha.open
  · exact absurd h0 hA
  have HR : Hid (Rd .u8 w b off (dl A) (dg A)) := hR
  have hbl := hR.lt hp
  clear hR ha hcl
  generalize dl A = n at *
  go_enter Tajg.func120, Tajg.ntmps120
  go_wp2_with (at_make; refine wpList_mkc n .u8 5 1 _ _ (by rfl) (by rfl) (by rfl) (by rfl) Tajg.underlying24 (by kernel_rfl) (by omega) (by omega) ?_; intro B w1 hB1 hB2 hRB hCB hs1)
  have HRB : Hid (Rd .u8 w1 B 0 n (fun _ => 0)) := hRB
  clear hRB
  go_loopw [4] (fun i wr => ∃ j : Nat, j ≤ n ∧ i = .int .i64 (j : Int) ∧ Hid (Rd .u8 wr B 0 n (mix j (dg (A / 2)) (fun _ => 0))) ∧ Cl wr B ∧ Chg (fun q _ => q = B) w1 wr) (fun i _ => (n - intOf i).toNat)
  case atStart => exact ⟨0, by omega, rfl, HRB.out.start _, hCB, Chg.refl _ _⟩
  case round =>
    clear HRB hCB
    obtain ⟨j, hj, rfl, HRr, hCo, hCg⟩ := hrel
    have hSr : Same w wr := hs1.trans_new hCg (fun q o hq e => by omega)
    by_cases hjn : j = n
    · subst hjn
      have HNa : Hid (Na wr (.slice (some ⟨B, 0, none⟩) j j) j (A / 2)) :=
        ⟨_, j, rfl, Nat.le_refl _, Nat.lt_of_le_of_lt (Nat.div_le_self _ _) HL.out, fun _ => ⟨B, 0, rfl, HRr.out.done (Nat.le_refl _), hCo⟩⟩
      have HFr : Hid (Fr w.heap.size wr (.slice (some ⟨B, 0, none⟩) j j)) := Fr.mk hB1 (hCo.wr _ _)
      go_wp2_with fail
      refine (normal_any _ j (A / 2) wr (by omega) HNa.out).mono ?_
      rintro e w' ⟨⟨v', rfl, hv', hf'⟩, rfl⟩
      go_wp2_with fail
      go_ret
      exact ⟨v', rfl, hv', hf' _ HFr.out, hSr⟩
    · have hlt : j < n := by omega
      have c1 := (HR.out.same hSr) j hlt
      have o1 := HRr.out.at hlt
      have f1 := hCo (0 + j)
      rw [Nat.zero_add] at o1 f1
      have hd1 := dg_lt A j
      obtain ⟨D, HD⟩ : ∃ D : Int, Hid (D = ((dg A j : Nat) : Int)) := ⟨_, rfl⟩
      obtain ⟨H, HH⟩ : ∃ H : Int, Hid (H = ((dg A j / 2 : Nat) : Int)) := ⟨_, rfl⟩
      have d1 : 0 ≤ D := by have := HD.out; omega
      have d2 : D < 256 := by have := HD.out; omega
      have e1 : D / 2 = H := by have := HD.out; have := HH.out; omega
      have g1 : 0 ≤ H := by omega
      have g2 : H < 256 := by omega
      rw [← HD.out] at c1
      clear hd1
      by_cases hlast : j + 1 < n
      · have c3 := (HR.out.same hSr) (j + 1) hlast
        have f3 := hCo (0 + (j + 1))
        have hd2 := dg_lt A (j + 1)
        have hor := half_or (dg A j) (dg A (j + 1)) (dg_lt _ _)
        rw [← dg_half] at hor
        have hd3 := dg_lt (A / 2) j
        obtain ⟨F, HF⟩ : ∃ F : Int, Hid (F = ((dg A (j + 1) : Nat) : Int)) := ⟨_, rfl⟩
        obtain ⟨S, HS⟩ : ∃ S : Int, Hid (S = ((dg A (j + 1) % 2 * 128 : Nat) : Int)) := ⟨_, rfl⟩
        obtain ⟨V, HV⟩ : ∃ V : Int, Hid (V = ((dg (A / 2) j : Nat) : Int)) := ⟨_, rfl⟩
        rw [← HH.out, ← HS.out, ← HV.out] at hor
        rw [← HF.out] at c3
        have x1 : 0 ≤ F := by have := HF.out; omega
        have x2 : F < 256 := by have := HF.out; omega
        have e3 : F * 128 % 256 = S := by have := HF.out; have := HS.out; omega
        have x3 : 0 ≤ S := by omega
        have x4 : S < 256 := by omega
        have x5 : 0 ≤ V := by have := HV.out; omega
        have x6 : V < 256 := by have := HV.out; omega
        clear hd2 hd3
        have ej : (j : Int) + 1 = ((j + 1 : Nat) : Int) := by omega
        obtain ⟨j1, Hj1⟩ : ∃ j1, Hid (j1 = j + 1) := ⟨_, rfl⟩
        rw [← Hj1.out] at ej hlast c3
        go_wp2_with fail
        have HC5 : Hid (Chg (fun q _ => q = B) w1 (wr.setCell ⟨B, j, none⟩ (.int .u8 H))) := hCg.setCell _ _ _ (fun _ => rfl)
        have HR5 : Hid (Rd .u8 (wr.setCell ⟨B, j, none⟩ (.int .u8 H)) B 0 n (upd (mix j (dg (A / 2)) (fun _ => 0)) j (dg A j / 2))) := by
          have g := HRr.out.setCell j (dg A j / 2) hlt
          rw [Nat.zero_add, ← HH.out] at g
          exact g
        have hC5 := hCo.setCell ⟨B, j, none⟩ (.int .u8 H)
        have f5 := hC5 (0 + j)
        have o5 := HR5.out j hlt
        rw [Nat.zero_add] at f5 o5
        rw [upd_same, ← HH.out] at o5
        clear c1 c3 o1 f1 f3 hCo
        generalize wr.setCell _ _ = W5 at *
        have hS5 : Same w W5 := hs1.trans_new HC5.out (fun q o hq e => by omega)
        have c5 := (HR.out.same hS5) (j + 1) (by have := Hj1.out; omega)
        rw [← HF.out, ← Hj1.out] at c5
        refine Text.wp_text (by kernel_rfl) (by kernel_rfl) ⟨fun c a w h => (by obtain ⟨_, _, h, _⟩ := h; cases h), fun a w h => (by obtain ⟨_, h, _⟩ := h; cases h)⟩ ?_
        intro K hK
        go_wp2_with fail
        refine hK _ _ (by rfl) ?_
        clear hK
        have HRn : Hid (Rd .u8 (W5.drew.setCell ⟨B, j, none⟩ (.int .u8 V)) B 0 n (mix (j + 1) (dg (A / 2)) (fun _ => 0))) := by
          have g := HR5.out.drew.setCell j (dg (A / 2) j) hlt
          rw [Nat.zero_add, ← HV.out] at g
          refine g.congr fun i hi => ?_
          rw [← mix_upd]
          by_cases hij : i = j
          · subst hij; rw [upd_same, upd_same]
          · rw [upd_other _ _ _ _ hij, upd_other _ _ _ _ hij, upd_other _ _ _ _ hij]
        go_wp2_with fail
        go_roundw
        case rel =>
          exact ⟨j + 1, by omega, by go_num, HRn, hC5.drew.setCell _ _, (HC5.out.drew).setCell _ _ _ (fun _ => rfl)⟩
        case measure => simp [intOf]; omega
      · have HV : Hid (H = ((dg (A / 2) j : Nat) : Int)) := by
          show _ = _
          have hA0 : dg A (j + 1) = 0 := by
            unfold dg
            rw [Nat.div_eq_of_lt (Nat.lt_of_lt_of_le HL.out (Nat.pow_le_pow_right (by decide) (by omega)))]
          rw [dg_half, hA0]
          have := HH.out
          omega
        have ej : (j : Int) + 1 = (n : Int) := by omega
        go_wp2_with fail
        go_roundw
        case rel =>
          have g1 := HRr.out.step hlt _ HV.out
          rw [Nat.zero_add] at g1
          exact ⟨j + 1, by omega, by go_num, g1, hCo.setCell _ _, hCg.setCell _ _ _ (fun _ => rfl)⟩
        case measure => simp [intOf]; omega
end Go.Proofs.Ygctaj.Nt
