/- nat.Carry, walked. -/
import Derived.Test.YgctajNatMul
namespace Go.Proofs.Ygctaj.Nt
open Go.RowKit Mem
set_option linter.unusedVariables false

theorem val_le (x : Nat → Nat) (C : Nat) : ∀ n, (∀ i, i < n → x i ≤ C) → val x n ≤ C * 256 ^ n
  | 0, _ => by simp [val]
  | n + 1, h => by
    have h1 := val_le x C n fun i hi => h i (by omega)
    have h3 : x n * 256 ^ n ≤ C * 256 ^ n := Nat.mul_le_mul_right _ (h n (by omega))
    have e : C * 256 ^ (n + 1) = C * 256 ^ n * 256 := by rw [Nat.pow_succ, Nat.mul_assoc]
    rw [val, e]; omega

/-- what is carried into digit i. -/
def ov (c : Nat → Nat) (i : Nat) : Nat := val c i / 256 ^ i
theorem ov_zero (c : Nat → Nat) : ov c 0 = 0 := by simp [ov, val]
theorem ov_le (c : Nat → Nat) (C i : Nat) (h : ∀ j, j < i → c j ≤ C) : ov c i ≤ C := by
  unfold ov
  exact Nat.div_le_of_le_mul (by rw [Nat.mul_comm]; exact val_le c C i h)
theorem ov_add (c : Nat → Nat) (i : Nat) : ov c i + c i = val c (i + 1) / 256 ^ i := by
  unfold ov
  rw [val, Nat.add_mul_div_right _ _ (Nat.pow_pos (by decide))]
theorem ov_step (c : Nat → Nat) (i : Nat) : (ov c i + c i) / 256 = ov c (i + 1) := by
  rw [ov_add, ov, Nat.pow_succ, Nat.div_div_eq_div_mul]
theorem ov_dig (c : Nat → Nat) (n i : Nat) (h : i < n) : (ov c i + c i) % 256 = dg (val c n) i := by
  rw [ov_add, dg]
  obtain ⟨r, rfl⟩ := Nat.exists_eq_add_of_le (show i + 1 ≤ n from h)
  rw [val_append c (i + 1) r, Nat.pow_succ]
  have e : 256 ^ i * 256 * val (fun j => c (i + 1 + j)) r = 256 ^ i * (256 * val (fun j => c (i + 1 + j)) r) := Nat.mul_assoc _ _ _
  rw [e, Nat.add_mul_div_left _ _ (Nat.pow_pos (by decide))]
  omega

/-- c, cut at n. -/
def cutAt (n : Nat) (c : Nat → Nat) : Nat → Nat := fun i => if i < n then c i else 0

set_option maxRecDepth 100000 in
set_option maxHeartbeats 1000000 in
theorem carry_any (b off n cap : Nat) (c : Nat → Nat) (w : World) (hn : n ≤ 1099511627776) (hc : Rd .i64 w b off n c) (hcl : ∀ i, i < n → c i ≤ 9007199254740992) :
    Calls Tajg.prog 93 #[.slice (some ⟨b, off, none⟩) n cap] w fun e w' => ∃ v', e = .returned (.tuple #[v', .bool true]) ∧ Nm w' v' (val c n) ∧ Fr w.heap.size w' v' ∧ Same w w' := by
  have hb : 0 < n → b < w.heap.size := fun h => hc.lt h
  have HCL : Hid (∀ i, i < n → c i ≤ 9007199254740992) := hcl
  clear hcl
  go_enter Tajg.func93, Tajg.ntmps93
  go_wp2_with fail
  go_loop [4] (fun i => ∃ i' : Nat, i' ≤ n ∧ i = .int .i64 i') (fun i => n - (intOf i).toNat)
  case atStart => exact ⟨0, Nat.zero_le _, rfl⟩
  case round =>
    obtain ⟨i, hi, rfl⟩ := hrel
    by_cases hlt : i < n
    · have ci := hc i hlt
      have h1 := HCL.out i hlt
      have b1 : 0 ≤ ((c i : Nat) : Int) := by omega
      have b2 : ((c i : Nat) : Int) ≤ 9007199254740992 := by omega
      have d1 : decide (((c i : Nat) : Int) < 0) = false := by simp
      have d2 : decide ((36028797018963968 : Int) ≤ ((c i : Nat) : Int)) = false := by simp; omega
      clear hc h1
      generalize ((c i : Nat) : Int) = X at *
      go_wp2_with fail
      go_round
      case rel => exact ⟨i + 1, by omega, by go_num⟩
      case measure => simp [intOf]; omega
    · go_wp2_with (at_make; refine wpList_mkc (n + 8) .u8 5 1 _ _ (by rfl) (by rfl) (by go_num) (by go_num) Tajg.underlying24 info5 (by omega) (by omega) ?_; intro B w2 hB1 hB2 hR hW hS)
      clear hlt hi
      go_loopw [6, 7] (fun o i wr => ∃ i' : Nat, i' ≤ n + 8 ∧ i = .int .i64 i' ∧ o = .int .i64 ((ov (cutAt n c) i' : Nat) : Int) ∧ Rd .u8 wr B 0 (n + 8) (mix i' (dg (val c n)) (fun _ => 0)) ∧ Cl wr B ∧ Same w wr) (fun _ i _ => n + 8 - (intOf i).toNat)
      case atStart => exact ⟨0, Nat.zero_le _, rfl, by rw [ov_zero]; rfl, hR.start _, hW, hS⟩
      case round =>
        clear hR hW hS
        obtain ⟨i, hi, rfl, rfl, hR, hW, hS⟩ := hrel
        have hvn : val (cutAt n c) (n + 8) = val c n := by
          rw [val_top (cutAt n c) n (n + 8) (by omega) (fun j h1 _ => if_neg (by omega))]
          exact val_congr _ _ _ fun j hj => if_pos hj
        have hcb : ∀ j, cutAt n c j ≤ 9007199254740992 := by
          intro j; unfold cutAt; split
          · rename_i h; exact HCL.out j h
          · omega
        have hol := ov_le (cutAt n c) 9007199254740992 i (fun j _ => hcb j)
        have b1 : 0 ≤ ((ov (cutAt n c) i : Nat) : Int) := by omega
        have b2 : ((ov (cutAt n c) i : Nat) : Int) ≤ 9007199254740992 := by omega
        by_cases hlt : i < n + 8
        · have di := hR.at hlt
          have fi := hW (0 + i)
          rw [Nat.zero_add] at di fi
          have HST : Hid (Rd .u8 (wr.setCell ⟨B, i, none⟩ (.int .u8 ((dg (val c n) i : Nat) : Int))) B 0 (n + 8) (mix (i + 1) (dg (val c n)) (fun _ => 0))) := by
            have := hR.step hlt _ rfl
            rw [Nat.zero_add] at this
            exact this
          have e1 := ov_step (cutAt n c) i
          have e2 := ov_dig (cutAt n c) (n + 8) i hlt
          rw [hvn] at e2
          by_cases hin : i < n
          · have ci := (hc.same hS) i hin
            have ec : cutAt n c i = c i := if_pos hin
            rw [ec] at e1 e2
            have E1 : Hid ((((ov (cutAt n c) i : Nat) : Int) + ((c i : Nat) : Int)) / 256 = ((ov (cutAt n c) (i + 1) : Nat) : Int)) := by show _ = _; omega
            have E2 : Hid ((((ov (cutAt n c) i : Nat) : Int) + ((c i : Nat) : Int)) % 256 = ((dg (val c n) i : Nat) : Int)) := by show _ = _; omega
            have b3 : 0 ≤ ((c i : Nat) : Int) := by omega
            have b4 : ((c i : Nat) : Int) ≤ 9007199254740992 := by have := HCL.out i hin; omega
            clear hc hol hcb hvn e1 e2 ec
            generalize ((ov (cutAt n c) i : Nat) : Int) = O at *
            generalize ((c i : Nat) : Int) = X at *
            go_wp2_with fail
            go_roundw
            case rel =>
              rw [E1.out, E2.out]
              exact ⟨i + 1, by omega, by go_num, rfl, HST.out, hW.setCell _ _, hS.setCell _ _ _ (by omega)⟩
            case measure => simp [intOf]; omega
          · have ec : cutAt n c i = 0 := if_neg hin
            rw [ec, Nat.add_zero] at e1 e2
            have E1 : Hid (((ov (cutAt n c) i : Nat) : Int) / 256 = ((ov (cutAt n c) (i + 1) : Nat) : Int)) := by show _ = _; omega
            have E2 : Hid (((ov (cutAt n c) i : Nat) : Int) % 256 = ((dg (val c n) i : Nat) : Int)) := by show _ = _; omega
            clear hc hol hcb hvn e1 e2 ec
            generalize ((ov (cutAt n c) i : Nat) : Int) = O at *
            go_wp2_with fail
            go_roundw
            case rel =>
              rw [E1.out, E2.out]
              exact ⟨i + 1, by omega, by go_num, rfl, HST.out, hW.setCell _ _, hS.setCell _ _ _ (by omega)⟩
            case measure => simp [intOf]; omega
        · have hlV : val c n < 256 ^ (n + 8) := by
            have h1 := val_le c 9007199254740992 n HCL.out
            rw [Nat.pow_add]
            have h2 : 9007199254740992 * 256 ^ n < 256 ^ 8 * 256 ^ n := Nat.mul_lt_mul_of_pos_right (by decide) (Nat.pow_pos (by decide))
            rw [Nat.mul_comm (256 ^ n)]; omega
          have hR2 := hR.done (show n + 8 ≤ i by omega)
          have HNA : Hid (Na wr (.slice (some ⟨B, 0, none⟩) (n + 8) (n + 8)) (n + 8) (val c n)) := ⟨_, n + 8, rfl, Nat.le_refl _, hlV, fun _ => ⟨B, 0, rfl, hR2, hW⟩⟩
          clear hR hR2 hlV hc hol hcb hvn
          generalize ((ov (cutAt n c) i : Nat) : Int) = O at *
          go_wp2_with fail
          refine (trim_any _ (n + 8) (val c n) _ (by omega) HNA.out).mono ?_
          rintro e w4 ⟨⟨v', rfl, hv', hf⟩, rfl⟩
          go_wp2_with fail
          go_ret2
          exact ⟨_, rfl, hv', hf _ (Fr.mk hB1 (hW.wr _ _)), hS⟩
end Go.Proofs.Ygctaj.Nt
