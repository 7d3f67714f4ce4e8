/- mlong.addBack, walked. -/
import Derived.Test.YgctajLongProducts
namespace Go.Proofs.Ygctaj.Long
open Go.RowKit Mem Dft Ntt
set_option linter.unusedVariables false

set_option maxRecDepth 100000 in
set_option maxHeartbeats 2000000 in
theorem addBack_any (k n Bc oc cc Bk ck Bs cs : Nat) (c b0 S : Nat → Nat) (w : World) (hk : k ≤ 11) (hn : n = 2 ^ k) (hck : n ≤ ck)
    (hc : Rd .i64 w Bc oc n c) (hcw : Wr w Bc oc n) (hb : Rd .u32 w Bk 0 n b0) (hbw : Wr w Bk 0 n) (hS : Rd .u64 w Bs 0 n S) (hSl : ∀ i, i < n → S i < 998244353) (hcl : ∀ i, i < n → c i ≤ 9007199254740992)
    (h1 : Bc ≠ Bk) (h2 : Bk ≠ Bs) (h3 : Bc ≠ Bs) :
    Calls Tajg.prog 117 #[.slice (some ⟨Bc, oc, none⟩) n cc, .slice (some ⟨Bk, 0, none⟩) n ck, .slice (some ⟨Bs, 0, none⟩) n cs] w fun e w' =>
      e = .returned (.tuple #[]) ∧ ∃ r : Nat → Nat, (∀ j, j < n → r j < 998244353 ∧ toF (r j) = toF (inv n) * dft (toF (inv (root k))) (fun i => toF (S i)) n j) ∧ Rd .i64 w' Bc oc n (fun j => c j + r j) ∧ Rd .u32 w' Bk 0 n r ∧
        Chg (fun q o => q = Bc ∧ oc ≤ o ∧ o < oc + n ∨ q = Bk ∧ 0 ≤ o ∧ o < 0 + n) w w' := by
  have h2048 : n ≤ 2048 := by
    have : 2 ^ k ≤ 2 ^ 11 := Nat.pow_le_pow_right (by decide) hk
    omega
  have hpos : 0 < n := by rw [hn]; exact Nat.two_pow_pos k
  have HN : Hid (n = 2 ^ k) := hn
  have HSL : Hid (∀ i, i < n → S i < 998244353) := hSl
  have HCL : Hid (∀ i, i < n → c i ≤ 9007199254740992) := hcl
  clear hn hSl hcl
  go_enter Tajg.func117, Tajg.ntmps117
  go_wp2_with fail
  go_loopw [6] (fun j wr => ∃ j' : Nat, j' ≤ n ∧ j = .int .i64 j' ∧ Rd .u32 wr Bk 0 n (mix j' S b0) ∧ Wr wr Bk 0 n ∧ Rd .u64 wr Bs 0 n S ∧ Rd .i64 wr Bc oc n c ∧ Wr wr Bc oc n ∧ Chg (fun q o => q = Bc ∧ oc ≤ o ∧ o < oc + n ∨ q = Bk ∧ 0 ≤ o ∧ o < 0 + n) w wr) (fun j _ => n - (intOf j).toNat)
  case atStart => exact ⟨0, Nat.zero_le _, rfl, hb.start _, hbw, hS, hc, hcw, Chg.refl _ _⟩
  case round =>
    clear hb hbw hS hc hcw
    obtain ⟨j, hj, rfl, hb, hbw, hS, hc, hcw, hC⟩ := hrel
    by_cases hlt : j < n
    · have cb := hb.at hlt
      have fb := hbw j hlt
      have cS := hS j hlt
      rw [Nat.zero_add] at cb fb cS
      have g := HSL.out j hlt
      have b1 : 0 ≤ ((S j : Nat) : Int) := by omega
      have b2 : ((S j : Nat) : Int) < 998244353 := by omega
      have HST : Hid (Rd .u32 (wr.setCell ⟨Bk, j, none⟩ (.int .u32 ((S j : Nat) : Int))) Bk 0 n (mix (j + 1) S b0)) := by
        have := hb.step hlt _ rfl
        rw [Nat.zero_add] at this
        exact this
      clear g
      generalize ((S j : Nat) : Int) = V at *
      go_wp2_with fail
      go_roundw
      case rel => exact ⟨j + 1, by omega, by go_num, HST.out, hbw.setCell _ _, hS.setOther (by omega), hc.setOther (by omega), hcw.setCell _ _, hC.setCell _ _ _ (fun _ => by omega)⟩
      case measure => simp [intOf]; omega
    · have hb2 := hb.done (show n ≤ j by omega)
      have hlc := hc.lt hpos
      clear hb hS
      go_wp2_with fail
      refine (inverse_any Bk 0 k n ck S _ hk HN.out hck hb2 hbw HSL.out).mono ?_
      rintro e w2 ⟨rfl, r, hr, hrd, hC2⟩
      have HR : Hid (∀ j, j < n → r j < 998244353 ∧ toF (r j) = toF (inv n) * dft (toF (inv (root k))) (fun i => toF (S i)) n j) := hrd
      have hc2 := hc.kept hC2 (by omega)
      have hcw2 := hcw.kept hC2 hlc
      have hC3 : Chg (fun q o => q = Bc ∧ oc ≤ o ∧ o < oc + n ∨ q = Bk ∧ 0 ≤ o ∧ o < 0 + n) w w2 := hC.trans (hC2.mono (fun q o _ h => .inr h))
      clear hb2 hbw hc hcw hC hC2 hrd hlc
      go_wp2_with fail
      go_loopw [7] (fun j wr => ∃ j' : Nat, j' ≤ n ∧ j = .int .i64 j' ∧ Rd .i64 wr Bc oc n (mix j' (fun j => c j + r j) c) ∧ Wr wr Bc oc n ∧ Rd .u32 wr Bk 0 n r ∧ Chg (fun q o => q = Bc ∧ oc ≤ o ∧ o < oc + n ∨ q = Bk ∧ 0 ≤ o ∧ o < 0 + n) w wr) (fun j _ => n - (intOf j).toNat)
      case atStart => exact ⟨0, Nat.zero_le _, rfl, hc2.start _, hcw2, hr, hC3⟩
      case round =>
        clear hc2 hcw2 hr hC3
        obtain ⟨j, hj, rfl, hc, hcw, hr, hC⟩ := hrel
        by_cases hlt : j < n
        · have cc1 := hc.at hlt
          have fc := hcw j hlt
          have cr := hr j hlt
          rw [Nat.zero_add] at cr
          have g1 := HCL.out j hlt
          have g2 := (HR.out j hlt).1
          have b1 : 0 ≤ ((c j : Nat) : Int) := by omega
          have b2 : ((c j : Nat) : Int) ≤ 9007199254740992 := by omega
          have b3 : 0 ≤ ((r j : Nat) : Int) := by omega
          have b4 : ((r j : Nat) : Int) < 998244353 := by omega
          have HST : Hid (Rd .i64 (wr.drew.setCell ⟨Bc, oc + j, none⟩ (.int .i64 (((c j : Nat) : Int) + ((r j : Nat) : Int)))) Bc oc n (mix (j + 1) (fun j => c j + r j) c)) :=
            hc.drew.step hlt _ (by simp)
          clear g1 g2
          generalize ((c j : Nat) : Int) = V at *
          generalize ((r j : Nat) : Int) = U at *
          go_wp2_with fail
          refine Text.wp_text (by kernel_rfl) (by kernel_rfl) ⟨fun c a w h => by exact absurd h.2.1 (by simp), fun a w h => by exact absurd h.1 (by simp)⟩ ?_
          intro K hK
          go_wp2_with fail
          refine hK _ _ (by rfl) ?_
          go_wp2_with fail
          go_roundw
          case rel => exact ⟨j + 1, by omega, by go_num, HST.out, hcw.drew.setCell _ _, hr.drew.setOther (by omega), hC.drew.setCell _ _ _ (fun _ => by omega)⟩
          case measure => simp [intOf]; omega
        · have hc2 := hc.done (show n ≤ j by omega)
          clear hc
          go_wp2_with fail
          go_end0
          exact ⟨rfl, r, HR.out, hc2, hr, hC⟩
end Go.Proofs.Ygctaj.Long
