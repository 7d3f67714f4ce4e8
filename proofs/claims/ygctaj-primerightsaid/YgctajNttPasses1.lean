import Derived.Test.YgctajNttPasses
namespace Go.Proofs.Ygctaj.Ntt
open Go.RowKit Mem Dft
set_option linter.unusedVariables false

theorem dft_one (W : F) (X : Nat → F) : dft W X 1 0 = X 0 := by
  unfold dft
  rw [fsum, fsum, Nat.zero_mul, pwF_zero]; grind

set_option maxRecDepth 100000 in
set_option maxHeartbeats 2000000 in
theorem passes_one (b off cap B offt offr T ct cr w0 : Nat) (x : Nat → Nat) (w : World) (hct : T ≤ ct) (hcr : T ≤ cr) (hB : B ≠ b)
    (hT2 : T ≤ 1099511627776) (hx : Rd .u32 w b off 1 x) (hwx : Wr w b off 1) (hxl : ∀ i, i < 1 → x i < 998244353) :
    Calls Tajg.prog 112 #[.slice (some ⟨b, off, none⟩) 1 cap, .int .i64 0, .int .u32 (w0 : Int), .slice (some ⟨B, offt, none⟩) T ct, .slice (some ⟨B, offr, none⟩) T cr] w fun e w' =>
      e = .returned (.tuple #[]) ∧ ∃ y : Nat → Nat, Rd .u32 w' b off 1 y ∧ (∀ j, j < 1 → y j < 998244353 ∧ toF (y j) = dft (toF w0) (fun i => toF (x i)) 1 j) ∧ Chg (mayP b off 1 B) w w' := by
  have hb := hx.lt (by decide)
  have hx0 := hxl 0 (by decide)
  have HD : Hid (toF (x 0) = dft (toF w0) (fun i => toF (x i)) 1 0) := (dft_one (toF w0) (fun i => toF (x i))).symm
  have hr := reverse_any b off 0 1 cap x w rfl (by decide) hx hwx
  have HR : Hid (Calls Tajg.prog 126 #[.slice (some ⟨b, off, none⟩) 1 cap] w fun e w' =>
      e = .returned (.tuple #[]) ∧ Rd .u32 w' b off 1 (fun i => x (rev 0 i)) ∧ Chg (fun k o => k = b ∧ off ≤ o ∧ o < off + 1) w w') := hr
  clear hr
  go_enter Tajg.func112, Tajg.ntmps112
  go_wp2_with fail
  refine HR.out.mono ?_
  rintro e w1 ⟨rfl, hz, hc1⟩
  have hz' : Rd .u32 w1 b off 1 x := hz.congr fun i hi => by
    obtain rfl : i = 0 := by omega
    rfl
  have hc1' : Chg (mayP b off 1 B) w w1 := hc1.mono fun _ _ _ h => .inl h
  clear hz hc1 HR
  go_wp2_with fail
  go_loop [10] (fun p => p = .int .i64 0) (fun _ => 0)
  case atStart => rfl
  case round =>
    subst hrel
    go_wp2_with fail
    refine (factors_zero _ _ _ _).mono ?_
    rintro e w2 ⟨rfl, hs⟩
    have hz2 := hz'.same hs
    have hc2 := hc1'.trans (Same.chg hs)
    clear hz' hc1' hs
    go_wp2_with fail
    go_loop [13] (fun t => t = .int .i64 2) (fun _ => 0)
    case atStart => rfl
    case round =>
      subst hrel
      go_wp2_with fail
      go_loopw [18] (fun i wr => ∃ i' : Nat, i' ≤ 1 ∧ i = .int .i64 i' ∧ Rd .u32 wr b off 1 x ∧ Chg (mayP b off 1 B) w wr) (fun i _ => 1 - (intOf i).toNat)
      case atStart => exact ⟨0, Nat.zero_le _, rfl, hz2, hc2⟩
      case round =>
        clear hz2 hc2
        obtain ⟨i, hi, rfl, hy, hc⟩ := hrel
        by_cases hil : i < 1
        · obtain rfl : i = 0 := by omega
          have ci := hy 0 (by decide)
          rw [Nat.add_zero] at ci
          have fi := (hwx.kept hc hb) 0 (by decide)
          rw [Nat.add_zero] at fi
          have bY : ((x 0 : Nat) : Int) < 998244353 := by omega
          have bY0 : 0 ≤ ((x 0 : Nat) : Int) := by omega
          have hst : Rd .u32 (wr.setCell ⟨b, off, none⟩ (.int .u32 ((x 0 : Nat) : Int))) b off 1 x := by
            have := hy.setCell 0 (x 0) (by decide)
            rw [Nat.add_zero] at this
            exact this.congr fun i hi => by
              obtain rfl : i = 0 := by omega
              exact upd_same _ _ _
          have HST : Hid (Rd .u32 (wr.setCell ⟨b, off, none⟩ (.int .u32 ((x 0 : Nat) : Int))) b off 1 x) := hst
          clear hst
          generalize ((x 0 : Nat) : Int) = Y at *
          go_wp2_with fail
          refine (fold_any _ _ bY0 (by omega)).mono ?_
          rintro e w3 ⟨rfl, rfl⟩
          rw [Int.emod_eq_of_lt bY0 bY]
          go_wp2_with fail
          go_roundw
          case rel => exact ⟨1, by omega, by go_num, HST.out, hc.setCell _ _ _ (fun _ => .inl (by omega))⟩
          case measure => simp [intOf]
        · go_wp2_with fail
          go_end0
          refine ⟨rfl, x, hy, fun j hj => ?_, hc⟩
          obtain rfl : j = 0 := by omega
          exact ⟨hx0, HD.out⟩

theorem passes_all (b off k n cap B offt offr T ct cr w0 : Nat) (x : Nat → Nat) (w : World) (hn : n = 2 ^ k) (hcap : n ≤ cap) (hk2 : k ≤ 40) (hT : n / 2 ≤ T) (hct : T ≤ ct) (hcr : T ≤ cr) (hdis : offt + 2 * T ≤ offr) (hB : B ≠ b) (hBs : B < w.heap.size)
    (hT2 : T ≤ 1099511627776) (hw0 : w0 < 998244353) (hx : Rd .u32 w b off n x) (hwx : Wr w b off n) (hxl : ∀ i, i < n → x i < 998244353) (ht : Has w B offt (2 * (n / 2))) (hr : Has w B offr (2 * (n / 2)))
    (hW : k ≠ 0 → pwF (toF w0) (2 ^ (k - 1)) = -1) :
    Calls Tajg.prog 112 #[.slice (some ⟨b, off, none⟩) n cap, .int .i64 (k : Int), .int .u32 (w0 : Int), .slice (some ⟨B, offt, none⟩) T ct, .slice (some ⟨B, offr, none⟩) T cr] w fun e w' =>
      e = .returned (.tuple #[]) ∧ ∃ y : Nat → Nat, Rd .u32 w' b off n y ∧ (∀ j, j < n → y j < 998244353 ∧ toF (y j) = dft (toF w0) (fun i => toF (x i)) n j) ∧ Chg (mayP b off n B) w w' := by
  by_cases hk : k = 0
  · subst hk
    rw [Nat.pow_zero] at hn
    subst hn
    exact passes_one b off cap B offt offr T ct cr w0 x w hct hcr hB hT2 hx hwx hxl
  · exact passes_any b off k n cap B offt offr T ct cr w0 x w hn hcap (by omega) hk2 hT hct hcr hdis hB hBs hT2 hw0 hx hwx hxl ht hr (hW hk)
end Go.Proofs.Ygctaj.Ntt
