import Derived.Test.YgctajLawConv
namespace Go.Proofs.Ygctaj.nTTConvExact
open Go.RowKit Mem Dft Ntt
set_option linter.unusedVariables false

set_option maxRecDepth 100000 in
set_option maxHeartbeats 1000000 in
theorem doubleLoop_any (b off b' off' la lb ca cb : Nat) (x y : Nat → Nat) (w : World) (h1 : 1 ≤ la) (h2 : 1 ≤ lb) (h3 : la ≤ 512) (h4 : lb ≤ 512) (hx : Rd .u8 w b off la x) (hy : Rd .u8 w b' off' lb y) (hxl : ∀ i, i < la → x i < 256) (hyl : ∀ i, i < lb → y i < 256) :
    Calls Tajg.prog 86 #[.slice (some ⟨b, off, none⟩) la ca, .slice (some ⟨b', off', none⟩) lb cb] w fun e w' =>
      ∃ B : Nat, e = .returned (.slice (some ⟨B, 0, none⟩) (la + lb - 1) (la + lb - 1)) ∧ w.heap.size ≤ B ∧ Rd .i64 w' B 0 (la + lb - 1) (cvN x y lb la) ∧ Same w w' := by
  have hb := hx.lt (by omega)
  have hb' := hy.lt (by omega)
  generalize hm : la + lb - 1 = m at *
  have hml : (la : Int) + (lb : Int) - 1 = (m : Int) := by omega
  have HM : Hid (la + lb - 1 = m) := hm
  clear hm
  have hd1 : ((la : Int) == 0) = false := by rw [beq_eq_false_iff_ne]; omega
  have hd2 : ((lb : Int) == 0) = false := by rw [beq_eq_false_iff_ne]; omega
  go_enter Tajg.func86, Tajg.ntmps86
  go_wp2_with (at_make; refine wpList_mk m .i64 2 8 _ _ (by rfl) (by rfl) rfl rfl Tajg.underlying66 info2 (by have := HM.out; omega) (by have := HM.out; omega) ?_; intro B w2 hB1 hB2 hR hW hS)
  have hx2 := hx.same hS
  have hy2 := hy.same hS
  clear hx hy hml
  have hm1 : la + lb = m + 1 := by have := HM.out; omega
  have HM1 : Hid (la + lb = m + 1) := hm1
  clear hm1
  go_loopw [6] (fun i wr => ∃ i' : Nat, i' ≤ la ∧ i = .int .i64 i' ∧ Rd .i64 wr B 0 m (cvN x y lb i') ∧ Wr wr B 0 m ∧ Rd .u8 wr b off la x ∧ Rd .u8 wr b' off' lb y ∧ Same w wr) (fun i _ => la - (intOf i).toNat)
  case atStart => exact ⟨0, Nat.zero_le _, rfl, hR, hW, hx2, hy2, hS⟩
  case round =>
    clear hx2 hy2 hR hW hS
    obtain ⟨i, hi, rfl, hR, hW, hx, hy, hS⟩ := hrel
    by_cases hlt : i < la
    · go_wp2_with fail
      go_loopw [7] (fun j wr => ∃ j' : Nat, j' ≤ lb ∧ j = .int .i64 j' ∧ Rd .i64 wr B 0 m (row x y lb i j') ∧ Wr wr B 0 m ∧ Rd .u8 wr b off la x ∧ Rd .u8 wr b' off' lb y ∧ Same w wr) (fun j _ => lb - (intOf j).toNat)
      case atStart => exact ⟨0, Nat.zero_le _, rfl, hR.congr (fun l _ => (row_zero x y lb i l).symm), hW, hx, hy, hS⟩
      case round =>
        clear hx hy hR hW hS
        obtain ⟨j, hj, rfl, hR, hW, hx, hy, hS⟩ := hrel
        by_cases hjl : j < lb
        · have hij : i + j < m := by have := HM1.out; omega
          have cr := hR (i + j) hij
          have fr := hW (i + j) hij
          rw [Nat.zero_add] at cr fr
          have ci := hx i hlt
          have cj := hy j hjl
          have hrl := row_le x y lb i j (i + j) 255 255 hj (fun k hk => by have := hxl k (by omega); omega) (fun k hk => by have := hyl k hk; omega)
          have hrl2 : (i + 1) * (255 * 255) ≤ 512 * (255 * 255) := Nat.mul_le_mul_right _ (by omega)
          have hxi := hxl i hlt
          have hyj := hyl j hjl
          have hxy : x i * y j ≤ 255 * 255 := Nat.mul_le_mul (by omega) (by omega)
          have b1 : ((x i : Nat) : Int) * ((y j : Nat) : Int) ≤ 65025 := by rw [← Int.natCast_mul]; omega
          have b2 : 0 ≤ ((x i : Nat) : Int) * ((y j : Nat) : Int) := by rw [← Int.natCast_mul]; omega
          have b3 : ((row x y lb i j (i + j) : Nat) : Int) ≤ 33292800 := by omega
          have b4 : 0 ≤ ((row x y lb i j (i + j) : Nat) : Int) := by omega
          have b5 : 0 ≤ ((x i : Nat) : Int) := by omega
          have b6 : ((x i : Nat) : Int) < 256 := by omega
          have b7 : 0 ≤ ((y j : Nat) : Int) := by omega
          have b8 : ((y j : Nat) : Int) < 256 := by omega
          have HV : Hid (((row x y lb i j (i + j) : Nat) : Int) + ((x i : Nat) : Int) * ((y j : Nat) : Int) = ((row x y lb i (j + 1) (i + j) : Nat) : Int)) := by
            show _ = _
            rw [← row_at]; simp
          clear hrl hrl2 hxi hyj hxy
          generalize ((row x y lb i j (i + j) : Nat) : Int) = RR at *
          generalize ((x i : Nat) : Int) = X at *
          generalize ((y j : Nat) : Int) = Y at *
          go_wp2_with fail
          refine Text.wp_text (by kernel_rfl) (by kernel_rfl) ⟨fun c a w h => (by obtain ⟨_, _, h, _⟩ := h; cases h), fun a w h => (by obtain ⟨_, h, _⟩ := h; cases h)⟩ ?_
          intro K hK
          go_wp2_with fail
          refine hK _ _ (by rfl) ?_
          go_wp2_with fail
          go_roundw
          case rel =>
            refine ⟨j + 1, by omega, by go_num, ?_, hW.drew.setCell _ _, hx.drew.setOther (by omega), hy.drew.setOther (by omega), hS.drew.setCell _ _ _ (by omega)⟩
            rw [HV.out]
            have := hR.drew.setCell (i + j) (row x y lb i (j + 1) (i + j)) hij
            rw [Nat.zero_add] at this
            refine this.congr fun l hl => ?_
            by_cases e : l = i + j
            · subst e; rw [upd_same]
            · rw [upd_other _ _ _ _ e]; exact row_step x y lb i j l e
          case measure => simp [intOf]; omega
        · have ej : j = lb := by omega
          have hR2 : Rd .i64 wr B 0 m (cvN x y lb (i + 1)) := by rw [ej] at hR; exact hR
          clear hR ej
          go_wp2_with fail
          go_roundw
          case rel => exact ⟨i + 1, by omega, by go_num, hR2, hW, hx, hy, hS⟩
          case measure => simp [intOf]; omega
    · have ei : i = la := by omega
      have hR2 : Rd .i64 wr B 0 m (cvN x y lb la) := by rw [ei] at hR; exact hR
      clear hR ei
      go_wp2_with fail
      go_ret
      exact ⟨B, rfl, hB1, hR2, hS⟩

theorem doubleLoop_nil (a a' : Option Addr) (la lb ca cb : Nat) (w : World) (h : la = 0 ∨ lb = 0) :
    Calls Tajg.prog 86 #[.slice a la ca, .slice a' lb cb] w fun e w' => e = .returned (.slice none 0 0) ∧ Same w w' := by
  by_cases h0 : la = 0
  · subst h0
    go_enter Tajg.func86, Tajg.ntmps86
    go_wp2_with fail
    go_ret
    exact ⟨rfl, Chg.refl _ _⟩
  · have hlb : lb = 0 := by omega
    subst hlb
    have hd : ((la : Int) == 0) = false := by rw [beq_eq_false_iff_ne]; omega
    go_enter Tajg.func86, Tajg.ntmps86
    go_wp2_with fail
    go_ret
    exact ⟨rfl, Chg.refl _ _⟩

end Go.Proofs.Ygctaj.nTTConvExact
