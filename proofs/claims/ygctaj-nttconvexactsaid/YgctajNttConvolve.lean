import Derived.Test.YgctajLawConv
namespace Go.Proofs.Ygctaj.nTTConvExact
open Go.RowKit Mem Dft Ntt
set_option linter.unusedVariables false


theorem cv_congr (x y : Nat → Nat) (b : Nat) : ∀ a l, cv (fun i => toF (x i)) (fun i => toF (y i)) b a l = cv (fun i => toF (if i < a then x i else 0)) (fun i => toF (if i < b then y i else 0)) b a l := by
  intro a l
  have : ∀ c, c ≤ a → cv (fun i => toF (x i)) (fun i => toF (y i)) b c l = cv (fun i => toF (if i < a then x i else 0)) (fun i => toF (if i < b then y i else 0)) b c l := by
    intro c
    induction c with
    | zero => intro _; rfl
    | succ c ih =>
      intro hc
      rw [cv, cv, ih (by omega)]
      congr 1
      by_cases h : c ≤ l ∧ l < c + b
      · rw [if_pos h, if_pos h]
        show toF (x c) * toF (y (l - c)) = toF (if c < a then x c else 0) * toF (if l - c < b then y (l - c) else 0)
        rw [if_pos (by omega), if_pos (by omega)]
      · rw [if_neg h, if_neg h]
  exact this a (Nat.le_refl _)

theorem convolve_over (a a' : Option Addr) (la lb ca cb : Nat) (w : World) (h : 512 < la ∨ 512 < lb) :
    Calls Tajg.prog 45 #[.slice a la ca, .slice a' lb cb] w fun e w' => e = .returned (.tuple #[.slice none 0 0, .bool false]) ∧ w' = w := by
  by_cases h0 : 512 < la
  · go_enter Tajg.func45, Tajg.ntmps45
    go_wp2_with fail
    go_ret2
    exact ⟨rfl, rfl⟩
  · have hlb : 512 < lb := by omega
    have hd : decide ((512 : Int) < (la : Int)) = false := by simp; omega
    go_enter Tajg.func45, Tajg.ntmps45
    go_wp2_with fail
    go_ret2
    exact ⟨rfl, rfl⟩

theorem convolve_nil (a a' : Option Addr) (la lb ca cb : Nat) (w : World) (h1 : la ≤ 512) (h2 : lb ≤ 512) (h : la = 0 ∨ lb = 0) :
    Calls Tajg.prog 45 #[.slice a la ca, .slice a' lb cb] w fun e w' => e = .returned (.tuple #[.slice none 0 0, .bool true]) ∧ w' = w := by
  have hd2 : decide ((512 : Int) < (lb : Int)) = false := by simp; omega
  by_cases h0 : la = 0
  · subst h0
    go_enter Tajg.func45, Tajg.ntmps45
    go_wp2_with fail
    go_ret2
    exact ⟨rfl, rfl⟩
  · have hlb : lb = 0 := by omega
    subst hlb
    have hd : decide ((512 : Int) < (la : Int)) = false := by simp; omega
    have hd3 : ((la : Int) == 0) = false := by rw [beq_eq_false_iff_ne]; omega
    go_enter Tajg.func45, Tajg.ntmps45
    go_wp2_with fail
    go_ret2
    exact ⟨rfl, rfl⟩

set_option maxRecDepth 100000 in
set_option maxHeartbeats 2000000 in
theorem convolve_any (b off b' off' la lb ca cb : Nat) (x y : Nat → Nat) (w : World) (h1 : 1 ≤ la) (h2 : 1 ≤ lb) (h3 : la ≤ 512) (h4 : lb ≤ 512) (hx : Rd .u8 w b off la x) (hy : Rd .u8 w b' off' lb y) (hxl : ∀ i, i < la → x i < 256) (hyl : ∀ i, i < lb → y i < 256) :
    Calls Tajg.prog 45 #[.slice (some ⟨b, off, none⟩) la ca, .slice (some ⟨b', off', none⟩) lb cb] w fun e w' =>
      ∃ B : Nat, e = .returned (.tuple #[.slice (some ⟨B, 0, none⟩) (la + lb - 1) (la + lb - 1), .bool true]) ∧ w.heap.size ≤ B ∧ Rd .i64 w' B 0 (la + lb - 1) (cvN x y lb la) ∧ Same w w' := by
  have hb := hx.lt (by omega)
  have hb' := hy.lt (by omega)
  generalize hm : la + lb - 1 = m at *
  have hml : (la : Int) + (lb : Int) - 1 = (m : Int) := by omega
  have HM : Hid (la + lb - 1 = m) := hm
  have hm3 : m ≤ 1023 := by omega
  have hma : la ≤ m := by omega
  have hmb : lb ≤ m := by omega
  clear hm
  have hd1 : ((la : Int) == 0) = false := by rw [beq_eq_false_iff_ne]; omega
  have hd2 : ((lb : Int) == 0) = false := by rw [beq_eq_false_iff_ne]; omega
  have hd3 : decide ((512 : Int) < (la : Int)) = false := by simp; omega
  have hd4 : decide ((512 : Int) < (lb : Int)) = false := by simp; omega
  go_enter Tajg.func45, Tajg.ntmps45
  go_wp2_with fail
  go_loop [7] (fun n => ∃ n' k : Nat, n = .int .i64 n' ∧ Hid (n' = 2 ^ k) ∧ 2 ≤ n' ∧ n' ≤ 1024 ∧ k ≤ 10) (fun n => 2048 - (intOf n).toNat)
  case atStart => exact ⟨2, 1, rfl, rfl, by omega, by omega, by omega⟩
  case round =>
    obtain ⟨n, k, rfl, HN, hn2, hn4, hk⟩ := hrel
    by_cases hlt : n < m
    · have hk9 : k ≤ 9 := by
        have := HN.out
        rcases Nat.lt_or_ge k 10 with h | h
        · omega
        · have : 2 ^ 10 ≤ 2 ^ k := Nat.pow_le_pow_right (by decide) h
          omega
      have h24 : n * 2 ≤ 1024 := by
        have := HN.out
        have : 2 ^ k ≤ 2 ^ 9 := Nat.pow_le_pow_right (by decide) hk9
        omega
      go_wp2_with fail
      go_round
      case rel => exact ⟨n * 2, k + 1, by go_num, by show n * 2 = 2 ^ (k + 1); rw [HN.out, Nat.pow_succ], by omega, by omega, by omega⟩
      case measure => simp [intOf]; omega
    · have hmn : m ≤ n := by omega
      clear hlt hd1 hd2 hd3 hd4 hml
      go_wp2_with fail
      refine (elems_any b off la ca n x _ (by omega) (by omega) h1 hx hxl).mono ?_
      rintro e w1 ⟨A, rfl, hA, hX1, hWX1, hs1⟩
      have hy1 := hy.same hs1
      have hA1 : A < w1.heap.size := hX1.lt (by omega)
      go_wp2_with fail
      refine (elems_any b' off' lb cb n y _ (by omega) (by omega) h2 hy1 hyl).mono ?_
      rintro e w2 ⟨D, rfl, hD, hY2, hWY2, hs2⟩
      have hX2 := hX1.same hs2
      have hWX2 := hWX1.kept hs2 hA1
      have hAD : A ≠ D := by omega
      have hS2 := hs1.trans hs2
      have hA2 : A < w2.heap.size := hX2.lt (by omega)
      have hD2 : D < w2.heap.size := hY2.lt (by omega)
      have hws := hs1.size
      clear hX1 hWX1 hy1 hx hy hs1 hs2
      have HXL : Hid (∀ i, i < n → (fun i => if i < la then x i else 0) i < 998244353) := by
        show _
        intro i _
        show (if i < la then x i else 0) < _
        split
        · rename_i h; have := hxl i h; omega
        · omega
      have HYL : Hid (∀ i, i < n → (fun i => if i < lb then y i else 0) i < 998244353) := by
        show _
        intro i _
        show (if i < lb then y i else 0) < _
        split
        · rename_i h; have := hyl i h; omega
        · omega
      have HXL2 : Hid (∀ i, i < la → x i < 256) := hxl
      have HYL2 : Hid (∀ i, i < lb → y i < 256) := hyl
      clear hxl hyl
      go_wp2_with fail
      refine (forward_any A 0 k n n _ _ (by omega) HN.out (Nat.le_refl _) hX2 hWX2 HXL.out).mono ?_
      rintro e w3 ⟨rfl, u, hu3, hu, hc3⟩
      have HU : Hid (∀ j, j < n → u j < 998244353 ∧ toF (u j) = dft (toF (root k)) (fun i => toF (if i < la then x i else 0)) n j) := hu
      have hY3 := hY2.kept hc3 (fun i hi => by omega)
      have hWY3 := hWY2.kept hc3 hD2
      have hWU3 := hWX2.kept hc3 hA2
      have hS3 : Same w w3 := hS2.trans_new hc3 (fun q o hq h => by omega)
      have hA3 : A < w3.heap.size := hu3.lt (by omega)
      have hD3 : D < w3.heap.size := hY3.lt (by omega)
      clear hX2 hWX2 hY2 hWY2 hu hc3 hS2 HXL hA2 hD2
      go_wp2_with fail
      refine (forward_any D 0 k n n _ _ (by omega) HN.out (Nat.le_refl _) hY3 hWY3 HYL.out).mono ?_
      rintro e w4 ⟨rfl, v, hv4, hv, hc4⟩
      have HV : Hid (∀ j, j < n → v j < 998244353 ∧ toF (v j) = dft (toF (root k)) (fun i => toF (if i < lb then y i else 0)) n j) := hv
      have hu4 := hu3.kept hc4 (fun i hi => by omega)
      have hWU4 := hWU3.kept hc4 hA3
      have hS4 : Same w w4 := hS3.trans_new hc4 (fun q o hq h => by omega)
      have hA4 : A < w4.heap.size := hu4.lt (by omega)
      clear hY3 hWY3 hu3 hWU3 hv hc4 hS3 HYL hA3 hD3
      go_wp2_with fail
      go_loopw [10] (fun i wr => ∃ i' : Nat, i' ≤ n ∧ i = .int .i64 i' ∧ Rd .u32 wr A 0 n (mix i' (fun j => u j * v j % 998244353) u) ∧ Wr wr A 0 n ∧ Rd .u32 wr D 0 n v ∧ Same w wr) (fun i _ => n - (intOf i).toNat)
      case atStart => exact ⟨0, Nat.zero_le _, rfl, hu4.start _, hWU4, hv4, hS4⟩
      case round =>
        clear hu4 hWU4 hv4 hS4 hA4
        obtain ⟨i, hi, rfl, hR, hW, hv, hS⟩ := hrel
        by_cases hlt : i < n
        · have ci := hR.at hlt
          have di := hv i hlt
          have fi := hW i hlt
          rw [Nat.zero_add] at ci di fi
          have b1 : 0 ≤ ((u i : Nat) : Int) := by omega
          have b2 : ((u i : Nat) : Int) < 998244353 := by have := (HU.out i hlt).1; omega
          have b3 : 0 ≤ ((v i : Nat) : Int) := by omega
          have b4 : ((v i : Nat) : Int) < 998244353 := by have := (HV.out i hlt).1; omega
          have HE : Hid (((u i : Nat) : Int) % 998244353 * (((v i : Nat) : Int) % 998244353) % 998244353 = ((u i * v i % 998244353 : Nat) : Int)) := by
            show _ = _
            rw [← Int.mul_emod]; simp
          generalize ((u i : Nat) : Int) = U at *
          generalize ((v i : Nat) : Int) = V at *
          go_wp2_with fail
          refine Text.wp_text (by kernel_rfl) (by kernel_rfl) ⟨fun c a w h => (by obtain ⟨_, _, h, _⟩ := h; cases h), fun a w h => (by obtain ⟨_, h, _⟩ := h; cases h)⟩ ?_
          intro K hK
          go_wp2_with fail
          refine (Field.mulMod_any U V _ (by omega) (by omega) (by omega) (by omega)).mono ?_
          rintro e w5 ⟨rfl, rfl⟩
          rw [HE.out]
          go_wp2_with fail
          refine hK _ _ (by rfl) ?_
          go_wp2_with fail
          go_roundw
          case rel =>
            refine ⟨i + 1, by omega, by go_num, ?_, hW.drew.setCell _ _, hv.drew.setOther (by omega), hS.drew.setCell _ _ _ (by omega)⟩
            have := hR.drew.step hlt _ rfl
            rw [Nat.zero_add] at this
            exact this
          case measure => simp [intOf]; omega
        · have hP := hR.done (show n ≤ i by omega)
          have hAr := hP.lt (by omega)
          have hwsr := hS.size
          clear hR hv
          go_wp2_with fail
          refine (inverse_any A 0 k n n _ _ (by omega) HN.out (Nat.le_refl _) hP hW (fun i _ => Nat.mod_lt _ (by decide))).mono ?_
          rintro e w5 ⟨rfl, r, hr5, hr, hc5⟩
          have hS5 : Same w w5 := hS.trans_new hc5 (fun q o hq h => by omega)
          have HR : Hid (∀ j, j < m → r j = cvN x y lb la j) := by
            show _
            intro j hj
            have hjn : j < n := by omega
            have hle := cvN_le x y lb 255 255 la j (fun j hj => by have := HXL2.out j hj; omega) (fun j hj => by have := HYL2.out j hj; omega)
            have hle2 : la * (255 * 255) ≤ 512 * (255 * 255) := Nat.mul_le_mul_right _ h3
            refine toF_inj (hr j hjn).1 (by omega) ?_
            rw [(hr j hjn).2]
            have e1 : dft (toF (inv (root k))) (fun i => toF (u i * v i % 998244353)) n j = dft (toF (inv (root k))) (dft (toF (root k)) (cv (fun i => toF (if i < la then x i else 0)) (fun i => toF (if i < lb then y i else 0)) lb la) n) n j := by
              refine dft_congr _ _ _ _ _ fun i hi => ?_
              rw [toF_mod, toF_mul, (HU.out i hi).2, (HV.out i hi).2]
              exact dft_mul _ _ _ la lb n i (by have := HM.out; omega) (by omega) (by omega) (fun l hl => by show toF (if l < la then x l else 0) = 0; rw [if_neg (by omega)]; rfl) (fun l hl => by show toF (if l < lb then y l else 0) = 0; rw [if_neg (by omega)]; rfl)
            rw [e1, HN.out, dft_back k (toF (root k)) (toF (inv (root k))) (inv_toF _ (root_pos k (by omega)) (root_lt k)) (root_neg k (by omega)) _ j (by rw [← HN.out]; exact hjn), ← HN.out]
            have h1 := inv_toF n (by omega) (by omega)
            rw [cvN_toF, cv_congr x y lb la]
            grind
          clear hP hr hc5 hS HU HV
          go_wp2_with (at_make; refine wpList_mk m .i64 2 8 _ _ (by rfl) (by rfl) rfl rfl Tajg.underlying66 info2 (by omega) (by omega) ?_; intro B w6 hB1 hB2 hR hW hS)
          have hr6 := hr5.same hS
          have hS6 := hS5.trans hS
          have hAB : A < B := Nat.lt_of_lt_of_le (hr5.lt (by omega)) hB1
          have hwB : w.heap.size ≤ B := by omega
          clear hr5 hS5 hS
          go_loopw [12] (fun i wr => ∃ i' : Nat, i' ≤ m ∧ i = .int .i64 i' ∧ Rd .i64 wr B 0 m (mix i' (cvN x y lb la) (fun _ => 0)) ∧ Wr wr B 0 m ∧ Rd .u32 wr A 0 n r ∧ Same w wr) (fun i _ => m - (intOf i).toNat)
          case atStart => exact ⟨0, Nat.zero_le _, rfl, hR.start _, hW, hr6, hS6⟩
          case round =>
            clear hR hW hr6 hS6
            obtain ⟨i, hi, rfl, hR, hW, hr, hS⟩ := hrel
            by_cases hlt : i < m
            · have ci := hR.at hlt
              have di := hr i (by omega)
              have fi := hW i hlt
              rw [Nat.zero_add] at ci di fi
              rw [HR.out i hlt] at di
              have hle := cvN_le x y lb 255 255 la i (fun j hj => by have := HXL2.out j hj; omega) (fun j hj => by have := HYL2.out j hj; omega)
              have hle2 : la * (255 * 255) ≤ 512 * (255 * 255) := Nat.mul_le_mul_right _ h3
              have b1 : 0 ≤ ((cvN x y lb la i : Nat) : Int) := by omega
              have b2 : ((cvN x y lb la i : Nat) : Int) ≤ 33292800 := by omega
              clear hle hle2
              have HST : Hid (Rd .i64 (wr.setCell ⟨B, i, none⟩ (.int .i64 ((cvN x y lb la i : Nat) : Int))) B 0 m (mix (i + 1) (cvN x y lb la) (fun _ => 0))) := by
                have := hR.step hlt _ rfl
                rw [Nat.zero_add] at this
                exact this
              generalize ((cvN x y lb la i : Nat) : Int) = U at *
              go_wp2_with fail
              go_roundw
              case rel => exact ⟨i + 1, by omega, by go_num, HST.out, hW.setCell _ _, hr.setOther (by omega), hS.setCell _ _ _ (by omega)⟩
              case measure => simp [intOf]; omega
            · have hP := hR.done (show m ≤ i by omega)
              clear hR hr
              go_wp2_with fail
              go_ret2
              exact ⟨B, rfl, hwB, hP, hS⟩
end Go.Proofs.Ygctaj.nTTConvExact
