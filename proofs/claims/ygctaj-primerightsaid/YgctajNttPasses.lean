import Derived.Test.YgctajNttFac
import Derived.Test.YgctajNttRev
import Derived.Test.YgctajPass
namespace Go.Proofs.Ygctaj.Ntt
open Go.RowKit Mem Dft
set_option linter.unusedVariables false

/-- what passes may turn: the vector, and the block of the powers. -/
def mayP (b off n B : Nat) : Nat → Nat → Prop := fun k o => (k = b ∧ off ≤ o ∧ o < off + n) ∨ k = B

theorem wrap64_pow (s : Nat) (h : s ≤ 60) : wrap64 ((2 : Int) ^ s) = ((2 ^ s : Nat) : Int) := by
  have h2 : 2 ^ s ≤ 2 ^ 60 := Nat.pow_le_pow_right (by decide) h
  have e : ((2 : Int) ^ s) = ((2 ^ s : Nat) : Int) := by simp
  rw [e, IntWalk.wrap64_in]
  generalize 2 ^ s = z at *
  omega

theorem stp_low (H s i : Nat) (f y : Nat → Nat) (M : Nat) (hs : s = M * (2 * H)) (hi : i < H) : stp H f y (s + i) = bfLow (fun i => y (s + i)) (fun i => y (s + H + i)) f i := by
  have e : (s + i) % (2 * H) = i := by rw [hs, Nat.mul_add_mod_self_right, Nat.mod_eq_of_lt (by omega)]
  unfold stp bfLow
  rw [e, if_pos hi]
  have e2 : s + i + H = s + H + i := by omega
  rw [e2]

theorem stp_high (H s i : Nat) (f y : Nat → Nat) (M : Nat) (hs : s = M * (2 * H)) (hi : i < H) : stp H f y (s + H + i) = bfHigh (fun i => y (s + i)) (fun i => y (s + H + i)) f i := by
  have e : (s + H + i) % (2 * H) = H + i := by rw [hs, Nat.add_assoc, Nat.mul_add_mod_self_right, Nat.mod_eq_of_lt (by omega)]
  unfold stp bfHigh
  rw [e, if_neg (by omega)]
  have e2 : s + H + i - H = s + i := by omega
  have e3 : H + i - H = i := by omega
  rw [e2, e3]

/-- one block more of a pass. -/
theorem blk_join {w w' : World} {b off n s H M : Nat} {y f : Nat → Nat} (hs : s = M * (2 * H)) (h0 : Rd .u32 w b off n (mix s (stp H f y) y))
    (h1 : Rd .u32 w' b (off + s) H (bfLow (fun i => y (s + i)) (fun i => y (s + H + i)) f)) (h2 : Rd .u32 w' b (off + (s + H)) H (bfHigh (fun i => y (s + i)) (fun i => y (s + H + i)) f))
    (hc : Chg (fun k o => k = b ∧ (off + s ≤ o ∧ o < off + s + H ∨ off + (s + H) ≤ o ∧ o < off + (s + H) + H)) w w') : Rd .u32 w' b off n (mix (s + 2 * H) (stp H f y) y) := by
  intro i hi
  by_cases a1 : i < s
  · have := cellK hc (h0 i hi) (by omega)
    rw [mix_lt _ _ a1] at this
    rw [mix_lt _ _ (by omega)]; exact this
  · by_cases a2 : i < s + H
    · obtain ⟨j, rfl⟩ := Nat.exists_eq_add_of_le (Nat.le_of_not_lt a1)
      rw [mix_lt _ _ (by omega), stp_low H s j f y M hs (by omega), ← Nat.add_assoc]
      exact h1 j (by omega)
    · by_cases a3 : i < s + 2 * H
      · obtain ⟨j, rfl⟩ := Nat.exists_eq_add_of_le (Nat.le_of_not_lt a2)
        rw [mix_lt _ _ (by omega), stp_high H s j f y M hs (by omega), ← Nat.add_assoc]
        exact h2 j (by omega)
      · have := cellK hc (h0 i hi) (by omega)
        rw [mix_ge _ _ (by omega)] at this
        rw [mix_ge _ _ (by omega)]; exact this

set_option maxRecDepth 100000 in
set_option maxHeartbeats 2000000 in
theorem passes_any (b off k n cap B offt offr T ct cr w0 : Nat) (x : Nat → Nat) (w : World) (hn : n = 2 ^ k) (hcap : n ≤ cap) (hk : 1 ≤ k) (hk2 : k ≤ 40) (hT : n / 2 ≤ T) (hct : T ≤ ct) (hcr : T ≤ cr) (hdis : offt + 2 * T ≤ offr) (hB : B ≠ b) (hBs : B < w.heap.size)
    (hT2 : T ≤ 1099511627776) (hw0 : w0 < 998244353) (hx : Rd .u32 w b off n x) (hwx : Wr w b off n) (hxl : ∀ i, i < n → x i < 998244353) (ht : Has w B offt (2 * (n / 2))) (hr : Has w B offr (2 * (n / 2)))
    (hW : pwF (toF w0) (2 ^ (k - 1)) = -1) :
    Calls Tajg.prog 112 #[.slice (some ⟨b, off, none⟩) n cap, .int .i64 (k : Int), .int .u32 (w0 : Int), .slice (some ⟨B, offt, none⟩) T ct, .slice (some ⟨B, offr, none⟩) T cr] w fun e w' =>
      e = .returned (.tuple #[]) ∧ ∃ y : Nat → Nat, Rd .u32 w' b off n y ∧ (∀ j, j < n → y j < 998244353 ∧ toF (y j) = dft (toF w0) (fun i => toF (x i)) n j) ∧ Chg (mayP b off n B) w w' := by
  have hnk : n ≤ 1099511627776 := by have h40 : 2 ^ k ≤ 2 ^ 40 := Nat.pow_le_pow_right (by decide) hk2; omega
  have hpk := pow_pred k hk
  have HE : Hid (n = 2 * (n / 2)) := by show n = _; omega
  have hpos : 0 < n := by rw [hn]; exact Nat.two_pow_pos k
  have hb := hx.lt hpos
  have HN : Hid (n = 2 ^ k) := hn
  have HN2 : Hid (n / 2 = 2 ^ (k - 1)) := by show n / 2 = _; omega
  have HW : Hid (pwF (toF w0) (2 ^ (k - 1)) = -1) := hW
  have HS := Lv_start k (toF w0) x (by rw [← HN.out]; exact hxl)
  have HL1 := Lv_first k (toF w0) _ _ hk hW (fun i hi => hxl _ (by rw [HN.out]; exact rev_lt k i)) HS
  have HL : Hid (Lv k (toF w0) (fun i => toF (x i)) 1 (fp1 fun i => x (rev k i))) := HL1
  have HZ : Hid (∀ i, i < n → x (rev k i) < 998244353) := fun i hi => hxl _ (by rw [HN.out]; exact rev_lt k i)
  clear hn hW HS HL1 hpk
  go_enter Tajg.func112, Tajg.ntmps112
  go_wp2_with fail
  refine (reverse_any b off k n cap x w HN.out hnk hx hwx).mono ?_
  rintro e w1 ⟨rfl, hz, hc1⟩
  have hc1' : Chg (mayP b off n B) w w1 := hc1.mono fun _ _ _ h => .inl h
  have ht1 : Has w1 B offt (2 * (n / 2)) := by
    intro i hi
    obtain ⟨⟨v, hv⟩, hf⟩ := ht i hi
    exact ⟨⟨v, cellK hc1 hv (by intro h; exact hB h.1)⟩, frozenK hc1 hv hf⟩
  have hr1 : Has w1 B offr (2 * (n / 2)) := by
    intro i hi
    obtain ⟨⟨v, hv⟩, hf⟩ := hr i hi
    exact ⟨⟨v, cellK hc1 hv (by intro h; exact hB h.1)⟩, frozenK hc1 hv hf⟩
  clear hx ht hr hxl hc1
  generalize hzz : (fun i => x (rev k i)) = z at *
  have HZ2 : Hid (∀ i, i < n → z i < 998244353) := by rw [← hzz]; exact HZ.out
  clear hzz HZ
  go_wp2_with fail
  go_loopw [10] (fun p wr => ∃ a : Nat, 2 * a ≤ n ∧ p = .int .i64 ((2 * a : Nat) : Int) ∧ Rd .u32 wr b off n (mix (2 * a) (fp1 z) z) ∧ Has wr B offt (2 * (n / 2)) ∧ Has wr B offr (2 * (n / 2)) ∧ Chg (mayP b off n B) w wr)
    (fun p _ => n - (intOf p).toNat)
  case atStart => exact ⟨0, by omega, rfl, hz.start _, ht1, hr1, hc1'⟩
  case round =>
    clear hz ht1 hr1 hc1'
    obtain ⟨a, ha, rfl, h1, ht1, hr1, hc⟩ := hrel
    by_cases hlt : 2 * a < n
    · have hlt2 : 2 * a + 1 < n := by have := HE.out; omega
      have c1 := h1.at hlt
      have c2 := h1 (2 * a + 1) hlt2
      rw [mix_ge _ _ (by omega)] at c2
      have hwr := hwx.kept hc hb
      have f1 := hwr _ hlt
      have f2 := hwr _ hlt2
      have hU := HZ2.out _ hlt
      have hV := HZ2.out _ hlt2
      have e1 : fp1 z (2 * a) = z (2 * a) + z (2 * a + 1) := by rw [fp1, if_pos (by omega)]
      have e2 : fp1 z (2 * a + 1) = z (2 * a) + 998244353 - z (2 * a + 1) := by rw [fp1, if_neg (by omega)]; rfl
      have bU : ((z (2 * a) : Nat) : Int) < 998244353 := by omega
      have bV : ((z (2 * a + 1) : Nat) : Int) < 998244353 := by omega
      have bU0 : 0 ≤ ((z (2 * a) : Nat) : Int) := by omega
      have bV0 : 0 ≤ ((z (2 * a + 1) : Nat) : Int) := by omega
      have E1 : Hid (((z (2 * a) : Nat) : Int) + ((z (2 * a + 1) : Nat) : Int) = ((fp1 z (2 * a) : Nat) : Int)) := by show _ = _; omega
      have E2 : Hid (((z (2 * a) : Nat) : Int) + 998244353 - ((z (2 * a + 1) : Nat) : Int) = ((fp1 z (2 * a + 1) : Nat) : Int)) := by show _ = _; omega
      clear hU hV e1 e2
      generalize ((z (2 * a) : Nat) : Int) = U at *
      generalize ((z (2 * a + 1) : Nat) : Int) = V at *
      go_wp2_with fail
      refine Text.wp_text (by kernel_rfl) (by kernel_rfl) ⟨fun c a w h => by exact absurd h.2.1 (by simp), fun a w h => by exact absurd h.1 (by simp)⟩ ?_
      intro K hK
      go_wp2_with fail
      refine hK _ _ (by rfl) ?_
      go_wp2_with fail
      go_roundw
      case rel =>
        refine ⟨a + 1, by omega, by go_num, ?_, ((ht1.drew.setCell _ _).setCell _ _), ((hr1.drew.setCell _ _).setCell _ _), (hc.drew.setCell _ _ _ (fun _ => .inl (by omega))).setCell _ _ _ (fun _ => .inl (by omega))⟩
        rw [show 2 * (a + 1) = 2 * a + 1 + 1 from by omega]
        exact (h1.drew.step hlt _ E1.out).step hlt2 _ E2.out
      case measure => simp [intOf]; omega
    · have e2a : 2 * a = n := by omega
      have h2 := h1.done (by omega)
      have h2b : 0 < n / 2 := by have := HE.out; omega
      have hpw : n / 2 = 2 ^ (k - 1) := HN2.out
      have HPW : Hid (n / 2 = 2 ^ (k - 1)) := hpw
      rw [e2a]
      clear h1 hpw
      have hfc := fun w hh => factors_any B offt (k - 1) (n / 2) ct w0 w HPW.out (by omega) hw0 hh
      have HFC : Hid (∀ w, Has w B offt (2 * (n / 2)) → Calls Tajg.prog 127 #[.slice (some ⟨B, offt, none⟩) (n / 2) ct, .int .u32 (w0 : Int)] w fun e w' =>
        e = .returned (.tuple #[]) ∧ FacRd w' B offt (n / 2) (Field.pw w0) ∧ Has w' B offt (2 * (n / 2)) ∧ Chg (fun k o => k = B ∧ offt ≤ o ∧ o < offt + 2 * (n / 2)) w w') := hfc
      clear hfc
      go_wp2_with fail
      refine (HFC.out _ ht1).mono ?_
      rintro e w2 ⟨rfl, hft, hht, hc2⟩
      have hx2 : Rd .u32 w2 b off n (fp1 z) := h2.kept hc2 (fun i hi h => hB h.1.symm)
      have hr2 : Has w2 B offr (2 * (n / 2)) := by
        intro i hi
        obtain ⟨⟨v, hv⟩, hf⟩ := hr1 i hi
        exact ⟨⟨v, cellK hc2 hv (by omega)⟩, frozenK hc2 hv hf⟩
      have hcc : Chg (mayP b off n B) w w2 := hc.trans (hc2.mono fun _ _ _ h => .inr h.1)
      clear h2 hht hc2 ht1 hr1 hc
      go_wp2_with fail
      go_loopw [13] (fun t wr => ∃ tt t1 : Nat, t1 = tt + 1 ∧ 1 ≤ tt ∧ tt ≤ k ∧ t = .int .i64 ((t1 : Nat) : Int) ∧ ∃ y : Nat → Nat, Rd .u32 wr b off n y ∧ Lv k (toF w0) (fun i => toF (x i)) tt y ∧ FacRd wr B offt (n / 2) (Field.pw w0) ∧ Has wr B offr (2 * (n / 2)) ∧ Chg (mayP b off n B) w wr)
        (fun t _ => 100 - (intOf t).toNat)
      case atStart => exact ⟨1, 2, rfl, Nat.le_refl _, hk, rfl, _, hx2, HL.out, hft, hr2, hcc⟩
      case round =>
        clear hx2 hft hr2 hcc
        obtain ⟨tt, t1, ht1, htt, httk, rfl, y, hy, hlv, hft, hr2, hc⟩ := hrel
        have HT1 : Hid (t1 = tt + 1) := ht1
        have ht1a : 2 ≤ t1 := by omega
        have ht1b : tt < k → t1 ≤ k := by omega
        have ht1c : t1 ≤ 41 := by omega
        have ht1d : ¬ tt < k → k < t1 := by omega
        clear ht1
        by_cases hlt : tt < k
        · have ht1e := ht1b hlt
          clear ht1b ht1d
          go_wp2_with fail
          refine Text.wp_text (by kernel_rfl) (by kernel_rfl) ⟨fun c a w h => by exact absurd h.2.1 (by simp), fun a w h => by exact absurd h.1 (by simp)⟩ ?_
          intro K hK
          go_wp2_with fail
          refine hK _ _ (by rfl) ?_
          go_wp2_with fail
          have hn2 : n = 2 ^ tt * 2 * 2 ^ (k - (tt + 1)) := by
            rw [HN.out, ← Nat.pow_succ, ← Nat.pow_add]; congr 1; omega
          have hstep := Lv_step k (toF w0) (fun i => toF (x i)) w0 tt (fun i => Field.pw w0 (i * 2 ^ (k - (tt + 1)))) y rfl hlt HW.out (fun j _ => rfl) hlv
          have HST : Hid (Lv k (toF w0) (fun i => toF (x i)) (tt + 1) (stp (2 ^ tt) (fun i => Field.pw w0 (i * 2 ^ (k - (tt + 1)))) y)) := hstep
          have hyl : ∀ i, i < n → y i < 3992977412 := fun i hi => hlv.lt i (by rw [← HN.out]; exact hi)
          have HYL : Hid (∀ i, i < n → y i < 3992977412) := hyl
          have hH0 : 0 < 2 ^ tt := Nat.two_pow_pos tt
          have hS0 : 0 < 2 ^ (k - (tt + 1)) := Nat.two_pow_pos _
          rw [wrap64_pow (t1 - 1) (by omega), wrap64_pow (k - t1) (by omega), show t1 - 1 = tt from by have := HT1.out; omega, show k - t1 = k - (tt + 1) from by rw [HT1.out]]
          clear hlv hstep hyl
          generalize 2 ^ tt = H at *
          generalize 2 ^ (k - (tt + 1)) = S at *
          have hHS : n / 2 = H * S := by rw [hn2, Nat.mul_right_comm, Nat.mul_div_cancel _ (by decide)]
          have hHle : H ≤ n / 2 := by rw [hHS]; exact Nat.le_mul_of_pos_right H hS0
          have HHS : Hid (n / 2 = H * S ∧ n = H * 2 * S) := ⟨hHS, hn2⟩
          clear hHS hn2
          go_loopw [16] (fun j wr => ∃ j' : Nat, j' ≤ H ∧ j = .int .i64 j' ∧ FacRd wr B offr j' (fun i => Field.pw w0 (i * S)) ∧ Rd .u32 wr b off n y ∧ FacRd wr B offt (n / 2) (Field.pw w0) ∧ Has wr B offr (2 * (n / 2)) ∧ Chg (mayP b off n B) w wr)
            (fun j _ => H - (intOf j).toNat)
          case atStart => exact ⟨0, Nat.zero_le _, rfl, fun i hi => by omega, hy, hft, hr2, hc.drew⟩
          case round =>
            clear hy hft hr2 hc
            obtain ⟨j, hj, rfl, hrt, hy, hft, hr2, hc⟩ := hrel
            by_cases hjl : j < H
            · have hjS : j * S < n / 2 := by rw [HHS.out.1]; exact Nat.mul_lt_mul_of_pos_right hjl hS0
              have cj := hft (j * S) hjS
              have cj1 := cj.1
              have cj2 := cj.2
              obtain ⟨⟨u0, hu0⟩, fu0⟩ := hr2 (j * 2) (by omega)
              obtain ⟨⟨u1, hu1⟩, fu1⟩ := hr2 (j * 2 + 1) (by omega)
              rw [← Nat.add_assoc] at hu1 fu1
              have hjT : (j : Int) * (S : Int) < (T : Int) := by rw [← Int.natCast_mul]; omega
              have hjT0 : 0 ≤ (j : Int) * (S : Int) := by rw [← Int.natCast_mul]; omega
              generalize hFF : ((Field.pw w0 (j * S) : Nat) : Int) = FF at *
              generalize hRR : ((Field.pw w0 (j * S) * 4294967296 / 998244353 : Nat) : Int) = RR at *
              have HFR : Hid (FF = ((Field.pw w0 (j * S) : Nat) : Int) ∧ RR = ((Field.pw w0 (j * S) * 4294967296 / 998244353 : Nat) : Int)) := ⟨hFF.symm, hRR.symm⟩
              clear hFF hRR cj
              go_wp2_with fail
              go_roundw
              case rel =>
                refine ⟨j + 1, by omega, by go_num, hrt.step hu0 hu1 FF RR HFR.out.1 HFR.out.2, (hy.setOther (fun e => absurd e hB)).setOther (fun e => absurd e hB), ?_, (hr2.setCell _ _).setCell _ _, (hc.setCell _ _ _ (fun _ => .inr rfl)).setCell _ _ _ (fun _ => .inr rfl)⟩
                intro i hi
                have h3 := hft i hi
                refine ⟨?_, ?_⟩
                · rw [World.cell?_setCell_other _ _ _ _ (by intro e'; injection e' with _ e2; omega), World.cell?_setCell_other _ _ _ _ (by intro e'; injection e' with _ e2; omega)]; exact h3.1
                · rw [World.cell?_setCell_other _ _ _ _ (by intro e'; injection e' with _ e2; omega), World.cell?_setCell_other _ _ _ _ (by intro e'; injection e' with _ e2; omega)]; exact h3.2
              case measure => simp [intOf]; omega
            · have ejH : j = H := by omega
              subst ejH
              go_wp2_with fail
              go_loopw [17] (fun s wr => ∃ M s' : Nat, s' = M * (2 * j) ∧ s' ≤ n ∧ s = .int .i64 s' ∧ Rd .u32 wr b off n (mix s' (stp j (fun i => Field.pw w0 (i * S)) y) y) ∧ FacRd wr B offr j (fun i => Field.pw w0 (i * S)) ∧ FacRd wr B offt (n / 2) (Field.pw w0) ∧ Has wr B offr (2 * (n / 2)) ∧ Chg (mayP b off n B) w wr)
                (fun s _ => n - (intOf s).toNat)
              case atStart => exact ⟨0, 0, by omega, Nat.zero_le _, rfl, hy.start _, hrt, hft, hr2, hc⟩
              case round =>
                clear hy hft hr2 hc hrt
                obtain ⟨M, s, hsM, hsn, rfl, hy, hrt, hft, hr2, hc⟩ := hrel
                have HSM : Hid (s = M * (2 * j)) := hsM
                have hMS : s < n → s + 2 * j ≤ n := by
                  intro h
                  have h3 := HHS.out.2
                  rw [h3, hsM] at h ⊢
                  have h4 : M * (2 * j) < S * (2 * j) := by rw [Nat.mul_comm S, Nat.mul_comm 2 j]; rw [Nat.mul_comm 2 j] at h; exact h
                  have h5 : M < S := Nat.lt_of_mul_lt_mul_right h4
                  have h6 : (M + 1) * (2 * j) ≤ S * (2 * j) := Nat.mul_le_mul_right _ h5
                  rw [Nat.add_mul, Nat.one_mul, Nat.mul_comm S, Nat.mul_comm 2 j] at h6
                  rw [Nat.mul_comm 2 j]; exact h6
                clear hsM
                by_cases hsl : s < n
                · have h2j := hMS hsl
                  clear hMS
                  have hwr := hwx.kept hc hb
                  have r1 : Rd .u32 wr b (off + s) j (fun i => y (s + i)) := (hy.sub s j (by omega)).congr (fun i _ => mix_ge _ _ (by omega))
                  have r2 : Rd .u32 wr b (off + (s + j)) j (fun i => y (s + j + i)) := (hy.sub (s + j) j (by omega)).congr (fun i _ => mix_ge _ _ (by omega))
                  have hbk := fun w h1 h2 h3 h4 h5 => block_any b (off + s) (off + (s + j)) B offr j j j j (fun i => y (s + i)) (fun i => y (s + j + i)) (fun i => Field.pw w0 (i * S)) w (by omega) h1 h2 h3 (by omega) hB h4 h5
                    (fun i hi => HYL.out _ (by omega)) (fun i hi => HYL.out _ (by omega)) (fun i _ => Field.pw_lt _ _)
                  have HBK : Hid (∀ w, Rd .u32 w b (off + s) j (fun i => y (s + i)) → Rd .u32 w b (off + (s + j)) j (fun i => y (s + j + i)) → FacRd w B offr j (fun i => Field.pw w0 (i * S)) → Wr w b (off + s) j → Wr w b (off + (s + j)) j → Calls Tajg.prog 128 #[.slice (some ⟨b, off + s, none⟩) j j, .slice (some ⟨b, off + (s + j), none⟩) j j, .slice (some ⟨B, offr, none⟩) j j] w fun e w' =>
                    e = .returned (.tuple #[]) ∧ Rd .u32 w' b (off + s) j (bfLow (fun i => y (s + i)) (fun i => y (s + j + i)) (fun i => Field.pw w0 (i * S))) ∧ Rd .u32 w' b (off + (s + j)) j (bfHigh (fun i => y (s + i)) (fun i => y (s + j + i)) (fun i => Field.pw w0 (i * S))) ∧ Chg (fun k o => k = b ∧ (off + s ≤ o ∧ o < off + s + j ∨ off + (s + j) ≤ o ∧ o < off + (s + j) + j)) w w') := hbk
                  clear hbk
                  go_wp2_with fail
                  refine Text.wp_text (by kernel_rfl) (by kernel_rfl) ⟨fun c a w h => by exact absurd h.2.1 (by simp), fun a w h => by exact absurd h.1 (by simp)⟩ ?_
                  intro K hK
                  go_wp2_with fail
                  rw [show s + 2 * j - (s + j) = j from by omega]
                  refine (HBK.out _ r1.drew r2.drew hrt.drew (hwr.sub s j (by omega)).drew (hwr.sub (s + j) j (by omega)).drew).mono ?_
                  rintro e w3 ⟨rfl, q1, q2, hc3⟩
                  go_wp2_with fail
                  refine hK _ _ (by rfl) ?_
                  go_wp2_with fail
                  go_roundw
                  case rel =>
                    refine ⟨M + 1, s + 2 * j, by rw [HSM.out, Nat.add_mul, Nat.one_mul], h2j, by go_num, blk_join HSM.out hy.drew q1 q2 hc3, hrt.drew.keptChg hc3 (fun i _ h => hB h.1), hft.drew.keptChg hc3 (fun i _ h => hB h.1), ?_, hc.drew.trans (hc3.mono fun k o _ h => .inl (by omega))⟩
                    intro i hi
                    obtain ⟨⟨v, hv⟩, hf⟩ := hr2.drew i hi
                    exact ⟨⟨v, cellK hc3 hv (fun h => hB h.1)⟩, frozenK hc3 hv hf⟩
                  case measure => simp [intOf]; omega
                · clear hMS
                  have hy2 := hy.done (by omega)
                  clear hy
                  have hds : decide ((s : Int) < (n : Int)) = false := by simp; omega
                  go_wp2_with fail
                  go_roundw
                  case rel => exact ⟨tt + 1, t1 + 1, by rw [HT1.out], by omega, by omega, by go_num, _, hy2, HST.out, hft, hr2, hc⟩
                  case measure => simp [intOf]; omega
        · have ht1e := ht1d hlt
          have ettk : tt = k := by omega
          subst ettk
          clear ht1b ht1d
          have hyl : ∀ i, i < n → y i < 3992977412 := fun i hi => hlv.lt i (by rw [← HN.out]; exact hi)
          have hend : ∀ j, j < n → fin (y j) < 998244353 ∧ toF (fin (y j)) = dft (toF w0) (fun i => toF (x i)) n j := fun j hj => by
            rw [HN.out]; exact Lv_end tt _ _ y hlv j (by rw [← HN.out]; exact hj)
          have HYL : Hid (∀ i, i < n → y i < 3992977412) := hyl
          have HEN : Hid (∀ j, j < n → fin (y j) < 998244353 ∧ toF (fin (y j)) = dft (toF w0) (fun i => toF (x i)) n j) := hend
          clear hyl hend hlv hft hr2
          go_wp2_with fail
          clear ht1a ht1c ht1e HT1 htt httk hlt
          generalize decide (t1 ≤ tt) = d61
          go_loopw [18] (fun i wr => ∃ i' : Nat, i' ≤ n ∧ i = .int .i64 i' ∧ Rd .u32 wr b off n (mix i' (fun a => fin (y a)) y) ∧ Chg (mayP b off n B) w wr) (fun i _ => n - (intOf i).toNat)
          case atStart => exact ⟨0, Nat.zero_le _, rfl, hy.start _, hc⟩
          case round =>
            clear hy hc
            obtain ⟨i, hi, rfl, hy, hc⟩ := hrel
            by_cases hil : i < n
            · have ci := hy.at hil
              have fi := (hwx.kept hc hb) i hil
              have bY : ((y i : Nat) : Int) < 3992977412 := by have := HYL.out i hil; omega
              have bY0 : 0 ≤ ((y i : Nat) : Int) := by omega
              by_cases h2p : ((y i : Nat) : Int) < 1996488706
              · have HFI : Hid (((y i : Nat) : Int) % 998244353 = ((fin (y i) : Nat) : Int)) := by
                  show _ = _; unfold fin; rw [low2, if_pos (by omega)]; rfl
                generalize ((y i : Nat) : Int) = Y at *
                go_wp2_with fail
                refine (fold_any _ _ bY0 h2p).mono ?_
                rintro e w3 ⟨rfl, rfl⟩
                rw [HFI.out]
                go_wp2_with fail
                go_roundw
                case rel => exact ⟨i + 1, by omega, by go_num, hy.step hil _ rfl, hc.setCell _ _ _ (fun _ => .inl (by omega))⟩
                case measure => simp [intOf]; omega
              · have HFI : Hid ((((y i : Nat) : Int) - 1996488706) % 998244353 = ((fin (y i) : Nat) : Int)) := by
                  show _ = _; unfold fin; rw [low2, if_neg (by omega)]; omega
                generalize ((y i : Nat) : Int) = Y at *
                go_wp2_with fail
                refine (fold_any _ _ (by omega) (by omega)).mono ?_
                rintro e w3 ⟨rfl, rfl⟩
                rw [HFI.out]
                go_wp2_with fail
                go_roundw
                case rel => exact ⟨i + 1, by omega, by go_num, hy.step hil _ rfl, hc.setCell _ _ _ (fun _ => .inl (by omega))⟩
                case measure => simp [intOf]; omega
            · go_wp2_with fail
              go_end0
              exact ⟨rfl, _, hy.done (by omega), HEN.out, hc⟩
end Go.Proofs.Ygctaj.Ntt
