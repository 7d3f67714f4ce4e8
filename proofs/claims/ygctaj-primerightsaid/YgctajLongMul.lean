/- mlong.MulLong, walked. -/
import Derived.Test.YgctajLongWide
namespace Go.Proofs.Ygctaj.Long
open Go.RowKit Mem Dft Ntt Nt
set_option linter.unusedVariables false

/-- behind the swap: both long enough for blocks. -/
theorem ceil_ok (la s cnt : Nat) (hs : 0 < s) (hc : (la + s - 1) / s = cnt) : la ≤ cnt * s ∧ (0 < la → 1 ≤ cnt) := by
  have h1 := Nat.div_add_mod (la + s - 1) s
  have h2 := Nat.mod_lt (la + s - 1) hs
  rw [hc, Nat.mul_comm] at h1
  refine ⟨by omega, fun h => ?_⟩
  rcases Nat.eq_zero_or_pos cnt with h0 | h0
  · rw [h0] at h1; omega
  · exact h0

set_option maxRecDepth 100000 in
set_option maxHeartbeats 2000000 in
theorem mulLong_any (u v : Value) (m n M N : Nat) (w : World) (hm : m ≤ 16384) (hn : n ≤ 16384) (hu : Na w u m M) (hv : Na w v n N) :
    Calls Tajg.prog 49 #[u, v] w fun e w' => ∃ v', e = .returned v' ∧ Nm w' v' (M * N) ∧ Fr w.heap.size w' v' ∧ Same w w' := by
  have hlM : dl M ≤ m := by obtain ⟨_, _, _, _, h, _⟩ := hu; exact dl_le _ _ h
  have hlN : dl N ≤ n := by obtain ⟨_, _, _, _, h, _⟩ := hv; exact dl_le _ _ h
  go_enter Tajg.func49, Tajg.ntmps49
  go_wp2_with fail
  refine (longStrip_any u m M w (by omega) hu).mono ?_
  rintro e w1 ⟨⟨u1, rfl, hu1, -⟩, rfl⟩
  go_wp2_with fail
  refine (longStrip_any v n N _ (by omega) hv).mono ?_
  rintro e w1 ⟨⟨v1, rfl, hv1, -⟩, rfl⟩
  clear hu hv
  obtain ⟨⟨a, ca, rfl, hx1, hx2, hx3⟩, hx4⟩ := hu1
  obtain ⟨⟨a', cb, rfl, hy1, hy2, hy3⟩, hy4⟩ := hv1
  have hcase : ∃ (P Q : Nat) (p q : Option Addr) (cp cq : Nat), Nm w1 (.slice p (dl P) cp) P ∧ Nm w1 (.slice q (dl Q) cq) Q ∧ dl Q ≤ dl P ∧ dl P ≤ 16384 ∧ Hid (P * Q = M * N) ∧
      (dl M < dl N ∧ dl P = dl N ∧ dl Q = dl M ∧ p = a' ∧ q = a ∧ cp = cb ∧ cq = ca ∨ dl N ≤ dl M ∧ dl P = dl M ∧ dl Q = dl N ∧ p = a ∧ q = a' ∧ cp = ca ∧ cq = cb) := by
    by_cases h : dl M < dl N
    · exact ⟨N, M, a', a, cb, ca, ⟨⟨_, _, rfl, hy1, hy2, hy3⟩, hy4⟩, ⟨⟨_, _, rfl, hx1, hx2, hx3⟩, hx4⟩, by omega, by omega, Nat.mul_comm _ _, .inl ⟨h, rfl, rfl, rfl, rfl, rfl, rfl⟩⟩
    · exact ⟨M, N, a, a', ca, cb, ⟨⟨_, _, rfl, hx1, hx2, hx3⟩, hx4⟩, ⟨⟨_, _, rfl, hy1, hy2, hy3⟩, hy4⟩, by omega, by omega, rfl, .inr ⟨by omega, rfl, rfl, rfl, rfl, rfl, rfl⟩⟩
  clear hx1 hx2 hx3 hx4 hy1 hy2 hy3 hy4
  obtain ⟨P, Q, p, q, cp, cq, hp, hq, hle, hlp, HPQ, hc⟩ := hcase
  have HMN : Hid (P * Q = M * N) := HPQ
  generalize hlP : dl P = lp at *
  generalize hlQ : dl Q = lq at *
  generalize dl M = lm at *
  generalize dl N = ln at *
  have HLP : Hid (dl P = lp) := hlP
  have HLQ : Hid (dl Q = lq) := hlQ
  clear hlP hlQ HPQ
  rcases hc with ⟨hlt, rfl, rfl, rfl, rfl, rfl, rfl⟩ | ⟨hlt, rfl, rfl, rfl, rfl, rfl, rfl⟩
  all_goals
    by_cases h192 : lq < 192
    · go_wp2_with fail
      have hp1 := hp.na
      have hq1 := hq.na
      refine (mul_any _ _ _ _ P Q _ (by rw [HLP.out]; omega) (by rw [HLQ.out]; omega) hp1 hq1).mono ?_
      rintro e w2 ⟨v', rfl, h1, h2, h3⟩
      clear hp hq hp1 hq1
      go_wp2_with fail
      go_ret
      exact ⟨_, rfl, by rw [← HMN.out]; exact h1, h2, h3⟩
    · obtain ⟨b, off, rfl, hrp, hcp⟩ : ∃ b off, p = some ⟨b, off, none⟩ ∧ Rd .u8 w1 b off lp (dg P) ∧ Cl w1 b := by
        obtain ⟨⟨x, c, e, _, _, h⟩, _⟩ := hp
        rw [HLP.out] at h
        injection e with e1 e2 e3
        rw [e1]; exact h (by omega)
      obtain ⟨b', off', rfl, hrq, hcq⟩ : ∃ b off, q = some ⟨b, off, none⟩ ∧ Rd .u8 w1 b off lq (dg Q) ∧ Cl w1 b := by
        obtain ⟨⟨x, c, e, _, _, h⟩, _⟩ := hq
        rw [HLQ.out] at h
        injection e with e1 e2 e3
        rw [e1]; exact h (by omega)
      have HP : Hid (P < 256 ^ lp) := by show _ < _; rw [← HLP.out]; exact lt_dl P
      have HQ : Hid (Q < 256 ^ lq) := by show _ < _; rw [← HLQ.out]; exact lt_dl Q
      clear hp hq
      go_wp2_with fail
      refine (wideLog_any lp lq _ hlp (by omega)).mono ?_
      rintro e w2 ⟨rfl, rfl⟩
      go_wp2_with fail
      go_loop [6] (fun s => ∃ s' k : Nat, s = .int .i64 s' ∧ Hid (s' = 2 ^ k) ∧ 1 ≤ s' ∧ s' ≤ 512 ∧ k ≤ 9) (fun s => 1024 - (intOf s).toNat)
      case atStart => exact ⟨1, 0, rfl, rfl, by omega, by omega, by omega⟩
      case round =>
        obtain ⟨s, k, rfl, HS, hs1, hs2, hk⟩ := hrel
        by_cases hgo : s < lq ∧ s < 512
        · have hk8 : k ≤ 8 := by
            have := HS.out
            rcases Nat.lt_or_ge k 9 with h | h
            · omega
            · have : 2 ^ 9 ≤ 2 ^ k := Nat.pow_le_pow_right (by decide) h
              omega
          have h2s : s * 2 ≤ 512 := by
            have := HS.out
            have : 2 ^ k ≤ 2 ^ 8 := Nat.pow_le_pow_right (by decide) hk8
            omega
          obtain ⟨hg1, hg2⟩ := hgo
          have d1 : decide ((s : Int) < (lq : Int)) = true := by simp; omega
          have d2 : decide ((s : Int) < 512) = true := by simp; omega
          clear hrp hrq hcp hcq
          go_wp2_with fail
          go_round
          case rel => exact ⟨s * 2, k + 1, by go_num, by show s * 2 = 2 ^ (k + 1); rw [HS.out, Nat.pow_succ], by omega, by omega, by omega⟩
          case measure => simp [intOf]; omega
        · have hs3 : 192 ≤ s := by omega
          have hdd : (decide (s < lq) = true ∧ (512 : Int) ≤ (s : Int)) ∨ decide (s < lq) = false := by
            by_cases h : s < lq
            · left; exact ⟨by simp; omega, by omega⟩
            · right; simp; omega
          obtain ⟨nx, hnx⟩ : ∃ nx, (lp + s - 1) / s = nx := ⟨_, rfl⟩
          obtain ⟨ny, hny⟩ : ∃ ny, (lq + s - 1) / s = ny := ⟨_, rfl⟩
          obtain ⟨x1, x2⟩ := ceil_ok lp s nx (by omega) hnx
          obtain ⟨y1, y2⟩ := ceil_ok lq s ny (by omega) hny
          have hx512 : nx ≤ 512 := by
            have h1 : nx * s ≤ lp + s - 1 := by rw [← hnx]; exact Nat.div_mul_le_self _ _
            have h2 : nx * 192 ≤ nx * s := Nat.mul_le_mul_left _ hs3
            omega
          have hy512 : ny ≤ 512 := by
            have h1 : ny * s ≤ lq + s - 1 := by rw [← hny]; exact Nat.div_mul_le_self _ _
            have h2 : ny * 192 ≤ ny * s := Nat.mul_le_mul_left _ hs3
            omega
          obtain ⟨n2, hn2⟩ : ∃ n2, n2 = 2 * s := ⟨_, rfl⟩
          have HN2 : Hid (n2 = 2 * s) := hn2
          have HNK : Hid (n2 = 2 ^ (k + 1)) := by show _ = _; rw [hn2, HS.out, Nat.pow_succ, Nat.mul_comm]
          have hn2l : n2 ≤ 1024 := by omega
          clear hn2
          obtain ⟨lx, hlx⟩ : ∃ lx, n2 * nx = lx := ⟨_, rfl⟩
          obtain ⟨ly, hly⟩ : ∃ ly, n2 * ny = ly := ⟨_, rfl⟩
          have hlxl : lx ≤ 524288 := by rw [← hlx]; exact Nat.mul_le_mul hn2l hx512
          have hlyl : ly ≤ 524288 := by rw [← hly]; exact Nat.mul_le_mul hn2l hy512
          obtain ⟨L, hL⟩ : ∃ L, (nx + ny) * s = L := ⟨_, rfl⟩
          have hLl : L ≤ 524288 := by rw [← hL]; exact Nat.mul_le_mul (show nx + ny ≤ 1024 by omega) hs2
          have HF : Hid (P < 256 ^ (nx * s) ∧ Q < 256 ^ (ny * s)) :=
            ⟨Nat.lt_of_lt_of_le HP.out (Nat.pow_le_pow_right (by decide) x1), Nat.lt_of_lt_of_le HQ.out (Nat.pow_le_pow_right (by decide) y1)⟩
          have HNX : Hid ((lp + s - 1) / s = nx) := hnx
          have HNY : Hid ((lq + s - 1) / s = ny) := hny
          have HLX : Hid (n2 * nx = lx) := hlx
          have HLY : Hid (n2 * ny = ly) := hly
          have HL : Hid ((nx + ny) * s = L) := hL
          have hx1 : 1 ≤ nx := x2 (by omega)
          have hy1 : 1 ≤ ny := y2 (by omega)
          clear hnx hny hlx hly hL x1 x2 y1 y2 hgo
          have hbp := hrp.lt (by omega)
          have hbq := hrq.lt (by omega)
          rcases hdd with ⟨d1, d2⟩ | d1
          all_goals
            go_wp2_with fail
            refine (blocks_any b off lp cp s n2 (k + 1) nx lx P _ (by omega) HNK.out (by omega) HN2.out (by omega) HNX.out HLX.out (by omega) HP.out hrp).mono ?_
            rintro e w2 ⟨Bx, X, rfl, hBx, hX, hTX, hs2⟩
            have HTX : Hid (∀ t, t < nx → Tr X P s n2 (k + 1) t) := hTX
            have hrp2 := hrp.same hs2
            have hrq2 := hrq.same hs2
            have hcp2 := hcp.kept hs2 hbp
            clear hTX hrp hrq hcp hcq
            go_wp2_with fail
            refine (sameMemory_any b off b' off' lp lq cp cq _ _ _ (by omega) (by omega) (by omega) (by omega) hrp2 hrq2 hcp2).mono ?_
            rintro e w3 ⟨rfl, hs3'⟩
            have hX3 := hX.same hs3'
            have hrq3 := hrq2.same hs3'
            have hS3 := hs2.trans hs3'
            have hws := hS3.size
            by_cases hsm : sm lp lq b b' off off' = true
            · have hsm2 : lp = lq ∧ b = b' ∧ off = off' := by simpa [sm] using hsm
              have HEQ : Hid (Q = P) := by
                show _ = _
                obtain ⟨e1, e2, e3⟩ := hsm2
                have hd : ∀ i, i < lq → dg Q i = dg P i := by
                  intro i hi
                  have c1 := hrp2 i (by omega)
                  have c2 := hrq2 i hi
                  rw [e2, e3] at c1
                  rw [c1] at c2
                  injection c2 with c2
                  injection c2 with _ c2
                  omega
                have q1 := val_dg Q lq
                have p1 := val_dg P lq
                rw [Nat.mod_eq_of_lt HQ.out] at q1
                rw [Nat.mod_eq_of_lt (by rw [← e1]; exact HP.out)] at p1
                rw [← q1, ← p1]; exact val_congr _ _ _ hd
              have HNN : Hid (ny = nx ∧ ly = lx) := by
                have h1 := HNX.out; have h2 := HNY.out; have h3 := HLX.out; have h4 := HLY.out
                rw [hsm2.1] at h1
                have e : ny = nx := by omega
                exact ⟨e, by rw [← h4, e, h3]⟩
              rw [hsm]
              clear hsm hsm2 hrp2 hrq2 hrq3 hcp2
              go_wp2_with fail
              refine (convolve_any Bx Bx s n2 (k + 1) nx nx lx lx L P P X X _ (by omega) HNK.out HN2.out (by omega) hx1 hx512 hx1 hx512 (by rw [Nat.mul_comm]; exact HLX.out) (by rw [Nat.mul_comm]; exact HLX.out) (by have := HL.out; rw [HNN.out.1] at this; exact this) HF.out.1 HF.out.1 hX3 hX3 HTX.out HTX.out).mono ?_
              rintro e w4 ⟨C, c, rfl, hc, hcl, hval, hs4⟩
              have HVAL : Hid (val c L = M * N) := by show _ = _; rw [hval, ← HMN.out, HEQ.out]
              clear hval hX3 hX
              go_wp2_with fail
              refine (carry_any C 0 L L c _ (by omega) hc hcl).mono ?_
              rintro e w5 ⟨v', rfl, hv', hf', hs5⟩
              have hz4 := hs4.size
              go_wp2_with fail
              go_ret
              exact ⟨_, rfl, by rw [← HVAL.out]; exact hv', hf'.mono (by omega), (hS3.trans hs4).trans hs5⟩
            · have hsm2 : sm lp lq b b' off off' = false := by simpa using hsm
              rw [hsm2]
              clear hsm hsm2 hrp2 hrq2 hcp2
              go_wp2_with fail
              refine (blocks_any b' off' lq cq s n2 (k + 1) ny ly Q _ (by omega) HNK.out (by omega) HN2.out (by omega) HNY.out HLY.out (by omega) HQ.out hrq3).mono ?_
              rintro e w4 ⟨By, Y, rfl, hBy, hY, hTY, hs4⟩
              have HTY : Hid (∀ t, t < ny → Tr Y Q s n2 (k + 1) t) := hTY
              have hX4 := hX3.same hs4
              have hS4 := hS3.trans hs4
              have hz4 := hs4.size
              clear hX hX3 hrq3 hTY
              go_wp2_with fail
              refine (convolve_any Bx By s n2 (k + 1) nx ny lx ly L P Q X Y _ (by omega) HNK.out HN2.out (by omega) hx1 hx512 hy1 hy512 (by rw [Nat.mul_comm]; exact HLX.out) (by rw [Nat.mul_comm]; exact HLY.out) HL.out HF.out.1 HF.out.2 hX4 hY HTX.out HTY.out).mono ?_
              rintro e w5 ⟨C, c, rfl, hc, hcl, hval, hs5⟩
              have HVAL : Hid (val c L = M * N) := by show _ = _; rw [hval, ← HMN.out]
              have hz5 := hs5.size
              clear hval hX4 hY
              go_wp2_with fail
              refine (carry_any C 0 L L c _ (by omega) hc hcl).mono ?_
              rintro e w6 ⟨v', rfl, hv', hf', hs6⟩
              go_wp2_with fail
              go_ret
              exact ⟨_, rfl, by rw [← HVAL.out]; exact hv', hf'.mono (by omega), (hS4.trans hs5).trans hs6⟩
end Go.Proofs.Ygctaj.Long
