/- mlong.convolve, walked. -/
import Derived.Test.YgctajLongInner
namespace Go.Proofs.Ygctaj.Long
open Go.RowKit Mem Dft Ntt Nt
set_option linter.unusedVariables false

theorem two_rows (k1 k2 : IntKind) (e1 e2 n L C : Nat) {w w1 : World} (hC1 : w.drew.heap.size ≤ C) (hRC : Rd .i64 w1 C 0 L (fun _ => 0)) (hWC : Wr w1 C 0 L) (hC2 : C < w1.heap.size) (hSC : Same w.drew w1) :
    let w3 := ((w1.alloc (.cells (madeCells #[.int k1 0] n) e1)).alloc (.cells (madeCells #[.int k2 0] n) e2)).drew
    Rd .i64 w3 C 0 L (fun _ => 0) ∧ Wr w3 C 0 L ∧ Rd k1 w3 w1.heap.size 0 n (fun _ => 0) ∧ Wr w3 w1.heap.size 0 n ∧ Rd k2 w3 (w1.heap.size + 1) 0 n (fun _ => 0) ∧ Wr w3 (w1.heap.size + 1) 0 n ∧ Same w w3 ∧
      w.heap.size ≤ C ∧ w.heap.size ≤ w1.heap.size ∧ C < w1.heap.size := by
  intro w3
  have hs1 : Same w1 (w1.alloc (.cells (madeCells #[.int k1 0] n) e1)) := (Chg.refl _ _).alloc _
  have hs2 : Same (w1.alloc (.cells (madeCells #[.int k1 0] n) e1)) w3 := ((Chg.refl _ _).alloc _).drew
  have hz : (w1.alloc (.cells (madeCells #[.int k1 0] n) e1)).heap.size = w1.heap.size + 1 := by simp
  have h12 := hs1.trans hs2
  have r1 := made_rd k1 n e1 w1
  have r2 := made_rd k2 n e2 (w1.alloc (.cells (madeCells #[.int k1 0] n) e1))
  have u1 := made_wr k1 n e1 w1
  have u2 := made_wr k2 n e2 (w1.alloc (.cells (madeCells #[.int k1 0] n) e1))
  rw [hz] at r2 u2
  exact ⟨hRC.same h12, hWC.kept h12 hC2, r1.same hs2, u1.kept hs2 (by omega), r2.drew, u2.drew, (show Same w w1 from ⟨hSC.os, hSC.tape, hSC.output, hSC.size, hSC.block, hSC.cell, hSC.frozen⟩).trans h12, hC1, hSC.size, hC2⟩

set_option maxRecDepth 100000 in
set_option maxHeartbeats 4000000 in
theorem convolve_any (Bx By s n k nx ny lx ly L M N : Nat) (X Y : Nat → Nat) (w : World) (hk : k ≤ 10) (hnk : n = 2 ^ k) (hns : n = 2 * s) (hs : 0 < s) (hx1 : 1 ≤ nx) (hx2 : nx ≤ 512) (hy1 : 1 ≤ ny) (hy2 : ny ≤ 512) (hlx : nx * n = lx) (hly : ny * n = ly) (hL : (nx + ny) * s = L)
    (hM : M < 256 ^ (nx * s)) (hN : N < 256 ^ (ny * s)) (hX : Rd .u32 w Bx 0 lx X) (hY : Rd .u32 w By 0 ly Y) (hTX : ∀ t, t < nx → Tr X M s n k t) (hTY : ∀ t, t < ny → Tr Y N s n k t) :
    Calls Tajg.prog 92 #[.slice (some ⟨Bx, 0, none⟩) lx lx, .slice (some ⟨By, 0, none⟩) ly ly, .int .i64 (s : Int)] w fun e w' =>
      ∃ (C : Nat) (c : Nat → Nat), e = .returned (.slice (some ⟨C, 0, none⟩) L L) ∧ Rd .i64 w' C 0 L c ∧ (∀ l, l < L → c l ≤ 9007199254740992) ∧ val c L = M * N ∧ Same w w' := by
  have hn2 : n ≤ 1024 := by
    have : 2 ^ k ≤ 2 ^ 10 := Nat.pow_le_pow_right (by decide) hk
    omega
  have hlxl : lx ≤ 524288 := by rw [← hlx]; exact Nat.mul_le_mul hx2 hn2
  have hlyl : ly ≤ 524288 := by rw [← hly]; exact Nat.mul_le_mul hy2 hn2
  have hLl : L ≤ 524288 := by rw [← hL]; exact Nat.mul_le_mul (show nx + ny ≤ 1024 by omega) (show s ≤ 512 by omega)
  have hlx0 : 0 < lx := by rw [← hlx]; exact Nat.mul_pos (by omega) (by omega)
  have hly0 : 0 < ly := by rw [← hly]; exact Nat.mul_pos (by omega) (by omega)
  have hBx := hX.lt hlx0
  have hBy := hY.lt hly0
  have r1 : 2 * (s : Int) = (n : Int) := by omega
  have r2 : (lx : Int) / (n : Int) = (nx : Int) := by rw [← hlx, Int.natCast_mul]; exact Int.mul_ediv_cancel _ (by omega)
  have r3 : (ly : Int) / (n : Int) = (ny : Int) := by rw [← hly, Int.natCast_mul]; exact Int.mul_ediv_cancel _ (by omega)
  have r4 : ((nx : Int) + (ny : Int)) * (s : Int) = (L : Int) := by rw [← hL]; simp
  have HNK : Hid (n = 2 ^ k) := hnk
  have HNS : Hid (n = 2 * s) := hns
  have HLX : Hid (nx * n = lx) := hlx
  have HLY : Hid (ny * n = ly) := hly
  have HL : Hid ((nx + ny) * s = L) := hL
  have HM : Hid (M < 256 ^ (nx * s)) := hM
  have HN : Hid (N < 256 ^ (ny * s)) := hN
  have HTX : Hid (∀ t, t < nx → Tr X M s n k t) := hTX
  have HTY : Hid (∀ t, t < ny → Tr Y N s n k t) := hTY
  have hsl : s ≤ 512 := by omega
  have hn0 : 0 < n := by omega
  clear hnk hns hlx hly hL hM hN hTX hTY
  have hnz : ((n : Int) == 0) = false := by rw [beq_eq_false_iff_ne]; omega
  go_enter Tajg.func92, Tajg.ntmps92
  go_wp2_with fail
  refine Text.wp_text (by kernel_rfl) (by kernel_rfl) ⟨fun c a w h => (by obtain ⟨_, _, _, h, _⟩ := h; cases h), fun a w h => (by obtain ⟨_, _, h, _⟩ := h; cases h)⟩ ?_
  intro K hK
  go_wp2_with fail
  refine hK _ _ (by rfl) ?_
  clear hK
  go_wp2_with (at_make; refine wpList_mk L .i64 2 8 _ _ (by rfl) (by rfl) rfl rfl Tajg.underlying66 info2 (by omega) (by omega) ?_; intro C w1 hC1 hC2 hRC hWC hSC)
  clear r2 r3 r4
  have hmS := run_mk (P := Tajg.prog) n .u64 23 8 61 Tajg.underlying61 info23 (by omega) (by omega)
  have hmK := run_mk (P := Tajg.prog) n .u32 50 4 58 Tajg.underlying58 info50 (by omega) (by omega)
  go_region_held3 (fun w' => True) (trivial) (fail)
  all_goals clear hmS hmK
  all_goals first
    | (obtain ⟨w3, hw3⟩ : ∃ w3, w3 = ((w1.alloc (.cells (madeCells #[.int .u64 0] n) 23)).alloc (.cells (madeCells #[.int .u32 0] n) 50)).drew := ⟨_, rfl⟩
       rw [← hw3]
       obtain ⟨Bk, hBk⟩ : ∃ Bk, Bk = w1.heap.size + 1 := ⟨_, rfl⟩
       rw [← hBk]
       obtain ⟨Bs, hBs⟩ : ∃ Bs, Bs = w1.heap.size := ⟨_, rfl⟩
       rw [← hBs]
       have hfacts : St w w3 C Bs Bk L n (fun _ => 0) ∧ w.heap.size ≤ C ∧ w.heap.size ≤ Bs ∧ w.heap.size ≤ Bk ∧ C ≠ Bs ∧ C ≠ Bk ∧ Bs ≠ Bk := by
         obtain ⟨g1, g2, g3, g4, g5, g6, g7, g8, g9, g10⟩ := two_rows .u64 .u32 23 50 n L C hC1 hRC hWC hC2 hSC
         rw [hw3, hBs, hBk]
         exact ⟨⟨g1, g2, ⟨_, g3⟩, g4, ⟨_, g5⟩, g6, g7⟩, g8, by omega, by omega, by omega, by omega, by omega⟩
       clear hw3 hBs hBk hC1 hC2 hRC hWC hSC)
    | (obtain ⟨w3, hw3⟩ : ∃ w3, w3 = ((w1.alloc (.cells (madeCells #[.int .u32 0] n) 50)).alloc (.cells (madeCells #[.int .u64 0] n) 23)).drew := ⟨_, rfl⟩
       rw [← hw3]
       obtain ⟨Bs, hBs⟩ : ∃ Bs, Bs = w1.heap.size + 1 := ⟨_, rfl⟩
       rw [← hBs]
       obtain ⟨Bk, hBk⟩ : ∃ Bk, Bk = w1.heap.size := ⟨_, rfl⟩
       rw [← hBk]
       have hfacts : St w w3 C Bs Bk L n (fun _ => 0) ∧ w.heap.size ≤ C ∧ w.heap.size ≤ Bs ∧ w.heap.size ≤ Bk ∧ C ≠ Bs ∧ C ≠ Bk ∧ Bs ≠ Bk := by
         obtain ⟨g1, g2, g3, g4, g5, g6, g7, g8, g9, g10⟩ := two_rows .u32 .u64 50 23 n L C hC1 hRC hWC hC2 hSC
         rw [hw3, hBs, hBk]
         exact ⟨⟨g1, g2, ⟨_, g5⟩, g6, ⟨_, g3⟩, g4, g7⟩, g8, by omega, by omega, by omega, by omega, by omega⟩
       clear hw3 hBs hBk hC1 hC2 hRC hWC hSC)
  all_goals
    obtain ⟨hSt, hCw, hBsw, hBkw, hCs, hCk, hsk⟩ := hfacts
    go_wp2_with fail
    go_loopw [13] (fun m wr => ∃ (m' : Nat) (c : Nat → Nat), m' ≤ nx + ny - 1 ∧ m = .int .i64 m' ∧ St w wr C Bs Bk L n c ∧ Hid (val c L = vb (256 ^ s) (cvN (bv M s) (bv N s) ny nx) m') ∧ Hid (∀ l, l < L → c l ≤ m' * nx * 998244353)) (fun m _ => nx + ny - 1 - (intOf m).toNat)
    case atStart => exact ⟨0, _, Nat.zero_le _, rfl, hSt, (by show _ = _; rw [val_zeros _ _ (fun _ _ => rfl)]; rfl), (fun _ _ => Nat.zero_le _)⟩
    case round =>
      clear hSt
      obtain ⟨m, c, hm, rfl, hSt, HV, HB⟩ := hrel
      by_cases hlt : m < nx + ny - 1
      · have hq0 : m * s + n ≤ L := by
          have h1 : (m + 2) * s ≤ (nx + ny) * s := Nat.mul_le_mul_right _ (by omega)
          have h2 := HL.out
          have h3 := HNS.out
          rw [Nat.add_mul] at h1; omega
        have HQ : Hid ((256 ^ s) ^ m = 256 ^ (m * s)) := by show _ = _; rw [← Nat.pow_mul, Nat.mul_comm]
        obtain ⟨q, hq⟩ : ∃ q, m * s = q := ⟨_, rfl⟩
        have HMQ : Hid (m * s = q) := hq
        rw [hq] at hq0
        clear hq
        have hm3 : m ≤ 1023 := by omega
        obtain ⟨lo, hi, HP1, HP2, HP3, hhx, hlh, hcase⟩ : ∃ lo hi : Nat, Hid (∀ i, lo ≤ i → i < hi → i ≤ m ∧ m < i + ny) ∧ Hid (∀ i, i < lo → ¬ (i ≤ m ∧ m < i + ny)) ∧ Hid (∀ i, hi ≤ i → i < hi + (nx - hi) → ¬ (i ≤ m ∧ m < i + ny)) ∧ hi ≤ nx ∧ lo ≤ hi ∧
            ((ny ≤ m ∧ Hid ((m : Int) - (ny : Int) + 1 = (lo : Int)) ∨ m < ny ∧ Hid ((0 : Int) = (lo : Int))) ∧ (m + 1 < nx ∧ Hid (hi = m + 1) ∨ nx ≤ m + 1 ∧ Hid (hi = nx))) := by
          refine ⟨if ny ≤ m then m - ny + 1 else 0, if m + 1 < nx then m + 1 else nx, ?_, ?_, ?_, ?_, ?_, ?_, ?_⟩
          · intro i; split <;> split <;> omega
          · intro i; split <;> omega
          · intro i; split <;> omega
          · split <;> omega
          · split <;> split <;> omega
          · by_cases h : ny ≤ m
            · rw [if_pos h]; exact .inl ⟨h, (by show _ = _; omega)⟩
            · rw [if_neg h]; exact .inr ⟨by omega, (by show _ = _; omega)⟩
          · by_cases h : m + 1 < nx
            · rw [if_pos h]; exact .inl ⟨h, rfl⟩
            · rw [if_neg h]; exact .inr ⟨by omega, rfl⟩
        have HFIN : Hid (∀ c' : Nat → Nat, val c' L = vb (256 ^ s) (cvN (bv M s) (bv N s) ny nx) m + 256 ^ q * cvN (bv M s) (bv N s) ny hi m → (∀ l, l < L → c' l ≤ (m * nx + hi) * 998244353) → val c' L = vb (256 ^ s) (cvN (bv M s) (bv N s) ny nx) (m + 1) ∧ ∀ l, l < L → c' l ≤ (m + 1) * nx * 998244353) := by
          intro c' h1 h2
          constructor
          · have h3 := HQ.out
            rw [HMQ.out] at h3
            rw [h1, vb, h3, Nat.mul_comm (256 ^ q)]
            congr 2
            have := cvN_high (bv M s) (bv N s) ny m hi (nx - hi) HP3.out
            rw [show hi + (nx - hi) = nx from by omega] at this
            exact this.symm
          · intro l hl
            refine Nat.le_trans (h2 l hl) (Nat.mul_le_mul_right _ ?_)
            rw [Nat.add_mul, Nat.one_mul]; exact Nat.add_le_add_left hhx _
        obtain ⟨hc1, hc2⟩ := hcase
        rcases hc1 with ⟨ht1, HLo⟩ | ⟨ht1, HLo⟩ <;> rcases hc2 with ⟨ht2, HHi⟩ | ⟨ht2, HHi⟩
        all_goals
          have hslot : (m : Int) + 1 = ((m + 1 : Nat) : Int) := by omega
          have HSL : Hid ((m : Int) + 1 = ((m + 1 : Nat) : Int)) := hslot
          clear hslot
          go_wp2_with fail
          have ehi := HHi.out
          subst hi
          try rw [HSL.out]
          refine inner Bx By s n k nx ny lx ly L M N C Bs Bk m q lo _ X Y c w _ _ _ _ _ _ _ _ _ _ _ _ _ _ _ _ _ _ _ _ _ _ _ _ _ _ _ _ _ _ _ _ _ _ _ _ _ _ _ _ _ _ _ _ _ _ _ _ _ _ _ _ _ _ _ _ _ _ _ _ _ _ _ _ _ _ _ _ _ _ _ _ _ _ _ _ _ _ _ _ _ _ _ _ _ _ _ _ _ _ _ hk HNK HNS hn0 hn2 hsl hx2 hy2 hlxl hlyl hLl HLX HLY hX hY HTX HTY hBx hBy hCw hBsw hBkw hCs hCk hsk hm3 HMQ hq0 HP1 HP2 hhx hlh (congrArg (Value.int .i64) HLo.out) hSt HV HB ?_
          intro v0 v1 v2 v3 v4 v5 v6 v7 v8 v9 v10 v11 v12 v13 v14 v15 v16 v17 v18 v19 v20 v21 v22 v23 v24 v25 v26 v27 v28 v29 v30 v31 v32 v33 v34 v35 v36 v37 wx c' hSt' hv hb
          have HG : Hid (val c' L = vb (256 ^ s) (cvN (bv M s) (bv N s) ny nx) (m + 1) ∧ ∀ l, l < L → c' l ≤ (m + 1) * nx * 998244353) := HFIN.out c' hv hb
          clear hv hb HFIN HP1 HP2 HP3 hSt HV HB
          go_wp2_with fail
          go_roundw
          case rel => exact ⟨m + 1, c', by omega, by go_num, hSt', HG.out.1, HG.out.2⟩
          case measure => simp [intOf]; omega
      · have em : m = nx + ny - 1 := by omega
        obtain ⟨hR, _, _, _, _, _, hS⟩ := hSt
        have hv : val c L = M * N := by rw [HV.out, em]; exact all_products M N s nx ny HM.out HN.out hx1 hy1
        have hb : ∀ l, l < L → c l ≤ 9007199254740992 := by
          intro l hl
          exact bnd3 (c l) m nx 0 (HB.out l hl) (by omega) hx2 (by omega)
        have HF : Hid (val c L = M * N ∧ ∀ l, l < L → c l ≤ 9007199254740992) := ⟨hv, hb⟩
        clear hv hb HV HB em
        go_wp2_with fail
        go_ret
        exact ⟨C, c, rfl, hR, HF.out.2, HF.out.1, hS⟩
end Go.Proofs.Ygctaj.Long
