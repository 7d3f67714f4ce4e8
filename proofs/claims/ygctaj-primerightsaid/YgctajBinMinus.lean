/- (binary).minus, walked. -/
import Derived.Test.YgctajMontReduce
namespace Go.Proofs.Ygctaj.Nt
open Go.RowKit Mem
set_option linter.unusedVariables false

theorem up_mod (T n j : Nat) (h : j ≤ n) : (T + 256 ^ (4 * n)) % 256 ^ (4 * j) = T % 256 ^ (4 * j) := by
  rw [show 256 ^ (4 * n) = 256 ^ (4 * j) * 256 ^ (4 * (n - j)) from by rw [← Nat.pow_add]; congr 1; omega, Nat.add_mul_mod_self_left]
theorem dw_of_mod (T j : Nat) : dw T j = T % 256 ^ (4 * (j + 1)) / 256 ^ (4 * j) := by
  unfold dw
  rw [powW, Nat.mod_mul_right_div_self]
/-- x - y in n words. -/
def bmn (n X Y : Nat) : Nat := (X + 256 ^ (4 * n) - Y) % 256 ^ (4 * n)
theorem dw_mod_lt (N n j : Nat) (h : j < n) : dw (N % 256 ^ (4 * n)) j = dw N j := by
  rw [dw_of_mod, dw_of_mod]
  congr 1
  exact Nat.mod_mod_of_dvd _ (Nat.pow_dvd_pow 256 (by omega))
theorem bmn_dw (n X Y j : Nat) (hj : j < n) (hY : Y ≤ 256 ^ (4 * n)) : sdg X Y j = dw (bmn n X Y) j := by
  unfold bmn
  rw [dw_mod_lt _ n j hj, ← sdg_dw (X + 256 ^ (4 * n)) Y j (by omega)]
  unfold sdg bor
  rw [up_mod X n j (by omega), dw_of_mod (X + 256 ^ (4 * n)) j, up_mod X n (j + 1) (by omega), ← dw_of_mod]

set_option maxRecDepth 100000 in
set_option maxHeartbeats 2000000 in
theorem minus_any (k : Int) (n bx ox cx bY oY cY X Y : Nat) (w : World) (hn : 1 ≤ n) (hn2 : n ≤ 80000) (hx : Rd .u32 w bx ox n (dw X)) (hy : Rd .u32 w bY oY n (dw Y)) (hcx : n ≤ cx) (hcY : n ≤ cY) (hY : Y ≤ 256 ^ (4 * n)) :
    Calls Tajg.prog 103 #[.agg #[.int .i64 k, .int .i64 (n : Int)], .slice (some ⟨bx, ox, none⟩) n cx, .slice (some ⟨bY, oY, none⟩) n cY] w fun e w' =>
      ∃ B : Nat, e = .returned (.slice (some ⟨B, 0, none⟩) n n) ∧ w.heap.size ≤ B ∧ Rd .u32 w' B 0 n (dw (bmn n X Y)) ∧ Cl w' B ∧ Same w w' := by
  have HYl : Hid (Y ≤ 256 ^ (4 * n)) := hY
  clear hY
  have HA : Hid ((w.alloc (Obj.cells #[Value.int IntKind.i64 k, Value.int IntKind.i64 (n : Int)] 129)).cell? ⟨w.heap.size, 1, none⟩ = some (.int .i64 (n : Int))) := by show _ = _; rw [World.cell?_alloc_new]; rfl
  have HS1 : Hid (Same w (w.alloc (Obj.cells #[Value.int IntKind.i64 k, Value.int IntKind.i64 (n : Int)] 129))) := (Chg.refl _ _).alloc _
  go_enter Tajg.func103, Tajg.ntmps103
  go_wp2_with (at_make; generalize hWa : World.alloc w _ = W1 at *; refine wpList_mkc n .u32 46 4 _ _ (by rfl) (by rfl) rfl rfl Tajg.underlying57 info46 (by omega) (by omega) ?_; intro B w2 hB1 hB2 hRB hCB hs2)
  have HS2 : Hid (Same w w2) := HS1.out.trans hs2
  have HZ : Hid (w2.cell? ⟨w.heap.size, 1, none⟩ = some (.int .i64 (n : Int))) := cellK hs2 HA.out id
  have hZl := lt_of_cell HA.out
  have hBw : w.heap.size < B := by
    have h1 : w.heap.size < W1.heap.size := hZl
    omega
  obtain ⟨Z, HZe⟩ : ∃ Z, Hid (Z = w.heap.size) := ⟨_, rfl⟩
  rw [← HZe.out] at HZ ⊢
  have hBZ : B ≠ Z := by have := HZe.out; omega
  clear hs2 HS1 HA hWa hZl
  go_loopw [8, 9] (fun b i wr => ∃ j : Nat, j ≤ n ∧ b = .int .u64 ((bor X Y j : Nat) : Int) ∧ i = .int .i64 (j : Int) ∧ Rd .u32 wr B 0 n (mix j (sdg X Y) (fun _ => 0)) ∧ Cl wr B ∧ Chg (fun q _ => q = B) w2 wr) (fun _ i _ => (n - intOf i).toNat)
  case atStart => exact ⟨0, by omega, by rw [bor_zero]; rfl, rfl, hRB.start _, hCB, Chg.refl _ _⟩
  case round =>
    clear hRB hCB
    obtain ⟨j, hj, rfl, rfl, hR, hCo, hCg⟩ := hrel
    have z1 := cellK hCg HZ.out (fun e => hBZ e.symm)
    have hSr : Same w wr := HS2.out.trans_new hCg (fun q o hq e => by omega)
    by_cases hjn : j = n
    · subst hjn
      have hRd := hR.done (Nat.le_refl _)
      have hRf : Rd .u32 wr B 0 j (dw (bmn j X Y)) := hRd.congr (fun i hi => bmn_dw j X Y i hi HYl.out)
      clear hR hRd
      go_wp2_with fail
      go_ret
      exact ⟨B, rfl, by omega, hRf, hCo, hSr⟩
    · have hlt : j < n := by omega
      have x1 := (hx.same hSr) j hlt
      have y1 := (hy.same hSr) j hlt
      have o1 := hR.at hlt
      have f1 := hCo (0 + j)
      rw [Nat.zero_add] at o1 f1
      have hs := sdg_int X Y j
      have hb1 := bor_succ X Y j
      have hbl := bor_le X Y j
      have hd1 := dw_lt X j
      have hd2 := dw_lt Y j
      obtain ⟨RI, HRI⟩ : ∃ RI : Int, Hid (RI = ((dw X j : Nat) : Int)) := ⟨_, rfl⟩
      obtain ⟨MI, HMI⟩ : ∃ MI : Int, Hid (MI = ((dw Y j : Nat) : Int)) := ⟨_, rfl⟩
      obtain ⟨BI, HBI⟩ : ∃ BI : Int, Hid (BI = ((bor X Y j : Nat) : Int)) := ⟨_, rfl⟩
      have r0 : 0 ≤ RI ∧ RI < 4294967296 := by have := HRI.out; omega
      have r1 : 0 ≤ MI ∧ MI < 4294967296 := by have := HMI.out; omega
      have r2 : 0 ≤ BI ∧ BI ≤ 1 := by have := HBI.out; omega
      have HB1 : Hid (((bor X Y (j + 1) : Nat) : Int) = if RI < MI + BI then 1 else 0) := by
        have g1 := HRI.out
        have g2 := HMI.out
        have g3 := HBI.out
        show _ = _
        rw [hb1]
        by_cases h : dw X j < dw Y j + bor X Y j
        · rw [if_pos h, if_pos (by omega)]; rfl
        · rw [if_neg h, if_neg (by omega)]; rfl
      rw [← HRI.out, ← HMI.out, ← HBI.out] at hs
      rw [← HRI.out] at x1
      rw [← HMI.out] at y1
      rw [← HBI.out]
      obtain ⟨E1, HE1⟩ : ∃ E1 : Int, Hid ((RI - MI) % 18446744073709551616 = E1) := ⟨_, rfl⟩
      have e1 := HE1.out
      obtain ⟨E2, HE2⟩ : ∃ E2 : Int, Hid ((E1 - BI) % 18446744073709551616 = E2) := ⟨_, rfl⟩
      have e2 := HE2.out
      have b1 : 0 ≤ E1 ∧ E1 < 18446744073709551616 := by omega
      have b2 : 0 ≤ E2 ∧ E2 < 18446744073709551616 := by omega
      have e3 : E2 % 4294967296 = ((sdg X Y j : Nat) : Int) := by rw [← hs]; omega
      have e4 : E2 / 9223372036854775808 = ((bor X Y (j + 1) : Nat) : Int) := by
        rw [HB1.out]
        split <;> omega
      obtain ⟨SD, HSD⟩ : ∃ SD : Int, Hid (((sdg X Y j : Nat) : Int) = SD) := ⟨_, rfl⟩
      obtain ⟨B2, HB2⟩ : ∃ B2 : Int, Hid (((bor X Y (j + 1) : Nat) : Int) = B2) := ⟨_, rfl⟩
      rw [HSD.out] at e3
      rw [HB2.out] at e4
      obtain ⟨r01, r02⟩ := r0
      obtain ⟨r11, r12⟩ := r1
      obtain ⟨r21, r22⟩ := r2
      obtain ⟨b11, b12⟩ := b1
      obtain ⟨b21, b22⟩ := b2
      have w1 : IntKind.u64.wrap (RI - MI) = E1 := by rw [IntKind.wrap_u64]; exact e1
      have w2 : IntKind.u64.wrap (E1 - BI) = E2 := by rw [IntKind.wrap_u64]; exact e2
      clear hs hb1 hbl hd1 hd2 HB1
      go_wp2_with fail
      refine Text.wp_text (by kernel_rfl) (by kernel_rfl) ⟨fun c a w h => (by obtain ⟨_, _, h, _⟩ := h; cases h), fun a w h => (by obtain ⟨_, h, _⟩ := h; cases h)⟩ ?_
      intro K hK
      go_wp2_with fail
      refine hK _ _ (by rfl) ?_
      clear hK
      go_wp2_with fail
      go_roundw
      case rel =>
        have g1 := hR.drew.step hlt _ HSD.out.symm
        rw [Nat.zero_add] at g1
        exact ⟨j + 1, by omega, by rw [HB2.out], by go_num, g1, hCo.drew.setCell _ _, (hCg.drew).setCell _ _ _ (fun _ => rfl)⟩
      case measure => simp [intOf]; omega
end Go.Proofs.Ygctaj.Nt
