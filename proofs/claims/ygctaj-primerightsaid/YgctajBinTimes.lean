/- (binary).times, walked. -/
import Derived.Test.YgctajBinMinus
import Derived.Test.YgctajMontTimes
namespace Go.Proofs.Ygctaj.Nt
open Go.RowKit Mem
set_option linter.unusedVariables false

/-- the rows so far. -/
def bp (X Y i : Nat) : Nat := X % 256 ^ (4 * i) * Y
theorem bp_succ (X Y i : Nat) : bp X Y (i + 1) = bp X Y i + dw X i * Y * 256 ^ (4 * i) := by
  unfold bp
  rw [lowW]
  generalize X % 256 ^ (4 * i) = p
  generalize dw X i = d
  generalize 256 ^ (4 * i) = B
  grind
theorem dw_hi (N i j : Nat) : dw (N / 256 ^ (4 * i)) j = dw N (i + j) := by
  unfold dw
  rw [Nat.div_div_eq_div_mul, ← Nat.pow_add]; congr 3; omega
theorem bp_hi (X Y i : Nat) : bp X Y (i + 1) / 256 ^ (4 * i) = bp X Y i / 256 ^ (4 * i) + dw X i * Y := by
  rw [bp_succ, Nat.add_mul_div_right _ _ (pp _)]
theorem bp_low (X Y i k : Nat) (hk : k < i) : dw (bp X Y (i + 1)) k = dw (bp X Y i) k := by
  rw [bp_succ]
  generalize dw X i * Y = q
  generalize bp X Y i = N
  rw [dw_of_mod, dw_of_mod N]
  congr 1
  rw [show 256 ^ (4 * i) = 256 ^ (4 * (k + 1)) * 256 ^ (4 * (i - (k + 1))) from by rw [← Nat.pow_add]; congr 1; omega]
  rw [Nat.mul_comm q, Nat.mul_assoc, Nat.add_mul_mod_self_left]
/-- the words while row i is under way. -/
def bw (X Y i j k : Nat) : Nat := if k < i + j then dw (bp X Y (i + 1)) k else dw (bp X Y i) k

set_option maxRecDepth 100000 in
set_option maxHeartbeats 2000000 in
theorem btimes_any (k : Int) (n bx ox cx bY oY cY X Y : Nat) (w : World) (hn : 1 ≤ n) (hn2 : n ≤ 80000) (hx : Rd .u32 w bx ox n (dw X)) (hy : Rd .u32 w bY oY n (dw Y)) (hcx : n ≤ cx) (hcY : n ≤ cY) :
    Calls Tajg.prog 106 #[.agg #[.int .i64 k, .int .i64 (n : Int)], .slice (some ⟨bx, ox, none⟩) n cx, .slice (some ⟨bY, oY, none⟩) n cY] w fun e w' =>
      ∃ B : Nat, e = .returned (.slice (some ⟨B, 0, none⟩) n n) ∧ w.heap.size ≤ B ∧ Rd .u32 w' B 0 n (dw (X * Y % 256 ^ (4 * n))) ∧ Cl w' B ∧ Same w w' := by
  have HA : Hid ((w.alloc (Obj.cells #[Value.int IntKind.i64 k, Value.int IntKind.i64 (n : Int)] 129)).cell? ⟨w.heap.size, 1, none⟩ = some (.int .i64 (n : Int))) := by show _ = _; rw [World.cell?_alloc_new]; rfl
  have HS1 : Hid (Same w (w.alloc (Obj.cells #[Value.int IntKind.i64 k, Value.int IntKind.i64 (n : Int)] 129))) := (Chg.refl _ _).alloc _
  go_enter Tajg.func106, Tajg.ntmps106
  go_wp2_with (at_make; generalize hWa : World.alloc w _ = W1 at *; refine wpList_mkc n .u32 46 4 _ _ (by rfl) (by rfl) rfl rfl Tajg.underlying57 info46 (by omega) (by omega) ?_; intro B w2 hB1 hB2 hRB hCB hs2)
  have HS2 : Hid (Same w w2) := HS1.out.trans hs2
  have HZ : Hid (w2.cell? ⟨w.heap.size, 1, none⟩ = some (.int .i64 (n : Int))) := cellK hs2 HA.out id
  have hZl := lt_of_cell HA.out
  have hBw : w.heap.size < B := by
    have h1 : w.heap.size < W1.heap.size := hZl
    omega
  obtain ⟨Z, HZe⟩ : ∃ Z, Hid (Z = w.heap.size) := ⟨_, rfl⟩
  rw [← HZe.out] at HZ ⊢
  have hBZ : B ≠ Z := by have := HZe.out; omega
  clear hs2 HS1 HA hWa hZl
  go_loopw [8] (fun i wr => ∃ j : Nat, j ≤ n ∧ i = .int .i64 (j : Int) ∧ Rd .u32 wr B 0 n (dw (bp X Y j)) ∧ Cl wr B ∧ Chg (fun q _ => q = B) w2 wr) (fun i _ => (n - intOf i).toNat)
  case atStart => exact ⟨0, by omega, rfl, hRB.congr (fun i _ => by unfold bp dw; simp [Nat.mod_one]), hCB, Chg.refl _ _⟩
  case round =>
    clear hRB hCB
    obtain ⟨i, hi, rfl, hR, hCo, hCg⟩ := hrel
    have z1 := cellK hCg HZ.out (fun e => hBZ e.symm)
    have hSr : Same w wr := HS2.out.trans_new hCg (fun q o hq e => by omega)
    by_cases hin : i = n
    · subst hin
      have hRf : Rd .u32 wr B 0 i (dw (X * Y % 256 ^ (4 * i))) := hR.congr (fun t ht => by
        rw [dw_mod_lt _ i t ht]
        unfold bp
        rw [dw_of_mod, dw_of_mod (X * Y)]
        congr 1
        rw [Nat.mul_mod, Nat.mod_mod_of_dvd _ (Nat.pow_dvd_pow 256 (show 4 * (t + 1) ≤ 4 * i by omega)), ← Nat.mul_mod])
      clear hR
      go_wp2_with fail
      go_ret
      exact ⟨B, rfl, by omega, hRf, hCo, hSr⟩
    · have hlt : i < n := by omega
      have x1 := (hx.same hSr) i hlt
      have hul := dw_lt X i
      by_cases hu0 : dw X i = 0
      · rw [hu0] at x1
        have hR' : Rd .u32 wr B 0 n (dw (bp X Y (i + 1))) := by rw [bp_succ, hu0, Nat.zero_mul, Nat.zero_mul, Nat.add_zero]; exact hR
        clear hR hul
        go_wp2_with fail
        go_roundw
        case rel => exact ⟨i + 1, by omega, by go_num, hR', hCo, hCg⟩
        case measure => simp [intOf]; omega
      · obtain ⟨u, Hu⟩ : ∃ u, Hid (u = dw X i) := ⟨_, rfl⟩
        rw [← Hu.out] at x1 hul hu0
        obtain ⟨UI, HUI⟩ : ∃ UI : Int, Hid (UI = (u : Int)) := ⟨_, rfl⟩
        rw [← HUI.out] at x1
        have u0 : 0 < UI := by have := HUI.out; omega
        have u1 : UI < 4294967296 := by have := HUI.out; omega
        have uz : (UI == 0) = false := by rw [beq_eq_false_iff_ne]; omega
        have Hul : Hid (u < 4294967296) := hul
        have hRw : Rd .u32 wr B 0 n (bw X Y i 0) := hR.congr (fun t _ => by
          unfold bw
          by_cases h : t < i + 0
          · rw [if_pos h, bp_low X Y i t (by omega)]
          · rw [if_neg h])
        obtain ⟨Pq, HPq⟩ : ∃ Pq, Hid (Pq = bp X Y i / 256 ^ (4 * i)) := ⟨_, rfl⟩
        have HPq2 : Hid (bp X Y (i + 1) / 256 ^ (4 * i) = Pq + u * Y) := by show _ = _; rw [bp_hi, ← HPq.out, ← Hu.out]
        clear hR hul hu0
        go_wp2_with fail
        go_loopw [10, 11] (fun o q wr => ∃ j : Nat, i + j ≤ n ∧ o = .int .u64 ((cy Pq Y u j : Nat) : Int) ∧ q = .int .i64 (j : Int) ∧ Rd .u32 wr B 0 n (bw X Y i j) ∧ Cl wr B ∧ Chg (fun q _ => q = B) w2 wr) (fun _ q _ => (n - intOf q).toNat)
        case atStart => exact ⟨0, by omega, by rw [cy_zero]; rfl, rfl, hRw, hCo, hCg⟩
        case round =>
          clear hRw hCo hCg x1 z1 hSr
          obtain ⟨j, hj, rfl, rfl, hR, hCo, hCg⟩ := hrel
          have z1 := cellK hCg HZ.out (fun e => hBZ e.symm)
          have hSr : Same w wr := HS2.out.trans_new hCg (fun q o hq e => by omega)
          have eij : (i : Int) + (j : Int) = ((i + j : Nat) : Int) := by omega
          obtain ⟨ij, Hij⟩ : ∃ ij, Hid (ij = i + j) := ⟨_, rfl⟩
          rw [← Hij.out] at eij hj
          by_cases hjl : ij = n
          · subst hjl
            have hR' : Rd .u32 wr B 0 ij (dw (bp X Y (i + 1))) := hR.congr (fun t ht => by
              unfold bw
              rw [if_pos (by have := Hij.out; omega)])
            clear hR
            go_wp2_with fail
            go_roundw
            case rel => exact ⟨i + 1, by omega, by go_num, hR', hCo, hCg⟩
            case measure => simp [intOf]; omega
          · have hjl2 : ij < n := by omega
            have y1 := (hy.same hSr) j (by have := Hij.out; omega)
            have hjn : j < n := by have := Hij.out; omega
            have o1 := hR ij hjl2
            have f1 := hCo (0 + ij)
            rw [Nat.zero_add] at o1 f1
            rw [show bw X Y i j ij = dw Pq j from by
              unfold bw
              rw [if_neg (by have := Hij.out; omega), HPq.out, dw_hi, ← Hij.out]] at o1
            obtain ⟨UQ, P1, PI, eUQ, eP1, ePI, eMd, eDv, b1, b2, b3, b4, b5, b6⟩ := rowI Pq Y u j Hul.out
            have hcl1 := cy_le Pq Y u j
            have hcl2 := cy_le Pq Y u (j + 1)
            obtain ⟨YJ, HYJ⟩ : ∃ YJ : Int, Hid (YJ = ((dw Y j : Nat) : Int)) := ⟨_, rfl⟩
            obtain ⟨TJ, HTJ⟩ : ∃ TJ : Int, Hid (TJ = ((dw Pq j : Nat) : Int)) := ⟨_, rfl⟩
            obtain ⟨AJ, HAJ⟩ : ∃ AJ : Int, Hid (AJ = ((cy Pq Y u j : Nat) : Int)) := ⟨_, rfl⟩
            obtain ⟨AK, HAK⟩ : ∃ AK : Int, Hid (((cy Pq Y u (j + 1) : Nat) : Int) = AK) := ⟨_, rfl⟩
            obtain ⟨NJ, HNJ⟩ : ∃ NJ : Int, Hid (((dw (Pq + u * Y) j : Nat) : Int) = NJ) := ⟨_, rfl⟩
            have l1 : 0 ≤ YJ ∧ YJ < 4294967296 := by have h1 := HYJ.out; have h2 := dw_lt Y j; omega
            have l2 : 0 ≤ TJ ∧ TJ < 4294967296 := by have h1 := HTJ.out; have h2 := dw_lt Pq j; omega
            have l3 : 0 ≤ AJ ∧ AJ < 4294967296 := by have h1 := HAJ.out; have h2 := Hul.out; omega
            have l4 : 0 ≤ AK ∧ AK < 4294967296 := by have h1 := HAK.out; have h2 := Hul.out; omega
            rw [← HUI.out, ← HYJ.out] at eUQ
            rw [← HTJ.out] at eP1 o1
            rw [← HAJ.out] at ePI
            rw [HNJ.out] at eMd
            rw [HAK.out] at eDv
            rw [← HYJ.out] at y1
            rw [← HAJ.out]
            obtain ⟨l11, l12⟩ := l1
            obtain ⟨l21, l22⟩ := l2
            obtain ⟨l31, l32⟩ := l3
            obtain ⟨l41, l42⟩ := l4
            have HRn : Hid (Rd .u32 (wr.drew.setCell ⟨B, ij, none⟩ (.int .u32 NJ)) B 0 n (bw X Y i (j + 1))) := by
              have g1 := (hR.drew).setCell ij (dw (Pq + u * Y) j) hjl2
              rw [Nat.zero_add, HNJ.out] at g1
              refine g1.congr fun t ht => ?_
              by_cases ht1 : t = ij
              · subst ht1
                rw [upd_same]
                unfold bw
                rw [if_pos (by have := Hij.out; omega), ← HPq2.out, dw_hi, ← Hij.out]
              · rw [upd_other _ _ _ _ ht1]
                unfold bw
                have := Hij.out
                by_cases ht2 : t < i + j
                · rw [if_pos ht2, if_pos (by omega)]
                · rw [if_neg ht2, if_neg (by omega)]
            clear hR hcl1 hcl2
            go_wp2_with fail
            refine Text.wp_text (by kernel_rfl) (by kernel_rfl) ⟨fun c a w h => (by obtain ⟨_, _, h, _⟩ := h; cases h), fun a w h => (by obtain ⟨_, h, _⟩ := h; cases h)⟩ ?_
            intro K hK
            go_wp2_with fail
            refine hK _ _ (by rfl) ?_
            clear hK
            change wr.drew.cell? _ = _ at o1
            change wr.drew.frozen? _ = _ at f1
            have hCo' : Cl wr.drew B := hCo
            have hCg' := hCg.drew
            clear hCo hCg z1 y1 hSr
            generalize wr.drew = we at *
            go_wp2_with fail
            go_roundw
            case rel => exact ⟨j + 1, by have := Hij.out; omega, by rw [HAK.out], by go_num, HRn.out, hCo'.setCell _ _, hCg'.setCell _ _ _ (fun _ => rfl)⟩
            case measure => simp [intOf]; omega
end Go.Proofs.Ygctaj.Nt
