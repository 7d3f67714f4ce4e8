import Derived.Test.YgctajLawNtt
namespace Go.Proofs.Ygctaj.Ntt
open Go.RowKit Mem Dft
set_option linter.unusedVariables false

set_option maxRecDepth 20000 in
set_option maxHeartbeats 1000000 in
theorem powers_any (w0 n : Nat) (w : World) (hw0 : w0 < 998244353) (hn : n ≤ 1099511627776) :
    Calls Tajg.prog 80 #[.int .u32 (w0 : Int), .int .i64 (n : Int)] w fun e w' =>
      ∃ B : Nat, e = .returned (.slice (some ⟨B, 0, none⟩) n n) ∧ w.heap.size ≤ B ∧ Rd .u32 w' B 0 n (Field.pw w0) ∧ Same w w' := by
  have hfo := fun w => factorOf_any w0 w hw0
  unfold fac at hfo
  have HF : Hid (∀ w, Calls Tajg.prog 81 #[.int .u32 (w0 : Int)] w fun e w' => e = .returned (.agg #[.int .u32 (w0 : Int), .int .u32 ((w0 * 4294967296 / 998244353 : Nat) : Int)]) ∧ Same w w') := hfo
  have HT : Hid (∀ (x : Nat) w, x < 4294967296 → Calls Tajg.prog 83 #[.agg #[.int .u32 (w0 : Int), .int .u32 ((w0 * 4294967296 / 998244353 : Nat) : Int)], .int .u32 (x : Int)] w fun e w' => e = .returned (.int .u32 (shoup w0 x : Int)) ∧ Same w w') := fun x w hx => times_any w0 x w hw0 hx
  clear hfo
  generalize ((w0 * 4294967296 / 998244353 : Nat) : Int) = R at *
  go_enter Tajg.func80, Tajg.ntmps80
  go_wp2_with (at_make; refine wpList_mk n .u32 50 4 _ _ (by rfl) (by rfl) rfl rfl Tajg.underlying58 info50 (by omega) (by omega) ?_; intro B w2 hB1 hB2 hR hW hS)
  refine (HF.out _).mono ?_
  rintro e w3 ⟨rfl, hs3⟩
  go_wp2_with fail
  have hR4 := hR.same (hs3.alloc (.cells #[.int .u32 (w0 : Int), .int .u32 R] 102))
  have hW4 : Wr (w3.alloc (.cells #[.int .u32 (w0 : Int), .int .u32 R] 102)) B 0 n := hW.kept (hs3.alloc _) hB2
  have hS4 : Same w (w3.alloc (.cells #[.int .u32 (w0 : Int), .int .u32 R] 102)) := hS.trans (hs3.alloc _)
  have hb0 : (w3.alloc (.cells #[.int .u32 (w0 : Int), .int .u32 R] 102)).cell? ⟨w3.heap.size, 0, none⟩ = some (.int .u32 (w0 : Int)) := by simp
  have hb1 : (w3.alloc (.cells #[.int .u32 (w0 : Int), .int .u32 R] 102)).cell? ⟨w3.heap.size, 1, none⟩ = some (.int .u32 R) := by simp
  have hBA : B < w3.heap.size := Nat.lt_of_lt_of_le hB2 hs3.size
  clear hR hW hS hs3
  generalize w3.alloc (.cells #[.int .u32 (w0 : Int), .int .u32 R] 102) = w4 at *
  generalize w3.heap.size = A at *
  go_loopw [7, 8] (fun p i wr => ∃ i' : Nat, i' ≤ n ∧ i = .int .i64 i' ∧ p = .int .u32 ((Field.pw w0 i' : Nat) : Int) ∧ Rd .u32 wr B 0 n (mix i' (Field.pw w0) (fun _ => 0)) ∧ Wr wr B 0 n ∧ wr.cell? ⟨A, 0, none⟩ = some (.int .u32 (w0 : Int)) ∧ wr.cell? ⟨A, 1, none⟩ = some (.int .u32 R) ∧ Same w wr)
    (fun _ i _ => n - (intOf i).toNat)
  case atStart => exact ⟨0, Nat.zero_le _, rfl, by rw [Field.pw_zero]; rfl, hR4.start _, hW4, hb0, hb1, hS4⟩
  case round =>
    clear hR4 hW4 hS4 hb0 hb1
    obtain ⟨i, hi, rfl, rfl, hR, hW, c0, c1, hS⟩ := hrel
    by_cases hlt : i < n
    · have di := hR.at hlt
      rw [Nat.zero_add] at di
      have fi := hW i hlt
      rw [Nat.zero_add] at fi
      have hpl := Field.pw_lt w0 i
      have HTV : Hid (∀ w, Calls Tajg.prog 83 #[.agg #[.int .u32 (w0 : Int), .int .u32 R], .int .u32 ((Field.pw w0 i : Nat) : Int)] w fun e w' => e = .returned (.int .u32 ((shoup w0 (Field.pw w0 i) : Nat) : Int)) ∧ Same w w') := fun w => HT.out _ w (by omega)
      have hsl := shoup_lt w0 (Field.pw w0 i) (by omega)
      have hsm := shoup_mod w0 (Field.pw w0 i)
      have hV0 : 0 ≤ ((shoup w0 (Field.pw w0 i) : Nat) : Int) := by omega
      have hV1 : ((shoup w0 (Field.pw w0 i) : Nat) : Int) < 1996488706 := by omega
      have HV : Hid (((shoup w0 (Field.pw w0 i) : Nat) : Int) % 998244353 = ((Field.pw w0 (i + 1) : Nat) : Int)) := by
        show _ = _
        rw [Field.pw_succ, ← hsm]; rfl
      have HST : Hid (∀ w, Rd .u32 w B 0 n (mix i (Field.pw w0) (fun _ => 0)) → Rd .u32 (w.setCell ⟨B, i, none⟩ (.int .u32 ((Field.pw w0 i : Nat) : Int))) B 0 n (mix (i + 1) (Field.pw w0) (fun _ => 0))) := fun w h => by
        have := h.step hlt _ rfl
        rw [Nat.zero_add] at this
        exact this
      clear hpl hsl hsm
      generalize ((shoup w0 (Field.pw w0 i) : Nat) : Int) = V at *
      generalize ((Field.pw w0 i : Nat) : Int) = P at *
      have hAB : A ≠ B := by omega
      have hR1 := HST.out _ hR
      have hW1 := hW.setCell ⟨B, i, none⟩ (.int .u32 P)
      have hS1 := hS.setCell B i (.int .u32 P) (by omega)
      have c0' : (wr.setCell ⟨B, i, none⟩ (.int .u32 P)).cell? ⟨A, 0, none⟩ = some (.int .u32 (w0 : Int)) := by
        rw [World.cell?_setCell_other _ _ _ _ (by intro e'; injection e' with e2 _; omega)]; exact c0
      have c1' : (wr.setCell ⟨B, i, none⟩ (.int .u32 P)).cell? ⟨A, 1, none⟩ = some (.int .u32 R) := by
        rw [World.cell?_setCell_other _ _ _ _ (by intro e'; injection e' with e2 _; omega)]; exact c1
      go_wp2_with fail
      refine (HTV.out _).mono ?_
      rintro e w6 ⟨rfl, hs6⟩
      go_wp2_with fail
      refine (fold_any _ _ hV0 hV1).mono ?_
      rintro e w7 ⟨rfl, rfl⟩
      rw [HV.out]
      go_wp2_with fail
      go_roundw
      case rel => exact ⟨i + 1, by omega, by go_num, rfl, hR1.same hs6, hW1.kept hs6 (hR1.lt (by omega)), cellK hs6 c0' id, cellK hs6 c1' id, hS1.trans hs6⟩
      case measure => simp [intOf]; omega
    · go_wp2_with fail
      go_ret
      exact ⟨B, rfl, hB1, hR.done (by omega), hS⟩

theorem and_mask (m n k : Nat) (hn : n = 2 ^ k) (hk : k ≤ 60) (hm : m < 2 ^ 62) : bits .and .i64 (m : Int) ((n : Int) - 1) = ((m % n : Nat) : Int) := by
  have h := bits_mask .i64 62 (by decide) (fun n h0 h1 => by rw [IntKind.wrap_i64]; omega) k (by omega) (m : Int) (by omega) (by exact_mod_cast hm)
  have e : ((2 : Int) ^ k) = (n : Int) := by rw [hn]; simp
  rw [e] at h
  rw [h]; rfl

theorem pwF_mod (W : F) (n a : Nat) (h : pwF W n = 1) : pwF W (a % n) = pwF W a := by
  conv => rhs; rw [← Nat.div_add_mod a n, pwF_add, pwF_mul, h, pwF_one]
  grind

theorem root_full (k : Nat) (hk : k ≤ 23) : pwF (toF (root k)) (2 ^ k) = 1 := by
  rw [← toF_pw]
  rw [show Field.pw (root k) (2 ^ k) = 1 from Field.root_pow k hk]; rfl

/-- the sum so far. -/
def part (W : F) (X : Nat → F) (j i : Nat) : F := fsum (fun a => X a * pwF W (a * j)) i

theorem part_step (W : F) (X : Nat → F) (n j i : Nat) (hW : pwF W n = 1) (s v x : Nat) (hs : toF s = part W X j i) (hx : toF x = X i) (hv : toF v = pwF W (i * j % n)) (m : Nat) (hm : toF m = toF x * toF v) :
    toF ((s + m) % 998244353) = part W X j (i + 1) := by
  rw [toF_mod, toF_add, hs, hm, hx, hv, pwF_mod W n _ hW]
  unfold part
  rw [fsum]

set_option maxRecDepth 20000 in
set_option maxHeartbeats 1000000 in
theorem dft_any (b off k n cap : Nat) (x : Nat → Nat) (w : World) (hk : k ≤ 11) (hn : n = 2 ^ k) (hx : Rd .u32 w b off n x) (hxl : ∀ i, i < n → x i < 998244353) :
    Calls Tajg.prog 43 #[.slice (some ⟨b, off, none⟩) n cap] w fun e w' =>
      ∃ B : Nat, e = .returned (.slice (some ⟨B, 0, none⟩) n n) ∧ w.heap.size ≤ B ∧ ∃ y : Nat → Nat, Rd .u32 w' B 0 n y ∧ (∀ j, j < n → y j < 998244353 ∧ toF (y j) = dft (toF (root k)) (fun i => toF (x i)) n j) ∧ Same w w' := by
  have h2048 : n ≤ 2048 := by
    have : 2 ^ k ≤ 2 ^ 11 := Nat.pow_le_pow_right (by decide) hk
    omega
  have hpos : 0 < n := by rw [hn]; exact Nat.two_pow_pos k
  have hb := hx.lt hpos
  have HN : Hid (n = 2 ^ k) := hn
  have HW1 : Hid (pwF (toF (root k)) n = 1) := by show _ = _; rw [hn]; exact root_full k (by omega)
  clear hn
  go_enter Tajg.func43, Tajg.ntmps43
  go_wp2_with fail
  refine (level_any k n w hk HN.out).mono ?_
  rintro e w1 ⟨rfl, rfl⟩
  go_wp2_with fail
  refine (below_any b off n cap x _ (by omega) hx hxl).mono ?_
  rintro e w1 ⟨rfl, rfl⟩
  go_wp2_with fail
  refine (Field.root_low k _ (by omega)).mono ?_
  rintro e w1 ⟨rfl, rfl⟩
  rw [show Field.pw 3 (998244352 / 2 ^ k) = root k from rfl]
  go_wp2_with fail
  refine (powers_any (root k) n _ (root_lt k) (by omega)).mono ?_
  rintro e w2 ⟨B, rfl, hB, hws, hs2⟩
  have hx2 := hx.same hs2
  clear hx
  go_wp2_with (at_make; refine wpList_mk n .u32 50 4 _ _ (by rfl) (by rfl) rfl rfl Tajg.underlying58 info50 (by omega) (by omega) ?_; intro C w3 hC1 hC2 hR hW hS)
  have hx3 := hx2.same hS
  have hws3 := hws.same hS
  have hS3 : Same w1 w3 := hs2.trans hS
  have hCb : b < C := Nat.lt_of_lt_of_le hb (Nat.le_trans hs2.size hC1)
  have hCB : B < C := Nat.lt_of_lt_of_le (hws.lt hpos) hC1
  have hCw : w1.heap.size ≤ C := Nat.le_trans hs2.size hC1
  clear hx2 hws hs2 hS
  go_loopw [7] (fun j wr => ∃ j' : Nat, ∃ y : Nat → Nat, j' ≤ n ∧ j = .int .i64 j' ∧ Rd .u32 wr C 0 n y ∧ (∀ i, i < j' → y i < 998244353 ∧ toF (y i) = dft (toF (root k)) (fun i => toF (x i)) n i) ∧ Wr wr C 0 n ∧ Rd .u32 wr b off n x ∧ Rd .u32 wr B 0 n (Field.pw (root k)) ∧ Same w1 wr)
    (fun j _ => n - (intOf j).toNat)
  case atStart => exact ⟨0, fun _ => 0, Nat.zero_le _, rfl, hR, fun i hi => by omega, hW, hx3, hws3, hS3⟩
  case round =>
    clear hR hW hx3 hws3 hS3
    obtain ⟨j, y, hj, rfl, hy, hyd, hW, hx, hws, hS⟩ := hrel
    have HYD : Hid (∀ i, i < j → y i < 998244353 ∧ toF (y i) = dft (toF (root k)) (fun i => toF (x i)) n i) := hyd
    clear hyd
    by_cases hlt : j < n
    · go_wp2_with fail
      go_loopw [8, 9, 10] (fun s at_ i wr => ∃ i' s' a' : Nat, i' ≤ n ∧ i = .int .i64 i' ∧ s' < 998244353 ∧ s = .int .u32 s' ∧ toF s' = part (toF (root k)) (fun i => toF (x i)) j i' ∧ a' < n ∧ a' = i' * j % n ∧ at_ = .int .i64 a' ∧
          Rd .u32 wr C 0 n y ∧ Wr wr C 0 n ∧ Rd .u32 wr b off n x ∧ Rd .u32 wr B 0 n (Field.pw (root k)) ∧ Same w1 wr)
        (fun _ _ i _ => n - (intOf i).toNat)
      case atStart => exact ⟨0, 0, 0, Nat.zero_le _, rfl, by decide, rfl, rfl, hpos, by rw [Nat.zero_mul, Nat.zero_mod], rfl, hy, hW, hx, hws, hS⟩
      case round =>
        clear hy hW hx hws hS
        obtain ⟨i, s, a, hi, rfl, hs, rfl, hsp, ha, hae, rfl, hy, hW, hx, hws, hS⟩ := hrel
        by_cases hil : i < n
        · have ci := hx i hil
          have ca := hws a ha
          rw [Nat.zero_add] at ca
          have hxi := hxl i hil
          have hpa := Field.pw_lt (root k) a
          have hmsk := and_mask (a + j) n k HN.out (by omega) (by omega)
          have hna : (a + j) % n = (i + 1) * j % n := by rw [hae, Nat.add_mul, Nat.one_mul, Nat.mod_add_mod]
          have hnl : (a + j) % n < n := Nat.mod_lt _ hpos
          have hst := part_step (toF (root k)) (fun i => toF (x i)) n j i HW1.out s (Field.pw (root k) a) (x i) hsp rfl (by rw [toF_pw, hae]) (x i * Field.pw (root k) a % 998244353) (by rw [toF_mod, toF_mul])
          have HH : Hid (toF ((s + x i * Field.pw (root k) a % 998244353) % 998244353) = part (toF (root k)) (fun i => toF (x i)) j (i + 1) ∧ (a + j) % n = (i + 1) * j % n ∧ (a + j) % n < n) := ⟨hst, hna, hnl⟩
          have HM : Hid (bits .and .i64 ((a + j : Nat) : Int) ((n : Int) - 1) = (((a + j) % n : Nat) : Int)) := hmsk
          have HMM : Hid (∀ w, Calls Tajg.prog 35 #[.int .u32 ((x i : Nat) : Int), .int .u32 ((Field.pw (root k) a : Nat) : Int)] w fun e w' => e = .returned (.int .u32 ((x i * Field.pw (root k) a % 998244353 : Nat) : Int)) ∧ w' = w) := fun w => Field.mulMod_nat _ _ w (by omega) (by omega)
          have hMl : x i * Field.pw (root k) a % 998244353 < 998244353 := Nat.mod_lt _ (by decide)
          have HAA : Hid (∀ w, Calls Tajg.prog 33 #[.int .u32 (s : Int), .int .u32 ((x i * Field.pw (root k) a % 998244353 : Nat) : Int)] w fun e w' => e = .returned (.int .u32 (((s + x i * Field.pw (root k) a % 998244353) % 998244353 : Nat) : Int)) ∧ w' = w) := fun w => by
            refine (Field.addMod_any _ _ w (by omega) (by omega) (by omega) (by omega)).mono ?_
            rintro e w' ⟨rfl, rfl⟩
            exact ⟨rfl, rfl⟩
          clear hst hna hnl hmsk hMl hpa hxi hae hsp hs
          generalize x i * Field.pw (root k) a % 998244353 = M at *
          generalize hS2 : (s + M) % 998244353 = S2 at *
          have hS2l : S2 < 998244353 := by rw [← hS2]; exact Nat.mod_lt _ (by decide)
          clear hS2
          generalize ((x i : Nat) : Int) = XI at *
          generalize ((Field.pw (root k) a : Nat) : Int) = PA at *
          have HS2 : Hid (S2 < 998244353) := hS2l
          clear hS2l
          go_wp2_with fail
          refine Text.wp_text (by kernel_rfl) (by kernel_rfl) ⟨fun c a w h => (by obtain ⟨_, _, h, _⟩ := h; cases h), fun a w h => (by obtain ⟨_, h, _⟩ := h; cases h)⟩ ?_
          intro K hK
          go_wp2_with fail
          refine (HMM.out _).mono ?_
          rintro e w6 ⟨rfl, rfl⟩
          go_wp2_with fail
          refine (HAA.out _).mono ?_
          rintro e w6 ⟨rfl, rfl⟩
          go_wp2_with fail
          refine hK _ _ (by rfl) ?_
          have hm3 : bits .and .i64 ((a : Int) + (j : Int)) ((n : Int) - 1) = (((a + j) % n : Nat) : Int) := HM.out
          generalize (a + j) % n = A2 at *
          go_wp2_with fail
          go_roundw
          case rel => exact ⟨i + 1, S2, A2, by omega, by go_num, HS2.out, rfl, HH.out.1, HH.out.2.2, HH.out.2.1, rfl, hy.drew, hW.drew, hx.drew, hws.drew, hS.drew⟩
          case measure => simp [intOf]; omega
        · have ein : i = n := by omega
          have dj := hy j hlt
          rw [Nat.zero_add] at dj
          have fj := hW j hlt
          rw [Nat.zero_add] at fj
          have hlst : toF s = dft (toF (root k)) (fun i => toF (x i)) n j := by rw [hsp, ein]; rfl
          have HL : Hid (s < 998244353 ∧ toF s = dft (toF (root k)) (fun i => toF (x i)) n j) := ⟨hs, hlst⟩
          clear hlst hsp hae ein
          go_wp2_with fail
          go_roundw
          case rel =>
            refine ⟨j + 1, upd y j s, by omega, by go_num, ?_, ?_, hW.setCell _ _, hx.setOther (by omega), hws.setOther (by omega), hS.setCell _ _ _ (by omega)⟩
            · have := hy.setCell j s hlt
              rw [Nat.zero_add] at this
              exact this
            · intro i hi
              by_cases e : i = j
              · subst e; rw [upd_same]; exact HL.out
              · rw [upd_other _ _ _ _ e]; exact HYD.out i (by omega)
          case measure => simp [intOf]; omega
    · go_wp2_with fail
      go_ret
      have e : j = n := by omega
      subst e
      exact ⟨C, rfl, hCw, y, hy, HYD.out, hS⟩
end Go.Proofs.Ygctaj.Ntt
