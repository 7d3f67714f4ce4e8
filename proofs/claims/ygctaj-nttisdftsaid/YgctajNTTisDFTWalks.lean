import Derived.Test.YgctajNttDft
namespace Go.Proofs.Ygctaj.nTTisDFT
open Go.RowKit Mem Dft Ntt
set_option linter.unusedVariables false

theorem info23 : (Tajg.prog.info? 23).map (fun i => (i.zero, i.size, i.bytes)) = some (some (.int .u64 0), 1, 8) := by kernel_rfl

set_option maxRecDepth 20000 in
set_option maxHeartbeats 400000 in
theorem walk_none (a : Option Addr) (cap : Nat) (w : World) :
    Calls Tajg.prog 12 #[.slice a 0 cap] w fun e w' => e = .returned (.bool true) ∧ Same w w' := by
  go_enter Tajg.func12, Tajg.ntmps12
  go_wp2_with fail
  refine (elements_none _ _ _).mono ?_
  rintro e w1 ⟨rfl, hs⟩
  go_wp2_with fail
  go_ret
  exact ⟨rfl, hs⟩

set_option maxRecDepth 100000 in
set_option maxHeartbeats 2000000 in
theorem walk_some (b off len cap : Nat) (z : Nat → Nat) (w : World) (hn : len ≤ 9223372036854775807) (hl : 1 ≤ len) (hz : Rd .u32 w b off len z) (hzl : ∀ i, i < len → z i < 4294967296) :
    Calls Tajg.prog 12 #[.slice (some ⟨b, off, none⟩) len cap] w fun e w' => e = .returned (.bool true) ∧ Same w w' := by
  go_enter Tajg.func12, Tajg.ntmps12
  go_wp2_with fail
  refine (elements_any b off len cap z w hn hl hz hzl).mono ?_
  rintro e w1 ⟨k, n, B, hk, hnk, rfl, hB, hx, hwx, hs⟩
  clear hz hzl
  have HN : Hid (n = 2 ^ k) := hnk
  have hp11 : 2 ^ k ≤ 2 ^ 11 := Nat.pow_le_pow_right (by decide) hk
  have hpos : 0 < n := by rw [hnk]; exact Nat.two_pow_pos k
  have hn2 : n ≤ 2048 := by omega
  have HW1 : Hid (pwF (toF (root k)) n = 1) := by show _ = _; rw [hnk]; exact root_full k (by omega)
  have hxl : ∀ i, i < n → (fun i => z i % 998244353) i < 998244353 := fun i _ => Nat.mod_lt _ (by decide)
  clear hnk hp11 hwx
  generalize (fun i => z i % 998244353) = x at *
  go_wp2_with fail
  refine (Field.root_low k _ (by omega)).mono ?_
  rintro e w2 ⟨rfl, rfl⟩
  rw [show Field.pw 3 (998244352 / 2 ^ k) = root k from rfl]
  have hrl := root_lt k
  generalize hr : root k = r at *
  have HR : Hid (root k = r) := hr
  clear hr
  have hBs := hx.lt hpos
  go_wp2_with (at_make; refine wpList_mk n .u64 23 8 _ _ (by rfl) (by rfl) rfl rfl Tajg.underlying61 info23 (by omega) (by omega) ?_; intro C w3 hC1 hC2 hR hW hS; have c0 := hR 0 hpos; have f0 := hW 0 hpos; rw [Nat.zero_add] at c0 f0)
  have hx3 := hx.same hS
  have hS3 : Same w w3 := hs.trans hS
  have hwsS : Rd .u64 (w3.setCell ⟨C, 0, none⟩ (.int .u64 1)) C 0 n (mix 1 (Field.pw r) (fun _ => 0)) := by
    have := (hR.start (Field.pw r)).step hpos 1 (by rw [Field.pw_zero]; rfl)
    rw [Nat.zero_add] at this
    exact this
  have hWS := hW.setCell ⟨C, 0, none⟩ (.int .u64 1)
  have hxS : Rd .u32 (w3.setCell ⟨C, 0, none⟩ (.int .u64 1)) B 0 n x := hx3.setOther (by omega)
  have hSS : Same w (w3.setCell ⟨C, 0, none⟩ (.int .u64 1)) := hS3.setCell _ _ _ (by have := hs.size; omega)
  have hCB : B < C := by omega
  have hCw : w.heap.size ≤ C := by have := hs.size; omega
  clear hR hW hS hx3 hS3 hx c0 f0
  generalize w3.setCell ⟨C, 0, none⟩ (.int .u64 1) = w4 at *
  go_loopw [8] (fun i wr => ∃ i' : Nat, 1 ≤ i' ∧ i' ≤ n ∧ i = .int .i64 i' ∧ Rd .u64 wr C 0 n (mix i' (Field.pw r) (fun _ => 0)) ∧ Wr wr C 0 n ∧ Rd .u32 wr B 0 n x ∧ Same w wr) (fun i _ => n - (intOf i).toNat)
  case atStart => exact ⟨1, by omega, by omega, rfl, hwsS, hWS, hxS, hSS⟩
  case round =>
    clear hwsS hWS hxS hSS
    obtain ⟨i, hi1, hi, rfl, hws, hW, hx, hS⟩ := hrel
    by_cases hlt : i < n
    · have cp := hws (i - 1) (by omega)
      rw [mix_lt _ _ (by omega), Nat.zero_add] at cp
      have ci := hws.at hlt
      rw [Nat.zero_add] at ci
      have fi := hW i hlt
      rw [Nat.zero_add] at fi
      have hpl := Field.pw_lt r (i - 1)
      have hpm : Field.pw r (i - 1) * r ≤ 998244352 * 998244352 := Nat.mul_le_mul (by omega) (by omega)
      have b1 : ((Field.pw r (i - 1) : Nat) : Int) * (r : Int) ≤ 996491786434572000 := by rw [← Int.natCast_mul]; omega
      have b0 : 0 ≤ ((Field.pw r (i - 1) : Nat) : Int) * (r : Int) := by rw [← Int.natCast_mul]; omega
      have HV : Hid (((Field.pw r (i - 1) : Nat) : Int) * (r : Int) % 998244353 = ((Field.pw r i : Nat) : Int)) := by
        show _ = _
        have e : i = i - 1 + 1 := by omega
        rw [e, Field.pw_succ, Nat.add_sub_cancel]; simp
      clear hpl hpm
      generalize ((Field.pw r (i - 1) : Nat) : Int) = P at *
      go_wp2_with fail
      go_roundw
      case rel =>
        refine ⟨i + 1, by omega, by omega, by go_num, ?_, hW.setCell _ _, hx.setOther (by omega), hS.setCell _ _ _ (by omega)⟩
        have := hws.step hlt _ HV.out
        rw [Nat.zero_add] at this
        exact this
      case measure => simp [intOf]; omega
    · have hws2 := hws.done (by omega)
      clear hws hW
      have hdi : decide ((i : Int) < (n : Int)) = false := by simp; omega
      go_wp2_with (at_make; refine wpList_mk n .u32 50 4 _ _ (by rfl) (by rfl) rfl rfl Tajg.underlying58 info50 (by omega) (by omega) ?_; intro D w5 hD1 hD2 hR hW hS5)
      have hx5 := hx.same hS5
      have hws5 := hws2.same hS5
      have hSw5 : Same w w5 := hS.trans hS5
      have hDB : B < D := Nat.lt_of_lt_of_le (hx.lt hpos) hD1
      have hDC : C < D := Nat.lt_of_lt_of_le (hws2.lt hpos) hD1
      have hDw : w.heap.size ≤ D := by omega
      clear hx hws2 hS hS5
      go_loopw [10] (fun j wr => ∃ j' : Nat, ∃ y : Nat → Nat, j' ≤ n ∧ j = .int .i64 j' ∧ Rd .u32 wr D 0 n y ∧ (∀ i, i < j' → y i < 998244353 ∧ toF (y i) = dft (toF r) (fun i => toF (x i)) n i) ∧ Wr wr D 0 n ∧ Rd .u32 wr B 0 n x ∧ Rd .u64 wr C 0 n (Field.pw r) ∧ Same w wr)
        (fun j _ => n - (intOf j).toNat)
      case atStart => exact ⟨0, fun _ => 0, Nat.zero_le _, rfl, hR, fun i hi => by omega, hW, hx5, hws5, hSw5⟩
      case round =>
        clear hR hW hx5 hws5 hSw5
        obtain ⟨j, y, hj, rfl, hy, hyd, hW, hx, hws, hS⟩ := hrel
        have HYD : Hid (∀ i, i < j → y i < 998244353 ∧ toF (y i) = dft (toF r) (fun i => toF (x i)) n i) := hyd
        clear hyd
        by_cases hlt : j < n
        · go_wp2_with fail
          go_loopw [11, 12] (fun s i wr => ∃ i' s' : Nat, i' ≤ n ∧ i = .int .i64 i' ∧ s' < 998244353 ∧ s = .int .u64 s' ∧ toF s' = Ntt.part (toF r) (fun i => toF (x i)) j i' ∧
              Rd .u32 wr D 0 n y ∧ Wr wr D 0 n ∧ Rd .u32 wr B 0 n x ∧ Rd .u64 wr C 0 n (Field.pw r) ∧ Same w wr)
            (fun _ i _ => n - (intOf i).toNat)
          case atStart => exact ⟨0, 0, Nat.zero_le _, rfl, by decide, rfl, rfl, hy, hW, hx, hws, hS⟩
          case round =>
            clear hy hW hx hws hS
            obtain ⟨i, s, hi, rfl, hs, rfl, hsp, hy, hW, hx, hws, hS⟩ := hrel
            by_cases hil : i < n
            · have hia : i * j % n < n := Nat.mod_lt _ hpos
              have ci := hx i hil
              have ca := hws (i * j % n) hia
              rw [Nat.zero_add] at ca ci
              have hxi := hxl i hil
              have hpa := Field.pw_lt r (i * j % n)
              have hst := part_step (toF r) (fun i => toF (x i)) n j i HW1.out s (Field.pw r (i * j % n)) (x i) hsp rfl (by rw [toF_pw]) (x i * Field.pw r (i * j % n)) (by rw [toF_mul])
              have hpm : x i * Field.pw r (i * j % n) ≤ 998244352 * 998244352 := Nat.mul_le_mul (by omega) (by omega)
              have b1 : ((x i : Nat) : Int) * ((Field.pw r (i * j % n) : Nat) : Int) ≤ 996491786434572000 := by rw [← Int.natCast_mul]; omega
              have b0 : 0 ≤ ((x i : Nat) : Int) * ((Field.pw r (i * j % n) : Nat) : Int) := by rw [← Int.natCast_mul]; omega
              have hij : i * j ≤ 2048 * 2048 := Nat.mul_le_mul (by omega) (by omega)
              have b2 : (i : Int) * (j : Int) ≤ 4194304 := by rw [← Int.natCast_mul]; omega
              have b3 : 0 ≤ (i : Int) * (j : Int) := by rw [← Int.natCast_mul]; omega
              have b4 : (i : Int) * (j : Int) % (n : Int) < (n : Int) := Int.emod_lt_of_pos _ (by omega)
              have b5 : 0 ≤ (i : Int) * (j : Int) % (n : Int) := Int.emod_nonneg _ (by omega)
              have bs : (s : Int) < 998244353 := by omega
              have HS2 : Hid ((((s : Int) + ((x i : Nat) : Int) * ((Field.pw r (i * j % n) : Nat) : Int)) % 998244353 = (((s + x i * Field.pw r (i * j % n)) % 998244353 : Nat) : Int)) ∧ toF ((s + x i * Field.pw r (i * j % n)) % 998244353) = Ntt.part (toF r) (fun i => toF (x i)) j (i + 1)) := ⟨by simp, hst⟩
              have bx0 : 0 ≤ ((x i : Nat) : Int) := by omega
              have bx1 : ((x i : Nat) : Int) < 4294967296 := by omega
              clear hst hpm hij hpa hxi hsp hs
              have bs0 : 0 ≤ (s : Int) := by omega
              generalize ((x i : Nat) : Int) = XI at *
              generalize ((Field.pw r (i * j % n) : Nat) : Int) = PA at *
              generalize (s : Int) = SS at *
              go_wp2_with fail
              refine Text.wp_text (by kernel_rfl) (by kernel_rfl) ⟨fun c a w h => by exact absurd h.2.1 (by simp), fun a w h => by exact absurd h.1 (by simp)⟩ ?_
              intro K hK
              go_wp2_with fail
              refine hK _ _ (by rfl) ?_
              go_wp2_with fail
              go_roundw
              case rel => exact ⟨i + 1, _, by omega, by go_num, Nat.mod_lt _ (by decide), congrArg (Value.int .u64) HS2.out.1, HS2.out.2, hy.drew, hW.drew, hx.drew, hws.drew, hS.drew⟩
              case measure => simp [intOf]; omega
            · have ein : i = n := by omega
              have dj := hy j hlt
              rw [Nat.zero_add] at dj
              have fj := hW j hlt
              rw [Nat.zero_add] at fj
              have hlst : toF s = dft (toF r) (fun i => toF (x i)) n j := by rw [hsp, ein]; rfl
              have HL : Hid (s < 998244353 ∧ toF s = dft (toF r) (fun i => toF (x i)) n j) := ⟨hs, hlst⟩
              have bs0 : (0 : Int) ≤ (s : Int) := by omega
              have bs1 : (s : Int) < 4294967296 := by omega
              clear hlst hsp ein hs
              generalize hSS : (s : Int) = SS at *
              have HS3 : Hid (SS = (s : Int)) := hSS.symm
              clear hSS
              go_wp2_with fail
              go_roundw
              case rel =>
                refine ⟨j + 1, upd y j s, by omega, by go_num, ?_, ?_, hW.setCell _ _, hx.setOther (by omega), hws.setOther (by omega), hS.setCell _ _ _ (by omega)⟩
                · have := hy.setCell j s hlt
                  rw [Nat.zero_add, ← HS3.out] at this
                  exact this
                · intro i hi
                  by_cases e : i = j
                  · subst e; rw [upd_same]; exact HL.out
                  · rw [upd_other _ _ _ _ e]; exact HYD.out i (by omega)
              case measure => simp [intOf]; omega
        · have ejn : j = n := by omega
          have hyd : ∀ i, i < n → y i < 998244353 ∧ toF (y i) = dft (toF r) (fun i => toF (x i)) n i := fun i hi => HYD.out i (by omega)
          clear hws
          have HYE : Hid (∀ i, i < n → y i < 998244353 ∧ toF (y i) = dft (toF r) (fun i => toF (x i)) n i) := hyd
          clear hyd ejn
          go_wp2_with fail
          refine (copyE_any B 0 n n x _ (by omega) hx).mono ?_
          rintro e w6 ⟨G, rfl, hG, hg, hwg, hs6⟩
          have hx6 := hx.same hs6
          have hy6 := hy.same hs6
          have hGB : B < G := Nat.lt_of_lt_of_le (hx.lt hpos) hG
          have hGD : D < G := Nat.lt_of_lt_of_le (hy.lt hpos) hG
          clear hx hy
          go_wp2_with fail
          refine (forward_any G 0 k n n x _ hk HN.out (Nat.le_refl _) hg hwg hxl).mono ?_
          rintro e w7 ⟨rfl, u, hu7, hd, hc7⟩
          have hx7 := hx6.kept hc7 (by omega)
          have hy7 := hy6.kept hc7 (by omega)
          rw [HR.out] at hd
          have huy : ∀ i, i < n → u i = y i := fun i hi => toF_inj (hd i hi).1 (HYE.out i hi).1 (by rw [(hd i hi).2, (HYE.out i hi).2])
          have hu7y := hu7.congr huy
          clear hx6 hy6 hg hwg hd hu7 huy
          go_wp2_with fail
          refine (sameElems_any G 0 D 0 n n n y _ (by omega) hu7y hy7).mono ?_
          rintro e w8 ⟨rfl, hs8⟩
          have hx8 := hx7.same hs8
          have hy8 := hy7.same hs8
          clear hx7 hy7 hu7y
          go_wp2_with fail
          refine (dft_any B 0 k n n x _ hk HN.out hx8 hxl).mono ?_
          rintro e w9 ⟨E, rfl, hE, v, hv9, hd, hs9⟩
          have hy9 := hy8.same hs9
          rw [HR.out] at hd
          have hvy : ∀ i, i < n → v i = y i := fun i hi => toF_inj (hd i hi).1 (HYE.out i hi).1 (by rw [(hd i hi).2, (HYE.out i hi).2])
          have hv9y := hv9.congr hvy
          clear hx8 hy8 hd hv9 hvy
          go_wp2_with fail
          refine (sameElems_any E 0 D 0 n n n y _ (by omega) hv9y hy9).mono ?_
          rintro e w10 ⟨rfl, hs10⟩
          go_wp2_with fail
          go_ret
          exact ⟨rfl, ((((hS.trans hs6).trans_new hc7 (by omega)).trans hs8).trans hs9).trans hs10⟩

theorem walk (a0 : Option Addr) (len0 cap0 : Nat) (z0 : List Int) (w : World) (w0 : IsRow .u32 w a0 len0 cap0 z0) :
    Calls Tajg.prog 12 #[.slice a0 len0 cap0] w fun e w' => e = .returned (.bool true) ∧ Below w.heap.size w w' := by
  have key : Calls Tajg.prog 12 #[.slice a0 len0 cap0] w fun e w' => e = .returned (.bool true) ∧ Same w w' := by
    rcases w0 with ⟨rfl, rfl, rfl, rfl⟩ | ⟨x, rfl, hl, hm, hz, hc, hw⟩
    · exact walk_none _ _ _
    · by_cases h0 : len0 = 0
      · subst h0; exact walk_none _ _ _
      · obtain ⟨b, off, rfl, hr, hb⟩ := row_u32 hl hz hc hw (by omega)
        exact walk_some b off len0 cap0 _ w (by unfold maxLen at hm; omega) (by omega) hr hb
  refine key.mono fun e w' ⟨he, hs⟩ => ⟨he, Chg.below (Nat.le_refl _) (Same.chg hs)⟩
end Go.Proofs.Ygctaj.nTTisDFT
