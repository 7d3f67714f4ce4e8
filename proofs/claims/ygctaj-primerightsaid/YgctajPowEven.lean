/- nlong.powEven, walked. -/
import Derived.Test.YgctajPowPlain
import Derived.Test.YgctajOddPart2
import Derived.Test.YgctajPowOdd
import Derived.Test.YgctajBinEnter
import Derived.Deep.RegionHeld3
namespace Go.Proofs.Ygctaj.Nt
open Go.RowKit Mem
set_option linter.unusedVariables false

set_option maxRecDepth 100000 in
set_option maxHeartbeats 4000000 in
theorem powEven_any (a e m : Value) (A E N : Nat) (w : World) (ha : Nm w a A) (he : Nm w e E) (hm : Nm w m N) (hN0 : N ≠ 0) (heven : N % 2 = 0) (hdA : dl A ≤ 1000) (hdE : dl E ≤ 1000) (hdN : dl N ≤ 1000) :
    Calls Tajg.prog 68 #[a, e, m] w fun e w' => ∃ v', e = .returned v' ∧ Nm w' v' (A ^ E % N) ∧ Fr w.heap.size w' v' ∧ Same w w' := by
  have HA : Hid (Nm w a A) := ha
  have HE : Hid (Nm w e E) := he
  have HN : Hid (Nm w m N) := hm
  clear ha he hm
  go_enter Tajg.func68, Tajg.ntmps68
  go_wp2_with fail
  refine (oddPart_any m N _ hN0 (by omega) HN.out).mono ?_
  rintro e1 w1 ⟨mo, M, k, rfl, hNk, hodd, hmo, hs1⟩
  have hk8 : k ≤ 8000 := twos_le N M k 1000 hNk hN0 hdN
  have hk0 : 1 ≤ k := by
    rcases Nat.eq_zero_or_pos k with h | h
    · subst h; rw [Nat.pow_zero, Nat.mul_one] at hNk; omega
    · exact h
  have hM0 : M ≠ 0 := by omega
  have hdM : dl M ≤ 1000 := Nat.le_trans (dl_mono (by rw [hNk]; exact Nat.le_mul_of_pos_right _ (Nat.two_pow_pos k))) hdN
  obtain ⟨n, Hn⟩ : ∃ n, Hid (n = (k + 31) / 32) := ⟨_, rfl⟩
  have en : ((k : Int) + 31) / 32 = (n : Int) := by have := Hn.out; omega
  have hn1 : 1 ≤ n := by have := Hn.out; omega
  have hn2 : n ≤ 2000 := by have := Hn.out; omega
  have HKn : Hid (k ≤ 32 * n) := by have := Hn.out; show _ ≤ _; omega
  have HNk : Hid (N = M * 2 ^ k) := hNk
  have HMo : Hid (Nm w1 mo M) := hmo
  have HA1 : Hid (Nm w1 a A) := HA.out.same hs1
  have HE1 : Hid (Nm w1 e E) := HE.out.same hs1
  have HS1 : Hid (Same w w1) := hs1
  clear hNk hmo hs1 HA HE HN
  have HB0 : Hid ((w1.alloc (Obj.cells #[Value.int IntKind.i64 (k : Int), Value.int IntKind.i64 (n : Int)] 129)).cell? ⟨w1.heap.size, 0, none⟩ = some (.int .i64 (k : Int)) ∧ (w1.alloc (Obj.cells #[Value.int IntKind.i64 (k : Int), Value.int IntKind.i64 (n : Int)] 129)).cell? ⟨w1.heap.size, 1, none⟩ = some (.int .i64 (n : Int))) := by
    refine ⟨?_, ?_⟩ <;> (rw [World.cell?_alloc_new]; rfl)
  have HSb : Hid (Same w1 (w1.alloc (Obj.cells #[Value.int IntKind.i64 (k : Int), Value.int IntKind.i64 (n : Int)] 129))) := (Chg.refl _ _).alloc _
  go_wp2_with fail
  have hZl := lt_of_cell HB0.out.1
  generalize World.alloc w1 _ = W2 at *
  have HA2 : Hid (Nm W2 a A) := HA1.out.same HSb.out
  have HE2 : Hid (Nm W2 e E) := HE1.out.same HSb.out
  have HM2 : Hid (Nm W2 mo M) := HMo.out.same HSb.out
  have HS2 : Hid (Same w W2) := HS1.out.trans HSb.out
  obtain ⟨Z, HZe⟩ : ∃ Z, Hid (Z = w1.heap.size) := ⟨_, rfl⟩
  rw [← HZe.out] at HB0 ⊢
  clear HA1 HE1 HMo HS1 HSb hZl HZe
  refine (div_any a mo (dl A) (dl M) A M _ (by omega) (by omega) HA2.out.na HM2.out.na hM0).mono ?_
  rintro e2 w3 ⟨q, low, rfl, hq, hlow, -, -, hs3⟩
  have HA3 : Hid (Nm w3 a A) := HA2.out.same hs3
  have HE3 : Hid (Nm w3 e E) := HE2.out.same hs3
  have HM3 : Hid (Nm w3 mo M) := HM2.out.same hs3
  have HS3 : Hid (Same w w3) := HS2.out.trans hs3
  have HB3 : Hid (w3.cell? ⟨Z, 0, none⟩ = some (.int .i64 (k : Int)) ∧ w3.cell? ⟨Z, 1, none⟩ = some (.int .i64 (n : Int))) := ⟨cellK hs3 HB0.out.1 id, cellK hs3 HB0.out.2 id⟩
  have HL3 : Hid (Nm w3 low (A % M)) := hlow
  have hdL : dl (A % M) ≤ 1000 := Nat.le_trans (dl_mono (Nat.mod_le _ _)) hdA
  clear hq hlow hs3 HA2 HE2 HM2 HS2 HB0
  go_wp2_with fail
  refine (powOdd_any low e mo (A % M) E M _ HL3.out HE3.out HM3.out hodd hdL hdE hdM).mono ?_
  rintro e3 w4 ⟨od, rfl, hod, -, hs4⟩
  rw [← Nat.pow_mod] at hod
  have HA4 : Hid (Nm w4 a A) := HA3.out.same hs4
  have HE4 : Hid (Nm w4 e E) := HE3.out.same hs4
  have HM4 : Hid (Nm w4 mo M) := HM3.out.same hs4
  have HS4 : Hid (Same w w4) := HS3.out.trans hs4
  have HB4 : Hid (w4.cell? ⟨Z, 0, none⟩ = some (.int .i64 (k : Int)) ∧ w4.cell? ⟨Z, 1, none⟩ = some (.int .i64 (n : Int))) := ⟨cellK hs4 HB3.out.1 id, cellK hs4 HB3.out.2 id⟩
  have HO4 : Hid (Nm w4 od (A ^ E % M)) := hod
  have hdO : dl (A ^ E % M) ≤ 1000 := Nat.le_trans (dl_mono (Nat.le_of_lt (Nat.mod_lt _ (by omega)))) hdM
  clear hod hs4 HA3 HE3 HM3 HS3 HB3 HL3 hdL
  obtain ⟨O, HOe⟩ : ∃ O, Hid (O = A ^ E % M) := ⟨_, rfl⟩
  rw [← HOe.out] at HO4 hdO
  go_wp2_with fail
  have z0d : w4.drew.cell? ⟨Z, 0, none⟩ = some (.int .i64 (k : Int)) := HB4.out.1
  have z1d : w4.drew.cell? ⟨Z, 1, none⟩ = some (.int .i64 (n : Int)) := HB4.out.2
  have HSd : Hid (Same w4 w4.drew) := (Chg.refl _ _).drew
  have HAd : Hid (Nm w4.drew a A) := HA4.out.same HSd.out
  have HEd : Hid (Nm w4.drew e E) := HE4.out.same HSd.out
  have HOd : Hid (Nm w4.drew od O) := HO4.out.same HSd.out
  have hOl : O % 256 ^ (4 * n) ≤ 256 ^ (4 * n) := Nat.le_of_lt (Nat.mod_lt _ (pp _))
  go_region_held3 (fun w' => w'.cell? ⟨Z, 0, none⟩ = some (.int .i64 (k : Int)) ∧ w'.cell? ⟨Z, 1, none⟩ = some (.int .i64 (n : Int)))
    (first | exact ⟨cellK hs8 (cellK hs7 (cellK hs6 (cellK hs5 z0d id) id) id) id, cellK hs8 (cellK hs7 (cellK hs6 (cellK hs5 z1d id) id) id) id⟩ | exact ⟨cellK hs7 (cellK hs6 (cellK hs5 z0d id) id) id, cellK hs7 (cellK hs6 (cellK hs5 z1d id) id) id⟩ | exact ⟨cellK hs6 (cellK hs5 z0d id) id, cellK hs6 (cellK hs5 z1d id) id⟩ | exact ⟨cellK hs5 z0d id, cellK hs5 z1d id⟩ | exact ⟨z0d, z1d⟩)
    (first
      | (go_at_call 103; refine (minus_any (k : Int) n B6 0 n B7 0 n (bx n (A % 256 ^ (4 * n)) E) (O % 256 ^ (4 * n)) _ hn1 (by omega) (hR6.same hs7) hR7 (Nat.le_refl _) (Nat.le_refl _) hOl).mono ?_; rintro e w8 ⟨B8, rfl, -, hR8, hC8, hs8⟩)
      | (go_at_call 105; refine (benter_any (k : Int) n O od _ ((HOd.out.same hs5).same hs6) (by omega) hn1 hn2).mono ?_; rintro e w7 ⟨B7, rfl, -, hR7, hC7, hs7⟩)
      | (go_at_call 104; refine (bpow_any (k : Int) n B5 (A % 256 ^ (4 * n)) E e _ hn1 hn2 hR5 (HEd.out.same hs5) hdE).mono ?_; rintro e w6 ⟨B6, rfl, -, hR6, hC6, hs6⟩)
      | (go_at_call 105; refine (benter_any (k : Int) n A a _ HAd.out (by omega) hn1 hn2).mono ?_; rintro e w5 ⟨B5, rfl, -, hR5, hC5, hs5⟩))
  have HS8 : Hid (Same w4 w8) := (((HSd.out.trans hs5).trans hs6).trans hs7).trans hs8
  obtain ⟨D, HD⟩ : ∃ D, Hid (D = bmn n (bx n (A % 256 ^ (4 * n)) E) (O % 256 ^ (4 * n))) := ⟨_, rfl⟩
  rw [← HD.out] at hR8
  have HR8 : Hid (Rd .u32 w8 B8 0 n (dw D)) := hR8
  have HM8 : Hid (Nm w8 mo M) := HM4.out.same HS8.out
  have HO8 : Hid (Nm w8 od O) := HO4.out.same HS8.out
  have HB8 : Hid (w8.cell? ⟨Z, 0, none⟩ = some (.int .i64 (k : Int)) ∧ w8.cell? ⟨Z, 1, none⟩ = some (.int .i64 (n : Int))) := ⟨cellK HS8.out HB4.out.1 id, cellK HS8.out HB4.out.2 id⟩
  have HSw : Hid (Same w w8) := HS4.out.trans HS8.out
  clear hR5 hR6 hR7 hR8 hC5 hC6 hC7 hC8 hs5 hs6 hs7 hs8 z0d z1d hOl HAd HEd HOd HSd HS8 HA4 HE4 HM4 HO4 HB4 HS4
  go_wp2_with fail
  have z0d : w8.drew.cell? ⟨Z, 0, none⟩ = some (.int .i64 (k : Int)) := HB8.out.1
  have z1d : w8.drew.cell? ⟨Z, 1, none⟩ = some (.int .i64 (n : Int)) := HB8.out.2
  have HSd : Hid (Same w8 w8.drew) := (Chg.refl _ _).drew
  have HMd : Hid (Nm w8.drew mo M) := HM8.out.same HSd.out
  have HRd : Hid (Rd .u32 w8.drew B8 0 n (dw D)) := HR8.out.same HSd.out
  have hMl : M % 256 ^ (4 * n) ≤ 256 ^ (4 * n) := Nat.le_of_lt (Nat.mod_lt _ (pp _))
  have hModd := odd_mod M n hn1 hodd
  go_region_held3 (fun w' => w'.cell? ⟨Z, 0, none⟩ = some (.int .i64 (k : Int)) ∧ w'.cell? ⟨Z, 1, none⟩ = some (.int .i64 (n : Int)))
    (first | exact ⟨cellK hs7 (cellK hs6 (cellK hs5 z0d id) id) id, cellK hs7 (cellK hs6 (cellK hs5 z1d id) id) id⟩ | exact ⟨cellK hs6 (cellK hs5 z0d id) id, cellK hs6 (cellK hs5 z1d id) id⟩ | exact ⟨cellK hs5 z0d id, cellK hs5 z1d id⟩ | exact ⟨z0d, z1d⟩)
    (first
      | (go_at_call 106; refine (btimes_any (k : Int) n B8 0 n B6 0 n D V _ hn1 (by omega) ((HRd.out.same hs5).same hs6) hR6 (Nat.le_refl _) (Nat.le_refl _)).mono ?_; rintro e w7 ⟨B7, rfl, hB7, hR7, hC7, hs7⟩)
      | (go_at_call 107; refine (inverse_any k n B5 (M % 256 ^ (4 * n)) _ hn1 hn2 HKn.out hModd hMl hR5 hC5).mono ?_; rintro e w6 ⟨B6, V, rfl, hV, hR6, hC6, hs6⟩)
      | (go_at_call 105; refine (benter_any (k : Int) n M mo _ HMd.out (by omega) hn1 hn2).mono ?_; rintro e w5 ⟨B5, rfl, -, hR5, hC5, hs5⟩))
  have HS7 : Hid (Same w8 w7) := ((HSd.out.trans hs5).trans hs6).trans hs7
  have HV : Hid ((2 : Int) ^ k ∣ (M : Int) * (V : Int) - 1) := inv_mod M V k n HKn.out hV
  obtain ⟨X, HX⟩ : ∃ X, Hid (X = D * V % 256 ^ (4 * n)) := ⟨_, rfl⟩
  rw [← HX.out] at hR7
  have HXl : Hid (X < 256 ^ (4 * n)) := by show _ < _; rw [HX.out]; exact Nat.mod_lt _ (pp _)
  have HR7 : Hid (Rd .u32 w7 B7 0 n (dw X)) := hR7
  have HC7 : Hid (Cl w7 B7) := hC7
  have HM7 : Hid (Nm w7 mo M) := HM8.out.same HS7.out
  have HO7 : Hid (Nm w7 od O) := HO8.out.same HS7.out
  have z1 := cellK HS7.out HB8.out.2 id
  have HSw7 : Hid (Same w w7) := HSw.out.trans HS7.out
  have HB78 : Hid (w8.heap.size ≤ B7) := by
    have h2 := HSd.out.size
    have h3 := hs5.size
    have h4 := hs6.size
    show _ ≤ _
    omega
  have hB7w : w.heap.size ≤ B7 := by
    have h1 := HSw.out.size
    have h2 := HSd.out.size
    have h3 := hs5.size
    have h4 := hs6.size
    omega
  have HB7Z : Hid (B7 ≠ Z) := by
    have h0 := lt_of_cell HB8.out.2
    have h2 := HSd.out.size
    have h3 := hs5.size
    have h4 := hs6.size
    show B7 ≠ Z
    have h5 : Z < w8.heap.size := h0
    omega
  have HFin : Hid (O + M * (X % 2 ^ k) = A ^ E % N) := by
    show _ = _
    have h := even_pow A E M k n V HKn.out hodd HV.out
    rw [← HOe.out, ← HD.out, ← HX.out, ← HNk.out] at h
    exact h
  clear hR5 hR6 hR7 hC5 hC6 hC7 hs5 hs6 hs7 z0d z1d hMl hModd HMd HRd HSd HR8 HB8 HSw hV HV HX HD HOe
  obtain ⟨t, Ht⟩ : ∃ t, Hid (t = k % 32) := ⟨_, rfl⟩
  have et : (k : Int) % 32 = (t : Int) := by have := Ht.out; omega
  have ht : t < 32 := by have := Ht.out; omega
  by_cases ht0 : t = 0
  · subst ht0
    have HXm : Hid (X % 2 ^ k = X) := by
      show _ = _
      rw [show k = 32 * n from by have := Hn.out; have := Ht.out; omega, ← pow256]
      exact Nat.mod_eq_of_lt HXl.out
    have hdX : dl X ≤ 8000 := Nat.le_trans (dl_le _ _ HXl.out) (by omega)
    go_wp2_with fail
    refine (digitsOf_any _ n X _ (by omega) ⟨_, _, rfl, Nat.le_refl _, HXl.out, fun _ => ⟨B7, 0, rfl, HR7.out, HC7.out⟩⟩).mono ?_
    rintro e9 w9 ⟨v9, rfl, hv9, -, hs9⟩
    have HM9 : Hid (Nm w9 mo M) := HM7.out.same hs9
    have HO9 : Hid (Nm w9 od O) := HO7.out.same hs9
    have HS9 : Hid (Same w w9) := HSw7.out.trans hs9
    have HV9 : Hid (Nm w9 v9 X) := hv9
    clear HM7 HO7 HSw7 HR7 HC7 z1 hs9 hv9
    go_wp2_with fail
    refine (Long.mulLong_any mo v9 _ _ M X _ (by omega) (by omega) HM9.out.na HV9.out.na).mono ?_
    rintro e10 w10 ⟨v10, rfl, hv10, -, hs10⟩
    have hdP : dl (M * X) ≤ 16000 := by
      refine Nat.le_trans (dl_le (dl M + dl X) _ ?_) (by omega)
      rw [Nat.pow_add]
      exact Nat.mul_lt_mul'' (lt_dl M) (lt_dl X)
    have HO10 : Hid (Nm w10 od O) := HO9.out.same hs10
    have HS10 : Hid (Same w w10) := HS9.out.trans hs10
    have HV10 : Hid (Nm w10 v10 (M * X)) := hv10
    clear HM9 HO9 HS9 HV9 hs10 hv10
    go_wp2_with fail
    refine (add_any od v10 _ _ O (M * X) _ (by omega) (by omega) HO10.out.na HV10.out.na).mono ?_
    rintro e11 w11 ⟨v11, rfl, hv11, hf11, hs11⟩
    have hF := HFin.out
    rw [HXm.out] at hF
    rw [hF] at hv11
    have HV11 : Hid (Nm w11 v11 (A ^ E % N)) := hv11
    clear hv11 hF HXm HFin
    go_wp2_with fail
    go_ret
    exact ⟨v11, rfl, HV11.out, hf11.mono HS10.out.size, HS10.out.trans hs11⟩
  · obtain ⟨m1, Hm1⟩ : ∃ m1, Hid (m1 + 1 = n) := ⟨n - 1, by show _ = _; omega⟩
    have em1 : (n : Int) - 1 = (m1 : Int) := by have := Hm1.out; omega
    have hm1 : m1 < n := by have := Hm1.out; omega
    have HKe : Hid (k = 32 * m1 + t) := by have := Hm1.out; have := Hn.out; have := Ht.out; show _ = _; omega
    have c1 := HR7.out m1 hm1
    have f1 := HC7.out (0 + m1)
    rw [Nat.zero_add] at c1 f1
    have hd1 := dw_lt X m1
    obtain ⟨DX, HDX⟩ : ∃ DX : Int, Hid (DX = ((dw X m1 : Nat) : Int)) := ⟨_, rfl⟩
    have d0 : 0 ≤ DX := by have := HDX.out; omega
    have d1 : DX < 4294967296 := by have := HDX.out; omega
    rw [← HDX.out] at c1
    obtain ⟨T, HT⟩ : ∃ T : Int, Hid ((2 : Int) ^ t = T) := ⟨_, rfl⟩
    have eT := HT.out
    have hT1 : 1 ≤ T ∧ T ≤ 2147483648 := by
      have h1 := Nat.two_pow_pos t
      have h2 : 2 ^ t ≤ 2 ^ 31 := Nat.pow_le_pow_right (by decide) (by omega)
      have h3 : T = ((2 ^ t : Nat) : Int) := by rw [← eT]; push_cast; rfl
      omega
    obtain ⟨hT1, hT2⟩ := hT1
    have hand : bits .and .u32 DX ((2 : Int) ^ t - 1) = DX % 2 ^ t := bits_mask .u32 32 (by decide) (fun n h0 h1 => by rw [IntKind.wrap_u32]; omega) t (by omega) DX d0 (by omega)
    obtain ⟨Y, HY⟩ : ∃ Y : Int, Hid (DX % 2 ^ t = Y) := ⟨_, rfl⟩
    rw [HY.out, eT] at hand
    have HYe : Hid (Y = ((dw (X % 2 ^ k) m1 : Nat) : Int)) := by
      show _ = _
      rw [HKe.out, dw_mask X m1 t ht, ← HY.out, HDX.out]
      push_cast
      rfl
    have y0 : 0 ≤ Y := by rw [HYe.out]; exact Int.natCast_nonneg _
    have y1 : Y < 4294967296 := by rw [HYe.out]; exact Int.ofNat_lt.2 (dw_lt _ _)
    clear hd1
    go_wp2_with fail
    refine Text.wp_text (by kernel_rfl) (by kernel_rfl) ⟨fun c a w h => (by obtain ⟨_, _, h, _⟩ := h; cases h), fun a w h => (by obtain ⟨_, h, _⟩ := h; cases h)⟩ ?_
    intro K hK
    go_wp2_with fail
    refine hK _ _ (by rfl) ?_
    clear hK
    obtain ⟨X2, HX2⟩ : ∃ X2, Hid (X2 = X % 2 ^ k) := ⟨_, rfl⟩
    have HXl2 : Hid (X2 < 256 ^ (4 * n)) := by show _ < _; rw [HX2.out]; exact Nat.lt_of_le_of_lt (Nat.mod_le _ _) HXl.out
    have hdX : dl X2 ≤ 8004 := Nat.le_trans (dl_le _ _ HXl2.out) (by have := Hn.out; omega)
    have HR72 : Hid (Rd .u32 (w7.setCell ⟨B7, m1, none⟩ (.int .u32 Y)).drew B7 0 n (dw X2)) := by
      have g := (HR7.out.setCell m1 (dw (X % 2 ^ k) m1) hm1).drew
      rw [Nat.zero_add, ← HYe.out] at g
      refine g.congr fun i hi => ?_
      rw [HX2.out]
      by_cases h : i = m1
      · subst h; rw [upd_same]
      · rw [upd_other _ _ _ _ h, HKe.out, dw_mask_lt X m1 t i (by have := Hm1.out; omega)]
    have HC72 : Hid (Cl (w7.setCell ⟨B7, m1, none⟩ (.int .u32 Y)).drew B7) := (HC7.out.setCell _ _).drew
    have hCg : Chg (fun q _ => q = B7) w7 (w7.setCell ⟨B7, m1, none⟩ (.int .u32 Y)).drew := ((Chg.refl (fun q _ => q = B7) w7).setCell _ _ _ (fun _ => rfl)).drew
    have HSw72 : Hid (Same w (w7.setCell ⟨B7, m1, none⟩ (.int .u32 Y)).drew) := HSw7.out.trans_new hCg (fun q o hq e => by omega)
    have HM72 : Hid (Nm (w7.setCell ⟨B7, m1, none⟩ (.int .u32 Y)).drew mo M) := HM8.out.same (HS7.out.trans_new hCg (fun q o hq e => by have := HB78.out; omega))
    have HO72 : Hid (Nm (w7.setCell ⟨B7, m1, none⟩ (.int .u32 Y)).drew od O) := HO8.out.same (HS7.out.trans_new hCg (fun q o hq e => by have := HB78.out; omega))
    clear HM7 HO7 HSw7 HR7 HC7 z1 c1 f1 hand eT HYe hCg y0 y1 d0 d1
    generalize World.drew (World.setCell w7 _ _) = W8 at *
    go_wp2_with fail
    refine (digitsOf_any _ n X2 _ (by omega) ⟨_, _, rfl, Nat.le_refl _, HXl2.out, fun _ => ⟨B7, 0, rfl, HR72.out, HC72.out⟩⟩).mono ?_
    rintro e9 w9 ⟨v9, rfl, hv9, -, hs9⟩
    have HM9 : Hid (Nm w9 mo M) := HM72.out.same hs9
    have HO9 : Hid (Nm w9 od O) := HO72.out.same hs9
    have HS9 : Hid (Same w w9) := HSw72.out.trans hs9
    have HV9 : Hid (Nm w9 v9 X2) := hv9
    clear HM72 HO72 HSw72 HR72 HC72 hs9 hv9
    go_wp2_with fail
    refine (Long.mulLong_any mo v9 _ _ M X2 _ (by omega) (by omega) HM9.out.na HV9.out.na).mono ?_
    rintro e10 w10 ⟨v10, rfl, hv10, -, hs10⟩
    have hdP : dl (M * X2) ≤ 16000 := by
      refine Nat.le_trans (dl_le (dl M + dl X2) _ ?_) (by omega)
      rw [Nat.pow_add]
      exact Nat.mul_lt_mul'' (lt_dl M) (lt_dl X2)
    have HO10 : Hid (Nm w10 od O) := HO9.out.same hs10
    have HS10 : Hid (Same w w10) := HS9.out.trans hs10
    have HV10 : Hid (Nm w10 v10 (M * X2)) := hv10
    clear HM9 HO9 HS9 HV9 hs10 hv10
    go_wp2_with fail
    refine (add_any od v10 _ _ O (M * X2) _ (by omega) (by omega) HO10.out.na HV10.out.na).mono ?_
    rintro e11 w11 ⟨v11, rfl, hv11, hf11, hs11⟩
    have hF := HFin.out
    rw [← HX2.out] at hF
    rw [hF] at hv11
    have HV11 : Hid (Nm w11 v11 (A ^ E % N)) := hv11
    clear hv11 hF HX2 HFin
    go_wp2_with fail
    go_ret
    exact ⟨v11, rfl, HV11.out, hf11.mono HS10.out.size, HS10.out.trans hs11⟩
end Go.Proofs.Ygctaj.Nt
