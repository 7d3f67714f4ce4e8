/- nlong.strong, walked. -/
import Derived.Test.YgctajPrimePass
import Derived.Test.YgctajPowMod
import Derived.Test.YgctajFactors
namespace Go.Proofs.Ygctaj.Nt
open Go.RowKit Mem Pq Num Long
set_option linter.unusedVariables false

theorem cmp_same (M : Nat) : cmpN M M = 0 := by unfold cmpN; rw [if_neg (by omega), if_pos rfl]
theorem cmp_off {M N : Nat} (h : M ≠ N) : (cmpN M N == 0) = false := by
  rw [beq_eq_false_iff_ne]; unfold cmpN; split <;> (try split) <;> omega

set_option maxRecDepth 100000 in
set_option maxHeartbeats 2000000 in
theorem strong_any (v : Value) (N a : Nat) (w : World) (hv : Nm w v N) (hN2 : 3 ≤ N) (hodd : N % 2 = 1) (hdN : dl N ≤ 100) (ha0 : 0 < a) (ha : a ≤ 255) :
    Calls Tajg.prog 73 #[v, .int .u64 (a : Int)] w fun e w' => ∃ b : Bool, e = .returned (.bool b) ∧ (b = true → SP a N) ∧ (b = false → Prm N → N ∣ a) ∧ Same w w' := by
  have HV : Hid (Nm w v N) := hv
  have hN0 : N ≠ 0 := by omega
  have hda : dl a ≤ 1 := dl_le 1 _ (by omega)
  have hdL : dl (N - 1) ≤ 100 := Nat.le_trans (dl_mono (by omega)) hdN
  clear hv
  have HSa : Hid (Same w (w.alloc (Obj.cells #[Value.int IntKind.u8 1] 5))) := (Chg.refl _ _).alloc _
  have HO : Hid (Na (w.alloc (Obj.cells #[Value.int IntKind.u8 1] 5)) (.slice (some ⟨w.heap.size, 0, none⟩) 1 1) 1 1) := one_nm2 _ _ _ rfl
  go_enter Tajg.func73, Tajg.ntmps73
  go_wp2_with fail
  generalize World.alloc w _ = W1 at *
  have HV1 : Hid (Nm W1 v N) := HV.out.same HSa.out
  refine (sub_any v _ (dl N) 1 N 1 W1 (by omega) (by omega) HV1.out.na HO.out (by omega)).mono ?_
  rintro e w2 ⟨ls, rfl, hls, -, hs2⟩
  have HL2 : Hid (Nm w2 ls (N - 1)) := hls
  have HV2 : Hid (Nm w2 v N) := HV1.out.same hs2
  have HS2 : Hid (Same w w2) := HSa.out.trans hs2
  clear HSa HO HV HV1 hls hs2
  go_wp2_with fail
  refine (oddPart_any ls (N - 1) w2 (by omega) (by omega) HL2.out).mono ?_
  rintro e w3 ⟨dv, M, k, rfl, hMk, hMo, hdv, hs3⟩
  have hk8 : k ≤ 8 * 100 := twos_le (N - 1) M k 100 hMk (by omega) hdL
  have hk0 : 1 ≤ k := by
    rcases Nat.eq_zero_or_pos k with h | h
    · subst h; rw [Nat.pow_zero, Nat.mul_one] at hMk; omega
    · exact h
  have hdM : dl M ≤ 100 := Nat.le_trans (dl_mono (by rw [hMk]; exact Nat.le_mul_of_pos_right _ (Nat.two_pow_pos k))) hdL
  have HMk : Hid (N - 1 = M * 2 ^ k) := hMk
  have HMo : Hid (M % 2 = 1) := hMo
  have HD3 : Hid (Nm w3 dv M) := hdv
  have HL3 : Hid (Nm w3 ls (N - 1)) := HL2.out.same hs3
  have HV3 : Hid (Nm w3 v N) := HV2.out.same hs3
  have HS3 : Hid (Same w w3) := HS2.out.trans hs3
  clear hMk hMo hdv HL2 HV2 HS2 hs3
  go_wp2_with fail
  refine (small_any a w3 (by omega)).mono ?_
  rintro e w4 ⟨sa, rfl, hsa, -, hs4⟩
  have HA4 : Hid (Nm w4 sa a) := hsa
  have HD4 : Hid (Nm w4 dv M) := HD3.out.same hs4
  have HL4 : Hid (Nm w4 ls (N - 1)) := HL3.out.same hs4
  have HV4 : Hid (Nm w4 v N) := HV3.out.same hs4
  have HS4 : Hid (Same w w4) := HS3.out.trans hs4
  clear hsa hs4 HD3 HL3 HV3 HS3
  go_wp2_with fail
  refine (powMod_any sa dv v (dl a) (dl M) (dl N) a M N w4 HA4.out.na HD4.out.na HV4.out.na hN0 (by omega) (by omega) (by omega)).mono ?_
  rintro e w5 ⟨x5, rfl, hx5, -, hs5⟩
  have HX5 : Hid (Nm w5 x5 (a ^ M % N)) := hx5
  have HL5 : Hid (Nm w5 ls (N - 1)) := HL4.out.same hs5
  have HV5 : Hid (Nm w5 v N) := HV4.out.same hs5
  have HS5 : Hid (Same w w5) := HS4.out.trans hs5
  have hdX : ∀ i, dl (a ^ i % N) ≤ 100 := fun i => Nat.le_trans (dl_mono (Nat.le_of_lt (Nat.mod_lt _ (by omega)))) hdN
  have hdX0 := hdX M
  have HdX : Hid (∀ i, dl (a ^ i % N) ≤ 100) := hdX
  have HSb : Hid (Same w5 (w5.alloc (Obj.cells #[Value.int IntKind.u8 1] 5))) := (Chg.refl _ _).alloc _
  have HO : Hid (Na (w5.alloc (Obj.cells #[Value.int IntKind.u8 1] 5)) (.slice (some ⟨w5.heap.size, 0, none⟩) 1 1) 1 1) := one_nm2 _ _ _ rfl
  clear hx5 hs5 HA4 HD4 HL4 HV4 HS4 hdX
  go_wp2_with fail
  generalize World.alloc w5 _ = W6 at *
  have HX6 : Hid (Nm W6 x5 (a ^ M % N)) := HX5.out.same HSb.out
  have HL6 : Hid (Nm W6 ls (N - 1)) := HL5.out.same HSb.out
  have HV6 : Hid (Nm W6 v N) := HV5.out.same HSb.out
  have HS6 : Hid (Same w W6) := HS5.out.trans HSb.out
  clear HX5 HL5 HV5 HS5 HSb
  refine (cmp_any x5 _ (dl (a ^ M % N)) 1 (a ^ M % N) 1 W6 (by omega) (by omega) HX6.out.na HO.out).mono ?_
  rintro e w7 ⟨rfl, hs7⟩
  have HX7 : Hid (Nm w7 x5 (a ^ M % N)) := HX6.out.same hs7
  have HL7 : Hid (Nm w7 ls (N - 1)) := HL6.out.same hs7
  have HV7 : Hid (Nm w7 v N) := HV6.out.same hs7
  have HS7 : Hid (Same w w7) := HS6.out.trans hs7
  clear HX6 HL6 HV6 HS6 HO hs7
  by_cases hX1 : a ^ M % N = 1
  · rw [hX1, cmp_same]
    have HSP : Hid (SP a N) := ⟨M, k, HMk.out, HMo.out, .inl hX1⟩
    clear hX1 hdX0
    go_wp2_with fail
    go_ret
    exact ⟨true, rfl, fun _ => HSP.out, (fun h => by cases h), HS7.out⟩
  · have hc1 := cmp_off hX1
    have HX1 : Hid (a ^ M % N ≠ 1) := hX1
    clear hX1
    obtain ⟨C1, HC1⟩ : ∃ C1, Hid (C1 = cmpN (a ^ M % N) 1) := ⟨_, rfl⟩
    rw [← HC1.out] at hc1 ⊢
    go_wp2_with fail
    refine (cmp_any x5 ls (dl (a ^ M % N)) (dl (N - 1)) (a ^ M % N) (N - 1) w7 (by omega) (by omega) HX7.out.na HL7.out.na).mono ?_
    rintro e w8 ⟨rfl, hs8⟩
    have HX8 : Hid (Nm w8 x5 (a ^ (M * 2 ^ 0) % N)) := by
      have h := HX7.out.same hs8
      rw [Nat.pow_zero, Nat.mul_one]
      exact h
    have HL8 : Hid (Nm w8 ls (N - 1)) := HL7.out.same hs8
    have HV8 : Hid (Nm w8 v N) := HV7.out.same hs8
    have HS8 : Hid (Same w w8) := HS7.out.trans hs8
    clear HX7 HL7 HV7 HS7 hs8 hdX0
    by_cases hX2 : a ^ M % N = N - 1
    · rw [hX2, cmp_same]
      have HSP : Hid (SP a N) := ⟨M, k, HMk.out, HMo.out, .inr ⟨0, by omega, by rw [Nat.pow_zero, Nat.mul_one]; exact hX2⟩⟩
      clear hX2
      go_wp2_with fail
      go_ret
      exact ⟨true, rfl, fun _ => HSP.out, (fun h => by cases h), HS8.out⟩
    · have hc2 := cmp_off hX2
      have HX2 : Hid (∀ r, r < 1 → a ^ (M * 2 ^ r) % N ≠ N - 1) := fun r hr => by
        obtain rfl : r = 0 := by omega
        rw [Nat.pow_zero, Nat.mul_one]; exact hX2
      clear hX2
      obtain ⟨C2, HC2⟩ : ∃ C2, Hid (C2 = cmpN (a ^ M % N) (N - 1)) := ⟨_, rfl⟩
      rw [← HC2.out] at hc2 ⊢
      obtain ⟨av, cv, rfl, -⟩ := HV8.out.na
      go_wp2_with fail
      refine (newDivisor_any _ N (dl N) (max (dl N + 2) 4) w8 hN0 (by omega) (by omega) rfl HV8.out).mono ?_
      rintro e w9 ⟨dx, X, rfl, hdx, hXb, hs9⟩
      obtain ⟨p, HP⟩ : ∃ p, Hid (p = max (dl N + 2) 4) := ⟨_, rfl⟩
      rw [← HP.out] at hXb ⊢
      have HXb : Hid (X * ld N p ≤ 256 ^ (2 * p)) := hXb
      have hp4 : 4 ≤ p := by have := HP.out; omega
      have hp5 : p ≤ 3000 := by have := HP.out; omega
      obtain ⟨ax, cx, rfl, -⟩ := hdx.na
      have hal : Same w9 (w9.alloc (Obj.cells #[Value.slice av (dl N) cv, Value.slice ax (dl X) cx, Value.int IntKind.i64 (p : Int), Value.int IntKind.i64 (dl N : Int)] 76)) := (Chg.refl _ _).alloc _
      have HDv : Hid (Dv (w9.alloc (Obj.cells #[Value.slice av (dl N) cv, Value.slice ax (dl X) cx, Value.int IntKind.i64 (p : Int), Value.int IntKind.i64 (dl N : Int)] 76)) w9.heap.size (.slice av (dl N) cv) (.slice ax (dl X) cx) N X p) := by
        refine ⟨?_, ?_, ?_, (HV8.out.same hs9).same hal, hdx.same hal⟩ <;> (rw [World.cell?_alloc_new]; rfl)
      have HSA : Hid (Same w8 (w9.alloc (Obj.cells #[Value.slice av (dl N) cv, Value.slice ax (dl X) cx, Value.int IntKind.i64 (p : Int), Value.int IntKind.i64 (dl N : Int)] 76))) := hs9.trans hal
      clear hXb hdx hs9 hal
      go_wp2_with fail
      generalize World.alloc w9 _ = WA at *
      obtain ⟨Z, HZ⟩ : ∃ Z, Hid (Z = w9.heap.size) := ⟨_, rfl⟩
      rw [← HZ.out] at HDv ⊢
      have HXA : Hid (Nm WA x5 (a ^ (M * 2 ^ 0) % N)) := HX8.out.same HSA.out
      have HLA : Hid (Nm WA ls (N - 1)) := HL8.out.same HSA.out
      have HSW : Hid (Same w WA) := HS8.out.trans HSA.out
      clear HX8 HL8 HV8 HS8 HSA HZ HP
      go_loopw [9, 12] (fun x i wr => ∃ j : Nat, j + 1 ≤ k ∧ i = .int .i64 ((j + 1 : Nat) : Int) ∧ Hid (Nm wr x (a ^ (M * 2 ^ j) % N)) ∧ Hid (∀ r, r < j + 1 → a ^ (M * 2 ^ r) % N ≠ N - 1) ∧ Hid (Same WA wr)) (fun _ i _ => (k - intOf i).toNat)
      case atStart => exact ⟨0, by omega, rfl, HXA, HX2, Chg.refl _ _⟩
      case round =>
        clear HXA HX2
        obtain ⟨j, hj, rfl, HXr, HNo, HSr⟩ := hrel
        by_cases hjk : j + 1 = k
        · have HF : Hid (Prm N → N ∣ a) := fun hp => by
            refine Classical.byContradiction fun hn => ?_
            rcases prm_pass hp hn HMk.out with h | ⟨r, hr, h⟩
            · exact HX1.out h
            · exact HNo.out r (by omega) h
          have ejk : ((j + 1 : Nat) : Int) = (k : Int) := by omega
          rw [ejk]
          go_wp2_with fail
          go_ret
          exact ⟨false, rfl, (fun h => by cases h), fun _ => HF.out, HSW.out.trans HSr.out⟩
        · have hjk2 : j + 1 < k := by omega
          have hdj := HdX.out (M * 2 ^ j)
          have HSq : Hid (a ^ (M * 2 ^ j) % N * (a ^ (M * 2 ^ j) % N) % N = a ^ (M * 2 ^ (j + 1)) % N) := by
            show _ = _
            rw [← Nat.mul_mod, ← Nat.pow_add]
            congr 2
            rw [Nat.pow_succ, ← Nat.mul_assoc, Nat.mul_two]
          have hdm : dl (a ^ (M * 2 ^ j) % N * (a ^ (M * 2 ^ j) % N)) ≤ 200 := by
            have hl : a ^ (M * 2 ^ j) % N < N := Nat.mod_lt _ (by omega)
            refine Nat.le_trans (dl_le (dl N + dl N) _ ?_) (by omega)
            rw [Nat.pow_add]
            exact Nat.mul_lt_mul'' (Nat.lt_trans hl (lt_dl N)) (Nat.lt_trans hl (lt_dl N))
          obtain ⟨Y, HY⟩ : ∃ Y, Hid (Y = a ^ (M * 2 ^ j) % N) := ⟨a ^ (M * 2 ^ j) % N, (rfl : a ^ (M * 2 ^ j) % N = a ^ (M * 2 ^ j) % N)⟩
          rw [← HY.out] at HXr hdj HSq hdm
          obtain ⟨j1, Hj1⟩ : ∃ j1, Hid (j1 = j + 1) := ⟨_, rfl⟩
          rw [← Hj1.out] at hjk2 ⊢
          go_wp2_with fail
          refine (mulLong_any _ _ (dl Y) (dl Y) Y Y wr (by omega) (by omega) HXr.out.na HXr.out.na).mono ?_
          rintro e w11 ⟨v11, rfl, hv11, -, hs11⟩
          have HDr := HDv.out.same (HSr.out.trans hs11)
          go_wp2_with fail
          refine (divide_any v11 _ _ Z (dl (Y * Y)) (Y * Y) N X p w11 (by omega) hN0 (by omega) hp4 hp5 hv11.na HDr HXb.out).mono ?_
          rintro e w12 ⟨q12, r12, rfl, -, hr12, -, -, hs12⟩
          rw [HSq.out] at hr12
          have HR12 : Hid (Nm w12 r12 (a ^ (M * 2 ^ (j + 1)) % N)) := hr12
          have HS12 : Hid (Same WA w12) := (HSr.out.trans hs11).trans hs12
          clear hv11 HDr hr12 hs11 hs12 HXr HSq HY
          have hdj1 := HdX.out (M * 2 ^ (j + 1))
          go_wp2_with fail
          refine (cmp_any r12 ls (dl (a ^ (M * 2 ^ (j + 1)) % N)) (dl (N - 1)) (a ^ (M * 2 ^ (j + 1)) % N) (N - 1) w12 (by omega) (by omega) HR12.out.na (HLA.out.same HS12.out).na).mono ?_
          rintro e w13 ⟨rfl, hs13⟩
          have HS13 : Hid (Same WA w13) := HS12.out.trans hs13
          have HR13 : Hid (Nm w13 r12 (a ^ (M * 2 ^ (j + 1)) % N)) := HR12.out.same hs13
          clear HS12 HR12 hs13 hdj1
          by_cases hEq : a ^ (M * 2 ^ (j + 1)) % N = N - 1
          · have HSP : Hid (SP a N) := ⟨M, k, HMk.out, HMo.out, .inr ⟨j + 1, by have := Hj1.out; omega, hEq⟩⟩
            rw [hEq, cmp_same]
            clear hEq
            go_wp2_with fail
            go_ret
            exact ⟨true, rfl, fun _ => HSP.out, (fun h => by cases h), HSW.out.trans HS13.out⟩
          · have hc3 := cmp_off hEq
            obtain ⟨C3, HC3⟩ : ∃ C3, Hid (C3 = cmpN (a ^ (M * 2 ^ (j + 1)) % N) (N - 1)) := ⟨_, rfl⟩
            rw [← HC3.out] at hc3 ⊢
            have HNo2 : Hid (∀ r, r < j + 1 + 1 → a ^ (M * 2 ^ r) % N ≠ N - 1) := fun r hr => by
              by_cases h : r = j + 1
              · subst h; exact hEq
              · exact HNo.out r (by omega)
            clear hEq
            go_wp2_with fail
            go_roundw
            case rel => exact ⟨j + 1, by have := Hj1.out; omega, by rw [Hj1.out]; rfl, HR13, HNo2, HS13⟩
            case measure => have := Hj1.out; simp [intOf]; omega
end Go.Proofs.Ygctaj.Nt
