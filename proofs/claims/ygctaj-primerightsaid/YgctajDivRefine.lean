/- nlong.refine, walked. -/
import Derived.Test.YgctajDivSmall
import Derived.Test.YgctajNatSub
import Derived.Test.YgctajLongMul
namespace Go.Proofs.Ygctaj.Nt
open Go.RowKit Mem Long
set_option linter.unusedVariables false

theorem dg_pow (q i : Nat) : dg (256 ^ q) i = upd (fun _ => 0) q 1 i := by
  by_cases h : i = q
  · subst h
    rw [upd_same]; unfold dg; rw [Nat.div_self (pp i)]
  · rw [upd_other _ _ _ _ h]
    have e : 256 ^ q = 1 * 256 ^ q := (Nat.one_mul _).symm
    rcases Nat.lt_or_ge i q with h1 | h1
    · rw [e]; exact dg_up0 1 q i h1
    · unfold dg
      rw [Nat.div_eq_of_lt (Nat.pow_lt_pow_right (by decide) (by omega))]

set_option maxRecDepth 20000 in
set_option maxHeartbeats 1000000 in
theorem refine_any (d x : Value) (nd nx D X p k : Nat) (PI KI : Int) (w : World) (hp : 4 ≤ p) (hp2 : p ≤ 3000) (hk : k + 2 ≤ p) (hnd : nd ≤ 4000) (hnx : nx ≤ 4000) (hPI : PI = (p : Int)) (hKI : KI = (k : Int)) (hd : Na w d nd D) (hx : Na w x nx X)
    (hle : D * X * 256 ^ k ≤ 256 ^ (2 * p)) :
    Calls Tajg.prog 95 #[d, x, .int .i64 PI, .int .i64 KI] w fun e w' => ∃ v', e = .returned v' ∧ Nm w' v' (rf D X p k) ∧ Fr w.heap.size w' v' ∧ Same w w' := by
  subst hPI hKI
  have HL : Hid (D * X * 256 ^ k ≤ 256 ^ (2 * p)) := hle
  have hdl : dl (D * X) ≤ 8000 := by
    have := dl_le (nd + nx) (D * X) (by rw [Nat.pow_add]; exact Nat.mul_lt_mul'' hd.lt hx.lt)
    omega
  clear hle
  obtain ⟨q, HQ⟩ : ∃ q : Nat, Hid (q = 2 * p) := ⟨_, rfl⟩
  have eq2 : (2 : Int) * (p : Int) = (q : Int) := by have := HQ.out; omega
  have hq : q ≤ 6000 := by have := HQ.out; omega
  have hq1 : p < q := by have := HQ.out; omega
  obtain ⟨p2, HP2⟩ : ∃ p2 : Nat, Hid (p2 = p - 2) := ⟨_, rfl⟩
  have ep2 : (p : Int) - 2 = (p2 : Int) := by have := HP2.out; omega
  have hp2b : p2 ≤ 3000 := by have := HP2.out; omega
  obtain ⟨t, HT⟩ : ∃ t : Nat, Hid (t = q - k - p2) := ⟨_, rfl⟩
  obtain ⟨s, HSS⟩ : ∃ s : Nat, Hid (s = q - k) := ⟨_, rfl⟩
  have es : (q : Int) - (k : Int) = (s : Int) := by have := HSS.out; omega
  have et : (s : Int) - (p2 : Int) = (t : Int) := by have h1 := HT.out; have h2 := HSS.out; have h3 := HP2.out; omega
  have ht : t ≤ 6000 := by have := HT.out; omega
  have hs6 : s ≤ 6000 := by have := HSS.out; omega
  have HRF : Hid (rf D X p k = X * 256 ^ k + X * ((256 ^ q - D * X * 256 ^ k) / 256 ^ p2) / 256 ^ t) := by
    show _ = _
    unfold rf; rw [HT.out, HP2.out, HQ.out]
  rw [HRF.out]
  rw [← HQ.out] at HL
  have hk3 : k ≤ 3000 := by omega
  clear hp hk
  go_enter Tajg.func95, Tajg.ntmps95
  go_wp2_with (at_make; refine wpList_mkc (q + 1) .u8 5 1 _ _ (by rfl) (by rfl) (by go_num) (by go_num) Tajg.underlying24 info5 (by omega) (by omega) ?_; intro B w1 hB1 hB2 hRB hCB hs1; have c1 := hRB q (by omega); have c2 := hCB (0 + q); rw [Nat.zero_add] at c1 c2)
  have hR2 := hRB.setCell q 1 (by omega)
  rw [Nat.zero_add] at hR2
  have hC2 : Cl (w1.setCell ⟨B, q, none⟩ (.int .u8 ((1 : Nat) : Int))) B := hCB.setCell _ _
  have hS2 : Same w (w1.setCell ⟨B, q, none⟩ (.int .u8 ((1 : Nat) : Int))) := hs1.setCell B _ _ (fun h => absurd h (by omega))
  have hr : Na (w1.setCell ⟨B, q, none⟩ (.int .u8 ((1 : Nat) : Int))) (.slice (some ⟨B, 0, none⟩) (q + 1) (q + 1)) (q + 1) (256 ^ q) :=
    ⟨_, q + 1, rfl, Nat.le_refl _, Nat.pow_lt_pow_right (by decide) (by omega), fun _ => ⟨B, 0, rfl, hR2.congr (fun i _ => (dg_pow q i).symm), hC2⟩⟩
  clear hR2 hC2 c1 c2 hRB hCB
  have hd2 := hd.same hS2
  have hx2 := hx.same hS2
  generalize w1.setCell _ _ = w2 at *
  refine (mulLong_any d x nd nx D X w2 (by omega) (by omega) hd2 hx2).mono ?_
  rintro e w3 ⟨m3, rfl, hm3, -, hs3⟩
  have hr3 := hr.same hs3
  have hx3 := hx2.same hs3
  have hS3 := hS2.trans hs3
  clear hr hd2 hx2 hS2 hd hx hs1 hB1 hB2
  go_wp2_with fail
  refine (up_any m3 _ _ k _ w3 (by omega) (by omega) rfl hm3.na).mono ?_
  rintro e w4 ⟨u4, n4, rfl, hn4, hu4, -, hs4⟩
  have hr4 := hr3.same hs4
  have hx4 := hx3.same hs4
  have hS4 := hS3.trans hs4
  clear hr3 hx3 hS3 hm3
  go_wp2_with fail
  refine (sub_any _ u4 (q + 1) n4 _ _ w4 (by omega) (by omega) hr4 hu4 HL.out).mono ?_
  rintro e w5 ⟨e5, rfl, he5, -, hs5⟩
  have hx5 := hx4.same hs5
  have hS5 := hS4.trans hs5
  have hde : dl (256 ^ q - D * X * 256 ^ k) ≤ q + 1 := dl_le _ _ (Nat.lt_of_le_of_lt (Nat.sub_le _ _) (Nat.pow_lt_pow_right (by decide) (by omega)))
  clear hr4 hx4 hS4 hu4
  generalize hEr : 256 ^ q - D * X * 256 ^ k = Er at he5 hde
  have HEr : Hid (256 ^ q - D * X * 256 ^ k = Er) := hEr
  clear hEr
  go_wp2_with fail
  refine (down_any e5 _ Er p2 _ w5 (by omega) (by omega) (by go_num) he5.na).mono ?_
  rintro e w6 ⟨⟨v6, rfl, hv6, -⟩, rfl⟩
  go_wp2_with fail
  refine (mulLong_any x v6 nx _ X _ _ (by omega) (by omega) hx5 hv6).mono ?_
  rintro e w7 ⟨m7, rfl, hm7, -, hs7⟩
  have hdm : dl (X * (Er / 256 ^ p2)) ≤ nx + (dl Er - p2) := dl_le _ _ (by rw [Nat.pow_add]; exact Nat.mul_lt_mul'' hx5.lt hv6.lt)
  have hx7 := hx5.same hs7
  have hS7 := hS5.trans hs7
  go_wp2_with fail
  refine (up_any x nx X k _ w7 (by omega) (by omega) rfl hx7).mono ?_
  rintro e w8 ⟨u8, n8, rfl, hn8, hu8, -, hs8⟩
  have hm8 := hm7.same hs8
  have hS8 := hS7.trans hs8
  go_wp2_with fail
  refine (down_any m7 _ _ t _ w8 (by omega) (by omega) (by go_num) hm8.na).mono ?_
  rintro e w9 ⟨⟨v9, rfl, hv9, -⟩, rfl⟩
  go_wp2_with fail
  refine (add_any u8 v9 n8 _ _ _ _ (by omega) (by omega) hu8 hv9).mono ?_
  rintro e w10 ⟨v10, rfl, hv10, hf10, hs10⟩
  go_wp2_with fail
  go_ret
  exact ⟨_, rfl, by rw [HEr.out]; exact hv10, hf10.mono hS8.size, hS8.trans hs10⟩
end Go.Proofs.Ygctaj.Nt
