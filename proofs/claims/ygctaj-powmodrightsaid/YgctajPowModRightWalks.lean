import Derived.Test.YgctajPowMod
import Derived.Test.YgctajFlip
import Derived.Test.YgctajWhole
import Derived.Test.YgctajLawRow
import Derived.OpenShut
import Derived.Below
namespace Go.Proofs.Ygctaj.powModRight
open Go.RowKit Mem Nt Long Ntt
set_option linter.unusedVariables false

theorem mul_pow_mod (A B i j : Nat) : A ^ i % B * (A ^ j % B) % B = A ^ (i + j) % B := by rw [← Nat.mul_mod, Nat.pow_add]

set_option maxRecDepth 100000 in
set_option maxHeartbeats 4000000 in
theorem main (v0 v1 v2 : Value) (n0 n1 n2 : Nat) (f g h : Nat → Nat) (w : World) (hn0 : n0 ≤ 9223372036854775807) (hn1 : n1 ≤ 9223372036854775807) (hn2 : n2 ≤ 9223372036854775807) (hv0 : Sl .u8 w v0 n0 f) (hv1 : Sl .u8 w v1 n1 g) (hv2 : Sl .u8 w v2 n2 h) (hf : ∀ i, i < n0 → f i < 256) (hg : ∀ i, i < n1 → g i < 256) (hh : ∀ i, i < n2 → h i < 256) :
    Calls Tajg.prog 6 #[v0, v1, v2] w fun e w' => e = .returned (.bool true) ∧ Same w w' := by
  have hE := @run_eql_slice_nil Tajg.prog 24 _ Tajg.underlying24
  go_enter Tajg.func6, Tajg.ntmps6
  go_wp2_with fail
  refine (digits_any v0 n0 512 f w hn0 (by omega) (by omega) hv0).mono ?_
  rintro e w1 ⟨⟨u0, rfl, hu0⟩, rfl⟩
  have HF : Hid (∀ i, i < min n0 512 → f i < 256) := fun i hi => hf i (by omega)
  have HG : Hid (∀ i, i < min n1 16 → g i < 256) := fun i hi => hg i (by omega)
  have HH : Hid (∀ i, i < min n2 512 → h i < 256) := fun i hi => hh i (by omega)
  have hp : min n0 512 ≤ 512 := Nat.min_le_right _ _
  have hs : min n1 16 ≤ 16 := Nat.min_le_right _ _
  have hq : min n2 512 ≤ 512 := Nat.min_le_right _ _
  clear hv0 hf hg hh hn0
  generalize min n0 512 = p at *
  go_wp2_with fail
  refine (ownNat_any u0 p f _ (by omega) HF.out hu0).mono ?_
  rintro e w2 ⟨x, rfl, hx2, -, -, hS2⟩
  generalize val f p = A at *
  have hv1 := hv1.same hS2
  have hv2 := hv2.same hS2
  clear hu0 HF
  go_wp2_with fail
  refine (digits_any v1 n1 16 g w2 hn1 (by omega) (by omega) hv1).mono ?_
  rintro e w3 ⟨⟨u1, rfl, hu1⟩, rfl⟩
  clear hv1 hn1
  generalize min n1 16 = s at *
  go_wp2_with fail
  refine (ownNat_any u1 s g _ (by omega) HG.out hu1).mono ?_
  rintro e w4 ⟨n, rfl, hn4, -, -, hS4⟩
  generalize val g s = E at *
  have hx4 := hx2.same hS4
  have hv2 := hv2.same hS4
  have hS4 := hS2.trans hS4
  clear hu1 HG hx2 hS2
  go_wp2_with fail
  refine (digits_any v2 n2 512 h w4 hn2 (by omega) (by omega) hv2).mono ?_
  rintro e w3 ⟨⟨u2, rfl, hu2⟩, rfl⟩
  clear hv2 hn2
  generalize min n2 512 = q at *
  go_wp2_with fail
  refine (ownNat_any u2 q h _ (by omega) HH.out hu2).mono ?_
  rintro e w6 ⟨y, rfl, hy6, -, -, hS6⟩
  generalize val h q = B at *
  have hx6 := hx4.same hS6
  have hn6 := hn4.same hS6
  have hS6 := hS4.trans hS6
  clear hu2 HH hx4 hn4 hS4
  go_wp2_with fail
  refine (ownNat_any x p (dg A) w6 (by omega) (fun i _ => dg_lt A i) hx6.sl).mono ?_
  rintro e w7 ⟨kx, rfl, hkx7, hzx, -, hS7⟩
  rw [hx6.val] at hkx7
  have hx7 := hx6.same hS7
  have hn7 := hn6.same hS7
  have hy7 := hy6.same hS7
  have hS7 := hS6.trans hS7
  clear hx6 hn6 hy6 hS6
  go_wp2_with fail
  refine (ownNat_any n s (dg E) w7 (by omega) (fun i _ => dg_lt E i) hn7.sl).mono ?_
  rintro e w8 ⟨kn, rfl, hkn8, hzn, -, hS8⟩
  rw [hn7.val] at hkn8
  have hx8 := hx7.same hS8
  have hn8 := hn7.same hS8
  have hy8 := hy7.same hS8
  have hkx8 := hkx7.same hS8
  have hS8 := hS7.trans hS8
  clear hx7 hn7 hy7 hkx7 hS7
  go_wp2_with fail
  refine (ownNat_any y q (dg B) w8 (by omega) (fun i _ => dg_lt B i) hy8.sl).mono ?_
  rintro e w9 ⟨ky, rfl, hky9, hzy, -, hS9⟩
  rw [hy8.val] at hky9
  have hx9 := hx8.same hS9
  have hn9 := hn8.same hS9
  have hy9 := hy8.same hS9
  have hkx9 := hkx8.same hS9
  have hkn9 := hkn8.same hS9
  have hS9 := hS8.trans hS9
  clear hx8 hn8 hy8 hkx8 hkn8 hS8
  have hdA : dl A ≤ 512 := by have := dl_le _ _ hx9.lt; omega
  have hdB : dl B ≤ 512 := by have := dl_le _ _ hy9.lt; omega
  have H9 : Hid (Na w9 x p A ∧ Na w9 n s E ∧ Na w9 y q B ∧ Na w9 kx p A ∧ Na w9 kn s E ∧ Na w9 ky q B) := ⟨hx9, hn9, hy9, hkx9, hkn9, hky9⟩
  have HEl : Hid (E < 2 ^ (8 * s)) := by
    have h := hn9.lt
    rw [show (256 : Nat) = 2 ^ 8 from rfl, ← Nat.pow_mul] at h
    exact h
  clear hkx9 hky9 hkn9
  go_wp2_with fail
  by_cases hB0 : B = 0
  · subst hB0
    refine (powMod_none x n y p s q A E w9 hx9 hn9 hy9 (by omega) (by omega) (by omega)).mono ?_
    rintro e w10 ⟨rfl, rfl⟩
    go_wp2_with fail
    refine (sound_any y q 0 w10 (by omega) hy9).mono ?_
    rintro e w11 ⟨u8, rfl, hu8, -, hs11⟩
    obtain rfl := hu8.2 rfl
    clear hx9 hn9 hy9
    go_wp2_with fail
    go_ret
    exact ⟨rfl, hS9.trans hs11⟩
  · refine (powMod_any x n y p s q A E B w9 hx9 hn9 hy9 hB0 (by omega) (by omega) (by omega)).mono ?_
    rintro e w10 ⟨got, rfl, hgot, hfg, hs10⟩
    have HGot : Hid (Nm w10 got (A ^ E % B)) := hgot
    have HFg : Hid (Fr w9.heap.size w10 got) := hfg
    have hy10 := hy9.same hs10
    have HS910 : Hid (Same w9 w10) := hs10
    clear hgot hfg hx9 hn9 hy9 hs10
    go_wp2_with fail
    refine (sound_any y q B w10 (by omega) hy10).mono ?_
    rintro e w11 ⟨u8, rfl, hu8, -, hs11⟩
    rcases hu8.open with ⟨h, _⟩ | ⟨_, bu, ou, cu, rfl, -⟩
    · exact absurd h hB0
    have hy11 := hy10.same hs11
    have hx11 := H9.out.1.same (HS910.out.trans hs11)
    have HS11 : Hid (Same w10 w11) := hs11
    clear hu8 hy10 hs11
    obtain ⟨lB, HlB⟩ : ∃ lB, Hid (lB = dl B) := ⟨_, rfl⟩
    rw [← HlB.out]
    go_wp2_with fail
    refine (div_any x y p q A B w11 (by omega) (by omega) hx11 hy11 hB0).mono ?_
    rintro e w12 ⟨q12, sq, rfl, -, hsq, -, -, hs12⟩
    have HS12 : Hid (Same w10 w12) := HS11.out.trans hs12
    have HSq : Hid (Nm w12 sq (A % B)) := hsq
    clear hx11 hy11 hsq hs12 HS11
    go_wp2_with fail
    have HSa : Hid (Same w12 (w12.alloc (Obj.cells #[Value.int IntKind.u8 1] 5))) := (Chg.refl _ _).alloc _
    have HO : Hid (Na (w12.alloc (Obj.cells #[Value.int IntKind.u8 1] 5)) (.slice (some ⟨w12.heap.size, 0, none⟩) 1 1) 1 1) := one_nm2 _ _ _ rfl
    generalize World.alloc w12 _ = W13 at *
    refine (div_any _ y 1 q 1 B W13 (by omega) (by omega) HO.out (H9.out.2.2.1.same ((HS910.out.trans HS12.out).trans HSa.out)) hB0).mono ?_
    rintro e w14 ⟨q14, wa, rfl, -, hwa, -, -, hs14⟩
    have HS14 : Hid (Same w10 w14) := (HS12.out.trans HSa.out).trans hs14
    have HSq14 : Hid (Nm w14 sq (A ^ 2 ^ 0 % B)) := by
      have h := (HSq.out.same HSa.out).same hs14
      rw [show A ^ 2 ^ 0 = A from by simp]
      exact h
    have HWa : Hid (Nm w14 wa (A ^ (E % 2 ^ 0) % B)) := by
      show Nm _ _ _
      rw [show A ^ (E % 2 ^ 0) = 1 from by simp [Nat.mod_one]]
      exact hwa
    obtain ⟨an, cn, rfl, -⟩ := H9.out.2.1
    obtain ⟨L, HL⟩ : ∃ L, Hid (L = 8 * s) := ⟨_, rfl⟩
    have hL : L ≤ 128 := by have := HL.out; omega
    have eL : (8 : Int) * (s : Int) = (L : Int) := by have := HL.out; omega
    rw [← HL.out] at HEl
    clear hwa hs14 HSa HO HS12 HSq
    go_wp2_with fail
    go_loopw [16, 19, 21] (fun sq wa i wr => ∃ j : Nat, j ≤ L ∧ i = .int .i64 (j : Int) ∧ Hid (Nm wr sq (A ^ 2 ^ j % B)) ∧ Hid (Nm wr wa (A ^ (E % 2 ^ j) % B)) ∧ Hid (Same w10 wr)) (fun _ _ i _ => (L - intOf i).toNat)
    case atStart => exact ⟨0, by omega, rfl, HSq14, HWa, HS14⟩
    case round =>
      clear HSq14 HWa HS14
      obtain ⟨j, hj, rfl, HSq, HWa, HSr⟩ := hrel
      have hdR : ∀ k, dl (A ^ k % B) ≤ 512 := fun k => Nat.le_trans (dl_mono (Nat.le_of_lt (Nat.mod_lt _ (by omega)))) hdB
      by_cases hjs : j < L
      · obtain ⟨b, off, rfl, hRn, -⟩ : ∃ b off, an = some ⟨b, off, none⟩ ∧ Rd .u8 wr b off s (dg E) ∧ Cl wr b := by
          obtain ⟨a', c', he, -, -, h⟩ := (H9.out.2.1.same HS910.out).same HSr.out
          injection he with h1 h2 h3
          subst h1
          exact h (by have := HL.out; omega)
        obtain ⟨q8, Hq⟩ : ∃ q8, Hid (q8 = j / 8) := ⟨_, rfl⟩
        obtain ⟨r, Hr⟩ : ∃ r, Hid (r = j % 8) := ⟨_, rfl⟩
        have hq8 : q8 < s := by have := Hq.out; have := HL.out; omega
        have hr8 : r < 8 := by have := Hr.out; omega
        have eq8 : (j : Int) / 8 = (q8 : Int) := by have := Hq.out; omega
        have er8 : (j : Int) % 8 = (r : Int) := by have := Hr.out; omega
        have c1 := hRn q8 hq8
        have hd1 := dg_lt E q8
        have hbe := bits_eq E q8 r 1 (by omega)
        rw [show 8 * q8 + r = j from by have := Hq.out; have := Hr.out; omega, Nat.pow_one] at hbe
        obtain ⟨D, HD⟩ : ∃ D : Int, Hid (D = ((dg E q8 : Nat) : Int)) := ⟨_, rfl⟩
        have d0 : 0 ≤ D := by have := HD.out; omega
        have d1 : D < 256 := by have := HD.out; omega
        obtain ⟨G, HGd⟩ : ∃ G : Int, Hid (D / 2 ^ r = G) := ⟨_, rfl⟩
        have eG := HGd.out
        have HGn : Hid (G = ((dg E q8 / 2 ^ r : Nat) : Int)) := by show _ = _; rw [← eG, HD.out]; push_cast; rfl
        have hgl : dg E q8 / 2 ^ r < 256 := Nat.lt_of_le_of_lt (Nat.div_le_self _ _) hd1
        have g0 : 0 ≤ G := by rw [HGn.out]; exact Int.natCast_nonneg _
        have g1 : G < 256 := by rw [HGn.out]; exact Int.ofNat_lt.2 hgl
        have hand : bits .and .u8 G 1 = ((E / 2 ^ j % 2 : Nat) : Int) := by
          have h := u8_and_nat (dg E q8 / 2 ^ r) 1 hgl (by decide)
          rw [nat_mask1, hbe, ← HGn.out] at h
          exact h
        rw [← HD.out] at c1
        have hmp := Nat.mod_pow_succ (x := E) (b := 2) (k := j)
        have hd2 := hdR (E % 2 ^ j)
        have hd3 := hdR (2 ^ j)
        have HSq2 : Hid (A ^ 2 ^ j % B * (A ^ 2 ^ j % B) % B = A ^ 2 ^ (j + 1) % B) := by
          show _ = _
          rw [mul_pow_mod, Nat.pow_succ]
          congr 2
          omega
        have hdm : ∀ u v, u < B → v < B → dl (u * v) ≤ 1024 := fun u v hu hv => by
          refine Nat.le_trans (dl_le (dl B + dl B) _ ?_) (by omega)
          rw [Nat.pow_add]
          exact Nat.mul_lt_mul'' (Nat.lt_trans hu (lt_dl B)) (Nat.lt_trans hv (lt_dl B))
        have hl1 : A ^ 2 ^ j % B < B := Nat.mod_lt _ (by omega)
        have hl2 : A ^ (E % 2 ^ j) % B < B := Nat.mod_lt _ (by omega)
        have hdm1 := hdm _ _ hl1 hl1
        have hdm2 := hdm _ _ hl2 hl1
        obtain ⟨S, HS⟩ : ∃ S, Hid (S = A ^ 2 ^ j % B) := ⟨A ^ 2 ^ j % B, (rfl : A ^ 2 ^ j % B = A ^ 2 ^ j % B)⟩
        obtain ⟨W, HW⟩ : ∃ W, Hid (W = A ^ (E % 2 ^ j) % B) := ⟨A ^ (E % 2 ^ j) % B, (rfl : A ^ (E % 2 ^ j) % B = A ^ (E % 2 ^ j) % B)⟩
        rw [← HS.out] at HSq hd3 HSq2 hdm1 hdm2
        rw [← HW.out] at HWa hd2 hdm2
        clear hRn hd1 hbe hgl hdR hdm hl1 hl2
        by_cases hb : E / 2 ^ j % 2 = 0
        · rw [hb, Int.natCast_zero] at hand
          have hmp0 : E % 2 ^ (j + 1) = E % 2 ^ j := by rw [hmp, hb]; rfl
          clear hmp
          go_wp2_with fail
          refine (mul_any _ _ (dl S) (dl S) S S wr (by omega) (by omega) HSq.out.na HSq.out.na).mono ?_
          rintro e w15 ⟨v15, rfl, hv15, -, hs15⟩
          have hy15 := H9.out.2.2.1.same ((HS910.out.trans HSr.out).trans hs15)
          clear c1 hand eG
          go_wp2_with fail
          refine (div_any v15 y (dl (S * S)) q (S * S) B w15 (by omega) (by omega) hv15.na hy15 hB0).mono ?_
          rintro e w16 ⟨q16, r16, rfl, -, hr16, -, -, hs16⟩
          rw [HSq2.out] at hr16
          have HR16 : Hid (Nm w16 r16 (A ^ 2 ^ (j + 1) % B)) := hr16
          have HW16 : Hid (Nm w16 u19 (A ^ (E % 2 ^ (j + 1)) % B)) := by
            have h := (HWa.out.same hs15).same hs16
            rw [HW.out, ← hmp0] at h
            exact h
          have HS16 : Hid (Same w10 w16) := (HSr.out.trans hs15).trans hs16
          clear hv15 hy15 hr16 hs15 hs16 hmp0
          go_wp2_with fail
          go_roundw
          case rel => exact ⟨j + 1, by omega, by go_num, HR16, HW16, HS16⟩
          case measure => simp [intOf]; omega
        · have hb1 : E / 2 ^ j % 2 = 1 := by omega
          rw [hb1, Int.natCast_one] at hand
          rw [hb1, Nat.mul_one] at hmp
          have HWS : Hid (W * S % B = A ^ (E % 2 ^ (j + 1)) % B) := by
            show _ = _
            rw [HS.out, HW.out, mul_pow_mod, ← hmp]
          clear hmp
          go_wp2_with fail
          refine (mul_any _ _ (dl W) (dl S) W S wr (by omega) (by omega) HWa.out.na HSq.out.na).mono ?_
          rintro e w13 ⟨v13, rfl, hv13, -, hs13⟩
          have hy13 := H9.out.2.2.1.same ((HS910.out.trans HSr.out).trans hs13)
          clear c1 hand eG
          go_wp2_with fail
          refine (div_any v13 y (dl (W * S)) q (W * S) B w13 (by omega) (by omega) hv13.na hy13 hB0).mono ?_
          rintro e w14 ⟨q14, r14, rfl, -, hr14, -, -, hs14⟩
          rw [HWS.out] at hr14
          have HR14 : Hid (Nm w14 r14 (A ^ (E % 2 ^ (j + 1)) % B)) := hr14
          have HSq14 : Hid (Nm w14 u16 S) := (HSq.out.same hs13).same hs14
          have HS14 : Hid (Same w10 w14) := (HSr.out.trans hs13).trans hs14
          clear hv13 hy13 hr14 hs13 hs14 HWa HSq
          go_wp2_with fail
          refine (mul_any _ _ (dl S) (dl S) S S w14 (by omega) (by omega) HSq14.out.na HSq14.out.na).mono ?_
          rintro e w15 ⟨v15, rfl, hv15, -, hs15⟩
          have hy15 := H9.out.2.2.1.same ((HS910.out.trans HS14.out).trans hs15)
          go_wp2_with fail
          refine (div_any v15 y (dl (S * S)) q (S * S) B w15 (by omega) (by omega) hv15.na hy15 hB0).mono ?_
          rintro e w16 ⟨q16, r16, rfl, -, hr16, -, -, hs16⟩
          rw [HSq2.out] at hr16
          have HR16 : Hid (Nm w16 r16 (A ^ 2 ^ (j + 1) % B)) := hr16
          have HW16 : Hid (Nm w16 r14 (A ^ (E % 2 ^ (j + 1)) % B)) := (HR14.out.same hs15).same hs16
          have HS16 : Hid (Same w10 w16) := (HS14.out.trans hs15).trans hs16
          clear hv15 hy15 hr16 hs15 hs16
          go_wp2_with fail
          go_roundw
          case rel => exact ⟨j + 1, by omega, by go_num, HR16, HW16, HS16⟩
          case measure => simp [intOf]; omega
      · have hje : j = L := by omega
        subst hje
        have HWe : Hid (Nm wr u19 (A ^ E % B)) := by
          have h := HWa.out
          rw [Nat.mod_eq_of_lt HEl.out] at h
          exact h
        have hdE := hdR E
        clear HSq HWa hdR
        go_wp2_with fail
        refine (answers_any got _ (A ^ E % B) wr (by omega) (HGot.out.same HSr.out) HWe.out).mono ?_
        rintro e w15 ⟨rfl, hs15⟩
        have hs10 := HSr.out.trans hs15
        have hg15 := HGot.out.same hs10
        have hfg15 := HFg.out.at hg15
        have HS15 : Hid (Same w9 w15) := HS910.out.trans hs10
        clear hs15 hs10 HWe
        go_wp2_with fail
        refine (flip_any got (A ^ E % B) w9.heap.size w15 (by omega) hg15 hfg15).mono ?_
        rintro e w16 ⟨⟨z16, rfl⟩, hc16⟩
        have HS16 : Hid (Same w9 w16) := HS15.out.trans_new hc16 (fun q o hq h => by omega)
        have hx16 := H9.out.1.same HS16.out
        have hkx16 := H9.out.2.2.2.1.same HS16.out
        clear hg15 hfg15 hc16
        go_wp2_with fail
        refine (sameNat_any x kx p A w16 (by omega) hx16 hkx16 hzx.symm).mono ?_
        rintro e w17 ⟨rfl, hs17⟩
        have HS17 : Hid (Same w9 w17) := HS16.out.trans hs17
        have hn17 := H9.out.2.1.same HS17.out
        have hkn17 := H9.out.2.2.2.2.1.same HS17.out
        clear hx16 hkx16 hs17
        go_wp2_with fail
        refine (sameNat_any _ kn s E w17 (by omega) hn17 hkn17 hzn.symm).mono ?_
        rintro e w18 ⟨rfl, hs18⟩
        have HS18 : Hid (Same w9 w18) := HS17.out.trans hs18
        have hy18 := H9.out.2.2.1.same HS18.out
        have hky18 := H9.out.2.2.2.2.2.same HS18.out
        clear hn17 hkn17 hs18
        go_wp2_with fail
        refine (sameNat_any y ky q B w18 (by omega) hy18 hky18 hzy.symm).mono ?_
        rintro e w19 ⟨rfl, hs19⟩
        go_wp2_with fail
        go_ret
        exact ⟨rfl, (hS9.trans HS18.out).trans hs19⟩

theorem walk (a0 : Option Addr) (len0 cap0 : Nat) (z0 : List Int) (a1 : Option Addr) (len1 cap1 : Nat) (z1 : List Int) (a2 : Option Addr) (len2 cap2 : Nat) (z2 : List Int) (w : World) (w0 : IsRow .u8 w a0 len0 cap0 z0) (w1 : IsRow .u8 w a1 len1 cap1 z1) (w2 : IsRow .u8 w a2 len2 cap2 z2) :
    Calls Tajg.prog 6 #[.slice a0 len0 cap0, .slice a1 len1 cap1, .slice a2 len2 cap2] w fun e w' => e = .returned (.bool true) ∧ Below w.heap.size w w' := by
  obtain ⟨h1, h2, h3⟩ := row_u8 w0
  obtain ⟨g1, g2, g3⟩ := row_u8 w1
  obtain ⟨k1, k2, k3⟩ := row_u8 w2
  exact (main _ _ _ _ _ _ _ _ _ w h1 g1 k1 h2 g2 k2 h3 g3 k3).mono fun e w' ⟨he, hs⟩ => ⟨he, Chg.below (Nat.le_refl _) (Same.chg hs)⟩
end Go.Proofs.Ygctaj.powModRight
