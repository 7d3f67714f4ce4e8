import Derived.Test.YgctajGcd
import Derived.Test.YgctajFlip
import Derived.Test.YgctajInvMod
import Derived.Test.YgctajWhole
import Derived.Test.YgctajLawRow
import Derived.OpenShut
import Derived.Below
namespace Go.Proofs.Ygctaj.invModRight
open Go.RowKit Mem Nt Long Ntt
set_option linter.unusedVariables false

set_option maxRecDepth 100000 in
set_option maxHeartbeats 4000000 in
theorem main (v0 v1 : Value) (n0 n1 : Nat) (f g : Nat → Nat) (w : World) (hn0 : n0 ≤ 9223372036854775807) (hn1 : n1 ≤ 9223372036854775807) (hv0 : Sl .u8 w v0 n0 f) (hv1 : Sl .u8 w v1 n1 g) (hf : ∀ i, i < n0 → f i < 256) (hg : ∀ i, i < n1 → g i < 256) :
    Calls Tajg.prog 7 #[v0, v1] w fun e w' => e = .returned (.bool true) ∧ Same w w' := by
  have hE := @run_eql_slice_nil Tajg.prog 24 _ Tajg.underlying24
  go_enter Tajg.func7, Tajg.ntmps7
  go_wp2_with fail
  refine (digits_any v0 n0 512 f w hn0 (by omega) (by omega) hv0).mono ?_
  rintro e w1 ⟨⟨v2, rfl, hv2⟩, rfl⟩
  have HF : Hid (∀ i, i < min n0 512 → f i < 256) := fun i hi => hf i (by omega)
  have HG : Hid (∀ i, i < min n1 512 → g i < 256) := fun i hi => hg i (by omega)
  have hp : min n0 512 ≤ 512 := Nat.min_le_right _ _
  have hq : min n1 512 ≤ 512 := Nat.min_le_right _ _
  clear hv0 hf hg hn0
  generalize min n0 512 = p at *
  go_wp2_with fail
  refine (ownNat_any v2 p f _ (by omega) HF.out hv2).mono ?_
  rintro e w2 ⟨x, rfl, hx2, hzx, -, hS2⟩
  generalize val f p = A at *
  have hv1 := hv1.same hS2
  clear hv2 HF hzx
  go_wp2_with fail
  refine (digits_any v1 n1 512 g w2 hn1 (by omega) (by omega) hv1).mono ?_
  rintro e w3 ⟨⟨v3, rfl, hv3⟩, rfl⟩
  clear hv1 hn1
  generalize min n1 512 = q at *
  go_wp2_with fail
  refine (ownNat_any v3 q g _ (by omega) HG.out hv3).mono ?_
  rintro e w4 ⟨y, rfl, hy4, -, -, hS4⟩
  generalize val g q = B at *
  have hx4 := hx2.same hS4
  have hS4 := hS2.trans hS4
  clear hv3 HG hx2 hS2
  go_wp2_with fail
  refine (ownNat_any x p (dg A) w4 (by omega) (fun i _ => dg_lt A i) hx4.sl).mono ?_
  rintro e w5 ⟨kx, rfl, hkx5, hzx, -, hS5⟩
  rw [hx4.val] at hkx5
  have hx5 := hx4.same hS5
  have hy5 := hy4.same hS5
  have hS5 := hS4.trans hS5
  clear hx4 hy4 hS4
  go_wp2_with fail
  refine (ownNat_any y q (dg B) w5 (by omega) (fun i _ => dg_lt B i) hy5.sl).mono ?_
  rintro e w6 ⟨ky, rfl, hky6, hzy, -, hS6⟩
  rw [hy5.val] at hky6
  have hx6 := hx5.same hS6
  have hy6 := hy5.same hS6
  have hkx6 := hkx5.same hS6
  have hS6 := hS5.trans hS6
  clear hx5 hy5 hkx5 hS5
  have hdA : dl A ≤ 512 := by have := dl_le _ _ hx6.lt; omega
  have hdB : dl B ≤ 512 := by have := dl_le _ _ hy6.lt; omega
  have H6 : Hid (Na w6 x p A ∧ Na w6 y q B ∧ Na w6 kx p A ∧ Na w6 ky q B) := ⟨hx6, hy6, hkx6, hky6⟩
  clear hkx6 hky6
  go_wp2_with fail
  by_cases hB0 : B = 0
  · subst hB0
    refine (invMod_none x y p q A w6 (by omega) (by omega) hx6 hy6).mono ?_
    rintro e w7 ⟨rfl, rfl⟩
    go_wp2_with fail
    refine (sound_any y q 0 w7 (by omega) hy6).mono ?_
    rintro e w8 ⟨u8, rfl, hu8, -, hs8⟩
    obtain rfl := hu8.2 rfl
    clear hx6 hy6
    go_wp2_with fail
    go_ret
    exact ⟨rfl, hS6.trans hs8⟩
  · refine (invMod_any x y p q A B w6 (by omega) (by omega) hx6 hy6 (by omega)).mono ?_
    rintro e w7 ⟨hans, hs7⟩
    have hS7 := hS6.trans hs7
    have hx7 := hx6.same hs7
    have hy7 := hy6.same hs7
    have hs67 : Hid (Same w6 w7) := hs7
    clear hx6 hy6 hs7
    rcases hans with ⟨hg1, got, L, rfl, hgot, hfg, hLB, hLA⟩ | ⟨hg1, rfl⟩
    · have HG1 : Hid (Nat.gcd A B = 1) := hg1
      have HLA : Hid (L * A % B = 1 % B) := hLA
      have hdL : dl L ≤ 512 := Nat.le_trans (dl_mono (Nat.le_of_lt hLB)) hdB
      clear hg1 hLA
      go_wp2_with fail
      refine (sound_any y q B w7 (by omega) hy7).mono ?_
      rintro e w8 ⟨u8, rfl, hu8, -, hs8⟩
      rcases hu8.open with ⟨h, _⟩ | ⟨_, bu, ou, cu, rfl, -⟩
      · exact absurd h hB0
      have hx8 := hx7.same hs8
      have hy8 := hy7.same hs8
      clear hu8 hx7 hy7
      generalize dl B = lB at *
      go_wp2_with fail
      refine (gcd_any x y p q A B w8 (by omega) (by omega) hx8 hy8).mono ?_
      rintro e w9 ⟨g9, rfl, hg9, -, hs9⟩
      rw [HG1.out] at hg9
      go_wp2_with fail
      refine (whole_any 1 w9 (by omega)).mono ?_
      rintro e w10 ⟨o10, rfl, ho10, -, hs10⟩
      have hg10 := hg9.same hs10
      go_wp2_with fail
      refine (cmp_any g9 o10 (dl 1) (dl 1) 1 1 w10 (by rw [dl_one]; omega) (by rw [dl_one]; omega) hg10.na ho10.na).mono ?_
      rintro e w11 ⟨rfl, hs11⟩
      rw [show cmpN 1 1 = 0 from rfl]
      have hs8b := ((hs8.trans hs9).trans hs10).trans hs11
      have hs6b : Hid (Same w6 w11) := hs67.out.trans hs8b
      clear hg9 ho10 hg10 hx8 hy8 hs8 hs9 hs10 hs11
      go_wp2_with fail
      refine (whole_any 1 w11 (by omega)).mono ?_
      rintro e w12 ⟨o12, rfl, ho12, -, hs12⟩
      have hy12 := H6.out.2.1.same (hs6b.out.trans hs12)
      go_wp2_with fail
      refine (div_any o12 y (dl 1) q 1 B w12 (by rw [dl_one]; omega) (by omega) ho12.na hy12 hB0).mono ?_
      rintro e w13 ⟨q13, r13, rfl, -, hr13, -, -, hs13⟩
      have hs7d := (hs8b.trans hs12).trans hs13
      have hg13 := hgot.same hs7d
      have hs6d : Hid (Same w6 w13) := hs67.out.trans hs7d
      have hx13 := H6.out.1.same hs6d.out
      have hy13 := H6.out.2.1.same hs6d.out
      clear ho12 hy12 hs12 hs13 hs8b hs6b
      go_wp2_with fail
      refine (mul_any got x (dl L) p L A w13 (by omega) (by omega) hg13.na hx13).mono ?_
      rintro e w14 ⟨m14, rfl, hm14, -, hs14⟩
      have hdm : dl (L * A) ≤ 1024 := by
        have h1 := dl_le (dl L + p) (L * A) (by rw [Nat.pow_add]; exact Nat.mul_lt_mul'' hg13.na.lt hx13.lt)
        omega
      have hy14 := hy13.same hs14
      go_wp2_with fail
      refine (div_any m14 y (dl (L * A)) q (L * A) B w14 (by omega) (by omega) hm14.na hy14 hB0).mono ?_
      rintro e w15 ⟨q15, r15, rfl, -, hr15, -, -, hs15⟩
      rw [HLA.out] at hr15
      have hs7f := (hs7d.trans hs14).trans hs15
      have hg15 := hgot.same hs7f
      have hr13' := (hr13.same hs14).same hs15
      have hs6f : Hid (Same w6 w15) := hs67.out.trans hs7f
      clear hm14 hy14 hs14 hs15 hs7d hs6d hx13 hy13 hr13 hg13
      go_wp2_with fail
      refine (lawNormal_any got L w15 (by omega) hg15).mono ?_
      rintro e w16 ⟨rfl, rfl⟩
      have hy16 := H6.out.2.1.same hs6f.out
      go_wp2_with fail
      refine (cmp_any got y (dl L) q L B w16 (by omega) (by omega) hg15.na hy16).mono ?_
      rintro e w17 ⟨rfl, hs17⟩
      rw [cmp_lt hLB]
      have hr17 := hr15.same hs17
      have ho17 := hr13'.same hs17
      have hd1 : dl (1 % B) ≤ 1 := dl_le 1 _ (Nat.lt_of_le_of_lt (Nat.mod_le _ _) (by decide))
      clear hr15 hr13' hy16 hg15
      go_wp2_with fail
      refine (sameNat_any r15 r13 (dl (1 % B)) (1 % B) w17 (by omega) hr17.na ho17.na (by rw [hr17.nl, ho17.nl])).mono ?_
      rintro e w18 ⟨rfl, hs18⟩
      have hs7h := (hs7f.trans hs17).trans hs18
      have hg18 := hgot.same hs7h
      have hfg18 := hfg.at hg18
      clear hr17 ho17
      go_wp2_with fail
      refine (flip_any got L w6.heap.size w18 (by omega) hg18 hfg18).mono ?_
      rintro e w19 ⟨⟨z19, rfl⟩, hc19⟩
      have hs19 : Same w6 w19 := (hs67.out.trans hs7h).trans_new hc19 (fun q o hq h => by omega)
      have hx19 := H6.out.1.same hs19
      have hkx19 := H6.out.2.2.1.same hs19
      go_wp2_with fail
      refine (sameNat_any x kx p A w19 (by omega) hx19 hkx19 hzx.symm).mono ?_
      rintro e w20 ⟨rfl, hs20⟩
      have hy20 := (H6.out.2.1.same hs19).same hs20
      have hky20 := (H6.out.2.2.2.same hs19).same hs20
      clear hx19 hkx19
      go_wp2_with fail
      refine (sameNat_any y ky q B w20 (by omega) hy20 hky20 hzy.symm).mono ?_
      rintro e w21 ⟨rfl, hs21⟩
      go_wp2_with fail
      go_ret
      exact ⟨rfl, ((hS6.trans hs19).trans hs20).trans hs21⟩
    · have HG1 : Hid (Nat.gcd A B ≠ 1) := hg1
      clear hg1
      have hdg : dl (Nat.gcd A B) ≤ 512 := Nat.le_trans (dl_mono (Nat.gcd_le_right A (Nat.pos_of_ne_zero hB0))) hdB
      go_wp2_with fail
      refine (sound_any y q B w7 (by omega) hy7).mono ?_
      rintro e w8 ⟨u8, rfl, hu8, -, hs8⟩
      rcases hu8.open with ⟨h, _⟩ | ⟨_, bu, ou, cu, rfl, -⟩
      · exact absurd h hB0
      have hx8 := hx7.same hs8
      have hy8 := hy7.same hs8
      clear hu8 hx7 hy7
      generalize dl B = lB at *
      go_wp2_with fail
      refine (gcd_any x y p q A B w8 (by omega) (by omega) hx8 hy8).mono ?_
      rintro e w9 ⟨g9, rfl, hg9, -, hs9⟩
      go_wp2_with fail
      refine (whole_any 1 w9 (by omega)).mono ?_
      rintro e w10 ⟨o10, rfl, ho10, -, hs10⟩
      have hg10 := hg9.same hs10
      go_wp2_with fail
      refine (cmp_any g9 o10 (dl (Nat.gcd A B)) (dl 1) (Nat.gcd A B) 1 w10 (by omega) (by rw [dl_one]; omega) hg10.na ho10.na).mono ?_
      rintro e w11 ⟨rfl, hs11⟩
      have hcz : (cmpN (Nat.gcd A B) 1 == 0) = false := by
        have := HG1.out
        rw [beq_eq_false_iff_ne]
        unfold cmpN
        split <;> (try split) <;> omega
      generalize cmpN (Nat.gcd A B) 1 = C at *
      have hcb : (C != 0) = true := by simp [bne, hcz]
      clear hg9 ho10 hg10 hx8 hy8
      go_wp2_with fail
      go_ret
      exact ⟨rfl, (((hS7.trans hs8).trans hs9).trans hs10).trans hs11⟩

theorem walk (a0 : Option Addr) (len0 cap0 : Nat) (z0 : List Int) (a1 : Option Addr) (len1 cap1 : Nat) (z1 : List Int) (w : World) (w0 : IsRow .u8 w a0 len0 cap0 z0) (w1 : IsRow .u8 w a1 len1 cap1 z1) :
    Calls Tajg.prog 7 #[.slice a0 len0 cap0, .slice a1 len1 cap1] w fun e w' => e = .returned (.bool true) ∧ Below w.heap.size w w' := by
  obtain ⟨h1, h2, h3⟩ := row_u8 w0
  obtain ⟨g1, g2, g3⟩ := row_u8 w1
  exact (main _ _ _ _ _ _ w h1 g1 h2 g2 h3 g3).mono fun e w' ⟨he, hs⟩ => ⟨he, Chg.below (Nat.le_refl _) (Same.chg hs)⟩
end Go.Proofs.Ygctaj.invModRight
