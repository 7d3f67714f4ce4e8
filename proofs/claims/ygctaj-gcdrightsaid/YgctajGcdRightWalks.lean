import Derived.Test.YgctajGcd
import Derived.Test.YgctajFlip
import Derived.Test.YgctajLawRow
import Derived.OpenShut
import Derived.Below
namespace Go.Proofs.Ygctaj.gcdRight
open Go.RowKit Mem Nt Long Ntt
set_option linter.unusedVariables false

set_option maxRecDepth 100000 in
set_option maxHeartbeats 4000000 in
theorem main (v0 v1 : Value) (n0 n1 : Nat) (f g : Nat → Nat) (w : World) (hn0 : n0 ≤ 9223372036854775807) (hn1 : n1 ≤ 9223372036854775807) (hv0 : Sl .u8 w v0 n0 f) (hv1 : Sl .u8 w v1 n1 g) (hf : ∀ i, i < n0 → f i < 256) (hg : ∀ i, i < n1 → g i < 256) :
    Calls Tajg.prog 5 #[v0, v1] w fun e w' => e = .returned (.bool true) ∧ Same w w' := by
  have hE := @Nt.run_neq_slice_nil Tajg.prog 24 _ Tajg.underlying24
  go_enter Tajg.func5, Tajg.ntmps5
  go_wp2_with fail
  refine (digits_any v0 n0 1024 f w hn0 (by omega) (by omega) hv0).mono ?_
  rintro e w1 ⟨⟨v2, rfl, hv2⟩, rfl⟩
  have HF : Hid (∀ i, i < min n0 1024 → f i < 256) := fun i hi => hf i (by omega)
  have HG : Hid (∀ i, i < min n1 1024 → g i < 256) := fun i hi => hg i (by omega)
  have hp : min n0 1024 ≤ 1024 := Nat.min_le_right _ _
  have hq : min n1 1024 ≤ 1024 := Nat.min_le_right _ _
  clear hv0 hf hg hn0
  generalize min n0 1024 = p at *
  go_wp2_with fail
  refine (ownNat_any v2 p f _ (by omega) HF.out hv2).mono ?_
  rintro e w2 ⟨x, rfl, hx2, hzx, -, hS2⟩
  generalize val f p = A at *
  have hv1 := hv1.same hS2
  clear hv2 HF hzx
  go_wp2_with fail
  refine (digits_any v1 n1 1024 g w2 hn1 (by omega) (by omega) hv1).mono ?_
  rintro e w3 ⟨⟨v3, rfl, hv3⟩, rfl⟩
  clear hv1 hn1
  generalize min n1 1024 = q at *
  go_wp2_with fail
  refine (ownNat_any v3 q g _ (by omega) HG.out hv3).mono ?_
  rintro e w4 ⟨y, rfl, hy4, -, -, hS4⟩
  generalize val g q = B at *
  have hx4 := hx2.same hS4
  have hS4 := hS2.trans hS4
  clear hv3 HG hx2 hS2
  go_wp2_with fail
  refine (ownNat_any x p (dg A) w4 (by omega) (fun i _ => dg_lt A i) hx4.sl).mono ?_
  rintro e w5 ⟨kx, rfl, hkx5, hzx, -, hS5⟩
  rw [hx4.val] at hkx5
  have hx5 := hx4.same hS5
  have hy5 := hy4.same hS5
  have hS5 := hS4.trans hS5
  clear hx4 hy4 hS4
  go_wp2_with fail
  refine (ownNat_any y q (dg B) w5 (by omega) (fun i _ => dg_lt B i) hy5.sl).mono ?_
  rintro e w6 ⟨ky, rfl, hky6, hzy, -, hS6⟩
  rw [hy5.val] at hky6
  have hx6 := hx5.same hS6
  have hy6 := hy5.same hS6
  have hkx6 := hkx5.same hS6
  have hS6 := hS5.trans hS6
  clear hx5 hy5 hkx5 hS5
  go_wp2_with fail
  refine (sound_any x p A w6 (by omega) hx6).mono ?_
  rintro e w7 ⟨u7, rfl, hu7, -, hs7⟩
  have hy7 := hy6.same hs7
  go_wp2_with fail
  refine (sound_any y q B w7 (by omega) hy7).mono ?_
  rintro e w8 ⟨v8, rfl, hv8, -, hs8⟩
  have hu8 := hu7.same hs8
  have HS68 : Hid (Same w6 w8) := hs7.trans hs8
  have hdA : dl A ≤ 1024 := by have := dl_le _ _ hx6.lt; omega
  have hdB : dl B ≤ 1024 := by have := dl_le _ _ hy6.lt; omega
  have H6 : Hid (Na w6 x p A ∧ Na w6 y q B ∧ Na w6 kx p A ∧ Na w6 ky q B) := ⟨hx6, hy6, hkx6, hky6⟩
  clear hu7 hy7 hs7 hs8 hx6 hy6 hkx6 hky6
  go_wp2_with fail
  go_loopw [9, 10] (fun u v wr => ∃ U V : Nat, dl U ≤ 1024 ∧ dl V ≤ 1024 ∧ Nm wr u U ∧ Nm wr v V ∧ Hid (Nat.gcd U V = Nat.gcd A B) ∧ Same w6 wr) (fun _ v wr => mz wr v)
  case atStart => exact ⟨A, B, hdA, hdB, hu8, hv8, rfl, HS68⟩
  case round =>
    clear hu8 hv8 HS68
    obtain ⟨U, V, hdU, hdV, hu, hv, HUV, hSr⟩ := hrel
    have hmz := hv.mz
    by_cases hV0 : V = 0
    · subst hV0
      obtain rfl := hv.2 rfl
      have HUg : Hid (U = Nat.gcd A B) := by show _ = _; rw [← HUV.out, Nat.gcd_zero_right]
      have hx := H6.out.1.same hSr
      have hy := H6.out.2.1.same hSr
      go_wp2_with fail
      refine (gcd_any x y p q A B wr (by omega) (by omega) hx hy).mono ?_
      rintro e w9 ⟨g9, rfl, hg9, hfg9, hs9⟩
      have hu9 := hu.same hs9
      rw [← HUg.out] at hg9
      go_wp2_with fail
      refine (answers_any g9 _ U w9 (by omega) hg9 hu9).mono ?_
      rintro e w10 ⟨rfl, hs10⟩
      have hg10 := hg9.same hs10
      have hfg10 := hfg9.at hg10
      clear hg9 hfg9 hu9 hmz hx hy hu hv
      go_wp2_with fail
      refine (flip_any g9 U wr.heap.size w10 (by omega) hg10 hfg10).mono ?_
      rintro e w11 ⟨⟨z11, rfl⟩, hc11⟩
      have hs11 : Same wr w11 := (hs9.trans hs10).trans_new hc11 (fun q o hq h => by omega)
      have hs61 := hSr.trans hs11
      have hx11 := H6.out.1.same hs61
      have hkx11 := H6.out.2.2.1.same hs61
      go_wp2_with fail
      refine (sameNat_any x kx p A w11 (by omega) hx11 hkx11 hzx.symm).mono ?_
      rintro e w12 ⟨rfl, hs12⟩
      have hy12 := (H6.out.2.1.same hs61).same hs12
      have hky12 := (H6.out.2.2.2.same hs61).same hs12
      clear hx11 hkx11
      go_wp2_with fail
      refine (sameNat_any y ky q B w12 (by omega) hy12 hky12 hzy.symm).mono ?_
      rintro e w13 ⟨rfl, hs13⟩
      go_wp2_with fail
      go_ret
      exact ⟨rfl, ((hS6.trans hs61).trans hs12).trans hs13⟩
    · rcases hv.open with ⟨h, _⟩ | ⟨_, bv, ov, cv, rfl, hcv, hpv, -, -⟩
      · exact absurd h hV0
      have hmod : U % V < V := Nat.mod_lt _ (by omega)
      have HG2 : Hid (Nat.gcd V (U % V) = Nat.gcd A B) := by
        show _ = _
        rw [← HUV.out, Nat.gcd_comm U V, Nat.gcd_rec V U, Nat.gcd_comm]
      have hdr : dl (U % V) ≤ 1024 := by have := dl_mono (Nat.le_of_lt hmod); omega
      have Hmz : Hid (mz wr (.slice (some ⟨bv, ov, none⟩) (dl V) cv) = V) := hmz
      have Hv : Hid (Nm wr (.slice (some ⟨bv, ov, none⟩) (dl V) cv) V) := hv
      clear hmz hv
      generalize hdl : dl V = lv at *
      have Hdl : Hid (dl V = lv) := hdl
      clear hdl
      go_wp2_with fail
      refine (div_any _ _ (dl U) lv U V wr (by omega) (by omega) hu.na (by have h := Hv.out.na; rwa [Hdl.out] at h) hV0).mono ?_
      rintro e w9 ⟨q9, r9, rfl, -, hr9, -, -, hs9⟩
      have hv9 := Hv.out.same hs9
      go_wp2_with fail
      go_roundw
      case rel => exact ⟨V, U % V, by rw [Hdl.out]; exact hdV, hdr, hv9, hr9, HG2, hSr.trans hs9⟩
      case measure => rw [Hmz.out, hr9.mz]; exact hmod

theorem walk (a0 : Option Addr) (len0 cap0 : Nat) (z0 : List Int) (a1 : Option Addr) (len1 cap1 : Nat) (z1 : List Int) (w : World) (w0 : IsRow .u8 w a0 len0 cap0 z0) (w1 : IsRow .u8 w a1 len1 cap1 z1) :
    Calls Tajg.prog 5 #[.slice a0 len0 cap0, .slice a1 len1 cap1] w fun e w' => e = .returned (.bool true) ∧ Below w.heap.size w w' := by
  obtain ⟨h1, h2, h3⟩ := row_u8 w0
  obtain ⟨g1, g2, g3⟩ := row_u8 w1
  exact (main _ _ _ _ _ _ w h1 g1 h2 g2 h3 g3).mono fun e w' ⟨he, hs⟩ => ⟨he, Chg.below (Nat.le_refl _) (Same.chg hs)⟩
end Go.Proofs.Ygctaj.gcdRight
