/- nlong.PowMod, walked: moduli of at most 1000 digits. -/
import Derived.Test.YgctajPowEven
import Derived.Test.YgctajDivAny
namespace Go.Proofs.Ygctaj.Nt
open Go.RowKit Mem
set_option linter.unusedVariables false

set_option maxRecDepth 100000 in
set_option maxHeartbeats 2000000 in
theorem powMod_none (a e m : Value) (na ne nm A E : Nat) (w : World) (ha : Na w a na A) (he : Na w e ne E) (hm : Na w m nm 0) (hna : na ≤ 2900) (hne : ne ≤ 2900) (hnm : nm ≤ 2900) :
    Calls Tajg.prog 28 #[a, e, m] w fun e w' => e = .returned (.tuple #[.slice none 0 0, .bool false]) ∧ w' = w := by
  have HA : Hid (Na w a na A) := ha
  have HE : Hid (Na w e ne E) := he
  have HM : Hid (Na w m nm 0) := hm
  clear ha he hm
  go_enter Tajg.func28, Tajg.ntmps28
  go_wp2_with fail
  refine (normal_any _ na A w (by omega) HA.out).mono ?_
  rintro e1 w' ⟨⟨a1, rfl, ha1, -⟩, rfl⟩
  have HA1 : Hid (Nm w' a1 A) := ha1
  clear ha1
  go_wp2_with fail
  refine (normal_any _ ne E w' (by omega) HE.out).mono ?_
  rintro e1 w' ⟨⟨e1, rfl, he1, -⟩, rfl⟩
  go_wp2_with fail
  refine (normal_any _ nm 0 w' (by omega) HM.out).mono ?_
  rintro e2 w' ⟨⟨m1, rfl, hm1, -⟩, rfl⟩
  have HM1 : Hid (Nm w' m1 0) := hm1
  have hd0 := dl_zero
  have hdA : dl A ≤ 2900 := Nat.le_trans (dl_le _ _ HA.out.lt) hna
  clear hm1
  go_wp2_with fail
  refine (div_none _ _ (dl A) (dl 0) A _ (by omega) (by omega) HA1.out.na HM1.out.na).mono ?_
  rintro e3 w' ⟨rfl, rfl⟩
  go_wp2_with fail
  go_ret2
  exact ⟨rfl, rfl⟩

set_option maxRecDepth 100000 in
set_option maxHeartbeats 2000000 in
theorem powMod_any (a e m : Value) (na ne nm A E M : Nat) (w : World) (ha : Na w a na A) (he : Na w e ne E) (hm : Na w m nm M) (hM0 : M ≠ 0) (hna : na ≤ 1000) (hne : ne ≤ 1000) (hnm : nm ≤ 1000) :
    Calls Tajg.prog 28 #[a, e, m] w fun e w' => ∃ v', e = .returned (.tuple #[v', .bool true]) ∧ Nm w' v' (A ^ E % M) ∧ Fr w.heap.size w' v' ∧ Same w w' := by
  have HA : Hid (Na w a na A) := ha
  have HE : Hid (Na w e ne E) := he
  have HM : Hid (Na w m nm M) := hm
  clear ha he hm
  go_enter Tajg.func28, Tajg.ntmps28
  go_wp2_with fail
  refine (normal_any _ na A w (by omega) HA.out).mono ?_
  rintro e1 w' ⟨⟨a1, rfl, ha1, -⟩, rfl⟩
  have HA1 : Hid (Nm w' a1 A) := ha1
  clear ha1
  go_wp2_with fail
  refine (normal_any _ ne E w' (by omega) HE.out).mono ?_
  rintro e1 w' ⟨⟨e1, rfl, he1, -⟩, rfl⟩
  have HE1 : Hid (Nm w' e1 E) := he1
  clear he1
  go_wp2_with fail
  refine (normal_any _ nm M w' (by omega) HM.out).mono ?_
  rintro e2 w' ⟨⟨m1, rfl, hm1, -⟩, rfl⟩
  have HM1 : Hid (Nm w' m1 M) := hm1
  have hdA : dl A ≤ 1000 := Nat.le_trans (dl_le _ _ HA.out.lt) hna
  have hdE : dl E ≤ 1000 := Nat.le_trans (dl_le _ _ HE.out.lt) hne
  have hdM : dl M ≤ 1000 := Nat.le_trans (dl_le _ _ HM.out.lt) hnm
  clear hm1
  go_wp2_with fail
  refine (div_any _ _ _ _ A M _ (by omega) (by omega) HA1.out.na HM1.out.na hM0).mono ?_
  rintro e3 w3 ⟨q, r, rfl, hq, hr, -, -, hs3⟩
  have hM3 := HM1.out.same hs3
  have HE3 : Hid (Nm w3 e1 E) := HE1.out.same hs3
  have HR3 : Hid (Nm w3 r (A % M)) := hr
  have HM3 : Hid (Nm w3 m1 M) := hM3
  have hdR : dl (A % M) ≤ 1000 := Nat.le_trans (dl_mono (Nat.mod_le _ _)) hdA
  obtain ⟨h0, _⟩ | ⟨_, b, off, cap, rfl, hcap, hp, hRm, hcl⟩ := hM3.open
  · exact absurd h0 hM0
  have c0 := hRm 0 hp
  rw [Nat.add_zero] at c0
  have d0 := dg_lt M 0
  have hm2 : dg M 0 % 2 = M % 2 := by unfold dg; rw [Nat.pow_zero, Nat.div_one]; omega
  have hand : bits .and .u8 ((dg M 0 : Nat) : Int) 1 = ((M % 2 : Nat) : Int) := by
    have h := u8_and_nat (dg M 0) 1 d0 (by decide)
    rw [nat_mask1, hm2] at h
    exact h
  have z2 : 0 ≤ ((dg M 0 : Nat) : Int) := by omega
  have z3 : ((dg M 0 : Nat) : Int) < 256 := by omega
  have hm4 : dl M ≤ 4096 := by omega
  clear hRm hcl d0 hm2 hq hr
  generalize ((dg M 0 : Nat) : Int) = D at *
  by_cases hz : M % 2 = 0
  · rw [hz, Int.natCast_zero] at hand
    go_wp2_with fail
    refine (powEven_any _ _ _ (A % M) E M _ HR3.out HE3.out HM3.out hM0 hz hdR hdE hdM).mono ?_
    rintro e5 w5 ⟨v5, rfl, hv5, hf5, hs5⟩
    rw [← Nat.pow_mod] at hv5
    have HV5 : Hid (Nm w5 v5 (A ^ E % M)) := hv5
    clear hv5
    go_wp2_with fail
    go_ret2
    exact ⟨v5, rfl, HV5.out, hf5.mono hs3.size, hs3.trans hs5⟩
  · have hz1 : M % 2 = 1 := by omega
    rw [hz1, Int.natCast_one] at hand
    go_wp2_with fail
    refine (powOdd_any _ _ _ (A % M) E M _ HR3.out HE3.out HM3.out hz1 hdR hdE hdM).mono ?_
    rintro e5 w5 ⟨v5, rfl, hv5, hf5, hs5⟩
    rw [← Nat.pow_mod] at hv5
    have HV5 : Hid (Nm w5 v5 (A ^ E % M)) := hv5
    clear hv5
    go_wp2_with fail
    go_ret2
    exact ⟨v5, rfl, HV5.out, hf5.mono hs3.size, hs3.trans hs5⟩
end Go.Proofs.Ygctaj.Nt
