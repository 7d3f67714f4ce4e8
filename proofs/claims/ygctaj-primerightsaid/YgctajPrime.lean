/- nlong.Prime, walked: numbers below 2^32. -/
import Derived.Test.YgctajStrong
import Derived.Test.YgctajRest
import Derived.Test.YgctajPrimeNone
namespace Go.Proofs.Ygctaj.Nt
open Go.RowKit Mem Pq Num
set_option linter.unusedVariables false

/-- the j-th of the 13 primes. -/
def bs (j : Nat) : Nat := bases.getD j 2
theorem bs_mem (j : Nat) (h : j < 13) : bs j ∈ bases := by
  have : ∀ j, j < 13 → bs j ∈ bases := by decide
  exact this j h
theorem bs_of (a : Nat) (h : a ∈ bases) : ∃ j, j < 13 ∧ a = bs j := by
  have : ∀ a ∈ bases, ∃ j, j < 13 ∧ a = bs j := by decide
  exact this a h
theorem bs_le (j : Nat) (h : j < 13) : 2 ≤ bs j ∧ bs j ≤ 41 := by
  have : ∀ j, j < 13 → 2 ≤ bs j ∧ bs j ≤ 41 := by decide
  exact this j h
theorem bs_all {A : Nat} (h : ∀ t, t < 13 → A % bs t ≠ 0) : ∀ a ∈ bases, A % a ≠ 0 := fun a ha => by
  obtain ⟨j, hj, rfl⟩ := bs_of a ha
  exact h j hj

theorem bs_cells (w : World) : ∀ j, j < 13 → (w.alloc (Obj.cells #[Value.int IntKind.u64 2, Value.int IntKind.u64 3, Value.int IntKind.u64 5, Value.int IntKind.u64 7, Value.int IntKind.u64 11, Value.int IntKind.u64 13, Value.int IntKind.u64 17, Value.int IntKind.u64 19, Value.int IntKind.u64 23, Value.int IntKind.u64 29, Value.int IntKind.u64 31, Value.int IntKind.u64 37, Value.int IntKind.u64 41] 95)).cell? ⟨w.heap.size, j, none⟩ = some (.int .u64 ((bs j : Nat) : Int)) := by
  intro j hj
  have : j = 0 ∨ j = 1 ∨ j = 2 ∨ j = 3 ∨ j = 4 ∨ j = 5 ∨ j = 6 ∨ j = 7 ∨ j = 8 ∨ j = 9 ∨ j = 10 ∨ j = 11 ∨ j = 12 := by omega
  rcases this with rfl | rfl | rfl | rfl | rfl | rfl | rfl | rfl | rfl | rfl | rfl | rfl | rfl <;> (rw [World.cell?_alloc_new]; rfl)
/-- the digits of the bound of Sorenson and Webster. -/
def sw (i : Nat) : Nat := [253, 165, 16, 36, 178, 197, 173, 81, 105, 190, 2].getD i 0
theorem sw_na (w : World) (t : TypeId) : Na (w.alloc (Obj.cells #[Value.int IntKind.u8 253, Value.int IntKind.u8 165, Value.int IntKind.u8 16, Value.int IntKind.u8 36, Value.int IntKind.u8 178, Value.int IntKind.u8 197, Value.int IntKind.u8 173, Value.int IntKind.u8 81, Value.int IntKind.u8 105, Value.int IntKind.u8 190, Value.int IntKind.u8 2] t)) (.slice (some ⟨w.heap.size, 0, none⟩) 11 11) 11 (val sw 11) := by
  refine Na.mk (Nat.le_refl _) ?_ (fun i => by rw [World.frozen?_alloc_new]) (by decide)
  intro j hj
  rw [Nat.zero_add]
  have : j = 0 ∨ j = 1 ∨ j = 2 ∨ j = 3 ∨ j = 4 ∨ j = 5 ∨ j = 6 ∨ j = 7 ∨ j = 8 ∨ j = 9 ∨ j = 10 := by omega
  rcases this with rfl | rfl | rfl | rfl | rfl | rfl | rfl | rfl | rfl | rfl | rfl <;> (rw [World.cell?_alloc_new]; rfl)
theorem sw_big : 4294967296 ≤ val sw 11 := by decide +kernel

set_option maxRecDepth 100000 in
set_option maxHeartbeats 2000000 in
theorem prime_any (v : Value) (n A : Nat) (w : World) (hn : n ≤ 100) (hA : A < 4294967296) (hv : Na w v n A) :
    Calls Tajg.prog 31 #[v] w fun e w' => ∃ c : Int, e = .returned (.int .u8 c) ∧ (c = 1 ∧ Prm A ∨ c = 0 ∧ ¬ Prm A) ∧ Same w w' := by
  have HV : Hid (Na w v n A) := hv
  have hdA : dl A ≤ 4 := dl_le 4 _ (by omega)
  clear hv
  go_enter Tajg.func31, Tajg.ntmps31
  go_wp2_with fail
  refine (normal_any v n A w (by omega) HV.out).mono ?_
  rintro e w' ⟨⟨a1, rfl, ha1, -⟩, rfl⟩
  have HA1 : Hid (Nm w' a1 A) := ha1
  clear ha1
  go_wp2_with fail
  have HB : Hid (∀ j, j < 13 → (w'.alloc (Obj.cells #[Value.int IntKind.u64 2, Value.int IntKind.u64 3, Value.int IntKind.u64 5, Value.int IntKind.u64 7, Value.int IntKind.u64 11, Value.int IntKind.u64 13, Value.int IntKind.u64 17, Value.int IntKind.u64 19, Value.int IntKind.u64 23, Value.int IntKind.u64 29, Value.int IntKind.u64 31, Value.int IntKind.u64 37, Value.int IntKind.u64 41] 95)).cell? ⟨w'.heap.size, j, none⟩ = some (.int .u64 ((bs j : Nat) : Int))) := bs_cells w'
  have HSW : Hid (Same w' (w'.alloc (Obj.cells #[Value.int IntKind.u64 2, Value.int IntKind.u64 3, Value.int IntKind.u64 5, Value.int IntKind.u64 7, Value.int IntKind.u64 11, Value.int IntKind.u64 13, Value.int IntKind.u64 17, Value.int IntKind.u64 19, Value.int IntKind.u64 23, Value.int IntKind.u64 29, Value.int IntKind.u64 31, Value.int IntKind.u64 37, Value.int IntKind.u64 41] 95))) := (Chg.refl _ _).alloc _
  generalize World.alloc w' _ = W at *
  have HAW : Hid (Nm W a1 A) := HA1.out.same HSW.out
  obtain ⟨Z, HZ⟩ : ∃ Z, Hid (Z = w'.heap.size) := ⟨_, rfl⟩
  rw [← HZ.out] at HB ⊢
  generalize Value.agg _ = AG
  clear HV HA1 HZ
  go_loopw [4, 5] (fun i _ wr => ∃ j : Nat, j ≤ 13 ∧ i = .int .i64 (j : Int) ∧ Hid (∀ t, t < j → A % bs t ≠ 0) ∧ Hid (wr = W)) (fun i _ _ => (13 - intOf i).toNat)
  case atStart => exact ⟨0, by omega, rfl, fun t ht => by omega, (rfl : W = W)⟩
  case round =>
    obtain ⟨j, hj, rfl, HNo, Hw⟩ := hrel
    obtain rfl := Hw.out
    clear Hw
    by_cases hj13 : j < 13
    · have hbj := bs_le j hj13
      have c1 := HB.out j hj13
      have HMem := bs_mem j hj13
      obtain ⟨q, Hq⟩ : ∃ q, Hid (q = bs j) := ⟨_, rfl⟩
      rw [← Hq.out] at hbj c1 HMem
      obtain ⟨av, cv, rfl, -⟩ := HAW.out.na
      by_cases hAq : A = q
      · have HPr : Hid (Prm A) := by rw [hAq]; exact base_is q HMem
        have hd1 : dl A = 1 := by
          have h1 := dl_le 1 A (by omega)
          have h2 := mt dl_eq_zero.1 (show A ≠ 0 by omega)
          omega
        obtain ⟨h0, _⟩ | ⟨_, b, off, cap, he, _, hp, hR, _⟩ := HAW.out.open
        · omega
        injection he with he1 he2 he3
        subst he1
        have c0 := hR 0 hp
        rw [Nat.add_zero] at c0
        have hdg : dg A 0 = q := by unfold dg; rw [Nat.pow_zero, Nat.div_one]; omega
        rw [hdg] at c0
        rw [hd1]
        have q0 : (0 : Int) ≤ (q : Int) := by omega
        have q1 : (q : Int) < 256 := by omega
        clear hR hdg he2 he3 hp
        go_wp2_with fail
        go_ret
        exact ⟨1, rfl, .inl ⟨rfl, HPr.out⟩, HSW.out⟩
      · have q0 : (0 : Int) ≤ (q : Int) := by omega
        have q1 : (q : Int) < 256 := by omega
        by_cases hd1 : dl A = 1
        · obtain ⟨h0, _⟩ | ⟨_, b, off, cap, he, _, hp, hR, _⟩ := HAW.out.open
          · rw [h0, dl_zero] at hd1; omega
          injection he with he1 he2 he3
          subst he1
          have c0 := hR 0 hp
          rw [Nat.add_zero] at c0
          have hl := lt_dl A
          rw [hd1] at hl
          have hdg : dg A 0 = A := by unfold dg; rw [Nat.pow_zero, Nat.div_one]; omega
          rw [hdg] at c0
          have a0 : (0 : Int) ≤ (A : Int) := by omega
          have a2 : (A : Int) < 256 := by omega
          have hne : ((A : Int) == (q : Int)) = false := by rw [beq_eq_false_iff_ne]; omega
          have hd1i : ((dl A : Nat) : Int) = 1 := by omega
          clear hR hdg he2 he3 hl hd1
          go_wp2_with fail
          refine (rest_any _ (dl A) A q wr (by omega) (by omega) (by omega) HAW.out.na).mono ?_
          rintro e w2 ⟨rfl, rfl⟩
          clear c1
          by_cases hr : A % q = 0
          · rw [hr, Int.natCast_zero]
            have HNp : Hid (¬ Prm A) := not_prm_of HMem hAq hr
            go_wp2_with fail
            go_ret
            exact ⟨0, rfl, .inr ⟨rfl, HNp.out⟩, HSW.out⟩
          · have hr1 : (((A % q : Nat) : Int) == 0) = false := by rw [beq_eq_false_iff_ne]; omega
            have HNo2 : Hid (∀ t, t < j + 1 → A % bs t ≠ 0) := fun t ht => by
              by_cases h : t = j
              · subst h; rw [← Hq.out]; exact hr
              · exact HNo.out t (by omega)
            generalize ((A % q : Nat) : Int) = R at *
            go_wp2_with fail
            go_roundw
            case rel => exact ⟨j + 1, by omega, by go_num, HNo2, (trivial : True)⟩
            case measure => simp [intOf]; omega
        · have hne : ((dl A : Int) == 1) = false := by rw [beq_eq_false_iff_ne]; omega
          go_wp2_with fail
          refine (rest_any _ (dl A) A q wr (by omega) (by omega) (by omega) HAW.out.na).mono ?_
          rintro e w2 ⟨rfl, rfl⟩
          clear c1
          by_cases hr : A % q = 0
          · rw [hr, Int.natCast_zero]
            have HNp : Hid (¬ Prm A) := not_prm_of HMem hAq hr
            go_wp2_with fail
            go_ret
            exact ⟨0, rfl, .inr ⟨rfl, HNp.out⟩, HSW.out⟩
          · have hr1 : (((A % q : Nat) : Int) == 0) = false := by rw [beq_eq_false_iff_ne]; omega
            have HNo2 : Hid (∀ t, t < j + 1 → A % bs t ≠ 0) := fun t ht => by
              by_cases h : t = j
              · subst h; rw [← Hq.out]; exact hr
              · exact HNo.out t (by omega)
            generalize ((A % q : Nat) : Int) = R at *
            go_wp2_with fail
            go_roundw
            case rel => exact ⟨j + 1, by omega, by go_num, HNo2, (trivial : True)⟩
            case measure => simp [intOf]; omega
    · have hje : j = 13 := by omega
      subst hje
      have HAll : Hid (∀ a ∈ bases, A % a ≠ 0) := bs_all HNo.out
      have hA0 : A ≠ 0 := by
        rintro rfl
        exact HAll.out 2 (by decide) rfl
      have hA2 : A % 2 = 1 := by
        have := HAll.out 2 (by decide)
        omega
      have HSa : Hid (Same wr (wr.alloc (Obj.cells #[Value.int IntKind.u8 1] 5))) := (Chg.refl _ _).alloc _
      have HO : Hid (Na (wr.alloc (Obj.cells #[Value.int IntKind.u8 1] 5)) (.slice (some ⟨wr.heap.size, 0, none⟩) 1 1) 1 1) := one_nm2 _ _ _ rfl
      clear HNo
      obtain ⟨av, cv, rfl, -⟩ := HAW.out.na
      go_wp2_with fail
      generalize World.alloc wr _ = W2 at *
      have HA2 : Hid (Nm W2 (.slice av (dl A) cv) A) := HAW.out.same HSa.out
      refine (cmp_any _ _ (dl A) 1 A 1 W2 (by omega) (by omega) HA2.out.na HO.out).mono ?_
      rintro e w3 ⟨rfl, hs3⟩
      have HS3 : Hid (Same w' w3) := (HSW.out.trans HSa.out).trans hs3
      have HSW3 : Hid (Same wr w3) := HSa.out.trans hs3
      have HA3 : Hid (Nm w3 (.slice av (dl A) cv) A) := HA2.out.same hs3
      clear HO HSa HA2 hs3
      by_cases hA1 : A = 1
      · have HNp : Hid (¬ Prm A) := fun h => by have := h.1; omega
        rw [hA1, cmp_same]
        go_wp2_with fail
        go_ret
        exact ⟨0, rfl, .inr ⟨rfl, HNp.out⟩, HS3.out⟩
      · have hcm : cmpN A 1 = 1 := by unfold cmpN; rw [if_neg (by omega), if_neg hA1]
        rw [hcm]
        clear hcm
        have Hd : Hid (A < 1849 → dl A ≤ 2) := fun h => dl_le 2 _ (by omega)
        by_cases hsm : A < 1849
        · have hd2 := Hd.out hsm
          have HPr : Hid (Prm A) := prm_below (by omega) hsm HAll.out
          go_wp2_with fail
          refine (value_any _ (dl A) A w3 (by omega) HA3.out.na).mono ?_
          rintro e w4 ⟨rfl, rfl⟩
          have hsmi : (A : Int) < 1849 := by omega
          have a0 : (0 : Int) ≤ (A : Int) := by omega
          go_wp2_with fail
          go_ret
          exact ⟨1, rfl, .inl ⟨rfl, HPr.out⟩, HS3.out⟩
        · have hsm1 : ¬ (A : Int) < 1849 := by omega
          by_cases hd2 : dl A ≤ 2
          · go_wp2_with fail
            refine (value_any _ (dl A) A w3 (by omega) HA3.out.na).mono ?_
            rintro e w4 ⟨rfl, rfl⟩
            have a0 : (0 : Int) ≤ (A : Int) := by omega
            go_wp2_with fail
            go_loopw [6] (fun i wq => ∃ j : Nat, j ≤ 13 ∧ i = .int .i64 (j : Int) ∧ Hid (∀ t, t < j → SP (bs t) A) ∧ Hid (Same w4 wq)) (fun i _ => (13 - intOf i).toNat)
            case atStart => exact ⟨0, by omega, rfl, fun t ht => by omega, Chg.refl _ _⟩
            case round =>
              obtain ⟨j, hj, rfl, HSp, HSr⟩ := hrel
              rename World => wq
              by_cases hj13 : j < 13
              · have hbj := bs_le j hj13
                have c1 := cellK (HSW3.out.trans HSr.out) (HB.out j hj13) id
                obtain ⟨q, Hq⟩ : ∃ q, Hid (q = bs j) := ⟨_, rfl⟩
                rw [← Hq.out] at hbj c1
                have q0 : (0 : Int) ≤ (q : Int) := by omega
                have q1 : (q : Int) < 256 := by omega
                go_wp2_with fail
                refine (strong_any _ A q _ (HA3.out.same HSr.out) (by omega) hA2 (by omega) (by omega) (by omega)).mono ?_
                rintro e w5 ⟨b, rfl, hb1, hb0, hs5⟩
                clear c1
                cases b with
                | false =>
                  have HNp : Hid (¬ Prm A) := fun h => by
                    have := Nat.le_of_dvd (by omega) (hb0 rfl h)
                    omega
                  clear hb0 hb1
                  go_wp2_with fail
                  go_ret
                  exact ⟨0, rfl, .inr ⟨rfl, HNp.out⟩, (HS3.out.trans HSr.out).trans hs5⟩
                | true =>
                  have HSp2 : Hid (∀ t, t < j + 1 → SP (bs t) A) := fun t ht => by
                    by_cases h : t = j
                    · subst h; rw [← Hq.out]; exact hb1 rfl
                    · exact HSp.out t (by omega)
                  clear hb0 hb1
                  go_wp2_with fail
                  go_roundw
                  case rel => exact ⟨j + 1, by omega, by go_num, HSp2, HSr.out.trans hs5⟩
                  case measure => simp [intOf]; omega
              · have hje : j = 13 := by omega
                subst hje
                have HPr : Hid (Prm A) := by
                  refine Classical.byContradiction fun h => no_ps A ⟨hA, by omega, cop_of HAll.out, fun a ha => ?_, h⟩
                  obtain ⟨i, hi, rfl⟩ := bs_of a ha
                  exact HSp.out i hi
                have HSb := sw_na wq 5
                have hal : Same wq (wq.alloc (Obj.cells #[Value.int IntKind.u8 253, Value.int IntKind.u8 165, Value.int IntKind.u8 16, Value.int IntKind.u8 36, Value.int IntKind.u8 178, Value.int IntKind.u8 197, Value.int IntKind.u8 173, Value.int IntKind.u8 81, Value.int IntKind.u8 105, Value.int IntKind.u8 190, Value.int IntKind.u8 2] 5)) := (Chg.refl _ _).alloc _
                have HSb' : Hid (Na _ _ 11 (val sw 11)) := HSb
                have Hal : Hid (Same wq _) := hal
                clear HSb hal
                go_wp2_with fail
                generalize World.alloc wq _ = WB at *
                refine (cmp_any _ _ (dl A) 11 A (val sw 11) WB (by omega) (by omega) ((HA3.out.same HSr.out).same Hal.out).na HSb'.out).mono ?_
                rintro e w6 ⟨rfl, hs6⟩
                rw [cmp_lt (Nat.lt_of_lt_of_le hA sw_big)]
                have HS6 : Hid (Same w' w6) := ((HS3.out.trans HSr.out).trans Hal.out).trans hs6
                clear HSb' Hal hs6
                go_wp2_with fail
                go_ret
                exact ⟨1, rfl, .inl ⟨rfl, HPr.out⟩, HS6.out⟩
          · go_wp2_with fail
            go_loopw [6] (fun i wq => ∃ j : Nat, j ≤ 13 ∧ i = .int .i64 (j : Int) ∧ Hid (∀ t, t < j → SP (bs t) A) ∧ Hid (Same w3 wq)) (fun i _ => (13 - intOf i).toNat)
            case atStart => exact ⟨0, by omega, rfl, fun t ht => by omega, Chg.refl _ _⟩
            case round =>
              obtain ⟨j, hj, rfl, HSp, HSr⟩ := hrel
              rename World => wq
              by_cases hj13 : j < 13
              · have hbj := bs_le j hj13
                have c1 := cellK (HSW3.out.trans HSr.out) (HB.out j hj13) id
                obtain ⟨q, Hq⟩ : ∃ q, Hid (q = bs j) := ⟨_, rfl⟩
                rw [← Hq.out] at hbj c1
                have q0 : (0 : Int) ≤ (q : Int) := by omega
                have q1 : (q : Int) < 256 := by omega
                go_wp2_with fail
                refine (strong_any _ A q _ (HA3.out.same HSr.out) (by omega) hA2 (by omega) (by omega) (by omega)).mono ?_
                rintro e w5 ⟨b, rfl, hb1, hb0, hs5⟩
                clear c1
                cases b with
                | false =>
                  have HNp : Hid (¬ Prm A) := fun h => by
                    have := Nat.le_of_dvd (by omega) (hb0 rfl h)
                    omega
                  clear hb0 hb1
                  go_wp2_with fail
                  go_ret
                  exact ⟨0, rfl, .inr ⟨rfl, HNp.out⟩, (HS3.out.trans HSr.out).trans hs5⟩
                | true =>
                  have HSp2 : Hid (∀ t, t < j + 1 → SP (bs t) A) := fun t ht => by
                    by_cases h : t = j
                    · subst h; rw [← Hq.out]; exact hb1 rfl
                    · exact HSp.out t (by omega)
                  clear hb0 hb1
                  go_wp2_with fail
                  go_roundw
                  case rel => exact ⟨j + 1, by omega, by go_num, HSp2, HSr.out.trans hs5⟩
                  case measure => simp [intOf]; omega
              · have hje : j = 13 := by omega
                subst hje
                have HPr : Hid (Prm A) := by
                  refine Classical.byContradiction fun h => no_ps A ⟨hA, by omega, cop_of HAll.out, fun a ha => ?_, h⟩
                  obtain ⟨i, hi, rfl⟩ := bs_of a ha
                  exact HSp.out i hi
                have HSb := sw_na wq 5
                have hal : Same wq (wq.alloc (Obj.cells #[Value.int IntKind.u8 253, Value.int IntKind.u8 165, Value.int IntKind.u8 16, Value.int IntKind.u8 36, Value.int IntKind.u8 178, Value.int IntKind.u8 197, Value.int IntKind.u8 173, Value.int IntKind.u8 81, Value.int IntKind.u8 105, Value.int IntKind.u8 190, Value.int IntKind.u8 2] 5)) := (Chg.refl _ _).alloc _
                have HSb' : Hid (Na _ _ 11 (val sw 11)) := HSb
                have Hal : Hid (Same wq _) := hal
                clear HSb hal
                go_wp2_with fail
                generalize World.alloc wq _ = WB at *
                refine (cmp_any _ _ (dl A) 11 A (val sw 11) WB (by omega) (by omega) ((HA3.out.same HSr.out).same Hal.out).na HSb'.out).mono ?_
                rintro e w6 ⟨rfl, hs6⟩
                rw [cmp_lt (Nat.lt_of_lt_of_le hA sw_big)]
                have HS6 : Hid (Same w' w6) := ((HS3.out.trans HSr.out).trans Hal.out).trans hs6
                clear HSb' Hal hs6
                go_wp2_with fail
                go_ret
                exact ⟨1, rfl, .inl ⟨rfl, HPr.out⟩, HS6.out⟩
end Go.Proofs.Ygctaj.Nt
