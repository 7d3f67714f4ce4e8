/- (*odd).times, walked. -/
import Derived.Test.YgctajMontReduce
import Derived.Test.YgctajLongProducts
namespace Go.Proofs.Ygctaj.Nt
open Go.RowKit Mem
set_option linter.unusedVariables false

theorem zero46 (w : World) : (zeroValue 46).run Tajg.prog w = .ok (.int .u32 0) w := by kernel_rfl

/-- 'clear' of words. -/
theorem run_clrW {w : World} {b off n c : Nat} {xs : Nat → Nat} (ty : TypeId) (hn : 0 < n) (hx : Rd .u32 w b off n xs) (hw : Wr w b off n) :
    ∃ w', Sem.run Tajg.prog (Builtin.clear_ #[57] ty #[.slice (some ⟨b, off, none⟩) n c]) w = .ok (.tuple #[]) w' ∧ Rd .u32 w' b off n (fun _ => 0) ∧ Chg (fun q _ => q = b) w w' := by
  have hrun := Lib.run_clear_slice (P := Tajg.prog) w 57 46 ty (.int .u32 0) Tajg.underlying57 zero46 rfl rfl b off n c hn (fun j hj => by rw [hx j hj]; rfl) (fun j hj => hw j hj)
  refine ⟨_, hrun, ?_, ?_⟩
  · intro j hj
    have := World.cell?_setCells_in b (List.replicate n (Value.int .u32 0)) off w (fun j hj => by rw [List.length_replicate] at hj; rw [hx j hj]; rfl) j (by rw [List.length_replicate]; exact hj)
    rw [this]; simp
  · exact Chg.setCells b _ off w (Chg.refl _ _) fun j hj _ => rfl

theorem rowI (P Q u j : Nat) (hu : u < 4294967296) : ∃ UQ P1 PI : Int, (u : Int) * ((dw Q j : Nat) : Int) = UQ ∧ UQ + ((dw P j : Nat) : Int) = P1 ∧ P1 + ((cy P Q u j : Nat) : Int) = PI ∧
    PI % 4294967296 = ((dw (P + u * Q) j : Nat) : Int) ∧ PI / 4294967296 = ((cy P Q u (j + 1) : Nat) : Int) ∧ 0 ≤ UQ ∧ UQ < 18446744073709551616 ∧ 0 ≤ P1 ∧ P1 < 18446744073709551616 ∧ 0 ≤ PI ∧ PI < 18446744073709551616 := by
  have h1 := cy_mod P Q u j
  have h2 := cy_div P Q u j
  have h3 := cy_le P Q u j
  have h4 := dw_lt P j
  have h5 := dw_lt Q j
  have h6 : u * dw Q j ≤ 4294967295 * 4294967295 := Nat.mul_le_mul (by omega) (by omega)
  have e : (u : Int) * ((dw Q j : Nat) : Int) = ((u * dw Q j : Nat) : Int) := (Int.natCast_mul _ _).symm
  rw [e]
  generalize u * dw Q j = m at *
  generalize dw P j = d at *
  generalize cy P Q u j = c at *
  refine ⟨_, _, _, rfl, rfl, rfl, ?_, ?_, by omega, by omega, by omega, by omega, by omega, by omega⟩
  · rw [← h1]; omega
  · rw [← h2]; omega

theorem mf_dw (S inv : Nat) : mf S inv = dw S 0 * inv % 4294967296 := by
  unfold mf dw; simp

theorem f_int (a b : Nat) : ((a : Nat) : Int) * (b : Int) % 4294967296 = ((a * b % 4294967296 : Nat) : Int) := by
  rw [Int.natCast_emod, Int.natCast_mul]; rfl

/-- the room's words while a row is under way. -/
def rw1 (T N j k : Nat) : Nat := if k + 1 < j then dw N (k + 1) else dw T k

set_option maxRecDepth 200000 in
set_option maxHeartbeats 4000000 in
theorem times_any (O bm om cm n M inv br cr bo oo co bx ox cx bY oY cY X Y : Nat) (z z0 : Nat → Nat) (w : World) (hO : Od w O bm om cm n M inv br cr) (hinv : (M * inv + 1) % 4294967296 = 0) (hil : inv < 4294967296)
    (hr : Rd .u32 w br 0 (n + 1) z0) (hx : Rd .u32 w bx ox n (dw X)) (hy : Rd .u32 w bY oY n (dw Y)) (hM0 : 0 < M) (hXM : X ≤ M) (hYM : Y ≤ M) (hcx : n ≤ cx) (hcY : n ≤ cY) (hco : n ≤ co) (nx : bx ≠ br) (nY : bY ≠ br)
    (hout : Rd .u32 w bo oo n z) (hoC : Cl w bo) (n1 : bo ≠ O) (n2 : bo ≠ bm) (n3 : bo ≠ br) :
    Calls Tajg.prog 101 #[.pointer (some ⟨O, 0, none⟩), .slice (some ⟨bo, oo, none⟩) n co, .slice (some ⟨bx, ox, none⟩) n cx, .slice (some ⟨bY, oY, none⟩) n cY] w fun e w' =>
      (∃ v, e = .returned v) ∧ ∃ R z', R < M ∧ R * 256 ^ (4 * n) % M = X * Y % M ∧ Rd .u32 w' bo oo n (dw R) ∧ Cl w' bo ∧ Rd .u32 w' br 0 (n + 1) z' ∧ Chg (fun q _ => q = bo ∨ q = br) w w' := by
  have HO : Hid (Od w O bm om cm n M inv br cr) := hO
  have c0 := hO.c0
  have c1 := hO.c1
  have c2 := hO.c2
  have hcm := hO.hcm
  have hcr := hO.hcr
  have hn := hO.hn
  have hn2 := hO.hn2
  have neO := hO.neO
  have neM := hO.neM
  have hbr := hr.lt (by omega)
  obtain ⟨w2, e2, hz2, hc2⟩ := run_clrW (w := w.drew) (c := cr) 0 (by omega) hr.drew (hO.hC.drew.wr _ _)
  clear hO
  go_enter Tajg.func101, Tajg.ntmps101
  go_wp2_with fail
  refine Text.wp_text (by kernel_rfl) (by kernel_rfl) ⟨fun c a w h => (by obtain ⟨_, h⟩ := h.2.1; cases h), fun a w h => (by obtain ⟨_, h⟩ := h.1; cases h)⟩ ?_
  intro K hK
  go_wp2_with fail
  refine hK _ _ (by rfl) ?_
  clear hK
  go_wp2_with fail
  have hS2 : Chg (fun q _ => q = br) w w2 := Chg.trans ((Chg.refl _ w).drew) hc2
  have HB : Hid (0 < M) := hM0
  clear e2 c0 c1 c2 hc2
  go_loopw [11] (fun i wr => ∃ (j T F : Nat), j ≤ n ∧ i = .int .i64 (j : Int) ∧ Rd .u32 wr br 0 (n + 1) (dw T) ∧ Hid (T < M + Y ∧ T * 256 ^ (4 * j) = X % 256 ^ (4 * j) * Y + F * M) ∧ Chg (fun q _ => q = br) w wr) (fun i _ => (n - intOf i).toNat)
  case atStart => exact ⟨0, 0, 0, by omega, rfl, hz2.congr (fun i _ => by unfold dw; simp), ⟨by have := HB.out; omega, by simp [Nat.mod_one]⟩, hS2⟩
  case round =>
    clear hz2 hS2 w2
    obtain ⟨i, T, F, hi, rfl, hT, HT, hCg⟩ := hrel
    have d0 := cellK hCg HO.out.c0 (fun e => neO e.symm)
    have d1 := cellK hCg HO.out.c1 (fun e => neO e.symm)
    have d2 := cellK hCg HO.out.c2 (fun e => neO e.symm)
    have hMr := HO.out.hm.kept hCg (fun i _ e => neM e.symm)
    have hCr := HO.out.hC.kept hCg hbr
    have hxr := hx.kept hCg (fun i _ e => nx e)
    have hyr := hy.kept hCg (fun i _ e => nY e)
    have HMb : Hid (M < 256 ^ (4 * n)) := HO.out.hM
    have HTl : Hid (T < 256 ^ (4 * (n + 1))) := by
      have h1 := HMb.out
      have h2 := HT.out.1
      show _ < _
      rw [powW]; omega
    by_cases hin : i = n
    · subst hin
      have hO' : Od wr O bm om cm i M inv br cr := HO.out.kept hCg (fun _ e => neO e.symm) (fun _ e => neM e.symm) hbr
      have hout' := hout.kept hCg (fun _ _ e => n3 e)
      have hoC' := hoC.kept hCg (hout.lt (by omega))
      have HR : Hid (T % M < M ∧ T % M * 256 ^ (4 * i) % M = X * Y % M) := by
        refine ⟨Nat.mod_lt _ HB.out, ?_⟩
        have h1 := HT.out.2
        rw [Nat.mod_eq_of_lt (Nat.lt_of_le_of_lt hXM HMb.out)] at h1
        rw [Nat.mod_mul_mod, h1, Nat.add_mul_mod_self_right]
      have HT2 : Hid (T < 2 * M) := by have := HT.out.1; show _ < _; omega
      clear d0 d1 d2 hMr hCr hxr hyr
      go_wp2_with fail
      refine (reduce_any O bm om cm i M inv br cr bo oo co T z wr hO' hT HT2.out HTl.out hco hout' hoC' n1 n2 n3).mono ?_
      rintro e w5 ⟨⟨v5, rfl⟩, hR5, hC5, hc5⟩
      have hT5 := hT.kept hc5 (fun _ _ e => n3 e.symm)
      have hCg5 : Chg (fun q _ => q = bo ∨ q = br) w w5 := (hCg.mono (fun _ _ _ h => .inr h)).trans (hc5.mono (fun _ _ _ h => .inl h))
      go_wp2_with fail
      go_end0
      exact ⟨⟨_, rfl⟩, T % M, dw T, HR.out.1, HR.out.2, hR5, hC5, hT5, hCg5⟩
    · have hlt : i < n := by omega
      have x1 := hxr i hlt
      have y1 := hyr 0 (by omega)
      have t1 := hT 0 (by omega)
      have m1 := hMr 0 (by omega)
      rw [Nat.add_zero] at y1 t1 m1
      have hu := dw_lt X i
      obtain ⟨u, Hu⟩ : ∃ u, Hid (u = dw X i) := ⟨_, rfl⟩
      rw [← Hu.out] at x1 hu
      obtain ⟨S, HS⟩ : ∃ S, Hid (S = T + u * Y) := ⟨_, rfl⟩
      obtain ⟨f, Hf⟩ : ∃ f, Hid (f = mf S inv) := ⟨_, rfl⟩
      have hf : f < 4294967296 := by rw [Hf.out]; exact mf_lt _ _
      obtain ⟨UQ, P1, PI, eUQ, eP1, ePI, eMod, eDiv, b1, b2, b3, b4, b5, b6⟩ := rowI T Y u 0 hu
      rw [cy_zero] at ePI
      rw [← HS.out] at eMod
      obtain ⟨FQ, Q1, QI, eFQ, eQ1, eQI, eMod2, eDiv2, g1, g2, g3, g4, g5, g6⟩ := rowI S M f 0 hf
      rw [cy_zero] at eQI
      clear eMod2
      have ePI' : P1 = PI := by rw [← ePI]; simp
      have eQI' : Q1 = QI := by rw [← eQI]; simp
      subst ePI' eQI'
      clear ePI eQI b5 b6 g5 g6
      have hmf := mf_dw S inv
      rw [← Hf.out] at hmf
      have hSd := dw_lt S 0
      have hprod : ((dw S 0 : Nat) : Int) * (inv : Int) % 4294967296 = (f : Int) := by rw [hmf]; exact f_int _ _
      have hA1 := cy_le T Y u 1
      have hB1 := cy_le S M f 1
      obtain ⟨UI, HUI⟩ : ∃ UI : Int, Hid (UI = (u : Int)) := ⟨_, rfl⟩
      obtain ⟨FI, HFI⟩ : ∃ FI : Int, Hid (FI = (f : Int)) := ⟨_, rfl⟩
      obtain ⟨YI, HYI⟩ : ∃ YI : Int, Hid (YI = ((dw Y 0 : Nat) : Int)) := ⟨_, rfl⟩
      obtain ⟨TI, HTI⟩ : ∃ TI : Int, Hid (TI = ((dw T 0 : Nat) : Int)) := ⟨_, rfl⟩
      obtain ⟨MI, HMI⟩ : ∃ MI : Int, Hid (MI = ((dw M 0 : Nat) : Int)) := ⟨_, rfl⟩
      obtain ⟨SI, HSI⟩ : ∃ SI : Int, Hid (SI = ((dw S 0 : Nat) : Int)) := ⟨_, rfl⟩
      obtain ⟨VI, HVI⟩ : ∃ VI : Int, Hid (VI = (inv : Int)) := ⟨_, rfl⟩
      obtain ⟨AI, HAI⟩ : ∃ AI : Int, Hid (AI = ((cy T Y u 1 : Nat) : Int)) := ⟨_, rfl⟩
      obtain ⟨BI, HBI⟩ : ∃ BI : Int, Hid (BI = ((cy S M f 1 : Nat) : Int)) := ⟨_, rfl⟩
      have k1 : 0 ≤ UI ∧ UI < 4294967296 := by have := HUI.out; omega
      have k2 : 0 ≤ FI ∧ FI < 4294967296 := by have := HFI.out; omega
      have k3 : 0 ≤ YI ∧ YI < 4294967296 := by have h1 := HYI.out; have h2 := dw_lt Y 0; omega
      have k4 : 0 ≤ TI ∧ TI < 4294967296 := by have h1 := HTI.out; have h2 := dw_lt T 0; omega
      have k5 : 0 ≤ MI ∧ MI < 4294967296 := by have h1 := HMI.out; have h2 := dw_lt M 0; omega
      have k6 : 0 ≤ SI ∧ SI < 4294967296 := by have h1 := HSI.out; have h2 := dw_lt S 0; omega
      have k7 : 0 ≤ VI ∧ VI < 4294967296 := by have := HVI.out; omega
      have k8 : 0 ≤ AI ∧ AI < 4294967296 := by have := HAI.out; omega
      have k9 : 0 ≤ BI ∧ BI < 4294967296 := by have := HBI.out; omega
      rw [← HUI.out] at x1 eUQ
      rw [← HYI.out] at y1 eUQ
      rw [← HTI.out] at t1 eP1
      rw [← HSI.out] at eMod eQ1 hprod
      rw [← HAI.out] at eDiv
      rw [← HFI.out] at eFQ hprod
      rw [← HMI.out] at m1 eFQ
      rw [← HBI.out] at eDiv2
      rw [← HVI.out] at hprod d1
      have eQ1' : SI + FQ = Q1 := by omega
      obtain ⟨SV, HSV⟩ : ∃ SV : Int, Hid (SI * VI = SV) := ⟨_, rfl⟩
      have eSV := HSV.out
      rw [eSV] at hprod
      have k10 : 0 ≤ SV ∧ SV < 18446744073709551616 := by
        have h0 : 0 ≤ SI * VI := Int.mul_nonneg k6.1 k7.1
        have h1 : SI * VI ≤ 4294967295 * 4294967295 := Int.mul_le_mul (by omega) (by omega) (by omega) (by omega)
        omega
      have hwr : IntKind.u32.wrap SV = FI := by rw [IntKind.wrap_u32]; exact hprod
      obtain ⟨k11, k12⟩ := k1
      obtain ⟨k21, k22⟩ := k2
      obtain ⟨k31, k32⟩ := k3
      obtain ⟨k41, k42⟩ := k4
      obtain ⟨k51, k52⟩ := k5
      obtain ⟨k61, k62⟩ := k6
      obtain ⟨k71, k72⟩ := k7
      obtain ⟨k81, k82⟩ := k8
      obtain ⟨k91, k92⟩ := k9
      obtain ⟨k101, k102⟩ := k10
      clear hmf hSd hA1 hB1 hu hf
      go_wp2_with fail
      refine Text.wp_text (by kernel_rfl) (by kernel_rfl) ⟨fun c a w h => (by obtain ⟨_, h⟩ := h.2.1; cases h), fun a w h => (by obtain ⟨_, h⟩ := h.1; cases h)⟩ ?_
      intro K hK
      go_wp2_with fail
      refine hK _ _ (by rfl) ?_
      clear hK
      change wr.drew.cell? _ = _ at d1
      change wr.drew.cell? _ = _ at m1
      have hTd : Rd .u32 wr.drew br 0 (n + 1) (dw T) := hT
      have hMd : Rd .u32 wr.drew bm om n (dw M) := hMr
      have hyd : Rd .u32 wr.drew bY oY n (dw Y) := hyr
      have hCd : Cl wr.drew br := hCr
      have hCgd := hCg.drew
      clear d0 d2 hxr x1 t1 y1
      generalize wr.drew = wd at *
      go_wp2_with fail
      refine Text.wp_text (by kernel_rfl) (by kernel_rfl) ⟨fun c a w h => (by obtain ⟨_, h⟩ := h.2.1; cases h), fun a w h => (by obtain ⟨_, h⟩ := h.1; cases h)⟩ ?_
      intro K hK
      go_wp2_with fail
      refine hK _ _ (by rfl) ?_
      clear hK
      go_wp2_with fail
      obtain ⟨N, HN⟩ : ∃ N, Hid (N = S + f * M) := ⟨_, rfl⟩
      have hTdd : Rd .u32 wd.drew br 0 (n + 1) (rw1 T N 1) := Rd.congr (x := dw T) hTd (fun k _ => by unfold rw1; rw [if_neg (by omega)])
      have hCdd : Cl wd.drew br := hCd
      have hCgdd := hCgd.drew
      have Huf : Hid (u < 4294967296 ∧ f < 4294967296) := ⟨by have := HUI.out; omega, by have := HFI.out; omega⟩
      clear m1 d1 hTd hMd hyd hCd hCgd hMr hCr hyr hT hCg eUQ eP1 eMod eDiv eFQ eQ1 eQ1' eDiv2 eSV hwr hprod
      go_loopw [15, 16, 17] (fun a b i wr => ∃ j : Nat, 1 ≤ j ∧ j ≤ n ∧ a = .int .u64 ((cy T Y u j : Nat) : Int) ∧ b = .int .u64 ((cy S M f j : Nat) : Int) ∧ i = .int .i64 (j : Int) ∧ Rd .u32 wr br 0 (n + 1) (rw1 T N j) ∧ Cl wr br ∧ Chg (fun q _ => q = br) w wr) (fun _ _ i _ => (n - intOf i).toNat)
      case atStart => exact ⟨1, by omega, by omega, by rw [HAI.out], by rw [HBI.out], rfl, hTdd, hCdd, hCgdd⟩
      case round =>
        clear hTdd hCdd hCgdd
        obtain ⟨j, hj1, hjn, rfl, rfl, rfl, hTj, hCj, hCgj⟩ := hrel
        have hyj := hy.kept hCgj (fun _ _ e => nY e)
        have hMj := HO.out.hm.kept hCgj (fun i _ e => neM e.symm)
        by_cases hjl : j = n
        · subst hjl
          have t1 := hTj j (by omega)
          rw [Nat.zero_add, show rw1 T N j j = dw T j from by unfold rw1; rw [if_neg (by omega)]] at t1
          obtain ⟨j1, Hj1⟩ : ∃ j1, Hid (j = j1 + 1) := ⟨j - 1, by show _ = _; omega⟩
          have ej1 : (j : Int) - 1 = (j1 : Int) := by have := Hj1.out; omega
          have hj1l : j1 < j := by have := Hj1.out; omega
          have t2 := hTj j1 (by omega)
          have f1 := hCj j1
          have f2 := hCj j
          rw [Nat.zero_add] at t2
          have hls := last_sum T Y M u f j HTl.out (Nat.lt_of_le_of_lt hYM HMb.out) HMb.out
          rw [← HS.out, ← HN.out] at hls
          have hcl1 := cy_le T Y u j
          have hcl2 := cy_le S M f j
          have hdt := dw_lt T j
          obtain ⟨SS, HSS⟩ : ∃ SS : Nat, Hid (SS = N / 256 ^ (4 * j)) := ⟨_, rfl⟩
          rw [← HSS.out] at hls
          have hSSb : SS < 18446744073709551616 := by have h1 := Huf.out; omega
          have HN1 : Hid (SS % 4294967296 = dw N j) := by show _ = _; rw [HSS.out]; rfl
          have HN2 : Hid (SS / 4294967296 = dw N (j + 1)) := by
            show _ = _
            have h1 : dw N (j + 1) = N / 256 ^ (4 * j) / 4294967296 % 4294967296 := by unfold dw; rw [powW, Nat.div_div_eq_div_mul]
            rw [h1, ← HSS.out]
            omega
          obtain ⟨TI2, HTI2⟩ : ∃ TI2 : Int, Hid (TI2 = ((dw T j : Nat) : Int)) := ⟨_, rfl⟩
          obtain ⟨AI2, HAI2⟩ : ∃ AI2 : Int, Hid (AI2 = ((cy T Y u j : Nat) : Int)) := ⟨_, rfl⟩
          obtain ⟨BI2, HBI2⟩ : ∃ BI2 : Int, Hid (BI2 = ((cy S M f j : Nat) : Int)) := ⟨_, rfl⟩
          rw [← HTI2.out] at t1
          rw [← HAI2.out, ← HBI2.out]
          obtain ⟨SA, HSA⟩ : ∃ SA : Int, Hid (TI2 + AI2 = SA) := ⟨_, rfl⟩
          have eSA := HSA.out
          obtain ⟨SI2, HSI2⟩ : ∃ SI2 : Int, Hid (SI2 = (SS : Int)) := ⟨_, rfl⟩
          have eSS : SA + BI2 = SI2 := by
            have h1 := HTI2.out
            have h2 := HAI2.out
            have h3 := HBI2.out
            have h4 := HSI2.out
            omega
          have l1 : 0 ≤ TI2 ∧ TI2 < 4294967296 := by have := HTI2.out; omega
          have l2 : 0 ≤ AI2 ∧ AI2 < 4294967296 := by have h := HAI2.out; have := Huf.out; omega
          have l3 : 0 ≤ BI2 ∧ BI2 < 4294967296 := by have h := HBI2.out; have := Huf.out; omega
          have l4 : 0 ≤ SI2 ∧ SI2 < 18446744073709551616 := by have := HSI2.out; omega
          have l5 : 0 ≤ SA ∧ SA < 8589934592 := by omega
          obtain ⟨N1, HN1I⟩ : ∃ N1 : Int, Hid (((dw N j : Nat) : Int) = N1) := ⟨_, rfl⟩
          obtain ⟨N2, HN2I⟩ : ∃ N2 : Int, Hid (((dw N (j + 1) : Nat) : Int) = N2) := ⟨_, rfl⟩
          have eN1 : SI2 % 4294967296 = N1 := by rw [← HN1I.out, ← HN1.out, HSI2.out]; rfl
          have eN2 : SI2 / 4294967296 = N2 := by rw [← HN2I.out, ← HN2.out, HSI2.out]; rfl
          have l6 : 0 ≤ N2 ∧ N2 < 4294967296 := by have h1 := HN2I.out; have h2 := dw_lt N (j + 1); omega
          have hN2w : N2 % 4294967296 = N2 := by omega
          obtain ⟨l11, l12⟩ := l1
          obtain ⟨l21, l22⟩ := l2
          obtain ⟨l31, l32⟩ := l3
          obtain ⟨l41, l42⟩ := l4
          obtain ⟨l51, l52⟩ := l5
          obtain ⟨l61, l62⟩ := l6
          have HRn : Hid (Rd .u32 ((wr.setCell ⟨br, j1, none⟩ (.int .u32 N1)).setCell ⟨br, j, none⟩ (.int .u32 N2)) br 0 (j + 1) (dw (mT S f M))) := by
            have g1 := (hTj.setCell j1 (dw N j) (by omega)).setCell j (dw N (j + 1)) (by omega)
            rw [Nat.zero_add, Nat.zero_add, HN1I.out, HN2I.out] at g1
            refine g1.congr fun k hk => ?_
            have hsh : dw (mT S f M) k = dw N (k + 1) := by unfold mT; rw [← HN.out]; exact dw_shift N k
            rw [hsh]
            by_cases hk1 : k = j
            · subst hk1; rw [upd_same]
            · rw [upd_other _ _ _ _ hk1]
              by_cases hk2 : k = j1
              · subst hk2; rw [upd_same, ← Hj1.out]
              · rw [upd_other _ _ _ _ hk2]
                unfold rw1
                rw [if_pos (by have := Hj1.out; omega)]
          have t3 : (wr.setCell ⟨br, j1, none⟩ (.int .u32 N1)).cell? ⟨br, j, none⟩ = some (.int .u32 TI2) := by
            rw [World.cell?_setCell_other _ _ _ _ (by intro e; injection e with _ e2; omega)]; exact t1
          have f3 : (wr.setCell ⟨br, j1, none⟩ (.int .u32 N1)).frozen? ⟨br, j, none⟩ = false := by rw [World.frozen?_setCell]; exact f2
          have HStep : Hid (mT S f M < M + Y ∧ mT S f M * 256 ^ (4 * (i + 1)) = X % 256 ^ (4 * (i + 1)) * Y + (F + f * 256 ^ (4 * i)) * M) := by
            have hst := mT_step X Y M T F inv i hinv HT.out.2
            rw [← Hu.out] at hst
            unfold mS at hst
            rw [← HS.out, ← Hf.out] at hst
            refine ⟨?_, hst⟩
            have hlt2 := mT_lt T Y M u f HT.out.1 Huf.out.1 Huf.out.2
            unfold mS at hlt2
            rwa [← HS.out] at hlt2
          clear hTj hyj hMj hls hcl1 hcl2 hdt hSSb
          go_wp2_with fail
          go_roundw
          case rel => exact ⟨i + 1, mT S f M, F + f * 256 ^ (4 * i), by omega, by go_num, HRn.out, HStep, (hCgj.setCell _ _ _ (fun _ => rfl)).setCell _ _ _ (fun _ => rfl)⟩
          case measure => simp [intOf]; omega
        · have hjl2 : j < n := by omega
          have t1 := hTj j (by omega)
          rw [Nat.zero_add, show rw1 T N j j = dw T j from by unfold rw1; rw [if_neg (by omega)]] at t1
          have y1 := hyj j hjl2
          have m1 := hMj j hjl2
          obtain ⟨j1, Hj1⟩ : ∃ j1, Hid (j = j1 + 1) := ⟨j - 1, by show _ = _; omega⟩
          have ej1 : (j : Int) - 1 = (j1 : Int) := by have := Hj1.out; omega
          have hj1l : j1 < n := by have := Hj1.out; omega
          have t2 := hTj j1 (by omega)
          have f1 := hCj j1
          rw [Nat.zero_add] at t2
          obtain ⟨UQ2, P12, PI2, eUQ2, eP12, ePI2, eM2, eD2, q1, q2, q3, q4, q5, q6⟩ := rowI T Y u j Huf.out.1
          obtain ⟨FQ2, Q12, QI2, eFQ2, eQ12, eQI2, eM3, eD3, r1, r2, r3, r4, r5, r6⟩ := rowI S M f j Huf.out.2
          rw [← HS.out] at eM2
          rw [← HN.out] at eM3
          have hcl1 := cy_le T Y u j
          have hcl2 := cy_le S M f j
          have hcl3 := cy_le T Y u (j + 1)
          have hcl4 := cy_le S M f (j + 1)
          obtain ⟨YJ, HYJ⟩ : ∃ YJ : Int, Hid (YJ = ((dw Y j : Nat) : Int)) := ⟨_, rfl⟩
          obtain ⟨TJ, HTJ⟩ : ∃ TJ : Int, Hid (TJ = ((dw T j : Nat) : Int)) := ⟨_, rfl⟩
          obtain ⟨MJ, HMJ⟩ : ∃ MJ : Int, Hid (MJ = ((dw M j : Nat) : Int)) := ⟨_, rfl⟩
          obtain ⟨SJ, HSJ⟩ : ∃ SJ : Int, Hid (SJ = ((dw S j : Nat) : Int)) := ⟨_, rfl⟩
          obtain ⟨NJ, HNJ⟩ : ∃ NJ : Int, Hid (((dw N j : Nat) : Int) = NJ) := ⟨_, rfl⟩
          obtain ⟨AJ, HAJ⟩ : ∃ AJ : Int, Hid (AJ = ((cy T Y u j : Nat) : Int)) := ⟨_, rfl⟩
          obtain ⟨BJ, HBJ⟩ : ∃ BJ : Int, Hid (BJ = ((cy S M f j : Nat) : Int)) := ⟨_, rfl⟩
          obtain ⟨AK, HAK⟩ : ∃ AK : Int, Hid (((cy T Y u (j + 1) : Nat) : Int) = AK) := ⟨_, rfl⟩
          obtain ⟨BK, HBK⟩ : ∃ BK : Int, Hid (((cy S M f (j + 1) : Nat) : Int) = BK) := ⟨_, rfl⟩
          have l1 : 0 ≤ YJ ∧ YJ < 4294967296 := by have h1 := HYJ.out; have h2 := dw_lt Y j; omega
          have l2 : 0 ≤ TJ ∧ TJ < 4294967296 := by have h1 := HTJ.out; have h2 := dw_lt T j; omega
          have l3 : 0 ≤ MJ ∧ MJ < 4294967296 := by have h1 := HMJ.out; have h2 := dw_lt M j; omega
          have l4 : 0 ≤ SJ ∧ SJ < 4294967296 := by have h1 := HSJ.out; have h2 := dw_lt S j; omega
          have l5 : 0 ≤ AJ ∧ AJ < 4294967296 := by have h1 := HAJ.out; have h2 := Huf.out; omega
          have l6 : 0 ≤ BJ ∧ BJ < 4294967296 := by have h1 := HBJ.out; have h2 := Huf.out; omega
          have l7 : 0 ≤ AK ∧ AK < 4294967296 := by have h1 := HAK.out; have h2 := Huf.out; omega
          have l8 : 0 ≤ BK ∧ BK < 4294967296 := by have h1 := HBK.out; have h2 := Huf.out; omega
          rw [← HUI.out, ← HYJ.out] at eUQ2
          rw [← HTJ.out] at eP12 t1
          rw [← HAJ.out] at ePI2
          rw [← HSJ.out] at eM2 eQ12
          rw [HAK.out] at eD2
          rw [← HFI.out, ← HMJ.out] at eFQ2
          rw [← HBJ.out] at eQI2
          rw [HNJ.out] at eM3
          rw [HBK.out] at eD3
          rw [← HYJ.out] at y1
          rw [← HMJ.out] at m1
          rw [← HAJ.out, ← HBJ.out]
          obtain ⟨l11, l12⟩ := l1
          obtain ⟨l21, l22⟩ := l2
          obtain ⟨l31, l32⟩ := l3
          obtain ⟨l41, l42⟩ := l4
          obtain ⟨l51, l52⟩ := l5
          obtain ⟨l61, l62⟩ := l6
          obtain ⟨l71, l72⟩ := l7
          obtain ⟨l81, l82⟩ := l8
          have HRn : Hid (Rd .u32 (wr.drew.setCell ⟨br, j1, none⟩ (.int .u32 NJ)) br 0 (n + 1) (rw1 T N (j + 1))) := by
            have g1 := (hTj.drew).setCell j1 (dw N j) (by omega)
            rw [Nat.zero_add, HNJ.out] at g1
            refine g1.congr fun k hk => ?_
            by_cases hk2 : k = j1
            · subst hk2
              rw [upd_same]
              unfold rw1
              rw [if_pos (by have := Hj1.out; omega), ← Hj1.out]
            · rw [upd_other _ _ _ _ hk2]
              unfold rw1
              by_cases hk3 : k + 1 < j
              · rw [if_pos hk3, if_pos (by omega)]
              · rw [if_neg hk3, if_neg (by have := Hj1.out; omega)]
          clear hTj hyj hMj hcl1 hcl2 hcl3 hcl4
          go_wp2_with fail
          refine Text.wp_text (by kernel_rfl) (by kernel_rfl) ⟨fun c a w h => (by obtain ⟨_, h⟩ := h.2.1; cases h), fun a w h => (by obtain ⟨_, h⟩ := h.1; cases h)⟩ ?_
          intro K hK
          go_wp2_with fail
          refine hK _ _ (by rfl) ?_
          clear hK
          change wr.drew.cell? _ = _ at m1
          change wr.drew.cell? _ = _ at t2
          change wr.drew.frozen? _ = _ at f1
          have hCj' : Cl wr.drew br := hCj
          have hCgj' := hCgj.drew
          clear hCj hCgj t1 y1
          generalize wr.drew = we at *
          go_wp2_with fail
          go_roundw
          case rel => exact ⟨j + 1, by omega, by omega, by rw [HAK.out], by rw [HBK.out], by go_num, HRn.out, hCj'.setCell _ _, hCgj'.setCell _ _ _ (fun _ => rfl)⟩
          case measure => simp [intOf]; omega
end Go.Proofs.Ygctaj.Nt
