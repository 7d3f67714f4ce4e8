/- (*odd).reduce, walked. -/
import Derived.Test.YgctajMontPlain
import Derived.Test.YgctajCopyRun
namespace Go.Proofs.Ygctaj.Nt
open Go.RowKit Mem
set_option linter.unusedVariables false

/-- the borrow out of the lowest j words. -/
def bor (T M j : Nat) : Nat := if T % 256 ^ (4 * j) < M % 256 ^ (4 * j) then 1 else 0
theorem bor_zero (T M : Nat) : bor T M 0 = 0 := by unfold bor; simp [Nat.mod_one]
theorem bor_le (T M j : Nat) : bor T M j ≤ 1 := by unfold bor; split <;> omega
theorem bor_succ (T M j : Nat) : bor T M (j + 1) = if dw T j < dw M j + bor T M j then 1 else 0 := by
  unfold bor
  rw [lowW, lowW]
  have h1 := Nat.mod_lt T (pp (4 * j))
  have h2 := Nat.mod_lt M (pp (4 * j))
  generalize T % 256 ^ (4 * j) = t at *
  generalize M % 256 ^ (4 * j) = m at *
  generalize dw T j = d at *
  generalize dw M j = e at *
  generalize 256 ^ (4 * j) = B at *
  have key : ∀ p q : Nat, p < q → B * p + B ≤ B * q := fun p q h => by rw [← Nat.mul_succ]; exact Nat.mul_le_mul_left _ h
  rcases Nat.lt_trichotomy d e with h | h | h
  · have := key d e h
    rw [if_pos (by omega), if_pos (by split <;> omega)]
  · subst h
    by_cases hlt : t < m
    · rw [if_pos (by omega), if_pos (by rw [if_pos hlt]; omega)]
    · rw [if_neg (by omega), if_neg (by rw [if_neg hlt]; omega)]
  · have := key e d h
    rw [if_neg (by omega), if_neg (by split <;> omega)]
/-- what is written at word j. -/
def sdg (T M j : Nat) : Nat := (dw T j + 8589934592 - dw M j - bor T M j) % 4294967296
theorem cy_bor (T M j : Nat) (h : M ≤ T) : cy (T - M) M 1 j = bor T M j := by
  unfold cy bor
  have h1 := Nat.mod_lt (T - M) (pp (4 * j))
  have h2 := Nat.mod_lt M (pp (4 * j))
  have h3 : ((T - M) % 256 ^ (4 * j) + M % 256 ^ (4 * j)) % 256 ^ (4 * j) = T % 256 ^ (4 * j) := by
    rw [← Nat.add_mod, Nat.sub_add_cancel h]
  have hp := pp (4 * j)
  rw [Nat.one_mul]
  generalize (T - M) % 256 ^ (4 * j) = x at *
  generalize M % 256 ^ (4 * j) = y at *
  rw [← h3]
  generalize 256 ^ (4 * j) = B at *
  rcases Nat.lt_or_ge (x + y) B with h4 | h4
  · rw [Nat.div_eq_of_lt h4, Nat.mod_eq_of_lt h4, if_neg (by omega)]
  · have e : (x + y) / B = 1 := Nat.div_eq_of_lt_le (by omega) (by omega)
    have e2 : (x + y) % B = x + y - B := by
      rw [Nat.mod_eq_sub_mod h4, Nat.mod_eq_of_lt (by omega)]
    rw [e, e2, if_pos (by omega)]
theorem sdg_dw (T M j : Nat) (h : M ≤ T) : sdg T M j = dw (T - M) j := by
  have h1 := cy_mod (T - M) M 1 j
  rw [cy_bor T M j h, Nat.one_mul, Nat.one_mul, Nat.sub_add_cancel h] at h1
  have h2 := dw_lt (T - M) j
  have h3 := dw_lt M j
  have h4 := bor_le T M j
  unfold sdg
  rw [← h1]
  omega
theorem sdg_int (T M j : Nat) : ((dw T j : Int) - (dw M j : Int) - (bor T M j : Int)) % 4294967296 = ((sdg T M j : Nat) : Int) := by
  have h2 := dw_lt T j
  have h3 := dw_lt M j
  have h4 := bor_le T M j
  unfold sdg
  omega

/-- 'copy' of words. -/
theorem run_cpW (m : Nat) {w : World} {b off dl dc bs offs sl sc : Nat} {xs ys : Nat → Nat} (hm : m = Nat.min sl dl) (hx : Rd .u32 w bs offs sl xs) (hy : Rd .u32 w b off dl ys) (hw : Wr w b off dl) :
    ∃ w', Sem.run Tajg.prog (Builtin.copy_ #[57, 57] 3 #[.slice (some ⟨b, off, none⟩) dl dc, .slice (some ⟨bs, offs, none⟩) sl sc]) w = .ok (.int .i64 (m : Int)) w' ∧ Rd .u32 w' b off dl (mix m xs ys) ∧ Chg (fun q o => q = b ∧ off ≤ o ∧ o < off + m) w w' := by
  have hu := Tajg.underlying57
  have hi : (Tajg.prog.info? 46).map (fun i => i.size) = some 1 := by kernel_rfl
  have hmd : m ≤ dl := by rw [hm]; exact Nat.min_le_right _ _
  have hms : m ≤ sl := by rw [hm]; exact Nat.min_le_left _ _
  have hlen : ((List.range m).map fun j => Value.int .u32 ((xs j : Nat) : Int)).length = m := by simp
  have hrun := run_copy_cells (P := Tajg.prog) w 57 57 3 46 b off dl dc ⟨bs, offs, none⟩ sl sc ((List.range m).map fun j => Value.int .u32 ((xs j : Nat) : Int)) hu hi (by rw [hlen]; exact hm)
    (fun j v hj => by
      have hjm : j < m := by
        rcases Nat.lt_or_ge j m with h' | h'
        · exact h'
        · rw [List.getElem?_eq_none (by rw [hlen]; exact h')] at hj; cases hj
      rw [List.getElem?_map, List.getElem?_range hjm] at hj
      simp at hj
      subst hj
      rw [add_none]; exact hx j (by omega))
    (fun j hj => by rw [hlen] at hj; rw [hy j (by omega)]; rfl) (fun j hj => by rw [hlen] at hj; exact hw j (by omega)) (fun v hv => by
      obtain ⟨j, _, rfl⟩ := List.mem_map.1 hv
      rfl)
  rw [hlen] at hrun
  refine ⟨_, hrun, ?_, ?_⟩
  · intro j hj
    by_cases hjm : j < m
    · have := World.cell?_setCells_in b ((List.range m).map fun j => Value.int .u32 ((xs j : Nat) : Int)) off w (fun j hj => by rw [hlen] at hj; rw [hy j (by omega)]; rfl) j (by rw [hlen]; exact hjm)
      rw [this, mix_lt _ _ hjm]; simp
    · rw [World.cell?_setCells_out b _ off w _ (fun _ _ => .inr (by rw [hlen]; simp; omega)), mix_ge _ _ (by omega)]
      exact hy j hj
  · exact Chg.setCells b _ off w (Chg.refl _ _) fun j hj _ => by rw [hlen] at hj; omega

/-- an odd modulus at block O, with its room. -/
structure Od (w : World) (O bm om cm n M inv br cr : Nat) : Prop where
  c0 : w.cell? ⟨O, 0, none⟩ = some (.slice (some ⟨bm, om, none⟩) n cm)
  c1 : w.cell? ⟨O, 1, none⟩ = some (.int .u32 ((inv : Nat) : Int))
  c2 : w.cell? ⟨O, 2, none⟩ = some (.slice (some ⟨br, 0, none⟩) (n + 1) cr)
  hcm : n ≤ cm
  hcr : n + 1 ≤ cr
  hm : Rd .u32 w bm om n (dw M)
  hC : Cl w br
  neO : br ≠ O
  neM : br ≠ bm
  hM : M < 256 ^ (4 * n)
  hn : 1 ≤ n
  hn2 : n ≤ 80000
theorem Od.kept {may : Nat → Nat → Prop} {w w' : World} {O bm om cm n M inv br cr : Nat} (h : Od w O bm om cm n M inv br cr) (hc : Chg may w w') (h1 : ∀ o, ¬ may O o) (h2 : ∀ o, ¬ may bm o) (hb : br < w.heap.size) : Od w' O bm om cm n M inv br cr :=
  ⟨cellK hc h.c0 (h1 _), cellK hc h.c1 (h1 _), cellK hc h.c2 (h1 _), h.hcm, h.hcr, h.hm.kept hc (fun i _ => h2 _), h.hC.kept hc hb, h.neO, h.neM, h.hM, h.hn, h.hn2⟩

set_option maxRecDepth 100000 in
set_option maxHeartbeats 2000000 in
theorem reduce_any (O bm om cm n M inv br cr bo oo co T : Nat) (z : Nat → Nat) (w : World) (hO : Od w O bm om cm n M inv br cr) (hT : Rd .u32 w br 0 (n + 1) (dw T)) (hT2 : T < 2 * M) (hTl : T < 256 ^ (4 * (n + 1))) (hco : n ≤ co)
    (hout : Rd .u32 w bo oo n z) (hoC : Cl w bo) (n1 : bo ≠ O) (n2 : bo ≠ bm) (n3 : bo ≠ br) :
    Calls Tajg.prog 119 #[.pointer (some ⟨O, 0, none⟩), .slice (some ⟨bo, oo, none⟩) n co] w fun e w' => (∃ v, e = .returned v) ∧ Rd .u32 w' bo oo n (dw (T % M)) ∧ Cl w' bo ∧ Chg (fun q _ => q = bo) w w' := by
  obtain ⟨c0, c1, c2, hcm, hcr, hm, hC, neO, neM, hM, hn, hn2⟩ := hO
  have HT : Hid (Rd .u32 w br 0 (n + 1) (dw T)) := hT
  have Hm : Hid (Rd .u32 w bm om n (dw M)) := hm
  have HM : Hid (M < 256 ^ (4 * n) ∧ T < 2 * M ∧ T < 256 ^ (4 * (n + 1))) := ⟨hM, hT2, hTl⟩
  have Hc : Hid (w.cell? ⟨O, 0, none⟩ = some (.slice (some ⟨bm, om, none⟩) n cm) ∧ w.cell? ⟨O, 2, none⟩ = some (.slice (some ⟨br, 0, none⟩) (n + 1) cr)) := ⟨c0, c2⟩
  clear hM hT2 hTl c1 hC hT hm c2
  go_enter Tajg.func119, Tajg.ntmps119
  go_wp2_with fail
  go_loopw [5, 6] (fun b i wr => ∃ j : Nat, j ≤ n ∧ b = .int .u64 ((bor T M j : Nat) : Int) ∧ i = .int .i64 (j : Int) ∧ Rd .u32 wr bo oo n (mix j (sdg T M) z) ∧ Cl wr bo ∧ Chg (fun q _ => q = bo) w wr) (fun _ i _ => (n - intOf i).toNat)
  case atStart => exact ⟨0, by omega, by rw [bor_zero]; rfl, rfl, hout.start _, hoC, Chg.refl _ _⟩
  case round =>
    clear c0 hout hoC
    obtain ⟨j, hj, rfl, rfl, hR, hCo, hCg⟩ := hrel
    have d0 := cellK hCg Hc.out.1 (fun e => n1 e.symm)
    have d2 := cellK hCg Hc.out.2 (fun e => n1 e.symm)
    have hTr := HT.out.kept hCg (fun i _ e => n3 e.symm)
    have hMr := Hm.out.kept hCg (fun i _ e => n2 e.symm)
    by_cases hjn : j = n
    · subst hjn
      have t1 := hTr j (by omega)
      rw [Nat.zero_add] at t1
      have hdl := dw_lt T j
      have hbl := bor_le T M j
      have hRd := hR.done (Nat.le_refl _)
      have hTr' : Rd .u32 wr br 0 j (dw T) := fun i hi => hTr i (by omega)
      by_cases hTM : T < M
      · have HD : Hid (dw T j = 0 ∧ bor T M j = 1) := by
          have h1 : T < 256 ^ (4 * j) := Nat.lt_trans hTM HM.out.1
          refine ⟨dw_above T j j h1 (Nat.le_refl _), ?_⟩
          unfold bor
          rw [Nat.mod_eq_of_lt h1, Nat.mod_eq_of_lt HM.out.1, if_pos hTM]
        rw [HD.out.1] at t1
        rw [HD.out.2]
        have HTm : Hid (T % M = T) := Nat.mod_eq_of_lt hTM
        obtain ⟨w5, e5, hR5, hC5⟩ := run_cpW j (dc := co) (sc := cr) (Nat.min_self j).symm hTr' hRd (hCo.wr _ _)
        have hCo5 := hCo.kept hC5 (hRd.lt (by omega))
        have hCg5 : Chg (fun q _ => q = bo) w w5 := hCg.trans (hC5.mono (fun q o _ h => h.1))
        have hR5' := hR5.done (Nat.le_refl _)
        clear hTr hMr hR hRd hTr' hdl hbl HD
        go_wp2_with fail
        go_end0
        exact ⟨⟨_, rfl⟩, by rw [HTm.out]; exact hR5', hCo5, hCg5⟩
      · have HTm : Hid (T % M = T - M) := by
          have h1 := HM.out.2.1
          show _ = _
          rw [Nat.mod_eq_sub_mod (by omega), Nat.mod_eq_of_lt (by omega)]
        have hge : bor T M j ≤ dw T j := by
          rcases Nat.eq_zero_or_pos (dw T j) with h | h
          · have h1 := dw_zero_top T j HM.out.2.2 h
            unfold bor
            rw [Nat.mod_eq_of_lt h1, Nat.mod_eq_of_lt HM.out.1, if_neg hTM]; omega
          · omega
        have hR5' : Rd .u32 wr bo oo j (dw (T % M)) := hRd.congr (fun i _ => by rw [HTm.out]; exact sdg_dw T M i (by omega))
        obtain ⟨DI, HDI⟩ : ∃ DI : Int, Hid (DI = ((dw T j : Nat) : Int)) := ⟨_, rfl⟩
        obtain ⟨BI, HBI⟩ : ∃ BI : Int, Hid (BI = ((bor T M j : Nat) : Int)) := ⟨_, rfl⟩
        have k1 : 0 ≤ DI := by have := HDI.out; omega
        have k2 : DI < 4294967296 := by have := HDI.out; omega
        have k3 : BI ≤ DI := by have h1 := HDI.out; have h2 := HBI.out; omega
        have k4 : 0 ≤ BI := by have h2 := HBI.out; omega
        rw [← HDI.out] at t1
        rw [← HBI.out]
        clear hTr hMr hR hRd hTr' hdl hbl hge
        go_wp2_with fail
        go_end0
        exact ⟨⟨_, rfl⟩, hR5', hCo, hCg⟩
    · have hlt : j < n := by omega
      have t1 := hTr j (by omega)
      have m1 := hMr j hlt
      have o1 := hR.at hlt
      have f1 := hCo (oo + j)
      rw [Nat.zero_add] at t1
      have hs := sdg_int T M j
      have hb1 := bor_succ T M j
      have hbl := bor_le T M j
      have hd1 := dw_lt T j
      have hd2 := dw_lt M j
      obtain ⟨RI, HRI⟩ : ∃ RI : Int, Hid (RI = ((dw T j : Nat) : Int)) := ⟨_, rfl⟩
      obtain ⟨MI, HMI⟩ : ∃ MI : Int, Hid (MI = ((dw M j : Nat) : Int)) := ⟨_, rfl⟩
      obtain ⟨BI, HBI⟩ : ∃ BI : Int, Hid (BI = ((bor T M j : Nat) : Int)) := ⟨_, rfl⟩
      have r0 : 0 ≤ RI ∧ RI < 4294967296 := by have := HRI.out; omega
      have r1 : 0 ≤ MI ∧ MI < 4294967296 := by have := HMI.out; omega
      have r2 : 0 ≤ BI ∧ BI ≤ 1 := by have := HBI.out; omega
      have HB1 : Hid (((bor T M (j + 1) : Nat) : Int) = if RI < MI + BI then 1 else 0) := by
        have g1 := HRI.out
        have g2 := HMI.out
        have g3 := HBI.out
        show _ = _
        rw [hb1]
        by_cases h : dw T j < dw M j + bor T M j
        · rw [if_pos h, if_pos (by omega)]; rfl
        · rw [if_neg h, if_neg (by omega)]; rfl
      rw [← HRI.out, ← HMI.out, ← HBI.out] at hs
      rw [← HRI.out] at t1
      rw [← HMI.out] at m1
      rw [← HBI.out]
      obtain ⟨E1, HE1⟩ : ∃ E1 : Int, Hid ((RI - MI) % 18446744073709551616 = E1) := ⟨_, rfl⟩
      have e1 := HE1.out
      obtain ⟨E2, HE2⟩ : ∃ E2 : Int, Hid ((E1 - BI) % 18446744073709551616 = E2) := ⟨_, rfl⟩
      have e2 := HE2.out
      have b1 : 0 ≤ E1 ∧ E1 < 18446744073709551616 := by omega
      have b2 : 0 ≤ E2 ∧ E2 < 18446744073709551616 := by omega
      have e3 : E2 % 4294967296 = ((sdg T M j : Nat) : Int) := by rw [← hs]; omega
      have e4 : E2 / 9223372036854775808 = ((bor T M (j + 1) : Nat) : Int) := by
        rw [HB1.out]
        split <;> omega
      obtain ⟨SD, HSD⟩ : ∃ SD : Int, Hid (((sdg T M j : Nat) : Int) = SD) := ⟨_, rfl⟩
      obtain ⟨B2, HB2⟩ : ∃ B2 : Int, Hid (((bor T M (j + 1) : Nat) : Int) = B2) := ⟨_, rfl⟩
      rw [HSD.out] at e3
      rw [HB2.out] at e4
      obtain ⟨r01, r02⟩ := r0
      obtain ⟨r11, r12⟩ := r1
      obtain ⟨r21, r22⟩ := r2
      obtain ⟨b11, b12⟩ := b1
      obtain ⟨b21, b22⟩ := b2
      have w1 : IntKind.u64.wrap (RI - MI) = E1 := by rw [IntKind.wrap_u64]; exact e1
      have w2 : IntKind.u64.wrap (E1 - BI) = E2 := by rw [IntKind.wrap_u64]; exact e2
      clear hs hb1 hbl hd1 hd2 hTr hMr HB1
      go_wp2_with fail
      refine Text.wp_text (by kernel_rfl) (by kernel_rfl) ⟨fun c a w h => (by obtain ⟨_, h⟩ := h.2.1; cases h), fun a w h => (by obtain ⟨_, h⟩ := h.1; cases h)⟩ ?_
      intro K hK
      go_wp2_with fail
      refine hK _ _ (by rfl) ?_
      clear hK
      go_wp2_with fail
      go_roundw
      case rel => exact ⟨j + 1, by omega, by rw [HB2.out], by go_num, hR.drew.step hlt _ HSD.out.symm, hCo.drew.setCell _ _, (hCg.drew).setCell _ _ _ (fun _ => rfl)⟩
      case measure => simp [intOf]; omega
end Go.Proofs.Ygctaj.Nt
