/- nlong.InvMod, walked. -/
import Derived.Test.YgctajInvPlain
import Derived.Test.YgctajDivAny
namespace Go.Proofs.Ygctaj.Nt
open Go.RowKit Mem Long
set_option linter.unusedVariables false

/-- what InvMod answers. -/
def InvAns (B : Nat) (w' : World) (e : Ending) (A M : Nat) : Prop :=
  (Nat.gcd A M = 1 ∧ ∃ v' L, e = .returned (.tuple #[v', .bool true]) ∧ Nm w' v' L ∧ Fr B w' v' ∧ L < M ∧ L * A % M = 1 % M) ∨ (Nat.gcd A M ≠ 1 ∧ e = .returned (.tuple #[.slice none 0 0, .bool false]))

set_option maxRecDepth 20000 in
theorem invMod_none (a m : Value) (na nm A : Nat) (w : World) (hna : na ≤ 2900) (hnm : nm ≤ 2900) (ha : Na w a na A) (hm : Na w m nm 0) :
    Calls Tajg.prog 29 #[a, m] w fun e w' => e = .returned (.tuple #[.slice none 0 0, .bool false]) ∧ w' = w := by
  go_enter Tajg.func29, Tajg.ntmps29
  go_wp2_with fail
  refine (normal_any m nm 0 w (by omega) hm).mono ?_
  rintro e w1 ⟨⟨m1, rfl, hm1, -⟩, rfl⟩
  go_wp2_with fail
  refine (div_none a m1 na (dl 0) A _ (by omega) (by rw [dl_zero]; omega) ha hm1.na).mono ?_
  rintro e w1 ⟨rfl, rfl⟩
  go_wp2_with fail
  go_ret2
  exact ⟨rfl, rfl⟩

set_option maxRecDepth 100000 in
set_option maxHeartbeats 2000000 in
theorem invMod_any (a m : Value) (na nm A M : Nat) (w : World) (hna : na ≤ 2000) (hnm : nm ≤ 2000) (ha : Na w a na A) (hm : Na w m nm M) (hM : 0 < M) :
    Calls Tajg.prog 29 #[a, m] w fun e w' => InvAns w.heap.size w' e A M ∧ Same w w' := by
  have hdM : dl M ≤ 2000 := by have := dl_le _ _ hm.lt; omega
  have HdM : Hid (∀ k, k ≤ M → dl k ≤ 2000) := fun k hk => Nat.le_trans (dl_mono hk) hdM
  go_enter Tajg.func29, Tajg.ntmps29
  go_wp2_with fail
  refine (normal_any m nm M w (by omega) hm).mono ?_
  rintro e w1 ⟨⟨m1, rfl, hm1, -⟩, rfl⟩
  go_wp2_with fail
  refine (div_any a m1 na (dl M) A M _ (by omega) (by omega) ha hm1.na (by omega)).mono ?_
  rintro e w2 ⟨q2, y2, rfl, -, hy2, -, -, hs2⟩
  have HI : Hid (Iv A M M (A % M) 0 1 false) := Iv.start A M hM
  have HM : Hid (Nm w1 m1 M) := hm1
  have hm2 := hm1.same hs2
  clear ha hm hm1
  go_wp2_with fail
  have hsa : Same w2 (w2.alloc (Obj.cells #[Value.int IntKind.u8 1] 5)) := (Chg.refl _ _).alloc _
  have hn3 := one_nm w2 5
  have hm3 := hm2.same hsa
  have hy3 := hy2.same hsa
  have hS3 := hs2.trans hsa
  clear hm2 hy2 hs2 hsa
  go_loopw [7, 9, 10, 11, 12] (fun y x l n s wr => ∃ (X Y Lt Nx : Nat) (sb : Bool), Nm wr x X ∧ Nm wr y Y ∧ Nm wr l Lt ∧ Nm wr n Nx ∧ s = .bool sb ∧ Hid (Iv A M X Y Lt Nx sb) ∧ Same w1 wr) (fun y _ _ _ _ wr => mz wr y)
  case atStart => exact ⟨M, A % M, 0, 1, false, hm3, hy3, Nm.nil _, hn3, rfl, HI, hS3⟩
  case round =>
    clear hm3 hy3 hn3 hS3 HI
    obtain ⟨X, Y, Lt, Nx, sb, hx, hy, hl, hn, rfl, HI, hS⟩ := hrel
    have hmz := hy.mz
    have hm := HM.out.same hS
    by_cases hY0 : Y = 0
    · subst hY0
      obtain rfl := hy.2 rfl
      have HXg : Hid (X = Nat.gcd A M) := by show _ = _; rw [← HI.out.hg, Nat.gcd_zero_right]
      have hdX : dl X ≤ 2000 := HdM.out X HI.out.hxM.1
      have hdL : dl Lt ≤ 2000 := HdM.out Lt HI.out.hl
      go_wp2_with fail
      refine (cmp_any _ _ (dl X) 1 X 1 _ (by omega) (by omega) (hx.same ((Chg.refl _ _).alloc _)).na (one_nm2 _ _ _ rfl)).mono ?_
      rintro e w5 ⟨rfl, hs5⟩
      have hsb := Chg.trans ((Chg.refl (fun _ _ => False) wr).alloc _) hs5
      have hl5 := hl.same hsb
      have hm5 := hm.same hsb
      have hS5 := hS.trans hsb
      clear hx hl hm hn hy hs5 hmz
      by_cases h1 : X = 1
      · have hc : cmpN X 1 = 0 := by rw [h1]; rfl
        rw [hc]
        have HG1 : Hid (Nat.gcd A M = 1) := by show _ = _; rw [← HXg.out, h1]
        have HF : Hid ((M : Int) ∣ 1 + sgn sb * (Lt : Int) * (A : Int)) := by
          have h := HI.out
          rw [h1] at h
          exact h.fin
        clear h1 hc
        go_wp2_with fail
        refine (div_any _ _ (dl Lt) (dl M) Lt M w5 (by omega) (by omega) hl5.na hm5.na (by omega)).mono ?_
        rintro e w6 ⟨q6, r6, rfl, -, hr6, -, hfr6, hs6⟩
        have hm6 := hm5.same hs6
        have hS6 := hS5.trans hs6
        have hmod : Lt % M < M := Nat.mod_lt _ hM
        clear hl5 hm5
        cases sb with
        | true =>
          have HF2 := inv_minus M Lt A hM HF.out
          clear hm6
          go_wp2_with fail
          go_ret2
          exact ⟨.inl ⟨HG1.out, _, _, rfl, hr6, hfr6.mono hS5.size, hmod, HF2⟩, hS6⟩
        | false =>
          have HF2 := inv_plus M Lt A hM HF.out
          by_cases hz : Lt % M = 0
          · rw [if_pos hz] at HF2
            rw [hz] at hr6
            have hr0 := hr6.2 rfl
            subst hr0
            clear hm6 hz hmod
            go_wp2_with fail
            go_ret2
            exact ⟨.inl ⟨HG1.out, _, 0, rfl, Nm.nil _, Fr.nil _ _, hM, HF2⟩, hS6⟩
          · rw [if_neg hz] at HF2
            have hdr : dl (Lt % M) ≤ 2000 := HdM.out _ (Nat.le_of_lt hmod)
            have HR6 : Hid (Nm w6 r6 (Lt % M)) := hr6
            rcases hr6.open with ⟨h, _⟩ | ⟨_, br, orr, cr, rfl, hcr, hpr, -, -⟩
            · exact absurd h hz
            have hLd : Hid (M - Lt % M < M) := by show _ < _; omega
            clear hr6
            generalize hdlr : dl (Lt % M) = lr at *
            have Hlr : Hid (dl (Lt % M) = lr) := hdlr
            clear hdlr
            go_wp2_with fail
            refine (sub_any _ _ (dl M) lr M (Lt % M) w6 (by omega) (by omega) hm6.na (by have h := HR6.out.na; rwa [Hlr.out] at h) (by omega)).mono ?_
            rintro e w7 ⟨v7, rfl, hv7, hf7, hs7⟩
            go_wp2_with fail
            go_ret2
            exact ⟨.inl ⟨HG1.out, _, _, rfl, hv7, hf7.mono hS6.size, hLd.out, HF2⟩, hS6.trans hs7⟩
      · have hcz : (cmpN X 1 == 0) = false := by
          rw [beq_eq_false_iff_ne]
          unfold cmpN
          split <;> (try split) <;> omega
        have HG1 : Hid (Nat.gcd A M ≠ 1) := by show _ ≠ _; rw [← HXg.out]; exact h1
        generalize cmpN X 1 = C at *
        have hcb : (C != 0) = true := by simp [bne, hcz]
        clear hl5 hm5
        go_wp2_with fail
        go_ret2
        exact ⟨.inr ⟨HG1.out, rfl⟩, hS5⟩
    · have hY1 : 0 < Y := by omega
      have HN := HI.out.next hY1
      have hdX : dl X ≤ 2000 := HdM.out X HI.out.hxM.1
      have hdY : dl Y ≤ 2000 := HdM.out Y HI.out.hxM.2
      have hdn : dl Nx ≤ 2000 := HdM.out Nx HI.out.hn
      have hdl : dl Lt ≤ 2000 := HdM.out Lt HI.out.hl
      have hdN : dl (X / Y * Nx) ≤ 2000 := HdM.out _ (Nat.le_trans (Nat.le_add_left _ _) HN.hn)
      have HNN : Hid (Iv A M Y (X % Y) Nx (Lt + X / Y * Nx) (!sb)) := HN
      have hmod : X % Y < Y := Nat.mod_lt _ hY1
      have hqX : X / Y ≤ X := Nat.div_le_self _ _
      have hdq : dl (X / Y) ≤ 2000 := Nat.le_trans (dl_mono hqX) hdX
      clear HN
      have Hmz : Hid _ := hmz
      have HY := hy
      rcases hy.open with ⟨h, _⟩ | ⟨_, by1, oy1, cy1, rfl, hcy1, hpy1, -, -⟩
      · exact absurd h hY0
      have HY : Hid (Nm wr (.slice (some ⟨by1, oy1, none⟩) (dl Y) cy1) Y) := hy
      have Hmz : Hid (mz wr (.slice (some ⟨by1, oy1, none⟩) (dl Y) cy1) = Y) := hmz
      clear hy hmz
      generalize hly : dl Y = ly at *
      have Hly : Hid (dl Y = ly) := hly
      clear hly
      go_wp2_with fail
      refine (div_any _ _ (dl X) ly X Y wr (by omega) (by omega) hx.na (by have h := HY.out.na; rwa [Hly.out] at h) (by omega)).mono ?_
      rintro e w5 ⟨q5, r5, rfl, hq5, hr5, -, -, hs5⟩
      have hn5 := hn.same hs5
      have hl5 := hl.same hs5
      have HY5 : Hid (Nm w5 (.slice (some ⟨by1, oy1, none⟩) ly cy1) Y) := HY.out.same hs5
      have hS5 := hS.trans hs5
      clear hx hn hl hm
      go_wp2_with fail
      refine (mulLong_any q5 _ (dl (X / Y)) (dl Nx) (X / Y) Nx w5 (by omega) (by omega) hq5.na hn5.na).mono ?_
      rintro e w6 ⟨p6, rfl, hp6, -, hs6⟩
      have hl6 := hl5.same hs6
      go_wp2_with fail
      refine (add_any _ p6 (dl Lt) (dl (X / Y * Nx)) Lt (X / Y * Nx) w6 (by omega) (by omega) hl6.na hp6.na).mono ?_
      rintro e w7 ⟨n7, rfl, hn7, -, hs7⟩
      have hs57 := hs6.trans hs7
      have hr7 := hr5.same hs57
      have hnx7 := hn5.same hs57
      have hy7 := HY5.out.same hs57
      have hS7 := hS5.trans hs57
      clear hr5 hn5 hl5 hl6 hp6 hq5 HY5
      go_wp2_with fail
      go_roundw
      case rel => exact ⟨Y, X % Y, Nx, Lt + X / Y * Nx, !sb, hy7, hr7, hnx7, hn7, rfl, HNN, hS7⟩
      case measure => rw [Hmz.out, hr7.mz]; exact hmod
end Go.Proofs.Ygctaj.Nt
