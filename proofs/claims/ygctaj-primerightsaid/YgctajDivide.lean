/- nlong.divide, walked. -/
import Derived.Test.YgctajDivNew2
namespace Go.Proofs.Ygctaj.Nt
open Go.RowKit Mem Long
set_option linter.unusedVariables false

theorem Na.uniq {w : World} {v : Value} {n m N M : Nat} (h : Na w v n N) (k : Na w v m M) : N = M := by
  have h1 := h.val
  have k1 := k.val
  obtain ⟨a, cap, rfl, _, _, hr⟩ := h
  obtain ⟨a', cap', e, _, _, kr⟩ := k
  cases e
  rw [← h1, ← k1]
  apply val_congr
  intro i hi
  obtain ⟨b, off, rfl, hR, _⟩ := hr (by omega)
  obtain ⟨b', off', e, kR, _⟩ := kr (by omega)
  cases e
  have := (hR i hi).symm.trans (kR i hi)
  simp at this
  exact Int.ofNat.inj this

open Classical in
/-- the number that v is in w. -/
noncomputable def mz (w : World) (v : Value) : Nat := if h : ∃ N, Nm w v N then Classical.choose h else 0
theorem Nm.mz {w : World} {v : Value} {N : Nat} (h : Nm w v N) : Nt.mz w v = N := by
  unfold Nt.mz
  rw [dif_pos ⟨N, h⟩]
  exact (Classical.choose_spec (⟨N, h⟩ : ∃ N, Nm w v N)).na.uniq h.na

theorem Fr.at {B : Nat} {w w' : World} {v : Value} {N : Nat} (h : Fr B w v) (hn : Nm w' v N) : Fr B w' v := by
  intro b off sp n c e
  obtain ⟨h1, h2, h3⟩ := h b off sp n c e
  refine ⟨h1, h2, ?_⟩
  rcases hn.open with ⟨_, e'⟩ | ⟨_, b', off', cap', e', _, _, _, hcl⟩
  · rw [e] at e'; cases e'
  · rw [e] at e'; cases e'; exact hcl.wr _ _

/-- the divisor at block V. -/
def Dv (w : World) (V : Nat) (b x : Value) (N X p : Nat) : Prop :=
  w.cell? ⟨V, 0, none⟩ = some b ∧ w.cell? ⟨V, 1, none⟩ = some x ∧ w.cell? ⟨V, 2, none⟩ = some (.int .i64 (p : Int)) ∧ Nm w b N ∧ Nm w x X
theorem Dv.same {w w' : World} {V N X p : Nat} {b x : Value} (h : Dv w V b x N X p) (hs : Same w w') : Dv w' V b x N X p :=
  ⟨cellK hs h.1 id, cellK hs h.2.1 id, cellK hs h.2.2.1 id, h.2.2.2.1.same hs, h.2.2.2.2.same hs⟩

theorem quo_rem (A N Q R : Nat) (h : Q * N + R = A) (hR : R < N) : Q = A / N ∧ R = A % N := by
  subst h
  have h0 : 0 < N := by omega
  rw [Nat.mul_comm Q N, Nat.mul_add_mod, Nat.mod_eq_of_lt hR, Nat.mul_add_div h0, Nat.div_eq_of_lt hR]
  exact ⟨by omega, rfl⟩

theorem cmp_lt {M N : Nat} (h : M < N) : cmpN M N = -1 := by unfold cmpN; rw [if_pos h]
theorem cmp_ge {M N : Nat} (h : N ≤ M) : 0 ≤ cmpN M N ∧ cmpN M N ≤ 1 := by unfold cmpN; rw [if_neg (by omega)]; split <;> omega

set_option maxRecDepth 100000 in
set_option maxHeartbeats 2000000 in
theorem divide_any (a b x : Value) (V na A N X p : Nat) (w : World) (hna : na ≤ 6000) (hN : N ≠ 0) (hl : dl N ≤ 3000) (hp4 : 4 ≤ p) (hp5 : p ≤ 3000) (ha : Na w a na A) (hD : Dv w V b x N X p) (hX : X * ld N p ≤ 256 ^ (2 * p)) :
    Calls Tajg.prog 58 #[.pointer (some ⟨V, 0, none⟩), a] w fun e w' => ∃ q r, e = .returned (.tuple #[q, r]) ∧ Nm w' q (A / N) ∧ Nm w' r (A % N) ∧ Fr w.heap.size w' q ∧ Fr w.heap.size w' r ∧ Same w w' := by
  have HX : Hid (X * ld N p ≤ 256 ^ (2 * p)) := hX
  have hxl := dl_le _ _ (x_lt N X p hN (by omega) hX)
  clear hX
  have HD : Hid (Dv w V b x N X p) := hD
  have c0 := hD.1
  clear hD
  have hdA : dl A ≤ 6000 := by have := dl_le _ _ ha.lt; omega
  go_enter Tajg.func58, Tajg.ntmps58
  go_wp2_with fail
  refine (cmp_any a b na (dl N) A N w (by omega) (by omega) ha HD.out.2.2.2.1.na).mono ?_
  rintro e w1 ⟨rfl, hs1⟩
  by_cases hlt : A < N
  · rw [cmp_lt hlt]
    have ha1 := ha.same hs1
    clear c0
    go_wp2_with fail
    refine (add_any a (.slice none 0 0) na 0 A 0 w1 (by omega) (by omega) ha1 (Na.nil _)).mono ?_
    rintro e w2 ⟨r2, rfl, hr2, hf2, hs2⟩
    go_wp2_with fail
    go_ret2
    exact ⟨_, _, rfl, by rw [Nat.div_eq_of_lt hlt]; exact Nm.nil _, by rw [Nat.mod_eq_of_lt hlt]; exact hr2, Fr.nil _ _, hf2.mono hs1.size, hs1.trans hs2⟩
  · have hc := cmp_ge (Nat.le_of_not_lt hlt)
    generalize cmpN A N = C at *
    obtain ⟨hc0, hc1⟩ := hc
    have hD1 := HD.out.same hs1
    have ha1 := ha.same hs1
    have HD1 : Hid (Dv w1 V b x N X p) := hD1
    obtain ⟨ab, cb, rfl, -⟩ := hD1.2.2.2.1.na
    have c01 := hD1.1
    have c11 := hD1.2.1
    have c21 := hD1.2.2.1
    clear c0 HD hD1 ha hlt
    have hN0 : Hid (N ≠ 0) := hN
    obtain ⟨lb, HLB⟩ : ∃ lb, Hid (lb = dl N) := ⟨_, rfl⟩
    rw [← HLB.out] at c01 hl
    obtain ⟨d, HDd, hd1, hd2⟩ : ∃ d : Nat, Hid (d = lb - 3) ∧ d ≤ lb ∧ d ≤ 3000 := ⟨_, rfl, by omega, by omega⟩
    have e6 : (lb : Int) - 3 = (d : Int) ∨ ((lb : Int) - 3 < 0 ∧ d = 0) := by have := HDd.out; omega
    have ek : (lb : Int) + (p : Int) - (d : Int) = ((lb + p - d : Nat) : Int) := by omega
    obtain ⟨k, HK⟩ : ∃ k, Hid (k = lb + p - d) := ⟨_, rfl⟩
    rw [← HK.out] at ek
    have hk : k ≤ 6000 := by have := HK.out; omega
    have e6' : (d : Int) < 0 ∨ ¬ ((d : Int) < 0) := by omega
    have c11d : w1.drew.cell? ⟨V, 1, none⟩ = some x := c11
    have had := ha1.same (Chg.refl (fun _ _ => False) w1).drew
    have hxd := HD1.out.2.2.2.2.same (Chg.refl (fun _ _ => False) w1).drew
    have HQ : Hid (A / 256 ^ d * X / 256 ^ k * N ≤ A) := by
      show _ ≤ _
      rw [HK.out]
      exact quo_le A N X (ld N p) lb p d hd1 (by rw [HLB.out]; exact ld_unit N p) HX.out
    have HLX : Hid (dl X ≤ 3002) := by show _ ≤ _; omega
    clear HX hxl hN
    rcases e6 with e6 | ⟨e6, -⟩
    all_goals
      go_wp2_with fail
      go_region_held3 (fun w' => w'.cell? ⟨V, 1, none⟩ = some x)
        (first | exact c11d | exact cellK hs3 c11d id)
        (first
          | (go_at_call 57; refine (down_any a na A d _ _ (by omega) (by omega) (by have := HDd.out; omega) had).mono ?_; rintro e w2 ⟨⟨a2, rfl, ha2, -⟩, rfl⟩)
          | (go_at_call 49; refine (mulLong_any a2 x _ _ _ X _ (by omega) (by have := HLX.out; omega) ha2 hxd.na).mono ?_; rintro e w3 ⟨q3, rfl, hq3, -, hs3⟩))
      have hs13 := Chg.trans (Chg.drew (Chg.refl (fun _ _ => False) w1)) hs3
      have hD3 := HD1.out.same hs13
      have hdq : dl (A / 256 ^ d * X) ≤ 16000 := by
        have h1 := dl_le ((na - d) + dl X) _ (by rw [Nat.pow_add]; exact Nat.mul_lt_mul'' ha2.lt hxd.na.lt)
        have := HLX.out
        omega
      have ha3 := ha1.same hs13
      have c03 := hD3.1
      have c23 := hD3.2.2.1
      rw [← HLB.out] at c03
      have HD3 : Hid (Dv w3 V _ x N X p) := hD3
      have hS3 := hs1.trans hs13
      clear hD3 c01 c11 c21 c11d had hxd ha2 hs3 hs13 HD1 ha1
      go_wp2_with fail
      refine Text.wp_text (by kernel_rfl) (by kernel_rfl) ⟨fun c a w h => (by obtain ⟨_, _, _, h, _⟩ := h; cases h), fun a w h => (by obtain ⟨_, _, h, _⟩ := h; cases h)⟩ ?_
      intro K hK
      go_wp2_with fail
      refine (down_any q3 _ _ k _ _ (by omega) (by omega) (by have := HDd.out; omega) (hq3.na.same (Chg.refl _ _).drew)).mono ?_
      rintro e w4 ⟨⟨q4, rfl, hq4, -⟩, rfl⟩
      go_wp2_with fail
      refine hK _ _ (by rfl) ?_
      clear hK
      have hD4 := HD3.out.same (Chg.refl (fun _ _ => False) w3).drew
      have ha4 := ha3.same (Chg.refl (fun _ _ => False) w3).drew
      have hS4 := hS3.drew
      have HD4 : Hid (Dv w3.drew V _ x N X p) := hD4
      have c04 := hD4.1
      have hb4 := hD4.2.2.2.1.na
      clear hD4 c03 c23 ha3 hS3 HD3 hq3
      generalize A / 256 ^ d * X / 256 ^ k = Q at *
      generalize w3.drew = w4 at *
      go_wp2_with fail
      refine (mulLong_any q4 _ _ (dl N) Q N w4 (by omega) (by have := HLB.out; omega) hq4 hb4).mono ?_
      rintro e w5 ⟨m5, rfl, hm5, -, hs5⟩
      have hdm : dl (Q * N) ≤ 40000 := by
        have h1 := dl_le (dl (A / 256 ^ d * X) - k + dl N) _ (by rw [Nat.pow_add]; exact Nat.mul_lt_mul'' hq4.lt hb4.lt)
        have := HLB.out
        omega
      have ha5 := ha4.same hs5
      have hq5 := hq4.same hs5
      have HD5 : Hid (Dv w5 V _ x N X p) := HD4.out.same hs5
      have hS5 := hS4.trans hs5
      clear ha4 hq4 hb4 c04 hS4 HD4 hs5
      go_wp2_with fail
      refine (sub_any a m5 na _ A (Q * N) w5 (by omega) (by omega) ha5 hm5.na HQ.out).mono ?_
      rintro e w6 ⟨r6, rfl, hr6, hf6, hs6⟩
      have hq6 := hq5.same hs6
      have hD6 := HD5.out.same hs6
      have hS6 := hS5.trans hs6
      have HE : Hid (Q * N + (A - Q * N) = A) := by have := HQ.out; show _ = _; omega
      have hf6' := hf6.mono hS5.size
      clear hq5 HD5 hS5 hm5 ha5 hf6 hs6
      generalize A - Q * N = R0 at *
      go_wp2_with fail
      go_loopw [4, 5] (fun q r wr => ∃ Qn Rn nq : Nat, nq ≤ 20000 ∧ Na wr q nq Qn ∧ Nm wr r Rn ∧ Hid (Qn * N + Rn = A) ∧ Fr w.heap.size wr r ∧ Dv wr V (.slice ab (dl N) cb) x N X p ∧ Same w wr) (fun _ r wr => mz wr r)
      case atStart => exact ⟨Q, R0, _, by omega, hq6, hr6, HE, hf6', hD6, hS6⟩
      case round =>
        clear hq6 hr6 HE hf6' hD6 hS6 HQ
        obtain ⟨Qn, Rn, nq, hnq, hq, hr, HE, hf, hD, hS⟩ := hrel
        have c0 := hD.1
        have hb := hD.2.2.2.1.na
        have hRA : Rn ≤ A := by have := HE.out; omega
        have hdR : dl Rn ≤ 6000 := Nat.le_trans (dl_mono hRA) hdA
        have hLN : dl N ≤ 3000 := by have := HLB.out; omega
        go_wp2_with fail
        refine (cmp_any _ _ (dl Rn) (dl N) Rn N wr (by omega) (by omega) hr.na hb).mono ?_
        rintro e w7 ⟨rfl, hs7⟩
        have hq7 := hq.same hs7
        have hr7 := hr.same hs7
        have hD7 := hD.same hs7
        have hb7 := hb.same hs7
        have c07 := hD7.1
        have hS7 := hS.trans hs7
        have hmz := hr.mz
        by_cases hlt : Rn < N
        · rw [cmp_lt hlt]
          have hqr := quo_rem A N Qn Rn HE.out hlt
          have HQR : Hid (Qn = A / N ∧ Rn = A % N) := hqr
          clear hb hb7 c0 c07 hD hD7 hq hr hqr
          go_wp2_with fail
          refine (add_any _ (.slice none 0 0) nq 0 Qn 0 w7 (by omega) (by omega) hq7 (Na.nil _)).mono ?_
          rintro e w8 ⟨q8, rfl, hq8, hf8, hs8⟩
          have hr8 := hr7.same hs8
          go_wp2_with fail
          go_ret2
          refine ⟨_, _, rfl, by rw [← HQR.out.1]; exact hq8, by rw [← HQR.out.2]; exact hr8, hf8.mono hS7.size, hf.at hr8, hS7.trans hs8⟩
        · have hge := Nat.le_of_not_lt hlt
          have hc := cmp_ge hge
          generalize cmpN Rn N = C2 at *
          obtain ⟨hc20, hc21⟩ := hc
          have HGE : Hid (N ≤ Rn) := hge
          clear hlt hge hb c0 hD hq hr
          go_wp2_with fail
          refine (sub_any _ _ (dl Rn) (dl N) Rn N w7 (by omega) (by omega) hr7.na hb7 HGE.out).mono ?_
          rintro e w8 ⟨r8, rfl, hr8, hf8, hs8⟩
          have hq8 := hq7.same hs8
          have hD8 := hD7.same hs8
          have hS8 := hS7.trans hs8
          go_wp2_with fail
          refine (succ_any _ nq Qn w8 (by omega) hq8).mono ?_
          rintro e w9 ⟨q9, rfl, hq9, -, hs9⟩
          have hr9 := hr8.same hs9
          have hD9 := hD8.same hs9
          have hE9 : (Qn + 1) * N + (Rn - N) = A := by
            have h1 := HE.out
            have h2 := HGE.out
            rw [Nat.add_mul, Nat.one_mul]; omega
          have hQA : Qn + 1 ≤ A := by
            have h1 : Qn + 1 ≤ (Qn + 1) * N := Nat.le_mul_of_pos_right _ (Nat.pos_of_ne_zero hN0.out)
            omega
          have HE9 : Hid ((Qn + 1) * N + (Rn - N) = A) := hE9
          have hdq9 : dl (Qn + 1) ≤ 6000 := Nat.le_trans (dl_mono hQA) hdA
          clear hE9
          go_wp2_with fail
          go_roundw
          case rel =>
            exact ⟨Qn + 1, Rn - N, _, by omega, hq9.na, hr9, HE9, (hf8.mono hS7.size).at hr9, hD9, hS8.trans hs9⟩
          case measure =>
            rw [hmz, hr9.mz]
            have h1 := HGE.out
            have h2 := Nat.pos_of_ne_zero hN0.out
            omega
end Go.Proofs.Ygctaj.Nt
