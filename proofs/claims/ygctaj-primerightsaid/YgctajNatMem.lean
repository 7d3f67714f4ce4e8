/- Naturals in memory; the four trims. -/
import Derived.Test.YgctajNat
import Derived.Test.YgctajMem
import Derived.Test.YgctajOrder
import Derived.Test.YgctajClean
namespace Go.Proofs.Ygctaj.Nt
open Go.RowKit Mem
set_option linter.unusedVariables false

/-- v is a slice of n digits, N their value. -/
def Na (w : World) (v : Value) (n N : Nat) : Prop :=
  ∃ a cap, v = .slice a n cap ∧ n ≤ cap ∧ N < 256 ^ n ∧ (0 < n → ∃ b off, a = some ⟨b, off, none⟩ ∧ Rd .u8 w b off n (dg N) ∧ Cl w b)

/-- v is the normal form of N. -/
def Nm (w : World) (v : Value) (N : Nat) : Prop := Na w v (dl N) N ∧ (N = 0 → v = .slice none 0 0)

/-- what v leads to lies in blocks from B on, and may be written. -/
def Fr (B : Nat) (w : World) (v : Value) : Prop := ∀ b off sp n c, v = .slice (some ⟨b, off, sp⟩) n c → B ≤ b ∧ sp = none ∧ Wr w b off n

theorem Na.same {w w' : World} {v : Value} {n N : Nat} (h : Na w v n N) (hs : Same w w') : Na w' v n N := by
  obtain ⟨a, cap, rfl, hc, hl, h⟩ := h
  refine ⟨a, cap, rfl, hc, hl, fun hn => ?_⟩
  obtain ⟨b, off, e, hr, hcl⟩ := h hn
  exact ⟨b, off, e, hr.same hs, hcl.kept hs (hr.lt hn)⟩
theorem Nm.same {w w' : World} {v : Value} {N : Nat} (h : Nm w v N) (hs : Same w w') : Nm w' v N := ⟨h.1.same hs, h.2⟩
theorem Nm.na {w : World} {v : Value} {N : Nat} (h : Nm w v N) : Na w v (dl N) N := h.1

theorem Nm.nil (w : World) : Nm w (.slice none 0 0) 0 := by
  refine ⟨⟨none, 0, by rw [dl_zero], by rw [dl_zero]; omega, by simp [dl_zero], fun h => ?_⟩, fun _ => rfl⟩
  rw [dl_zero] at h; omega

/-- a normal form: nil, or a row of its digits. -/
theorem Nm.open {w : World} {v : Value} {N : Nat} (h : Nm w v N) : (N = 0 ∧ v = .slice none 0 0) ∨ (N ≠ 0 ∧ ∃ b off cap, v = .slice (some ⟨b, off, none⟩) (dl N) cap ∧ dl N ≤ cap ∧ 0 < dl N ∧ Rd .u8 w b off (dl N) (dg N) ∧ Cl w b) := by
  obtain ⟨⟨a, cap, rfl, hc, hl, h⟩, hz⟩ := h
  by_cases h0 : N = 0
  · exact .inl ⟨h0, hz h0⟩
  · have hp : 0 < dl N := by
      rcases Nat.eq_zero_or_pos (dl N) with e | e
      · exact absurd (dl_eq_zero.1 e) h0
      · exact e
    obtain ⟨b, off, rfl, hr, hcl⟩ := h hp
    exact .inr ⟨h0, b, off, cap, rfl, hc, hp, hr, hcl⟩

theorem Nm.mk {w : World} {b off n cap N : Nat} (hN : N < 256 ^ n) (hcap : n ≤ cap) (hr : Rd .u8 w b off n (dg N)) (hcl : Cl w b) (hn : n = dl N) (h0 : 0 < n) : Nm w (.slice (some ⟨b, off, none⟩) n cap) N := by
  subst hn
  exact ⟨⟨_, cap, rfl, hcap, hN, fun _ => ⟨b, off, rfl, hr, hcl⟩⟩, fun h => by rw [h, dl_zero] at h0; omega⟩

theorem Na.mk {w : World} {b off n cap : Nat} {x : Nat → Nat} (hcap : n ≤ cap) (hr : Rd .u8 w b off n x) (hcl : Cl w b) (hx : ∀ i, i < n → x i < 256) : Na w (.slice (some ⟨b, off, none⟩) n cap) n (val x n) :=
  ⟨_, cap, rfl, hcap, val_lt x n hx, fun _ => ⟨b, off, rfl, hr.congr (fun i hi => (dg_val x n hx i hi).symm), hcl⟩⟩

/-- a new block's slice. -/
theorem Fr.mk {B b off n c : Nat} {w : World} (hB : B ≤ b) (hw : Wr w b off n) : Fr B w (.slice (some ⟨b, off, none⟩) n c) := by
  intro b' off' sp n' c' e
  injection e with e1 e2 e3
  injection e1 with e1
  injection e1 with e4 e5 e6
  subst e4 e5 e6 e2
  exact ⟨hB, rfl, hw⟩
theorem Fr.nil (B : Nat) (w : World) : Fr B w (.slice none 0 0) := by
  intro b' off' sp n' c' e; cases e
theorem Fr.mono {B B' : Nat} {w : World} {v : Value} (h : Fr B w v) (hB : B' ≤ B) : Fr B' w v := by
  intro b off sp n c e
  obtain ⟨h1, h2, h3⟩ := h b off sp n c e
  exact ⟨by omega, h2, h3⟩

set_option maxRecDepth 20000 in
set_option maxHeartbeats 400000 in
theorem trim_any (v : Value) (n N : Nat) (w : World) (hn : n ≤ 9223372036854775807) :
    Na w v n N → Calls Tajg.prog 51 #[v] w fun e w' => (∃ v', e = .returned v' ∧ Nm w v' N ∧ ∀ B, Fr B w v → Fr B w v') ∧ w' = w := by
  rintro ⟨a, cap, rfl, hc, hl, hr⟩
  have HL : Hid (N < 256 ^ n) := hl
  clear hl
  go_enter Tajg.func51, Tajg.ntmps51
  go_wp2_with fail
  go_loop [3] (fun i => ∃ m : Nat, m ≤ n ∧ i = .int .i64 m ∧ Hid (N < 256 ^ m)) (fun i => (intOf i).toNat)
  case atStart => exact ⟨n, Nat.le_refl _, rfl, HL⟩
  case round =>
    obtain ⟨m, hm, rfl, HM⟩ := hrel
    by_cases h0 : m = 0
    · subst h0
      have e0 : N = 0 := by have := HM.out; simpa using this
      clear hr
      go_wp2_with fail
      go_ret
      subst e0
      exact ⟨⟨_, rfl, Nm.nil _, fun B _ => Fr.nil B _⟩, rfl⟩
    · obtain ⟨b, off, rfl, hR, hcl⟩ := hr (by omega)
      have hc1 := hR (m - 1) (by omega)
      have hd0 := dg_lt N (m - 1)
      have HM1 : Hid (N < 256 ^ (m - 1 + 1)) := by
        have := HM.out
        rw [show m - 1 + 1 = m from by omega]; exact this
      have em : (m : Int) - 1 = ((m - 1 : Nat) : Int) := by omega
      have hg0 : decide ((0 : Int) < (m : Int)) = true := by simp; omega
      by_cases hz : dg N (m - 1) = 0
      · have HZ : Hid (N < 256 ^ (m - 1)) := dg_zero_top _ _ HM1.out hz
        rw [hz] at hc1
        clear hd0 hz hr hR hcl
        generalize hm1 : m - 1 = m1 at *
        go_wp2_with fail
        go_round
        case rel => exact ⟨m1, by omega, by go_num, HZ⟩
        case measure => simp [intOf]; omega
      · have hdl := dl_top _ _ HM1.out hz
        have HNm : Hid (Nm w (.slice (some ⟨b, off, none⟩) m m) N) := by
          refine Nm.mk HM.out (Nat.le_refl _) (fun i hi => hR i (by omega)) hcl (by omega) (by omega)
        have hz2 : (((dg N (m - 1) : Nat) : Int) == 0) = false := by rw [beq_eq_false_iff_ne]; omega
        have hz3 : 0 ≤ ((dg N (m - 1) : Nat) : Int) := by omega
        have hz4 : ((dg N (m - 1) : Nat) : Int) < 256 := by omega
        have HFr : Hid (∀ B, Fr B w (.slice (some ⟨b, off, none⟩) n cap) → Fr B w (.slice (some ⟨b, off, none⟩) m m)) := by
          intro B h
          obtain ⟨h1, _, h3⟩ := h b off none n cap rfl
          exact Fr.mk h1 fun i hi => h3 i (by omega)
        clear hd0 hz hdl hr hR hcl
        generalize ((dg N (m - 1) : Nat) : Int) = D at *
        generalize hm1 : m - 1 = m1 at *
        go_wp2_with fail
        go_ret
        exact ⟨⟨_, rfl, HNm.out, HFr.out⟩, rfl⟩
set_option maxRecDepth 20000 in
set_option maxHeartbeats 400000 in
theorem schoolStrip_any (v : Value) (n N : Nat) (w : World) (hn : n ≤ 9223372036854775807) :
    Na w v n N → Calls Tajg.prog 52 #[v] w fun e w' => (∃ v', e = .returned v' ∧ Nm w v' N ∧ ∀ B, Fr B w v → Fr B w v') ∧ w' = w := by
  rintro ⟨a, cap, rfl, hc, hl, hr⟩
  have HL : Hid (N < 256 ^ n) := hl
  clear hl
  go_enter Tajg.func52, Tajg.ntmps52
  go_wp2_with fail
  go_loop [3] (fun i => ∃ m : Nat, m ≤ n ∧ i = .int .i64 m ∧ Hid (N < 256 ^ m)) (fun i => (intOf i).toNat)
  case atStart => exact ⟨n, Nat.le_refl _, rfl, HL⟩
  case round =>
    obtain ⟨m, hm, rfl, HM⟩ := hrel
    by_cases h0 : m = 0
    · subst h0
      have e0 : N = 0 := by have := HM.out; simpa using this
      clear hr
      go_wp2_with fail
      go_ret
      subst e0
      exact ⟨⟨_, rfl, Nm.nil _, fun B _ => Fr.nil B _⟩, rfl⟩
    · obtain ⟨b, off, rfl, hR, hcl⟩ := hr (by omega)
      have hc1 := hR (m - 1) (by omega)
      have hd0 := dg_lt N (m - 1)
      have HM1 : Hid (N < 256 ^ (m - 1 + 1)) := by
        have := HM.out
        rw [show m - 1 + 1 = m from by omega]; exact this
      have em : (m : Int) - 1 = ((m - 1 : Nat) : Int) := by omega
      have hg0 : decide ((0 : Int) < (m : Int)) = true := by simp; omega
      by_cases hz : dg N (m - 1) = 0
      · have HZ : Hid (N < 256 ^ (m - 1)) := dg_zero_top _ _ HM1.out hz
        rw [hz] at hc1
        clear hd0 hz hr hR hcl
        generalize hm1 : m - 1 = m1 at *
        go_wp2_with fail
        go_round
        case rel => exact ⟨m1, by omega, by go_num, HZ⟩
        case measure => simp [intOf]; omega
      · have hdl := dl_top _ _ HM1.out hz
        have HNm : Hid (Nm w (.slice (some ⟨b, off, none⟩) m m) N) := by
          refine Nm.mk HM.out (Nat.le_refl _) (fun i hi => hR i (by omega)) hcl (by omega) (by omega)
        have hz2 : (((dg N (m - 1) : Nat) : Int) == 0) = false := by rw [beq_eq_false_iff_ne]; omega
        have hz3 : 0 ≤ ((dg N (m - 1) : Nat) : Int) := by omega
        have hz4 : ((dg N (m - 1) : Nat) : Int) < 256 := by omega
        have HFr : Hid (∀ B, Fr B w (.slice (some ⟨b, off, none⟩) n cap) → Fr B w (.slice (some ⟨b, off, none⟩) m m)) := by
          intro B h
          obtain ⟨h1, _, h3⟩ := h b off none n cap rfl
          exact Fr.mk h1 fun i hi => h3 i (by omega)
        clear hd0 hz hdl hr hR hcl
        generalize ((dg N (m - 1) : Nat) : Int) = D at *
        generalize hm1 : m - 1 = m1 at *
        go_wp2_with fail
        go_ret
        exact ⟨⟨_, rfl, HNm.out, HFr.out⟩, rfl⟩
set_option maxRecDepth 20000 in
set_option maxHeartbeats 400000 in
theorem normal_any (v : Value) (n N : Nat) (w : World) (hn : n ≤ 9223372036854775807) :
    Na w v n N → Calls Tajg.prog 47 #[v] w fun e w' => (∃ v', e = .returned v' ∧ Nm w v' N ∧ ∀ B, Fr B w v → Fr B w v') ∧ w' = w := by
  rintro ⟨a, cap, rfl, hc, hl, hr⟩
  have HL : Hid (N < 256 ^ n) := hl
  clear hl
  go_enter Tajg.func47, Tajg.ntmps47
  go_wp2_with fail
  go_loop [3] (fun i => ∃ m : Nat, m ≤ n ∧ i = .int .i64 m ∧ Hid (N < 256 ^ m)) (fun i => (intOf i).toNat)
  case atStart => exact ⟨n, Nat.le_refl _, rfl, HL⟩
  case round =>
    obtain ⟨m, hm, rfl, HM⟩ := hrel
    by_cases h0 : m = 0
    · subst h0
      have e0 : N = 0 := by have := HM.out; simpa using this
      clear hr
      go_wp2_with fail
      go_ret
      subst e0
      exact ⟨⟨_, rfl, Nm.nil _, fun B _ => Fr.nil B _⟩, rfl⟩
    · obtain ⟨b, off, rfl, hR, hcl⟩ := hr (by omega)
      have hc1 := hR (m - 1) (by omega)
      have hd0 := dg_lt N (m - 1)
      have HM1 : Hid (N < 256 ^ (m - 1 + 1)) := by
        have := HM.out
        rw [show m - 1 + 1 = m from by omega]; exact this
      have em : (m : Int) - 1 = ((m - 1 : Nat) : Int) := by omega
      have hg0 : decide ((0 : Int) < (m : Int)) = true := by simp; omega
      by_cases hz : dg N (m - 1) = 0
      · have HZ : Hid (N < 256 ^ (m - 1)) := dg_zero_top _ _ HM1.out hz
        rw [hz] at hc1
        clear hd0 hz hr hR hcl
        generalize hm1 : m - 1 = m1 at *
        go_wp2_with fail
        go_round
        case rel => exact ⟨m1, by omega, by go_num, HZ⟩
        case measure => simp [intOf]; omega
      · have hdl := dl_top _ _ HM1.out hz
        have HNm : Hid (Nm w (.slice (some ⟨b, off, none⟩) m m) N) := by
          refine Nm.mk HM.out (Nat.le_refl _) (fun i hi => hR i (by omega)) hcl (by omega) (by omega)
        have hz2 : (((dg N (m - 1) : Nat) : Int) == 0) = false := by rw [beq_eq_false_iff_ne]; omega
        have hz3 : 0 ≤ ((dg N (m - 1) : Nat) : Int) := by omega
        have hz4 : ((dg N (m - 1) : Nat) : Int) < 256 := by omega
        have HFr : Hid (∀ B, Fr B w (.slice (some ⟨b, off, none⟩) n cap) → Fr B w (.slice (some ⟨b, off, none⟩) m m)) := by
          intro B h
          obtain ⟨h1, _, h3⟩ := h b off none n cap rfl
          exact Fr.mk h1 fun i hi => h3 i (by omega)
        clear hd0 hz hdl hr hR hcl
        generalize ((dg N (m - 1) : Nat) : Int) = D at *
        generalize hm1 : m - 1 = m1 at *
        go_wp2_with fail
        go_ret
        exact ⟨⟨_, rfl, HNm.out, HFr.out⟩, rfl⟩
set_option maxRecDepth 20000 in
set_option maxHeartbeats 400000 in
theorem longStrip_any (v : Value) (n N : Nat) (w : World) (hn : n ≤ 9223372036854775807) :
    Na w v n N → Calls Tajg.prog 87 #[v] w fun e w' => (∃ v', e = .returned v' ∧ Nm w v' N ∧ ∀ B, Fr B w v → Fr B w v') ∧ w' = w := by
  rintro ⟨a, cap, rfl, hc, hl, hr⟩
  have HL : Hid (N < 256 ^ n) := hl
  clear hl
  go_enter Tajg.func87, Tajg.ntmps87
  go_wp2_with fail
  go_loop [3] (fun i => ∃ m : Nat, m ≤ n ∧ i = .int .i64 m ∧ Hid (N < 256 ^ m)) (fun i => (intOf i).toNat)
  case atStart => exact ⟨n, Nat.le_refl _, rfl, HL⟩
  case round =>
    obtain ⟨m, hm, rfl, HM⟩ := hrel
    by_cases h0 : m = 0
    · subst h0
      have e0 : N = 0 := by have := HM.out; simpa using this
      clear hr
      go_wp2_with fail
      go_ret
      subst e0
      exact ⟨⟨_, rfl, Nm.nil _, fun B _ => Fr.nil B _⟩, rfl⟩
    · obtain ⟨b, off, rfl, hR, hcl⟩ := hr (by omega)
      have hc1 := hR (m - 1) (by omega)
      have hd0 := dg_lt N (m - 1)
      have HM1 : Hid (N < 256 ^ (m - 1 + 1)) := by
        have := HM.out
        rw [show m - 1 + 1 = m from by omega]; exact this
      have em : (m : Int) - 1 = ((m - 1 : Nat) : Int) := by omega
      have hg0 : decide ((0 : Int) < (m : Int)) = true := by simp; omega
      by_cases hz : dg N (m - 1) = 0
      · have HZ : Hid (N < 256 ^ (m - 1)) := dg_zero_top _ _ HM1.out hz
        rw [hz] at hc1
        clear hd0 hz hr hR hcl
        generalize hm1 : m - 1 = m1 at *
        go_wp2_with fail
        go_round
        case rel => exact ⟨m1, by omega, by go_num, HZ⟩
        case measure => simp [intOf]; omega
      · have hdl := dl_top _ _ HM1.out hz
        have HNm : Hid (Nm w (.slice (some ⟨b, off, none⟩) m m) N) := by
          refine Nm.mk HM.out (Nat.le_refl _) (fun i hi => hR i (by omega)) hcl (by omega) (by omega)
        have hz2 : (((dg N (m - 1) : Nat) : Int) == 0) = false := by rw [beq_eq_false_iff_ne]; omega
        have hz3 : 0 ≤ ((dg N (m - 1) : Nat) : Int) := by omega
        have hz4 : ((dg N (m - 1) : Nat) : Int) < 256 := by omega
        have HFr : Hid (∀ B, Fr B w (.slice (some ⟨b, off, none⟩) n cap) → Fr B w (.slice (some ⟨b, off, none⟩) m m)) := by
          intro B h
          obtain ⟨h1, _, h3⟩ := h b off none n cap rfl
          exact Fr.mk h1 fun i hi => h3 i (by omega)
        clear hd0 hz hdl hr hR hcl
        generalize ((dg N (m - 1) : Nat) : Int) = D at *
        generalize hm1 : m - 1 = m1 at *
        go_wp2_with fail
        go_ret
        exact ⟨⟨_, rfl, HNm.out, HFr.out⟩, rfl⟩
end Go.Proofs.Ygctaj.Nt
