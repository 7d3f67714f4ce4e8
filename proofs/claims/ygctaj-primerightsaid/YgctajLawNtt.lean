import Derived.Test.YgctajNttFwd
import Derived.Test.YgctajLaws
import Derived.OpenShut
namespace Go.Proofs.Ygctaj.Ntt
open Go.RowKit Mem Dft
set_option linter.unusedVariables false

theorem info50 : (Tajg.prog.info? 50).map (fun i => (i.zero, i.size, i.bytes)) = some (some (.int .u32 0), 1, 4) := by kernel_rfl
theorem size50 : (Tajg.prog.info? 50).map (fun i => i.size) = some 1 := by kernel_rfl

theorem dft_congr (w : F) (x y : Nat → F) (n j : Nat) (h : ∀ i, i < n → x i = y i) : dft w x n j = dft w y n j := by
  unfold dft
  exact fsum_congr _ _ _ fun i hi => by rw [h i hi]

theorem pow_le_of (j n : Nat) (hj : j ≤ 11) : ((2 ^ j : Nat) : Int) ≤ (n : Int) ↔ 2 ^ j ≤ n := by omega

set_option maxRecDepth 20000 in
set_option maxHeartbeats 400000 in
theorem cut_any (n : Nat) (w : World) (hn : n ≤ 9223372036854775807) :
    Calls Tajg.prog 76 #[.int .i64 (n : Int)] w fun e w' => (∃ j : Nat, j ≤ 12 ∧ e = .returned (.int .i64 ((j : Int) - 1)) ∧ (j ≠ 0 → 2 ^ (j - 1) ≤ n) ∧ (j = 0 → n = 0)) ∧ w' = w := by
  go_enter Tajg.func76, Tajg.ntmps76
  go_wp2_with fail
  go_loop [3] (fun c => ∃ j : Nat, j ≤ 12 ∧ c = .int .i64 ((j : Int) - 1) ∧ (j ≠ 0 → 2 ^ (j - 1) ≤ n)) (fun c => 12 - (intOf c + 1).toNat)
  case atStart => exact ⟨0, Nat.zero_le _, rfl, fun h => absurd rfl h⟩
  case round =>
    obtain ⟨j, hj, rfl, hp⟩ := hrel
    have HP : Hid (j ≠ 0 → 2 ^ (j - 1) ≤ n) := hp
    clear hp
    by_cases hlt : j ≤ 11
    · have hw := wrap64_pow j (by omega)
      have HW : Hid (wrap64 ((2 : Int) ^ j) = ((2 ^ j : Nat) : Int)) := hw
      clear hw
      by_cases h2 : 2 ^ j ≤ n
      · have hd : decide (wrap64 ((2 : Int) ^ j) ≤ (n : Int)) = true := by rw [HW.out]; exact decide_eq_true (by exact_mod_cast h2)
        have hdl : decide ((j : Int) - 1 < 11) = true := by simp; omega
        have HH : Hid (2 ^ j ≤ n) := h2
        clear h2
        go_wp2_with fail
        go_round
        case rel => exact ⟨j + 1, by omega, by go_num, fun _ => HH.out⟩
        case measure => simp [intOf]; omega
      · have hd : decide (wrap64 ((2 : Int) ^ j) ≤ (n : Int)) = false := by rw [HW.out]; exact decide_eq_false (by intro h; exact h2 (by exact_mod_cast h))
        have hdl : decide ((j : Int) - 1 < 11) = true := by simp; omega
        have HZ : Hid (j = 0 → n = 0) := by intro h; subst h; simp at h2; exact h2
        clear h2
        go_wp2_with fail
        go_ret
        exact ⟨⟨j, hj, rfl, HP.out, HZ.out⟩, rfl⟩
    · have hdl : decide ((j : Int) - 1 < 11) = false := by simp; omega
      go_wp2_with fail
      go_ret
      exact ⟨⟨j, hj, rfl, HP.out, by omega⟩, rfl⟩

set_option maxRecDepth 20000 in
set_option maxHeartbeats 400000 in
theorem elements_none (a : Option Addr) (cap : Nat) (w : World) :
    Calls Tajg.prog 39 #[.slice a 0 cap] w fun e w' => e = .returned (.tuple #[.slice none 0 0, .int .i64 (-1)]) ∧ Same w w' := by
  go_enter Tajg.func39, Tajg.ntmps39
  go_wp2_with fail
  refine (cut_any 0 w (by decide)).mono ?_
  rintro e w1 ⟨⟨j, hj, rfl, h1, h2⟩, rfl⟩
  have e0 : j = 0 := by
    rcases Nat.eq_zero_or_pos j with h | h
    · exact h
    · have := h1 (by omega)
      have := Nat.two_pow_pos (j - 1)
      omega
  subst e0
  go_wp2_with fail
  go_ret2
  exact ⟨rfl, Chg.refl _ _⟩

set_option maxRecDepth 20000 in
set_option maxHeartbeats 1000000 in
theorem elements_any (b off len cap : Nat) (z : Nat → Nat) (w : World) (hn : len ≤ 9223372036854775807) (hl : 1 ≤ len) (hz : Rd .u32 w b off len z) (hzl : ∀ i, i < len → z i < 4294967296) :
    Calls Tajg.prog 39 #[.slice (some ⟨b, off, none⟩) len cap] w fun e w' =>
      ∃ k n B : Nat, k ≤ 11 ∧ n = 2 ^ k ∧ e = .returned (.tuple #[.slice (some ⟨B, 0, none⟩) n n, .int .i64 (k : Int)]) ∧ w.heap.size ≤ B ∧ Rd .u32 w' B 0 n (fun i => z i % 998244353) ∧ Wr w' B 0 n ∧ Same w w' := by
  have hb := hz.lt (by omega)
  go_enter Tajg.func39, Tajg.ntmps39
  go_wp2_with fail
  refine (cut_any len w hn).mono ?_
  rintro e w1 ⟨⟨j, hj, rfl, h1, h2⟩, rfl⟩
  obtain ⟨k, rfl⟩ : ∃ k, j = k + 1 := by
    rcases Nat.eq_zero_or_pos j with h | h
    · have := h2 h; omega
    · exact ⟨j - 1, by omega⟩
  have h3 := h1 (by omega)
  rw [Nat.add_sub_cancel] at h3
  clear h1 h2
  rw [show ((k + 1 : Nat) : Int) - 1 = (k : Int) from by omega]
  have hw := wrap64_pow k (by omega)
  have hp11 : 2 ^ k ≤ 2 ^ 11 := Nat.pow_le_pow_right (by decide) (by omega)
  generalize hN : 2 ^ k = n at *
  have HN : Hid (n = 2 ^ k) := hN.symm
  have hk0 : (0 : Int) ≤ (k : Int) := by omega
  clear hN
  go_wp2_with (at_make; refine wpList_mk n .u32 50 4 _ _ (by rfl) (by rfl) hw hw Tajg.underlying58 info50 (by omega) (by omega) ?_; intro B w2 hB1 hB2 hR hW hS)
  have hzz := hz.same hS
  have hnl : n ≤ len := h3
  have hBb : b < B := by omega
  clear hz
  go_loopw [4] (fun i wr => ∃ i' : Nat, i' ≤ n ∧ i = .int .i64 i' ∧ Rd .u32 wr B 0 n (mix i' (fun i => z i % 998244353) (fun _ => 0)) ∧ Rd .u32 wr b off len z ∧ Wr wr B 0 n ∧ Same w1 wr) (fun i _ => n - (intOf i).toNat)
  case atStart => exact ⟨0, Nat.zero_le _, rfl, hR.start _, hzz, hW, hS⟩
  case round =>
    clear hzz hR hW hS
    obtain ⟨i, hi, rfl, hR, hz, hW, hS⟩ := hrel
    by_cases hlt : i < n
    · have ci := hz i (by omega)
      have di := hR.at hlt
      rw [Nat.zero_add] at di
      have fi := hW i hlt
      rw [Nat.zero_add] at fi
      have hz0 : 0 ≤ ((z i : Nat) : Int) := by omega
      have hz1 : ((z i : Nat) : Int) < 4294967296 := by have := hzl i (by omega); omega
      have HV : Hid (((z i : Nat) : Int) % 998244353 = ((z i % 998244353 : Nat) : Int)) := rfl
      generalize ((z i : Nat) : Int) = Z at *
      go_wp2_with fail
      go_roundw
      case rel =>
        refine ⟨i + 1, by omega, by go_num, ?_, hz.setOther (by omega), hW.setCell _ _, hS.setCell _ _ _ (by omega)⟩
        have := hR.step hlt _ HV.out
        rw [Nat.zero_add] at this
        exact this
      case measure => simp [intOf]; omega
    · go_wp2_with fail
      go_ret2
      exact ⟨k, n, B, by omega, HN.out, rfl, hB1, hR.done (by omega), hW, hS⟩

set_option maxRecDepth 20000 in
set_option maxHeartbeats 400000 in
theorem copyE_any (b off n cap : Nat) (x : Nat → Nat) (w : World) (hn : n ≤ 1099511627776) (hx : Rd .u32 w b off n x) :
    Calls Tajg.prog 40 #[.slice (some ⟨b, off, none⟩) n cap] w fun e w' =>
      ∃ B : Nat, e = .returned (.slice (some ⟨B, 0, none⟩) n n) ∧ w.heap.size ≤ B ∧ Rd .u32 w' B 0 n x ∧ Wr w' B 0 n ∧ Same w w' := by
  go_enter Tajg.func40, Tajg.ntmps40
  go_wp2_with (first
    | (at_make; refine wpList_mk n .u32 50 4 _ _ (by rfl) (by rfl) rfl rfl Tajg.underlying58 info50 (by omega) (by omega) ?_; intro B w2 hB1 hB2 hR hW hS)
    | (refine wpList_cp n .u32 50 (by rfl) (by rfl) (Nat.min_self n).symm (hx.same hS) hR hW Tajg.underlying58 size50 ?_; intro w3 hR3 hC3))
  go_ret
  refine ⟨B, rfl, hB1, hR3.done (Nat.le_refl _), hW.kept hC3 hB2, ?_⟩
  exact hS.trans_new hC3 (by omega)

set_option maxRecDepth 20000 in
set_option maxHeartbeats 400000 in
theorem sameElems_any (b off b' off' n cap cap' : Nat) (x : Nat → Nat) (w : World) (hn : n ≤ 1099511627776) (hx : Rd .u32 w b off n x) (hy : Rd .u32 w b' off' n x) :
    Calls Tajg.prog 42 #[.slice (some ⟨b, off, none⟩) n cap, .slice (some ⟨b', off', none⟩) n cap'] w fun e w' => e = .returned (.bool true) ∧ Same w w' := by
  go_enter Tajg.func42, Tajg.ntmps42
  go_wp2_with fail
  go_loopw [5] (fun i wr => Same w wr ∧ ∃ k : Nat, k ≤ n ∧ i = .int .i64 k) (fun i _ => n - (intOf i).toNat)
  case atStart => exact ⟨Chg.refl _ _, 0, Nat.zero_le _, rfl⟩
  case round =>
    obtain ⟨hs, k, hk, rfl⟩ := hrel
    by_cases hlt : k < n
    · have hc := (hx.same hs) k hlt
      have hc' := (hy.same hs) k hlt
      generalize ((x k : Nat) : Int) = v at *
      clear hx hy
      go_wp2_with fail
      refine Text.wp_text (by kernel_rfl) (by kernel_rfl) ⟨fun c a w h => by exact absurd h.2.1 (by simp), fun a w h => by exact absurd h.1 (by simp)⟩ ?_
      intro K hK
      go_wp2_with fail
      refine hK _ _ (by rfl) ?_
      go_wp2_with fail
      go_roundw
      case rel => exact ⟨hs.drew, k + 1, by omega, by go_num⟩
      case measure => simp [intOf]; omega
    · go_wp2_with fail
      go_ret
      exact ⟨rfl, hs⟩

/-- a slice of uint32 that came in, its elements as naturals. -/
theorem row_u32 {w : World} {x : Addr} {len cap : Nat} {zs : List Int} (hl : len ≤ cap) (hz : zs.length = cap) (hc : ∀ i, i < zs.length → w.cell? (x.add i) = some (.int .u32 (zs.getD i 0)))
    (hw : ∀ n ∈ zs, (Lit.int .u32 n).wf = true) (h1 : 1 ≤ len) : ∃ b off : Nat, x = ⟨b, off, none⟩ ∧ Rd .u32 w b off len (fun i => (zs.getD i 0).toNat) ∧ ∀ i, i < len → (zs.getD i 0).toNat < 4294967296 := by
  obtain ⟨b, off, sp⟩ := x
  have h0 := hc 0 (by omega)
  have hsp : sp = none := by
    cases sp with
    | none => rfl
    | some s =>
      exfalso
      simp only [Addr.add, if_true, World.cell?] at h0
      split at h0 <;> simp at h0
  subst hsp
  have hb : ∀ i, i < len → 0 ≤ zs.getD i 0 ∧ zs.getD i 0 ≤ 4294967295 := by
    intro i hi
    have hm : zs.getD i 0 ∈ zs := by
      rw [List.getD_eq_getElem?_getD, List.getElem?_eq_getElem (by omega)]
      exact List.getElem_mem _
    exact bounds_u32 (hw _ hm)
  refine ⟨b, off, rfl, fun i hi => ?_, fun i hi => by have := hb i hi; omega⟩
  have := hc i (by omega)
  rw [add_none] at this
  rw [this, Int.toNat_of_nonneg (hb i hi).1]
end Go.Proofs.Ygctaj.Ntt
