import Derived.Test.YgctajLawNtt
import Derived.Test.YgctajConv
namespace Go.Proofs.Ygctaj.Mem
open Go.RowKit
/-- v is a slice of n integers of kind k, x 0, x 1, ..; (of none: whatever its address). -/
def Sl (k : IntKind) (w : World) (v : Value) (n : Nat) (x : Nat → Nat) : Prop :=
  ∃ a cap, v = .slice a n cap ∧ n ≤ cap ∧ (0 < n → ∃ b off, a = some ⟨b, off, none⟩ ∧ Rd k w b off n x)

theorem Sl.same {k : IntKind} {w w' : World} {v : Value} {n : Nat} {x : Nat → Nat} (h : Sl k w v n x) (hs : Same w w') : Sl k w' v n x := by
  obtain ⟨a, cap, rfl, hc, h⟩ := h
  refine ⟨a, cap, rfl, hc, fun hn => ?_⟩
  obtain ⟨b, off, e, hr⟩ := h hn
  exact ⟨b, off, e, hr.same hs⟩
end Go.Proofs.Ygctaj.Mem

namespace Go.Proofs.Ygctaj.Ntt
open Go.RowKit Mem Dft
set_option linter.unusedVariables false

theorem info2 : (Tajg.prog.info? 2).map (fun i => (i.zero, i.size, i.bytes)) = some (some (.int .i64 0), 1, 8) := by kernel_rfl

set_option maxRecDepth 20000 in
set_option maxHeartbeats 400000 in
theorem digits_any (v : Value) (n lim : Nat) (x : Nat → Nat) (w : World) (hn : n ≤ 9223372036854775807) (h0 : 0 < lim) (hl : lim ≤ 1000000) (hv : Sl .u8 w v n x) :
    Calls Tajg.prog 16 #[v, .int .i64 (lim : Int)] w fun e w' => (∃ v', e = .returned v' ∧ Sl .u8 w v' (min n lim) x) ∧ w' = w := by
  obtain ⟨a, cap, rfl, hc, hr⟩ := hv
  by_cases h : n ≤ lim
  · have HS : Hid (Sl .u8 w (.slice a n cap) (min n lim) x) := by rw [Nat.min_eq_left h]; exact ⟨a, cap, rfl, hc, hr⟩
    clear hr
    go_enter Tajg.func16, Tajg.ntmps16
    go_wp2_with fail
    go_ret
    exact ⟨⟨_, rfl, HS.out⟩, rfl⟩
  · obtain ⟨b, off, rfl, hr2⟩ := hr (by omega)
    have HS : Hid (Sl .u8 w (.slice (some ⟨b, off, none⟩) lim lim) (min n lim) x) := by
      rw [Nat.min_eq_right (by omega)]
      exact ⟨_, lim, rfl, Nat.le_refl _, fun _ => ⟨b, off, rfl, fun i hi => hr2 i (by omega)⟩⟩
    clear hr hr2
    go_enter Tajg.func16, Tajg.ntmps16
    go_wp2_with fail
    go_ret
    exact ⟨⟨_, rfl, HS.out⟩, rfl⟩

set_option maxRecDepth 20000 in
set_option maxHeartbeats 400000 in
theorem elems_any (b off la cap n : Nat) (x : Nat → Nat) (w : World) (hn : n ≤ 1099511627776) (hl : la ≤ n) (h1 : 1 ≤ la) (hx : Rd .u8 w b off la x) (hxl : ∀ i, i < la → x i < 256) :
    Calls Tajg.prog 84 #[.slice (some ⟨b, off, none⟩) la cap, .int .i64 (n : Int)] w fun e w' =>
      ∃ B : Nat, e = .returned (.slice (some ⟨B, 0, none⟩) n n) ∧ w.heap.size ≤ B ∧ Rd .u32 w' B 0 n (fun i => if i < la then x i else 0) ∧ Wr w' B 0 n ∧ Same w w' := by
  have hb := hx.lt (by omega)
  go_enter Tajg.func84, Tajg.ntmps84
  go_wp2_with (at_make; refine wpList_mk n .u32 50 4 _ _ (by rfl) (by rfl) rfl rfl Tajg.underlying58 info50 (by omega) (by omega) ?_; intro B w2 hB1 hB2 hR hW hS)
  have hx2 := hx.same hS
  clear hx
  go_loopw [6] (fun i wr => ∃ i' : Nat, i' ≤ la ∧ i = .int .i64 i' ∧ Rd .u32 wr B 0 n (mix i' x (fun _ => 0)) ∧ Rd .u8 wr b off la x ∧ Wr wr B 0 n ∧ Same w wr) (fun i _ => la - (intOf i).toNat)
  case atStart => exact ⟨0, Nat.zero_le _, rfl, hR.start _, hx2, hW, hS⟩
  case round =>
    clear hx2 hR hW hS
    obtain ⟨i, hi, rfl, hR, hx, hW, hS⟩ := hrel
    by_cases hlt : i < la
    · have ci := hx i hlt
      have di := hR.at (show i < n by omega)
      rw [Nat.zero_add] at di
      have fi := hW i (by omega)
      rw [Nat.zero_add] at fi
      have bx0 : 0 ≤ ((x i : Nat) : Int) := by omega
      have bx1 : ((x i : Nat) : Int) < 256 := by have := hxl i hlt; omega
      have HST : Hid (Rd .u32 (wr.setCell ⟨B, i, none⟩ (.int .u32 ((x i : Nat) : Int))) B 0 n (mix (i + 1) x (fun _ => 0))) := by
        have := hR.step (show i < n by omega) _ rfl
        rw [Nat.zero_add] at this
        exact this
      generalize ((x i : Nat) : Int) = X at *
      go_wp2_with fail
      go_roundw
      case rel => exact ⟨i + 1, by omega, by go_num, HST.out, hx.setOther (by omega), hW.setCell _ _, hS.setCell _ _ _ (by omega)⟩
      case measure => simp [intOf]; omega
    · go_wp2_with fail
      go_ret
      refine ⟨B, rfl, hB1, hR.congr fun j hj => ?_, hW, hS⟩
      have e : i = la := by omega
      subst e
      rfl

set_option maxRecDepth 20000 in
set_option maxHeartbeats 400000 in
theorem sameInts_any (b off b' off' n cap cap' : Nat) (x : Nat → Nat) (w : World) (hn : n ≤ 1099511627776) (hx : Rd .i64 w b off n x) (hy : Rd .i64 w b' off' n x) :
    Calls Tajg.prog 85 #[.slice (some ⟨b, off, none⟩) n cap, .slice (some ⟨b', off', none⟩) n cap'] w fun e w' => e = .returned (.bool true) ∧ Same w w' := by
  have hE := @run_eql_slice_nil Tajg.prog 66 _ Tajg.underlying66
  go_enter Tajg.func85, Tajg.ntmps85
  go_wp2_with fail
  go_loopw [5] (fun i wr => Same w wr ∧ ∃ k : Nat, k ≤ n ∧ i = .int .i64 k) (fun i _ => n - (intOf i).toNat)
  case atStart => exact ⟨Chg.refl _ _, 0, Nat.zero_le _, rfl⟩
  case round =>
    obtain ⟨hs, k, hk, rfl⟩ := hrel
    by_cases hlt : k < n
    · have hc := (hx.same hs) k hlt
      have hc' := (hy.same hs) k hlt
      generalize ((x k : Nat) : Int) = v at *
      clear hx hy
      go_wp2_with fail
      refine Text.wp_text (by kernel_rfl) (by kernel_rfl) ⟨fun c a w h => by exact absurd h.2.1 (by simp), fun a w h => by exact absurd h.1 (by simp)⟩ ?_
      intro K hK
      go_wp2_with fail
      refine hK _ _ (by rfl) ?_
      go_wp2_with fail
      go_roundw
      case rel => exact ⟨hs.drew, k + 1, by omega, by go_num⟩
      case measure => simp [intOf]; omega
    · go_wp2_with fail
      go_ret
      exact ⟨rfl, hs⟩

set_option maxRecDepth 20000 in
set_option maxHeartbeats 400000 in
theorem sameInts_nil (w : World) :
    Calls Tajg.prog 85 #[.slice none 0 0, .slice none 0 0] w fun e w' => e = .returned (.bool true) ∧ Same w w' := by
  have hE := @run_eql_slice_nil Tajg.prog 66 _ Tajg.underlying66
  go_enter Tajg.func85, Tajg.ntmps85
  go_wp2_with fail
  go_loop [5] (fun i => i = .int .i64 0) (fun i => 0)
  case atStart => rfl
  case round =>
    subst hrel
    go_wp2_with fail
    go_ret
    exact ⟨rfl, Chg.refl _ _⟩
end Go.Proofs.Ygctaj.Ntt
