/- nat.Take, law.whole, walked. -/
import Derived.Test.YgctajLawNat
namespace Go.Proofs.Ygctaj.Nt
open Go.RowKit Mem
set_option linter.unusedVariables false

set_option maxRecDepth 20000 in
set_option maxHeartbeats 400000 in
theorem take_any (b off n cap N : Nat) (w : World) (hn : n ≤ 1024) (hv : Na w (.slice (some ⟨b, off, none⟩) n cap) n N) :
    Calls Tajg.prog 55 #[.slice (some ⟨b, off, none⟩) n cap] w fun e w' => ∃ v', e = .returned v' ∧ Nm w' v' N ∧ Fr w.heap.size w' v' ∧ Same w w' := by
  have hE := @run_eql_slice_nil Tajg.prog 24 _ Tajg.underlying24
  have hc : n ≤ cap := by obtain ⟨_, _, e, h, _⟩ := hv; cases e; exact h
  have hg : decide ((1024 : Int) < (n : Int)) = false := by simp; omega
  have hv2 : Na w (.slice (some ⟨b, off, none⟩) n n) n N := by
    obtain ⟨_, _, e, h, h2, h3⟩ := hv
    cases e
    exact ⟨_, n, rfl, Nat.le_refl _, h2, h3⟩
  go_enter Tajg.func55, Tajg.ntmps55
  go_wp2_with fail
  refine (trim_any _ n N w (by omega) hv2).mono ?_
  rintro e w1 ⟨⟨v', rfl, hv', -⟩, rfl⟩
  have hd : dl N ≤ 1024 := by have := dl_le _ _ hv2.lt; omega
  have HN : Hid (N < 256 ^ dl N) := lt_dl N
  rcases hv'.open with ⟨rfl, rfl⟩ | ⟨h0, b1, off1, cap1, rfl, hc1, hp, hr, -⟩
  · go_wp2_with fail
    go_ret
    exact ⟨_, rfl, Nm.nil _, Fr.nil _ _, Chg.refl _ _⟩
  · have HL : Hid (∀ w2 B, Rd .u8 w2 B 0 (dl N) (dg N) → Cl w2 B → Nm w2 (.slice (some ⟨B, 0, none⟩) (dl N) (dl N)) N) := fun w2 B h1 h2 => Nm.mk (lt_dl N) (Nat.le_refl _) h1 h2 rfl hp
    clear hv hv2 hv' h0 HN
    generalize dl N = m at *
    go_wp2_with (first
        | (at_make; refine wpList_mkc m .u8 5 1 _ _ (by rfl) (by rfl) rfl rfl Tajg.underlying24 info5 (by omega) (by omega) ?_; intro B w1 hB1 hB2 hRB hCB hs1)
        | (refine wpList_cp m .u8 5 (by rfl) (by rfl) (Nat.min_self m).symm (hr.same hs1) hRB (hCB.wr _ _) Tajg.underlying24 size5 ?_; intro w2 hR2 hC2))
    have hC2' := hCB.kept hC2 hB2
    have hS2 := hs1.trans_new hC2 (fun q o hq h => by obtain ⟨rfl, _⟩ := h; omega)
    go_ret
    exact ⟨_, rfl, HL.out _ _ (hR2.done (Nat.le_refl _)) hC2', Fr.mk hB1 (hC2'.wr _ _), hS2⟩

set_option maxRecDepth 20000 in
set_option maxHeartbeats 400000 in
theorem whole_any (V : Nat) (w : World) (hV : V < 18446744073709551616) :
    Calls Tajg.prog 24 #[.int .u64 (V : Int)] w fun e w' => ∃ v', e = .returned v' ∧ Nm w' v' V ∧ Fr w.heap.size w' v' ∧ Same w w' := by
  have HX : Hid (∀ i : Nat, (V : Int) / 2 ^ (8 * i) % 256 = ((dg V i : Nat) : Int)) := by
    intro i
    unfold dg
    rw [show (256 : Nat) ^ i = 2 ^ (8 * i) from by rw [Nat.pow_mul]]
    push_cast
    rfl
  have x0 : (0 : Int) ≤ (V : Int) := by omega
  have x1 : (V : Int) < 18446744073709551616 := by omega
  have HV : Hid (V < 256 ^ 8) := by show V < _; omega
  clear hV
  generalize hX : (V : Int) = X at *
  clear hX
  go_enter Tajg.func24, Tajg.ntmps24
  go_wp2_with fail
  have hRB : Rd .u8 (w.alloc (Obj.cells #[Value.int IntKind.u8 0, Value.int IntKind.u8 0, Value.int IntKind.u8 0, Value.int IntKind.u8 0, Value.int IntKind.u8 0, Value.int IntKind.u8 0, Value.int IntKind.u8 0, Value.int IntKind.u8 0] 74)) w.heap.size 0 8 (fun _ => 0) := by
    intro i hi
    rw [Nat.zero_add, World.cell?_alloc_new]
    have : i = 0 ∨ i = 1 ∨ i = 2 ∨ i = 3 ∨ i = 4 ∨ i = 5 ∨ i = 6 ∨ i = 7 := by omega
    rcases this with rfl | rfl | rfl | rfl | rfl | rfl | rfl | rfl <;> rfl
  have hCB : Cl (w.alloc (Obj.cells #[Value.int IntKind.u8 0, Value.int IntKind.u8 0, Value.int IntKind.u8 0, Value.int IntKind.u8 0, Value.int IntKind.u8 0, Value.int IntKind.u8 0, Value.int IntKind.u8 0, Value.int IntKind.u8 0] 74)) w.heap.size := fun o => by rw [World.frozen?_alloc_new]
  have hs1 : Same w (w.alloc (Obj.cells #[Value.int IntKind.u8 0, Value.int IntKind.u8 0, Value.int IntKind.u8 0, Value.int IntKind.u8 0, Value.int IntKind.u8 0, Value.int IntKind.u8 0, Value.int IntKind.u8 0, Value.int IntKind.u8 0] 74)) := (Chg.refl _ _).alloc _
  have hB1 : w.heap.size ≤ w.heap.size := Nat.le_refl _
  generalize w.alloc _ = w1 at *
  obtain ⟨B, hB⟩ : ∃ B, B = w.heap.size := ⟨_, rfl⟩
  rw [← hB] at hRB hCB ⊢
  have hB2 : w.heap.size ≤ B := by omega
  clear hB1 hB
  go_loopw [4] (fun i wr => ∃ j : Nat, j ≤ 8 ∧ i = .int .i64 (j : Int) ∧ Rd .u8 wr B 0 8 (mix j (dg V) (fun _ => 0)) ∧ Cl wr B ∧ Same w wr) (fun i _ => (8 - intOf i).toNat)
  case atStart => exact ⟨0, by omega, rfl, hRB.start _, hCB, hs1⟩
  case round =>
    clear hRB hCB hs1
    obtain ⟨j, hj, rfl, hR, hC, hS⟩ := hrel
    by_cases h0 : j = 8
    · subst h0
      go_wp2_with fail
      have hna : Na wr (.slice (some ⟨B, 0, none⟩) 8 8) 8 V := ⟨_, 8, rfl, Nat.le_refl _, HV.out, fun _ => ⟨B, 0, rfl, hR.done (Nat.le_refl _), hC⟩⟩
      refine (take_any B 0 8 8 V _ (by omega) hna).mono ?_
      rintro e w2 ⟨v', rfl, hv', hf, hs2⟩
      go_wp2_with fail
      go_ret
      exact ⟨_, rfl, hv', hf.mono hS.size, hS.trans hs2⟩
    · have c1 := hR.at (j := j) (by omega)
      have c2 := hC (0 + j)
      rw [Nat.zero_add] at c1 c2
      have hlt : j < 8 := by omega
      have e8 : (8 : Int) * (j : Int) = ((8 * j : Nat) : Int) := by omega
      have hs8 : 8 * j < 64 := by omega
      have HJ := HX.out j
      generalize 8 * j = s at *
      go_wp2_with fail
      go_roundw
      case rel =>
        have h2 := hR.step (by omega) _ rfl
        rw [Nat.zero_add] at h2
        exact ⟨j + 1, by omega, by go_num, h2, hC.setCell _ _, hS.setCell B _ _ (fun h => absurd h (by omega))⟩
      case measure => simp [intOf]; omega
end Go.Proofs.Ygctaj.Nt
