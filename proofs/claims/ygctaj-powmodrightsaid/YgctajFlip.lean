/- law.flip, walked; '!= nil'. -/
import Derived.Test.YgctajLawNat
namespace Go.Proofs.Ygctaj.Nt
open Go.RowKit Mem
set_option linter.unusedVariables false

/-- 's != nil' of a slice. -/
theorem run_neq_slice_nil {P : Program} {t e : TypeId} (h : P.underlying t = some (.slice e)) (a : Option Addr) (l c : Nat) (w : World) : (binOp .neq t (.slice a l c) (.slice none 0 0)).run P w = .ok (.bool (!a.isNone)) w := by
  simp only [binOp]
  simp [run_equal_slice_nil w t e a l c h]

set_option maxRecDepth 20000 in
set_option maxHeartbeats 400000 in
theorem flip_any (v : Value) (N B : Nat) (w : World) (hn : dl N ≤ 100000) (hv : Nm w v N) (hf : Fr B w v) :
    Calls Tajg.prog 27 #[v] w fun e w' => (∃ u, e = .returned u) ∧ Chg (fun q _ => B ≤ q) w w' := by
  rcases hv.open with ⟨rfl, rfl⟩ | ⟨h0, b, off, cap, rfl, hc, hp, hr, hcl⟩
  · go_enter Tajg.func27, Tajg.ntmps27
    go_wp2_with fail
    go_loopw [2] (fun i wr => i = .int .i64 0 ∧ wr = w) (fun _ _ => 0)
    case atStart => exact ⟨rfl, rfl⟩
    case round =>
      obtain ⟨rfl, rfl⟩ := hrel
      go_wp2_with fail
      go_end0
      exact ⟨⟨_, rfl⟩, Chg.refl _ _⟩
  · have hB : B ≤ b := (hf b off none _ cap rfl).1
    have HR : Hid (Rd .u8 w b off (dl N) (dg N)) := hr
    clear hv hf hr
    generalize dl N = n at *
    go_enter Tajg.func27, Tajg.ntmps27
    go_wp2_with fail
    go_loopw [2] (fun i wr => ∃ j : Nat, j ≤ n ∧ i = .int .i64 (j : Int) ∧ (∀ k, j ≤ k → k < n → wr.cell? ⟨b, off + k, none⟩ = some (.int .u8 ((dg N k : Nat) : Int))) ∧ Cl wr b ∧ Chg (fun q _ => B ≤ q) w wr) (fun i _ => (n - intOf i).toNat)
    case atStart => exact ⟨0, by omega, rfl, fun k _ hk => HR.out k hk, hcl, Chg.refl _ _⟩
    case round =>
      obtain ⟨j, hj, rfl, hk, hC, hCg⟩ := hrel
      by_cases hjn : j = n
      · subst hjn
        go_wp2_with fail
        go_end0
        exact ⟨⟨_, rfl⟩, hCg⟩
      · have hlt : j < n := by omega
        have c1 := hk j (Nat.le_refl _) hlt
        have c2 := hC (off + j)
        have d1 := dg_lt N j
        have z0 : 0 ≤ ((dg N j : Nat) : Int) := by omega
        have z1 : ((dg N j : Nat) : Int) < 256 := by omega
        have HK : Hid (∀ k, j ≤ k → k < n → wr.cell? ⟨b, off + k, none⟩ = some (.int .u8 ((dg N k : Nat) : Int))) := hk
        clear hk d1
        generalize ((dg N j : Nat) : Int) = D at *
        go_wp2_with fail
        go_roundw
        case rel =>
          refine ⟨j + 1, by omega, by go_num, fun k h1 h2 => ?_, hC.setCell _ _, hCg.setCell _ _ _ (fun _ => hB)⟩
          rw [World.cell?_setCell_other _ _ _ _ (by intro e; injection e with _ e2; omega)]
          exact HK.out k (by omega) h2
        case measure => simp [intOf]; omega
end Go.Proofs.Ygctaj.Nt
