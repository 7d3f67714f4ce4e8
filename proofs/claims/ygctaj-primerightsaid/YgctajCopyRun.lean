/- copy, as an equation of its run. -/
import Derived.Test.YgctajClean
namespace Go.Proofs.Ygctaj.Mem
open Go.RowKit
set_option linter.unusedVariables false

theorem run_cp (m : Nat) {w : World} {b off dl dc bs offs sl sc : Nat} {xs ys : Nat → Nat} (hm : m = Nat.min sl dl) (hx : Rd .u8 w bs offs sl xs) (hy : Rd .u8 w b off dl ys) (hw : Wr w b off dl) :
    ∃ w', Sem.run Tajg.prog (Builtin.copy_ #[24, 24] 3 #[.slice (some ⟨b, off, none⟩) dl dc, .slice (some ⟨bs, offs, none⟩) sl sc]) w = .ok (.int .i64 (m : Int)) w' ∧ Rd .u8 w' b off dl (mix m xs ys) ∧ Chg (fun q o => q = b ∧ off ≤ o ∧ o < off + m) w w' := by
  have hu := Tajg.underlying24
  have hi : (Tajg.prog.info? 5).map (fun i => i.size) = some 1 := by kernel_rfl
  have hmd : m ≤ dl := by rw [hm]; exact Nat.min_le_right _ _
  have hms : m ≤ sl := by rw [hm]; exact Nat.min_le_left _ _
  have hlen : ((List.range m).map fun j => Value.int .u8 ((xs j : Nat) : Int)).length = m := by simp
  have hrun := run_copy_cells (P := Tajg.prog) w 24 24 3 5 b off dl dc ⟨bs, offs, none⟩ sl sc ((List.range m).map fun j => Value.int .u8 ((xs j : Nat) : Int)) hu hi (by rw [hlen]; exact hm)
    (fun j v hj => by
      have hjm : j < m := by
        rcases Nat.lt_or_ge j m with h' | h'
        · exact h'
        · rw [List.getElem?_eq_none (by rw [hlen]; exact h')] at hj; cases hj
      rw [List.getElem?_map, List.getElem?_range hjm] at hj
      simp at hj
      subst hj
      rw [add_none]; exact hx j (by omega))
    (fun j hj => by rw [hlen] at hj; rw [hy j (by omega)]; rfl) (fun j hj => by rw [hlen] at hj; exact hw j (by omega)) (fun v hv => by
      obtain ⟨j, _, rfl⟩ := List.mem_map.1 hv
      rfl)
  rw [hlen] at hrun
  refine ⟨_, hrun, ?_, ?_⟩
  · intro j hj
    by_cases hjm : j < m
    · have := World.cell?_setCells_in b ((List.range m).map fun j => Value.int .u8 ((xs j : Nat) : Int)) off w (fun j hj => by rw [hlen] at hj; rw [hy j (by omega)]; rfl) j (by rw [hlen]; exact hjm)
      rw [this, mix_lt _ _ hjm]; simp
    · rw [World.cell?_setCells_out b _ off w _ (fun _ _ => .inr (by rw [hlen]; simp; omega)), mix_ge _ _ (by omega)]
      exact hy j hj
  · exact Chg.setCells b _ off w (Chg.refl _ _) fun j hj _ => by rw [hlen] at hj; omega

theorem run_cp0 (w : World) {dp sp : Option Addr} {dl dc sl sc : Nat} (hn : Nat.min sl dl = 0) :
    Sem.run Tajg.prog (Builtin.copy_ #[24, 24] 3 #[.slice dp dl dc, .slice sp sl sc]) w = .ok (.int .i64 0) w := by
  have hu := Tajg.underlying24
  have hi : (Tajg.prog.info? 5).map (fun i => i.size) = some 1 := by kernel_rfl
  exact run_copy_none (P := Tajg.prog) w 24 24 3 5 dp sp dl dc sl sc hu hi hn
end Go.Proofs.Ygctaj.Mem
