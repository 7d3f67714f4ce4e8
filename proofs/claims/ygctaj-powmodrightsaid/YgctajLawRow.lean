/- a slice of digits that came in. -/
import Derived.Test.YgctajLawNat
namespace Go.Proofs.Ygctaj.Nt
open Go.RowKit Mem
set_option linter.unusedVariables false

/-- a slice of uint8 that came in, its elements as naturals. -/
theorem row_u8 {w : World} {a : Option Addr} {len cap : Nat} {zs : List Int} (h : IsRow .u8 w a len cap zs) :
    len ≤ 9223372036854775807 ∧ Sl .u8 w (.slice a len cap) len (fun i => (zs.getD i 0).toNat) ∧ ∀ i, i < len → (zs.getD i 0).toNat < 256 := by
  rcases h with ⟨rfl, rfl, rfl, rfl⟩ | ⟨x, rfl, hl, hm, hz, hc, hw⟩
  · exact ⟨by omega, ⟨none, 0, rfl, by omega, fun h => by omega⟩, fun i hi => by omega⟩
  · have hb : ∀ i, i < len → 0 ≤ zs.getD i 0 ∧ zs.getD i 0 ≤ 255 := by
      intro i hi
      have hm : zs.getD i 0 ∈ zs := by
        rw [List.getD_eq_getElem?_getD, List.getElem?_eq_getElem (by omega)]
        exact List.getElem_mem _
      exact bounds_u8 (hw _ hm)
    refine ⟨by unfold maxLen at hm; omega, ⟨_, cap, rfl, hl, fun h1 => ?_⟩, fun i hi => by have := hb i hi; omega⟩
    obtain ⟨b, off, sp⟩ := x
    have h0 := hc 0 (by omega)
    have hsp : sp = none := by
      cases sp with
      | none => rfl
      | some s =>
        exfalso
        simp only [Addr.add, if_true, World.cell?] at h0
        split at h0 <;> simp at h0
    subst hsp
    refine ⟨b, off, rfl, fun i hi => ?_⟩
    have := hc i (by omega)
    rw [add_none] at this
    rw [this, Int.toNat_of_nonneg (hb i hi).1]
end Go.Proofs.Ygctaj.Nt
