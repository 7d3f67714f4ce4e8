/- '&a[0] == &b[0]', of blocks of which no cell is frozen. -/
import Derived.Test.YgctajClean
import Derived.LaidEqlPtr
namespace Go.Proofs.Ygctaj.Mem
open Go.RowKit
set_option linter.unusedVariables false

theorem cells_of {w : World} {b o : Nat} {v : Value} (h : w.cell? ⟨b, o, none⟩ = some v) : ∃ cs t lo hi, w.heap[b]? = some (.cells cs t (lo, hi)) ∧ 0 < cs.size := by
  unfold World.cell? at h
  split at h
  · rename_i cs t f heq
    simp at h
    obtain ⟨h1, h2⟩ := Array.getElem?_eq_some_iff.1 h
    exact ⟨cs, t, f.1, f.2, heq, by omega⟩
  · cases h

theorem run_sameAddr_clean {P : Program} (w : World) {b o b' o' : Nat} {v v' : Value} (h : w.cell? ⟨b, o, none⟩ = some v) (h' : w.cell? ⟨b', o', none⟩ = some v') (hc : Cl w b) (hne : b ≠ b') :
    (sameAddr ⟨b, o, none⟩ ⟨b', o', none⟩).run P w = .ok false w := by
  obtain ⟨cs, t, lo, hi, he, hs⟩ := cells_of h
  obtain ⟨cs', t', lo', hi', he', hs'⟩ := cells_of h'
  have h1 : (decide (lo ≤ o) && decide (o < hi)) = false := by have := hc o; simp only [World.frozen?, he] at this; exact this
  have h2 : (decide (lo ≤ cs.size) && decide (cs.size < hi)) = false := by have := hc cs.size; simp only [World.frozen?, he] at this; exact this
  have n1 : cs.size ≠ 0 := by omega
  have n2 : cs'.size ≠ 0 := by omega
  simp [sameAddr, hne, World.frozen?, he, he', h1, h2, noView, viewAt, World.shape?, mayBeOne, stringish]
  obtain ⟨z, hz⟩ : ∃ z, cs'.size = z + 1 := ⟨cs'.size - 1, by omega⟩
  rw [hz]
  simp

/-- '==' of two pointers to cells of clean blocks. -/
theorem run_eql_clean {P : Program} {tp te : TypeId} {sz : Nat} (w : World) {b o b' o' : Nat} {v v' : Value} (hp : P.underlying tp = some (.pointer te)) (hte : (P.info? te).map (fun i => i.size) = some (sz + 1))
    (h : w.cell? ⟨b, o, none⟩ = some v) (h' : w.cell? ⟨b', o', none⟩ = some v') (hc : Cl w b) :
    (binOp .eql tp (.pointer (some ⟨b, o, none⟩)) (.pointer (some ⟨b', o', none⟩))).run P w = .ok (.bool (decide (b = b' ∧ o = o'))) w := by
  obtain ⟨j, hj, hjs⟩ := Option.map_eq_some_iff.1 hte
  have hsa : (sameAddr ⟨b, o, none⟩ ⟨b', o', none⟩).run P w = .ok (decide (b = b' ∧ o = o')) w := by
    by_cases e : b = b'
    · subst e
      by_cases e2 : o = o'
      · subst e2; simp [sameAddr]
      · simp [sameAddr, e2]
    · rw [run_sameAddr_clean w h h' hc e]; simp [e]
  have hq : ∀ d : Nat, (Op.equalIn (d + 1) tp (.pointer (some ⟨b, o, none⟩)) (.pointer (some ⟨b', o', none⟩))).run P w = .ok (decide (b = b' ∧ o = o')) w := fun d => by
    simp [Op.equalIn, run_underlying hp, sizeOf, typeInfo, hj, hjs, hsa]
  simp only [binOp]
  simp [Op.equal, Op.maxDepth, hq 9999]
end Go.Proofs.Ygctaj.Mem
