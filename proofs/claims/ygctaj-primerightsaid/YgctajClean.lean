/- Blocks of which no cell is frozen. -/
import Derived.Test.YgctajLaws
namespace Go.Proofs.Ygctaj.Mem
open Go.RowKit
set_option linter.unusedVariables false

/-- no cell of block b is frozen. -/
def Cl (w : World) (b : Nat) : Prop := ∀ o, w.frozen? ⟨b, o, none⟩ = false
theorem Cl.wr {w : World} {b : Nat} (h : Cl w b) (off n : Nat) : Wr w b off n := fun i _ => h (off + i)
theorem Cl.setCell {w : World} {b : Nat} (h : Cl w b) (p : Addr) (v : Value) : Cl (w.setCell p v) b := by
  intro o; rw [World.frozen?_setCell]; exact h o
theorem Cl.drew {w : World} {b : Nat} (h : Cl w b) : Cl w.drew b := h
theorem Cl.kept {may : Nat → Nat → Prop} {w w' : World} {b : Nat} (h : Cl w b) (hc : Chg may w w') (hb : b < w.heap.size) : Cl w' b := by
  intro o; rw [hc.frozen b o hb]; exact h o

/-- 'make([]T, n)', T an integer's type; the new block is clean. -/
theorem wpList_mkc {P : Program} {ops : Array Oper} {Q : Exit → Act → World → Prop} {d : Option Tmp} {t ty : TypeId} {p : String} {af : Array Edge} {rest : List Oper} {a : Act} {w : World} {l c : Operand}
    (n : Nat) (k : IntKind) (e : TypeId) (bs : Nat) (L C : Int) (hl : a.eval l = .int .i64 L) (hc : a.eval c = .int .i64 C) (hL : L = (n : Int)) (hC : C = (n : Int))
    (hu : P.underlying t = some (.slice e)) (hi : (P.info? e).map (fun i => (i.zero, i.size, i.bytes)) = some (some (.int k 0), 1, bs))
    (hb : bs * n ≤ 281474976710656) (h63 : n ≤ 9223372036854775807)
    (h : ∀ (B : Nat) (w' : World), w.heap.size ≤ B → B < w'.heap.size → Rd k w' B 0 n (fun _ => 0) → Cl w' B → Same w w' → wpList P ops Q rest (a.put d (.slice (some ⟨B, 0, none⟩) n n)) w') :
    wpList P ops Q ({ dst := d, op := .makeSlice t l c, type := ty, pos := p, after := af, guard := none } :: rest) a w := by
  refine wpList_plain rfl fun K hK => ?_
  obtain ⟨i, hi1, hi2⟩ := Option.map_eq_some_iff.1 hi
  simp only [Prod.mk.injEq] at hi2
  obtain ⟨hz, hs, hby⟩ := hi2
  subst hL hC
  have hr := run_make (P := P) w t e i (.int k 0) hu hi1 hz .i64 .i64 n n (by omega) (Int.le_refl _) (by rw [hby, ← Int.natCast_mul]; omega) (by omega)
  rw [Int.toNat_natCast, hs, Nat.mul_one] at hr
  unfold Oper.wp
  simp [execOp, hl, hc, hr, Result.andThen, Oper.upon]
  refine hK _ _ (h w.heap.size _ (Nat.le_refl _) (by simp) ?_ ?_ ((Chg.refl _ _).alloc _))
  · intro j hj
    rw [Nat.zero_add, World.cell?_alloc_new]
    exact madeCells_int k n j hj
  · intro o
    rw [World.frozen?_alloc_new]
end Go.Proofs.Ygctaj.Mem
