/- a row of naturals (a slice of slices), and append to it. -/
import Derived.Test.YgctajNatMem
import Derived.Test.YgctajFactPlain
import Derived.Deep.AppendLies
namespace Go.Proofs.Ygctaj.Nt
open Go.RowKit Mem
set_option linter.unusedVariables false

theorem info24 : (Tajg.prog.info? 24).map (fun i => (i.zero, i.size, i.bytes)) = some (some (.slice none 0 0), 1, 24) := by kernel_rfl

/-- v lies in another block than row. -/
def Off (v row : Value) : Prop := v.ownBlock = none ∨ v.ownBlock ≠ row.ownBlock

/-- v is a row of k naturals N 0, N 1, ..: the slices x 0, x 1, ... -/
def RowOf (B : Nat) (w : World) (v : Value) (k : Nat) (x : Nat → Value) (N : Nat → Nat) : Prop :=
  w.ownsRow B 24 1 v k ((List.range k).map x) ∧ ∀ i, i < k → Nm w (x i) (N i) ∧ Off (x i) v

theorem Nm.blk {w : World} {v : Value} {N : Nat} (h : Nm w v N) : ∀ b, v.ownBlock = some b → b < w.heap.size := by
  intro b hb
  rcases h.open with ⟨_, rfl⟩ | ⟨_, b', off, cap, rfl, _, hp, hr, _⟩
  · simp [Value.ownBlock] at hb
  · simp [Value.ownBlock] at hb
    subst hb; exact hr.lt hp
theorem Nm.grown {w w' : World} {v : Value} {N : Nat} {row : Option Nat} (h : Nm w v N) (hg : w.grownBy w' row) (ho : v.ownBlock = none ∨ v.ownBlock ≠ row) : Nm w' v N := by
  rcases h.open with ⟨rfl, rfl⟩ | ⟨h0, b, off, cap, rfl, hc, hp, hr, hcl⟩
  · exact Nm.nil _
  · have hlt := hr.lt hp
    have hne : some b ≠ row := by
      rcases ho with ho | ho
      · simp [Value.ownBlock] at ho
      · exact ho
    refine Nm.mk (lt_dl N) hc ?_ ?_ rfl hp
    · intro i hi
      rw [hg.cell_far ⟨b, off + i, none⟩ hlt hne]; exact hr i hi
    · intro o
      rw [hg.frozen_far ⟨b, o, none⟩ hlt hne]; exact hcl o
theorem Same.grown {w0 w w' : World} {row : Option Nat} (h : Same w0 w) (hg : w.grownBy w' row) (hr : ∀ g, row = some g → w0.heap.size ≤ g) : Same w0 w' := by
  have hb : ∀ k, k < w0.heap.size → w'.heap[k]? = w.heap[k]? := fun k hk => hg.block k (Nat.lt_of_lt_of_le hk h.size) (by intro e; have := hr k e.symm; omega)
  exact ⟨hg.os.trans h.os, hg.tape.trans h.tape, hg.output.trans h.output, Nat.le_trans h.size hg.size,
    fun k hk hm => (hb k hk).trans (h.block k hk hm),
    fun k o hk hm => (World.cell?_of_block (w := w) (w' := w') (a := ⟨k, o, none⟩) (hb k hk)).trans (h.cell k o hk hm),
    fun k o hk => (World.frozen?_of_block (w := w) (w' := w') (a := ⟨k, o, none⟩) (hb k hk)).trans (h.frozen k o hk)⟩

theorem RowOf.blk {B : Nat} {w : World} {v : Value} {k : Nat} {x : Nat → Value} {N : Nat → Nat} (h : RowOf B w v k x N) : ∀ b, v.ownBlock = some b → B ≤ b ∧ b < w.heap.size := by
  intro b hb
  rcases h.1.2 with ⟨rfl, _⟩ | ⟨g, cap, cur, rfl, hB, hg, _⟩
  · simp [Value.ownBlock] at hb
  · simp [Value.ownBlock] at hb
    subst hb
    refine ⟨hB, ?_⟩
    rcases Nat.lt_or_ge g w.heap.size with h' | h'
    · exact h'
    · rw [Array.getElem?_eq_none h'] at hg; cases hg
theorem RowOf.kept {B : Nat} {w w' : World} {v : Value} {k : Nat} {x : Nat → Value} {N : Nat → Nat} (h : RowOf B w v k x N) (hb : ∀ g, v.ownBlock = some g → w'.heap[g]? = w.heap[g]?) (hn : ∀ i, i < k → Nm w' (x i) (N i)) : RowOf B w' v k x N := by
  refine ⟨⟨h.1.1, ?_⟩, fun i hi => ⟨hn i hi, (h.2 i hi).2⟩⟩
  rcases h.1.2 with h1 | ⟨g, cap, cur, rfl, hB, hg, h2⟩
  · exact .inl h1
  · exact .inr ⟨g, cap, cur, rfl, hB, by rw [hb g rfl]; exact hg, h2⟩
theorem RowOf.same {B : Nat} {w w' : World} {v : Value} {k : Nat} {x : Nat → Value} {N : Nat → Nat} (h : RowOf B w v k x N) (hs : Same w w') : RowOf B w' v k x N :=
  h.kept (fun g hg => hs.block g (h.blk g hg).2 (fun _ h => h)) fun i hi => (h.2 i hi).1.same hs
theorem RowOf.grown {B : Nat} {w w' : World} {v v2 : Value} {k : Nat} {x : Nat → Value} {N : Nat → Nat} (h : RowOf B w v k x N) (hg : w.grownBy w' v2.ownBlock) (hv : Off v v2) (hx : ∀ i, i < k → Off (x i) v2) : RowOf B w' v k x N :=
  h.kept (fun g hg' => hg.block g (h.blk g hg').2 (by
    rcases hv with h1 | h1
    · rw [h1] at hg'; cases hg'
    · rw [← hg']; exact h1)) fun i hi => (h.2 i hi).1.grown hg (hx i hi)
theorem RowOf.nil (B : Nat) (w : World) (x : Nat → Value) (N : Nat → Nat) : RowOf B w (.slice none 0 0) 0 x N :=
  ⟨⟨rfl, .inl ⟨rfl, rfl⟩⟩, fun i hi => absurd hi (by omega)⟩
theorem RowOf.at {B : Nat} {w : World} {v : Value} {k : Nat} {x : Nat → Value} {N : Nat → Nat} (h : RowOf B w v k x N) (hk : 0 < k) :
    ∃ g cap, v = .slice (some ⟨g, 0, none⟩) k cap ∧ k ≤ cap ∧ ∀ i, i < k → w.cell? ⟨g, i, none⟩ = some (x i) := by
  rcases h.1.2 with ⟨rfl, e⟩ | ⟨g, cap, cur, rfl, hB, hg, hc, _, hs, ht⟩
  · omega
  · refine ⟨g, cap, rfl, hc, fun i hi => ?_⟩
    unfold World.cell?
    rw [hg]
    have h1 : (cur.toList.take (k * 1))[i]? = some (x i) := by
      rw [ht]; simp [hi]
    rw [List.getElem?_take_of_lt (by omega)] at h1
    simpa using h1

theorem set_upd {α : Type} (x : Nat → α) (k : Nat) (y : α) : (List.range (k + 1)).map (fun i => if i = k then y else x i) = (List.range k).map x ++ [y] := by
  rw [List.range_succ, List.map_append]
  congr 1
  · apply List.map_congr_left
    intro i hi
    rw [List.mem_range] at hi
    rw [if_neg (by omega)]
  · simp

/-- what append leaves. -/
theorem RowOf.snoc {B : Nat} {w w' : World} {v y : Value} {k g cap Y : Nat} {x : Nat → Value} {N : Nat → Nat} (h : RowOf B w v k x N) (hy : Nm w y Y) (ho : Off y v)
    (h1 : w'.ownsRow B 24 1 (.slice (some ⟨g, 0, none⟩) (k + 1) cap) (k + 1) ((List.range k).map x ++ [y])) (hg : w.grownBy w' v.ownBlock) (hl : v.ownBlock = some g ∨ g = w.heap.size) :
    RowOf B w' (.slice (some ⟨g, 0, none⟩) (k + 1) cap) (k + 1) (fun i => if i = k then y else x i) (fun i => if i = k then Y else N i) := by
  have key : ∀ (u : Value) (U : Nat), Nm w u U → Off u v → Nm w' u U ∧ Off u (.slice (some ⟨g, 0, none⟩) (k + 1) cap) := by
    intro u U hu hou
    refine ⟨hu.grown hg hou, ?_⟩
    rcases hl with hl | hl
    · rcases hou with h2 | h2
      · exact .inl h2
      · exact .inr (by rw [hl] at h2; exact h2)
    · by_cases h3 : u.ownBlock = none
      · exact .inl h3
      · refine .inr fun e => ?_
        have := hu.blk g e
        omega
  refine ⟨by rw [set_upd]; exact h1, fun i hi => ?_⟩
  by_cases e : i = k
  · subst e; simp only [if_true]; exact key y Y hy ho
  · simp only [if_neg e]; exact key _ _ (h.2 i (by omega)).1 (h.2 i (by omega)).2

theorem pr_snoc (N : Nat → Nat) (k Y : Nat) : pr (fun i => if i = k then Y else N i) (k + 1) = pr N k * Y := by
  show pr _ k * _ = _
  rw [pr_congr _ N k (fun i hi => if_neg (by omega))]
  simp
end Go.Proofs.Ygctaj.Nt
