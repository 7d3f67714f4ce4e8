import Derived.Test.YgctajRows
import Derived.WalkKit
import Derived.ProofKit
namespace Go.Proofs.Ygctaj.Mem
open Go.RowKit

theorem ret_int {k : IntKind} {a b : Int} (h : a = b) : Ending.returned (.int k a) = .returned (.int k b) := by rw [h]
theorem ret_bool {a b : Bool} (h : a = b) : Ending.returned (.bool a) = .returned (.bool b) := by rw [h]

/-- n cells of block b from off on hold the integers x 0, x 1, .. of kind k. -/
def Rd (k : IntKind) (w : World) (b off n : Nat) (x : Nat → Nat) : Prop :=
  ∀ i, i < n → w.cell? ⟨b, off + i, none⟩ = some (.int k ((x i : Nat) : Int))

/-- none of the n cells is frozen. -/
def Wr (w : World) (b off n : Nat) : Prop := ∀ i, i < n → w.frozen? ⟨b, off + i, none⟩ = false

/-- w' is w but for new blocks and for cells that 'may' names. -/
structure Chg (may : Nat → Nat → Prop) (w w' : World) : Prop where
  os : w'.os = w.os
  tape : w'.tape = w.tape
  output : w'.output = w.output
  size : w.heap.size ≤ w'.heap.size
  block : ∀ k, k < w.heap.size → (∀ o, ¬ may k o) → w'.heap[k]? = w.heap[k]?
  cell : ∀ k o, k < w.heap.size → ¬ may k o → w'.cell? ⟨k, o, none⟩ = w.cell? ⟨k, o, none⟩
  frozen : ∀ k o, k < w.heap.size → w'.frozen? ⟨k, o, none⟩ = w.frozen? ⟨k, o, none⟩

theorem Chg.refl (may : Nat → Nat → Prop) (w : World) : Chg may w w :=
  ⟨rfl, rfl, rfl, Nat.le_refl _, fun _ _ _ => rfl, fun _ _ _ _ => rfl, fun _ _ _ => rfl⟩

theorem Chg.trans {may : Nat → Nat → Prop} {a b c : World} (h : Chg may a b) (k : Chg may b c) : Chg may a c :=
  ⟨k.os.trans h.os, k.tape.trans h.tape, k.output.trans h.output, Nat.le_trans h.size k.size,
   fun i hi hm => (k.block i (Nat.lt_of_lt_of_le hi h.size) hm).trans (h.block i hi hm),
   fun i o hi hm => (k.cell i o (Nat.lt_of_lt_of_le hi h.size) hm).trans (h.cell i o hi hm),
   fun i o hi => (k.frozen i o (Nat.lt_of_lt_of_le hi h.size)).trans (h.frozen i o hi)⟩

theorem Chg.mono {may may' : Nat → Nat → Prop} {w w' : World} (h : Chg may w w') (hm : ∀ k o, k < w.heap.size → may k o → may' k o) : Chg may' w w' :=
  ⟨h.os, h.tape, h.output, h.size, fun k hk hn => h.block k hk fun o ho => hn o (hm k o hk ho), fun k o hk hn => h.cell k o hk fun ho => hn (hm k o hk ho), h.frozen⟩

theorem Chg.drew {may : Nat → Nat → Prop} {a w : World} (h : Chg may a w) : Chg may a w.drew := ⟨h.os, h.tape, h.output, h.size, h.block, h.cell, h.frozen⟩

theorem Chg.alloc {may : Nat → Nat → Prop} {a w : World} (h : Chg may a w) (o : Obj) : Chg may a (w.alloc o) :=
  h.trans ⟨rfl, rfl, rfl, by simp, fun k hk _ => Below.heap_alloc _ _ _ hk, fun k o' hk _ => World.cell?_of_block (w := w) (Below.heap_alloc _ _ _ hk),
    fun k o' hk => World.frozen?_of_block (w := w) (Below.heap_alloc _ _ _ hk)⟩

theorem Chg.below {B : Nat} {w w' : World} (hB : B ≤ w.heap.size) (h : Chg (fun k _ => B ≤ k) w w') : Below B w w' :=
  ⟨h.os, h.tape, h.output, h.size, fun k hk => h.block k (by omega) fun _ => by omega⟩

theorem lt_of_cell {w : World} {p : Addr} {v : Value} (h : w.cell? p = some v) : p.block < w.heap.size := by
  unfold World.cell? at h
  rcases Nat.lt_or_ge p.block w.heap.size with h' | h'
  · exact h'
  · rw [Array.getElem?_eq_none h'] at h; simp at h

theorem Rd.lt {k : IntKind} {w : World} {b off n : Nat} {x : Nat → Nat} (h : Rd k w b off n x) (hn : 0 < n) : b < w.heap.size := lt_of_cell (h 0 hn)

/-- a store of one cell: only that cell may have turned. -/
theorem Chg.setCell {may : Nat → Nat → Prop} {a w : World} (h : Chg may a w) (b o : Nat) (v : Value) (hm : b < a.heap.size → may b o) : Chg may a (w.setCell ⟨b, o, none⟩ v) := by
  refine ⟨h.os, h.tape, h.output, by simpa [World.setCell] using h.size, fun k hk hn => ?_, fun k o' hk hn => ?_, fun k o' hk => ?_⟩
  · rw [Below.heap_setCell _ _ _ _ (by intro e; simp at e; subst e; exact hn o (hm hk))]
    exact h.block k hk hn
  · rw [World.cell?_setCell_other _ _ _ _ (by intro e; simp at e; obtain ⟨rfl, rfl⟩ := e; exact hn (hm hk))]
    exact h.cell k o' hk hn
  · rw [World.frozen?_setCell]; exact h.frozen k o' hk

/-- f with the value v at i. -/
def upd (f : Nat → Nat) (i v : Nat) : Nat → Nat := fun j => if j = i then v else f j
theorem upd_same (f : Nat → Nat) (i v : Nat) : upd f i v i = v := by simp [upd]
theorem upd_other (f : Nat → Nat) (i v j : Nat) (h : j ≠ i) : upd f i v j = f j := by simp [upd, h]

theorem Rd.setCell {k : IntKind} {w : World} {b off n : Nat} {x : Nat → Nat} (h : Rd k w b off n x) (i v : Nat) (hi : i < n) :
    Rd k (w.setCell ⟨b, off + i, none⟩ (.int k ((v : Nat) : Int))) b off n (upd x i v) := by
  intro j hj
  by_cases e : j = i
  · subst e; rw [World.cell?_setCell_same _ _ _ (h j hj), upd_same]
  · rw [World.cell?_setCell_other _ _ _ _ (by intro e'; injection e' with _ e2; omega), upd_other _ _ _ _ e]; exact h j hj

/-- a store elsewhere. -/
theorem Rd.setOther {k : IntKind} {w : World} {b off n : Nat} {x : Nat → Nat} (h : Rd k w b off n x) {b' o : Nat} {v : Value} (hne : b' = b → o < off ∨ off + n ≤ o) :
    Rd k (w.setCell ⟨b', o, none⟩ v) b off n x := by
  intro j hj
  rw [World.cell?_setCell_other _ _ _ _ (by simp; intro e; have := hne e; omega)]; exact h j hj

theorem Wr.setCell {w : World} {b off n : Nat} (h : Wr w b off n) (p : Addr) (v : Value) : Wr (w.setCell p v) b off n := by
  intro i hi; rw [World.frozen?_setCell]; exact h i hi

theorem Rd.drew {k : IntKind} {w : World} {b off n : Nat} {x : Nat → Nat} (h : Rd k w b off n x) : Rd k w.drew b off n x := h
theorem Wr.drew {w : World} {b off n : Nat} (h : Wr w b off n) : Wr w.drew b off n := h

theorem Rd.kept {k : IntKind} {w w' : World} {b off n : Nat} {x : Nat → Nat} (h : Rd k w b off n x) {may : Nat → Nat → Prop} (hc : Chg may w w') (hm : ∀ i, i < n → ¬ may b (off + i)) : Rd k w' b off n x := by
  intro i hi
  rw [hc.cell b (off + i) (h.lt (by omega)) (hm i hi)]; exact h i hi

theorem Wr.kept {w w' : World} {b off n : Nat} (h : Wr w b off n) {may : Nat → Nat → Prop} (hc : Chg may w w') (hb : b < w.heap.size) : Wr w' b off n := by
  intro i hi; rw [hc.frozen b (off + i) hb]; exact h i hi

theorem Rd.sub {k : IntKind} {w : World} {b off n : Nat} {x : Nat → Nat} (h : Rd k w b off n x) (s m : Nat) (hs : s + m ≤ n) : Rd k w b (off + s) m (fun i => x (s + i)) := by
  intro i hi; rw [Nat.add_assoc]; exact h (s + i) (by omega)

theorem Wr.sub {w : World} {b off n : Nat} (h : Wr w b off n) (s m : Nat) (hs : s + m ≤ n) : Wr w b (off + s) m := by
  intro i hi; rw [Nat.add_assoc]; exact h (s + i) (by omega)

theorem Rd.congr {k : IntKind} {w : World} {b off n : Nat} {x y : Nat → Nat} (h : Rd k w b off n x) (e : ∀ i, i < n → x i = y i) : Rd k w b off n y := by
  intro i hi; rw [← e i hi]; exact h i hi

/-- f below k, g from k on: what a loop has done so far. -/
def mix (k : Nat) (f g : Nat → Nat) : Nat → Nat := fun j => if j < k then f j else g j
theorem mix_zero (f g : Nat → Nat) : mix 0 f g = g := by funext j; simp [mix]
theorem mix_at (k : Nat) (f g : Nat → Nat) : mix k f g k = g k := by simp [mix]
theorem mix_lt {k : Nat} (f g : Nat → Nat) {j : Nat} (h : j < k) : mix k f g j = f j := by simp [mix, h]
theorem mix_ge {k : Nat} (f g : Nat → Nat) {j : Nat} (h : k ≤ j) : mix k f g j = g j := by simp [mix]; omega
theorem mix_upd (k : Nat) (f g : Nat → Nat) : upd (mix k f g) k (f k) = mix (k + 1) f g := by
  funext j
  unfold upd mix
  by_cases h : j = k
  · subst h; simp
  · by_cases h2 : j < k
    · rw [if_neg h, if_pos h2, if_pos (by omega)]
    · rw [if_neg h, if_neg h2, if_neg (by omega)]
theorem Rd.start {k : IntKind} {w : World} {b off n : Nat} {x : Nat → Nat} (h : Rd k w b off n x) (f : Nat → Nat) : Rd k w b off n (mix 0 f x) := by rw [mix_zero]; exact h
theorem Rd.step {k : IntKind} {w : World} {b off n : Nat} {j : Nat} {f x : Nat → Nat} (h : Rd k w b off n (mix j f x)) (hj : j < n) (v : Int) (hv : v = ((f j : Nat) : Int)) :
    Rd k (w.setCell ⟨b, off + j, none⟩ (.int k v)) b off n (mix (j + 1) f x) := by
  subst hv; rw [← mix_upd]; exact h.setCell j (f j) hj
theorem Rd.done {k : IntKind} {w : World} {b off n : Nat} {j : Nat} {f x : Nat → Nat} (h : Rd k w b off n (mix j f x)) (hj : n ≤ j) : Rd k w b off n f :=
  h.congr fun i hi => mix_lt f x (by omega)
theorem Rd.at {k : IntKind} {w : World} {b off n : Nat} {j : Nat} {f x : Nat → Nat} (h : Rd k w b off n (mix j f x)) (hj : j < n) : w.cell? ⟨b, off + j, none⟩ = some (.int k ((x j : Nat) : Int)) := by
  have := h j hj; rw [mix_at] at this; exact this

theorem cellK {may : Nat → Nat → Prop} {w w' : World} (hc : Chg may w w') {b o : Nat} {v : Value} (h : w.cell? ⟨b, o, none⟩ = some v) (hm : ¬ may b o) : w'.cell? ⟨b, o, none⟩ = some v :=
  (hc.cell b o (lt_of_cell h) hm).trans h
theorem frozenK {may : Nat → Nat → Prop} {w w' : World} (hc : Chg may w w') {b o : Nat} {v : Value} (h : w.cell? ⟨b, o, none⟩ = some v) (hf : w.frozen? ⟨b, o, none⟩ = false) : w'.frozen? ⟨b, o, none⟩ = false :=
  (hc.frozen b o (lt_of_cell h)).trans hf

/-- nothing that was there has turned. -/
abbrev Same (w w' : World) : Prop := Chg (fun _ _ => False) w w'
theorem Rd.same {k : IntKind} {w w' : World} {b off n : Nat} {x : Nat → Nat} (h : Rd k w b off n x) (hs : Same w w') : Rd k w' b off n x := h.kept hs fun _ _ h => h
theorem Same.chg {may : Nat → Nat → Prop} {w w' : World} (h : Same w w') : Chg may w w' := h.mono fun _ _ _ => False.elim
end Go.Proofs.Ygctaj.Mem
