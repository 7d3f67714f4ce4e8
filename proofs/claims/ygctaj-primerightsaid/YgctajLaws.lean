/- make and copy on slices of integers, as laws at the operation. -/
import Derived.Test.YgctajMem
import Derived.Laws.IdiomCopy
import Derived.Laws.Cover3
namespace Go.Proofs.Ygctaj.Mem
open Go.RowKit
set_option linter.unusedVariables false

/-- what is told of a slice of integers that came in (the frame's words). -/
def IsRow (k : IntKind) (w : World) (a : Option Addr) (len cap : Nat) (zs : List Int) : Prop :=
  (a = none ∧ len = 0 ∧ cap = 0 ∧ zs = []) ∨
  ∃ x, a = some x ∧ len ≤ cap ∧ cap ≤ maxLen ∧ zs.length = cap ∧ (∀ i, i < zs.length → w.cell? (x.add i) = some (.int k (zs.getD i 0))) ∧ ∀ n ∈ zs, (Lit.int k n).wf = true

/-- what turns new memory alone turns nothing that was there. -/
theorem Chg.trans_new {m1 m2 : Nat → Nat → Prop} {a b c : World} (h : Chg m1 a b) (k : Chg m2 b c) (hm : ∀ q o, q < a.heap.size → m2 q o → m1 q o) : Chg m1 a c :=
  ⟨k.os.trans h.os, k.tape.trans h.tape, k.output.trans h.output, Nat.le_trans h.size k.size,
   fun i hi hn => (k.block i (Nat.lt_of_lt_of_le hi h.size) (fun o ho => hn o (hm i o hi ho))).trans (h.block i hi hn),
   fun i o hi hn => (k.cell i o (Nat.lt_of_lt_of_le hi h.size) (fun ho => hn (hm i o hi ho))).trans (h.cell i o hi hn),
   fun i o hi => (k.frozen i o (Nat.lt_of_lt_of_le hi h.size)).trans (h.frozen i o hi)⟩

/-- 's == nil' of a slice. -/
theorem run_eql_slice_nil {P : Program} {t e : TypeId} (h : P.underlying t = some (.slice e)) (a : Option Addr) (l c : Nat) (w : World) : (binOp .eql t (.slice a l c) (.slice none 0 0)).run P w = .ok (.bool a.isNone) w := by
  simp only [binOp]
  simp [run_equal_slice_nil w t e a l c h]

theorem madeCells_int (k : IntKind) (n i : Nat) (h : i < n) : (madeCells #[.int k 0] n)[i]? = some (.int k 0) := by
  unfold madeCells
  rw [Array.getElem?_map]
  simp [h, Nat.mod_one]

/-- 'make([]T, n)', T an integer's type. -/
theorem wpList_mk {P : Program} {ops : Array Oper} {Q : Exit → Act → World → Prop} {d : Option Tmp} {t ty : TypeId} {p : String} {af : Array Edge} {rest : List Oper} {a : Act} {w : World} {l c : Operand}
    (n : Nat) (k : IntKind) (e : TypeId) (bs : Nat) (L C : Int) (hl : a.eval l = .int .i64 L) (hc : a.eval c = .int .i64 C) (hL : L = (n : Int)) (hC : C = (n : Int))
    (hu : P.underlying t = some (.slice e)) (hi : (P.info? e).map (fun i => (i.zero, i.size, i.bytes)) = some (some (.int k 0), 1, bs))
    (hb : bs * n ≤ 281474976710656) (h63 : n ≤ 9223372036854775807)
    (h : ∀ (B : Nat) (w' : World), w.heap.size ≤ B → B < w'.heap.size → Rd k w' B 0 n (fun _ => 0) → Wr w' B 0 n → Same w w' → wpList P ops Q rest (a.put d (.slice (some ⟨B, 0, none⟩) n n)) w') :
    wpList P ops Q ({ dst := d, op := .makeSlice t l c, type := ty, pos := p, after := af, guard := none } :: rest) a w := by
  refine wpList_plain rfl fun K hK => ?_
  obtain ⟨i, hi1, hi2⟩ := Option.map_eq_some_iff.1 hi
  simp only [Prod.mk.injEq] at hi2
  obtain ⟨hz, hs, hby⟩ := hi2
  subst hL hC
  have hr := run_make (P := P) w t e i (.int k 0) hu hi1 hz .i64 .i64 n n (by omega) (Int.le_refl _) (by rw [hby, ← Int.natCast_mul]; omega) (by omega)
  rw [Int.toNat_natCast, hs, Nat.mul_one] at hr
  unfold Oper.wp
  simp [execOp, hl, hc, hr, Result.andThen, Oper.upon]
  refine hK _ _ (h w.heap.size _ (Nat.le_refl _) (by simp) ?_ ?_ ((Chg.refl _ _).alloc _))
  · intro j hj
    rw [Nat.zero_add, World.cell?_alloc_new]
    exact madeCells_int k n j hj
  · intro j hj
    rw [World.frozen?_alloc_new]

theorem Chg.setCells {may : Nat → Nat → Prop} {a : World} (b : Nat) : ∀ (vs : List Value) (o : Nat) (w : World), Chg may a w → (∀ j, j < vs.length → b < a.heap.size → may b (o + j)) → Chg may a (w.setCells b o vs)
  | [], o, w, h, _ => h
  | v :: r, o, w, h, hm => by
    refine Chg.setCells b r (o + 1) _ (h.setCell b o v (hm 0 (by simp))) fun j hj hb => ?_
    have := hm (j + 1) (by simp; omega) hb
    rw [show o + 1 + j = o + (j + 1) from by omega]; exact this

theorem add_none (b o n : Nat) : (⟨b, o, none⟩ : Addr).add n = ⟨b, o + n, none⟩ := by
  unfold Addr.add
  split
  · rename_i h; subst h; rfl
  · rfl

/-- 'copy(dst, src)' on integers. -/
theorem wpList_cp {P : Program} {ops : Array Oper} {Q : Exit → Act → World → Prop} {dd : Option Tmp} {ty : TypeId} {p : String} {af : Array Edge} {rest : List Oper} {a : Act} {w : World} {d s : Operand} {dT sT : TypeId}
    (m : Nat) (k : IntKind) (e : TypeId) {b off dl dc bs offs sl sc : Nat} {xs ys : Nat → Nat} (hd : a.eval d = .slice (some ⟨b, off, none⟩) dl dc) (hs : a.eval s = .slice (some ⟨bs, offs, none⟩) sl sc)
    (hm : m = Nat.min sl dl) (hx : Rd k w bs offs sl xs) (hy : Rd k w b off dl ys) (hw : Wr w b off dl)
    (hu : P.underlying dT = some (.slice e)) (hi : (P.info? e).map (fun i => i.size) = some 1)
    (h : ∀ (w' : World), Rd k w' b off dl (mix m xs ys) → Chg (fun q o => q = b ∧ off ≤ o ∧ o < off + m) w w' → wpList P ops Q rest (a.put dd (.int .i64 (m : Int))) w') :
    wpList P ops Q ({ dst := dd, op := .call { callee := .builtin .copy, args := #[d, s], argTypes := #[dT, sT] }, type := ty, pos := p, after := af, guard := none } :: rest) a w := by
  refine wpList_plain rfl fun K hK => ?_
  have hmd : m ≤ dl := by rw [hm]; exact Nat.min_le_right _ _
  have hms : m ≤ sl := by rw [hm]; exact Nat.min_le_left _ _
  have hlen : ((List.range m).map fun j => Value.int k ((xs j : Nat) : Int)).length = m := by simp
  have hrun := run_copy_cells (P := P) w dT sT ty e b off dl dc ⟨bs, offs, none⟩ sl sc ((List.range m).map fun j => Value.int k ((xs j : Nat) : Int)) hu hi (by rw [hlen]; exact hm)
    (fun j v hj => by
      have hjm : j < m := by
        rcases Nat.lt_or_ge j m with h' | h'
        · exact h'
        · rw [List.getElem?_eq_none (by rw [hlen]; exact h')] at hj; cases hj
      rw [List.getElem?_map, List.getElem?_range hjm] at hj
      simp at hj
      subst hj
      rw [add_none]; exact hx j (by omega))
    (fun j hj => by rw [hlen] at hj; rw [hy j (by omega)]; rfl) (fun j hj => by rw [hlen] at hj; exact hw j (by omega)) (fun v hv => by
      obtain ⟨j, _, rfl⟩ := List.mem_map.1 hv
      rfl)
  rw [hlen] at hrun
  unfold Oper.wp
  simp [execOp, resolve, invoke, builtin, hd, hs, hrun, Result.andThen, Oper.upon, goInt]
  refine hK _ _ (h _ ?_ ?_)
  · intro j hj
    by_cases hjm : j < m
    · have := World.cell?_setCells_in b ((List.range m).map fun j => Value.int k ((xs j : Nat) : Int)) off w (fun j hj => by rw [hlen] at hj; rw [hy j (by omega)]; rfl) j (by rw [hlen]; exact hjm)
      rw [this, mix_lt _ _ hjm]; simp
    · rw [World.cell?_setCells_out b _ off w _ (fun _ _ => .inr (by rw [hlen]; simp; omega)), mix_ge _ _ (by omega)]
      exact hy j hj
  · exact Chg.setCells b _ off w (Chg.refl _ _) fun j hj _ => by rw [hlen] at hj; omega

/-- 'copy' where one of the two has no element. -/
theorem wpList_cp0 {P : Program} {ops : Array Oper} {Q : Exit → Act → World → Prop} {dd : Option Tmp} {ty : TypeId} {p : String} {af : Array Edge} {rest : List Oper} {a : Act} {w : World} {d s : Operand} {dT sT : TypeId}
    (e : TypeId) {dp sp : Option Addr} {dl dc sl sc : Nat} (hd : a.eval d = .slice dp dl dc) (hs : a.eval s = .slice sp sl sc) (hn : Nat.min sl dl = 0)
    (hu : P.underlying dT = some (.slice e)) (hi : (P.info? e).map (fun i => i.size) = some 1)
    (h : wpList P ops Q rest (a.put dd (.int .i64 0)) w) :
    wpList P ops Q ({ dst := dd, op := .call { callee := .builtin .copy, args := #[d, s], argTypes := #[dT, sT] }, type := ty, pos := p, after := af, guard := none } :: rest) a w := by
  refine wpList_plain rfl fun K hK => ?_
  have hrun := run_copy_none (P := P) w dT sT ty e dp sp dl dc sl sc hu hi hn
  unfold Oper.wp
  simp [execOp, resolve, invoke, builtin, hd, hs, hrun, Result.andThen, Oper.upon, goInt]
  exact hK _ _ h
end Go.Proofs.Ygctaj.Mem
