/-
  A REGION THAT DRAWS ITS ORDER, WALKED IN THE ORDER OF ITS TEXT: 'wp_text'.
-/
import Derived.Test.YgctajText
namespace Go.Proofs.Ygctaj.Text
open Go
set_option linter.unusedVariables false
set_option linter.unusedSimpArgs false

/-- where s ends well the world is as it was. -/
def Qt (P : Program) {α : Type} (s : Sem α) : Prop := ∀ w x w', s.run P w = .ok x w' → w' = w
theorem Qt.pure {P : Program} {α : Type} (x : α) : Qt P (Pure.pure x : Sem α) := fun w y w' h => by cases h; rfl
theorem Qt.stl {P : Program} {α : Type} {s : Sem α} (h : Stl P s) : Qt P s := by
  intro w y w' e
  rcases h with ⟨x, hx⟩ | h
  · rw [hx w] at e; cases e; rfl
  · obtain ⟨_, _, e2⟩ := h w; rw [e2] at e; cases e
theorem Qt.bind {P : Program} {α β : Type} {s : Sem α} {k : α → Sem β} (h : Qt P s) (hk : ∀ x, Qt P (k x)) : Qt P (s >>= k) := by
  intro w y w' e
  rw [Sem.run_bind] at e
  cases hs : s.run P w with
  | ok x w1 => rw [hs] at e; have := h w x w1 hs; subst this; exact hk x _ _ _ e
  | halt x w1 => rw [hs] at e; cases e
theorem Qt.load {P : Program} (a : Addr) : Qt P (Go.load a) := by
  intro w y w' e
  simp only [Go.load, Sem.run] at e
  (repeat' split at e) <;> cases e <;> rfl
theorem Qt.loadCellsFrom {P : Program} (a : Addr) : ∀ (n i : Nat) (acc : Array Value), Qt P (Go.loadCellsFrom a i n acc)
  | 0, i, acc => .pure _
  | n + 1, i, acc => (Qt.load _).bind fun _ => Qt.loadCellsFrom a n _ _
theorem Qt.loadAt {P : Program} (t : TypeId) (v : Value) : Qt P (Instr.loadAt t v) := by
  refine (Qt.stl (Stl.sureAddr v)).bind fun a => ?_
  unfold Go.loadVar
  refine (Qt.stl (Stl.isAgg t)).bind fun b => ?_
  cases b
  · exact .load _
  · exact (Qt.stl (Stl.sizeOf t)).bind fun n => Qt.bind (Qt.loadCellsFrom a n 0 #[]) fun _ => .pure _

section
variable {P : Program} {ops : Array Oper} {Q : Exit → Act → World → Prop}

/-- at this state and world o yields v and leaves the world (or is passed over). -/
def YAt (P : Program) (ops : Array Oper) (o : Oper) (v : Value) (a : Act) (w : World) : Prop :=
  (Region.wanted o (yielded ops a.tmps) = true ∧ (execOp a.eval o).run P w = .ok (.value v) w) ∨
  (Region.wanted o (yielded ops a.tmps) = false ∧ v = undef)

theorem yat_of_yields {o : Oper} {v : Value} {a : Act} (h : Yields P ops o v a) (w : World) : YAt P ops o v a w :=
  h.imp (fun ⟨x, y⟩ => ⟨x, y w⟩) id

theorem YAt.wpOp {i : Nat} {o : Oper} {v : Value} {a : Act} {w : World} (hi : ops[i]? = some o) (hy : YAt P ops o v a w)
    {K : Act → World → Prop} (h : K (a.put o.dst v) w) : wpOp P ops Q i K a w := by
  unfold Go.wpOp
  simp only [hi]
  rcases hy with ⟨hw, hv⟩ | ⟨hw, rfl⟩
  · simp only [hw, if_true, Oper.wp, hv, Oper.upon]; exact .inl h
  · simp only [hw, Bool.false_eq_true, if_false]; exact h

/-- Q lets nothing by but the normal end. -/
structure Only (Q : Exit → Act → World → Prop) : Prop where
  panic : ∀ c a w, ¬ Q (.panic c) a w
  outgrown : ∀ a w, ¬ Q .outgrown a w

theorem Only.lets (h : Only Q) : ¬ LetsOut Q := fun ⟨a, w, q⟩ => h.outgrown a w q

/-- a still operation yields in every world. -/
theorem still_wp (hq : Only Q) {i : Nat} {o : Oper} {a : Act} {w : World} {K : Act → World → Prop} (hi : ops[i]? = some o) (hs : StlV P (execOp a.eval o))
    (h : wpOp P ops Q i K a w) : ∃ v, Yields P ops o v a ∧ K (a.put o.dst v) w := by
  unfold wpOp at h
  simp only [hi] at h
  split at h
  · rename_i hw
    rcases h with h | ⟨_, h⟩
    · rcases hs with ⟨v, hv⟩ | hn
      · refine ⟨v, .inl ⟨hw, hv⟩, ?_⟩
        simpa only [Oper.wp, hv w, Oper.upon] using h
      · obtain ⟨x, w', e⟩ := hn w
        simp only [Oper.wp, e] at h
        cases x <;> simp only [Oper.upon] at h
        exact absurd h (hq.panic _ _ _)
    · exact absurd h hq.lets
  · rename_i hw
    exact ⟨undef, .inr ⟨by simpa using hw, rfl⟩, h⟩

/-- an operation that reads yields here. -/
theorem read_wp (hq : Only Q) {i : Nat} {o : Oper} {a : Act} {w : World} {K : Act → World → Prop} (hi : ops[i]? = some o) {s : Sem Value} (he : execOp a.eval o = (do Pure.pure (Next.value (← s)))) (hs : Qt P s)
    (h : wpOp P ops Q i K a w) : ∃ v, YAt P ops o v a w ∧ K (a.put o.dst v) w := by
  unfold wpOp at h
  simp only [hi] at h
  split at h
  · rename_i hw
    rcases h with h | ⟨_, h⟩
    · cases hr : s.run P w with
      | ok v w' =>
        have := hs w v w' hr
        subst this
        have e : (execOp a.eval o).run P w' = .ok (.value v) w' := by rw [he, Sem.run_bind, hr]; rfl
        exact ⟨v, .inl ⟨hw, e⟩, by simpa only [Oper.wp, e, Oper.upon] using h⟩
      | halt x w' =>
        have e : (execOp a.eval o).run P w = .halt x w' := by rw [he, Sem.run_bind, hr]; rfl
        simp only [Oper.wp, e] at h
        cases x <;> simp only [Oper.upon] at h
        exact absurd h (hq.panic _ _ _)
    · exact absurd h hq.lets
  · rename_i hw
    exact ⟨undef, .inr ⟨by simpa using hw, rfl⟩, h⟩

/-- what stands in the state behind one operation: the state with one value put (and, it may be, a deferred call). -/
theorem wpOp_some (hq : Only Q) {i : Nat} {o : Oper} {a : Act} {w : World} {K : Act → World → Prop} (hi : ops[i]? = some o)
    (h : wpOp P ops Q i K a w) : ∃ v ds w', K ({ a with defers := ds }.put o.dst v) w' := by
  unfold wpOp at h
  simp only [hi] at h
  split at h
  · rcases h with h | ⟨_, h⟩
    · unfold Oper.wp at h
      cases hr : (execOp a.eval o).run P w with
      | ok n w' =>
        rw [hr] at h
        cases n <;> simp only [Oper.upon] at h
        case value v => exact ⟨v, a.defers, w', h⟩
        case skip => exact ⟨undef, a.defers, w', h⟩
        case defer d => exact ⟨undef, d :: a.defers, w', h⟩
        case enter f args =>
          obtain ⟨e, w2, fr, hR, _⟩ := h []
          cases e with
          | returned v => exact ⟨v, a.defers, w2, hR⟩
          | panicked c => exact absurd hR (hq.panic _ _ _)
          | outgrown => exact absurd hR hq.lets
        case row row args =>
          obtain ⟨v, w2, hR, _⟩ := h default []
          exact ⟨v, a.defers, w2, hR⟩
      | halt x w' =>
        rw [hr] at h
        cases x <;> simp only [Oper.upon] at h
        exact absurd h (hq.panic _ _ _)
    · exact absurd h hq.lets
  · exact ⟨undef, a.defers, w, h⟩

theorem put_defs (a : Act) (ds : List Deferred) (x : Option Tmp) (v : Value) : ({ a with defers := ds } : Act).put x v = { a.put x v with defers := ds } := by
  cases x <;> rfl

/-- one operation, with another's value already put. -/
theorem wpOp_putBack (hq : Only Q) {i : Nat} {oi oj : Oper} {v : Value} (hi : ops[i]? = some oi) (hap : oj.apart ops oi = true)
    (hsi : ∀ cs b, oi.op ≠ .select cs b) {K K' : Act → World → Prop} {a : Act} {w : World}
    (hK : ∀ u ds w1, K (({ a with defers := ds } : Act).put oi.dst u) w1 → K' ((({ a with defers := ds } : Act).put oi.dst u).put oj.dst v) w1)
    (h : wpOp P ops Q i K a w) : wpOp P ops Q i K' (a.put oj.dst v) w := by
  obtain ⟨h1, h2, h3⟩ := Oper.apart_spec hap
  have put : ∀ u ds w1, K (({ a with defers := ds } : Act).put oi.dst u) w1 → K' (({ a.put oj.dst v with defers := ds } : Act).put oi.dst u) w1 := fun u ds w1 h => by
    rw [← put_defs, Act.put_comm _ v u h2]; exact hK u ds w1 h
  unfold wpOp at *
  simp only [hi] at *
  rw [wanted_put oi a oj.dst v h1]
  split
  · rename_i hw
    simp only [hw, if_true] at h
    rcases h with h | ⟨_, h⟩
    case inr => exact absurd h hq.lets
    refine .inl ?_
    have hd : (a.put oj.dst v).defers = a.defers := by cases oj.dst <;> rfl
    have hself : ∀ u w1, K (a.put oi.dst u) w1 → K' ((a.put oj.dst v).put oi.dst u) w1 := fun u w1 h => by
      have := put u a.defers w1 h
      rw [show ({ a.put oj.dst v with defers := a.defers } : Act) = a.put oj.dst v from by cases oj.dst <;> rfl] at this
      exact this
    unfold Oper.wp at *
    rw [execOp_put oi hsi a oj.dst v h1]
    generalize (execOp a.eval oi).run P w = r at *
    cases r with
    | ok n w' =>
      cases n <;> simp only [Oper.upon] at h ⊢
      case value u => exact hself u w' h
      case skip => exact hself undef w' h
      case defer d => rw [hd]; exact put undef (d :: a.defers) w' h
      case enter f args =>
        refine Calls.mono h fun e w'' he => ?_
        cases e with
        | returned u => exact hself u w'' he
        | panicked c => exact absurd he (hq.panic _ _ _)
        | outgrown => exact he
      case row row args => exact Rows.mono h fun u w'' he => hself u w'' he
    | halt x w' =>
      cases x <;> simp only [Oper.upon] at h ⊢
      case panic u => exact absurd h (hq.panic _ _ _)
  · rename_i hw
    simp only [hw] at h
    have := put undef a.defers w h
    rw [show ({ a.put oj.dst v with defers := a.defers } : Act) = a.put oj.dst v from by cases oj.dst <;> rfl] at this
    exact this

theorem yields_unique {o : Oper} {v u : Value} {a : Act} (h : Yields P ops o v a) (k : Yields P ops o u a) : v = u := by
  rcases h with ⟨h1, h2⟩ | ⟨h1, rfl⟩ <;> rcases k with ⟨k1, k2⟩ | ⟨k1, rfl⟩
  · have := (h2 default).symm.trans (k2 default); simpa using this
  · rw [h1] at k1; cases k1
  · rw [h1] at k1; cases k1
  · rfl

theorem swap_fst (hq : Only Q) {i j : Nat} {oi oj : Oper} (hi : ops[i]? = some oi) (hj : ops[j]? = some oj) (hap : oi.apart ops oj = true)
    (hsel : ∀ (j : Nat) (o : Oper) cs b, ops[j]? = some o → o.op ≠ .select cs b) {r : List Nat} {a : Act} {w : World} (hs : StlV P (execOp a.eval oi))
    (h : wpOps P ops Q (i :: j :: r) a w) : wpOps P ops Q (j :: i :: r) a w := by
  rw [wpOps_cons] at h
  obtain ⟨v, hy, h2⟩ := still_wp hq hi hs h
  rw [wpOps_cons] at h2 ⊢
  have h3 := wpOp_put hj hap (fun cs b => hsel i oi cs b hi) (fun cs b => hsel j oj cs b hj) (fun c a w h => absurd h (hq.panic _ _ _)) hy h2
  refine wpOp_mono (fun a' w' h4 => ?_) h3
  rw [wpOps_cons]
  exact h4.1.wpOp hi h4.2

theorem apart_symm {x y : Oper} (h : x.apart ops y = true) : y.apart ops x = true := by
  unfold Oper.apart at *
  cases hx : x.dst <;> cases hy : y.dst <;> simp_all [bne_comm]

theorem swap_snd (hq : Only Q) {i j : Nat} {oi oj : Oper} (hi : ops[i]? = some oi) (hj : ops[j]? = some oj) (hap : oi.apart ops oj = true)
    (hsel : ∀ (j : Nat) (o : Oper) cs b, ops[j]? = some o → o.op ≠ .select cs b) {r : List Nat} {a : Act} {w : World} (hs : StlV P (execOp a.eval oj))
    (h : wpOps P ops Q (i :: j :: r) a w) : wpOps P ops Q (j :: i :: r) a w := by
  have hap' := apart_symm hap
  obtain ⟨h1, h2, h3⟩ := Oper.apart_spec hap'
  rw [wpOps_cons] at h
  have same : ∀ u ds, execOp (({ a with defers := ds } : Act).put oi.dst u).eval oj = execOp a.eval oj := fun u ds => by
    rw [execOp_put oj (fun cs b => hsel j oj cs b hj) _ oi.dst u h3]; rfl
  have samew : ∀ u ds, Region.wanted oj (yielded ops (({ a with defers := ds } : Act).put oi.dst u).tmps) = Region.wanted oj (yielded ops a.tmps) := fun u ds => by
    rw [wanted_put oj _ oi.dst u h3]
  obtain ⟨u, ds, w1, hK⟩ := wpOp_some hq hi h
  rw [wpOps_cons] at hK
  obtain ⟨v, hy, _⟩ := still_wp hq hj (by rw [same]; exact hs) hK
  have hy0 : Yields P ops oj v a := hy.of_same (same u ds).symm (samew u ds).symm
  rw [wpOps_cons]
  refine hy0.wpOp hj ?_
  rw [wpOps_cons]
  refine wpOp_putBack hq hi hap' (fun cs b => hsel i oi cs b hi) (fun u ds w1 h4 => ?_) h
  rw [wpOps_cons] at h4
  obtain ⟨v', hy', h5⟩ := still_wp hq hj (by rw [same]; exact hs) h4
  have : v' = v := yields_unique hy' (hy0.of_same (same u ds) (samew u ds))
  subst this
  exact h5

theorem swap_read (hq : Only Q) {i j : Nat} {oi oj : Oper} (hi : ops[i]? = some oi) (hj : ops[j]? = some oj) (hap : oi.apart ops oj = true)
    (hsel : ∀ (j : Nat) (o : Oper) cs b, ops[j]? = some o → o.op ≠ .select cs b) {r : List Nat} {a : Act} {w : World}
    (ri : ∀ a : Act, ∃ s, execOp a.eval oi = (do Pure.pure (Next.value (← s))) ∧ Qt P s) (rj : ∀ a : Act, ∃ s, execOp a.eval oj = (do Pure.pure (Next.value (← s))) ∧ Qt P s)
    (h : wpOps P ops Q (i :: j :: r) a w) : wpOps P ops Q (j :: i :: r) a w := by
  obtain ⟨h1, h2, h3⟩ := Oper.apart_spec hap
  rw [wpOps_cons] at h
  obtain ⟨s, es, qs⟩ := ri a
  obtain ⟨v, hv, h4⟩ := read_wp hq hi es qs h
  rw [wpOps_cons] at h4
  obtain ⟨s', es', qs'⟩ := rj (a.put oi.dst v)
  obtain ⟨u, hu, h5⟩ := read_wp hq hj es' qs' h4
  have hu' : YAt P ops oj u a w := by
    unfold YAt at hu ⊢
    rw [execOp_put oj (fun cs b => hsel j oj cs b hj) a oi.dst v h1, wanted_put oj a oi.dst v h1] at hu
    exact hu
  have hv' : YAt P ops oi v (a.put oj.dst u) w := by
    unfold YAt at hv ⊢
    rw [execOp_put oi (fun cs b => hsel i oi cs b hi) a oj.dst u h3, wanted_put oi a oj.dst u h3]
    exact hv
  rw [wpOps_cons]
  refine hu'.wpOp hj ?_
  rw [wpOps_cons]
  refine hv'.wpOp hi ?_
  rw [← Act.put_comm a v u h2]
  exact h5

/-- the state at the end: what no operation of the list writes is as it was. -/
theorem ends (hq : Only Q) : ∀ (l : List Nat) (a : Act) (w : World), (∀ k ∈ l, (ops[k]?).isSome) → wpOps P ops Q l a w →
    ∃ a' w', Q .normal a' w' ∧ ∀ t, (∀ k ∈ l, ∀ o, ops[k]? = some o → o.dst ≠ some t) → a'.eval (.tmp t) = a.eval (.tmp t)
  | [], a, w, _, h => ⟨a, w, h, fun _ _ => rfl⟩
  | i :: l, a, w, hin, h => by
    rw [wpOps_cons] at h
    obtain ⟨o, ho⟩ := Option.isSome_iff_exists.1 (hin i (by simp))
    obtain ⟨v, ds, w1, h1⟩ := wpOp_some hq ho h
    obtain ⟨a', w', hQ, he⟩ := ends hq l _ w1 (fun k hk => hin k (by simp [hk])) h1
    refine ⟨a', w', hQ, fun t ht => ?_⟩
    rw [he t (fun k hk => ht k (by simp [hk]))]
    rw [Act.eval_put (fun d hd e => ht i (by simp) o ho (by cases e; exact hd))]
    rfl

/-! ### The check, and what it gives -/
/-- A: of each operation the mask of all that must come before it. -/
def pre (A : List Nat) (k j : Nat) : Bool := (A.getD k 0).testBit j

def comm (x y : Nat) : Bool := x ≤ 1 || y ≤ 1 || (x == 2 && y == 2)

def pairOk (P : Program) (ops : Array Oper) (A : List Nat) (k j : Nat) (ok oj : Oper) : Bool :=
  (!pre A k j || (decide (j < k) && ok.after.any (fun e => Region.binds .any e && (e.on == j || pre A e.on j)))) &&
  (cls P ok.op != 1 || (match oj.dst with | some t => !(ok.looksAt ops).contains t || pre A k j | none => true)) &&
  (!decide (j < k) || pre A k j || (oj.apart ops ok && comm (cls P oj.op) (cls P ok.op)))

def textOk (P : Program) (ops : Array Oper) (A : List Nat) : Bool :=
  Region.noSelect ops &&
  (List.range ops.size).all fun k => match ops[k]? with
    | none => false
    | some ok => ok.after.all (fun e => !Region.binds .any e || decide (e.on < k)) &&
      (List.range ops.size).all fun j => match ops[j]? with
        | none => false
        | some oj => pairOk P ops A k j ok oj

structure Checks (P : Program) (ops : Array Oper) (A : List Nat) : Prop where
  sel : ∀ (j : Nat) (o : Oper) cs b, ops[j]? = some o → o.op ≠ .select cs b
  edge : ∀ k ok, ops[k]? = some ok → ∀ e ∈ ok.after, Region.binds .any e = true → e.on < k
  down : ∀ k j ok oj, ops[k]? = some ok → ops[j]? = some oj → pre A k j = true → j < k ∧ ∃ e ∈ ok.after, Region.binds .any e = true ∧ (e.on = j ∨ pre A e.on j = true)
  look : ∀ k j ok oj t, ops[k]? = some ok → ops[j]? = some oj → cls P ok.op = 1 → oj.dst = some t → t ∈ ok.looksAt ops → pre A k j = true
  comm : ∀ k j ok oj, ops[k]? = some ok → ops[j]? = some oj → j < k → pre A k j = false → oj.apart ops ok = true ∧ comm (cls P oj.op) (cls P ok.op) = true

theorem Checks.of {A : List Nat} (h : textOk P ops A = true) : Checks P ops A := by
  unfold textOk at h
  rw [Bool.and_eq_true] at h
  obtain ⟨hsel, hall⟩ := h
  rw [List.all_eq_true] at hall
  have one : ∀ k ok, ops[k]? = some ok → (ok.after.all (fun e => !Region.binds .any e || decide (e.on < k)) = true) ∧ ∀ j oj, ops[j]? = some oj → pairOk P ops A k j ok oj = true := by
    intro k ok hk
    have := hall k (List.mem_range.2 (Array.getElem?_eq_some_iff.1 hk).1)
    rw [hk] at this
    simp only [Bool.and_eq_true] at this
    refine ⟨this.1, fun j oj hj => ?_⟩
    have h2 := List.all_eq_true.1 this.2 j (List.mem_range.2 (Array.getElem?_eq_some_iff.1 hj).1)
    rw [hj] at h2
    exact h2
  refine ⟨Region.noSelect_spec hsel, fun k ok hk e he hb => ?_, fun k j ok oj hk hj hp => ?_, fun k j ok oj t hk hj hc hd ht => ?_, fun k j ok oj hk hj hlt hp => ?_⟩
  · have := Array.all_eq_true_iff_forall_mem.1 (one k ok hk).1 e he
    simp [hb] at this; exact this
  · have := (one k ok hk).2 j oj hj
    simp only [pairOk, Bool.and_eq_true, Bool.or_eq_true, Bool.not_eq_true', hp, Bool.true_eq_false, false_or, decide_eq_true_eq] at this
    refine ⟨this.1.1.1, ?_⟩
    obtain ⟨e, he, hx⟩ := Array.any_eq_true'.1 this.1.1.2
    simp only [Bool.and_eq_true, Bool.or_eq_true, beq_iff_eq] at hx
    exact ⟨e, he, hx.1, hx.2⟩
  · have := (one k ok hk).2 j oj hj
    simp only [pairOk, Bool.and_eq_true] at this
    have h2 := this.1.2
    simp only [hc, hd, bne_self_eq_false, Bool.false_or, Bool.or_eq_true, Bool.not_eq_true'] at h2
    rcases h2 with h2 | h2
    · have : (ok.looksAt ops).contains t = true := by simpa using ht
      rw [this] at h2; cases h2
    · exact h2
  · have := (one k ok hk).2 j oj hj
    simp only [pairOk, Bool.and_eq_true] at this
    have h3 := this.2
    simp only [hlt, decide_true, Bool.not_true, Bool.false_or, hp, Bool.and_eq_true] at h3
    exact h3

/-- the end bears the evidence for the operations of class 1. -/
def Bears (P : Program) (ops : Array Oper) (Q : Exit → Act → World → Prop) : Prop :=
  ∀ a w, Q .normal a w → ∀ (k : Nat) (o : Oper), ops[k]? = some o → cls P o.op = 1 → ev a o = true

theorem ev_congr {a a' : Act} {o : Oper} (h : ∀ t, t ∈ o.looksAt ops → a'.eval (.tmp t) = a.eval (.tmp t)) : ev a' o = ev a o := by
  have hx : ∀ x ∈ o.op.operands, a'.eval x = a.eval x := by
    intro x hx
    cases x with
    | tmp t => exact h t (List.mem_append_left _ (List.mem_filterMap.2 ⟨.tmp t, by simpa using hx, rfl⟩))
    | _ => rfl
  unfold ev
  cases hop : o.op <;> rw [hop] at hx <;> simp [Op.operands] at hx <;> simp [hx]

/-- an operation of class 0 or 1 is still at a state from which a list leads to the end that writes none of its operands. -/
theorem stl_at (hq : Only Q) (hb : Bears P ops Q) {l : List Nat} {a : Act} {w : World} {k : Nat} {o : Oper} (hk : ops[k]? = some o) (hc : cls P o.op ≤ 1)
    (hin : ∀ k ∈ l, (ops[k]?).isSome) (hl : cls P o.op = 1 → ∀ j ∈ l, ∀ oj t, ops[j]? = some oj → oj.dst = some t → t ∉ o.looksAt ops) (h : wpOps P ops Q l a w) : StlV P (execOp a.eval o) := by
  refine stlV_of_cls hc ?_
  by_cases h1 : cls P o.op = 1
  · obtain ⟨a', w', hQ, he⟩ := ends hq l a w hin h
    rw [← ev_congr (fun t ht => he t (fun j hj oj hoj hd => hl h1 j hj oj t hoj hd ht))]
    exact hb a' w' hQ k o hk h1
  · unfold ev
    cases hop : o.op <;> first | rfl | (rw [hop] at h1 hc; simp [cls] at h1 hc; done) | skip
    · rw [hop] at h1 hc; simp only [cls] at h1 hc; split at h1 <;> first | omega | (rename_i hn; rw [if_neg hn] at hc; omega)

theorem read_of_cls {o : Oper} (h : cls P o.op = 2) (a : Act) : ∃ s, execOp a.eval o = (do Pure.pure (Next.value (← s))) ∧ Qt P s := by
  cases hop : o.op <;> rw [hop] at h <;> simp only [cls] at h <;> try (first | omega | (split at h <;> omega))
  case load t x => exact ⟨_, by unfold execOp; rw [hop], Qt.loadAt t _⟩
  case call c =>
    exfalso
    obtain ⟨callee, args, argTypes⟩ := c
    cases callee with
    | builtin b =>
      cases b <;> simp only at h <;> try omega
      (repeat' split at h) <;> omega
    | value f => simp only at h; omega
    | invoke r n => simp only at h; omega

/-- one operation of the text goes back behind all that an order has ahead of it. -/
theorem bubble {A : List Nat} (hA : Checks P ops A) (hq : Only Q) (hb : Bears P ops Q) {i : Nat} {oi : Oper} (hi : ops[i]? = some oi) {r : List Nat} :
    ∀ (p : List Nat) (a : Act) (w : World), (∀ k ∈ p ++ r, (ops[k]?).isSome) → (∀ y ∈ p, i < y) → List.Pairwise (fun k j => pre A k j = false) (p ++ i :: r) →
      wpOps P ops Q (i :: (p ++ r)) a w → wpOps P ops Q (p ++ i :: r) a w
  | [], a, w, _, _, _, h => h
  | y :: p, a, w, hin, hgt, hpw, h => by
    obtain ⟨oy, hy⟩ := Option.isSome_iff_exists.1 (hin y (by simp))
    have hpy : ∀ j ∈ p ++ i :: r, pre A y j = false := (List.pairwise_cons.1 hpw).1
    have hpi : ∀ j ∈ r, pre A i j = false := (List.pairwise_cons.1 (List.pairwise_append.1 hpw).2.1).1
    have hiy : i < y := hgt y (by simp)
    obtain ⟨hap, hcm⟩ := hA.comm y i oy oi hy hi hiy (hpy i (by simp))
    have hin' : ∀ k ∈ i :: y :: (p ++ r), (ops[k]?).isSome := by
      intro k hk
      rcases List.mem_cons.1 hk with rfl | hk
      · simp [hi]
      · exact hin k (by simpa using hk)
    have stl_i : cls P oi.op ≤ 1 → StlV P (execOp a.eval oi) := fun hc => by
      refine stl_at hq hb hi hc hin' (fun h1 j hj oj t hoj hd ht => ?_) h
      have hp := hA.look i j oi oj t hi hoj h1 hd ht
      have hlt := (hA.down i j oi oj hi hoj hp).1
      rcases List.mem_cons.1 hj with rfl | hj
      · omega
      · rcases List.mem_cons.1 hj with rfl | hj
        · omega
        · rcases List.mem_append.1 hj with hj | hj
          · have := hgt j (by simp [hj]); omega
          · rw [hpi j hj] at hp; cases hp
    have stl_y : cls P oy.op ≤ 1 → StlV P (execOp a.eval oy) := fun hc => by
      refine stl_at hq hb hy hc hin' (fun h1 j hj oj t hoj hd ht => ?_) h
      have hp := hA.look y j oy oj t hy hoj h1 hd ht
      have hlt := (hA.down y j oy oj hy hoj hp).1
      rcases List.mem_cons.1 hj with rfl | hj
      · rw [hpy j (by simp)] at hp; cases hp
      · rcases List.mem_cons.1 hj with rfl | hj
        · omega
        · rw [hpy j (by rcases List.mem_append.1 hj with hj | hj <;> simp [hj])] at hp; cases hp
    have h2 : wpOps P ops Q (y :: i :: (p ++ r)) a w := by
      unfold comm at hcm
      simp only [Bool.or_eq_true, decide_eq_true_eq, Bool.and_eq_true, beq_iff_eq] at hcm
      rcases hcm with (hc | hc) | hc
      · exact swap_fst hq hi hy hap hA.sel (stl_i hc) h
      · exact swap_snd hq hi hy hap hA.sel (stl_y hc) h
      · exact swap_read hq hi hy hap hA.sel (read_of_cls hc.1) (read_of_cls hc.2) h
    rw [wpOps_cons] at h2
    show wpOps P ops Q (y :: (p ++ i :: r)) a w
    rw [wpOps_cons]
    refine wpOp_mono (fun a' w' h3 => ?_) h2
    exact bubble hA hq hb hi p a' w' (fun k hk => hin k (by simp at hk ⊢; exact .inr hk)) (fun z hz => hgt z (by simp [hz])) (List.pairwise_cons.1 hpw).2 h3

/-- from the text's order to every order that keeps the edges. -/
theorem reorder {A : List Nat} (hA : Checks P ops A) (hq : Only Q) (hb : Bears P ops Q) :
    ∀ (t l : List Nat), List.Pairwise (· < ·) t → (∀ k ∈ t, (ops[k]?).isSome) → l.Perm t → List.Pairwise (fun k j => pre A k j = false) l →
      ∀ (a : Act) (w : World), wpOps P ops Q t a w → wpOps P ops Q l a w
  | [], l, _, _, hp, _, a, w, h => by rw [List.perm_nil.1 hp]; exact h
  | i :: t, l, hs, hin, hp, hpw, a, w, h => by
    obtain ⟨hlt, hs'⟩ := List.pairwise_cons.1 hs
    obtain ⟨p, r, rfl⟩ := List.append_of_mem (hp.mem_iff.2 (List.mem_cons_self))
    have hpr : (p ++ r).Perm t := (List.perm_cons i).1 ((List.perm_middle.symm).trans hp)
    obtain ⟨oi, hi⟩ := Option.isSome_iff_exists.1 (hin i (by simp))
    have hin2 : ∀ k ∈ p ++ r, (ops[k]?).isSome := fun k hk => hin k (by simp [hpr.mem_iff.1 hk])
    have hpw2 : List.Pairwise (fun k j => pre A k j = false) (p ++ r) := hpw.sublist (List.Sublist.append (List.Sublist.refl _) (List.sublist_cons_self _ _))
    refine bubble hA hq hb hi p a w hin2 (fun y hy => hlt y (hpr.mem_iff.1 (by simp [hy]))) hpw ?_
    rw [wpOps_cons] at h ⊢
    exact wpOp_mono (fun a' w' h2 => reorder hA hq hb t (p ++ r) hs' (fun k hk => hin k (by simp [hk])) hpr hpw2 a' w' h2) h
end

/-! ### The orders that are drawn keep the edges -/
section
variable {P : Program} {ops : Array Oper} {A : List Nat}

theorem filter_lt {p q : Nat → Bool} : ∀ (L : List Nat), (∀ k ∈ L, q k = true → p k = true) → ∀ i ∈ L, p i = true → q i = false → (L.filter q).length < (L.filter p).length
  | [], _, i, hi, _, _ => by cases hi
  | x :: L, hqp, i, hi, hp, hq => by
    have hle : ∀ (M : List Nat), (∀ k ∈ M, q k = true → p k = true) → (M.filter q).length ≤ (M.filter p).length := by
      intro M
      induction M with
      | nil => intro _; simp
      | cons y M ih =>
        intro hM
        have h1 := ih fun k hk => hM k (by simp [hk])
        by_cases hy : q y = true
        · rw [List.filter_cons_of_pos hy, List.filter_cons_of_pos (hM y (by simp) hy)]; simp; exact h1
        · rw [List.filter_cons_of_neg hy]
          by_cases hy2 : p y = true
          · rw [List.filter_cons_of_pos hy2]; simp; omega
          · rw [List.filter_cons_of_neg hy2]; exact h1
    rcases List.mem_cons.1 hi with rfl | hi'
    · rw [List.filter_cons_of_pos hp, List.filter_cons_of_neg (by simp [hq])]
      have := hle L fun k hk => hqp k (by simp [hk])
      simp; omega
    · have h1 := filter_lt L (fun k hk => hqp k (by simp [hk])) i hi' hp hq
      by_cases hy : q x = true
      · rw [List.filter_cons_of_pos hy, List.filter_cons_of_pos (hqp x (by simp) hy)]; simp; exact h1
      · rw [List.filter_cons_of_neg hy]
        by_cases hy2 : p x = true
        · rw [List.filter_cons_of_pos hy2]; simp; omega
        · rw [List.filter_cons_of_neg hy2]; exact h1

/-- all that must come before one that is listed is listed. -/
def Shut (A : List Nat) (ops : Array Oper) (listed : Array Bool) : Prop :=
  ∀ k j, (ops[k]?).isSome → (ops[j]?).isSome → listed.getD k false = true → pre A k j = true → listed.getD j false = true

theorem pre_listed (hA : Checks P ops A) {listed : Array Bool} (hs : Shut A ops listed) {k j : Nat} {ok oj : Oper} (hk : ops[k]? = some ok) (hj : ops[j]? = some oj)
    (hall : ∀ e ∈ ok.after, Region.binds .any e = true → listed.getD e.on false = true) (hp : pre A k j = true) : listed.getD j false = true := by
  obtain ⟨_, e, he, hb, h | h⟩ := hA.down k j ok oj hk hj hp
  · rw [← h]; exact hall e he hb
  · have hlt := hA.edge k ok hk e he hb
    have hks : k < ops.size := (Array.getElem?_eq_some_iff.1 hk).1
    exact hs e.on j (by rw [Array.getElem?_eq_getElem (by omega)]; rfl) (by rw [hj]; rfl) (hall e he hb) h

theorem go_spec (hA : Checks P ops A) : ∀ (fuel t : Nat) (listed : Array Bool), listed.size = ops.size → Shut A ops listed →
    (∀ k ∈ Region.linearise.go .any ops fuel t listed [], listed.getD k true = false ∧ k < ops.size) ∧
    (Region.linearise.go .any ops fuel t listed []).Nodup ∧
    List.Pairwise (fun k j => pre A k j = false) (Region.linearise.go .any ops fuel t listed []) ∧
    (((List.range ops.size).filter fun k => !listed.getD k true).length ≤ fuel → ∀ k, k < ops.size → listed.getD k true = false → k ∈ Region.linearise.go .any ops fuel t listed [])
  | 0, t, listed, hsz, hs => by
    refine ⟨by simp [Region.linearise.go], by simp [Region.linearise.go], by simp [Region.linearise.go], fun h k hk hf => ?_⟩
    exfalso
    have h0 : ((List.range ops.size).filter fun k => !listed.getD k true) = [] := List.length_eq_zero_iff.1 (by omega)
    have := List.filter_eq_nil_iff.1 h0 k (List.mem_range.2 hk)
    rw [hf] at this; simp at this
  | fuel + 1, t, listed, hsz, hs => by
    have hdef : Region.linearise.go .any ops (fuel + 1) t listed [] = match (Region.ready .any ops listed)[t % (Region.ready .any ops listed).length]? with
      | some i => Region.linearise.go .any ops fuel (t / (Region.ready .any ops listed).length) (listed.setIfInBounds i true) [i]
      | none => [] := by
      simp only [Region.linearise.go, Region.ready]
      split <;> split <;> simp_all
    rw [hdef]
    cases hg : (Region.ready .any ops listed)[t % (Region.ready .any ops listed).length]? with
    | none =>
      dsimp only
      refine ⟨by simp, by simp, by simp, fun _ k hk hf => ?_⟩
      exfalso
      have hemp : Region.ready .any ops listed = [] := by
        rcases Nat.eq_zero_or_pos (Region.ready .any ops listed).length with h0 | h0
        · exact List.length_eq_zero_iff.1 h0
        · rw [List.getElem?_eq_getElem (Nat.mod_lt _ h0)] at hg; cases hg
      -- the least that is not listed is ready
      have : ∀ n k, k < n → k < ops.size → listed.getD k true = false → False := by
        intro n
        induction n with
        | zero => intro k h; omega
        | succ n ih =>
          intro k hkn hk hf
          have hmem : k ∈ Region.ready .any ops listed := by
            refine mem_ready.2 ⟨hf, ops[k], Array.getElem?_eq_getElem hk, fun e he hb => ?_⟩
            have hlt := hA.edge k ops[k] (Array.getElem?_eq_getElem hk) e he hb
            cases hl : listed.getD e.on true with
            | false => exact (ih e.on (by omega) (by omega) hl).elim
            | true =>
              have hes : e.on < listed.size := by omega
              simp [hes] at hl ⊢; exact hl
          rw [hemp] at hmem; cases hmem
      exact this (k + 1) k (by omega) hk hf
    | some i =>
      dsimp only
      have hmem : i ∈ Region.ready .any ops listed := List.mem_of_getElem? hg
      obtain ⟨hfi, oi, hoi, hall⟩ := mem_ready.1 hmem
      have hin : i < ops.size := (Array.getElem?_eq_some_iff.1 hoi).1
      have hs' : Shut A ops (listed.setIfInBounds i true) := by
        intro k j hk hj hkl hp
        obtain ⟨okk, hok⟩ := Option.isSome_iff_exists.1 hk
        obtain ⟨ojj, hoj⟩ := Option.isSome_iff_exists.1 hj
        by_cases hki : i = k
        · subst hki
          rw [hoi] at hok; cases hok
          exact getD_set_true (pre_listed hA hs hoi hoj hall hp)
        · rw [getD_set_ne false hki] at hkl
          exact getD_set_true (hs k j hk hj hkl hp)
      obtain ⟨g1, g2, g3, g4⟩ := go_spec hA fuel (t / (Region.ready .any ops listed).length) (listed.setIfInBounds i true) (by simpa using hsz) hs'
      rw [linearise_go_acc]
      have hset : ∀ k, (listed.setIfInBounds i true).getD k true = false → listed.getD k true = false ∧ k ≠ i := by
        intro k hk
        by_cases hki : i = k
        · subst hki
          exfalso
          have : i < listed.size := by omega
          simp [this] at hk
        · rw [getD_set_ne true hki] at hk; exact ⟨hk, fun e => hki e.symm⟩
      refine ⟨?_, ?_, ?_, ?_⟩
      · intro k hk
        rcases List.mem_append.1 hk with hk | hk
        · simp at hk; subst hk; exact ⟨hfi, hin⟩
        · exact ⟨(hset k (g1 k hk).1).1, (g1 k hk).2⟩
      · show (i :: _).Nodup
        exact List.nodup_cons.2 ⟨fun hi' => (hset i (g1 i hi').1).2 rfl, g2⟩
      · show List.Pairwise _ (i :: _)
        refine List.pairwise_cons.2 ⟨fun j hj => ?_, g3⟩
        cases hp : pre A i j with
        | false => rfl
        | true =>
          exfalso
          have hjs := (g1 j hj).2
          have hl := pre_listed hA hs hoi (Array.getElem?_eq_getElem hjs) hall hp
          have hf := (hset j (g1 j hj).1).1
          have hjl : j < listed.size := by omega
          simp [hjl] at hl hf; rw [hl] at hf; cases hf
      · intro hle k hk hf
        by_cases hki : k = i
        · subst hki; simp
        · refine List.mem_append_right _ (g4 ?_ k hk ?_)
          · have := filter_lt (p := fun k => !listed.getD k true) (q := fun k => !(listed.setIfInBounds i true).getD k true) (List.range ops.size)
              (fun k _ hk => by simp only [Bool.not_eq_true'] at hk ⊢; exact (hset k hk).1) i (List.mem_range.2 hin) (by simp only [Bool.not_eq_true']; exact hfi) (by
                have : i < listed.size := by omega
                simp [this])
            omega
          · rw [getD_set_ne true (fun e => hki e.symm)]; exact hf
end

section
variable {P : Program} {ops : Array Oper} {Q Q' : Exit → Act → World → Prop}

theorem wp_monoQ (hq : ∀ e a w, Q e a w → Q' e a w) {o : Oper} {a : Act} {w : World} {K K' : Act → World → Prop} (h : ∀ a w, K a w → K' a w)
    (hh : o.wp P a w K Q) : o.wp P a w K' Q' := by
  unfold Oper.wp at *
  generalize (execOp a.eval o).run P w = r at *
  cases r with
  | ok n w' =>
    cases n <;> simp only [Oper.upon] at hh ⊢ <;>
      first
        | exact h _ _ hh
        | exact Calls.mono hh (fun e w'' he => by
            cases e with
            | returned v => exact h _ _ he
            | panicked c => exact hq _ _ _ he
            | outgrown => obtain ⟨a, w, q⟩ := he; exact ⟨a, w, hq _ _ _ q⟩)
        | exact Rows.mono hh (fun _ _ he => h _ _ he)
  | halt x w' => cases x <;> simp only [Oper.upon] at hh ⊢ <;> first | exact hh | exact hq _ _ _ hh

theorem wpOps_monoQ (hq : ∀ e a w, Q e a w → Q' e a w) : ∀ (l : List Nat) (a : Act) (w : World), wpOps P ops Q l a w → wpOps P ops Q' l a w
  | [], a, w, h => hq _ _ _ h
  | i :: l, a, w, h => by
    rw [wpOps_cons] at h ⊢
    unfold wpOp at *
    split
    · exact wpOps_monoQ hq l a w (by simpa [*] using h)
    · rename_i o ho
      simp only [ho] at h
      split
      · rename_i hw
        simp only [hw, if_true] at h
        rcases h with h | ⟨h1, a0, w0, h2⟩
        · exact .inl (wp_monoQ hq (fun a w h => wpOps_monoQ hq l a w h) h)
        · exact .inr ⟨h1, a0, w0, hq _ _ _ h2⟩
      · rename_i hw
        simp only [hw] at h
        exact wpOps_monoQ hq l _ w h
end

/-- the masks of a region. -/
def masks (l : List Oper) : List Nat := (Region.before l.toArray).toList
/-- the evidence at the end: what the arithmetic took were integers. -/
def evAll (l : List Oper) (a : Act) : Bool := l.all (ev a)

/-- **A REGION THAT DRAWS ITS ORDER, IN THE ORDER OF ITS TEXT.** -/
theorem wp_text {P : Program} {id : Nat} {l : List Oper} {Q : Exit → Act → World → Prop} {a : Act} {w : World} (hm : P.follows .mixedOrders = true) (hok : textOk P l.toArray (masks l) = true) (hq : Only Q)
    (h : ∀ K : Act → World → Prop, (∀ a w, evAll l a = true → Q .normal a w → K a w) → wpList P l.toArray (Exit.then K Q) l a w.drew) : (Code.region id l.toArray true).wp P Q a w := by
  have hA := Checks.of hok
  have h1 := h (fun a w => evAll l a = true ∧ Q .normal a w) (fun a w he hQ => ⟨he, hQ⟩)
  rw [← wpOps_eq_wpList l 0 (by simp)] at h1
  have hq2 : Only (Exit.then (fun a w => evAll l a = true ∧ Q .normal a w) Q) := ⟨hq.panic, hq.outgrown⟩
  have hb : Bears P l.toArray (Exit.then (fun a w => evAll l a = true ∧ Q .normal a w) Q) := by
    intro a w hQ k o hk _
    exact List.all_eq_true.1 hQ.1 o (by have := Array.mem_of_getElem? hk; simpa using this)
  refine wp_region_draw fun t => ?_
  simp only [Region.schedule, hm, Bool.true_or, if_true]
  refine wpOps_monoQ (Q := Exit.then (fun a w => evAll l a = true ∧ Q .normal a w) Q) (fun e a w h => by cases e <;> first | exact h.2 | exact h) _ _ _ ?_
  obtain ⟨g1, g2, g3, g4⟩ := go_spec hA l.toArray.size t (Array.replicate l.toArray.size false) (by simp) (fun k j _ _ hk _ => by
    exfalso
    by_cases hkl : k < l.toArray.size
    · simp at hkl; simp [hkl] at hk
    · simp at hkl; simp [Nat.not_lt.2 hkl] at hk)
  have hperm : (Region.linearise .any l.toArray t).Perm (List.range' 0 l.length) := by
    refine (List.perm_ext_iff_of_nodup g2 List.nodup_range').2 fun k => ⟨fun hk => ?_, fun hk => ?_⟩
    · have := (g1 k hk).2; simp at this; simp [List.mem_range'_1, this]
    · have hkl : k < l.length := by simpa [List.mem_range'_1] using hk
      refine g4 ?_ k (by simpa using hkl) (by simp [hkl])
      exact Nat.le_trans (List.length_filter_le _ _) (by simp)
  exact reorder hA hq2 hb (List.range' 0 l.length) _ List.pairwise_lt_range' (fun k hk => by
    have hkl : k < l.length := by simpa [List.mem_range'_1] using hk
    simp [hkl]) hperm g3 a _ h1
end Go.Proofs.Ygctaj.Text
