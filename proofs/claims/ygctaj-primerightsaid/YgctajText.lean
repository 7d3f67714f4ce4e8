/-
  A REGION THAT DRAWS ITS ORDER, WALKED IN THE ORDER OF ITS TEXT: wherever of any two of its operations that no edge orders one is still
  (it looks at no memory and turns none) or both only read, and they touch no temporary of one another, every order comes to the same end.
-/
import Derived.Test.YgctajRows
import Derived.WalkKit
import Derived.ProofKit
import Derived.Orders
namespace Go.Proofs.Ygctaj.Text
open Go
set_option linter.unusedVariables false
set_option linter.unusedSimpArgs false

/-- The run of s hangs on no world: it yields x in every world and leaves it, or never comes to an end that is well. -/
def Stl (P : Program) {α : Type} (s : Sem α) : Prop :=
  (∃ x, ∀ w, s.run P w = .ok x w) ∨ (∀ w, ∃ h w', s.run P w = .halt h w')

theorem Stl.pure {P : Program} {α : Type} (x : α) : Stl P (Pure.pure x : Sem α) := .inl ⟨x, fun _ => rfl⟩
theorem Stl.bind {P : Program} {α β : Type} {s : Sem α} {k : α → Sem β} (h : Stl P s) (hk : ∀ x, Stl P (k x)) : Stl P (s >>= k) := by
  rcases h with ⟨x, hx⟩ | h
  · rcases hk x with ⟨y, hy⟩ | h2
    · exact .inl ⟨y, fun w => by rw [Sem.run_bind, hx w]; exact hy w⟩
    · exact .inr fun w => by rw [Sem.run_bind, hx w]; exact h2 w
  · exact .inr fun w => by
      obtain ⟨x, w', e⟩ := h w
      exact ⟨x, w', by rw [Sem.run_bind, e]; rfl⟩
theorem Stl.halt {P : Program} {α : Type} (h : Halt) : Stl P (Sem.halt h : Sem α) := .inr fun w => ⟨h, w, rfl⟩
theorem Stl.stuck {P : Program} {α : Type} (s : String) : Stl P (stuck s : Sem α) := .halt _
theorem Stl.unsupported {P : Program} {α : Type} (s : Unsupported) : Stl P (unsupported s : Sem α) := .halt _
theorem Stl.program {P : Program} : Stl P (program) := .inl ⟨P, fun _ => rfl⟩
theorem Stl.underlying {P : Program} (t : TypeId) : Stl P (underlying t) := by
  unfold Go.underlying
  refine Stl.program.bind fun p => ?_
  split
  · exact .pure _
  · exact .stuck _
theorem Stl.typeInfo {P : Program} (t : TypeId) : Stl P (typeInfo t) := by
  unfold Go.typeInfo
  refine Stl.program.bind fun p => ?_
  split
  · exact .pure _
  · exact .stuck _
theorem Stl.sizeOf {P : Program} (t : TypeId) : Stl P (Go.sizeOf t) := (Stl.typeInfo t).bind fun _ => .pure _
theorem Stl.isAgg {P : Program} (t : TypeId) : Stl P (Go.isAgg t) := by
  refine (Stl.underlying t).bind fun d => ?_
  split <;> exact .pure _
theorem Stl.asIntOf {P : Program} (v : Value) : Stl P (Go.asIntOf v) := by
  cases v <;> first | exact .pure _ | exact .stuck _ | skip
  case pointer a => cases a <;> first | exact .stuck _ | exact .unsupported _
theorem Stl.asBool {P : Program} (v : Value) : Stl P (Go.asBool v) := by
  cases v <;> first | exact .pure _ | exact .stuck _
theorem Stl.asAgg {P : Program} (v : Value) : Stl P (Go.asAgg v) := by
  cases v <;> first | exact .pure _ | exact .stuck _
/-- s never comes to an end that is well. -/
def Nvr (P : Program) {α : Type} (s : Sem α) : Prop := ∀ w, ∃ h w', s.run P w = .halt h w'
theorem Nvr.stl {P : Program} {α : Type} {s : Sem α} (h : Nvr P s) : Stl P s := .inr h
theorem Nvr.bind {P : Program} {α β : Type} {s : Sem α} {k : α → Sem β} (h : ∀ x, Nvr P (k x)) : Nvr P (s >>= k) := by
  intro w
  rw [Sem.run_bind]
  cases s.run P w with
  | ok x w1 => exact h x w1
  | halt x w1 => exact ⟨x, w1, rfl⟩
theorem Nvr.goPanic {P : Program} {α : Type} (v : Value) : Nvr P (goPanic v : Sem α) := fun w => ⟨_, w, rfl⟩
theorem Nvr.runtimePanic {P : Program} {α : Type} (e : RuntimeError) : Nvr P (Go.runtimePanic e : Sem α) := by
  unfold Go.runtimePanic
  refine Nvr.bind fun p => ?_
  cases e <;> first
    | exact Nvr.goPanic _
    | exact Nvr.bind fun _ => Nvr.bind fun _ => Nvr.goPanic _
theorem Nvr.boundsPanic {P : Program} {α : Type} (k : IntKind) (x y : Int) (c : BoundsCode) : Nvr P (Go.boundsPanic k x y c : Sem α) := by
  unfold Go.boundsPanic
  dsimp only
  split
  · exact Nvr.bind fun _ => Nvr.runtimePanic _
  · first | exact Nvr.runtimePanic _ | exact Nvr.bind fun _ => Nvr.runtimePanic _
theorem Stl.bounds {P : Program} {α : Type} (k : IntKind) (x y : Int) (c : BoundsCode) : Stl P (Go.boundsPanic k x y c : Sem α) := (Nvr.boundsPanic k x y c).stl
theorem Stl.panics {P : Program} {α : Type} (e : RuntimeError) : Stl P (Go.runtimePanic e : Sem α) := (Nvr.runtimePanic e).stl
theorem Stl.sureAddr {P : Program} (v : Value) : Stl P (Instr.sureAddr v) := by
  cases v <;> first | exact .stuck _ | skip
  case pointer a => cases a <;> first | exact .stuck _ | exact .pure _
theorem Stl.asAddr {P : Program} (v : Value) : Stl P (Go.asAddr v) := by
  cases v <;> first | exact .stuck _ | skip
  case pointer a =>
    cases a with
    | none => exact Nvr.stl (Nvr.runtimePanic .nilDeref)
    | some a => exact .pure _
theorem Stl.ite {P : Program} {α : Type} {c : Prop} [Decidable c] {x y : Sem α} (hx : Stl P x) (hy : Stl P y) : Stl P (if c then x else y) := by
  split
  · exact hx
  · exact hy
theorem Stl.sliceBound {P : Program} (x : Value) (y : Nat) (c : BoundsCode) : Stl P (Instr.sliceBound x y c) :=
  (Stl.asIntOf x).bind fun _ => .ite (.pure _) (.bounds _ _ _ _)
theorem Stl.sliceBounds {P : Program} (i : Bool) (l c : Nat) (lo hi mx : Option Value) : Stl P (Instr.sliceBounds i l c lo hi mx) := by
  unfold Instr.sliceBounds
  cases mx <;> cases hi <;> cases lo <;> dsimp only <;>
    repeat' first | exact Stl.pure _ | exact Stl.stuck _ | exact Stl.bind (Stl.stuck _) (fun _ => Stl.pure _) | refine Stl.bind (Stl.sliceBound _ _ _) (fun _ => ?_) | refine Stl.bind (Stl.pure _) (fun _ => ?_) | refine Stl.bind (Stl.stuck _) (fun _ => ?_)
theorem Stl.slice {P : Program} (t : TypeId) (x : Value) (lo hi mx : Option Value) : Stl P (Instr.slice t x lo hi mx) := by
  unfold Instr.slice
  refine (Stl.underlying t).bind fun d => ?_
  split
  · split
    · exact .stuck _
    · exact (Stl.sliceBounds _ _ _ _ _ _).bind fun _ => .pure _
  · exact (Stl.sliceBounds _ _ _ _ _ _).bind fun _ => (Stl.sizeOf _).bind fun _ => .pure _
  · refine (Stl.asAddr _).bind fun a => (Stl.underlying _).bind fun d => ?_
    split
    · exact (Stl.sliceBounds _ _ _ _ _ _).bind fun _ => (Stl.sizeOf _).bind fun _ => .pure _
    · exact .stuck _
  · exact .stuck _
theorem Stl.sliceAt {P : Program} (t : TypeId) (x : Value) (lo hi mx : Option Value) : Stl P (Instr.sliceAt t x lo hi mx) := by
  unfold Instr.sliceAt
  refine (Stl.underlying t).bind fun d => ?_
  split
  · exact (Stl.sureAddr _).bind fun a => (Stl.sliceBounds _ _ _ _ _ _).bind fun _ => (Stl.sizeOf _).bind fun _ => .pure _
  · exact .slice _ _ _ _ _
theorem Stl.indexTail {P : Program} (t : TypeId) (k : IntKind) (i : Int) (base : Option Addr) (len : Nat) (elem : TypeId) (f : TypeDesc → Bool) : Stl P (do
    let d ← Go.underlying t
    match base with
    | some a => if 0 ≤ i ∧ i < len then do Pure.pure (Value.pointer (some (a.add (i.toNat * (← Go.sizeOf elem))))) else if f d then Go.unsupported (.noEntry "op/indexAddr.an index out of range at an array of length 0 or 1 (ledger 616)") else Go.boundsPanic k i len .index
    | none => Go.boundsPanic k i 0 .index : Sem Value) := by
  refine (Stl.underlying t).bind fun d2 => ?_
  cases base with
  | none => exact .bounds _ _ _ _
  | some a => exact .ite ((Stl.sizeOf _).bind fun _ => .pure _) (.ite (.unsupported _) (.bounds _ _ _ _))
theorem Stl.indexAt {P : Program} (t : TypeId) (x i : Value) : Stl P (Instr.indexAt t x i) := by
  unfold Instr.indexAt
  refine (Stl.asIntOf _).bind fun ki => (Stl.underlying t).bind fun d => ?_
  dsimp only
  split
  · refine (Stl.sureAddr _).bind fun a => ?_
    exact Stl.indexTail t ki.1 ki.2 (some a) _ _ _
  · exact Stl.indexTail t ki.1 ki.2 _ _ _ _
  · first | exact .stuck _ | exact Stl.bind (.stuck _) fun _ => Stl.indexTail t ki.1 ki.2 _ _ _ _
theorem Stl.extract {P : Program} (v : Value) (i : Nat) : Stl P (Instr.extract v i) := by
  unfold Instr.extract
  split
  · split
    · exact .pure _
    · exact .stuck _
  · exact .stuck _
theorem Stl.unary {P : Program} (op : UnOp) (v : Value) : Stl P (Op.unary op v) := by
  unfold Op.unary
  split <;> first | exact .pure _ | exact .stuck _ | exact .unsupported _ | (unfold Op.intArith; split <;> first | exact .pure _ | exact .stuck _) | (unfold Op.intBits; dsimp only; split <;> first | exact .pure _ | exact .stuck _)

/-- an integer, or nothing (an operation that was passed over). -/
def intOr : Value → Bool
  | .int _ _ => true
  | .tuple _ => true
  | _ => false
/-- a pointer, or nothing. -/
def ptrOr : Value → Bool
  | .pointer _ => true
  | .tuple _ => true
  | _ => false

theorem Stl.binInt {P : Program} (op : BinOp) (t : TypeId) (k k' : IntKind) (x y : Int) : Stl P (binOp op t (.int k x) (.int k' y)) := by
  have hs : ∀ o, Stl P (Op.shift o k x k' y) := fun o => by
    unfold Op.shift
    refine .ite (.panics _) ?_
    dsimp only
    split <;> first | exact .pure _ | exact .stuck _
  have h1 : ∀ o, Stl P (Op.intArith o k x y) := fun o => by unfold Op.intArith; split <;> first | exact .pure _ | exact .stuck _
  have h2 : ∀ o, Stl P (Op.intDiv o k x y) := fun o => by
    unfold Op.intDiv
    refine .ite (.panics _) ?_
    split <;> first | exact .pure _ | exact .stuck _
  have h3 : ∀ o, Stl P (Op.intBits o k x y) := fun o => by unfold Op.intBits; dsimp only; split <;> first | exact .pure _ | exact .stuck _
  have h4 : ∀ o, Stl P (Op.intCmp o x y) := fun o => by unfold Op.intCmp; split <;> first | exact .pure _ | exact .stuck _
  cases op <;> simp only [binOp] <;> first
    | exact hs _
    | exact .ite (.stuck _) (h1 _)
    | exact .ite (.stuck _) (h2 _)
    | exact .ite (.stuck _) (h3 _)
    | exact .ite (.stuck _) (h4 _)

theorem Stl.equalTuple {P : Program} (t : TypeId) (vs : Array Value) (v : Value) (hv : intOr v = true) : Stl P (Op.equal t (.tuple vs) v) ∧ Stl P (Op.equal t v (.tuple vs)) := by
  unfold Op.equal
  show Stl P (Op.equalIn (9999 + 1) t _ _) ∧ Stl P (Op.equalIn (9999 + 1) t _ _)
  unfold Op.equalIn
  constructor
  · refine (Stl.underlying t).bind fun d => ?_
    cases v <;> simp [intOr] at hv <;> (cases d <;> exact .stuck _)
  · refine (Stl.underlying t).bind fun d => ?_
    cases v <;> simp [intOr] at hv <;> (cases d <;> exact .stuck _)

theorem Stl.binTuple {P : Program} (op : BinOp) (t : TypeId) (vs : Array Value) (v : Value) (hv : intOr v = true) : Stl P (binOp op t (.tuple vs) v) ∧ Stl P (binOp op t v (.tuple vs)) := by
  have he := Stl.equalTuple (P := P) t vs v hv
  cases v <;> simp [intOr] at hv <;> (cases op <;> first
    | exact ⟨.stuck _, .stuck _⟩
    | exact ⟨he.1.bind fun _ => .pure _, he.2.bind fun _ => .pure _⟩)
theorem Stl.bin {P : Program} (op : BinOp) (t : TypeId) (x y : Value) (hx : intOr x = true) (hy : intOr y = true) : Stl P (binOp op t x y) := by
  cases x <;> simp [intOr] at hx
  case int k n =>
    cases y <;> simp [intOr] at hy
    case int k' m => exact .binInt op t k k' n m
    case tuple vs => exact (Stl.binTuple op t vs (.int k n) rfl).2
  case tuple vs => exact (Stl.binTuple op t vs y hy).1
theorem Stl.eqGuard {P : Program} (op : BinOp) (t : TypeId) (x y : Operand) (a b : Value) (ha : intOr a = true) (hb : intOr b = true) : Stl P (eqGuard op t x y a b) := by
  unfold Go.eqGuard
  cases a <;> simp [intOr] at ha <;> (cases b <;> simp [intOr] at hb <;> (cases op <;> exact .pure _))

/-- 'x.f': the field is no field without cells. -/
def fieldOk (P : Program) (s : TypeId) (f : Nat) : Bool :=
  match P.underlying s with
  | some (.struct fields) => match fields[f]? with
    | some fd => match P.info? fd.type with
      | some i => i.size != 0
      | none => false
    | none => false
  | _ => false
theorem Stl.fieldAt {P : Program} (s : TypeId) (v : Value) (f : Nat) (h : fieldOk P s f = true) : Stl P (Instr.fieldAt s v f) := by
  unfold fieldOk at h
  split at h
  · rename_i fields hu
    split at h
    · rename_i fd hf
      split at h
      · rename_i i hi
        have hs : (Go.sizeOf fd.type).run P = fun w => .ok i.size w := by
          funext w; simp [Go.sizeOf, Go.typeInfo, hi, go_sem]
        have hz : i.size ≠ 0 := by simpa using h
        have hun : (Go.underlying s).run P = fun w => .ok (.struct fields) w := by
          funext w; simp [Go.underlying, hu, go_sem]
        cases v with
        | pointer a =>
          cases a with
          | none => exact .inr fun w => by simp [Instr.fieldAt, hun, hf, go_sem, Sem.run]
          | some a => exact .inl ⟨.pointer (some (a.add fd.offset)), fun w => by simp [Instr.fieldAt, hun, hf, fieldPlace, hs, hz, Sem.run, go_sem]⟩
        | _ => exact .inr fun w => by simp [Instr.fieldAt, hun, hf, go_sem, Sem.run]
      · simp at h
    · simp at h
  · simp at h

/-- an integer's type. -/
def intType (P : Program) (t : TypeId) : Bool := match P.underlying t with | some (.int _) => true | _ => false
theorem Stl.convert {P : Program} (src dst : TypeId) (v : Value) (hs : intType P src = true) (hd : intType P dst = true) (hv : intOr v = true) : Stl P (convert src dst v) := by
  unfold intType at hs hd
  split at hs <;> simp at hs
  split at hd <;> simp at hd
  rename_i k1 h1 _ k2 h2
  have e1 : (Go.underlying src).run P = fun w => .ok (.int k1) w := by funext w; simp [Go.underlying, h1, go_sem]
  have e2 : (Go.underlying dst).run P = fun w => .ok (.int k2) w := by funext w; simp [Go.underlying, h2, go_sem]
  cases v <;> simp [intOr] at hv
  case int k n => exact .inl ⟨.int k2 (k2.wrap n), fun w => by simp [Go.convert, e1, e2, Conv.intToInt, go_sem]⟩
  case tuple vs => exact .inr fun w => by simp [Go.convert, e1, e2, Sem.run, go_sem]

/-! ### The classes -/
/-- 0: still, whatever the operands · 1: still at integers (a nil check: at pointers) · 2: reads · 3: else. -/
def cls (P : Program) : Op → Nat
  | .move _ | .assign _ | .pick .. | .unOp .. | .slice .. | .indexAddr .. | .extract .. => 0
  | .fieldAddr s _ f => if fieldOk P s f then 0 else 3
  | .binOp .. | .nilCheck _ => 1
  | .convert src dst _ => if intType P src && intType P dst then 1 else 3
  | .call { callee := .builtin .len, argTypes, .. } => match argTypes[0]? with
    | some t => match P.underlying t with
      | some (.slice _) => 0
      | _ => 3
    | none => 3
  | .load .. => 2
  | _ => 3

/-- what the operands hold fits the class 1. -/
def ev (a : Act) (o : Oper) : Bool :=
  match o.op with
  | .binOp _ _ x y _ => intOr (a.eval x) && intOr (a.eval y)
  | .convert _ _ x => intOr (a.eval x)
  | .nilCheck x => ptrOr (a.eval x)
  | _ => true

/-- a still operation's run: a value in every world, or never well. -/
def StlV (P : Program) (s : Sem Next) : Prop := (∃ v, ∀ w, s.run P w = .ok (.value v) w) ∨ Nvr P s

theorem Stl.toV {P : Program} {s : Sem Value} (h : Stl P s) : StlV P (do Pure.pure (Next.value (← s))) := by
  rcases h with ⟨x, hx⟩ | h
  · exact .inl ⟨x, fun w => by rw [Sem.run_bind, hx w]; rfl⟩
  · exact .inr fun w => by
      obtain ⟨x, w', e⟩ := h w
      exact ⟨x, w', by rw [Sem.run_bind, e]; rfl⟩

theorem Stl.len {P : Program} {t e : TypeId} {ts : Array TypeId} (ht : ts[0]? = some t) (hu : P.underlying t = some (.slice e)) (ty : TypeId) (vs : Array Value) : Stl P (Builtin.len_ ts ty vs) := by
  have e1 : (Go.underlying t).run P = fun w => .ok (.slice e) w := by funext w; simp [Go.underlying, hu, go_sem]
  unfold Builtin.len_
  rw [ht]
  cases hv : vs[0]? with
  | none => exact .stuck _
  | some v =>
    dsimp only
    cases v with
    | slice a n c => exact .inl ⟨goInt n, fun w => by simp [e1]⟩
    | _ => exact .inr fun w => by simp [e1, Sem.run, go_sem]

theorem stlV_of_cls {P : Program} {a : Act} {o : Oper} (hc : cls P o.op ≤ 1) (he : ev a o = true) : StlV P (execOp a.eval o) := by
  unfold execOp
  unfold ev at he
  cases hop : o.op with
  | move x => exact .inl ⟨_, fun w => rfl⟩
  | assign x => exact .inl ⟨_, fun w => rfl⟩
  | pick c x y =>
    dsimp only
    rcases Stl.asBool (P := P) (a.eval c) with ⟨b, hb⟩ | h
    · exact .inl ⟨_, fun w => by rw [Sem.run_bind, hb w]; rfl⟩
    · exact .inr fun w => by
        obtain ⟨x, w', e⟩ := h w
        exact ⟨x, w', by rw [Sem.run_bind, e]; rfl⟩
  | unOp op t x => exact (Stl.unary _ _).toV
  | slice t x lo hi mx => exact (Stl.sliceAt _ _ _ _ _).toV
  | indexAddr t x i => exact (Stl.indexAt _ _ _).toV
  | extract t i => exact (Stl.extract _ _).toV
  | fieldAddr s x f =>
    rw [hop] at hc
    refine (Stl.fieldAt s _ f ?_).toV
    simp only [cls] at hc
    split at hc
    · assumption
    · omega
  | binOp op t x y yt =>
    rw [hop] at he
    simp only [Bool.and_eq_true] at he
    exact Stl.toV ((Stl.eqGuard op t x y _ _ he.1 he.2).bind fun _ => .bin op t _ _ he.1 he.2)
  | convert src dst x =>
    rw [hop] at he hc
    simp only [cls] at hc
    split at hc
    · rename_i h; simp only [Bool.and_eq_true] at h; exact (Stl.convert src dst _ h.1 h.2 he).toV
    · omega
  | nilCheck x =>
    rw [hop] at he
    dsimp only at he ⊢
    cases hv : a.eval x <;> rw [hv] at he <;> simp [ptrOr] at he
    case pointer p =>
      cases p with
      | none => exact .inr (Nvr.runtimePanic _)
      | some p => exact .inl ⟨_, fun w => rfl⟩
    case tuple vs => exact .inl ⟨_, fun w => rfl⟩
  | call c =>
    rw [hop] at hc
    obtain ⟨callee, args, argTypes⟩ := c
    cases callee with
    | builtin b =>
      cases b <;> simp [cls] at hc
      case len =>
        split at hc
        · rename_i t ht
          split at hc
          · rename_i e hu
            exact (Stl.len ht hu _ _).toV
          · omega
        · omega
    | value f => simp [cls] at hc
    | invoke r n => simp [cls] at hc
  | _ => rw [hop] at hc; simp [cls] at hc
end Go.Proofs.Ygctaj.Text
