/- nlong.Div: its contract. -/
import Derived.Test.YgctajDiv2
namespace Go.Proofs.Ygctaj.Nt
open Go.RowKit Mem
set_option linter.unusedVariables false

theorem div_any (a b : Value) (na nb A B : Nat) (w : World) (hna : na ≤ 2900) (hnb : nb ≤ 2900) (ha : Na w a na A) (hb : Na w b nb B) (hB : B ≠ 0) :
    Calls Tajg.prog 25 #[a, b] w fun e w' => ∃ q r, e = .returned (.tuple #[q, r, .bool true]) ∧ Nm w' q (A / B) ∧ Nm w' r (A % B) ∧ Fr w.heap.size w' q ∧ Fr w.heap.size w' r ∧ Same w w' := by
  by_cases h : dl A < dl B
  · exact div_less a b na nb A B w (by omega) (by omega) ha hb hB h
  · exact div_more a b na nb A B w hna hnb ha hb hB (by omega)
end Go.Proofs.Ygctaj.Nt
