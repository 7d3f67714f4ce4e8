/- The search, part 5: worked out by the kernel. -/
import Derived.Test.YgctajPrimeSieve
namespace Go.Proofs.Ygctaj.Pq
set_option linter.unusedVariables false
set_option maxRecDepth 100000 in
theorem ch_184058 : ∀ q, 184058 ≤ q → q ≤ 237971 → qq 28 q = true := fun q h1 h2 =>
  allB_at _ _ _ _ (by decide +kernel : allB (qq 28) 237971 16 184058 = true) q h1 (by omega) h2
set_option maxRecDepth 100000 in
theorem ch_237972 : ∀ q, 237972 ≤ q → q ≤ 262144 → qq 28 q = true := fun q h1 h2 =>
  allB_at _ _ _ _ (by decide +kernel : allB (qq 28) 262144 15 237972 = true) q h1 (by omega) h2
set_option maxRecDepth 100000 in
theorem ch_262145 : ∀ q, 262145 ≤ q → q ≤ 320839 → qq 25 q = true := fun q h1 h2 =>
  allB_at _ _ _ _ (by decide +kernel : allB (qq 25) 320839 16 262145 = true) q h1 (by omega) h2
set_option maxRecDepth 100000 in
theorem ch_320840 : ∀ q, 320840 ≤ q → q ≤ 331684 → qq 25 q = true := fun q h1 h2 =>
  allB_at _ _ _ _ (by decide +kernel : allB (qq 25) 331684 14 320840 = true) q h1 (by omega) h2
end Go.Proofs.Ygctaj.Pq
