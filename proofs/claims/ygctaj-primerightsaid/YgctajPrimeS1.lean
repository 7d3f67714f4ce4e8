/- The search, part 1: worked out by the kernel. -/
import Derived.Test.YgctajPrimeSieve
namespace Go.Proofs.Ygctaj.Pq
set_option linter.unusedVariables false
set_option maxRecDepth 100000 in
theorem ch_320 : ∀ q, 320 ≤ q → q ≤ 349 → qq 2 q = true := fun q h1 h2 =>
  allB_at _ _ _ _ (by decide +kernel : allB (qq 2) 349 5 320 = true) q h1 (by omega) h2
set_option maxRecDepth 100000 in
theorem ch_350 : ∀ q, 350 ≤ q → q ≤ 379 → qq 2 q = true := fun q h1 h2 =>
  allB_at _ _ _ _ (by decide +kernel : allB (qq 2) 379 5 350 = true) q h1 (by omega) h2
set_option maxRecDepth 100000 in
theorem ch_380 : ∀ q, 380 ≤ q → q ≤ 409 → qq 2 q = true := fun q h1 h2 =>
  allB_at _ _ _ _ (by decide +kernel : allB (qq 2) 409 5 380 = true) q h1 (by omega) h2
set_option maxRecDepth 100000 in
theorem ch_410 : ∀ q, 410 ≤ q → q ≤ 443 → qq 2 q = true := fun q h1 h2 =>
  allB_at _ _ _ _ (by decide +kernel : allB (qq 2) 443 6 410 = true) q h1 (by omega) h2
end Go.Proofs.Ygctaj.Pq
