/- The search, part 2: worked out by the kernel. -/
import Derived.Test.YgctajPrimeSieve
namespace Go.Proofs.Ygctaj.Pq
set_option linter.unusedVariables false
set_option maxRecDepth 100000 in
theorem ch_444 : ∀ q, 444 ≤ q → q ≤ 479 → qq 2 q = true := fun q h1 h2 =>
  allB_at _ _ _ _ (by decide +kernel : allB (qq 2) 479 6 444 = true) q h1 (by omega) h2
set_option maxRecDepth 100000 in
theorem ch_480 : ∀ q, 480 ≤ q → q ≤ 512 → qq 2 q = true := fun q h1 h2 =>
  allB_at _ _ _ _ (by decide +kernel : allB (qq 2) 512 6 480 = true) q h1 (by omega) h2
set_option maxRecDepth 100000 in
theorem ch_513 : ∀ q, 513 ≤ q → q ≤ 577 → qq 3 q = true := fun q h1 h2 =>
  allB_at _ _ _ _ (by decide +kernel : allB (qq 3) 577 7 513 = true) q h1 (by omega) h2
set_option maxRecDepth 100000 in
theorem ch_578 : ∀ q, 578 ≤ q → q ≤ 647 → qq 3 q = true := fun q h1 h2 =>
  allB_at _ _ _ _ (by decide +kernel : allB (qq 3) 647 7 578 = true) q h1 (by omega) h2
set_option maxRecDepth 100000 in
theorem ch_648 : ∀ q, 648 ≤ q → q ≤ 739 → qq 3 q = true := fun q h1 h2 =>
  allB_at _ _ _ _ (by decide +kernel : allB (qq 3) 739 7 648 = true) q h1 (by omega) h2
end Go.Proofs.Ygctaj.Pq
