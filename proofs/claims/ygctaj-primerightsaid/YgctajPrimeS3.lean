/- The search, part 3: worked out by the kernel. -/
import Derived.Test.YgctajPrimeSieve
namespace Go.Proofs.Ygctaj.Pq
set_option linter.unusedVariables false
set_option maxRecDepth 100000 in
theorem ch_740 : ∀ q, 740 ≤ q → q ≤ 859 → qq 3 q = true := fun q h1 h2 =>
  allB_at _ _ _ _ (by decide +kernel : allB (qq 3) 859 7 740 = true) q h1 (by omega) h2
set_option maxRecDepth 100000 in
theorem ch_860 : ∀ q, 860 ≤ q → q ≤ 1024 → qq 3 q = true := fun q h1 h2 =>
  allB_at _ _ _ _ (by decide +kernel : allB (qq 3) 1024 8 860 = true) q h1 (by omega) h2
set_option maxRecDepth 100000 in
theorem ch_1025 : ∀ q, 1025 ≤ q → q ≤ 1259 → qq 4 q = true := fun q h1 h2 =>
  allB_at _ _ _ _ (by decide +kernel : allB (qq 4) 1259 8 1025 = true) q h1 (by omega) h2
set_option maxRecDepth 100000 in
theorem ch_1260 : ∀ q, 1260 ≤ q → q ≤ 1697 → qq 4 q = true := fun q h1 h2 =>
  allB_at _ _ _ _ (by decide +kernel : allB (qq 4) 1697 9 1260 = true) q h1 (by omega) h2
set_option maxRecDepth 100000 in
theorem ch_1698 : ∀ q, 1698 ≤ q → q ≤ 2048 → qq 4 q = true := fun q h1 h2 =>
  allB_at _ _ _ _ (by decide +kernel : allB (qq 4) 2048 9 1698 = true) q h1 (by omega) h2
end Go.Proofs.Ygctaj.Pq
