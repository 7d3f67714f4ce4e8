/- The search, part 4: worked out by the kernel. -/
import Derived.Test.YgctajPrimeSieve
namespace Go.Proofs.Ygctaj.Pq
set_option linter.unusedVariables false
set_option maxRecDepth 100000 in
theorem ch_2049 : ∀ q, 2049 ≤ q → q ≤ 3671 → qq 5 q = true := fun q h1 h2 =>
  allB_at _ _ _ _ (by decide +kernel : allB (qq 5) 3671 11 2049 = true) q h1 (by omega) h2
set_option maxRecDepth 100000 in
theorem ch_3672 : ∀ q, 3672 ≤ q → q ≤ 4096 → qq 5 q = true := fun q h1 h2 =>
  allB_at _ _ _ _ (by decide +kernel : allB (qq 5) 4096 9 3672 = true) q h1 (by omega) h2
set_option maxRecDepth 100000 in
theorem ch_4097 : ∀ q, 4097 ≤ q → q ≤ 8192 → qq 6 q = true := fun q h1 h2 =>
  allB_at _ _ _ _ (by decide +kernel : allB (qq 6) 8192 12 4097 = true) q h1 (by omega) h2
set_option maxRecDepth 100000 in
theorem ch_8193 : ∀ q, 8193 ≤ q → q ≤ 16384 → qq 8 q = true := fun q h1 h2 =>
  allB_at _ _ _ _ (by decide +kernel : allB (qq 8) 16384 13 8193 = true) q h1 (by omega) h2
set_option maxRecDepth 100000 in
theorem ch_16385 : ∀ q, 16385 ≤ q → q ≤ 32768 → qq 11 q = true := fun q h1 h2 =>
  allB_at _ _ _ _ (by decide +kernel : allB (qq 11) 32768 14 16385 = true) q h1 (by omega) h2
set_option maxRecDepth 100000 in
theorem ch_32769 : ∀ q, 32769 ≤ q → q ≤ 65536 → qq 15 q = true := fun q h1 h2 =>
  allB_at _ _ _ _ (by decide +kernel : allB (qq 15) 65536 15 32769 = true) q h1 (by omega) h2
set_option maxRecDepth 100000 in
theorem ch_65537 : ∀ q, 65537 ≤ q → q ≤ 126151 → qq 21 q = true := fun q h1 h2 =>
  allB_at _ _ _ _ (by decide +kernel : allB (qq 21) 126151 16 65537 = true) q h1 (by omega) h2
set_option maxRecDepth 100000 in
theorem ch_126152 : ∀ q, 126152 ≤ q → q ≤ 131072 → qq 21 q = true := fun q h1 h2 =>
  allB_at _ _ _ _ (by decide +kernel : allB (qq 21) 131072 13 126152 = true) q h1 (by omega) h2
set_option maxRecDepth 100000 in
theorem ch_131073 : ∀ q, 131073 ≤ q → q ≤ 184057 → qq 28 q = true := fun q h1 h2 =>
  allB_at _ _ _ _ (by decide +kernel : allB (qq 28) 184057 16 131073 = true) q h1 (by omega) h2
end Go.Proofs.Ygctaj.Pq
