/- How many smooth numbers lie up to a power of two: worked out by the kernel. -/
import Derived.Test.YgctajPrimeSieve
namespace Go.Proofs.Ygctaj.Pq
set_option maxRecDepth 100000 in
theorem cnt_8 : cnt 8 1 = 180 := by decide +kernel
set_option maxRecDepth 100000 in
theorem cnt_9 : cnt 9 1 = 301 := by decide +kernel
set_option maxRecDepth 100000 in
theorem cnt_10 : cnt 10 1 = 493 := by decide +kernel
set_option maxRecDepth 100000 in
theorem cnt_11 : cnt 11 1 = 787 := by decide +kernel
set_option maxRecDepth 100000 in
theorem cnt_12 : cnt 12 1 = 1227 := by decide +kernel
set_option maxRecDepth 100000 in
theorem cnt_13 : cnt 13 1 = 1887 := by decide +kernel
set_option maxRecDepth 100000 in
theorem cnt_14 : cnt 14 1 = 2856 := by decide +kernel
set_option maxRecDepth 100000 in
theorem cnt_15 : cnt 15 1 = 4252 := by decide +kernel
set_option maxRecDepth 100000 in
theorem cnt_16 : cnt 16 1 = 6239 := by decide +kernel
set_option maxRecDepth 100000 in
theorem cnt_17 : cnt 17 1 = 9042 := by decide +kernel
set_option maxRecDepth 100000 in
theorem cnt_18 : cnt 18 1 = 12948 := by decide +kernel
end Go.Proofs.Ygctaj.Pq
