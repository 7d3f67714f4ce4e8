import Derived.Test.YgctajMem
import Derived.Test.YgctajShoup
namespace Go.Proofs.Ygctaj.Ntt
open Go.RowKit Mem
set_option linter.unusedVariables false
set_option linter.unusedSimpArgs false

/-- a factor as a value: w, and w*2^32/P. -/
def fac (f : Nat) : Value := .agg #[.int .u32 (f : Int), .int .u32 ((f * 4294967296 / 998244353 : Nat) : Int)]

set_option maxHeartbeats 400000 in
theorem times_raw (f r x : Int) (w : World) (hx0 : 0 ≤ x) (hx1 : x ≤ 4294967295) (hf0 : 0 ≤ f) (hf1 : f ≤ 4294967295) (hr0 : 0 ≤ r) (hr1 : r ≤ 4294967295)
    (h1 : x * r ≤ 18446744073709551615) (h0 : 0 ≤ x * r) :
    Calls Tajg.prog 83 #[.agg #[.int .u32 f, .int .u32 r], .int .u32 x] w fun e w' => e = .returned (.int .u32 ((x * f % 4294967296 - x * r / 4294967296 * 998244353 % 4294967296) % 4294967296)) ∧ Same w w' := by
  go_enter Tajg.func83, Tajg.ntmps83
  go_wp2_with fail
  go_ret
  exact ⟨rfl, (Chg.refl _ _).alloc _⟩

theorem times_any (f x : Nat) (w : World) (hf : f < 998244353) (hx : x < 4294967296) :
    Calls Tajg.prog 83 #[fac f, .int .u32 (x : Int)] w fun e w' => e = .returned (.int .u32 (shoup f x : Int)) ∧ Same w w' := by
  have hr := ratio_lt f hf
  have hp := prod_lt hx hr
  have hi := shoup_int f x hx
  unfold fac
  generalize f * 4294967296 / 998244353 = r at *
  have e1 : (x : Int) * f = ((x * f : Nat) : Int) := (Int.natCast_mul x f).symm
  have e2 : (x : Int) * r / 4294967296 = ((x * r / 4294967296 : Nat) : Int) := by simp
  refine (times_raw f r x w (by omega) (by omega) (by omega) (by omega) (by omega) (by omega) (by rw [← Int.natCast_mul]; omega) (by rw [← Int.natCast_mul]; omega)).mono ?_
  rintro e w' ⟨rfl, hs⟩
  exact ⟨ret_int (by rw [e1, e2]; exact hi), hs⟩

set_option maxHeartbeats 400000 in
theorem fold_any (x : Int) (w : World) (h0 : 0 ≤ x) (h1 : x < 1996488706) :
    Calls Tajg.prog 82 #[.int .u32 x] w fun e w' => e = .returned (.int .u32 (x % 998244353)) ∧ w' = w := by
  by_cases h : x < 998244353
  · go_enter Tajg.func82, Tajg.ntmps82
    go_wp2_with fail
    go_ret
    exact ⟨ret_int (by omega), rfl⟩
  · go_enter Tajg.func82, Tajg.ntmps82
    go_wp2_with fail
    go_ret
    exact ⟨ret_int (by omega), rfl⟩

set_option maxHeartbeats 400000 in
theorem factorOf_any (f : Nat) (w : World) (h1 : f < 998244353) :
    Calls Tajg.prog 81 #[.int .u32 (f : Int)] w fun e w' => e = .returned (fac f) ∧ Same w w' := by
  have hr := ratio_lt f h1
  go_enter Tajg.func81, Tajg.ntmps81
  go_wp2_with fail
  refine bodyPost_ret (v := fac f) (by simp [results, Tajg.results81, go_sem, fac]) rfl ⟨rfl, (Chg.refl _ _).alloc _⟩
end Go.Proofs.Ygctaj.Ntt
