/- Shoup's product, plain. -/
namespace Go.Proofs.Ygctaj.Ntt

/-- Shoup's product: x*f modulo P, or P more. -/
def shoup (f x : Nat) : Nat := x * f - x * (f * 4294967296 / 998244353) / 4294967296 * 998244353

theorem shoup_le_aux (q xr xf : Nat) (h1 : q * 4294967296 ≤ xr) (h3 : xr * 998244353 ≤ xf * 4294967296) : q * 998244353 ≤ xf := by
  have h2 := Nat.mul_le_mul_right 998244353 h1
  rw [Nat.mul_right_comm] at h2
  exact Nat.le_of_mul_le_mul_right (Nat.le_trans h2 h3) (by decide)

theorem shoup_le (f x : Nat) : x * (f * 4294967296 / 998244353) / 4294967296 * 998244353 ≤ x * f :=
  shoup_le_aux _ _ _ (Nat.div_mul_le_self _ _) (by
    rw [Nat.mul_assoc, Nat.mul_assoc]; exact Nat.mul_le_mul_left x (Nat.div_mul_le_self _ _))

theorem shoup_lt_aux (q xr xf x : Nat) (hx : x < 4294967296) (h1 : xr < (q + 1) * 4294967296) (h3 : xf * 4294967296 ≤ xr * 998244353 + x * 998244353) : xf - q * 998244353 < 1996488706 := by
  have h2 : xr * 998244353 < (q + 1) * 4294967296 * 998244353 := Nat.mul_lt_mul_of_pos_right h1 (by decide)
  have h4 : x * 998244353 < 4294967296 * 998244353 := Nat.mul_lt_mul_of_pos_right hx (by decide)
  have h5 : xf * 4294967296 < ((q + 1) * 998244353 + 998244353) * 4294967296 := by
    rw [Nat.add_mul, Nat.mul_right_comm, Nat.mul_comm 998244353]; exact Nat.lt_of_le_of_lt h3 (Nat.add_lt_add h2 h4)
  have h6 := Nat.lt_of_mul_lt_mul_right h5
  generalize 998244353 * q = z at *
  omega

theorem lt_succ_div_mul (n d : Nat) (h : 0 < d) : n < (n / d + 1) * d := by
  rw [Nat.add_mul, Nat.one_mul]
  have := Nat.div_add_mod n d
  have h2 := Nat.mod_lt n h
  rw [Nat.mul_comm]; omega

theorem shoup_lt (f x : Nat) (hx : x < 4294967296) : shoup f x < 1996488706 := by
  unfold shoup
  refine shoup_lt_aux _ _ _ x hx (lt_succ_div_mul _ _ (by decide)) ?_
  have h := Nat.mul_le_mul_left x (Nat.le_of_lt (lt_succ_div_mul (f * 4294967296) 998244353 (by decide)))
  rw [Nat.add_mul, Nat.one_mul, Nat.mul_add, ← Nat.mul_assoc, ← Nat.mul_assoc] at h
  exact h

theorem shoup_mod_aux (q xf : Nat) (h : q * 998244353 ≤ xf) : (xf - q * 998244353) % 998244353 = xf % 998244353 := by omega

theorem shoup_mod (f x : Nat) : shoup f x % 998244353 = x * f % 998244353 := shoup_mod_aux _ _ (shoup_le f x)

/-- what the walk makes of it. -/
theorem shoup_int_aux (xf q : Nat) (h : q * 998244353 ≤ xf) (hl : xf - q * 998244353 < 1996488706) :
    ((xf : Int) % 4294967296 - (q : Int) * 998244353 % 4294967296) % 4294967296 = ((xf - q * 998244353 : Nat) : Int) := by
  omega

theorem ratio_lt_aux (f r : Nat) (hf : f < 998244353) (h : r * 998244353 ≤ f * 4294967296) : r < 4294967296 := by omega
theorem ratio_lt (f : Nat) (hf : f < 998244353) : f * 4294967296 / 998244353 < 4294967296 := ratio_lt_aux f _ hf (Nat.div_mul_le_self _ _)

theorem prod_lt {x r : Nat} (hx : x < 4294967296) (hr : r < 4294967296) : x * r < 18446744073709551616 :=
  Nat.mul_lt_mul'' hx hr

theorem quo_lt {n : Nat} (h : n < 18446744073709551616) : n / 4294967296 < 4294967296 := by omega

theorem shoup_int (f x : Nat) (hx : x < 4294967296) :
    (((x * f : Nat) : Int) % 4294967296 - ((x * (f * 4294967296 / 998244353) / 4294967296 : Nat) : Int) * 998244353 % 4294967296) % 4294967296 = ((shoup f x : Nat) : Int) :=
  shoup_int_aux _ _ (shoup_le f x) (shoup_lt f x hx)
end Go.Proofs.Ygctaj.Ntt
