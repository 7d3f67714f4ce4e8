/- Lehmer's step: plain. -/
import Derived.Test.YgctajNat
namespace Go.Proofs.Ygctaj.Nt

theorem corner (a b U V x y : Int) : (U + V + 1) * (a * x + b * y) = (x * (V + 1) - y * U) * (a * (U + 1) + b * V) + ((U + 1) * y - V * x) * (a * U + b * (V + 1)) := by
  grind

theorem corner_nn (a b U V x y : Int) (hU : 0 ≤ U) (hV : 0 ≤ V) (h1 : 0 ≤ x * (V + 1) - y * U) (h2 : 0 ≤ (U + 1) * y - V * x) (k1 : 0 ≤ a * U + b * V + a) (k2 : 0 ≤ a * U + b * V + b) : 0 ≤ a * x + b * y := by
  have e := corner a b U V x y
  have e1 : a * (U + 1) + b * V = a * U + b * V + a := by grind
  have e2 : a * U + b * (V + 1) = a * U + b * V + b := by grind
  rw [e1, e2] at e
  have p1 := Int.mul_nonneg h1 k1
  have p2 := Int.mul_nonneg h2 k2
  rcases Int.lt_or_le (a * x + b * y) 0 with h | h
  · have := Int.mul_neg_of_pos_of_neg (show 0 < U + V + 1 by omega) h
    omega
  · exact h
theorem corner_pos (a b U V x y : Int) (hU : 0 ≤ U) (hV : 0 ≤ V) (h1 : 0 ≤ x * (V + 1) - y * U) (h2 : 0 ≤ (U + 1) * y - V * x) (hxy : 0 < x + y) (k1 : 0 < a * U + b * V + a) (k2 : 0 < a * U + b * V + b) : 0 < a * x + b * y := by
  have e := corner a b U V x y
  have e1 : a * (U + 1) + b * V = a * U + b * V + a := by grind
  have e2 : a * U + b * (V + 1) = a * U + b * V + b := by grind
  rw [e1, e2] at e
  have e3 : (x * (V + 1) - y * U) + ((U + 1) * y - V * x) = x + y := by grind
  generalize x * (V + 1) - y * U = A at *
  generalize (U + 1) * y - V * x = B at *
  generalize a * U + b * V + a = P at *
  generalize a * U + b * V + b = Q at *
  have p : 0 < A * P + B * Q := by
    have h : 0 < A ∨ 0 < B := by omega
    rcases h with h | h
    · have := Int.mul_pos h k1
      have := Int.mul_nonneg h2 (Int.le_of_lt k2)
      omega
    · have := Int.mul_pos h k2
      have := Int.mul_nonneg h1 (Int.le_of_lt k1)
      omega
  rcases Int.lt_or_le 0 (a * x + b * y) with h | h
  · exact h
  · have := Int.mul_nonpos_of_nonneg_of_nonpos (show 0 ≤ U + V + 1 by omega) h
    omega

/-- U and V are the leads of x and y. -/
def Ld (U V x y : Int) : Prop := 0 ≤ x * (V + 1) - y * U ∧ 0 ≤ (U + 1) * y - V * x ∧ 0 < y ∧ 0 ≤ x

theorem Ld.mk (x y T : Nat) (hT : 0 < T) (hy : 0 < y) : Ld ((x / T : Nat) : Int) ((y / T : Nat) : Int) x y := by
  have h1 := Nat.div_mul_le_self x T
  have h2 := Nat.div_mul_le_self y T
  have h3 : x ≤ (x / T + 1) * T := by
    have := Nat.div_add_mod x T
    have := Nat.mod_lt x hT
    rw [Nat.add_mul, Nat.one_mul, Nat.mul_comm]; omega
  have h4 : y ≤ (y / T + 1) * T := by
    have := Nat.div_add_mod y T
    have := Nat.mod_lt y hT
    rw [Nat.add_mul, Nat.one_mul, Nat.mul_comm]; omega
  generalize x / T = U at *
  generalize y / T = V at *
  refine ⟨?_, ?_, by omega, by omega⟩
  · have g1 := Nat.mul_le_mul_right U h4
    have g2 := Nat.mul_le_mul_right (V + 1) h1
    have e : (V + 1) * T * U = U * T * (V + 1) := by rw [Nat.mul_comm (V + 1), Nat.mul_comm U, Nat.mul_right_comm]
    have g3 : y * U ≤ x * (V + 1) := by omega
    have g4 : ((y * U : Nat) : Int) ≤ ((x * (V + 1) : Nat) : Int) := Int.ofNat_le.2 g3
    push_cast at g4
    omega
  · have g1 := Nat.mul_le_mul_left V h3
    have g2 := Nat.mul_le_mul_left (U + 1) h2
    have e : V * ((U + 1) * T) = (U + 1) * (V * T) := by rw [Nat.mul_left_comm]
    have g3 : V * x ≤ (U + 1) * y := by omega
    have g4 : ((V * x : Nat) : Int) ≤ (((U + 1) * y : Nat) : Int) := Int.ofNat_le.2 g3
    push_cast at g4
    omega

/-- the matrix takes x, y to a pair with the same divisors. -/
def Gd (U V a b c d : Int) : Prop := ∀ x y : Nat, Ld U V x y →
  ∃ X Y : Nat, (X : Int) = a * x + b * y ∧ (Y : Int) = c * x + d * y ∧ Nat.gcd X Y = Nat.gcd x y ∧ Y ≤ y ∧ ((a = 1 ∧ b = 0 ∧ c = 0 ∧ d = 1) ∨ (X ≤ y ∧ Y < y ∧ Y < X))

theorem Gd.start (U V : Int) : Gd U V 1 0 0 1 := fun x y _ => ⟨x, y, by omega, by omega, rfl, Nat.le_refl _, .inl ⟨rfl, rfl, rfl, rfl⟩⟩

/-- the loop's words. -/
structure Cf (U V a b c d u v : Int) : Prop where
  hu : u = a * U + b * V
  hv : v = c * U + d * V
  ua : 0 ≤ u + a ∧ u + a ≤ 4611686018427387904
  ub : 0 ≤ u + b ∧ u + b ≤ 4611686018427387904
  vc : 0 ≤ v + c ∧ v + c ≤ 4611686018427387904
  vd : 0 ≤ v + d ∧ v + d ≤ 4611686018427387904
  la : -2147483648 < a ∧ a < 2147483648
  lb : -2147483648 < b ∧ b < 2147483648
  lc : -2147483648 < c ∧ c < 2147483648
  ld : -2147483648 < d ∧ d < 2147483648
  sg : (0 ≤ a ∧ b ≤ 0 ∧ c ≤ 0 ∧ 0 ≤ d) ∨ (a ≤ 0 ∧ 0 ≤ b ∧ 0 ≤ c ∧ d ≤ 0)
  gd : Gd U V a b c d

theorem Cf.start (U V : Int) (hU : 0 ≤ U) (hU2 : U < 4611686018427387904) (hV : 0 ≤ V) (hVU : V ≤ U) : Cf U V 1 0 0 1 U V :=
  ⟨by omega, by omega, by omega, by omega, by omega, by omega, by omega, by omega, by omega, by omega, by omega, Gd.start U V⟩

theorem Cf.next {U V a b c d u v q : Int} (h : Cf U V a b c d u v) (hU : 0 ≤ U) (hV : 0 ≤ V) (h1 : 0 < v + c) (h2 : 0 < v + d) (hq1 : q = (u + a) / (v + c)) (hq2 : q = (u + b) / (v + d))
    (c1 : -2147483648 < a - q * c ∧ a - q * c < 2147483648) (c2 : -2147483648 < b - q * d ∧ b - q * d < 2147483648) : Cf U V c d (a - q * c) (b - q * d) v (u - q * v) := by
  obtain ⟨hu, hv, ua, ub, vc, vd, la, lb, lc, ld, sg, gd⟩ := h
  have q0 : 0 ≤ q := by rw [hq1]; exact Int.ediv_nonneg ua.1 (Int.le_of_lt h1)
  have r1 := Int.emod_nonneg (u + a) (show v + c ≠ 0 by omega)
  have r2 := Int.emod_lt_of_pos (u + a) h1
  have r3 := Int.emod_nonneg (u + b) (show v + d ≠ 0 by omega)
  have r4 := Int.emod_lt_of_pos (u + b) h2
  have e1 : u + a - q * (v + c) = (u + a) % (v + c) := by rw [hq1, Int.emod_def, Int.mul_comm]
  have e2 : u + b - q * (v + d) = (u + b) % (v + d) := by rw [hq2, Int.emod_def, Int.mul_comm]
  have f1 : u - q * v + (a - q * c) = u + a - q * (v + c) := by grind
  have f2 : u - q * v + (b - q * d) = u + b - q * (v + d) := by grind
  refine ⟨hv, by rw [hu, hv]; grind, vc, vd, by omega, by omega, lc, ld, c1, c2, ?_, ?_⟩
  · rcases sg with ⟨s1, s2, s3, s4⟩ | ⟨s1, s2, s3, s4⟩
    · have m1 := Int.mul_nonpos_of_nonneg_of_nonpos q0 s3
      have m2 := Int.mul_nonneg q0 s4
      omega
    · have m1 := Int.mul_nonneg q0 s3
      have m2 := Int.mul_nonpos_of_nonneg_of_nonpos q0 s4
      omega
  · intro x y hL
    obtain ⟨X, Y, hX, hY, hg, hYy, _⟩ := gd x y hL
    obtain ⟨L1, L2, hy, hx⟩ := hL
    have k1 : 0 ≤ (a - q * c) * U + (b - q * d) * V + (a - q * c) := by
      have : (a - q * c) * U + (b - q * d) * V + (a - q * c) = u + a - q * (v + c) := by rw [hu, hv]; grind
      omega
    have k2 : 0 ≤ (a - q * c) * U + (b - q * d) * V + (b - q * d) := by
      have : (a - q * c) * U + (b - q * d) * V + (b - q * d) = u + b - q * (v + d) := by rw [hu, hv]; grind
      omega
    have n1 := corner_nn (a - q * c) (b - q * d) U V x y hU hV L1 L2 k1 k2
    have k3 : 0 < (q * c + c - a) * U + (q * d + d - b) * V + (q * c + c - a) := by
      have : (q * c + c - a) * U + (q * d + d - b) * V + (q * c + c - a) = v + c - (u + a - q * (v + c)) := by rw [hu, hv]; grind
      omega
    have k4 : 0 < (q * c + c - a) * U + (q * d + d - b) * V + (q * d + d - b) := by
      have : (q * c + c - a) * U + (q * d + d - b) * V + (q * d + d - b) = v + d - (u + b - q * (v + d)) := by rw [hu, hv]; grind
      omega
    have n2 := corner_pos (q * c + c - a) (q * d + d - b) U V x y hU hV L1 L2 (by omega) k3 k4
    have g1 : (a - q * c) * x + (b - q * d) * y = (X : Int) - q * Y := by rw [hX, hY]; grind
    have g2 : (q * c + c - a) * x + (q * d + d - b) * y = (q + 1) * (Y : Int) - X := by rw [hX, hY]; grind
    rw [g1] at n1
    rw [g2] at n2
    obtain ⟨qn, rfl⟩ : ∃ qn : Nat, q = (qn : Int) := ⟨q.toNat, by omega⟩
    have g3 : qn * Y ≤ X := by
      have : ((qn * Y : Nat) : Int) ≤ (X : Int) := by push_cast; omega
      omega
    have g4 : X < (qn + 1) * Y := by
      have : (X : Int) < (((qn + 1) * Y : Nat) : Int) := by push_cast; omega
      omega
    have hY0 : 0 < Y := by
      rcases Nat.eq_zero_or_pos Y with e | e
      · rw [e] at g4; omega
      · exact e
    have hmod : X % Y = X - qn * Y := by
      have e := Nat.div_eq_of_lt_le g3 g4
      have := Nat.mod_add_div X Y
      rw [e, Nat.mul_comm] at this
      omega
    refine ⟨Y, X % Y, hY, ?_, ?_, ?_, .inr ⟨hYy, ?_, Nat.mod_lt X hY0⟩⟩
    · rw [g1, hmod]
      have : ((X - qn * Y : Nat) : Int) = (X : Int) - ((qn * Y : Nat) : Int) := by omega
      rw [this]; push_cast; rfl
    · rw [← hg, Nat.gcd_comm X Y, Nat.gcd_rec Y X, Nat.gcd_comm]
    · have := Nat.mod_lt X hY0; omega
    · have := Nat.mod_lt X hY0; omega
end Go.Proofs.Ygctaj.Nt
