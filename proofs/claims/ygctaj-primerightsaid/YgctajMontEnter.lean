/- (*odd).enter, bitsAt, walked; Montgomery's numbers. -/
import Derived.Test.YgctajMontNew
import Derived.Test.YgctajDivAny
namespace Go.Proofs.Ygctaj.Nt
open Go.RowKit Mem
set_option linter.unusedVariables false

/-- x as it is kept. -/
def mg (n M x : Nat) : Nat := x * 256 ^ (4 * n) % M

theorem half_inv (M k : Nat) (h : M % 2 = 1) : 2 ^ k * ((M + 1) / 2) ^ k % M = 1 % M := by
  rw [← Nat.mul_pow, show 2 * ((M + 1) / 2) = M + 1 from by omega, Nat.pow_mod, Nat.add_mod_left, ← Nat.pow_mod, Nat.one_pow]
theorem cancel (a b R Ri M : Nat) (hR : R * Ri % M = 1 % M) (h : a * R % M = b * R % M) : a % M = b % M := by
  have key : ∀ c, c * R * Ri % M = c % M := by
    intro c
    rw [Nat.mul_assoc, Nat.mul_mod, hR, ← Nat.mul_mod, Nat.mul_one]
  rw [← key a, ← key b, Nat.mul_mod, h, ← Nat.mul_mod]
theorem powR (n : Nat) : 256 ^ (4 * n) = 2 ^ (32 * n) := by
  rw [show (256 : Nat) = 2 ^ 8 from rfl, ← Nat.pow_mul]; congr 1; omega
theorem mg_cancel (n M a b : Nat) (hM : M % 2 = 1) (h : a * 256 ^ (4 * n) % M = b * 256 ^ (4 * n) % M) : a % M = b % M :=
  cancel a b _ (((M + 1) / 2) ^ (32 * n)) M (by rw [powR]; exact half_inv M _ hM) h
/-- a product of two. -/
theorem mg_times (n M x y R : Nat) (hM : M % 2 = 1) (hR : R < M) (h : R * 256 ^ (4 * n) % M = mg n M x * mg n M y % M) : R = mg n M (x * y) := by
  have h2 : R * 256 ^ (4 * n) % M = x * y * 256 ^ (4 * n) * 256 ^ (4 * n) % M := by
    rw [h]
    unfold mg
    rw [← Nat.mul_mod]
    congr 1
    generalize 256 ^ (4 * n) = B
    grind
  have h3 := mg_cancel n M _ _ hM h2
  rw [Nat.mod_eq_of_lt hR] at h3
  exact h3
/-- out again. -/
theorem mg_out (n M x R : Nat) (hM : M % 2 = 1) (hR : R < M) (h : R * 256 ^ (4 * n) % M = mg n M x * 1 % M) : R = x % M := by
  have h2 : R * 256 ^ (4 * n) % M = x * 256 ^ (4 * n) % M := by
    rw [h, Nat.mul_one]
    unfold mg
    rw [Nat.mod_mod]
  have h3 := mg_cancel n M _ _ hM h2
  rwa [Nat.mod_eq_of_lt hR] at h3
theorem mg_lt (n M x : Nat) (hM : 0 < M) : mg n M x < M := Nat.mod_lt _ hM
theorem mg_mod (n M x : Nat) : mg n M (x % M) = mg n M x := by unfold mg; rw [Nat.mod_mul_mod]

theorem bits_eq (E q r k : Nat) (h : r + k ≤ 8) : dg E q / 2 ^ r % 2 ^ k = E / 2 ^ (8 * q + r) % 2 ^ k := by
  unfold dg
  rw [Nat.pow_add, ← Nat.div_div_eq_div_mul, show 2 ^ (8 * q) = 256 ^ q from by rw [show (256 : Nat) = 2 ^ 8 from rfl, ← Nat.pow_mul]]
  generalize E / 256 ^ q = x
  rw [show (256 : Nat) = 2 ^ r * 2 ^ (8 - r) from by rw [← Nat.pow_add, show r + (8 - r) = 8 from by omega], Nat.mod_mul_right_div_self]
  exact Nat.mod_mod_of_dvd _ (Nat.pow_dvd_pow 2 (by omega))

set_option maxRecDepth 20000 in
set_option maxHeartbeats 1000000 in
theorem bitsAt_any (v : Value) (E at1 k : Nat) (w : World) (hk : k = 1 ∨ k = 4) (hr : at1 % 8 + k ≤ 8) (hq : at1 / 8 < dl E) (hE : dl E ≤ 100000) (hv : Nm w v E) :
    Calls Tajg.prog 70 #[v, .int .i64 (at1 : Int), .int .i64 (k : Int)] w fun e w' => e = .returned (.int .i64 ((E / 2 ^ at1 % 2 ^ k : Nat) : Int)) ∧ Same w w' := by
  rcases hv.open with ⟨h0, _⟩ | ⟨_, b, off, cap, rfl, hc, hp, hR, -⟩
  · rw [h0, dl_zero] at hq; omega
  have c1 := hR (at1 / 8) hq
  have hbe := bits_eq E (at1 / 8) (at1 % 8) k hr
  rw [show 8 * (at1 / 8) + at1 % 8 = at1 from by omega] at hbe
  have hd := dg_lt E (at1 / 8)
  obtain ⟨q, Hq⟩ : ∃ q, Hid (q = at1 / 8) := ⟨_, rfl⟩
  obtain ⟨r, Hr⟩ : ∃ r, Hid (r = at1 % 8) := ⟨_, rfl⟩
  have eq1 : (at1 : Int) / 8 = (q : Int) := by have := Hq.out; omega
  have er1 : (at1 : Int) % 8 = (r : Int) := by have := Hr.out; omega
  have hr8 : r < 8 := by have := Hr.out; omega
  have hat : at1 ≤ 800000 := by omega
  rw [← Hq.out] at c1 hbe hd hq
  rw [← Hr.out] at hbe
  obtain ⟨D, HD⟩ : ∃ D : Int, Hid (D = ((dg E q : Nat) : Int)) := ⟨_, rfl⟩
  have d0 : 0 ≤ D := by have := HD.out; omega
  have d1 : D < 256 := by have := HD.out; omega
  obtain ⟨G, HG⟩ : ∃ G : Int, Hid (D / 2 ^ r = G) := ⟨_, rfl⟩
  have eG := HG.out
  have HGn : Hid (G = ((dg E q / 2 ^ r : Nat) : Int)) := by show _ = _; rw [← eG, HD.out]; push_cast; rfl
  have g0 : 0 ≤ G := by rw [HGn.out]; exact Int.natCast_nonneg _
  have g1 : G < 256 := by
    rw [HGn.out]
    exact Int.ofNat_lt.2 (Nat.lt_of_le_of_lt (Nat.div_le_self _ _) hd)
  have hmask : ∀ i, i ≤ 8 → bits BinOp.and IntKind.i64 G (2 ^ i - 1) = G % 2 ^ i := fun i hi => bits_mask .i64 8 (by decide) (fun n h0 h1 => by rw [IntKind.wrap_i64]; omega) i hi G g0 (by omega)
  obtain ⟨X, HX⟩ : ∃ X : Int, Hid (X = ((E / 2 ^ at1 % 2 ^ k : Nat) : Int)) := ⟨_, rfl⟩
  have HXG : Hid (G % 2 ^ k = X) := by show _ = _; rw [HX.out, ← hbe, HGn.out]; push_cast; rfl
  rw [← HD.out] at c1
  rw [← HX.out]
  clear hR hbe hd hr
  rcases hk with rfl | rfl
  · have hm1 := hmask 1 (by omega)
    rw [show (2 : Int) ^ 1 - 1 = 1 from by decide] at hm1
    rw [HXG.out] at hm1
    clear hmask
    go_enter Tajg.func70, Tajg.ntmps70
    go_wp2_with fail
    refine Text.wp_text (by kernel_rfl) (by kernel_rfl) ⟨fun c a w h => by exact absurd h.2.1 (by simp), fun a w h => by exact absurd h.1 (by simp)⟩ ?_
    intro K hK
    go_wp2_with fail
    refine hK _ _ (by rfl) ?_
    go_wp2_with fail
    go_ret
    exact ⟨rfl, (Chg.refl _ _).drew⟩
  · have hm1 := hmask 4 (by omega)
    rw [show (2 : Int) ^ 4 - 1 = 15 from by decide] at hm1
    rw [HXG.out] at hm1
    clear hmask
    go_enter Tajg.func70, Tajg.ntmps70
    go_wp2_with fail
    refine Text.wp_text (by kernel_rfl) (by kernel_rfl) ⟨fun c a w h => by exact absurd h.2.1 (by simp), fun a w h => by exact absurd h.1 (by simp)⟩ ?_
    intro K hK
    go_wp2_with fail
    refine hK _ _ (by rfl) ?_
    go_wp2_with fail
    go_ret
    exact ⟨rfl, (Chg.refl _ _).drew⟩
end Go.Proofs.Ygctaj.Nt
