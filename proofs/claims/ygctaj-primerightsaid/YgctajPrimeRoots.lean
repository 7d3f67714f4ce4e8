/- Plain: prime factors, orders, the roots of x^g = 1 modulo a prime. -/
import Derived.Test.YgctajNumber
namespace Go.Proofs.Ygctaj.Pq
open Num
set_option linter.unusedVariables false

theorem prm_factor : ∀ n : Nat, 2 ≤ n → ∃ p, Prm p ∧ p ∣ n := by
  intro n
  induction n using Nat.strongRecOn with
  | _ n ih =>
    intro h
    by_cases hp : Prm n
    · exact ⟨n, hp, Nat.dvd_refl _⟩
    · have : ∃ d, d ∣ n ∧ d ≠ 1 ∧ d ≠ n := by
        refine Classical.byContradiction fun hc => hp ⟨h, fun d hd => ?_⟩
        refine Classical.byContradiction fun he => hc ⟨d, hd, ?_, ?_⟩
        · exact fun e => he (.inl e)
        · exact fun e => he (.inr e)
      obtain ⟨d, hd, h1, hn⟩ := this
      have h0 : 0 < d := Nat.pos_of_dvd_of_pos hd (by omega)
      have hle := Nat.le_of_dvd (by omega) hd
      obtain ⟨p, hp, hpd⟩ := ih d (by omega) (by omega)
      exact ⟨p, hp, Nat.dvd_trans hpd hd⟩

/-- the greatest prime factor. -/
theorem prm_greatest : ∀ n : Nat, 2 ≤ n → ∃ q, Prm q ∧ q ∣ n ∧ ∀ r, Prm r → r ∣ n → r ≤ q := by
  intro n
  induction n using Nat.strongRecOn with
  | _ n ih =>
    intro h
    obtain ⟨p, hp, m, rfl⟩ := prm_factor n h
    have hp2 := hp.1
    by_cases hm : 2 ≤ m
    · obtain ⟨q, hq, hqm, hmax⟩ := ih m (by
        have : 2 * m ≤ p * m := Nat.mul_le_mul_right m hp2
        omega) hm
      by_cases hpq : p ≤ q
      · refine ⟨q, hq, Nat.dvd_trans hqm (Nat.dvd_mul_left _ _), fun r hr hd => ?_⟩
        rcases hr.euclid hd with h1 | h1
        · exact Nat.le_trans (Nat.le_of_dvd (by omega) h1) hpq
        · exact hmax r hr h1
      · refine ⟨p, hp, Nat.dvd_mul_right _ _, fun r hr hd => ?_⟩
        rcases hr.euclid hd with h1 | h1
        · exact Nat.le_of_dvd (by omega) h1
        · have := hmax r hr h1; omega
    · have hm1 : m = 1 := by
        rcases Nat.eq_zero_or_pos m with h0 | h0
        · subst h0; omega
        · omega
      subst hm1
      refine ⟨p, hp, Nat.dvd_mul_right _ _, fun r hr hd => ?_⟩
      rw [Nat.mul_one] at hd
      exact Nat.le_of_dvd (by omega) hd

theorem one_mod {q : Nat} (h : 2 ≤ q) : 1 % q = 1 := Nat.mod_eq_of_lt (by omega)
theorem pow_one_mod {q x : Nat} (h : 2 ≤ q) (hx : x % q = 1) (k : Nat) : x ^ k % q = 1 := by
  rw [Nat.pow_mod, hx, Nat.one_pow, one_mod h]
/-- the exponents that give 1: their greatest common divisor gives 1. -/
theorem pow_gcd {q a : Nat} (hq : 2 ≤ q) (x y : Nat) (hx : a ^ x % q = 1) (hy : a ^ y % q = 1) : a ^ Nat.gcd x y % q = 1 := by
  induction x, y using Nat.gcd.induction with
  | H0 n => rw [Nat.gcd_zero_left]; exact hy
  | H1 m n hm ih =>
    rw [Nat.gcd_rec]
    refine ih ?_ hx
    have : a ^ n = a ^ (n % m) * (a ^ m) ^ (n / m) := by
      rw [← Nat.pow_mul, ← Nat.pow_add, Nat.mod_add_div]
    rw [this, Nat.mul_mod, pow_one_mod hq hx, Nat.mul_one, Nat.mod_mod] at hy
    exact hy

/-- polynomials with leading coefficient 1, as functions. -/
inductive Mon : Nat → (Int → Int) → Prop
  | zero {f : Int → Int} : (∀ x, f x = 1) → Mon 0 f
  | succ {d : Nat} {f g : Int → Int} (c : Int) : Mon d g → (∀ x, f x = x * g x + c) → Mon (d + 1) f

theorem ring1 (x a u v c : Int) : x * ((x - a) * u + v) + c = (x - a) * (x * u + v) + (a * v + c) := by grind
theorem Mon.split {d : Nat} : ∀ {f : Int → Int}, Mon (d + 1) f → ∀ a : Int, ∃ h, Mon d h ∧ ∀ x, f x = (x - a) * h x + f a := by
  induction d with
  | zero =>
    intro f hf a
    cases hf with
    | succ c hg hfx =>
      cases hg with
      | zero h1 => exact ⟨fun _ => 1, .zero fun _ => rfl, fun x => by rw [hfx, hfx, h1, h1]; show _ = (x - a) * 1 + _; omega⟩
  | succ d ih =>
    intro f hf a
    cases hf with
    | @succ _ _ g c hg hfx =>
      obtain ⟨h', hm, hx⟩ := ih hg a
      refine ⟨fun x => x * h' x + g a, .succ (g a) hm fun _ => rfl, fun x => ?_⟩
      rw [hfx, hfx a, hx x]
      exact ring1 x a (h' x) (g a) c
theorem mon_pow : ∀ d : Nat, Mon d (fun x => x ^ d)
  | 0 => .zero fun x => by simp
  | d + 1 => .succ 0 (mon_pow d) fun x => by rw [Int.pow_succ]; grind
theorem mon_pow_sub (d : Nat) : Mon (d + 1) (fun x => x ^ (d + 1) - 1) := .succ (-1) (mon_pow d) fun x => by rw [Int.pow_succ]; grind

theorem prm_dvd_int {q : Nat} (h : Prm q) (a b : Int) (hab : (q : Int) ∣ a * b) : (q : Int) ∣ a ∨ (q : Int) ∣ b := by
  rw [Int.ofNat_dvd_left] at hab ⊢
  rw [Int.ofNat_dvd_left]
  rw [Int.natAbs_mul] at hab
  exact h.euclid hab

theorem Mon.roots {q : Nat} (hq : Prm q) (d : Nat) : ∀ (f : Int → Int), Mon d f → ∀ l : List Nat, l.Pairwise (· ≠ ·) → (∀ a ∈ l, a < q ∧ (q : Int) ∣ f a) → l.length ≤ d := by
  induction d with
  | zero =>
    intro f hf l hl ha
    cases l with
    | nil => exact Nat.le_refl _
    | cons a l =>
      cases hf with
      | zero h1 =>
        have := (ha a (List.mem_cons_self)).2
        rw [h1] at this
        have h2 := hq.1
        have h3 := Int.le_of_dvd (by omega) this
        omega
  | succ d ih =>
    intro f hf l hl ha
    cases l with
    | nil => exact Nat.zero_le _
    | cons a l =>
      obtain ⟨h, hm, hx⟩ := hf.split (a : Int)
      rw [List.pairwise_cons] at hl
      have := ih h hm l hl.2 fun b hb => by
        have h1 := ha b (List.mem_cons_of_mem _ hb)
        have h2 := ha a List.mem_cons_self
        refine ⟨h1.1, ?_⟩
        have h3 : (q : Int) ∣ ((b : Int) - (a : Int)) * h b := by
          have := hx b
          have h4 : ((b : Int) - (a : Int)) * h b = f b - f a := by omega
          rw [h4]
          exact Int.dvd_sub h1.2 h2.2
        rcases prm_dvd_int hq _ _ h3 with h4 | h4
        · exfalso
          have h5 := hl.1 b hb
          rw [Int.ofNat_dvd_left] at h4
          have h6 := Nat.le_of_dvd (by omega) h4
          omega
        · exact h4
      simp only [List.length_cons]
      omega

/-- at most g of the numbers below q have the g-th power 1. -/
theorem few_roots {q g : Nat} (hq : Prm q) (hg : 0 < g) (l : List Nat) (hl : l.Pairwise (· ≠ ·)) (ha : ∀ a ∈ l, a < q ∧ a ^ g % q = 1) : l.length ≤ g := by
  obtain ⟨d, rfl⟩ : ∃ d, g = d + 1 := ⟨g - 1, by omega⟩
  refine Mon.roots hq (d + 1) _ (mon_pow_sub d) l hl fun a h => ⟨(ha a h).1, ?_⟩
  have h2 := (ha a h).2
  have h3 : (q : Int) ∣ ((a ^ (d + 1) : Nat) : Int) - ((1 : Nat) : Int) := by
    refine Int.dvd_of_emod_eq_zero ?_
    rw [← Int.emod_eq_emod_iff_emod_sub_eq_zero, ← Int.natCast_emod, ← Int.natCast_emod, h2, one_mod hq.1]
  rw [Int.natCast_pow] at h3
  exact h3
end Go.Proofs.Ygctaj.Pq
