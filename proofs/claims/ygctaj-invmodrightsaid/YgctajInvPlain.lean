/- inverses by Euclid: plain. -/
import Derived.Test.YgctajNat
namespace Go.Proofs.Ygctaj.Nt
set_option linter.unusedVariables false

/-- the sign that goes with 'minus'. -/
def sgn (b : Bool) : Int := if b then -1 else 1
theorem sgn_not (b : Bool) : sgn (!b) = - sgn b := by cases b <;> rfl

/-- the loop's words. -/
structure Iv (A M x y l n : Nat) (s : Bool) : Prop where
  hm : l * y + n * x = M
  hl : l ≤ M
  hn : n ≤ M
  hx : 0 < x
  hxM : x ≤ M ∧ y ≤ M
  hg : Nat.gcd x y = Nat.gcd A M
  hy : (M : Int) ∣ (y : Int) - sgn s * (n : Int) * (A : Int)
  hc : (M : Int) ∣ (x : Int) + sgn s * (l : Int) * (A : Int)

theorem Iv.start (A M : Nat) (hM : 0 < M) : Iv A M M (A % M) 0 1 false := by
  refine ⟨by omega, by omega, by omega, hM, ⟨Nat.le_refl _, Nat.le_of_lt (Nat.mod_lt _ hM)⟩, ?_, ?_, ?_⟩
  · rw [Nat.gcd_comm A M, Nat.gcd_rec M A, Nat.gcd_comm]
  · refine ⟨-((A / M : Nat) : Int), ?_⟩
    have h := Nat.mod_add_div A M
    have h2 : ((A % M : Nat) : Int) + (M : Int) * ((A / M : Nat) : Int) = (A : Int) := by
      rw [← Int.natCast_mul, ← Int.natCast_add, h]
    generalize ((A % M : Nat) : Int) = r at *
    generalize ((A / M : Nat) : Int) = q at *
    simp only [sgn]
    rw [← h2]
    grind
  · refine ⟨1, ?_⟩
    simp [sgn]

theorem Iv.next {A M x y l n : Nat} {s : Bool} (h : Iv A M x y l n s) (hy0 : 0 < y) : Iv A M y (x % y) n (l + x / y * n) (!s) := by
  obtain ⟨hm, hl, hn, hx, hxM, hg, hy, hc⟩ := h
  have hd := Nat.mod_add_div x y
  have e1 : n * (x % y) + (l + x / y * n) * y = M := by
    rw [← hm]
    have : n * x = n * (x % y) + n * (y * (x / y)) := by rw [← Nat.mul_add, hd]
    rw [this]
    generalize x % y = r
    generalize x / y = q
    grind
  refine ⟨e1, hn, ?_, hy0, ⟨hxM.2, Nat.le_trans (Nat.le_of_lt (Nat.mod_lt _ hy0)) hxM.2⟩, ?_, ?_, ?_⟩
  · have : l + x / y * n ≤ (l + x / y * n) * y := Nat.le_mul_of_pos_right _ hy0
    omega
  · rw [← hg, Nat.gcd_comm x y, Nat.gcd_rec y x, Nat.gcd_comm]
  · rw [sgn_not]
    have h2 : ((x % y : Nat) : Int) = (x : Int) - (y : Int) * ((x / y : Nat) : Int) := by
      have : ((x % y : Nat) : Int) + (y : Int) * ((x / y : Nat) : Int) = (x : Int) := by rw [← Int.natCast_mul, ← Int.natCast_add, hd]
      omega
    rw [h2]
    obtain ⟨k1, hk1⟩ := hy
    obtain ⟨k2, hk2⟩ := hc
    refine ⟨k2 - k1 * ((x / y : Nat) : Int), ?_⟩
    rw [Int.natCast_add, Int.natCast_mul]
    generalize ((x / y : Nat) : Int) = q at *
    generalize sgn s = g at *
    grind
  · rw [sgn_not]
    obtain ⟨k1, hk1⟩ := hy
    exact ⟨k1, by rw [← hk1]; grind⟩

/-- at the end. -/
theorem Iv.fin {A M l n : Nat} {s : Bool} (h : Iv A M 1 0 l n s) : (M : Int) ∣ 1 + sgn s * (l : Int) * (A : Int) := h.hc

theorem mod_of_dvd (M L A : Nat) (h : (M : Int) ∣ (L : Int) * (A : Int) - 1) : L * A % M = 1 % M := by
  have h2 : ((L : Int) * (A : Int)) % (M : Int) = 1 % (M : Int) := by
    obtain ⟨k, hk⟩ := h
    have : (L : Int) * (A : Int) = 1 + (M : Int) * k := by omega
    rw [this, Int.add_mul_emod_self_left]
  have h3 : ((L * A % M : Nat) : Int) = ((1 % M : Nat) : Int) := by
    rw [Int.natCast_emod, Int.natCast_emod, Int.natCast_mul]; exact h2
  omega

theorem inv_minus (M l A : Nat) (hM : 0 < M) (h : (M : Int) ∣ 1 + sgn true * (l : Int) * (A : Int)) : l % M * A % M = 1 % M := by
  have e : l % M * A % M = l * A % M := by rw [Nat.mod_mul_mod]
  rw [e]
  apply mod_of_dvd
  obtain ⟨k, hk⟩ := h
  refine ⟨-k, ?_⟩
  simp only [sgn] at hk
  grind
theorem inv_plus (M l A : Nat) (hM : 0 < M) (h : (M : Int) ∣ 1 + sgn false * (l : Int) * (A : Int)) : (if l % M = 0 then 0 else M - l % M) * A % M = 1 % M := by
  by_cases h0 : l % M = 0
  · rw [if_pos h0]
    obtain ⟨q, hq⟩ := Nat.dvd_of_mod_eq_zero h0
    apply mod_of_dvd
    obtain ⟨k, hk⟩ := h
    refine ⟨(q : Int) * (A : Int) - k, ?_⟩
    rw [hq] at hk
    simp only [sgn] at hk
    push_cast at hk ⊢
    grind
  · rw [if_neg h0]
    apply mod_of_dvd
    have hd := Nat.mod_add_div l M
    have hlt := Nat.mod_lt l hM
    have e : ((M - l % M : Nat) : Int) = (M : Int) - ((l % M : Nat) : Int) := by omega
    have e2 : ((l % M : Nat) : Int) = (l : Int) - (M : Int) * ((l / M : Nat) : Int) := by
      have : ((l % M : Nat) : Int) + (M : Int) * ((l / M : Nat) : Int) = (l : Int) := by rw [← Int.natCast_mul, ← Int.natCast_add, hd]
      omega
    rw [e, e2]
    obtain ⟨k, hk⟩ := h
    refine ⟨(A : Int) + ((l / M : Nat) : Int) * (A : Int) - k, ?_⟩
    simp only [sgn] at hk
    generalize ((l / M : Nat) : Int) = q at *
    grind
end Go.Proofs.Ygctaj.Nt
