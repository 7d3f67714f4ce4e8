/- Plain: numbers whose prime factors are all below 320. -/
import Derived.Test.YgctajPrimeSieve
namespace Go.Proofs.Ygctaj.Pq
open Num
set_option linter.unusedVariables false

noncomputable section
def leaf (P r : Nat) : Bool :=
  Bool.rec (motive := fun _ => Bool) (Bool.rec (motive := fun _ => Bool) true (bad P) (Nat.beq (Nat.mod (Nat.sub P 1) (Nat.sub r 1)) 0)) true (Nat.beq P r)
/-- all P * m below 2^32, m a product of numbers of the list. -/
def go (k : Nat) : List Nat → Nat → Nat → Bool :=
  Nat.rec (motive := fun _ => List Nat → Nat → Nat → Bool) (fun _ _ _ => false) (fun _ ih ps =>
    List.rec (motive := fun _ => Nat → Nat → Bool) (fun P r => leaf P r) (fun p ps' rc P r =>
      Bool.rec (motive := fun _ => Bool) (Bool.rec (motive := fun _ => Bool) false (ih (p :: ps') (Nat.mul P p) p) (rc P r)) (leaf P r) (Nat.ble 4294967296 (Nat.mul P p))) ps) k
theorem go_zero (ps : List Nat) (P r : Nat) : go 0 ps P r = false := rfl
theorem go_nil (k P r : Nat) : go (k + 1) [] P r = leaf P r := rfl
theorem go_cons (k p : Nat) (ps : List Nat) (P r : Nat) : go (k + 1) (p :: ps) P r =
    Bool.rec (motive := fun _ => Bool) (Bool.rec (motive := fun _ => Bool) false (go k (p :: ps) (P * p) p) (go (k + 1) ps P r)) (leaf P r) (Nat.ble 4294967296 (P * p)) := rfl
/-- how many smooth numbers lie in 1 .. m. -/
def cl (m : Nat) : Nat := Nat.rec (motive := fun _ => Nat) 0 (fun i ih => Nat.add ih (Bool.rec (motive := fun _ => Nat) 0 1 (smb (Nat.succ i)))) m
theorem cl_eq : ∀ m, cl m = ((List.range' 1 m).filter smb).length
  | 0 => rfl
  | m + 1 => by
    show cl m + (Bool.rec (motive := fun _ => Nat) 0 1 (smb (m + 1)) : Nat) = _
    rw [cl_eq m, List.range'_1_concat, List.filter_append, List.length_append, Nat.add_comm 1 m]
    congr 1
    rw [List.filter_cons]
    cases smb (m + 1) <;> rfl
def half (r : Nat) : Bool := Nat.ble r (Nat.mul 2 (cl (Nat.sub r 1)))
set_option maxRecDepth 100000 in
theorem half_all : ∀ r, 43 ≤ r → r ≤ 319 → half r = true := fun r h1 h2 => allB_at _ _ _ _ (by decide +kernel : allB half 319 9 43 = true) r h1 (by omega) h2
end

/-- below 320 the whole order divides n - 1. -/
theorem Ps.ord_small {n r : Nat} (h : Ps n) (hr : Prm r) (hd : r ∣ n) (hr3 : r ≤ 319) : (r - 1) ∣ (n - 1) := by
  have h43 := h.ge hr hd
  have hb := h.ord hr hd
  have hg0 : 0 < Nat.gcd (n - 1) (r - 1) := Nat.gcd_pos_of_pos_right _ (by omega)
  have h1 := few_smooth hr hg0 hb (r - 1) (by omega)
  rw [← cl_eq] at h1
  have h2 : r ≤ 2 * cl (r - 1) := Nat.le_of_ble_eq_true (half_all r h43 hr3)
  have hgn := Nat.gcd_dvd_left (n - 1) (r - 1)
  obtain ⟨c, hc⟩ := Nat.gcd_dvd_right (n - 1) (r - 1)
  generalize Nat.gcd (n - 1) (r - 1) = g at *
  have hc1 : c = 1 := by
    rcases Nat.lt_or_ge c 2 with h3 | h3
    · rcases Nat.eq_zero_or_pos c with h4 | h4
      · subst h4; omega
      · omega
    · have := Nat.mul_le_mul_left g h3
      omega
  rw [hc, hc1, Nat.mul_one]
  exact hgn

theorem leaf_use {n r : Nat} (h : Ps n) (hl : leaf n r = true) (hr : n = 1 ∨ Prm r ∧ r ∣ n) (hs : ∀ s, Prm s → s ∣ n → (s - 1) ∣ (n - 1)) : False := by
  rcases hr with e | ⟨hr, hd⟩
  · have := h.two; omega
  · replace hl : (Bool.rec (motive := fun _ => Bool) (Bool.rec (motive := fun _ => Bool) true (bad n) (Nat.beq ((n - 1) % (r - 1)) 0)) true (Nat.beq n r) : Bool) = true := hl
    have e1 : Nat.beq n r = false := by
      cases hc : Nat.beq n r
      · rfl
      · exact absurd (Nat.eq_of_beq_eq_true hc ▸ hr) h.comp
    rw [e1] at hl
    have h2 := br_t hl (by rw [Nat.mod_eq_zero_of_dvd (hs r hr hd)]; rfl)
    rw [h.bad] at h2
    cases h2

theorem go_use {n : Nat} (h : Ps n) (hs : ∀ s, Prm s → s ∣ n → (s - 1) ∣ (n - 1)) :
    ∀ (k : Nat) (ps : List Nat) (P r m : Nat), ps.Pairwise (· ≤ ·) → go k ps P r = true → n = P * m → (P = 1 ∨ Prm r ∧ r ∣ P) → (∀ s, Prm s → s ∣ m → s ∈ ps) → False := by
  intro k
  induction k with
  | zero => intro ps P r m _ hg; rw [go_zero] at hg; cases hg
  | succ k ihk =>
    intro ps
    induction ps with
    | nil =>
      intro P r m _ hg hn hr hm
      rw [go_nil] at hg
      have hm1 : m = 1 := by
        rcases Nat.lt_or_ge m 2 with h1 | h1
        · rcases Nat.eq_zero_or_pos m with h0 | h0
          · subst h0; have := h.two; omega
          · omega
        · obtain ⟨s, hp, hd⟩ := prm_factor m h1
          exact absurd (hm s hp hd) (by simp)
      rw [hm1, Nat.mul_one] at hn
      subst hn
      exact leaf_use h hg hr hs
    | cons p ps ih =>
      intro P r m hsort hg hn hr hm
      rw [go_cons] at hg
      have hm0 : 0 < m := by
        rcases Nat.eq_zero_or_pos m with h0 | h0
        · subst h0; have := h.two; omega
        · exact h0
      have hsort' := List.pairwise_cons.1 hsort
      cases hb : Nat.ble 4294967296 (P * p)
      · rw [hb] at hg
        have hg := br_true.1 hg
        have hg1 : go (k + 1) ps P r = true := by
          cases hc : go (k + 1) ps P r
          · exact absurd (hg.2 hc) (by simp)
          · rfl
        by_cases hp : Prm p ∧ p ∣ m
        · obtain ⟨hp, m', rfl⟩ := hp
          refine ihk (p :: ps) (P * p) p m' hsort (hg.1 hg1) (by rw [hn, Nat.mul_assoc]) (.inr ⟨hp, Nat.dvd_mul_left _ _⟩) fun s h1 h2 => hm s h1 (Nat.dvd_trans h2 (Nat.dvd_mul_left _ _))
        · refine ih P r m hsort'.2 hg1 hn hr fun s h1 h2 => ?_
          rcases List.mem_cons.1 (hm s h1 h2) with e | e
          · subst e; exact absurd ⟨h1, h2⟩ hp
          · exact e
      · rw [hb] at hg
        have hle := Nat.le_of_ble_eq_true hb
        have hm1 : m = 1 := by
          rcases Nat.lt_or_ge m 2 with h1 | h1
          · omega
          · obtain ⟨s, h2, h3⟩ := prm_factor m h1
            have h4 : p ≤ s := by
              rcases List.mem_cons.1 (hm s h2 h3) with e | e
              · omega
              · exact hsort'.1 s e
            have h5 := Nat.le_of_dvd hm0 h3
            have h6 : P * p ≤ P * m := Nat.mul_le_mul_left P (by omega)
            have h7 := h.lt
            omega
        rw [hm1, Nat.mul_one] at hn
        subst hn
        exact leaf_use h hg hr hs

/-- the least number of the list is no prime factor. -/
theorem go_step {n p : Nat} {ps : List Nat} (h : Ps n) (hs : ∀ s, Prm s → s ∣ n → (s - 1) ∣ (n - 1)) (hsort : (p :: ps).Pairwise (· ≤ ·)) (hm : ∀ s, Prm s → s ∣ n → s ∈ p :: ps) (hg : go 5 (p :: ps) p p = true) : ∀ s, Prm s → s ∣ n → s ∈ ps := by
  intro s h1 h2
  rcases List.mem_cons.1 (hm s h1 h2) with e | e
  · subst e
    obtain ⟨m, rfl⟩ := h2
    exact (go_use h hs 5 (s :: ps) s s m hsort hg rfl (.inr ⟨h1, Nat.dvd_refl _⟩) fun t h3 h4 => hm t h3 (Nat.dvd_trans h4 (Nat.dvd_mul_left _ _))).elim
  · exact e
end Go.Proofs.Ygctaj.Pq
