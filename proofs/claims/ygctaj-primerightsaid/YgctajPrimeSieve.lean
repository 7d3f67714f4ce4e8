/- Plain: what the kernel searches, and why it is enough. -/
import Derived.Test.YgctajPrimeTest
namespace Go.Proofs.Ygctaj.Pq
open Num
set_option linter.unusedVariables false

/-- the product of the primes up to 41. -/
def PRM : Nat := 304250263527210
def bases : List Nat := [2, 3, 5, 7, 11, 13, 17, 19, 23, 29, 31, 37, 41]
theorem PRM_eq : PRM = 2 * (3 * (5 * (7 * (11 * (13 * (17 * (19 * (23 * (29 * (31 * (37 * 41))))))))))) := rfl
theorem base_dvd {a : Nat} (h : a ∈ bases) : a ∣ PRM := by
  have : ∀ a ∈ bases, PRM % a = 0 := by decide
  exact Nat.dvd_of_mod_eq_zero (this a h)
theorem base_prm : ∀ p ∈ bases, ∀ r, r < 42 → r ∣ p → r = 1 ∨ r = p := by decide +kernel
theorem base_le : ∀ p ∈ bases, 0 < p ∧ p < 42 := by decide
theorem base_mem {r p : Nat} (hr : Prm r) (hp : p ∈ bases) (h : r ∣ p) : r ∈ bases := by
  have h1 := base_le p hp
  have h2 := Nat.le_of_dvd h1.1 h
  have h3 := hr.1
  rcases base_prm p hp r (by omega) h with h4 | h4
  · omega
  · rw [h4]; exact hp
theorem base_of {r : Nat} (hr : Prm r) (h : r ∣ PRM) : r ∈ bases := by
  rw [PRM_eq] at h
  rcases hr.euclid h with h | h
  · exact base_mem hr (by decide) h
  rcases hr.euclid h with h | h
  · exact base_mem hr (by decide) h
  rcases hr.euclid h with h | h
  · exact base_mem hr (by decide) h
  rcases hr.euclid h with h | h
  · exact base_mem hr (by decide) h
  rcases hr.euclid h with h | h
  · exact base_mem hr (by decide) h
  rcases hr.euclid h with h | h
  · exact base_mem hr (by decide) h
  rcases hr.euclid h with h | h
  · exact base_mem hr (by decide) h
  rcases hr.euclid h with h | h
  · exact base_mem hr (by decide) h
  rcases hr.euclid h with h | h
  · exact base_mem hr (by decide) h
  rcases hr.euclid h with h | h
  · exact base_mem hr (by decide) h
  rcases hr.euclid h with h | h
  · exact base_mem hr (by decide) h
  rcases hr.euclid h with h | h
  · exact base_mem hr (by decide) h
  · exact base_mem hr (by decide) h
theorem prm_dvd_pow {r x : Nat} (hr : Prm r) : ∀ k, r ∣ x ^ k → r ∣ x
  | 0, h => by
    rw [Nat.pow_zero] at h
    have := Nat.le_of_dvd (by decide) h
    have := hr.1
    omega
  | k + 1, h => by
    rw [Nat.pow_succ] at h
    rcases hr.euclid h with h | h
    · exact prm_dvd_pow hr k h
    · exact h

/-- the smooth numbers are roots. -/
theorem smooth_root {q g : Nat} (hq : 2 ≤ q) (hb : ∀ a ∈ bases, a ^ g % q = 1) : ∀ s, 0 < s → s ∣ PRM ^ 18 → s ^ g % q = 1 := by
  intro s
  induction s using Nat.strongRecOn with
  | _ s ih =>
    intro h0 hd
    by_cases h1 : s = 1
    · rw [h1, Nat.one_pow]; exact one_mod hq
    · obtain ⟨r, hr, m, rfl⟩ := prm_factor s (by omega)
      have hr2 := hr.1
      have hm0 : 0 < m := by
        rcases Nat.eq_zero_or_pos m with h | h
        · subst h; omega
        · exact h
      have hlt : m < r * m := by
        have : 2 * m ≤ r * m := Nat.mul_le_mul_right m hr2
        omega
      have e1 := hb r (base_of hr (prm_dvd_pow hr 18 (Nat.dvd_trans (Nat.dvd_mul_right _ _) hd)))
      have e2 := ih m hlt hm0 (Nat.dvd_trans (Nat.dvd_mul_left _ _) hd)
      rw [Nat.mul_pow, Nat.mul_mod, e1, e2]
      exact one_mod hq

noncomputable section
def smb (s : Nat) : Bool := Nat.beq (Nat.gcd s 499065254939855841649017291788284274441395101040309664217923767211011605572865698676012082582066433688825726099096852225359316262406545891685200656090651332192103396461553281313732240170678739991462178534508640302231490296950798459841662272161000000000000000000) s
theorem smb_dvd {s : Nat} (h : smb s = true) : s ∣ PRM ^ 18 := by
  have h1 : Nat.gcd s (PRM ^ 18) = s := by
    have e : PRM ^ 18 = 499065254939855841649017291788284274441395101040309664217923767211011605572865698676012082582066433688825726099096852225359316262406545891685200656090651332192103396461553281313732240170678739991462178534508640302231490296950798459841662272161000000000000000000 := by decide +kernel
    rw [e]
    exact Nat.eq_of_beq_eq_true h
  rw [← h1]
  exact Nat.gcd_dvd_right _ _
/-- how many of s, .., s + 2^d - 1 are smooth. -/
def cnt (d : Nat) : Nat → Nat :=
  Nat.rec (motive := fun _ => Nat → Nat) (fun s => Bool.rec (motive := fun _ => Nat) 0 1 (smb s)) (fun d ih s => Nat.add (ih s) (ih (Nat.add s (Nat.pow 2 d)))) d
theorem cnt_eq : ∀ d s, cnt d s = ((List.range' s (2 ^ d)).filter smb).length
  | 0, s => by
    show (Bool.rec (motive := fun _ => Nat) 0 1 (smb s) : Nat) = _
    rw [Nat.pow_zero, List.range'_one, List.filter_cons]
    cases smb s <;> rfl
  | d + 1, s => by
    show cnt d s + cnt d (s + 2 ^ d) = _
    rw [cnt_eq d s, cnt_eq d (s + 2 ^ d), Nat.pow_succ, Nat.mul_two, ← List.range'_append_1, List.filter_append, List.length_append]
theorem few_smooth {q g : Nat} (hq : Prm q) (hg : 0 < g) (hb : ∀ a ∈ bases, a ^ g % q = 1) (m : Nat) (hm : m < q) : ((List.range' 1 m).filter smb).length ≤ g := by
  refine few_roots hq hg _ (List.Pairwise.filter _ ?_) fun a ha => ?_
  · exact (List.nodup_range' (s := 1) (n := m))
  · rw [List.mem_filter, List.mem_range'_1] at ha
    exact ⟨by omega, smooth_root hq.1 hb a (by omega) (smb_dvd ha.2)⟩
theorem few_cnt {q g : Nat} (hq : Prm q) (hg : 0 < g) (hb : ∀ a ∈ bases, a ^ g % q = 1) (d : Nat) (hd : 2 ^ d < q) : cnt d 1 ≤ g := by
  rw [cnt_eq]; exact few_smooth hq hg hb _ hd

/-- n = q * k, k = 1 + t * g. -/
def kk (q g t : Nat) : Bool := Bool.rec (motive := fun _ => Bool) true (bad (Nat.mul q (Nat.add 1 (Nat.mul t g)))) (Nat.beq (Nat.gcd (Nat.add 1 (Nat.mul t g)) 304250263527210) 1)
def qg (q g : Nat) : Bool := allB (kk q g) (Nat.div (Nat.sub (Nat.div 4294967296 q) 1) g) 17 1
def isOne (a d q : Nat) : Bool := Nat.beq (pm a (Nat.div (Nat.sub q 1) d) q) 1
def qd (q d : Nat) : Bool :=
  Bool.rec (motive := fun _ => Bool) true (Bool.rec (motive := fun _ => Bool) true (Bool.rec (motive := fun _ => Bool) true (Bool.rec (motive := fun _ => Bool) true (Bool.rec (motive := fun _ => Bool) true
    (qg q (Nat.div (Nat.sub q 1) d)) (isOne 7 d q)) (isOne 5 d q)) (isOne 3 d q)) (isOne 2 d q)) (Nat.beq (Nat.mod (Nat.sub q 1) d) 0)
def qq (D q : Nat) : Bool := Bool.rec (motive := fun _ => Bool) true (Bool.rec (motive := fun _ => Bool) true (allB (qd q) D 6 1) (Nat.beq (pm 2 (Nat.sub q 1) q) 1)) (Nat.beq (Nat.gcd q 304250263527210) 1)

theorem br_t {T b : Bool} (h : (Bool.rec (motive := fun _ => Bool) true T b : Bool) = true) (hb : b = true) : T = true := (br_true.1 h).1 hb
theorem kk_use {q g t : Nat} (h : kk q g t = true) (hc : Nat.gcd (1 + t * g) PRM = 1) : bad (q * (1 + t * g)) = true :=
  br_t h (by show Nat.beq (Nat.gcd (1 + t * g) PRM) 1 = true; rw [hc]; rfl)
theorem isOne_of {a d q : Nat} (h : a ^ ((q - 1) / d) % q = 1) : isOne a d q = true := by
  show Nat.beq (pm a ((q - 1) / d) q) 1 = true
  rw [pm_eq, h]; rfl
theorem qd_use {q d : Nat} (h : qd q d = true) (hd : (q - 1) % d = 0) (hb : ∀ a ∈ bases, a ^ ((q - 1) / d) % q = 1) : qg q ((q - 1) / d) = true := by
  refine br_t (br_t (br_t (br_t (br_t h ?_) ?_) ?_) ?_) ?_
  · show Nat.beq ((q - 1) % d) 0 = true
    rw [hd]; rfl
  · exact isOne_of (hb 2 (by decide))
  · exact isOne_of (hb 3 (by decide))
  · exact isOne_of (hb 5 (by decide))
  · exact isOne_of (hb 7 (by decide))
theorem qq_use {D q : Nat} (h : qq D q = true) (hc : Nat.gcd q PRM = 1) (h2 : 2 ^ (q - 1) % q = 1) : allB (qd q) D 6 1 = true := by
  refine br_t (br_t h ?_) ?_
  · show Nat.beq (Nat.gcd q PRM) 1 = true
    rw [hc]; rfl
  · show Nat.beq (pm 2 (q - 1) q) 1 = true
    rw [pm_eq, h2]; rfl
end

/-- what the tests say of n. -/
structure Ps (n : Nat) : Prop where
  lt : n < 4294967296
  two : 2 ≤ n
  cop : Nat.gcd n PRM = 1
  pass : ∀ a ∈ bases, SP a n
  comp : ¬ Prm n
theorem Ps.bad {n : Nat} (h : Ps n) : bad n = false :=
  bad_not h.two (h.pass 2 (by decide)) (h.pass 3 (by decide)) (h.pass 5 (by decide)) (h.pass 7 (by decide)) (h.pass 11 (by decide))
/-- of a prime factor q: g = gcd(n - 1, q - 1) is an exponent that gives 1 to all bases. -/
theorem Ps.ord {n q : Nat} (h : Ps n) (hq : Prm q) (hd : q ∣ n) : ∀ a ∈ bases, a ^ Nat.gcd (n - 1) (q - 1) % q = 1 := by
  intro a ha
  refine pow_gcd hq.1 _ _ ?_ (hq.fermat_one a fun hqa => ?_)
  · have := (h.pass a ha).fermat h.two
    rw [← Nat.mod_mod_of_dvd _ hd, this]
    exact one_mod hq.1
  · have h1 := Nat.dvd_gcd hd (Nat.dvd_trans hqa (base_dvd ha))
    rw [h.cop] at h1
    have := Nat.le_of_dvd (by decide) h1
    have := hq.1
    omega
theorem Ps.cop_dvd {n q : Nat} (h : Ps n) (hd : q ∣ n) : Nat.gcd q PRM = 1 := by
  have h1 : Nat.gcd q PRM ∣ Nat.gcd n PRM := Nat.dvd_gcd (Nat.dvd_trans (Nat.gcd_dvd_left _ _) hd) (Nat.gcd_dvd_right _ _)
  rw [h.cop] at h1
  exact Nat.dvd_one.1 h1
theorem Ps.ge {n q : Nat} (h : Ps n) (hq : Prm q) (hd : q ∣ n) : 43 ≤ q := by
  have h1 := h.cop_dvd hd
  have h2 : ∀ r, r < 43 → 2 ≤ r → Nat.gcd r PRM ≠ 1 := by decide +kernel
  have h3 := hq.1
  rcases Nat.lt_or_ge q 43 with h4 | h4
  · exact absurd h1 (h2 q h4 h3)
  · exact h4
/-- the cofactor is 1 modulo g. -/
theorem cof_mod {q k g : Nat} (hq : 1 ≤ q) (hk : 1 ≤ k) (h1 : g ∣ q * k - 1) (h2 : g ∣ q - 1) : g ∣ k - 1 := by
  have e : q * k - 1 = (q - 1) * k + (k - 1) := by
    obtain ⟨p, rfl⟩ : ∃ p, q = p + 1 := ⟨q - 1, by omega⟩
    rw [Nat.add_sub_cancel, Nat.add_mul, Nat.one_mul]
    omega
  rw [e] at h1
  exact (Nat.dvd_add_right (Nat.dvd_trans h2 (Nat.dvd_mul_right _ _))).1 h1

/-- a great prime factor q whose search is clear. -/
theorem Ps.no {n q D : Nat} (h : Ps n) (hq : Prm q) (hd : q ∣ n) (hq0 : 320 ≤ q) (hg0 : 178 ≤ Nat.gcd (n - 1) (q - 1)) (hD : q - 1 < Nat.gcd (n - 1) (q - 1) * (D + 1)) (hD6 : D ≤ 64) (hs : qq D q = true) : False := by
  obtain ⟨k, rfl⟩ := hd
  have hb := h.ord hq (Nat.dvd_mul_right _ _)
  have hgn := Nat.gcd_dvd_left (q * k - 1) (q - 1)
  have hgq := Nat.gcd_dvd_right (q * k - 1) (q - 1)
  generalize Nat.gcd (q * k - 1) (q - 1) = g at *
  have h2 : 2 ^ (q - 1) % q = 1 := by
    obtain ⟨c, hc⟩ := hgq
    rw [hc, Nat.pow_mul]
    exact pow_one_mod hq.1 (hb 2 (by decide)) _
  have hk0 : k ≠ 0 := by rintro rfl; have := h.two; omega
  have hk1 : k ≠ 1 := by rintro rfl; rw [Nat.mul_one] at h; exact h.comp hq
  have hA := qq_use hs (h.cop_dvd (Nat.dvd_mul_right _ _)) h2
  obtain ⟨d, hdg⟩ := hgq
  have hd0 : d ≠ 0 := by rintro rfl; omega
  have hdD : d ≤ D := by
    rw [hdg] at hD
    have := Nat.lt_of_mul_lt_mul_left hD
    omega
  have hdiv : (q - 1) / d = g := by rw [hdg, Nat.mul_div_cancel _ (by omega)]
  have hB := allB_at _ _ _ _ hA d (by omega) (by omega) hdD
  have hC := qd_use hB (by rw [hdg]; exact Nat.mul_mod_left _ _) (by rw [hdiv]; exact hb)
  rw [hdiv] at hC
  obtain ⟨t, ht⟩ := cof_mod (by omega) (by omega) hgn ⟨d, hdg⟩
  have hkt : k = 1 + t * g := by rw [Nat.mul_comm t]; omega
  have ht0 : t ≠ 0 := by rintro rfl; omega
  have hlt := h.lt
  have hkl : k ≤ 4294967296 / q := (Nat.le_div_iff_mul_le (by omega)).2 (by rw [Nat.mul_comm]; omega)
  have hkl2 : k * 320 < 4294967296 := Nat.lt_of_le_of_lt (Nat.mul_le_mul_left k hq0) (by rw [Nat.mul_comm]; exact hlt)
  have htl : t ≤ (4294967296 / q - 1) / g := (Nat.le_div_iff_mul_le (by omega)).2 (by omega)
  have htg : t * 178 ≤ t * g := Nat.mul_le_mul_left t hg0
  have hE := allB_at _ _ _ _ hC t (by omega) (by omega) htl
  have hF := kk_use hE (by rw [← hkt]; exact h.cop_dvd (Nat.dvd_mul_left _ _))
  rw [← hkt, h.bad] at hF
  cases hF
end Go.Proofs.Ygctaj.Pq
