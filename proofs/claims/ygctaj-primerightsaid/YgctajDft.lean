/- The transform over the integers modulo P, plain. -/
import Derived.Test.YgctajFieldMath
namespace Go.Proofs.Ygctaj.Dft

abbrev F := Fin 998244353

def toF (n : Nat) : F := Fin.ofNat 998244353 n
theorem toF_val (n : Nat) : (toF n).val = n % 998244353 := rfl
theorem toF_eq {a b : Nat} (h : a % 998244353 = b % 998244353) : toF a = toF b := Fin.ext h
theorem mod_of_toF {a b : Nat} (h : toF a = toF b) : a % 998244353 = b % 998244353 := congrArg Fin.val h
theorem toF_mod (a : Nat) : toF (a % 998244353) = toF a := toF_eq (Nat.mod_mod _ _)
theorem toF_add (a b : Nat) : toF (a + b) = toF a + toF b := by
  apply Fin.ext; rw [Fin.val_add, toF_val, toF_val, toF_val, Nat.add_mod]
theorem toF_mul (a b : Nat) : toF (a * b) = toF a * toF b := by
  apply Fin.ext; rw [Fin.val_mul, toF_val, toF_val, toF_val, Nat.mul_mod]
theorem toF_zero : toF 0 = 0 := rfl
theorem toF_one : toF 1 = 1 := rfl
theorem toF_P : toF 998244353 = 0 := rfl
theorem toF_inj {a b : Nat} (ha : a < 998244353) (hb : b < 998244353) (h : toF a = toF b) : a = b := by
  have := mod_of_toF h
  rwa [Nat.mod_eq_of_lt ha, Nat.mod_eq_of_lt hb] at this
theorem eq_sub_of {x y z : F} (h : x + y = z) : x = z - y := by grind
theorem toF_sub {a b : Nat} (h : b ≤ a) : toF (a - b) = toF a - toF b :=
  eq_sub_of (by rw [← toF_add, Nat.sub_add_cancel h])

def pwF (w : F) : Nat → F
  | 0 => 1
  | n + 1 => pwF w n * w
theorem pwF_zero (w : F) : pwF w 0 = 1 := rfl
theorem pwF_one' (w : F) : pwF w 1 = w := by rw [pwF, pwF]; grind
theorem pwF_add (w : F) (a b : Nat) : pwF w (a + b) = pwF w a * pwF w b := by
  induction b with
  | zero => rw [Nat.add_zero, pwF_zero]; grind
  | succ b ih => rw [Nat.add_succ, pwF, pwF, ih]; grind
theorem pwF_one (n : Nat) : pwF 1 n = 1 := by
  induction n with
  | zero => rfl
  | succ n ih => rw [pwF, ih]; rfl
theorem pwF_mul (w : F) (a b : Nat) : pwF w (a * b) = pwF (pwF w a) b := by
  induction b with
  | zero => rfl
  | succ b ih => rw [Nat.mul_succ, pwF_add, ih, pwF]
theorem mul_pwF (w z : F) (n : Nat) : pwF (w * z) n = pwF w n * pwF z n := by
  induction n with
  | zero => rfl
  | succ n ih => rw [pwF, pwF, pwF, ih]; grind
theorem toF_pow (a e : Nat) : toF (a ^ e) = pwF (toF a) e := by
  induction e with
  | zero => rfl
  | succ e ih => rw [Nat.pow_succ, toF_mul, ih, pwF]
theorem toF_pw (a e : Nat) : toF (Field.pw a e) = pwF (toF a) e := by
  unfold Field.pw; rw [toF_mod, toF_pow]
theorem neg_pwF_odd (c : Nat) (h : c % 2 = 1) : pwF (-1) c = -1 := by
  have e : c = 2 * (c / 2) + 1 := by omega
  rw [e, pwF, pwF_mul]
  have : pwF (-1 : F) 2 = 1 := by decide
  rw [this, pwF_one]; decide

/-- the sum of f i for i < n. -/
def fsum (f : Nat → F) : Nat → F
  | 0 => 0
  | n + 1 => fsum f n + f n
theorem fsum_congr (f g : Nat → F) : ∀ n, (∀ i, i < n → f i = g i) → fsum f n = fsum g n
  | 0, _ => rfl
  | n + 1, h => by rw [fsum, fsum, fsum_congr f g n (fun i hi => h i (by omega)), h n (by omega)]
theorem fsum_add (f g : Nat → F) : ∀ n, fsum (fun i => f i + g i) n = fsum f n + fsum g n
  | 0 => rfl
  | n + 1 => by rw [fsum, fsum, fsum, fsum_add f g n]; grind
theorem fsum_mul (c : F) (f : Nat → F) : ∀ n, fsum (fun i => c * f i) n = c * fsum f n
  | 0 => by rw [fsum, fsum]; grind
  | n + 1 => by rw [fsum, fsum, fsum_mul c f n]; grind
theorem fsum_zero : ∀ n, fsum (fun _ => 0) n = 0
  | 0 => rfl
  | n + 1 => by rw [fsum, fsum_zero n]; rfl
theorem fsum_append (f : Nat → F) (a : Nat) : ∀ b, fsum f (a + b) = fsum f a + fsum (fun i => f (a + i)) b
  | 0 => by rw [Nat.add_zero, fsum]; grind
  | b + 1 => by rw [Nat.add_succ, fsum, fsum_append f a b, fsum]; grind
theorem fsum_two (f : Nat → F) : ∀ n, fsum f (2 * n) = fsum (fun i => f (2 * i)) n + fsum (fun i => f (2 * i + 1)) n
  | 0 => rfl
  | n + 1 => by rw [Nat.mul_succ, fsum, fsum, fsum_two f n, fsum, fsum]; grind
theorem fsum_swap (f : Nat → Nat → F) (m : Nat) : ∀ n, fsum (fun i => fsum (fun j => f i j) m) n = fsum (fun j => fsum (fun i => f i j) n) m
  | 0 => by rw [fsum]; exact (fsum_zero m).symm
  | n + 1 => by rw [fsum, fsum_swap f m n, ← fsum_add]; rfl
theorem fsum_one_term (f : Nat → F) (l : Nat) : ∀ n, l < n → (∀ i, i < n → i ≠ l → f i = 0) → fsum f n = f l
  | 0, h, _ => by omega
  | n + 1, h, hz => by
    rw [fsum]
    by_cases e : l = n
    · subst e
      rw [fsum_congr f (fun _ => 0) l (fun i hi => hz i (by omega) (by omega)), fsum_zero]; grind
    · rw [fsum_one_term f l n (by omega) (fun i hi => hz i (by omega)), hz n (by omega) (fun x => e x.symm)]; grind

/-- the bits of i, k of them, in the other order. -/
def rev : Nat → Nat → Nat
  | 0, _ => 0
  | k + 1, i => i % 2 * 2 ^ k + rev k (i / 2)
theorem rev_even (k m : Nat) : rev (k + 1) (2 * m) = rev k m := by
  rw [rev]; have h1 : 2 * m % 2 = 0 := by omega
  have h2 : 2 * m / 2 = m := by omega
  rw [h1, h2]; omega
theorem rev_odd (k m : Nat) : rev (k + 1) (2 * m + 1) = 2 ^ k + rev k m := by
  rw [rev]; have h1 : (2 * m + 1) % 2 = 1 := by omega
  have h2 : (2 * m + 1) / 2 = m := by omega
  rw [h1, h2]; omega
theorem rev_lt : ∀ k i, rev k i < 2 ^ k
  | 0, i => by simp [rev]
  | k + 1, i => by
    have := rev_lt k (i / 2)
    rw [rev, Nat.pow_succ]
    rcases Nat.mod_two_eq_zero_or_one i with h | h <;> rw [h] <;> omega

/-- X[j] = sum of x[i] * w^(i*j). -/
def dft (w : F) (x : Nat → F) (n j : Nat) : F := fsum (fun i => x i * pwF w (i * j)) n

/-- block m behind t passes, d still to come. -/
def lev (w : F) (x : Nat → F) (d t m j : Nat) : F := fsum (fun i => x (i * 2 ^ d + rev d m) * pwF w (2 ^ d * (i * j))) (2 ^ t)

theorem lev_start (w : F) (x : Nat → F) (d m j : Nat) : lev w x d 0 m j = x (rev d m) := by
  unfold lev
  rw [Nat.pow_zero, fsum, fsum]
  simp only [Nat.zero_mul, Nat.zero_add, Nat.mul_zero, pwF_zero]; grind

theorem lev_end (w : F) (x : Nat → F) (t j : Nat) : lev w x 0 t 0 j = dft w x (2 ^ t) j := by
  unfold lev dft
  refine fsum_congr _ _ _ fun i _ => ?_
  simp [rev]

theorem lev_low (w : F) (x : Nat → F) (d t m j : Nat) :
    lev w x d (t + 1) m j = lev w x (d + 1) t (2 * m) j + pwF w (2 ^ d * j) * lev w x (d + 1) t (2 * m + 1) j := by
  unfold lev
  rw [Nat.pow_succ 2 t, Nat.mul_comm (2 ^ t) 2, fsum_two, ← fsum_mul]
  congr 1
  · refine fsum_congr _ _ _ fun i _ => ?_
    rw [rev_even]
    have e1 : 2 * i * 2 ^ d = i * 2 ^ (d + 1) := by rw [Nat.pow_succ, Nat.mul_comm 2 i, Nat.mul_assoc, Nat.mul_comm 2]
    have e2 : 2 ^ d * (2 * i * j) = 2 ^ (d + 1) * (i * j) := by rw [Nat.pow_succ, Nat.mul_assoc, Nat.mul_assoc]
    rw [e1, e2]
  · refine fsum_congr _ _ _ fun i _ => ?_
    rw [rev_odd]
    have e1 : (2 * i + 1) * 2 ^ d + rev d m = i * 2 ^ (d + 1) + (2 ^ d + rev d m) := by
      rw [Nat.add_mul, Nat.one_mul, Nat.pow_succ, Nat.mul_comm 2 i, Nat.mul_assoc, Nat.mul_comm 2, Nat.add_assoc]
    have e2 : 2 ^ d * ((2 * i + 1) * j) = 2 ^ d * j + 2 ^ (d + 1) * (i * j) := by
      rw [Nat.add_mul, Nat.one_mul, Nat.mul_add, Nat.pow_succ, Nat.mul_assoc, Nat.mul_assoc, Nat.add_comm]
    rw [e1, e2, pwF_add]; grind

theorem lev_high (w : F) (x : Nat → F) (d t m j : Nat) (hw : pwF w (2 ^ (d + t)) = -1) :
    lev w x d (t + 1) m (j + 2 ^ t) = lev w x (d + 1) t (2 * m) j - pwF w (2 ^ d * j) * lev w x (d + 1) t (2 * m + 1) j := by
  have h1 : pwF w (2 ^ d * (j + 2 ^ t)) = - pwF w (2 ^ d * j) := by
    rw [Nat.mul_add, pwF_add, ← Nat.pow_add, hw]; grind
  have h2 : pwF w (2 ^ (d + 1) * 2 ^ t) = 1 := by
    have e : 2 ^ (d + 1) * 2 ^ t = 2 ^ (d + t) * 2 := by
      rw [Nat.pow_succ, Nat.pow_add, Nat.mul_right_comm]
    rw [e, pwF_mul, hw]; decide
  have h3 : ∀ m', lev w x (d + 1) t m' (j + 2 ^ t) = lev w x (d + 1) t m' j := by
    intro m'
    unfold lev
    refine fsum_congr _ _ _ fun i _ => ?_
    have e : 2 ^ (d + 1) * (i * (j + 2 ^ t)) = 2 ^ (d + 1) * (i * j) + 2 ^ (d + 1) * 2 ^ t * i := by
      rw [Nat.mul_add i, Nat.mul_add, Nat.mul_comm i (2 ^ t), Nat.mul_assoc (2 ^ (d + 1)) (2 ^ t) i]
    rw [e, pwF_add, pwF_mul w (2 ^ (d + 1) * 2 ^ t), h2, pwF_one]; grind
  rw [lev_low, h3, h3, h1]; grind

/-! ### Back again -/
theorem geom (k : Nat) : ∀ (v : F) (d : Nat), (k ≠ 0 → pwF v (2 ^ (k - 1)) = -1) → ¬ 2 ^ k ∣ d → fsum (fun j => pwF v (d * j)) (2 ^ k) = 0 := by
  induction k with
  | zero => intro v d _ h; exact absurd (by simp) h
  | succ k ih =>
    intro v d hv hd
    have hv' := hv (by omega)
    rw [Nat.add_sub_cancel] at hv'
    rw [Nat.pow_succ, Nat.mul_comm, fsum_two]
    have e : fsum (fun i => pwF v (d * (2 * i + 1))) (2 ^ k) = pwF v d * fsum (fun i => pwF v (d * (2 * i))) (2 ^ k) := by
      rw [← fsum_mul]
      refine fsum_congr _ _ _ fun i _ => ?_
      rw [Nat.mul_add, Nat.mul_one, pwF_add]; grind
    rw [e]
    by_cases h1 : 2 ^ k ∣ d
    · obtain ⟨c, rfl⟩ := h1
      have hc : c % 2 = 1 := by
        rcases Nat.mod_two_eq_zero_or_one c with h | h
        · exfalso
          refine hd ⟨c / 2, ?_⟩
          rw [Nat.pow_succ, Nat.mul_assoc]
          congr 1; omega
        · exact h
      have hz : pwF v (2 ^ k * c) = -1 := by rw [pwF_mul, hv', neg_pwF_odd c hc]
      rw [hz]; grind
    · have e2 : fsum (fun i => pwF v (d * (2 * i))) (2 ^ k) = fsum (fun i => pwF (pwF v 2) (d * i)) (2 ^ k) := by
        refine fsum_congr _ _ _ fun i _ => ?_
        rw [← pwF_mul]; congr 1; rw [Nat.mul_left_comm]
      rw [e2, ih (pwF v 2) d (fun hk => by
        rw [← pwF_mul, Nat.mul_comm, ← Nat.pow_succ, Nat.succ_eq_add_one, Nat.sub_add_cancel (by omega)]; exact hv') h1]
      grind

theorem inv_pow {w u : F} (h : u * w = 1) (n : Nat) : pwF u n * pwF w n = 1 := by rw [← mul_pwF, h, pwF_one]

theorem fsum_ones : ∀ n, fsum (fun _ => 1) n = toF n
  | 0 => rfl
  | n + 1 => by rw [fsum, fsum_ones n, toF_add]; rfl

theorem not_dvd_of_lt {a d : Nat} (h0 : 0 < d) (h1 : d < a) : ¬ a ∣ d := fun h => by have := Nat.le_of_dvd h0 h; omega

/-- orthogonality. -/
theorem ortho (k : Nat) (w u : F) (hu : u * w = 1) (hw : k ≠ 0 → pwF w (2 ^ (k - 1)) = -1) (i l : Nat) (hi : i < 2 ^ k) (hl : l < 2 ^ k) :
    fsum (fun j => pwF w (i * j) * pwF u (j * l)) (2 ^ k) = if i = l then toF (2 ^ k) else 0 := by
  have hu' : k ≠ 0 → pwF u (2 ^ (k - 1)) = -1 := fun hk => by
    have := inv_pow hu (2 ^ (k - 1)); rw [hw hk] at this; grind
  by_cases e : i = l
  · subst e
    rw [if_pos rfl, ← fsum_ones]
    refine fsum_congr _ _ _ fun j _ => ?_
    rw [Nat.mul_comm i j, ← mul_pwF]
    have : w * u = 1 := by grind
    rw [this, pwF_one]
  · rw [if_neg e]
    rcases Nat.lt_or_ge l i with h | h
    · rw [← geom k w (i - l) hw (not_dvd_of_lt (by omega) (by omega))]
      refine fsum_congr _ _ _ fun j _ => ?_
      have e1 : i * j = (i - l) * j + j * l := by
        rw [Nat.mul_comm j l, ← Nat.add_mul]; congr 1; omega
      rw [e1, pwF_add]
      have := inv_pow hu (j * l); grind
    · rw [← geom k u (l - i) hu' (not_dvd_of_lt (by omega) (by omega))]
      refine fsum_congr _ _ _ fun j _ => ?_
      have e1 : j * l = (l - i) * j + i * j := by
        rw [Nat.mul_comm j l, ← Nat.add_mul]; congr 1; omega
      rw [e1, pwF_add]
      have := inv_pow hu (i * j); grind

/-- the transform by the inverse root of the transform: n times what was. -/
theorem dft_back (k : Nat) (w u : F) (hu : u * w = 1) (hw : k ≠ 0 → pwF w (2 ^ (k - 1)) = -1) (x : Nat → F) (l : Nat) (hl : l < 2 ^ k) :
    dft u (dft w x (2 ^ k)) (2 ^ k) l = toF (2 ^ k) * x l := by
  unfold dft
  have e1 : fsum (fun j => fsum (fun i => x i * pwF w (i * j)) (2 ^ k) * pwF u (j * l)) (2 ^ k)
      = fsum (fun i => x i * fsum (fun j => pwF w (i * j) * pwF u (j * l)) (2 ^ k)) (2 ^ k) := by
    have : ∀ j, fsum (fun i => x i * pwF w (i * j)) (2 ^ k) * pwF u (j * l) = fsum (fun i => x i * (pwF w (i * j) * pwF u (j * l))) (2 ^ k) := by
      intro j
      have : fsum (fun i => x i * pwF w (i * j)) (2 ^ k) * pwF u (j * l) = pwF u (j * l) * fsum (fun i => x i * pwF w (i * j)) (2 ^ k) := by grind
      rw [this, ← fsum_mul]
      exact fsum_congr _ _ _ fun i _ => by grind
    rw [fsum_congr _ _ _ fun j _ => this j, fsum_swap]
    exact fsum_congr _ _ _ fun i _ => fsum_mul _ _ _
  rw [e1]
  rw [fsum_one_term _ l _ hl (fun i hi hne => by rw [ortho k w u hu hw i l hi hl, if_neg hne]; grind)]
  rw [ortho k w u hu hw l l hl hl, if_pos rfl]; grind

/-! ### Products -/
/-- what the double loop has gathered behind i rows of x: c[i+j] += x[i]*y[j]. -/
def cv (x y : Nat → F) (b : Nat) : Nat → Nat → F
  | 0, _ => 0
  | i + 1, l => cv x y b i l + (if i ≤ l ∧ l < i + b then x i * y (l - i) else 0)

theorem shift_sum (g : Nat → F) (i b N : Nat) (h : i + b ≤ N) : fsum (fun l => if i ≤ l ∧ l < i + b then g (l - i) else 0) N = fsum g b := by
  obtain ⟨r, rfl⟩ := Nat.exists_eq_add_of_le h
  rw [fsum_append, fsum_append]
  have h1 : fsum (fun l => if i ≤ l ∧ l < i + b then g (l - i) else 0) i = 0 := by
    rw [fsum_congr _ (fun _ => 0) i (fun l hl => if_neg (by omega)), fsum_zero]
  have h2 : fsum (fun j => if i ≤ i + j ∧ i + j < i + b then g (i + j - i) else 0) b = fsum g b :=
    fsum_congr _ _ _ fun j hj => by rw [if_pos (by omega)]; congr 1; omega
  have h3 : fsum (fun j => if i ≤ i + b + j ∧ i + b + j < i + b then g (i + b + j - i) else 0) r = 0 := by
    rw [fsum_congr _ (fun _ => 0) r (fun l hl => if_neg (by omega)), fsum_zero]
  rw [h1, h2, h3]; grind

/-- evaluation of the product. -/
theorem cv_eval (x y : Nat → F) (b N : Nat) (z : F) : ∀ a, a + b ≤ N + 1 → 
    fsum (fun l => cv x y b a l * pwF z l) N = fsum (fun i => x i * pwF z i) a * fsum (fun j => y j * pwF z j) b
  | 0, _ => by
    rw [fsum_congr _ (fun _ => 0) N (fun l _ => by rw [cv]; grind), fsum_zero, fsum]; grind
  | a + 1, h => by
    have ih := cv_eval x y b N z a (by omega)
    have e : fsum (fun l => cv x y b (a + 1) l * pwF z l) N = fsum (fun l => cv x y b a l * pwF z l) N + fsum (fun l => if a ≤ l ∧ l < a + b then x a * (pwF z a * (y (l - a) * pwF z (l - a))) else 0) N := by
      rw [← fsum_add]
      refine fsum_congr _ _ _ fun l _ => ?_
      rw [cv]
      by_cases hc : a ≤ l ∧ l < a + b
      · rw [if_pos hc, if_pos hc]
        have : pwF z l = pwF z a * pwF z (l - a) := by rw [← pwF_add]; congr 1; omega
        rw [this]; grind
      · rw [if_neg hc, if_neg hc]; grind
    rw [e, ih, shift_sum (fun j => x a * (pwF z a * (y j * pwF z j))) a b N (by omega), fsum_mul, fsum_mul, fsum]; grind

/-- a transform of few entries, the rest zeros. -/
theorem dft_few (w : F) (x : Nat → F) (a n j : Nat) (h : a ≤ n) (hz : ∀ i, a ≤ i → x i = 0) : dft w x n j = fsum (fun i => x i * pwF (pwF w j) i) a := by
  obtain ⟨r, rfl⟩ := Nat.exists_eq_add_of_le h
  unfold dft
  rw [fsum_append, fsum_congr (fun i => x (a + i) * pwF w ((a + i) * j)) (fun _ => 0) r (fun i _ => by rw [hz (a + i) (by omega)]; grind), fsum_zero]
  have : fsum (fun i => x i * pwF w (i * j)) a = fsum (fun i => x i * pwF (pwF w j) i) a :=
    fsum_congr _ _ _ fun i _ => by rw [← pwF_mul, Nat.mul_comm]
  rw [this]; grind

theorem cv_zero (x y : Nat → F) (b : Nat) : ∀ a l, a + b ≤ l + 1 → cv x y b a l = 0
  | 0, _, _ => rfl
  | a + 1, l, h => by rw [cv, cv_zero x y b a l (by omega), if_neg (by omega)]; rfl

/-- **the product of the transforms is the transform of the product.** -/
theorem dft_mul (w : F) (x y : Nat → F) (a b n j : Nat) (h : a + b ≤ n + 1) (ha : a ≤ n) (hb : b ≤ n) (hx : ∀ i, a ≤ i → x i = 0) (hy : ∀ i, b ≤ i → y i = 0) :
    dft w x n j * dft w y n j = dft w (cv x y b a) n j := by
  rw [dft_few w x a n j ha hx, dft_few w y b n j hb hy, dft_few w (cv x y b a) n n j (Nat.le_refl _) (fun i hi => cv_zero x y b a i (by omega)), cv_eval x y b n (pwF w j) a h]
end Go.Proofs.Ygctaj.Dft
