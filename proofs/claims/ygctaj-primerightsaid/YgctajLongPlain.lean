/- The plain law of mlong's blocks. -/
import Derived.Test.YgctajLongBlocks
import Derived.Test.YgctajConv
namespace Go.Proofs.Ygctaj.Long
open Dft Ntt Nt

/-- the value of n digits in base B. -/
def vb (B : Nat) (x : Nat → Nat) : Nat → Nat
  | 0 => 0
  | n + 1 => vb B x n + x n * B ^ n
theorem val_vb (x : Nat → Nat) : ∀ n, val x n = vb 256 x n
  | 0 => rfl
  | n + 1 => by rw [val, vb, val_vb x n]
theorem vb_congr (B : Nat) (x y : Nat → Nat) : ∀ n, (∀ i, i < n → x i = y i) → vb B x n = vb B y n
  | 0, _ => rfl
  | n + 1, h => by rw [vb, vb, vb_congr B x y n fun i hi => h i (by omega), h n (by omega)]
theorem vb_add (B : Nat) (f g : Nat → Nat) : ∀ n, vb B (fun l => f l + g l) n = vb B f n + vb B g n
  | 0 => rfl
  | n + 1 => by rw [vb, vb_add B f g n, vb, vb, Nat.add_mul]; omega
theorem vb_mul (B c : Nat) (f : Nat → Nat) : ∀ n, vb B (fun l => c * f l) n = c * vb B f n
  | 0 => rfl
  | n + 1 => by rw [vb, vb_mul B c f n, vb, Nat.mul_add, Nat.mul_assoc]
theorem vb_zeros (B : Nat) (x : Nat → Nat) : ∀ n, (∀ i, i < n → x i = 0) → vb B x n = 0
  | 0, _ => rfl
  | n + 1, h => by rw [vb, vb_zeros B x n fun i hi => h i (by omega), h n (by omega)]; simp
theorem vb_append (B : Nat) (x : Nat → Nat) (m : Nat) : ∀ n, vb B x (m + n) = vb B x m + B ^ m * vb B (fun i => x (m + i)) n
  | 0 => by simp [vb]
  | n + 1 => by
    rw [← Nat.add_assoc, vb, vb_append B x m n, vb, Nat.mul_add, Nat.pow_add, Nat.add_assoc]
    congr 2
    rw [Nat.mul_left_comm]
theorem vb_shift (B : Nat) (g : Nat → Nat) (i b n : Nat) (h : i + b ≤ n) : vb B (fun l => if i ≤ l ∧ l < i + b then g (l - i) else 0) n = B ^ i * vb B g b := by
  obtain ⟨r, rfl⟩ := Nat.exists_eq_add_of_le h
  rw [vb_append, vb_append]
  have h1 : vb B (fun l => if i ≤ l ∧ l < i + b then g (l - i) else 0) i = 0 := vb_zeros _ _ _ fun l hl => if_neg (by omega)
  have h2 : vb B (fun j => if i ≤ i + j ∧ i + j < i + b then g (i + j - i) else 0) b = vb B g b :=
    vb_congr _ _ _ _ fun j hj => by rw [if_pos (by omega), Nat.add_sub_cancel_left]
  have h3 : vb B (fun j => if i ≤ i + b + j ∧ i + b + j < i + b then g (i + b + j - i) else 0) r = 0 := vb_zeros _ _ _ fun l hl => if_neg (by omega)
  rw [h1, h2, h3]; simp
theorem vb_cvN (B : Nat) (x y : Nat → Nat) (b n : Nat) : ∀ a, a + b ≤ n + 1 → vb B (cvN x y b a) n = vb B x a * vb B y b
  | 0, _ => by rw [vb_zeros B (cvN x y b 0) n (fun l _ => rfl), vb]; simp
  | a + 1, h => by
    have ih := vb_cvN B x y b n a (by omega)
    have e : vb B (cvN x y b (a + 1)) n = vb B (cvN x y b a) n + vb B (fun l => if a ≤ l ∧ l < a + b then (fun j => x a * y j) (l - a) else 0) n := by
      rw [← vb_add]; rfl
    rw [e, ih, vb_shift B (fun j => x a * y j) a b n (by omega), vb_mul, vb, Nat.add_mul]
    congr 1
    ac_rfl

theorem val_window (c r : Nat → Nat) (q n L : Nat) (h : q + n ≤ L) : val (fun l => if q ≤ l ∧ l < q + n then c l + r (l - q) else c l) L = val c L + 256 ^ q * val r n := by
  rw [val_vb, val_vb, val_vb, ← vb_shift 256 r q n L h, ← vb_add]
  refine vb_congr _ _ _ _ fun l _ => ?_
  by_cases hl : q ≤ l ∧ l < q + n
  · rw [if_pos hl, if_pos hl]
  · rw [if_neg hl, if_neg hl]; rfl

/-- block t of N, of s digits. -/
def bv (N s t : Nat) : Nat := N / 256 ^ (t * s) % 256 ^ s
theorem dg_div (N a l : Nat) : dg (N / 256 ^ a) l = dg N (a + l) := by
  unfold dg; rw [Nat.div_div_eq_div_mul, Nat.pow_add]
theorem val_xb (N s t : Nat) : val (xb N s t) s = bv N s t := by
  rw [bv, ← val_dg]
  refine val_congr _ _ _ fun l hl => ?_
  unfold xb; rw [if_pos hl, dg_div]
theorem vb_bv (N s : Nat) : ∀ c, vb (256 ^ s) (bv N s) c = N % 256 ^ (c * s)
  | 0 => by simp [vb, Nat.mod_one]
  | c + 1 => by
    rw [vb, vb_bv N s c, bv, Nat.add_mul, Nat.one_mul, Nat.pow_add, Nat.mod_mul, ← Nat.pow_mul, Nat.mul_comm s c]
    congr 1
    rw [Nat.mul_comm]

/-- t products of blocks, from block lo on, digit by digit. -/
def qs (M N s m lo : Nat) : Nat → Nat → Nat
  | 0, _ => 0
  | t + 1, l => qs M N s m lo t l + cvN (xb M s (lo + t)) (xb N s (m - (lo + t))) s s l
theorem qs_le (M N s m lo l : Nat) : ∀ t, qs M N s m lo t l ≤ t * (s * (255 * 255))
  | 0 => by simp [qs]
  | t + 1 => by
    have h1 := qs_le M N s m lo l t
    have h2 := cvN_le (xb M s (lo + t)) (xb N s (m - (lo + t))) s 255 255 s l (fun j _ => by have := xb_lt M s (lo + t) j; omega) (fun j _ => by have := xb_lt N s (m - (lo + t)) j; omega)
    rw [qs, Nat.add_mul, Nat.one_mul]; omega
theorem val_qs (M N s m lo ny : Nat) : ∀ t, (∀ i, lo ≤ i → i < lo + t → i ≤ m ∧ m < i + ny) → val (qs M N s m lo t) (2 * s) + cvN (bv M s) (bv N s) ny lo m = cvN (bv M s) (bv N s) ny (lo + t) m
  | 0, _ => by rw [val_zeros (qs M N s m lo 0) _ (fun _ _ => rfl)]; simp
  | t + 1, h => by
    have ih := val_qs M N s m lo ny t fun i h1 h2 => h i h1 (by omega)
    have e : val (qs M N s m lo (t + 1)) (2 * s) = val (qs M N s m lo t) (2 * s) + bv M s (lo + t) * bv N s (m - (lo + t)) := by
      rw [← val_xb, ← val_xb, val_vb, val_vb, val_vb, val_vb, ← vb_cvN 256 _ _ s (2 * s) s (by omega), ← vb_add]; rfl
    rw [e, ← Nat.add_assoc lo t 1, cvN, if_pos (h (lo + t) (by omega) (by omega)), ← ih]; omega

theorem cvN_low (x y : Nat → Nat) (b l : Nat) : ∀ a, (∀ i, i < a → ¬ (i ≤ l ∧ l < i + b)) → cvN x y b a l = 0
  | 0, _ => rfl
  | a + 1, h => by rw [cvN, cvN_low x y b l a (fun i hi => h i (by omega)), if_neg (h a (by omega))]
theorem cvN_high (x y : Nat → Nat) (b l a : Nat) : ∀ d, (∀ i, a ≤ i → i < a + d → ¬ (i ≤ l ∧ l < i + b)) → cvN x y b (a + d) l = cvN x y b a l
  | 0, _ => rfl
  | d + 1, h => by rw [← Nat.add_assoc, cvN, cvN_high x y b l a d (fun i h1 h2 => h i h1 (by omega)), if_neg (h (a + d) (by omega) (by omega)), Nat.add_zero]

/-- all the products, added up. -/
theorem all_products (M N s nx ny : Nat) (hM : M < 256 ^ (nx * s)) (hN : N < 256 ^ (ny * s)) (h1 : 1 ≤ nx) (h2 : 1 ≤ ny) :
    vb (256 ^ s) (cvN (bv M s) (bv N s) ny nx) (nx + ny - 1) = M * N := by
  rw [vb_cvN _ _ _ ny (nx + ny - 1) nx (by omega), vb_bv, vb_bv, Nat.mod_eq_of_lt hM, Nat.mod_eq_of_lt hN]

theorem dft_add (w : F) (f g : Nat → F) (n j : Nat) : dft w (fun i => f i + g i) n j = dft w f n j + dft w g n j := by
  unfold dft
  rw [← fsum_add]
  exact fsum_congr _ _ _ fun i _ => by grind

theorem sum_dft (X Y : Nat → Nat) (M N s n k m lo j : Nat) (hn : n = 2 * s) (hj : j < n) : ∀ t, (∀ i, lo ≤ i → i < lo + t → Tr X M s n k i ∧ Tr Y N s n k (m - i)) →
    toF (ps X Y n m lo t j) = dft (toF (root k)) (fun l => toF (qs M N s m lo t l)) n j
  | 0, _ => by
    rw [ps]
    unfold dft
    rw [fsum_congr _ (fun _ => 0) n (fun i _ => by show toF 0 * _ = 0; rw [toF_zero]; grind), fsum_zero]; rfl
  | t + 1, h => by
    have ih := sum_dft X Y M N s n k m lo j hn hj t fun i h1 h2 => h i h1 (by omega)
    obtain ⟨h1, h2⟩ := h (lo + t) (by omega) (by omega)
    rw [ps, toF_add, toF_mul, ih, (h1 j hj).2, (h2 j hj).2, dft_mul _ _ _ s s n j (by omega) (by omega) (by omega) (fun i hi => by unfold xb; rw [if_neg (by omega)]; rfl) (fun i hi => by unfold xb; rw [if_neg (by omega)]; rfl), ← dft_add]
    refine dft_congr _ _ _ _ _ fun i _ => ?_
    rw [qs, toF_add, cvN_toF]

/-- what comes back from one group is the sum of its products, exactly. -/
theorem back_exact (X Y r S : Nat → Nat) (M N s n k m lo t : Nat) (hk : k ≤ 11) (hnk : n = 2 ^ k) (hn : n = 2 * s) (hs : s ≤ 512) (ht : t ≤ 29)
    (hTr : ∀ i, lo ≤ i → i < lo + t → Tr X M s n k i ∧ Tr Y N s n k (m - i)) (hS : ∀ j, j < n → S j = ps X Y n m lo t j % 998244353)
    (hr : ∀ j, j < n → r j < 998244353 ∧ toF (r j) = toF (inv n) * dft (toF (inv (root k))) (fun i => toF (S i)) n j) : ∀ j, j < n → r j = qs M N s m lo t j := by
  intro j hj
  have hle := qs_le M N s m lo j t
  have hle2 : t * (s * (255 * 255)) ≤ 29 * (512 * (255 * 255)) := Nat.mul_le_mul ht (Nat.mul_le_mul_right _ hs)
  refine toF_inj (hr j hj).1 (by omega) ?_
  rw [(hr j hj).2]
  have e1 : dft (toF (inv (root k))) (fun i => toF (S i)) n j = dft (toF (inv (root k))) (dft (toF (root k)) (fun l => toF (qs M N s m lo t l)) n) n j := by
    refine dft_congr _ _ _ _ _ fun i hi => ?_
    rw [hS i hi, toF_mod, sum_dft X Y M N s n k m lo i hn hi t hTr]
  have hpos : 0 < n := by omega
  have h2048 : 2 ^ k ≤ 2 ^ 11 := Nat.pow_le_pow_right (by decide) hk
  rw [e1, hnk, dft_back k (toF (root k)) (toF (inv (root k))) (inv_toF _ (root_pos k (by omega)) (root_lt k)) (root_neg k (by omega)) _ j (by rw [← hnk]; exact hj), ← hnk]
  have h1 := inv_toF n hpos (by omega)
  grind
end Go.Proofs.Ygctaj.Long
