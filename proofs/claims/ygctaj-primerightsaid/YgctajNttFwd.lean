import Derived.Test.YgctajNttTransform
namespace Go.Proofs.Ygctaj.Ntt
open Go.RowKit Mem Dft
set_option linter.unusedVariables false

/-- Root(k). -/
def root (k : Nat) : Nat := Field.pw 3 (998244352 / 2 ^ k)
theorem root_lt (k : Nat) : root k < 998244353 := Field.pw_lt _ _
theorem root_neg (k : Nat) (hk : k ≤ 23) (h0 : k ≠ 0) : pwF (toF (root k)) (2 ^ (k - 1)) = -1 := by
  obtain ⟨j, rfl⟩ := Nat.exists_eq_succ_of_ne_zero h0
  have := Field.root_half j (by omega)
  rw [Nat.succ_sub_one, ← toF_pw, root, Nat.succ_eq_add_one, this]; rfl
theorem root_pos (k : Nat) (hk : k ≤ 23) : 0 < root k := by
  rcases Nat.eq_zero_or_pos (root k) with h | h
  · exfalso
    have := Field.root_pow k hk
    rw [show Field.pw 3 (998244352 / 2 ^ k) = root k from rfl, h, Field.pw_of_zero _ (Nat.ne_of_gt (Nat.two_pow_pos k))] at this
    cases this
  · exact h

/-- InvMod. -/
def inv (a : Nat) : Nat := Field.pw a 998244351
theorem inv_lt (a : Nat) : inv a < 998244353 := Field.pw_lt _ _
theorem inv_gen (a e : Nat) (h : a * Field.pw a e % 998244353 = 1) : toF (Field.pw a e) * toF a = 1 := by
  have h2 : toF (a * Field.pw a e) = toF 1 := toF_eq (by rw [h])
  rw [toF_mul, toF_one] at h2; grind
theorem inv_toF (a : Nat) (h0 : 0 < a) (h1 : a < 998244353) : toF (inv a) * toF a = 1 := inv_gen a _ (Field.inv_right a h0 h1)
theorem inv_neg (k : Nat) (hk : k ≤ 23) (h0 : k ≠ 0) : pwF (toF (inv (root k))) (2 ^ (k - 1)) = -1 := by
  have h1 := inv_pow (inv_toF (root k) (root_pos k hk) (root_lt k)) (2 ^ (k - 1))
  rw [root_neg k hk h0] at h1; grind

set_option maxRecDepth 20000 in
set_option maxHeartbeats 400000 in
theorem level_any (k n : Nat) (w : World) (hk : k ≤ 11) (hn : n = 2 ^ k) :
    Calls Tajg.prog 77 #[.int .i64 (n : Int)] w fun e w' => e = .returned (.int .i64 (k : Int)) ∧ w' = w := by
  have HN : Hid (n = 2 ^ k) := hn
  clear hn
  go_enter Tajg.func77, Tajg.ntmps77
  go_wp2_with fail
  go_loop [3] (fun i => ∃ j : Nat, j ≤ k ∧ i = .int .i64 j) (fun i => 12 - (intOf i).toNat)
  case atStart => exact ⟨0, Nat.zero_le _, rfl⟩
  case round =>
    obtain ⟨j, hj, rfl⟩ := hrel
    have hw := wrap64_pow j (by omega)
    by_cases hlt : j < k
    · have hne : ((n : Int) == ((2 ^ j : Nat) : Int)) = false := by
        rw [beq_eq_false_iff_ne]
        intro h
        have h2 : n = 2 ^ j := by exact_mod_cast h
        rw [HN.out] at h2
        have : 2 ^ j < 2 ^ k := Nat.pow_lt_pow_right (by decide) hlt
        omega
      have HW : Hid (wrap64 ((2 : Int) ^ j) = ((2 ^ j : Nat) : Int)) := hw
      have hne2 : ((n : Int) == wrap64 ((2 : Int) ^ j)) = false := by rw [HW.out]; exact hne
      clear hw hne
      go_wp2_with fail
      go_round
      case rel => exact ⟨j + 1, by omega, by go_num⟩
      case measure => simp [intOf]; omega
    · obtain rfl : j = k := by omega
      have he2 : ((n : Int) == wrap64 ((2 : Int) ^ j)) = true := by rw [hw, HN.out]; exact beq_self_eq_true _
      clear hw
      go_wp2_with fail
      go_ret
      exact ⟨rfl, rfl⟩

theorem below_any (b off n cap : Nat) (x : Nat → Nat) (w : World) (hn : n ≤ 1099511627776) (hx : Rd .u32 w b off n x) (hb : ∀ i, i < n → x i < 998244353) :
    Calls Tajg.prog 78 #[.slice (some ⟨b, off, none⟩) n cap] w fun e w' => e = .returned (.bool true) ∧ w' = w := by
  go_enter Tajg.func78, Tajg.ntmps78
  go_wp2_with fail
  go_loop [3] (fun i => ∃ k : Nat, k ≤ n ∧ i = .int .i64 k) (fun i => n - (intOf i).toNat)
  case atStart => exact ⟨0, Nat.zero_le _, rfl⟩
  case round =>
    obtain ⟨k, hk, rfl⟩ := hrel
    by_cases hlt : k < n
    · have hc := hx k hlt
      have hv : ((x k : Nat) : Int) < 998244353 := by have := hb k hlt; omega
      generalize ((x k : Nat) : Int) = v at *
      clear hx hb
      go_wp2_with fail
      go_round
      case rel => exact ⟨k + 1, by omega, by go_num⟩
      case measure => simp [intOf]; omega
    · go_wp2_with fail
      go_ret
      exact ⟨rfl, rfl⟩

set_option maxRecDepth 20000 in
set_option maxHeartbeats 400000 in
theorem forward_any (b off k n cap : Nat) (x : Nat → Nat) (w : World) (hk : k ≤ 11) (hn : n = 2 ^ k) (hcap : n ≤ cap) (hx : Rd .u32 w b off n x) (hwx : Wr w b off n) (hxl : ∀ i, i < n → x i < 998244353) :
    Calls Tajg.prog 41 #[.slice (some ⟨b, off, none⟩) n cap] w fun e w' =>
      e = .returned (.bool true) ∧ ∃ y : Nat → Nat, Rd .u32 w' b off n y ∧ (∀ j, j < n → y j < 998244353 ∧ toF (y j) = dft (toF (root k)) (fun i => toF (x i)) n j) ∧ Chg (fun k o => k = b ∧ off ≤ o ∧ o < off + n) w w' := by
  have h2048 : n ≤ 2048 := by
    have : 2 ^ k ≤ 2 ^ 11 := Nat.pow_le_pow_right (by decide) hk
    omega
  have HN : Hid (n = 2 ^ k) := hn
  clear hn
  go_enter Tajg.func41, Tajg.ntmps41
  go_wp2_with fail
  refine (level_any k n w hk HN.out).mono ?_
  rintro e w1 ⟨rfl, rfl⟩
  go_wp2_with fail
  refine (below_any b off n cap x _ (by omega) hx hxl).mono ?_
  rintro e w1 ⟨rfl, rfl⟩
  go_wp2_with fail
  refine (Field.root_low k _ (by omega)).mono ?_
  rintro e w1 ⟨rfl, rfl⟩
  rw [show Field.pw 3 (998244352 / 2 ^ k) = root k from rfl]
  go_wp2_with fail
  refine (transform_any b off k n cap (root k) x _ HN.out hcap h2048 (root_lt k) hx hwx hxl (root_neg k (by omega))).mono ?_
  rintro e w1 ⟨rfl, y, hy, hd, hc⟩
  go_wp2_with fail
  go_ret
  exact ⟨rfl, y, hy, hd, hc⟩

set_option maxRecDepth 20000 in
set_option maxHeartbeats 1000000 in
theorem inverse_any (b off k n cap : Nat) (x : Nat → Nat) (w : World) (hk : k ≤ 11) (hn : n = 2 ^ k) (hcap : n ≤ cap) (hx : Rd .u32 w b off n x) (hwx : Wr w b off n) (hxl : ∀ i, i < n → x i < 998244353) :
    Calls Tajg.prog 44 #[.slice (some ⟨b, off, none⟩) n cap] w fun e w' =>
      e = .returned (.bool true) ∧ ∃ y : Nat → Nat, Rd .u32 w' b off n y ∧ (∀ j, j < n → y j < 998244353 ∧ toF (y j) = toF (inv n) * dft (toF (inv (root k))) (fun i => toF (x i)) n j) ∧ Chg (fun k o => k = b ∧ off ≤ o ∧ o < off + n) w w' := by
  have h2048 : n ≤ 2048 := by
    have : 2 ^ k ≤ 2 ^ 11 := Nat.pow_le_pow_right (by decide) hk
    omega
  have hpos : 0 < n := by rw [hn]; exact Nat.two_pow_pos k
  have hb := hx.lt hpos
  have HN : Hid (n = 2 ^ k) := hn
  clear hn
  go_enter Tajg.func44, Tajg.ntmps44
  go_wp2_with fail
  refine (level_any k n w hk HN.out).mono ?_
  rintro e w1 ⟨rfl, rfl⟩
  go_wp2_with fail
  refine (below_any b off n cap x _ (by omega) hx hxl).mono ?_
  rintro e w1 ⟨rfl, rfl⟩
  go_wp2_with fail
  refine (Field.root_low k _ (by omega)).mono ?_
  rintro e w1 ⟨rfl, rfl⟩
  rw [show Field.pw 3 (998244352 / 2 ^ k) = root k from rfl]
  have hrl := root_lt k
  go_wp2_with fail
  refine (Field.invMod_any _ _ (by omega) (by omega)).mono ?_
  rintro e w1 ⟨rfl, rfl⟩
  rw [Int.toNat_natCast, show Field.pw (root k) 998244351 = inv (root k) from rfl]
  go_wp2_with fail
  refine (transform_any b off k n cap (inv (root k)) x _ HN.out hcap h2048 (inv_lt _) hx hwx hxl (inv_neg k (by omega))).mono ?_
  rintro e w2 ⟨rfl, y, hy, hd, hc⟩
  clear hx hxl hrl
  go_wp2_with fail
  refine (Field.invMod_any _ _ (by omega) (by omega)).mono ?_
  rintro e w3 ⟨rfl, rfl⟩
  rw [Int.toNat_natCast, show Field.pw n 998244351 = inv n from rfl]
  have hil := inv_lt n
  have HD : Hid (∀ j, j < n → y j < 998244353 ∧ toF (y j) = dft (toF (inv (root k))) (fun i => toF (x i)) n j) := hd
  clear hd
  generalize hI : inv n = I at *
  have HI : Hid (inv n = I) := hI
  clear hI
  have hfo := fun w => factorOf_any I w hil
  unfold fac at hfo
  have HF : Hid (∀ w, Calls Tajg.prog 81 #[.int .u32 (I : Int)] w fun e w' => e = .returned (.agg #[.int .u32 (I : Int), .int .u32 ((I * 4294967296 / 998244353 : Nat) : Int)]) ∧ Same w w') := hfo
  have HT : Hid (∀ (x : Nat) w, x < 4294967296 → Calls Tajg.prog 83 #[.agg #[.int .u32 (I : Int), .int .u32 ((I * 4294967296 / 998244353 : Nat) : Int)], .int .u32 (x : Int)] w fun e w' => e = .returned (.int .u32 (shoup I x : Int)) ∧ Same w w') := fun x w hx => times_any I x w hil hx
  clear hfo
  generalize ((I * 4294967296 / 998244353 : Nat) : Int) = R at *
  go_wp2_with fail
  refine (HF.out _).mono ?_
  rintro e w4 ⟨rfl, hs4⟩
  go_wp2_with fail
  have hy4 := hy.same (hs4.alloc (.cells #[.int .u32 (I : Int), .int .u32 R] 102))
  have hc4 : Chg (fun k o => k = b ∧ off ≤ o ∧ o < off + n) w1 (w4.alloc (.cells #[.int .u32 (I : Int), .int .u32 R] 102)) := hc.trans (Same.chg (hs4.alloc _))
  have hb0 : (w4.alloc (.cells #[.int .u32 (I : Int), .int .u32 R] 102)).cell? ⟨w4.heap.size, 0, none⟩ = some (.int .u32 (I : Int)) := by simp
  have hb1 : (w4.alloc (.cells #[.int .u32 (I : Int), .int .u32 R] 102)).cell? ⟨w4.heap.size, 1, none⟩ = some (.int .u32 R) := by simp
  have hbB : b < w4.heap.size := Nat.lt_of_lt_of_le hb (Nat.le_trans hc.size hs4.size)
  clear hy hc hs4
  generalize w4.alloc (.cells #[.int .u32 (I : Int), .int .u32 R] 102) = w5 at *
  generalize w4.heap.size = B at *
  go_loopw [6] (fun i wr => ∃ i' : Nat, i' ≤ n ∧ i = .int .i64 i' ∧ Rd .u32 wr b off n (mix i' (fun j => shoup I (y j) % 998244353) y) ∧ wr.cell? ⟨B, 0, none⟩ = some (.int .u32 (I : Int)) ∧ wr.cell? ⟨B, 1, none⟩ = some (.int .u32 R) ∧ Chg (fun k o => k = b ∧ off ≤ o ∧ o < off + n) w1 wr)
    (fun i _ => n - (intOf i).toNat)
  case atStart => exact ⟨0, Nat.zero_le _, rfl, hy4.start _, hb0, hb1, hc4⟩
  case round =>
    clear hy4 hc4 hb0 hb1
    obtain ⟨i, hi, rfl, hy, c0, c1, hc⟩ := hrel
    by_cases hlt : i < n
    · have ci := hy.at hlt
      have fi := (hwx.kept hc hb) i hlt
      have hyl := (HD.out i hlt).1
      have HTV : Hid (∀ w, Calls Tajg.prog 83 #[.agg #[.int .u32 (I : Int), .int .u32 R], .int .u32 ((y i : Nat) : Int)] w fun e w' => e = .returned (.int .u32 ((shoup I (y i) : Nat) : Int)) ∧ Same w w') := fun w => HT.out _ w (by omega)
      have hsl := shoup_lt I (y i) (by omega)
      have hV0 : 0 ≤ ((shoup I (y i) : Nat) : Int) := by omega
      have hV1 : ((shoup I (y i) : Nat) : Int) < 1996488706 := by omega
      have HV : Hid (((shoup I (y i) : Nat) : Int) % 998244353 = ((shoup I (y i) % 998244353 : Nat) : Int)) := rfl
      clear hyl hsl
      generalize ((shoup I (y i) : Nat) : Int) = V at *
      generalize hVM : ((shoup I (y i) % 998244353 : Nat) : Int) = VM at *
      have HVM : Hid (VM = ((shoup I (y i) % 998244353 : Nat) : Int)) := hVM.symm
      clear hVM
      go_wp2_with fail
      refine Text.wp_text (by kernel_rfl) (by kernel_rfl) ⟨fun c a w h => by exact absurd h.2.1 (by simp), fun a w h => by exact absurd h.1 (by simp)⟩ ?_
      intro K hK
      go_wp2_with fail
      refine (HTV.out _).mono ?_
      rintro e w6 ⟨rfl, hs6⟩
      go_wp2_with fail
      refine (fold_any _ _ hV0 hV1).mono ?_
      rintro e w7 ⟨rfl, rfl⟩
      rw [HV.out]
      have hsx : Same wr w7 := (Chg.refl _ _).drew.trans hs6
      have d0 := cellK hsx ci id
      have e0 := frozenK hsx ci fi
      go_wp2_with fail
      refine hK _ _ (by rfl) ?_
      go_wp2_with fail
      go_roundw
      case rel =>
        refine ⟨i + 1, by omega, by go_num, (hy.same hsx).step hlt _ HVM.out, ?_, ?_, (hc.trans (Same.chg hsx)).setCell _ _ _ (by omega)⟩
        · rw [World.cell?_setCell_other _ _ _ _ (by intro e'; injection e' with e2 _; omega)]; exact cellK hsx c0 id
        · rw [World.cell?_setCell_other _ _ _ _ (by intro e'; injection e' with e2 _; omega)]; exact cellK hsx c1 id
      case measure => simp [intOf]; omega
    · go_wp2_with fail
      go_ret
      refine ⟨rfl, _, hy.done (by omega), fun j hj => ⟨Nat.mod_lt _ (by decide), ?_⟩, hc⟩
      rw [toF_mod, shoup_toF, (HD.out j hj).2, HI.out]; grind
end Go.Proofs.Ygctaj.Ntt
