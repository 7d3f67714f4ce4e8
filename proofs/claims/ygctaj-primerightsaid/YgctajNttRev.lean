import Derived.Test.YgctajMem
import Derived.Test.YgctajOrder
import Derived.Test.YgctajRev
namespace Go.Proofs.Ygctaj.Ntt
open Go.RowKit Mem Dft
set_option linter.unusedVariables false

/-- what lies at a while reverse goes over the pairs: those with a place below i are exchanged. -/
def half (k i : Nat) (x : Nat → Nat) (a : Nat) : Nat := if a < i ∨ rev k a < i then x (rev k a) else x a

theorem half_zero (k : Nat) (x : Nat → Nat) (a : Nat) : half k 0 x a = x a := by simp [half]
theorem half_end (k : Nat) (x : Nat → Nat) (a : Nat) (h : a < 2 ^ k) : half k (2 ^ k) x a = x (rev k a) := by simp [half, h]

theorem half_at (k i : Nat) (x : Nat → Nat) (hi : i < 2 ^ k) (h : i < rev k i) : half k i x i = x i ∧ half k i x (rev k i) = x (rev k i) := by
  unfold half
  rw [if_neg (by omega), rev_rev k i hi, if_neg (by omega)]
  exact ⟨rfl, rfl⟩

/-- no exchange. -/
theorem half_keep (k i : Nat) (x : Nat → Nat) (hi : i < 2 ^ k) (h : ¬ i < rev k i) (a : Nat) (ha : a < 2 ^ k) : half k i x a = half k (i + 1) x a := by
  unfold half
  by_cases e : a = i
  · subst e
    by_cases e2 : rev k a = a
    · rw [if_neg (by omega), if_pos (by omega), e2]
    · rw [if_pos (by omega), if_pos (by omega)]
  · by_cases e3 : rev k a = i
    · have : rev k i = a := by rw [← e3, rev_rev k a ha]
      rw [if_pos (by omega), if_pos (by omega)]
    · by_cases e4 : a < i ∨ rev k a < i
      · rw [if_pos e4, if_pos (by omega)]
      · rw [if_neg e4, if_neg (by omega)]

/-- an exchange. -/
theorem half_swap (k i : Nat) (x : Nat → Nat) (hi : i < 2 ^ k) (h : i < rev k i) (a : Nat) (ha : a < 2 ^ k) :
    upd (upd (half k i x) i (x (rev k i))) (rev k i) (x i) a = half k (i + 1) x a := by
  have hr := rev_rev k i hi
  unfold upd half
  by_cases e : a = rev k i
  · subst e
    rw [if_pos rfl, hr, if_pos (by omega)]
  · rw [if_neg e]
    by_cases e2 : a = i
    · subst e2; rw [if_pos rfl, if_pos (by omega)]
    · rw [if_neg e2]
      have e3 : rev k a ≠ i := fun he => e (by rw [← he, rev_rev k a ha])
      by_cases e4 : a < i ∨ rev k a < i
      · rw [if_pos e4, if_pos (by omega)]
      · rw [if_neg e4, if_neg (by omega)]

set_option maxHeartbeats 1000000 in
theorem reverse_any (b off k n cap : Nat) (x : Nat → Nat) (w : World) (hn : n = 2 ^ k) (hk : n ≤ 1099511627776) (hx : Rd .u32 w b off n x) (hwx : Wr w b off n) :
    Calls Tajg.prog 126 #[.slice (some ⟨b, off, none⟩) n cap] w fun e w' =>
      e = .returned (.tuple #[]) ∧ Rd .u32 w' b off n (fun i => x (rev k i)) ∧ Chg (fun k o => k = b ∧ off ≤ o ∧ o < off + n) w w' := by
  have hpos : 0 < n := by rw [hn]; exact Nat.two_pow_pos k
  have hb := hx.lt hpos
  have HN : Hid (n = 2 ^ k) := hn
  clear hn
  go_enter Tajg.func126, Tajg.ntmps126
  go_wp2_with fail
  go_loopw [2, 3] (fun j i wr => ∃ a : Nat, a ≤ n ∧ i = .int .i64 a ∧ j = .int .i64 ((rev k (a % n) : Nat) : Int) ∧ Rd .u32 wr b off n (half k a x) ∧ Chg (fun k o => k = b ∧ off ≤ o ∧ o < off + n) w wr)
    (fun _ i _ => n - (intOf i).toNat)
  case atStart => exact ⟨0, Nat.zero_le _, rfl, by rw [Nat.zero_mod, rev_zero]; rfl, hx.congr (fun a _ => (half_zero k x a).symm), Chg.refl _ _⟩
  case round =>
    obtain ⟨a, ha, rfl, rfl, h1, hc⟩ := hrel
    by_cases hlt : a < n
    · have hJ := rev_lt k (a % n)
      have hwr := hwx.kept hc hb
      rw [← HN.out] at hJ
      rw [Nat.mod_eq_of_lt hlt] at *
      have hnx := nxt_rev k a (by rw [← HN.out]; exact hlt)
      rw [← HN.out] at hnx
      have HX : Hid (nxt k (rev k a) = rev k ((a + 1) % n)) := hnx
      clear hnx
      by_cases hsw : a < rev k a
      · have hat := half_at k a x (by rw [← HN.out]; exact hlt) hsw
        have c1 := h1 a hlt
        have c2 := h1 (rev k a) hJ
        rw [hat.1] at c1
        rw [hat.2] at c2
        have f1 := hwr a hlt
        have f2 := hwr (rev k a) hJ
        have hsq : ∀ i, i < n → upd (upd (half k a x) a (x (rev k a))) (rev k a) (x a) i = half k (a + 1) x i := fun i hi => half_swap k a x (by rw [← HN.out]; exact hlt) hsw i (by rw [← HN.out]; exact hi)
        have HS : Hid (∀ i, i < n → upd (upd (half k a x) a (x (rev k a))) (rev k a) (x a) i = half k (a + 1) x i) := hsq
        clear hsq hat
        have HJ : Hid (rev k a < n) := hJ
        generalize hJJ : rev k a = J at *
        go_wp2_with fail
        refine Text.wp_text (by kernel_rfl) (by kernel_rfl) ⟨fun c a w h => by exact absurd h.2.1 (by simp), fun a w h => by exact absurd h.1 (by simp)⟩ ?_
        intro K hK
        go_wp2_with fail
        refine hK _ _ (by rfl) ?_
        have hT : ((rev k ((a + 1) % n) : Nat) : Int) = ((rev k ((a + 1) % n) : Nat) : Int) := rfl
        have HB : Hid (bt k = n / 2) := by rw [HN.out]; cases k with
          | zero => rfl
          | succ k => show 2 ^ k = 2 ^ (k + 1) / 2; rw [Nat.pow_succ]; omega
        generalize hTT : rev k ((a + 1) % n) = T at *
        have HT : Hid (rev k ((a + 1) % n) = T) := hTT
        clear hTT hT
        have hRd : Rd .u32 ((wr.drew.setCell ⟨b, off + a, none⟩ (.int .u32 ((x J : Nat) : Int))).setCell ⟨b, off + J, none⟩ (.int .u32 ((x a : Nat) : Int))) b off n (half k (a + 1) x) :=
          (((h1.drew.setCell a (x J) hlt).setCell J (x a) HJ.out)).congr HS.out
        have hCh : Chg (fun k o => k = b ∧ off ≤ o ∧ o < off + n) w ((wr.drew.setCell ⟨b, off + a, none⟩ (.int .u32 ((x J : Nat) : Int))).setCell ⟨b, off + J, none⟩ (.int .u32 ((x a : Nat) : Int))) :=
          ((hc.drew.setCell _ _ _ (by have := HJ.out; omega)).setCell _ _ _ (by have := HJ.out; omega))
        generalize ((x J : Nat) : Int) = XJ at *
        generalize ((x a : Nat) : Int) = XA at *
        have HR : Hid (Rd .u32 ((wr.drew.setCell ⟨b, off + a, none⟩ (.int .u32 XJ)).setCell ⟨b, off + J, none⟩ (.int .u32 XA)) b off n (half k (a + 1) x) ∧ Chg (fun k o => k = b ∧ off ≤ o ∧ o < off + n) w ((wr.drew.setCell ⟨b, off + a, none⟩ (.int .u32 XJ)).setCell ⟨b, off + J, none⟩ (.int .u32 XA))) := ⟨hRd, hCh⟩
        clear hRd hCh h1 hc hwr c1 c2 f1 f2 HS hwx hx
        go_wp2_with fail
        go_loop [2, 4] (fun j bit => ∃ s J' : Nat, J' < 2 ^ s ∧ s ≤ k ∧ bit = .int .i64 ((bt s : Nat) : Int) ∧ j = .int .i64 ((J' : Nat) : Int) ∧ nxt s J' = T) (fun _ bit => (intOf bit).toNat)
        case atStart => exact ⟨k, J, by rw [← HN.out]; exact HJ.out, Nat.le_refl _, by rw [HB.out]; rfl, rfl, HX.out⟩
        case round =>
          obtain ⟨s, J', hJs, hsk, rfl, rfl, hnx⟩ := hrel
          have hJ62 : J' < 2 ^ 62 := by
            have h1 : 2 ^ s ≤ 2 ^ k := Nat.pow_le_pow_right (by decide) hsk
            have h2 := HN.out
            omega
          cases s with
          | zero =>
            have h0 : J' = T := hnx
            have hz : bt 0 = 0 := rfl
            have hor := (bits_i64 J' 0 hJ62 (by decide)).2.1
            rw [Nat.or_zero, h0] at hor
            have HO : Hid (bits .or .i64 (T : Int) 0 = (T : Int)) := hor
            rw [hz]
            subst h0
            have ho := HO.out
            clear hnx hz hor HO
            go_wp2_with fail
            go_roundw
            case rel => exact ⟨a + 1, by omega, by go_num, by rw [HT.out], HR.out.1, HR.out.2⟩
            case measure => simp [intOf]; omega
          | succ s =>
            have hB0 : 0 < 2 ^ s := Nat.two_pow_pos s
            have hB62 : 2 ^ s < 2 ^ 62 := by
              have h1 : 2 ^ (s + 1) ≤ 2 ^ k := Nat.pow_le_pow_right (by decide) hsk
              have h2 := HN.out
              rw [Nat.pow_succ] at h1
              omega
            have hb := bits_i64 J' (2 ^ s) hJ62 hB62
            have hand := hb.1
            rw [and_bit J' s hJs] at hand
            have hbt : bt (s + 1) = 2 ^ s := rfl
            have hbh := bt_half s
            rw [hbt] at hbh ⊢
            rw [nxt] at hnx
            by_cases hge : 2 ^ s ≤ J'
            · rw [if_pos hge] at hand hnx
              have hxor := hb.2.2
              rw [xor_bit J' s hJs hge] at hxor
              have hJs' : J' - 2 ^ s < 2 ^ s := by rw [Nat.pow_succ] at hJs; omega
              have HH : Hid (2 ^ s / 2 = bt s ∧ nxt s (J' - 2 ^ s) = T ∧ J' - 2 ^ s < 2 ^ s) := ⟨hbh, hnx, hJs'⟩
              clear hb hbt hbh hnx hJs' hJs hJ62
              generalize hBB : 2 ^ s = B at *
              have hnz : (((B : Nat) : Int) != 0) = true := by rw [bne_iff_ne]; omega
              go_wp2_with fail
              go_round
              case rel => exact ⟨s, J' - B, by rw [hBB]; exact HH.out.2.2, by omega, by rw [← HH.out.1]; rfl, rfl, HH.out.2.1⟩
              case measure => simp [intOf]; omega
            · rw [if_neg hge] at hand hnx
              have hor := hb.2.1
              rw [or_bit J' s (by omega), hnx] at hor
              clear hb hbt hbh hnx hJs hJ62
              generalize hBB : 2 ^ s = B at *
              go_wp2_with fail
              go_roundw
              case rel => exact ⟨a + 1, by omega, by go_num, by rw [HT.out], HR.out.1, HR.out.2⟩
              case measure => simp [intOf]; omega
      · have hkp : ∀ i, i < n → half k a x i = half k (a + 1) x i := fun i hi => half_keep k a x (by rw [← HN.out]; exact hlt) hsw i (by rw [← HN.out]; exact hi)
        have HJ : Hid (rev k a < n) := hJ
        generalize hJJ : rev k a = J at *
        have HB : Hid (bt k = n / 2) := by rw [HN.out]; cases k with
          | zero => rfl
          | succ k => show 2 ^ k = 2 ^ (k + 1) / 2; rw [Nat.pow_succ]; omega
        generalize hTT : rev k ((a + 1) % n) = T at *
        have HT : Hid (rev k ((a + 1) % n) = T) := hTT
        clear hTT
        have HR : Hid (Rd .u32 wr b off n (half k (a + 1) x) ∧ Chg (fun k o => k = b ∧ off ≤ o ∧ o < off + n) w wr) := ⟨h1.congr hkp, hc⟩
        clear h1 hc hwr hwx hx hkp
        go_wp2_with fail
        go_loop [2, 4] (fun j bit => ∃ s J' : Nat, J' < 2 ^ s ∧ s ≤ k ∧ bit = .int .i64 ((bt s : Nat) : Int) ∧ j = .int .i64 ((J' : Nat) : Int) ∧ nxt s J' = T) (fun _ bit => (intOf bit).toNat)
        case atStart => exact ⟨k, J, by rw [← HN.out]; exact HJ.out, Nat.le_refl _, by rw [HB.out]; rfl, rfl, HX.out⟩
        case round =>
          obtain ⟨s, J', hJs, hsk, rfl, rfl, hnx⟩ := hrel
          have hJ62 : J' < 2 ^ 62 := by
            have h1 : 2 ^ s ≤ 2 ^ k := Nat.pow_le_pow_right (by decide) hsk
            have h2 := HN.out
            omega
          cases s with
          | zero =>
            have h0 : J' = T := hnx
            have hz : bt 0 = 0 := rfl
            have hor := (bits_i64 J' 0 hJ62 (by decide)).2.1
            rw [Nat.or_zero, h0] at hor
            have HO : Hid (bits .or .i64 (T : Int) 0 = (T : Int)) := hor
            rw [hz]
            subst h0
            have ho := HO.out
            clear hnx hz hor HO
            go_wp2_with fail
            go_roundw
            case rel => exact ⟨a + 1, by omega, by go_num, by rw [HT.out], HR.out.1, HR.out.2⟩
            case measure => simp [intOf]; omega
          | succ s =>
            have hB0 : 0 < 2 ^ s := Nat.two_pow_pos s
            have hB62 : 2 ^ s < 2 ^ 62 := by
              have h1 : 2 ^ (s + 1) ≤ 2 ^ k := Nat.pow_le_pow_right (by decide) hsk
              have h2 := HN.out
              rw [Nat.pow_succ] at h1
              omega
            have hb := bits_i64 J' (2 ^ s) hJ62 hB62
            have hand := hb.1
            rw [and_bit J' s hJs] at hand
            have hbt : bt (s + 1) = 2 ^ s := rfl
            have hbh := bt_half s
            rw [hbt] at hbh ⊢
            rw [nxt] at hnx
            by_cases hge : 2 ^ s ≤ J'
            · rw [if_pos hge] at hand hnx
              have hxor := hb.2.2
              rw [xor_bit J' s hJs hge] at hxor
              have hJs' : J' - 2 ^ s < 2 ^ s := by rw [Nat.pow_succ] at hJs; omega
              have HH : Hid (2 ^ s / 2 = bt s ∧ nxt s (J' - 2 ^ s) = T ∧ J' - 2 ^ s < 2 ^ s) := ⟨hbh, hnx, hJs'⟩
              clear hb hbt hbh hnx hJs' hJs hJ62
              generalize hBB : 2 ^ s = B at *
              have hnz : (((B : Nat) : Int) != 0) = true := by rw [bne_iff_ne]; omega
              go_wp2_with fail
              go_round
              case rel => exact ⟨s, J' - B, by rw [hBB]; exact HH.out.2.2, by omega, by rw [← HH.out.1]; rfl, rfl, HH.out.2.1⟩
              case measure => simp [intOf]; omega
            · rw [if_neg hge] at hand hnx
              have hor := hb.2.1
              rw [or_bit J' s (by omega), hnx] at hor
              clear hb hbt hbh hnx hJs hJ62
              generalize hBB : 2 ^ s = B at *
              go_wp2_with fail
              go_roundw
              case rel => exact ⟨a + 1, by omega, by go_num, by rw [HT.out], HR.out.1, HR.out.2⟩
              case measure => simp [intOf]; omega
    · go_wp2_with fail
      go_end0
      have e : a = n := by omega
      subst e
      refine ⟨rfl, h1.congr fun i hi => ?_, hc⟩
      rw [HN.out]; exact half_end k x i (by rw [← HN.out]; exact hi)
end Go.Proofs.Ygctaj.Ntt
