import Derived.Test.YgctajLawNtt
namespace Go.Proofs.Ygctaj.nTTBack
open Go.RowKit Mem Dft Ntt
set_option linter.unusedVariables false

set_option maxRecDepth 20000 in
set_option maxHeartbeats 400000 in
theorem walk_none (a : Option Addr) (cap : Nat) (w : World) :
    Calls Tajg.prog 13 #[.slice a 0 cap] w fun e w' => e = .returned (.bool true) ∧ Same w w' := by
  go_enter Tajg.func13, Tajg.ntmps13
  go_wp2_with fail
  refine (elements_none _ _ _).mono ?_
  rintro e w1 ⟨rfl, hs⟩
  go_wp2_with fail
  go_ret
  exact ⟨rfl, hs⟩

set_option maxRecDepth 20000 in
set_option maxHeartbeats 400000 in
theorem walk_some (b off len cap : Nat) (z : Nat → Nat) (w : World) (hn : len ≤ 9223372036854775807) (hl : 1 ≤ len) (hz : Rd .u32 w b off len z) (hzl : ∀ i, i < len → z i < 4294967296) :
    Calls Tajg.prog 13 #[.slice (some ⟨b, off, none⟩) len cap] w fun e w' => e = .returned (.bool true) ∧ Same w w' := by
  go_enter Tajg.func13, Tajg.ntmps13
  go_wp2_with fail
  refine (elements_any b off len cap z w hn hl hz hzl).mono ?_
  rintro e w1 ⟨k, n, B, hk, hnk, rfl, hB, hx, hwx, hs⟩
  clear hz hzl
  have HN : Hid (n = 2 ^ k) := hnk
  have hp11 : 2 ^ k ≤ 2 ^ 11 := Nat.pow_le_pow_right (by decide) hk
  have hpos : 0 < n := by rw [hnk]; exact Nat.two_pow_pos k
  have hn2 : n ≤ 2048 := by omega
  have hxl : ∀ i, i < n → (fun i => z i % 998244353) i < 998244353 := fun i _ => Nat.mod_lt _ (by decide)
  clear hnk hp11
  generalize (fun i => z i % 998244353) = x at *
  go_wp2_with fail
  refine (copyE_any B 0 n n x _ (by omega) hx).mono ?_
  rintro e w2 ⟨C, rfl, hC, hy, hwy, hs2⟩
  have hx2 := hx.same hs2
  have hBC : B < C := Nat.lt_of_lt_of_le (hx.lt hpos) hC
  clear hx hwx
  go_wp2_with fail
  refine (forward_any C 0 k n n x _ hk HN.out (Nat.le_refl _) hy hwy hxl).mono ?_
  rintro e w3 ⟨rfl, y, hy3, hd, hc3⟩
  have hx3 := hx2.kept hc3 (by omega)
  have hwy3 := hwy.kept hc3 (hy.lt hpos)
  clear hx2 hy hwy
  go_wp2_with fail
  refine (inverse_any C 0 k n n y _ hk HN.out (Nat.le_refl _) hy3 hwy3 (fun i hi => (hd i hi).1)).mono ?_
  rintro e w4 ⟨rfl, u, hu4, hu, hc4⟩
  have hx4 := hx3.kept hc4 (by omega)
  have hux : ∀ i, i < n → u i = x i := by
    intro i hi
    refine toF_inj (hu i hi).1 (hxl i hi) ?_
    rw [(hu i hi).2]
    have e1 : dft (toF (inv (root k))) (fun i => toF (y i)) n i = dft (toF (inv (root k))) (dft (toF (root k)) (fun i => toF (x i)) n) n i :=
      dft_congr _ _ _ _ _ fun j hj => (hd j hj).2
    rw [e1, HN.out, dft_back k (toF (root k)) (toF (inv (root k))) (inv_toF _ (root_pos k (by omega)) (root_lt k)) (root_neg k (by omega)) _ i (by rw [← HN.out]; exact hi), ← HN.out]
    have h1 := inv_toF n hpos (by omega)
    grind
  have hux4 := hu4.congr hux
  clear hu4 hx3 hy3 hwy3 hd hu hux
  go_wp2_with fail
  refine (sameElems_any B 0 C 0 n n n x _ (by omega) hx4 hux4).mono ?_
  rintro e w5 ⟨rfl, hs5⟩
  go_wp2_with fail
  go_ret
  refine ⟨rfl, ?_⟩
  have h1 : Same w w2 := hs.trans hs2
  exact ((h1.trans_new hc3 (by omega)).trans_new hc4 (by omega)).trans hs5

theorem walk (a0 : Option Addr) (len0 cap0 : Nat) (z0 : List Int) (w : World) (w0 : IsRow .u32 w a0 len0 cap0 z0) :
    Calls Tajg.prog 13 #[.slice a0 len0 cap0] w fun e w' => e = .returned (.bool true) ∧ Below w.heap.size w w' := by
  have key : Calls Tajg.prog 13 #[.slice a0 len0 cap0] w fun e w' => e = .returned (.bool true) ∧ Same w w' := by
    rcases w0 with ⟨rfl, rfl, rfl, rfl⟩ | ⟨x, rfl, hl, hm, hz, hc, hw⟩
    · exact walk_none _ _ _
    · by_cases h0 : len0 = 0
      · subst h0; exact walk_none _ _ _
      · obtain ⟨b, off, rfl, hr, hb⟩ := row_u32 hl hz hc hw (by omega)
        exact walk_some b off len0 cap0 _ w (by unfold maxLen at hm; omega) (by omega) hr hb
  refine key.mono fun e w' ⟨he, hs⟩ => ⟨he, Chg.below (Nat.le_refl _) (Same.chg hs)⟩
end Go.Proofs.Ygctaj.nTTBack
