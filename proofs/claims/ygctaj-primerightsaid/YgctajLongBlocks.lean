/- mlong.blocks, walked. -/
import Derived.Test.YgctajLongBack
import Derived.Test.YgctajNatMul
namespace Go.Proofs.Ygctaj.Mem
open Go.RowKit
theorem Rd.window {k : IntKind} {w w' : World} {b off L q n : Nat} {O y : Nat → Nat} {may : Nat → Nat → Prop} (h : Rd k w b off L O) (hc : Chg may w w') (hm : ∀ i, i < L → ¬ (q ≤ i ∧ i < q + n) → ¬ may b (off + i)) (hy : Rd k w' b (off + q) n y) :
    Rd k w' b off L (fun l => if q ≤ l ∧ l < q + n then y (l - q) else O l) := by
  intro i hi
  by_cases hw : q ≤ i ∧ i < q + n
  · have := hy (i - q) (by omega)
    rw [show off + q + (i - q) = off + i from by omega] at this
    simp only [this, if_pos hw]
  · simp only [if_neg hw, hc.cell b (off + i) (lt_of_cell (h i hi)) (hm i hi hw)]; exact h i hi
end Go.Proofs.Ygctaj.Mem

namespace Go.Proofs.Ygctaj.Long
open Go.RowKit Mem Dft Ntt Nt
set_option linter.unusedVariables false

/-- digit l of block t, of s digits; the rest zeros. -/
def xb (N s t : Nat) : Nat → Nat := fun l => if l < s then dg N (t * s + l) else 0
theorem xb_lt (N s t l : Nat) : xb N s t l < 256 := by
  unfold xb; split
  · exact dg_lt _ _
  · omega

/-- what lies at l once i digits are dealt out. -/
def dealt (N s n i l : Nat) : Nat := if l % n < s ∧ l / n * s + l % n < i then dg N (l / n * s + l % n) else 0
theorem dealt_zero (N s n l : Nat) : dealt N s n 0 l = 0 := by unfold dealt; rw [if_neg (by omega)]
theorem div_pos {n a b : Nat} (hb : b < n) : (a * n + b) / n = a ∧ (a * n + b) % n = b := by
  constructor
  · rw [Nat.mul_comm, Nat.mul_add_div (by omega), Nat.div_eq_of_lt hb, Nat.add_zero]
  · rw [Nat.mul_comm, Nat.mul_add_mod, Nat.mod_eq_of_lt hb]
theorem dealt_step (N s n i l : Nat) (hs : 0 < s) (hn : s ≤ n) : upd (dealt N s n i) (i / s * n + i % s) (dg N i) l = dealt N s n (i + 1) l := by
  have hi := Nat.mod_lt i hs
  have him := Nat.div_add_mod i s
  by_cases e : l = i / s * n + i % s
  · subst e
    rw [upd_same]
    obtain ⟨h1, h2⟩ := div_pos (n := n) (a := i / s) (b := i % s) (by omega)
    unfold dealt
    rw [h1, h2]
    have : i / s * s + i % s = i := by rw [Nat.mul_comm]; exact him
    rw [this, if_pos ⟨hi, by omega⟩]
  · rw [upd_other _ _ _ _ e]
    unfold dealt
    by_cases h : l % n < s ∧ l / n * s + l % n < i + 1
    · by_cases h2 : l / n * s + l % n < i
      · rw [if_pos ⟨h.1, h2⟩, if_pos h]
      · exfalso
        have e2 : l / n * s + l % n = i := by omega
        obtain ⟨h3, h4⟩ := div_pos (n := s) (a := l / n) (b := l % n) h.1
        rw [e2] at h3 h4
        apply e
        rw [h3, h4, Nat.mul_comm]; exact (Nat.div_add_mod l n).symm
    · rw [if_neg (by omega), if_neg h]
theorem dealt_done (N s n la t j : Nat) (hN : N < 256 ^ la) (hj : j < n) : dealt N s n la (t * n + j) = xb N s t j := by
  obtain ⟨h1, h2⟩ := div_pos (n := n) (a := t) (b := j) hj
  unfold dealt xb
  rw [h1, h2]
  by_cases h : j < s
  · rw [if_pos h]
    by_cases h3 : t * s + j < la
    · rw [if_pos ⟨h, h3⟩]
    · rw [if_neg (by omega), dg_above N _ la hN (by omega)]
  · rw [if_neg (by omega), if_neg h]

/-- block t of X is the transform of block t of N. -/
def Tr (X : Nat → Nat) (N s n k t : Nat) : Prop := ∀ j, j < n → X (t * n + j) < 998244353 ∧ toF (X (t * n + j)) = dft (toF (root k)) (fun l => toF (xb N s t l)) n j

set_option maxRecDepth 100000 in
set_option maxHeartbeats 2000000 in
theorem blocks_any (b off la cap s n k cnt L N : Nat) (w : World) (hk : k ≤ 11) (hnk : n = 2 ^ k) (hs : 0 < s) (hns : n = 2 * s) (hla : 0 < la) (hcnt : (la + s - 1) / s = cnt) (hL : n * cnt = L) (hLl : L ≤ 1073741824) (hN : N < 256 ^ la)
    (hx : Rd .u8 w b off la (dg N)) :
    Calls Tajg.prog 90 #[.slice (some ⟨b, off, none⟩) la cap, .int .i64 (s : Int)] w fun e w' =>
      ∃ (B : Nat) (X : Nat → Nat), e = .returned (.slice (some ⟨B, 0, none⟩) L L) ∧ w.heap.size ≤ B ∧ Rd .u32 w' B 0 L X ∧ (∀ t, t < cnt → Tr X N s n k t) ∧ Same w w' := by
  have h2048 : n ≤ 2048 := by
    have : 2 ^ k ≤ 2 ^ 11 := Nat.pow_le_pow_right (by decide) hk
    omega
  have hcs : la ≤ cnt * s := by
    have h1 := Nat.div_add_mod (la + s - 1) s
    have h2 := Nat.mod_lt (la + s - 1) hs
    rw [hcnt, Nat.mul_comm] at h1; omega
  have hll : la ≤ 1073741824 := by
    have e : n * cnt = 2 * (cnt * s) := by rw [hns]; ac_rfl
    omega
  have HNK : Hid (n = 2 ^ k) := hnk
  have HNS : Hid (n = 2 * s) := hns
  have HN : Hid (N < 256 ^ la) := hN
  have HL : Hid (n * cnt = L) := hL
  have HCS : Hid (la ≤ cnt * s) := hcs
  have hq : ((la : Int) + (s : Int) - 1) / (s : Int) = (cnt : Int) := by
    rw [← hcnt, Int.natCast_ediv]; congr 1; omega
  have hsI : 2 * (s : Int) = (n : Int) := by omega
  have hLI : (n : Int) * (cnt : Int) = (L : Int) := by rw [← hL]; simp
  have hsl : s ≤ 1024 := by omega
  clear hnk hns hN hL hcnt hcs
  go_enter Tajg.func90, Tajg.ntmps90
  go_wp2_with (at_make; refine wpList_mk L .u32 50 4 _ _ (by rfl) (by rfl) rfl rfl Tajg.underlying58 info50 (by omega) (by omega) ?_; intro B w2 hB1 hB2 hR hW hS)
  have hb := hx.lt hla
  have hx2 := hx.same hS
  clear hx hq hLI
  go_loopw [7] (fun i wr => ∃ i' : Nat, i' ≤ la ∧ i = .int .i64 i' ∧ Rd .u32 wr B 0 L (dealt N s n i') ∧ Wr wr B 0 L ∧ Rd .u8 wr b off la (dg N) ∧ Same w wr) (fun i _ => la - (intOf i).toNat)
  case atStart => exact ⟨0, Nat.zero_le _, rfl, hR.congr (fun l _ => (dealt_zero N s n l).symm), hW, hx2, hS⟩
  case round =>
    clear hR hW hx2 hS
    obtain ⟨i, hi, rfl, hR, hW, hx, hS⟩ := hrel
    by_cases hlt : i < la
    · have ci := hx i hlt
      have hts : i / s < cnt := by
        rw [Nat.div_lt_iff_lt_mul hs]; have := HCS.out; omega
      have hpos : i / s * n + i % s < L := by
        have h1 : (i / s + 1) * n ≤ cnt * n := Nat.mul_le_mul_right _ (by omega)
        have h2 := Nat.mod_lt i hs
        have h3 := HNS.out
        rw [Nat.mul_comm cnt, HL.out, Nat.add_mul] at h1; omega
      have HST : Hid (Rd .u32 (wr.drew.setCell ⟨B, i / s * n + i % s, none⟩ (.int .u32 ((dg N i : Nat) : Int))) B 0 L (dealt N s n (i + 1))) := by
        have := hR.drew.setCell (i / s * n + i % s) (dg N i) hpos
        rw [Nat.zero_add] at this
        exact this.congr fun l _ => dealt_step N s n i l hs (by have := HNS.out; omega)
      have cB := hR (i / s * n + i % s) hpos
      have fB := hW (i / s * n + i % s) hpos
      rw [Nat.zero_add] at cB fB
      have d0 := dg_lt N i
      have b1 : 0 ≤ ((dg N i : Nat) : Int) := by omega
      have b2 : ((dg N i : Nat) : Int) < 256 := by omega
      have hr := Nat.mod_lt i hs
      have e1 : (i : Int) / (s : Int) = ((i / s : Nat) : Int) := by rw [Int.natCast_ediv]
      have e2 : (i : Int) % (s : Int) = ((i % s : Nat) : Int) := by rw [Int.natCast_emod]
      have e3 : ((i / s : Nat) : Int) * 2 * (s : Int) = ((i / s * n : Nat) : Int) := by
        rw [HNS.out, Int.natCast_mul, Int.natCast_mul, Int.mul_assoc]; rfl
      have ht1 : i / s ≤ i := Nat.div_le_self _ _
      generalize i / s * n = p at *
      generalize i / s = t at *
      generalize i % s = r at *
      generalize dealt N s n i (p + r) = Z at *
      generalize ((Z : Nat) : Int) = Z at *
      generalize ((dg N i : Nat) : Int) = D at *
      clear d0 hts
      go_wp2_with fail
      refine Text.wp_text (by kernel_rfl) (by kernel_rfl) ⟨fun c a w h => (by obtain ⟨_, _, _, h, _⟩ := h; cases h), fun a w h => (by obtain ⟨_, _, h, _⟩ := h; cases h)⟩ ?_
      intro K hK
      go_wp2_with fail
      refine hK _ _ (by rfl) ?_
      go_wp2_with fail
      go_roundw
      case rel => exact ⟨i + 1, by omega, by go_num, HST.out, hW.drew.setCell _ _, hx.drew.setOther (by omega), hS.drew.setCell _ _ _ (by omega)⟩
      case measure => simp [intOf]; omega
    · have ei : i = la := by omega
      have HD : Hid (∀ l, 0 * n ≤ l → dealt N s n i l = dealt N s n la l) := by intro l _; rw [ei]
      clear hx hb ei
      go_wp2_with fail
      go_loopw [8] (fun q wr => ∃ (t q' : Nat) (O : Nat → Nat), t ≤ cnt ∧ q' ≤ L ∧ Hid (t * n = q') ∧ q = .int .i64 (q' : Int) ∧ Rd .u32 wr B 0 L O ∧ Hid (∀ l, t * n ≤ l → O l = dealt N s n la l) ∧ Hid (∀ t', t' < t → Tr O N s n k t') ∧ Wr wr B 0 L ∧ Same w wr) (fun q _ => L - (intOf q).toNat)
      case atStart => exact ⟨0, 0, _, Nat.zero_le _, Nat.zero_le _, (by show _ = _; simp), rfl, hR, HD, (fun t ht => absurd ht (by omega)), hW, hS⟩
      case round =>
        clear hR hW hS HD
        obtain ⟨t, q, O, ht, hqL, HQ, rfl, hR, HO, HT, hW, hS⟩ := hrel
        by_cases hlt : q < L
        · have htc : t < cnt := by
            rcases Nat.lt_or_ge t cnt with h | h
            · exact h
            · exfalso
              have h1 : cnt * n ≤ t * n := Nat.mul_le_mul_right _ h
              have h2 := HQ.out
              have h3 := HL.out
              rw [Nat.mul_comm] at h3; omega
          have hqn : q + n ≤ L := by
            have h1 : (t + 1) * n ≤ cnt * n := Nat.mul_le_mul_right _ (by omega)
            have h2 := HQ.out
            have h3 := HL.out
            rw [Nat.mul_comm] at h3
            rw [Nat.add_mul] at h1; omega
          have hn0 : 0 < n := by have := HNS.out; omega
          have hRq := hR.sub q n hqn
          have hWq := hW.sub q n hqn
          rw [Nat.zero_add] at hRq hWq
          have HE : Hid (∀ i, i < n → O (q + i) = xb N s t i) := by
            intro i hi
            rw [← HQ.out, HO.out _ (by omega), dealt_done N s n la t i HN.out hi]
          go_wp2_with fail
          refine (forward_any B q k n n (fun i => O (q + i)) _ hk HNK.out (Nat.le_refl _) hRq hWq (fun i hi => by show O (q + i) < _; rw [HE.out i hi]; have := xb_lt N s t i; omega)).mono ?_
          rintro e w3 ⟨rfl, y, hy, hyd, hC⟩
          have HY : Hid (∀ j, j < n → y j < 998244353 ∧ toF (y j) = dft (toF (root k)) (fun l => toF (xb N s t l)) n j) := by
            intro j hj
            refine ⟨(hyd j hj).1, ?_⟩
            rw [(hyd j hj).2]
            exact dft_congr _ _ _ _ _ fun i hi => by rw [HE.out i hi]
          have hR3 := hR.window (q := q) (n := n) (y := y) hC (fun i hi hw h => by omega) (by rw [Nat.zero_add]; exact hy)
          have hW3 := hW.kept hC (hR.lt (by omega))
          have hS3 : Same w w3 := hS.trans_new hC (fun x o hx h => by omega)
          clear hR hW hS hRq hWq hy hyd hC HE
          go_wp2_with fail
          go_roundw
          case rel =>
            refine ⟨t + 1, q + n, _, by omega, by omega, (by show _ = _; rw [Nat.add_mul, HQ.out, Nat.one_mul]), by go_num, hR3, ?_, ?_, hW3, hS3⟩
            · intro l hl
              have h1 := HQ.out
              rw [Nat.add_mul, h1] at hl
              show (if q ≤ l ∧ l < q + n then y (l - q) else O l) = _
              rw [if_neg (by omega)]
              exact HO.out l (by omega)
            · intro t' ht' j hj
              have h1 := HQ.out
              by_cases e : t' = t
              · subst e
                rw [h1]
                have e1 : (fun l => if q ≤ l ∧ l < q + n then y (l - q) else O l) (q + j) = y j := by
                  show (if q ≤ q + j ∧ q + j < q + n then y (q + j - q) else O (q + j)) = _
                  rw [if_pos (by omega), Nat.add_sub_cancel_left]
                rw [e1]; exact HY.out j hj
              · have hlt2 : t' * n + n ≤ q := by
                  have h2 : (t' + 1) * n ≤ t * n := Nat.mul_le_mul_right _ (by omega)
                  rw [Nat.add_mul] at h2; omega
                have e1 : (fun l => if q ≤ l ∧ l < q + n then y (l - q) else O l) (t' * n + j) = O (t' * n + j) := by
                  show (if q ≤ t' * n + j ∧ t' * n + j < q + n then y (t' * n + j - q) else O (t' * n + j)) = _
                  rw [if_neg (by omega)]
                rw [e1]; exact HT.out t' (by omega) j hj
          case measure => simp [intOf]; omega
        · have hn0 : 0 < n := by have := HNS.out; omega
          have etc : t = cnt := by
            have h1 := HQ.out
            have h3 := HL.out
            have e : q = L := by omega
            rw [Nat.mul_comm] at h3
            exact Nat.eq_of_mul_eq_mul_right hn0 (by omega)
          have HT2 : Hid (∀ t', t' < cnt → Tr O N s n k t') := by rw [← etc]; exact HT
          clear etc HT
          go_wp2_with fail
          go_ret
          exact ⟨B, O, rfl, hB1, hR, HT2.out, hS⟩
end Go.Proofs.Ygctaj.Long
