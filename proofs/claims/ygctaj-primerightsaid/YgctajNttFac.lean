import Derived.Test.YgctajMem
import Derived.Test.YgctajOrder
import Derived.Test.YgctajNttBlock
import Derived.Test.YgctajFieldWalks
namespace Go.Proofs.Ygctaj.Ntt
open Go.RowKit Mem
set_option linter.unusedVariables false

/-- n cells of block b from off on are there and may be written. -/
def Has (w : World) (b off n : Nat) : Prop := ∀ i, i < n → (∃ v, w.cell? ⟨b, off + i, none⟩ = some v) ∧ w.frozen? ⟨b, off + i, none⟩ = false

theorem Has.lt {w : World} {b off n : Nat} (h : Has w b off n) (hn : 0 < n) : b < w.heap.size := by
  obtain ⟨⟨v, hv⟩, _⟩ := h 0 hn
  exact lt_of_cell hv

theorem Has.setCell {w : World} {b off n : Nat} (h : Has w b off n) (p : Addr) (v : Value) : Has (w.setCell p v) b off n := by
  intro i hi
  obtain ⟨⟨u, hu⟩, hf⟩ := h i hi
  exact ⟨cell?_setCell_some hu, by rw [World.frozen?_setCell]; exact hf⟩

theorem Has.kept {w w' : World} {b off n : Nat} (h : Has w b off n) (hs : Same w w') : Has w' b off n := by
  intro i hi
  obtain ⟨⟨u, hu⟩, hf⟩ := h i hi
  exact ⟨⟨u, cellK hs hu id⟩, frozenK hs hu hf⟩

theorem Has.drew {w : World} {b off n : Nat} (h : Has w b off n) : Has w.drew b off n := h

theorem Has.sub {w : World} {b off n : Nat} (h : Has w b off n) (s m : Nat) (hs : s + m ≤ n) : Has w b (off + s) m := by
  intro i hi; rw [Nat.add_assoc]; exact h (s + i) (by omega)

theorem FacRd.kept {w w' : World} {b off n : Nat} {f : Nat → Nat} (h : FacRd w b off n f) (hs : Same w w') : FacRd w' b off n f :=
  fun i hi => ⟨cellK hs (h i hi).1 id, cellK hs (h i hi).2 id⟩

theorem FacRd.drew {w : World} {b off n : Nat} {f : Nat → Nat} (h : FacRd w b off n f) : FacRd w.drew b off n f := h

theorem FacRd.keptChg {may : Nat → Nat → Prop} {w w' : World} {b off n : Nat} {f : Nat → Nat} (h : FacRd w b off n f) (hs : Chg may w w') (hm : ∀ i, i < 2 * n → ¬ may b (off + i)) : FacRd w' b off n f :=
  fun i hi => ⟨cellK hs (h i hi).1 (hm (i * 2) (by omega)), cellK hs (h i hi).2 (by rw [Nat.add_assoc]; exact hm (i * 2 + 1) (by omega))⟩

/-- one factor more. -/
theorem FacRd.step {w : World} {b off n : Nat} {f : Nat → Nat} (h : FacRd w b off n f) {u v : Value} (h1 : w.cell? ⟨b, off + n * 2, none⟩ = some u) (h2 : w.cell? ⟨b, off + n * 2 + 1, none⟩ = some v)
    (X R : Int) (hX : X = ((f n : Nat) : Int)) (hR : R = ((f n * 4294967296 / 998244353 : Nat) : Int)) :
    FacRd ((w.setCell ⟨b, off + n * 2, none⟩ (.int .u32 X)).setCell ⟨b, off + n * 2 + 1, none⟩ (.int .u32 R)) b off (n + 1) f := by
  subst hX hR
  intro i hi
  by_cases e : i = n
  · subst e
    refine ⟨?_, ?_⟩
    · rw [World.cell?_setCell_other _ _ _ _ (by intro e'; injection e' with _ e2; omega)]
      exact World.cell?_setCell_same _ _ _ h1
    · exact World.cell?_setCell_same _ _ _ (by rw [World.cell?_setCell_other _ _ _ _ (by intro e'; injection e' with _ e2; omega)]; exact h2)
  · have := h i (by omega)
    refine ⟨?_, ?_⟩
    · rw [World.cell?_setCell_other _ _ _ _ (by intro e'; injection e' with _ e2; omega), World.cell?_setCell_other _ _ _ _ (by intro e'; injection e' with _ e2; omega)]; exact this.1
    · rw [World.cell?_setCell_other _ _ _ _ (by intro e'; injection e' with _ e2; omega), World.cell?_setCell_other _ _ _ _ (by intro e'; injection e' with _ e2; omega)]; exact this.2

set_option maxHeartbeats 400000 in
theorem factors_zero (a : Option Addr) (c w0 : Nat) (w : World) :
    Calls Tajg.prog 127 #[.slice a 0 c, .int .u32 (w0 : Int)] w fun e w' => e = .returned (.tuple #[]) ∧ Same w w' := by
  go_enter Tajg.func127, Tajg.ntmps127
  go_wp2_with fail
  go_loop [4] (fun i => i = .int .i64 1) (fun _ => 0)
  case atStart => rfl
  case round =>
    subst hrel
    go_wp2_with fail
    go_end0
    exact ⟨rfl, Chg.refl _ _⟩

set_option maxHeartbeats 1000000 in
theorem factors_any (b off Q m cap w0 : Nat) (w : World) (hm : m = 2 ^ Q) (hmb : m ≤ 1099511627776) (hw0 : w0 < 998244353) (hh : Has w b off (2 * m)) :
    Calls Tajg.prog 127 #[.slice (some ⟨b, off, none⟩) m cap, .int .u32 (w0 : Int)] w fun e w' =>
      e = .returned (.tuple #[]) ∧ FacRd w' b off m (Field.pw w0) ∧ Has w' b off (2 * m) ∧ Chg (fun k o => k = b ∧ off ≤ o ∧ o < off + 2 * m) w w' := by
  have hpos : 0 < m := by rw [hm]; exact Nat.two_pow_pos Q
  have HM : Hid (m = 2 ^ Q) := hm
  clear hm
  obtain ⟨⟨v0, hv0⟩, f0⟩ := hh 0 (by omega)
  obtain ⟨⟨v1, hv1⟩, f1⟩ := hh 1 (by omega)
  rw [Nat.add_zero] at hv0 f0
  go_enter Tajg.func127, Tajg.ntmps127
  go_wp2_with fail
  refine (factorOf_any 1 _ (by decide)).mono ?_
  rintro e w1 ⟨rfl, hs⟩
  have g0 := cellK hs hv0 id
  have g1 := cellK hs hv1 id
  have k0 := frozenK hs hv0 f0
  have k1 := frozenK hs hv1 f1
  unfold fac
  go_wp2_with fail
  go_loopw [1, 4] (fun ws n wr => ∃ q : Nat, 2 ^ q ≤ m ∧ n = .int .i64 ((2 ^ q : Nat) : Int) ∧ ws = .int .u32 ((Field.pw w0 (2 ^ q) : Nat) : Int) ∧ FacRd wr b off (2 ^ q) (Field.pw w0) ∧ Has wr b off (2 * m) ∧
      Chg (fun k o => k = b ∧ off ≤ o ∧ o < off + 2 * m) w wr) (fun _ n _ => m - (intOf n).toNat)
  case atStart =>
    have hr : FacRd w1 b off 0 (Field.pw w0) := fun i hi => by omega
    have hst := hr.step (by rw [Nat.zero_mul]; exact g0) (by rw [Nat.zero_mul]; exact g1) 1 4 (by rw [Field.pw_zero]; rfl) (by rw [Field.pw_zero]; rfl)
    refine ⟨0, by omega, rfl, ?_, hst, ((hh.kept hs).setCell _ _).setCell _ _, ((Same.chg hs).setCell _ _ _ (by omega)).setCell _ _ _ (by omega)⟩
    rw [Nat.pow_zero, Field.pw, Nat.pow_one, Nat.mod_eq_of_lt hw0]
  case round =>
    obtain ⟨q, hq, rfl, rfl, hfr, hh1, hc⟩ := hrel
    have HQ : Hid (2 ^ q < m → 2 ^ (q + 1) ≤ m ∧ 2 ^ (q + 1) = 2 * 2 ^ q) := fun hlt => by
      have h2 : 2 ^ (q + 1) = 2 * 2 ^ q := by rw [Nat.pow_succ, Nat.mul_comm]
      refine ⟨?_, h2⟩
      have h3 := HM.out
      rw [h3] at hlt ⊢
      exact Nat.pow_le_pow_right (by decide) ((Nat.pow_lt_pow_iff_right (by decide)).1 hlt)
    have hpl := Field.pw_lt w0 (2 ^ q)
    have HP : Hid (∀ j, Field.pw w0 (2 ^ q) * Field.pw w0 j % 998244353 = Field.pw w0 (2 ^ q + j)) := fun j => by
      unfold Field.pw; rw [Nat.pow_add, ← Nat.mul_mod]
    have hNpos : 0 < 2 ^ q := Nat.two_pow_pos q
    generalize hN : 2 ^ q = N at *
    by_cases hlt : N < m
    · obtain ⟨hN2, hN3⟩ := HQ.out hlt
      have hsq : Field.pw w0 N * Field.pw w0 N % 998244353 = Field.pw w0 (2 ^ (q + 1)) := by rw [HP.out N, hN3]; congr 1; omega
      have HSQ : Hid (Field.pw w0 N * Field.pw w0 N % 998244353 = Field.pw w0 (2 ^ (q + 1)) ∧ 2 ^ (q + 1) = 2 * N ∧ 2 ^ (q + 1) ≤ m) := ⟨hsq, hN3, hN2⟩
      have h2N : 2 * N ≤ m := by omega
      clear hsq hN3 hN2 HQ
      generalize hW : Field.pw w0 N = W at *
      have hfo := fun w => factorOf_any W w hpl
      unfold fac at hfo
      have HF : Hid (∀ w, Calls Tajg.prog 81 #[.int .u32 (W : Int)] w fun e w' => e = .returned (.agg #[.int .u32 (W : Int), .int .u32 ((W * 4294967296 / 998244353 : Nat) : Int)]) ∧ Same w w') := hfo
      have HT : Hid (∀ (x : Nat) w, x < 4294967296 → Calls Tajg.prog 83 #[.agg #[.int .u32 (W : Int), .int .u32 ((W * 4294967296 / 998244353 : Nat) : Int)], .int .u32 (x : Int)] w fun e w' => e = .returned (.int .u32 (shoup W x : Int)) ∧ Same w w') := fun x w hx => times_any W x w hpl hx
      clear hfo
      generalize hRR : ((W * 4294967296 / 998244353 : Nat) : Int) = R at *
      clear hRR
      go_wp2_with fail
      refine (HF.out _).mono ?_
      rintro e w2 ⟨rfl, hs2⟩
      go_wp2_with fail
      have hB : w.heap.size ≤ w2.heap.size := Nat.le_trans hc.size hs2.size
      have hbB : b < w2.heap.size := Nat.lt_of_lt_of_le (hh.lt (by omega)) hB
      have hfrS : FacRd (w2.alloc (.cells #[.int .u32 (W : Int), .int .u32 R] 102)) b off (N + 0) (Field.pw w0) := hfr.kept ((Chg.alloc hs2 _))
      have hhS : Has (w2.alloc (.cells #[.int .u32 (W : Int), .int .u32 R] 102)) b off (2 * m) := hh1.kept (Chg.alloc hs2 _)
      have hcS : Chg (fun k o => k = b ∧ off ≤ o ∧ o < off + 2 * m) w (w2.alloc (.cells #[.int .u32 (W : Int), .int .u32 R] 102)) := hc.trans (Same.chg (Chg.alloc hs2 _))
      have hb0 : (w2.alloc (.cells #[.int .u32 (W : Int), .int .u32 R] 102)).cell? ⟨w2.heap.size, 0, none⟩ = some (.int .u32 (W : Int)) := by simp
      have hb1 : (w2.alloc (.cells #[.int .u32 (W : Int), .int .u32 R] 102)).cell? ⟨w2.heap.size, 1, none⟩ = some (.int .u32 R) := by simp
      generalize w2.alloc (.cells #[.int .u32 (W : Int), .int .u32 R] 102) = w3 at *
      generalize hBB : w2.heap.size = B at *
      clear hfr hh1 hc hs2 hBB
      go_loopw [6] (fun j wi => ∃ j' : Nat, j' ≤ N ∧ j = .int .i64 j' ∧ FacRd wi b off (N + j') (Field.pw w0) ∧ Has wi b off (2 * m) ∧ wi.cell? ⟨B, 0, none⟩ = some (.int .u32 (W : Int)) ∧ wi.cell? ⟨B, 1, none⟩ = some (.int .u32 R) ∧
        Chg (fun k o => k = b ∧ off ≤ o ∧ o < off + 2 * m) w wi) (fun j _ => N - (intOf j).toNat)
      case atStart => exact ⟨0, Nat.zero_le _, rfl, hfrS, hhS, hb0, hb1, hcS⟩
      case round =>
        clear hfrS hhS hb0 hb1 hcS
        obtain ⟨j, hj, rfl, hfi, hhi, ci0, ci1, hci⟩ := hrel
        by_cases hjl : j < N
        · have cX := (hfi j (by omega)).1
          have hXl := Field.pw_lt w0 j
          have hXP := HP.out j
          obtain ⟨⟨u0, hu0⟩, fu0⟩ := hhi ((N + j) * 2) (by omega)
          obtain ⟨⟨u1, hu1⟩, fu1⟩ := hhi ((N + j) * 2 + 1) (by omega)
          rw [← Nat.add_assoc] at hu1 fu1
          have hsm := shoup_mod W (Field.pw w0 j)
          have hsl := shoup_lt W (Field.pw w0 j) (by omega)
          rw [Nat.mul_comm, hXP] at hsm
          have HTX := HT.out (Field.pw w0 j)
          have HFY : Hid (∀ w, Calls Tajg.prog 81 #[.int .u32 ((Field.pw w0 (N + j) : Nat) : Int)] w fun e w' => e = .returned (.agg #[.int .u32 ((Field.pw w0 (N + j) : Nat) : Int), .int .u32 ((Field.pw w0 (N + j) * 4294967296 / 998244353 : Nat) : Int)]) ∧ Same w w') :=
            fun w => factorOf_any _ w (Field.pw_lt _ _)
          have HSM : Hid (((shoup W (Field.pw w0 j) : Nat) : Int) % 998244353 = ((Field.pw w0 (N + j) : Nat) : Int)) := by show _ = _; rw [← hsm]; rfl
          have hV0 : 0 ≤ ((shoup W (Field.pw w0 j) : Nat) : Int) := by omega
          have hV1 : ((shoup W (Field.pw w0 j) : Nat) : Int) < 1996488706 := by omega
          have HTV : Hid (∀ w, Calls Tajg.prog 83 #[.agg #[.int .u32 (W : Int), .int .u32 R], .int .u32 ((Field.pw w0 j : Nat) : Int)] w fun e w' => e = .returned (.int .u32 ((shoup W (Field.pw w0 j) : Nat) : Int)) ∧ Same w w') := fun w => HT.out _ w (by omega)
          clear HTX hsm hsl hXP hXl
          generalize ((shoup W (Field.pw w0 j) : Nat) : Int) = V at *
          generalize hYY : ((Field.pw w0 (N + j) : Nat) : Int) = Y at *
          generalize hRY : ((Field.pw w0 (N + j) * 4294967296 / 998244353 : Nat) : Int) = RY at *
          generalize ((Field.pw w0 j : Nat) : Int) = X at *
          have HY : Hid (Y = ((Field.pw w0 (N + j) : Nat) : Int) ∧ RY = ((Field.pw w0 (N + j) * 4294967296 / 998244353 : Nat) : Int)) := ⟨hYY.symm, hRY.symm⟩
          clear hYY hRY
          go_wp2_with fail
          refine Text.wp_text (by kernel_rfl) (by kernel_rfl) ⟨fun c a w h => by exact absurd h.2.1 (by simp), fun a w h => by exact absurd h.1 (by simp)⟩ ?_
          intro K hK
          go_wp2_with fail
          refine (HTV.out _).mono ?_
          rintro e w4 ⟨rfl, hs4⟩
          go_wp2_with fail
          refine (fold_any _ _ hV0 hV1).mono ?_
          rintro e w5 ⟨rfl, rfl⟩
          rw [HSM.out]
          go_wp2_with fail
          refine (HFY.out _).mono ?_
          rintro e w6 ⟨rfl, hs6⟩
          have hsx : Same wr w6 := ((Chg.refl _ _).drew.trans hs4).trans hs6
          have d0 := cellK hsx hu0 id
          have d1 := cellK hsx hu1 id
          have e0 := frozenK hsx hu0 fu0
          have e1 := frozenK hsx hu1 fu1
          go_wp2_with fail
          refine hK _ _ (by rfl) ?_
          go_wp2_with fail
          go_roundw
          case rel =>
            refine ⟨j + 1, by omega, by go_num, (hfi.kept hsx).step d0 d1 Y RY HY.out.1 HY.out.2, ((hhi.kept hsx).setCell _ _).setCell _ _, ?_, ?_, ((hci.trans (Same.chg hsx)).setCell _ _ _ (by omega)).setCell _ _ _ (by omega)⟩
            · rw [World.cell?_setCell_other _ _ _ _ (by intro e'; injection e' with e2 _; omega), World.cell?_setCell_other _ _ _ _ (by intro e'; injection e' with e2 _; omega)]
              exact cellK hsx ci0 id
            · rw [World.cell?_setCell_other _ _ _ _ (by intro e'; injection e' with e2 _; omega), World.cell?_setCell_other _ _ _ _ (by intro e'; injection e' with e2 _; omega)]
              exact cellK hsx ci1 id
          case measure => simp [intOf]; omega
        · have e : j = N := by omega
          subst e
          go_wp2_with fail
          refine (Field.mulMod_nat _ _ _ (by omega) (by omega)).mono ?_
          rintro e w4 ⟨rfl, rfl⟩
          go_wp2_with fail
          go_roundw
          case rel =>
            have h3 := HSQ.out
            refine ⟨q + 1, h3.2.2, ?_, ?_, ?_, hhi, hci⟩
            · rw [h3.2.1]; go_num
            · rw [← h3.1]; simp
            · rw [h3.2.1, Nat.two_mul]; exact hfi
          case measure => simp [intOf]; omega
    · go_wp2_with fail
      go_end0
      have e : N = m := by omega
      subst e
      exact ⟨rfl, hfr, hh1, hc⟩
end Go.Proofs.Ygctaj.Ntt
