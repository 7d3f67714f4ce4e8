/- (binary).pow, walked. -/
import Derived.Test.YgctajBinEnter
import Derived.Test.YgctajPowOdd
namespace Go.Proofs.Ygctaj.Nt
open Go.RowKit Mem
set_option linter.unusedVariables false

/-- X to the power i in n words. -/
def bx (n X i : Nat) : Nat := X ^ i % 256 ^ (4 * n)
theorem bx_mul (n X i j : Nat) : bx n X i * bx n X j % 256 ^ (4 * n) = bx n X (i + j) := by
  unfold bx; rw [← Nat.mul_mod, ← Nat.pow_add]
theorem bx_mul1 (n X i : Nat) : bx n X i * X % 256 ^ (4 * n) = bx n X (i + 1) := by
  unfold bx; rw [Nat.mod_mul_mod, Nat.pow_succ]
theorem bx_zero (n X : Nat) (hn : 1 ≤ n) : bx n X 0 = 1 := by
  unfold bx
  rw [Nat.pow_zero]
  refine Nat.mod_eq_of_lt ?_
  have := Nat.pow_le_pow_right (show 0 < 256 by decide) (show 4 ≤ 4 * n by omega)
  omega

/-- what (binary).pow holds: the receiver's box, and the first K powers. -/
structure Bw (w0 w : World) (Z : Nat) (k : Int) (n Fw : Nat) (fb : Nat → Nat) (X K : Nat) : Prop where
  sm : Same w0 w
  z0 : w.cell? ⟨Z, 0, none⟩ = some (.int .i64 k)
  z1 : w.cell? ⟨Z, 1, none⟩ = some (.int .i64 (n : Int))
  few : ∀ i, i < K → w.cell? ⟨Fw, i, none⟩ = some (.slice (some ⟨fb i, 0, none⟩) n n) ∧ Rd .u32 w (fb i) 0 n (dw (bx n X i)) ∧ Cl w (fb i) ∧ fb i ≠ Fw
  rest : ∀ i, i < 16 → (w.cell? ⟨Fw, i, none⟩).isSome = true
  clF : Cl w Fw
  nFZ : Fw ≠ Z
  hFw : w0.heap.size ≤ Fw
  hn : 1 ≤ n
  new : ∀ i, i < K → w0.heap.size ≤ fb i
theorem Bw.ltF {w0 w : World} {Z : Nat} {k : Int} {n Fw : Nat} {fb : Nat → Nat} {X K : Nat} (h : Bw w0 w Z k n Fw fb X K) : Fw < w.heap.size := by
  obtain ⟨v, hv⟩ := Option.isSome_iff_exists.1 (h.rest 0 (by omega))
  exact lt_of_cell hv
theorem Bw.same {w0 w w' : World} {Z : Nat} {k : Int} {n Fw : Nat} {fb : Nat → Nat} {X K : Nat} (h : Bw w0 w Z k n Fw fb X K) (hs : Same w w') : Bw w0 w' Z k n Fw fb X K := by
  have hl := h.ltF
  obtain ⟨sm, z0, z1, few, rest, clF, nFZ, hFw, hn, new⟩ := h
  refine ⟨sm.trans hs, cellK hs z0 id, cellK hs z1 id, fun i hi => ⟨cellK hs (few i hi).1 id, (few i hi).2.1.same hs, (few i hi).2.2.1.kept hs ((few i hi).2.1.lt hn), (few i hi).2.2.2⟩, fun i hi => ?_, clF.kept hs hl, nFZ, hFw, hn, new⟩
  obtain ⟨v, hv⟩ := Option.isSome_iff_exists.1 (rest i hi)
  rw [cellK hs hv id]; rfl
/-- a power laid into the row. -/
theorem Bw.lay {w0 w : World} {Z : Nat} {k : Int} {n Fw B : Nat} {fb : Nat → Nat} {X K : Nat} (h : Bw w0 w Z k n Fw fb X K) (hK : K < 16) (hR : Rd .u32 w B 0 n (dw (bx n X K))) (hC : Cl w B) (hB : B ≠ Fw) (hB0 : w0.heap.size ≤ B) :
    ∀ W, W = w.setCell ⟨Fw, K, none⟩ (.slice (some ⟨B, 0, none⟩) n n) → Bw w0 W Z k n Fw (fun i => if i = K then B else fb i) X (K + 1) := by
  rintro W rfl
  obtain ⟨sm, z0, z1, few, rest, clF, nFZ, hFw, hn, new⟩ := h
  have hc : Chg (fun q _ => q = Fw) w (w.setCell ⟨Fw, K, none⟩ (.slice (some ⟨B, 0, none⟩) n n)) := (Chg.refl _ _).setCell Fw _ _ (fun _ => rfl)
  obtain ⟨v, hv⟩ := Option.isSome_iff_exists.1 (rest K hK)
  refine ⟨sm.setCell Fw _ _ (fun h => absurd h (by omega)), cellK hc z0 (fun e => nFZ e.symm), cellK hc z1 (fun e => nFZ e.symm), fun i hi => ?_, fun i hi => ?_, clF.setCell _ _, nFZ, hFw, hn, fun i hi => by by_cases e : i = K; (subst e; simp only [if_true]; exact hB0); (simp only [if_neg e]; exact new i (by omega))⟩
  · by_cases e : i = K
    · subst e; simp only [if_true]
      exact ⟨World.cell?_setCell_same _ _ _ hv, hR.kept hc (fun _ _ e => hB e), hC.setCell _ _, hB⟩
    · simp only [if_neg e]
      have hf := few i (by omega)
      refine ⟨?_, hf.2.1.kept hc (fun _ _ e => hf.2.2.2 e), hf.2.2.1.setCell _ _, hf.2.2.2⟩
      rw [World.cell?_setCell_other _ _ _ _ (by intro e'; injection e' with _ e2; omega)]; exact hf.1
  · by_cases e : i = K
    · subst e; rw [World.cell?_setCell_same _ _ _ hv]; rfl
    · rw [World.cell?_setCell_other _ _ _ _ (by intro e'; injection e' with _ e2; omega)]; exact rest i hi

theorem Bw.init {w : World} {k : Int} {n : Nat} (fb : Nat → Nat) (X : Nat) (hn : 1 ≤ n) :
    ∀ W, W = ((w.alloc (Obj.cells #[Value.int IntKind.i64 k, Value.int IntKind.i64 (n : Int)] 129)).alloc (Obj.cells #[Value.slice none 0 0, Value.slice none 0 0, Value.slice none 0 0, Value.slice none 0 0, Value.slice none 0 0, Value.slice none 0 0, Value.slice none 0 0, Value.slice none 0 0, Value.slice none 0 0, Value.slice none 0 0, Value.slice none 0 0, Value.slice none 0 0, Value.slice none 0 0, Value.slice none 0 0, Value.slice none 0 0, Value.slice none 0 0] 123)) →
      Bw w W w.heap.size k n (w.heap.size + 1) fb X 0 := by
  rintro W rfl
  have hA : Same w (w.alloc (Obj.cells #[Value.int IntKind.i64 k, Value.int IntKind.i64 (n : Int)] 129)) := (Chg.refl _ _).alloc _
  have o0 : (w.alloc (Obj.cells #[Value.int IntKind.i64 k, Value.int IntKind.i64 (n : Int)] 129)).cell? ⟨w.heap.size, 0, none⟩ = some (.int .i64 k) := by rw [World.cell?_alloc_new]; rfl
  have o1 : (w.alloc (Obj.cells #[Value.int IntKind.i64 k, Value.int IntKind.i64 (n : Int)] 129)).cell? ⟨w.heap.size, 1, none⟩ = some (.int .i64 (n : Int)) := by rw [World.cell?_alloc_new]; rfl
  have hsz : (w.alloc (Obj.cells #[Value.int IntKind.i64 k, Value.int IntKind.i64 (n : Int)] 129)).heap.size = w.heap.size + 1 := by simp
  generalize w.alloc (Obj.cells #[Value.int IntKind.i64 k, Value.int IntKind.i64 (n : Int)] 129) = Wa at *
  have hB : Same Wa (Wa.alloc (Obj.cells #[Value.slice none 0 0, Value.slice none 0 0, Value.slice none 0 0, Value.slice none 0 0, Value.slice none 0 0, Value.slice none 0 0, Value.slice none 0 0, Value.slice none 0 0, Value.slice none 0 0, Value.slice none 0 0, Value.slice none 0 0, Value.slice none 0 0, Value.slice none 0 0, Value.slice none 0 0, Value.slice none 0 0, Value.slice none 0 0] 123)) := (Chg.refl _ _).alloc _
  refine ⟨hA.trans hB, cellK hB o0 id, cellK hB o1 id, fun i hi => absurd hi (by omega), fun i hi => ?_, fun o => ?_, by omega, by omega, hn, fun i hi => absurd hi (by omega)⟩
  · rw [← hsz, World.cell?_alloc_new]
    exact arr16 i hi
  · rw [← hsz, World.frozen?_alloc_new]

/-- the first power: one. -/
theorem Bw.first {w0 w : World} {Z : Nat} {k : Int} {n Fw B : Nat} {fb : Nat → Nat} {X : Nat} (h : Bw w0 w Z k n Fw fb X 0) (hR : Rd .u32 w B 0 n (fun _ => 0)) (hC : Cl w B) (hB : B ≠ Fw) (hBZ : B ≠ Z) (hB0 : w0.heap.size ≤ B) :
    ∀ W, W = (w.setCell ⟨Fw, 0, none⟩ (.slice (some ⟨B, 0, none⟩) n n)).setCell ⟨B, 0, none⟩ (.int .u32 1) → Bw w0 W Z k n Fw (fun i => if i = 0 then B else fb i) X 1 := by
  rintro W rfl
  obtain ⟨sm, z0, z1, few, rest, clF, nFZ, hFw, hn, new⟩ := h
  have hc : Chg (fun q _ => q = Fw) w (w.setCell ⟨Fw, 0, none⟩ (.slice (some ⟨B, 0, none⟩) n n)) := (Chg.refl _ _).setCell Fw _ _ (fun _ => rfl)
  have sm' := sm.setCell Fw 0 (.slice (some ⟨B, 0, none⟩) n n) (fun h => absurd h (by omega))
  obtain ⟨v, hv⟩ := Option.isSome_iff_exists.1 (rest 0 (by omega))
  have hv' := World.cell?_setCell_same w ⟨Fw, 0, none⟩ (.slice (some ⟨B, 0, none⟩) n n) hv
  have hR' := hR.kept hc (fun _ _ e => hB e)
  have hC' := hC.setCell ⟨Fw, 0, none⟩ (.slice (some ⟨B, 0, none⟩) n n)
  have clF' := clF.setCell ⟨Fw, 0, none⟩ (.slice (some ⟨B, 0, none⟩) n n)
  have z0' := cellK hc z0 (fun e => nFZ e.symm)
  have z1' := cellK hc z1 (fun e => nFZ e.symm)
  have rest' : ∀ i, i < 16 → ((w.setCell ⟨Fw, 0, none⟩ (.slice (some ⟨B, 0, none⟩) n n)).cell? ⟨Fw, i, none⟩).isSome = true := fun i hi => by
    by_cases e : i = 0
    · subst e; rw [hv']; rfl
    · rw [World.cell?_setCell_other _ _ _ _ (by intro e'; injection e' with _ e2; omega)]; exact rest i hi
  clear hc hv few rest clF hR hC z0 z1 sm
  generalize w.setCell ⟨Fw, 0, none⟩ (.slice (some ⟨B, 0, none⟩) n n) = W1 at *
  have hc : Chg (fun q _ => q = B) W1 (W1.setCell ⟨B, 0, none⟩ (.int .u32 1)) := (Chg.refl _ _).setCell B _ _ (fun _ => rfl)
  refine ⟨sm'.setCell B _ _ (fun h => absurd h (by omega)), cellK hc z0' (fun e => hBZ e.symm), cellK hc z1' (fun e => hBZ e.symm), fun i hi => ?_, fun i hi => ?_, clF'.setCell _ _, nFZ, hFw, hn, fun i hi => (by rw [if_pos (by omega)]; exact hB0)⟩
  · obtain rfl : i = 0 := by omega
    simp only [if_true]
    refine ⟨cellK hc hv' (fun e => hB e.symm), ?_, hC'.setCell _ _, hB⟩
    have hR1 := hR'.setCell 0 1 (by omega)
    rw [Nat.zero_add] at hR1
    exact hR1.congr (fun i _ => by rw [bx_zero n X hn]; exact (dw_one i).symm)
  · obtain ⟨v, hv⟩ := Option.isSome_iff_exists.1 (rest' i hi)
    rw [cellK hc hv (fun e => hB e.symm)]; rfl

set_option maxRecDepth 100000 in
set_option maxHeartbeats 4000000 in
theorem bpow_any (k : Int) (n bX X E : Nat) (e : Value) (w : World) (hn : 1 ≤ n) (hn2 : n ≤ 2000) (hx : Rd .u32 w bX 0 n (dw X)) (he : Nm w e E) (hdE : dl E ≤ 1000) :
    Calls Tajg.prog 104 #[.agg #[.int .i64 k, .int .i64 (n : Int)], .slice (some ⟨bX, 0, none⟩) n n, e] w fun e w' =>
      ∃ B : Nat, e = .returned (.slice (some ⟨B, 0, none⟩) n n) ∧ w.heap.size ≤ B ∧ Rd .u32 w' B 0 n (dw (bx n X E)) ∧ Cl w' B ∧ Same w w' := by
  have HX : Hid (Rd .u32 w bX 0 n (dw X)) := hx
  have HE : Hid (Nm w e E) := he
  obtain ⟨ae, ce, rfl, -⟩ := he.na
  obtain ⟨lE, HlE⟩ : ∃ lE, Hid (lE = dl E) := ⟨_, rfl⟩
  rw [← HlE.out] at HE hdE ⊢
  clear hx he
  go_enter Tajg.func104, Tajg.ntmps104
  go_wp2_with fail
  refine (widthFor_any ae lE ce _ (by omega)).mono ?_
  rintro e' w2 ⟨rfl, rfl⟩
  obtain ⟨kw, Hk⟩ : ∃ kw, Hid (kw = wd lE) := ⟨_, rfl⟩
  rw [← Hk.out]
  have hk14 : kw = 1 ∨ kw = 4 := by rw [Hk.out]; unfold wd; split <;> simp
  go_wp2_with (at_make; generalize hWW : World.alloc (World.alloc w _) _ = W1; have hB0 := Bw.init (fun _ => 0) X hn W1 hWW.symm; obtain ⟨Z, HZe⟩ : ∃ Z, Hid (Z = w.heap.size) := ⟨_, rfl⟩; rw [← HZe.out] at hB0 ⊢; obtain ⟨Fw, HFe⟩ : ∃ Fw, Hid (Fw = Z + 1) := ⟨_, rfl⟩; rw [← HFe.out] at hB0 ⊢; refine wpList_mkc n .u32 46 4 _ _ (by rfl) (by rfl) rfl rfl Tajg.underlying57 info46 (by omega) (by omega) ?_; intro B w2 hB1 hB2 hRB hCB hs2; have hBs := hB0.same hs2; obtain ⟨v0, hv0⟩ := Option.isSome_iff_exists.1 (hBs.rest 0 (by omega)); have g0 := hBs.clF 0; have hBF : B ≠ Fw := (by have := hB0.ltF; omega); have hBZ : B ≠ Z := (by have h1 := lt_of_cell hB0.z0; have h2 : Z < W1.heap.size := h1; omega); have hBw : w.heap.size ≤ B := (by have := hB0.sm.size; omega); have b0 : (w2.setCell ⟨Fw, 0, none⟩ (.slice (some ⟨B, 0, none⟩) n n)).cell? ⟨B, 0, none⟩ = some (.int .u32 ((0 : Nat) : Int)) := (by rw [World.cell?_setCell_other _ _ _ _ (by intro e; injection e with e1 _; omega)]; exact hRB 0 (by omega)); have b1 : (w2.setCell ⟨Fw, 0, none⟩ (.slice (some ⟨B, 0, none⟩) n n)).frozen? ⟨B, 0, none⟩ = false := hCB.setCell _ _ 0)
  generalize hWW2 : World.setCell (World.setCell w2 _ _) _ _ = W3
  have hB3 := Bw.first hBs hRB hCB hBF hBZ hBw W3 hWW2.symm
  clear hWW2 hWW hB0 hBs hRB hCB b0 b1 g0 hv0 hs2 hB1 hB2 HZe HFe
  generalize (fun i => if i = 0 then B else (fun _ => 0) i) = fb0 at hB3
  obtain ⟨kk, Hkk⟩ : ∃ kk : Nat, Hid (kk = 2 ^ kw) := ⟨_, rfl⟩
  have ekk : (2 : Int) ^ kw = (kk : Int) := by rw [Hkk.out]; push_cast; rfl
  have hkk : kk = 2 ∨ kk = 16 := by rw [Hkk.out]; rcases hk14 with rfl | rfl <;> simp
  have hkk16 : kk ≤ 16 := by omega
  have hkk2 : 2 ≤ kk := by omega
  have hk4 : kw ≤ 4 := by omega
  have hk1 : 1 ≤ kw := by omega
  clear hkk
  go_loopw [9] (fun i wr => ∃ (j : Nat) (fb : Nat → Nat), 1 ≤ j ∧ j ≤ kk ∧ i = .int .i64 (j : Int) ∧ Bw w wr Z k n Fw fb X j) (fun i _ => (kk - intOf i).toNat)
  case atStart => exact ⟨1, fb0, by omega, by omega, rfl, hB3⟩
  case round =>
    clear hB3
    obtain ⟨j, fb, hj2, hjk, rfl, hP⟩ := hrel
    by_cases hjl : j = kk
    · subst hjl
      obtain ⟨e8, He8⟩ : ∃ e8, Hid (e8 = 8 * lE) := ⟨_, rfl⟩
      have ee8 : (8 : Int) * (lE : Int) = (e8 : Int) := by have := He8.out; omega
      have he8 : e8 ≤ 8000 := by have := He8.out; omega
      have hf0 := hP.few 0 (by omega)
      have c08 := hf0.1
      have HP : Hid (Bw w wr Z k n Fw fb X j) := hP
      have hR9' : Rd .u32 wr (fb 0) 0 n (dw (bx n X (E / 2 ^ e8))) := by
        have hz : E / 2 ^ e8 = 0 := by
          refine Nat.div_eq_of_lt (Nat.lt_of_lt_of_le (lt_dl E) ?_)
          rw [He8.out, HlE.out, show (256 : Nat) = 2 ^ 8 from rfl, ← Nat.pow_mul]
          exact Nat.le_refl _
        rw [hz]; exact hf0.2.1
      have hC9 := hf0.2.2.1
      have hfb0 : w.heap.size ≤ fb 0 := hP.new 0 (by omega)
      have Hmod : Hid (e8 % kw = 0) := by
        have h1 := He8.out
        rcases hk14 with h | h <;> subst h <;> (show _ = _; omega)
      clear hP hf0
      go_wp2_with fail
      have hwsz := HP.out.sm.size
      clear c08
      go_loopw [10, 11] (fun o i wr => ∃ t bo : Nat, t ≤ e8 ∧ o = .slice (some ⟨bo, 0, none⟩) n n ∧ i = .int .i64 ((t : Int) - (kw : Int)) ∧ Hid (t % kw = 0) ∧ Bw w wr Z k n Fw fb X j ∧ Rd .u32 wr bo 0 n (dw (bx n X (E / 2 ^ t))) ∧ Cl wr bo ∧ w.heap.size ≤ bo) (fun _ i _ => (intOf i + kw).toNat)
      case atStart => exact ⟨e8, fb 0, Nat.le_refl _, rfl, rfl, Hmod, HP.out, hR9', hC9, hfb0⟩
      case round =>
        clear HP hR9' hC9 Hmod
        obtain ⟨t, bo, ht8, rfl, rfl, Htk, hP, hR, hC, hbo⟩ := hrel
        by_cases htk : t < kw
        · have ht0 : t = 0 := by
            have := Htk.out
            rwa [Nat.mod_eq_of_lt htk] at this
          subst ht0
          rw [Nat.pow_zero, Nat.div_one] at hR
          have hneg : ¬ ((0 : Int) ≤ ((0 : Nat) : Int) - (kw : Int)) := by omega
          have hS := hP.sm
          clear hP
          go_wp2_with fail
          go_ret
          exact ⟨bo, rfl, hbo, hR, hC, hS⟩
        · obtain ⟨s0, Hs0⟩ : ∃ s0, Hid (t = s0 + kw) := ⟨t - kw, by show _ = _; omega⟩
          have es : (t : Int) - (kw : Int) = (s0 : Int) := by have := Hs0.out; omega
          have hs0 : s0 ≤ 8000 := by have := Hs0.out; omega
          rw [es]
          go_wp2_with fail
          go_loopw [10, 12] (fun o i wr => ∃ c bo : Nat, c ≤ kw ∧ o = .slice (some ⟨bo, 0, none⟩) n n ∧ i = .int .i64 (c : Int) ∧ Bw w wr Z k n Fw fb X j ∧ Rd .u32 wr bo 0 n (dw (bx n X (E / 2 ^ t * 2 ^ c))) ∧ Cl wr bo ∧ w.heap.size ≤ bo) (fun _ i _ => (kw - intOf i).toNat)
          case atStart => exact ⟨0, bo, by omega, rfl, rfl, hP, by rw [Nat.pow_zero, Nat.mul_one]; exact hR, hC, hbo⟩
          case round =>
            clear hP hR hC hbo
            obtain ⟨c, bo, hck, rfl, rfl, hP, hR, hC, hbo⟩ := hrel
            have hwz := hP.sm.size
            by_cases hcl : c = kw
            · subst hcl
              have hmod0 : s0 % c = 0 := by
                have h1 := Htk.out
                rw [Hs0.out, Nat.add_mod_right] at h1
                exact h1
              have hbit8 : s0 % 8 + c ≤ 8 := by rcases hk14 with h | h <;> subst h <;> omega
              have hsq : s0 / 8 < dl E := by
                have h1 := Hs0.out
                have h2 := He8.out
                have h3 := HlE.out
                omega
              have hEw := HE.out.same hP.sm
              have HP : Hid (Bw w wr Z k n Fw fb X j) := hP
              have HR : Hid (Rd .u32 wr bo 0 n (dw (bx n X (E / 2 ^ t * 2 ^ c)))) := hR
              have HC : Hid (Cl wr bo) := hC
              have Hx := exp_step E t s0 c Hs0.out
              have hilt : E / 2 ^ s0 % 2 ^ c < j := by rw [Hkk.out]; exact Nat.mod_lt _ (Nat.pow_pos (by decide))
              have hs0k : Hid (s0 % c = 0) := hmod0
              clear hP hR hC hmod0
              go_wp2_with fail
              refine (bitsAt_any _ E s0 c wr hk14 hbit8 hsq (by have := HlE.out; omega) hEw).mono ?_
              rintro e' w10 ⟨rfl, hs10⟩
              have hP10 := HP.out.same hs10
              have hR10 := HR.out.same hs10
              have hC10 := HC.out.kept hs10 (HR.out.lt (by omega))
              clear HP HR HC hEw hbit8 hsq
              obtain ⟨iN, HiN⟩ : ∃ iN, Hid (iN = E / 2 ^ s0 % 2 ^ c) := ⟨_, rfl⟩
              rw [← HiN.out] at Hx hilt ⊢
              have HX' : Hid (E / 2 ^ t * 2 ^ c + iN = E / 2 ^ s0) := Hx
              clear Hx
              by_cases hi0 : iN = 0
              · subst hi0
                rw [Nat.add_zero] at HX'
                rw [HX'.out] at hR10
                go_wp2_with fail
                go_roundw
                case rel => exact ⟨s0, bo, by have := Hs0.out; omega, rfl, rfl, hs0k, hP10, hR10, hC10, hbo⟩
                case measure => simp [intOf]; omega
              · have hib : ((iN : Int) == 0) = false := by rw [beq_eq_false_iff_ne]; omega
                have hfi := hP10.few iN hilt
                have ci := hfi.1
                have z0 := hP10.z0
                have z1 := hP10.z1
                have hi16 : iN < 16 := by omega
                have HTm : Hid (Calls Tajg.prog 106 _ w10.drew _) := btimes_any k n bo 0 n (fb iN) 0 n _ _ w10.drew hn (by omega) hR10.drew hfi.2.1.drew (Nat.le_refl _) (Nat.le_refl _)
                have HP10 : Hid (Bw w w10 Z k n Fw fb X j) := hP10
                clear hP10 hR10 hC10 hfi
                go_wp2_with fail
                refine Text.wp_text (by kernel_rfl) (by kernel_rfl) ⟨fun c a w h => (by obtain ⟨_, _, h, _⟩ := h; cases h), fun a w h => (by obtain ⟨_, h, _⟩ := h; cases h)⟩ ?_
                intro K hK
                go_wp2_with fail
                refine HTm.out.mono ?_
                rintro e' w11 ⟨B11, rfl, hB11, hR11, hC11, hs11⟩
                go_wp2_with fail
                refine hK _ _ (by rfl) ?_
                clear hK
                rw [bx_mul, HX'.out] at hR11
                have hP11 := (HP10.out.same (Chg.refl (fun _ _ => False) w10).drew).same hs11
                have hb11 : w.heap.size ≤ B11 := by
                  have h1 := HP10.out.sm.size
                  have h2 : w10.drew.heap.size = w10.heap.size := rfl
                  omega
                clear HTm HP10 z0 z1 ci
                go_wp2_with fail
                go_roundw
                case rel => exact ⟨s0, B11, by have := Hs0.out; omega, rfl, rfl, hs0k, hP11, hR11, hC11, hb11⟩
                case measure => simp [intOf]; omega
            · have hclt : c < kw := by omega
              have HTm : Hid (Calls Tajg.prog 106 _ wr _) := btimes_any k n bo 0 n bo 0 n _ _ wr hn (by omega) hR hR (Nat.le_refl _) (Nat.le_refl _)
              have z0 := hP.z0
              have z1 := hP.z1
              have HP : Hid (Bw w wr Z k n Fw fb X j) := hP
              clear hP hR hC
              go_wp2_with fail
              refine HTm.out.mono ?_
              rintro e' w11 ⟨B11, rfl, hB11, hR11, hC11, hs11⟩
              rw [bx_mul, show E / 2 ^ t * 2 ^ c + E / 2 ^ t * 2 ^ c = E / 2 ^ t * 2 ^ (c + 1) from by rw [Nat.pow_succ, ← Nat.mul_assoc]; omega] at hR11
              have hP11 := HP.out.same hs11
              clear HTm HP z0 z1
              go_wp2_with fail
              go_roundw
              case rel => exact ⟨c + 1, B11, by omega, rfl, by go_num, hP11, hR11, hC11, by omega⟩
              case measure => simp [intOf]; omega
    · have hlt : j < kk := by omega
      obtain ⟨j1, Hj1⟩ : ∃ j1, Hid (j = j1 + 1) := ⟨j - 1, by show _ = _; omega⟩
      have ej1 : (j : Int) - 1 = (j1 : Int) := by have := Hj1.out; omega
      have hj1l : j1 < 16 := by have := Hj1.out; omega
      have hj16 : j < 16 := by omega
      have hfj := hP.few j1 (by have := Hj1.out; omega)
      have cj := hfj.1
      have z0 := hP.z0
      have z1 := hP.z1
      have hxw := HX.out.same hP.sm
      have HTm : Hid (Calls Tajg.prog 106 _ wr.drew _) := btimes_any k n (fb j1) 0 n bX 0 n _ _ wr.drew hn (by omega) hfj.2.1.drew hxw.drew (Nat.le_refl _) (Nat.le_refl _)
      have HP : Hid (Bw w wr Z k n Fw fb X j) := hP
      clear hP hfj hxw
      go_wp2_with fail
      refine Text.wp_text (by kernel_rfl) (by kernel_rfl) ⟨fun c a w h => (by obtain ⟨_, _, h, _⟩ := h; cases h), fun a w h => (by obtain ⟨_, h, _⟩ := h; cases h)⟩ ?_
      intro K hK
      go_wp2_with fail
      refine HTm.out.mono ?_
      rintro e' w10 ⟨B10, rfl, hB10, hR10, hC10, hs10⟩
      have hP10 := (HP.out.same (Chg.refl (fun _ _ => False) wr).drew).same hs10
      obtain ⟨v1, hv1⟩ := Option.isSome_iff_exists.1 (hP10.rest j (by omega))
      have gj := hP10.clF j
      clear HTm z0 z1 cj
      go_wp2_with fail
      refine hK _ _ (by rfl) ?_
      clear hK hv1 gj
      rw [bx_mul1, ← Hj1.out] at hR10
      generalize hWW : World.setCell w10 _ _ = W11
      have hP11 := Bw.lay hP10 (by omega) hR10 hC10 (by have h1 := HP.out.ltF; have h2 : wr.drew.heap.size = wr.heap.size := rfl; omega) (by have h1 := HP.out.sm.size; have h2 : wr.drew.heap.size = wr.heap.size := rfl; omega) W11 hWW.symm
      clear hWW hP10 hR10 hC10 HP
      go_wp2_with fail
      go_roundw
      case rel => exact ⟨j + 1, _, by omega, by omega, by go_num, hP11⟩
      case measure => simp [intOf]; omega
end Go.Proofs.Ygctaj.Nt
