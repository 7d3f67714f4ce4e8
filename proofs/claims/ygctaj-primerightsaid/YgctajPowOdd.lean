/- nlong.powOdd, walked. -/
import Derived.Test.YgctajMontEnter2
namespace Go.Proofs.Ygctaj.Nt
open Go.RowKit Mem
set_option linter.unusedVariables false

/-- what powOdd holds: the modulus, its room, and the first K powers. -/
structure Pw (w0 w : World) (O bm om cm n M inv br Fw : Nat) (fb : Nat → Nat) (A K : Nat) : Prop where
  sm : Same w0 w
  od : Od w O bm om cm n M inv br (n + 1)
  room : ∃ z, Rd .u32 w br 0 (n + 1) z
  few : ∀ i, i < K → w.cell? ⟨Fw, i, none⟩ = some (.slice (some ⟨fb i, 0, none⟩) n n) ∧ Rd .u32 w (fb i) 0 n (dw (mg n M (A ^ i))) ∧ fb i ≠ br ∧ fb i ≠ Fw
  rest : ∀ i, i < 16 → (w.cell? ⟨Fw, i, none⟩).isSome = true
  clF : Cl w Fw
  nFO : Fw ≠ O
  nFr : Fw ≠ br
  nFm : Fw ≠ bm
  hbr : w0.heap.size ≤ br
  hFw : w0.heap.size ≤ Fw
theorem Pw.same {w0 w w' : World} {O bm om cm n M inv br Fw : Nat} {fb : Nat → Nat} {A K : Nat} (h : Pw w0 w O bm om cm n M inv br Fw fb A K) (hs : Same w w') : Pw w0 w' O bm om cm n M inv br Fw fb A K := by
  obtain ⟨sm, od, ⟨z, room⟩, few, rest, clF, nFO, nFr, nFm, hbr, hFw⟩ := h
  refine ⟨sm.trans hs, od.kept hs (fun _ h => h) (fun _ h => h) (room.lt (by omega)), ⟨z, room.same hs⟩, fun i hi => ⟨cellK hs (few i hi).1 id, (few i hi).2.1.same hs, (few i hi).2.2⟩, fun i hi => ?_, clF.kept hs ?_, nFO, nFr, nFm, hbr, hFw⟩
  · obtain ⟨v, hv⟩ := Option.isSome_iff_exists.1 (rest i hi)
    rw [cellK hs hv id]; rfl
  · obtain ⟨v, hv⟩ := Option.isSome_iff_exists.1 (rest 0 (by omega))
    exact lt_of_cell hv
/-- behind a product into block bo. -/
theorem Pw.times {w0 w w' : World} {O bm om cm n M inv br Fw bo : Nat} {fb : Nat → Nat} {A K : Nat} {z' : Nat → Nat} (h : Pw w0 w O bm om cm n M inv br Fw fb A K) (hc : Chg (fun q _ => q = bo ∨ q = br) w w') (hr : Rd .u32 w' br 0 (n + 1) z')
    (h1 : bo ≠ O) (h2 : bo ≠ bm) (h3 : bo ≠ Fw) (h4 : ∀ i, i < K → bo ≠ fb i) (h5 : w0.heap.size ≤ bo) : Pw w0 w' O bm om cm n M inv br Fw fb A K := by
  obtain ⟨sm, od, ⟨z, room⟩, few, rest, clF, nFO, nFr, nFm, hbr, hFw⟩ := h
  have hbrl := room.lt (by omega)
  have mO : ∀ o : Nat, ¬ (O = bo ∨ O = br) := fun _ e => by rcases e with e | e; exact h1 e.symm; exact od.neO e.symm
  have mM : ∀ o : Nat, ¬ (bm = bo ∨ bm = br) := fun _ e => by rcases e with e | e; exact h2 e.symm; exact od.neM e.symm
  have mF : ¬ (Fw = bo ∨ Fw = br) := fun e => by rcases e with e | e; exact h3 e.symm; exact nFr e
  refine ⟨sm.trans_new hc (fun q o hq e => by rcases e with e | e <;> omega), od.kept hc mO mM hbrl, ⟨z', hr⟩, fun i hi => ⟨cellK hc (few i hi).1 mF, (few i hi).2.1.kept hc (fun _ _ e => ?_), (few i hi).2.2⟩, fun i hi => ?_, clF.kept hc ?_, nFO, nFr, nFm, hbr, hFw⟩
  · rcases e with e | e
    · exact h4 i hi e.symm
    · exact (few i hi).2.2.1 e
  · obtain ⟨v, hv⟩ := Option.isSome_iff_exists.1 (rest i hi)
    rw [cellK hc hv mF]; rfl
  · obtain ⟨v, hv⟩ := Option.isSome_iff_exists.1 (rest 0 (by omega))
    exact lt_of_cell hv
/-- a power laid into the row. -/
theorem Pw.lay {w0 w : World} {O bm om cm n M inv br Fw B : Nat} {fb : Nat → Nat} {A K : Nat} (h : Pw w0 w O bm om cm n M inv br Fw fb A K) (hK : K < 16) :
    ∀ W, W = w.setCell ⟨Fw, K, none⟩ (.slice (some ⟨B, 0, none⟩) n n) → Pw w0 W O bm om cm n M inv br Fw fb A K ∧ W.cell? ⟨Fw, K, none⟩ = some (.slice (some ⟨B, 0, none⟩) n n) ∧ Chg (fun q _ => q = Fw) w W := by
  rintro W rfl
  obtain ⟨sm, od, ⟨z, room⟩, few, rest, clF, nFO, nFr, nFm, hbr, hFw⟩ := h
  have hc : Chg (fun q _ => q = Fw) w (w.setCell ⟨Fw, K, none⟩ (.slice (some ⟨B, 0, none⟩) n n)) := (Chg.refl _ _).setCell Fw _ _ (fun _ => rfl)
  obtain ⟨v, hv⟩ := Option.isSome_iff_exists.1 (rest K hK)
  refine ⟨⟨sm.setCell Fw _ _ (fun h => absurd h (by omega)), od.kept hc (fun _ e => nFO e.symm) (fun _ e => nFm e.symm) (room.lt (by omega)), ⟨z, room.kept hc (fun _ _ e => nFr e.symm)⟩, fun i hi => ⟨?_, (few i hi).2.1.kept hc (fun _ _ e => (few i hi).2.2.2 e), (few i hi).2.2⟩, fun i hi => ?_, clF.setCell _ _, nFO, nFr, nFm, hbr, hFw⟩, World.cell?_setCell_same _ _ _ hv, hc⟩
  · rw [World.cell?_setCell_other _ _ _ _ (by intro e; injection e with _ e2; omega)]; exact (few i hi).1
  · by_cases e : i = K
    · subst e; rw [World.cell?_setCell_same _ _ _ hv]; rfl
    · rw [World.cell?_setCell_other _ _ _ _ (by intro e'; injection e' with _ e2; omega)]; exact rest i hi
theorem Pw.grow {w0 w : World} {O bm om cm n M inv br Fw B : Nat} {fb : Nat → Nat} {A K : Nat} (h : Pw w0 w O bm om cm n M inv br Fw fb A K) (h1 : w.cell? ⟨Fw, K, none⟩ = some (.slice (some ⟨B, 0, none⟩) n n)) (h2 : Rd .u32 w B 0 n (dw (mg n M (A ^ K)))) (h3 : B ≠ br) (h4 : B ≠ Fw) :
    Pw w0 w O bm om cm n M inv br Fw (fun i => if i = K then B else fb i) A (K + 1) := by
  obtain ⟨sm, od, room, few, rest, clF, nFO, nFr, nFm, hbr, hFw⟩ := h
  refine ⟨sm, od, room, fun i hi => ?_, rest, clF, nFO, nFr, nFm, hbr, hFw⟩
  by_cases e : i = K
  · subst e; simp only [if_true]; exact ⟨h1, h2, h3, h4⟩
  · simp only [if_neg e]; exact few i (by omega)

/-- a product into the number that lies in block bo. -/
theorem Pw.mulInto {w0 wr : World} {O bm om cm n M iv br Fw bo bY X Y : Nat} {fb : Nat → Nat} {A K : Nat} (h : Pw w0 wr O bm om cm n M iv br Fw fb A K) (hI : (M * iv + 1) % 4294967296 = 0) (hiv : iv < 4294967296) (hM0 : 0 < M)
    (h1 : bo ≠ O) (h2 : bo ≠ bm) (h3 : bo ≠ br) (h4 : bo ≠ Fw) (h5 : ∀ i, i < K → bo ≠ fb i) (h6 : w0.heap.size ≤ bo) (hX : Rd .u32 wr bo 0 n (dw X)) (hC : Cl wr bo) (hXM : X ≤ M) (hY : Rd .u32 wr bY 0 n (dw Y)) (hYM : Y ≤ M) (hYr : bY ≠ br) :
    Calls Tajg.prog 101 #[.pointer (some ⟨O, 0, none⟩), .slice (some ⟨bo, 0, none⟩) n n, .slice (some ⟨bo, 0, none⟩) n n, .slice (some ⟨bY, 0, none⟩) n n] wr fun e w' => (∃ v, e = .returned v) ∧ ∃ R, R < M ∧ R * 256 ^ (4 * n) % M = X * Y % M ∧ Rd .u32 w' bo 0 n (dw R) ∧ Cl w' bo ∧ Pw w0 w' O bm om cm n M iv br Fw fb A K := by
  obtain ⟨zr, hzr⟩ := h.room
  refine (times_any O bm om cm n M iv br (n + 1) bo 0 n bo 0 n bY 0 n X Y (dw X) zr wr h.od hI hiv hzr hX hY hM0 hXM hYM (Nat.le_refl _) (Nat.le_refl _) (Nat.le_refl _) h3 hYr hX hC h1 h2 h3).mono ?_
  rintro e w' ⟨hv, R, z', hR1, hR2, hR3, hR4, hR5, hR6⟩
  exact ⟨hv, R, hR1, hR2, hR3, hR4, h.times hR6 hR5 h1 h2 h4 h5 h6⟩

theorem exp_step (E t s k : Nat) (h : t = s + k) : E / 2 ^ t * 2 ^ k + E / 2 ^ s % 2 ^ k = E / 2 ^ s := by
  subst h
  rw [Nat.pow_add, ← Nat.div_div_eq_div_mul]
  have := Nat.mod_add_div (E / 2 ^ s) (2 ^ k)
  rw [Nat.mul_comm]; omega
theorem dw_one (i : Nat) : dw 1 i = upd (fun _ => 0) 0 1 i := by
  by_cases h : i = 0
  · subst h; rw [upd_same]; rfl
  · rw [upd_other _ _ _ _ h]
    exact dw_above 1 i 1 (by decide) (by omega)

theorem arr16 : ∀ i, i < 16 → ((Array.replicate 16 (Value.slice none 0 0))[i]?).isSome = true := by
  intro i hi
  simp [hi]

theorem Pw.init {w w1 : World} {bm om cm n M iv br : Nat} (fb : Nat → Nat) (A : Nat) (hcm : n ≤ cm) (hM : M < 256 ^ (4 * n)) (hn : 1 ≤ n) (hn2 : n ≤ 251) (hRm : Rd .u32 w1 bm om n (dw M)) (hRr : Rd .u32 w1 br 0 (n + 1) (fun _ => 0)) (hCr : Cl w1 br) (hbr : w.heap.size ≤ br) (hbm : br ≠ bm) (hs1 : Same w w1) :
    ∀ W, W = ((w1.alloc (Obj.cells #[Value.slice (some { block := bm, off := om }) n cm, Value.int IntKind.u32 (iv : Int), Value.slice (some { block := br, off := 0 }) (n + 1) (n + 1)] 121)).alloc (Obj.cells #[Value.slice none 0 0, Value.slice none 0 0, Value.slice none 0 0, Value.slice none 0 0, Value.slice none 0 0, Value.slice none 0 0, Value.slice none 0 0, Value.slice none 0 0, Value.slice none 0 0, Value.slice none 0 0, Value.slice none 0 0, Value.slice none 0 0, Value.slice none 0 0, Value.slice none 0 0, Value.slice none 0 0, Value.slice none 0 0] 123)).alloc (Obj.cells #[Value.int IntKind.u8 1] 5) →
      Pw w W w1.heap.size bm om cm n M iv br (w1.heap.size + 1) fb A 0 ∧ Na W (.slice (some ⟨w1.heap.size + 1 + 1, 0, none⟩) 1 1) 1 1 := by
  rintro W rfl
  have hbl := hRr.lt (by omega)
  have hbml := hRm.lt (by omega)
  have hA : Same w1 (w1.alloc (Obj.cells #[Value.slice (some { block := bm, off := om }) n cm, Value.int IntKind.u32 (iv : Int), Value.slice (some { block := br, off := 0 }) (n + 1) (n + 1)] 121)) := (Chg.refl _ _).alloc _
  have o0 : (w1.alloc (Obj.cells #[Value.slice (some { block := bm, off := om }) n cm, Value.int IntKind.u32 (iv : Int), Value.slice (some { block := br, off := 0 }) (n + 1) (n + 1)] 121)).cell? ⟨w1.heap.size, 0, none⟩ = some (Value.slice (some { block := bm, off := om }) n cm) := by rw [World.cell?_alloc_new]; rfl
  have o1 : (w1.alloc (Obj.cells #[Value.slice (some { block := bm, off := om }) n cm, Value.int IntKind.u32 (iv : Int), Value.slice (some { block := br, off := 0 }) (n + 1) (n + 1)] 121)).cell? ⟨w1.heap.size, 1, none⟩ = some (Value.int IntKind.u32 (iv : Int)) := by rw [World.cell?_alloc_new]; rfl
  have o2 : (w1.alloc (Obj.cells #[Value.slice (some { block := bm, off := om }) n cm, Value.int IntKind.u32 (iv : Int), Value.slice (some { block := br, off := 0 }) (n + 1) (n + 1)] 121)).cell? ⟨w1.heap.size, 2, none⟩ = some (Value.slice (some { block := br, off := 0 }) (n + 1) (n + 1)) := by rw [World.cell?_alloc_new]; rfl
  have hsz : (w1.alloc (Obj.cells #[Value.slice (some { block := bm, off := om }) n cm, Value.int IntKind.u32 (iv : Int), Value.slice (some { block := br, off := 0 }) (n + 1) (n + 1)] 121)).heap.size = w1.heap.size + 1 := by simp
  generalize w1.alloc (Obj.cells #[Value.slice (some { block := bm, off := om }) n cm, Value.int IntKind.u32 (iv : Int), Value.slice (some { block := br, off := 0 }) (n + 1) (n + 1)] 121) = Wa at *
  have hB : Same Wa (Wa.alloc (Obj.cells #[Value.slice none 0 0, Value.slice none 0 0, Value.slice none 0 0, Value.slice none 0 0, Value.slice none 0 0, Value.slice none 0 0, Value.slice none 0 0, Value.slice none 0 0, Value.slice none 0 0, Value.slice none 0 0, Value.slice none 0 0, Value.slice none 0 0, Value.slice none 0 0, Value.slice none 0 0, Value.slice none 0 0, Value.slice none 0 0] 123)) := (Chg.refl _ _).alloc _
  have f0 : ∀ i, i < 16 → ((Wa.alloc (Obj.cells #[Value.slice none 0 0, Value.slice none 0 0, Value.slice none 0 0, Value.slice none 0 0, Value.slice none 0 0, Value.slice none 0 0, Value.slice none 0 0, Value.slice none 0 0, Value.slice none 0 0, Value.slice none 0 0, Value.slice none 0 0, Value.slice none 0 0, Value.slice none 0 0, Value.slice none 0 0, Value.slice none 0 0, Value.slice none 0 0] 123)).cell? ⟨w1.heap.size + 1, i, none⟩).isSome = true := by
    intro i hi
    rw [← hsz, World.cell?_alloc_new]
    exact arr16 i hi
  have fC : Cl (Wa.alloc (Obj.cells #[Value.slice none 0 0, Value.slice none 0 0, Value.slice none 0 0, Value.slice none 0 0, Value.slice none 0 0, Value.slice none 0 0, Value.slice none 0 0, Value.slice none 0 0, Value.slice none 0 0, Value.slice none 0 0, Value.slice none 0 0, Value.slice none 0 0, Value.slice none 0 0, Value.slice none 0 0, Value.slice none 0 0, Value.slice none 0 0] 123)) (w1.heap.size + 1) := fun o => by rw [← hsz, World.frozen?_alloc_new]
  have hsz2 : (Wa.alloc (Obj.cells #[Value.slice none 0 0, Value.slice none 0 0, Value.slice none 0 0, Value.slice none 0 0, Value.slice none 0 0, Value.slice none 0 0, Value.slice none 0 0, Value.slice none 0 0, Value.slice none 0 0, Value.slice none 0 0, Value.slice none 0 0, Value.slice none 0 0, Value.slice none 0 0, Value.slice none 0 0, Value.slice none 0 0, Value.slice none 0 0] 123)).heap.size = w1.heap.size + 1 + 1 := by simp [hsz]
  generalize Wa.alloc (Obj.cells #[Value.slice none 0 0, Value.slice none 0 0, Value.slice none 0 0, Value.slice none 0 0, Value.slice none 0 0, Value.slice none 0 0, Value.slice none 0 0, Value.slice none 0 0, Value.slice none 0 0, Value.slice none 0 0, Value.slice none 0 0, Value.slice none 0 0, Value.slice none 0 0, Value.slice none 0 0, Value.slice none 0 0, Value.slice none 0 0] 123) = Wb at *
  have hC : Same Wb (Wb.alloc (Obj.cells #[Value.int IntKind.u8 1] 5)) := (Chg.refl _ _).alloc _
  refine ⟨Pw.same (w := Wb) ?_ hC, one_nm2 _ _ _ hsz2.symm⟩
  have hAB := hA.trans hB
  have hod : Od w1 0 bm om cm n M iv br (n + 1) → True := fun _ => trivial
  refine ⟨hs1.trans hAB, ⟨cellK hB o0 id, cellK hB o1 id, cellK hB o2 id, hcm, Nat.le_refl _, hRm.same hAB, hCr.kept hAB hbl, by omega, hbm, hM, hn, by omega⟩, ⟨_, hRr.same hAB⟩, fun i hi => absurd hi (by omega), f0, fC, by omega, by omega, by omega, hbr, ?_⟩
  have := hs1.size
  omega

set_option maxRecDepth 100000 in
set_option maxHeartbeats 4000000 in
theorem powOdd_any (a e m : Value) (A E M : Nat) (w : World) (ha : Nm w a A) (he : Nm w e E) (hm : Nm w m M) (hodd : M % 2 = 1) (hdA : dl A ≤ 1000) (hdE : dl E ≤ 1000) (hdM : dl M ≤ 1000) :
    Calls Tajg.prog 67 #[a, e, m] w fun e w' => ∃ v', e = .returned v' ∧ Nm w' v' (A ^ E % M) ∧ Fr w.heap.size w' v' ∧ Same w w' := by
  have HA : Hid (Nm w a A) := ha
  have HM : Hid (Nm w m M) := hm
  have HE : Hid (Nm w e E) := he
  have hwl : wl M ≤ 251 := by unfold wl; omega
  have hw0 : 1 ≤ wl M := by
    rcases Nat.eq_zero_or_pos (wl M) with e | e
    · exfalso
      have h := lt_wl M
      rw [e] at h
      simp at h
      omega
    · exact e
  obtain ⟨ae, ce, rfl, -⟩ := he.na
  clear ha hm he
  go_enter Tajg.func67, Tajg.ntmps67
  go_wp2_with fail
  refine (newOdd_any m M w HM.out hodd (by omega)).mono ?_
  rintro e' w1 ⟨bm, om, cm, br, iv, rfl, hcm, hiv, hI, hRm, hRr, hCr, hbr, hbm, hs1⟩
  generalize hwl' : wl M = n at *
  have Hwl : Hid (wl M = n) := hwl'
  clear hwl'
  obtain ⟨lE, HlE⟩ : ∃ lE, Hid (lE = dl E) := ⟨_, rfl⟩
  rw [← HlE.out] at HE hdE ⊢
  go_wp2_with fail
  refine (widthFor_any ae lE ce _ (by omega)).mono ?_
  rintro e' w2 ⟨rfl, rfl⟩
  obtain ⟨k, Hk⟩ : ∃ k, Hid (k = wd lE) := ⟨_, rfl⟩
  rw [← Hk.out]
  have hk14 : k = 1 ∨ k = 4 := by rw [Hk.out]; unfold wd; split <;> simp
  go_wp2_with fail
  generalize hWW : World.alloc (World.alloc (World.alloc w1 _) _) _ = W3
  obtain ⟨hP3, hone⟩ := Pw.init (fun _ => 0) A hcm (by have h := lt_wl M; rwa [Hwl.out] at h) hw0 hwl hRm hRr hCr hbr hbm hs1 W3 hWW.symm
  clear hWW hRm hRr hCr
  obtain ⟨O, HOe⟩ : ∃ O, Hid (O = w1.heap.size) := ⟨_, rfl⟩
  rw [← HOe.out] at hP3 hone ⊢
  obtain ⟨Fw, HFe⟩ : ∃ Fw, Hid (Fw = O + 1) := ⟨_, rfl⟩
  rw [← HFe.out] at hP3 hone ⊢
  have hM0 : 0 < M := by omega
  refine (enter_any O bm om cm n M 1 1 _ m W3 hP3.od.c0 hone (HM.out.same hP3.sm) (by omega) hM0 Hwl.out hw0 (by omega)).mono ?_
  rintro e' w4 ⟨B0, rfl, hB0, hR0, hC0, hs4⟩
  have hP4 := hP3.same hs4
  obtain ⟨v0, hv0⟩ := Option.isSome_iff_exists.1 (hP4.rest 0 (by omega))
  have g0 := hP4.clF 0
  have hbrW := hP3.od
  have hltb : br < W3.heap.size := by obtain ⟨z, hz⟩ := hP3.room; exact hz.lt (by omega)
  have hltF : Fw < W3.heap.size := by
    obtain ⟨v, hv⟩ := Option.isSome_iff_exists.1 (hP3.rest 0 (by omega))
    exact lt_of_cell hv
  have hltO : O < W3.heap.size := lt_of_cell hP3.od.c0
  have hltm : bm < W3.heap.size := hP3.od.hm.lt (by omega)
  clear hbrW hP3 hone
  go_wp2_with fail
  generalize hWW : World.setCell w4 _ _ = W5
  obtain ⟨hP5a, hc5, hch5⟩ := Pw.lay (B := B0) hP4 (by omega) W5 hWW.symm
  have hR05 : Rd .u32 W5 B0 0 n (dw (mg n M (A ^ 0))) := by
    rw [Nat.pow_zero]
    exact hR0.kept hch5 (fun _ _ e => by omega)
  have hP5 := hP5a.grow hc5 hR05 (by omega) (by omega)
  clear hWW hP5a hc5 hR05 hP4 hv0 g0 hR0 hC0
  refine (enter_any O bm om cm n M (dl A) A a m W5 hP5.od.c0 (HA.out.same hP5.sm).na (HM.out.same hP5.sm) (by omega) hM0 Hwl.out hw0 (by omega)).mono ?_
  rintro e' w6 ⟨B1, rfl, hB1, hR1, hC1, hs6⟩
  have hsz5 : W3.heap.size ≤ W5.heap.size := Nat.le_trans hs4.size hch5.size
  have hP6 := hP5.same hs6
  obtain ⟨v1, hv1⟩ := Option.isSome_iff_exists.1 (hP6.rest 1 (by omega))
  have g1 := hP6.clF 1
  clear hP5
  go_wp2_with fail
  generalize hWW : World.setCell w6 _ _ = W7
  obtain ⟨hP7a, hc7, hch7⟩ := Pw.lay (B := B1) hP6 (by omega) W7 hWW.symm
  have hR17 : Rd .u32 W7 B1 0 n (dw (mg n M (A ^ 1))) := by
    rw [Nat.pow_one]
    exact hR1.kept hch7 (fun _ _ e => by omega)
  have hP7 := hP7a.grow hc7 hR17 (by omega) (by omega)
  clear hWW hP7a hc7 hR17 hP6 hv1 g1 hR1 hC1
  have hsz7 : W3.heap.size ≤ W7.heap.size := Nat.le_trans (Nat.le_trans hsz5 hs6.size) hch7.size
  have Hsep : Hid (O < W7.heap.size ∧ bm < W7.heap.size ∧ br < W7.heap.size ∧ Fw < W7.heap.size) := ⟨by omega, by omega, by omega, by omega⟩
  clear hs4 hch5 hs6 hch7 hsz5 hsz7 hltb hltF hltO hltm hB0 hB1
  generalize (fun i => if i = 1 then B1 else (fun i => if i = 0 then B0 else (fun _ => 0) i) i) = fb0 at hP7
  obtain ⟨kk, Hkk⟩ : ∃ kk : Nat, Hid (kk = 2 ^ k) := ⟨_, rfl⟩
  have ekk : (2 : Int) ^ k = (kk : Int) := by rw [Hkk.out]; push_cast; rfl
  have hkk : kk = 2 ∨ kk = 16 := by rw [Hkk.out]; rcases hk14 with rfl | rfl <;> simp
  have hkk16 : kk ≤ 16 := by omega
  have hkk2 : 2 ≤ kk := by omega
  have hk4 : k ≤ 4 := by omega
  have hk1 : 1 ≤ k := by omega
  clear hkk
  have Hsz7 : Hid (W7.heap.size = W7.heap.size) := rfl
  obtain ⟨z7, Hz7⟩ : ∃ z7, Hid (z7 = W7.heap.size) := ⟨_, rfl⟩
  rw [← Hz7.out] at Hsep
  go_loopw [10] (fun i wr => ∃ (j : Nat) (fb : Nat → Nat), 2 ≤ j ∧ j ≤ kk ∧ i = .int .i64 (j : Int) ∧ Pw w wr O bm om cm n M iv br Fw fb A j ∧ z7 ≤ wr.heap.size) (fun i _ => (kk - intOf i).toNat)
  case atStart => exact ⟨2, fb0, by omega, hkk2, rfl, hP7, by rw [Hz7.out]; exact Nat.le_refl _⟩
  case round =>
    clear hP7 Hz7 Hsz7
    obtain ⟨j, fb, hj2, hjk, rfl, hP, hz⟩ := hrel
    by_cases hjl : j = kk
    · subst hjl
      have d0 := hP.od.c0
      have HP : Hid (Pw w wr O bm om cm n M iv br Fw fb A j) := hP
      have hwsz := hP.sm.size
      obtain ⟨e8, He8⟩ : ∃ e8, Hid (e8 = 8 * lE) := ⟨_, rfl⟩
      have ee8 : (8 : Int) * (lE : Int) = (e8 : Int) := by have := He8.out; omega
      have he8 : e8 ≤ 8000 := by have := He8.out; omega
      clear hP
      go_wp2_with (at_make; refine wpList_mkc n .u32 46 4 _ _ (by rfl) (by rfl) rfl rfl Tajg.underlying57 info46 (by omega) (by omega) ?_; intro bo w8 hB1 hB2 hRB hCB hs8; have hf0 := (HP.out.same hs8).few 0 (by omega); have c08 := hf0.1; obtain ⟨w9, e9, hR9, hC9⟩ := run_cpW n (dc := n) (sc := n) (Nat.min_self n).symm hf0.2.1 hRB (hCB.wr _ _); clear hf0)
      have hblk : ∀ i, i < j → fb i < wr.heap.size := fun i hi => (HP.out.few i hi).2.1.lt (by omega)
      have hsep := Hsep.out
      have hb5 : ∀ i, i < j → bo ≠ fb i := fun i hi => by have := hblk i hi; omega
      have hC9' : Chg (fun q _ => q = bo ∨ q = br) w8 w9 := hC9.mono (fun _ _ _ h => .inl h.1)
      obtain ⟨zr, hzr⟩ := (HP.out.same hs8).room
      have hP9 := Pw.times (HP.out.same hs8) hC9' (hzr.kept hC9 (fun _ _ e => by omega)) (by omega) (by omega) (by omega) hb5 (by omega)
      have hR9' : Rd .u32 w9 bo 0 n (dw (mg n M (A ^ (E / 2 ^ e8)))) := by
        have hz : E / 2 ^ e8 = 0 := by
          refine Nat.div_eq_of_lt (Nat.lt_of_lt_of_le (lt_dl E) ?_)
          rw [He8.out, HlE.out, show (256 : Nat) = 2 ^ 8 from rfl, ← Nat.pow_mul]
          exact Nat.le_refl _
        rw [hz]; exact hR9.done (Nat.le_refl _)
      have hC9b := hCB.kept hC9 hB2
      have hbo1 : bo ≠ O := by omega
      have hbo2 : bo ≠ bm := by omega
      have hbo3 : bo ≠ br := by omega
      have hbo4 : bo ≠ Fw := by omega
      have hbo6 : w.heap.size ≤ bo := by omega
      have Hmod : Hid (e8 % k = 0) := by
        have h1 := He8.out
        rcases hk14 with h | h <;> subst h <;> (show _ = _; omega)
      clear hRB hCB hR9 hC9 hC9' hzr c08 e9 d0 hblk HP
      go_loopw [12] (fun i wr => ∃ t : Nat, t ≤ e8 ∧ i = .int .i64 ((t : Int) - (k : Int)) ∧ Hid (t % k = 0) ∧ Pw w wr O bm om cm n M iv br Fw fb A j ∧ Rd .u32 wr bo 0 n (dw (mg n M (A ^ (E / 2 ^ t)))) ∧ Cl wr bo) (fun i _ => (intOf i + k).toNat)
      case atStart => exact ⟨e8, Nat.le_refl _, rfl, Hmod, hP9, hR9', hC9b⟩
      case round =>
        clear hP9 hR9' hC9b Hmod
        obtain ⟨t, ht8, rfl, Htk, hP, hR, hC⟩ := hrel
        by_cases htk : t < k
        · have ht0 : t = 0 := by
            have := Htk.out
            rwa [Nat.mod_eq_of_lt htk] at this
          subst ht0
          rw [Nat.pow_zero, Nat.div_one] at hR
          have d0 := hP.od.c0
          have HP : Hid (Pw w wr O bm om cm n M iv br Fw fb A j) := hP
          have HR : Hid (Rd .u32 wr bo 0 n (dw (mg n M (A ^ E)))) := hR
          have hneg : ¬ ((0 : Int) ≤ ((0 : Nat) : Int) - (k : Int)) := by omega
          clear hP hR
          go_wp2_with (at_make; refine wpList_mkc n .u32 46 4 _ _ (by rfl) (by rfl) rfl rfl Tajg.underlying57 info46 (by omega) (by omega) ?_; intro b1 w8 hB1 hB2 hRB hCB hs8; have z1 := hRB 0 (by omega); have z2 := hCB (0 + 0))
          have hR1 := hRB.setCell 0 1 (by omega)
          rw [Nat.zero_add] at hR1
          have hR1' := hR1.congr (fun i _ => (dw_one i).symm)
          have hch : Chg (fun q _ => q = b1) w8 (w8.setCell ⟨b1, 0, none⟩ (.int .u32 ((1 : Nat) : Int))) := (Chg.refl _ _).setCell b1 _ _ (fun _ => rfl)
          have hbl : bo < wr.heap.size := HR.out.lt (by omega)
          have hsS : Same wr (w8.setCell ⟨b1, 0, none⟩ (.int .u32 ((1 : Nat) : Int))) := hs8.trans_new hch (fun q o hq e => by omega)
          have hP8 := HP.out.same hsS
          have hR8 := HR.out.same hsS
          have hC8 := hC.kept hsS hbl
          have hb1r : b1 ≠ br := by
            obtain ⟨z, hz⟩ := HP.out.room
            have := hz.lt (by omega)
            omega
          clear hR1 hRB hCB z1 z2 d0 hch
          generalize w8.setCell _ _ = W9 at *
          refine (hP8.mulInto hI hiv hM0 hbo1 hbo2 hbo3 hbo4 hb5 hbo6 hR8 hC8 (Nat.le_of_lt (mg_lt n M _ hM0)) hR1' hM0 hb1r).mono ?_
          rintro e' w10 ⟨⟨v10, rfl⟩, Rr, hRM, hRe, hR10, hC10, hP10⟩
          have hRr := mg_out n M (A ^ E) Rr hodd hRM hRe
          rw [hRr] at hR10
          have hWn : Wn w10 (.slice (some ⟨bo, 0, none⟩) n n) n (A ^ E % M) := ⟨_, n, rfl, Nat.le_refl _, Nat.lt_trans (Nat.mod_lt _ hM0) hP10.od.hM, fun _ => ⟨bo, 0, rfl, hR10, hC10⟩⟩
          have hS10 := hP10.sm
          clear hP10 hR10 hC10 hP8 hR8 hC8 hR1'
          go_wp2_with fail
          refine (digitsOf_any _ n (A ^ E % M) w10 (by omega) hWn).mono ?_
          rintro e' w11 ⟨v11, rfl, hv11, hf11, hs11⟩
          go_wp2_with fail
          go_ret
          exact ⟨_, rfl, hv11, hf11.mono hS10.size, hS10.trans hs11⟩
        · obtain ⟨s0, Hs0⟩ : ∃ s0, Hid (t = s0 + k) := ⟨t - k, by show _ = _; omega⟩
          have es : (t : Int) - (k : Int) = (s0 : Int) := by have := Hs0.out; omega
          have hs0 : s0 ≤ 8000 := by have := Hs0.out; omega
          rw [es]
          go_wp2_with fail
          go_loopw [13] (fun i wr => ∃ c : Nat, c ≤ k ∧ i = .int .i64 (c : Int) ∧ Pw w wr O bm om cm n M iv br Fw fb A j ∧ Rd .u32 wr bo 0 n (dw (mg n M (A ^ (E / 2 ^ t * 2 ^ c)))) ∧ Cl wr bo) (fun i _ => (k - intOf i).toNat)
          case atStart => exact ⟨0, by omega, rfl, hP, by rw [Nat.pow_zero, Nat.mul_one]; exact hR, hC⟩
          case round =>
            clear hP hR hC
            obtain ⟨c, hck, rfl, hP, hR, hC⟩ := hrel
            by_cases hcl : c = k
            · subst hcl
              have hmod0 : s0 % c = 0 := by
                have h1 := Htk.out
                rw [Hs0.out, Nat.add_mod_right] at h1
                exact h1
              have hbit8 : s0 % 8 + c ≤ 8 := by rcases hk14 with h | h <;> subst h <;> omega
              have hsq : s0 / 8 < dl E := by
                have h1 := Hs0.out
                have h2 := He8.out
                have h3 := HlE.out
                omega
              have hEw := HE.out.same hP.sm
              have HP : Hid (Pw w wr O bm om cm n M iv br Fw fb A j) := hP
              have HR : Hid (Rd .u32 wr bo 0 n (dw (mg n M (A ^ (E / 2 ^ t * 2 ^ c))))) := hR
              have HC : Hid (Cl wr bo) := hC
              have Hx := exp_step E t s0 c Hs0.out
              have hilt : E / 2 ^ s0 % 2 ^ c < j := by rw [Hkk.out]; exact Nat.mod_lt _ (Nat.pow_pos (by decide))
              have hs0k : Hid (s0 % c = 0) := hmod0
              clear hP hR hC hmod0
              go_wp2_with fail
              refine (bitsAt_any _ E s0 c wr hk14 hbit8 hsq (by have := HlE.out; omega) hEw).mono ?_
              rintro e' w10 ⟨rfl, hs10⟩
              have hP10 := HP.out.same hs10
              have hR10 := HR.out.same hs10
              have hC10 := HC.out.kept hs10 (HR.out.lt (by omega))
              clear HP HR HC hEw hbit8 hsq
              obtain ⟨iN, HiN⟩ : ∃ iN, Hid (iN = E / 2 ^ s0 % 2 ^ c) := ⟨_, rfl⟩
              rw [← HiN.out] at Hx hilt ⊢
              have HX : Hid (E / 2 ^ t * 2 ^ c + iN = E / 2 ^ s0) := Hx
              clear Hx
              by_cases hi0 : iN = 0
              · subst hi0
                rw [Nat.add_zero] at HX
                rw [HX.out] at hR10
                go_wp2_with fail
                go_roundw
                case rel => exact ⟨s0, by have := Hs0.out; omega, rfl, hs0k, hP10, hR10, hC10⟩
                case measure => simp [intOf]; omega
              · have hib : ((iN : Int) == 0) = false := by rw [beq_eq_false_iff_ne]; omega
                have hfi := hP10.few iN hilt
                have ci := hfi.1
                have hi16 : iN < 16 := by omega
                have HTm : Hid (Calls Tajg.prog 101 _ w10 _) := hP10.mulInto hI hiv hM0 hbo1 hbo2 hbo3 hbo4 hb5 hbo6 hR10 hC10 (Nat.le_of_lt (mg_lt n M _ hM0)) hfi.2.1 (Nat.le_of_lt (mg_lt n M _ hM0)) hfi.2.2.1
                clear hP10 hR10 hC10 hfi
                go_wp2_with fail
                refine HTm.out.mono ?_
                rintro e' w11 ⟨⟨v11, rfl⟩, Rr, hRM, hRe, hR11, hC11, hP11⟩
                have hRr := mg_times n M _ _ Rr hodd hRM hRe
                rw [← Nat.pow_add, HX.out] at hRr
                rw [hRr] at hR11
                clear HTm
                go_wp2_with fail
                go_roundw
                case rel => exact ⟨s0, by have := Hs0.out; omega, rfl, hs0k, hP11, hR11, hC11⟩
                case measure => simp [intOf]; omega
            · have hclt : c < k := by omega
              have HTm : Hid (Calls Tajg.prog 101 _ wr _) := hP.mulInto hI hiv hM0 hbo1 hbo2 hbo3 hbo4 hb5 hbo6 hR hC (Nat.le_of_lt (mg_lt n M _ hM0)) hR (Nat.le_of_lt (mg_lt n M _ hM0)) hbo3
              clear hP hR hC
              go_wp2_with fail
              refine HTm.out.mono ?_
              rintro e' w10 ⟨⟨v10, rfl⟩, Rr, hRM, hRe, hR10, hC10, hP10⟩
              have hRr := mg_times n M _ _ Rr hodd hRM hRe
              rw [← Nat.pow_add, show E / 2 ^ t * 2 ^ c + E / 2 ^ t * 2 ^ c = E / 2 ^ t * 2 ^ (c + 1) from by rw [Nat.pow_succ, ← Nat.mul_assoc]; omega] at hRr
              rw [hRr] at hR10
              clear HTm
              go_wp2_with fail
              go_roundw
              case rel => exact ⟨c + 1, by omega, by go_num, hP10, hR10, hC10⟩
              case measure => simp [intOf]; omega
    · have hlt : j < kk := by omega
      have d0 := hP.od.c0
      obtain ⟨v1, hv1⟩ := Option.isSome_iff_exists.1 (hP.rest j (by omega))
      have gj := hP.clF j
      have HP : Hid (Pw w wr O bm om cm n M iv br Fw fb A j) := hP
      have hwsz := hP.sm.size
      clear hP
      go_wp2_with (at_make; refine wpList_mkc n .u32 46 4 _ _ (by rfl) (by rfl) rfl rfl Tajg.underlying57 info46 (by omega) (by omega) ?_; intro B w8 hB1 hB2 hRB hCB hs8; have hv8 := cellK hs8 hv1 id; have g8 := HP.out.clF.kept hs8 (lt_of_cell hv1) j)
      generalize hWW : World.setCell w8 _ _ = W9
      have hP8 := HP.out.same hs8
      obtain ⟨hP9, hc9, hch9⟩ := Pw.lay (B := B) hP8 (by omega) W9 hWW.symm
      have hsep := Hsep.out
      have hRB9 : Rd .u32 W9 B 0 n (fun _ => 0) := hRB.kept hch9 (fun _ _ e => by omega)
      have hCB9 := hCB.kept hch9 hB2
      clear hWW hRB hCB hP8 hv8 g8 hv1 gj d0
      have hfj := hP9.few (j - 1) (by omega)
      have hf1 := hP9.few 1 (by omega)
      obtain ⟨j1, Hj1⟩ : ∃ j1, Hid (j = j1 + 1) := ⟨j - 1, by show _ = _; omega⟩
      have ej1 : (j : Int) - 1 = (j1 : Int) := by have := Hj1.out; omega
      rw [show j - 1 = j1 from by have := Hj1.out; omega] at hfj
      have hj1l : j1 < 16 := by have := Hj1.out; omega
      have hj16 : j < 16 := by omega
      have cj := hfj.1
      have c1 := hf1.1
      have hblk : ∀ i, i < j → fb i < wr.heap.size := fun i hi => (HP.out.few i hi).2.1.lt (by omega)
      obtain ⟨zr, hzr⟩ := hP9.room
      have hTm := times_any O bm om cm n M iv br (n + 1) B 0 n (fb j1) 0 n (fb 1) 0 n (mg n M (A ^ j1)) (mg n M (A ^ 1)) (fun _ => 0) zr W9.drew (hP9.od.kept (Chg.refl (fun _ _ => False) W9).drew (fun _ h => h) (fun _ h => h) (hzr.lt (by omega))) hI hiv hzr.drew hfj.2.1.drew hf1.2.1.drew hM0 (Nat.le_of_lt (mg_lt n M _ hM0)) (Nat.le_of_lt (mg_lt n M _ hM0)) (Nat.le_refl _) (Nat.le_refl _) (Nat.le_refl _) hfj.2.2.1 hf1.2.2.1 hRB9.drew hCB9.drew (by omega) (by omega) (by omega)
      have HTm : Hid (Calls Tajg.prog 101 _ W9.drew _) := hTm
      have HP9 : Hid (Pw w W9 O bm om cm n M iv br Fw fb A j) := hP9
      clear hTm hfj hf1 hzr hP9 hRB9 hCB9
      go_wp2_with fail
      refine Text.wp_text (by kernel_rfl) (by kernel_rfl) ⟨fun c a w h => (by obtain ⟨_, _, h, _⟩ := h; cases h), fun a w h => (by obtain ⟨_, h, _⟩ := h; cases h)⟩ ?_
      intro K hK
      go_wp2_with fail
      refine HTm.out.mono ?_
      rintro e' w10 ⟨⟨v10, rfl⟩, Rr, z10, hRM, hRe, hR10, hC10, hz10, hcg10⟩
      go_wp2_with fail
      refine hK _ _ (by rfl) ?_
      clear hK
      have hRmg := mg_times n M (A ^ j1) (A ^ 1) Rr hodd hRM hRe
      rw [← Nat.pow_add, ← Hj1.out] at hRmg
      rw [hRmg] at hR10
      have hP10 := Pw.times (HP9.out.same (Chg.refl (fun _ _ => False) W9).drew) hcg10 hz10 (by omega) (by omega) (by omega) (fun i hi => by have := hblk i hi; omega) (by omega)
      have hc10 := cellK (Chg.trans ((Chg.refl (fun q _ => q = B ∨ q = br) W9).drew) hcg10) hc9 (fun e => by
        rcases e with e | e
        · omega
        · exact HP9.out.nFr e)
      have hP11 := hP10.grow hc10 hR10 (by omega) (by omega)
      have hz11 : z7 ≤ w10.heap.size := by
        have h1 := hs8.size
        have h2 := hch9.size
        have h3 := hcg10.size
        have h4 : W9.drew.heap.size = W9.heap.size := rfl
        omega
      clear HTm hP10 hR10 hC10 hz10 hcg10 hc10 cj c1 HP9 hc9
      go_wp2_with fail
      go_roundw
      case rel => exact ⟨j + 1, _, by omega, by omega, by go_num, hP11, hz11⟩
      case measure => simp [intOf]; omega
end Go.Proofs.Ygctaj.Nt
