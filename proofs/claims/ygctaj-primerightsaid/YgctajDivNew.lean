/- nlong.newDivisor, walked. -/
import Derived.Test.YgctajDivRefine
import Derived.Test.YgctajFactors
import Derived.Deep.RegionHeld3
namespace Go.Proofs.Ygctaj.Nt
open Go.RowKit Mem Long
set_option linter.unusedVariables false

/-- the sizes through which the reciprocal grows. -/
def sz (p j : Nat) : Nat := 4 + (p - 4) / 2 ^ j
theorem sz_step (p j : Nat) : (sz p j + 4) / 2 = sz p (j + 1) := by
  unfold sz
  have : (p - 4) / 2 ^ (j + 1) = (p - 4) / 2 ^ j / 2 := by rw [Nat.div_div_eq_div_mul, Nat.pow_succ]
  rw [this]; omega
theorem sz_le (p j : Nat) (hp : 4 ≤ p) : sz p j ≤ p := by
  unfold sz
  have := Nat.div_le_self (p - 4) (2 ^ j)
  omega
theorem sz_zero (p : Nat) (hp : 4 ≤ p) : sz p 0 = p := by unfold sz; simp; omega
theorem sz_end (p j : Nat) (hp : p ≤ 3000) (h : 4 < sz p j) : j < 12 := by
  unfold sz at h
  rcases Nat.lt_or_ge j 12 with h1 | h1
  · exact h1
  · have h2 : 2 ^ 12 ≤ 2 ^ j := Nat.pow_le_pow_right (by decide) h1
    rw [Nat.div_eq_of_lt (by omega)] at h
    omega
theorem four_le (p j : Nat) : 4 ≤ sz p j := Nat.le_add_right _ _
theorem sz_anti (p j : Nat) : sz p (j + 1) ≤ sz p j := by
  have := four_le p j
  rw [← sz_step]; omega

/-- the place of the result, as newDivisor made it. -/
def Nd (w0 : World) (R : Nat) (wr : World) : Prop :=
  Same w0 wr ∧ Cl wr R ∧ wr.cell? ⟨R, 0, none⟩ = some (.slice none 0 0) ∧ wr.cell? ⟨R, 1, none⟩ = some (.slice none 0 0) ∧ wr.cell? ⟨R, 2, none⟩ = some (.int .i64 0) ∧ wr.cell? ⟨R, 3, none⟩ = some (.int .i64 0)
theorem Nd.same {w0 w1 w2 : World} {R : Nat} (h : Nd w0 R w1) (hs : Same w1 w2) : Nd w0 R w2 := by
  obtain ⟨h1, h2, c0, c1, c2, c3⟩ := h
  exact ⟨h1.trans hs, h2.kept hs (lt_of_cell c0), cellK hs c0 id, cellK hs c1 id, cellK hs c2 id, cellK hs c3 id⟩
theorem Nd.set {w0 w1 : World} {R Z o : Nat} {v : Value} (h : Nd w0 R w1) (hZ : Z ≠ R) (hZ2 : w0.heap.size ≤ Z) : Nd w0 R (w1.setCell ⟨Z, o, none⟩ v) := by
  obtain ⟨h1, h2, c0, c1, c2, c3⟩ := h
  have key : ∀ i u, w1.cell? ⟨R, i, none⟩ = some u → (w1.setCell ⟨Z, o, none⟩ v).cell? ⟨R, i, none⟩ = some u := fun i u hu => by
    rw [World.cell?_setCell_other _ _ _ _ (by intro e; injection e with e1 e2; exact hZ e1)]; exact hu
  exact ⟨h1.setCell Z o v (fun h => absurd h (by omega)), h2.setCell _ _, key _ _ c0, key _ _ c1, key _ _ c2, key _ _ c3⟩

theorem Nm.setOther {w : World} {v u : Value} {N R o : Nat} (h : Nm w v N) (hb : ∀ b, v.ownBlock = some b → b ≠ R) : Nm (w.setCell ⟨R, o, none⟩ u) v N := by
  rcases h.open with ⟨rfl, rfl⟩ | ⟨h0, b, off, cap, rfl, hc, hp, hr, hcl⟩
  · exact Nm.nil _
  · exact Nm.mk (lt_dl N) hc (hr.setOther (fun e => absurd e.symm (hb b rfl))) (hcl.setCell _ _) rfl hp
/-- what lies in new blocks is apart from an elder one. -/
theorem Fr.ne {B R : Nat} {w : World} {v : Value} (h : Fr B w v) (hR : R < B) : ∀ b, v.ownBlock = some b → b ≠ R := by
  intro b hb
  cases v with
  | slice a n c =>
    cases a with
    | none => simp [Value.ownBlock] at hb
    | some p =>
      obtain ⟨b', o, sp⟩ := p
      simp [Value.ownBlock] at hb
      subst hb
      have h1 := (h b' o sp n c rfl).1
      omega
  | _ => simp [Value.ownBlock] at hb
/-- the result's four cells written. -/
theorem Nd.out {w0 wr : World} {R : Nat} {v0 v1 v2 v3 : Value} (h : Nd w0 R wr) (hR : w0.heap.size ≤ R) :
    ∀ W, W = (((wr.setCell ⟨R, 0, none⟩ v0).setCell ⟨R, 1, none⟩ v1).setCell ⟨R, 2, none⟩ v2).setCell ⟨R, 3, none⟩ v3 →
      W.cell? ⟨R, 0, none⟩ = some v0 ∧ W.cell? ⟨R, 1, none⟩ = some v1 ∧ W.cell? ⟨R, 2, none⟩ = some v2 ∧ W.cell? ⟨R, 3, none⟩ = some v3 ∧ Same w0 W ∧
        ∀ x X, Nm wr x X → (∀ b, x.ownBlock = some b → b ≠ R) → Nm W x X := by
  rintro W rfl
  obtain ⟨h1, h2, c0, c1, c2, c3⟩ := h
  have st : ∀ (w : World) (i j : Nat) (v u : Value), w.cell? ⟨R, j, none⟩ = some u → (w.setCell ⟨R, i, none⟩ v).cell? ⟨R, j, none⟩ = some (if i = j then v else u) := by
    intro w i j v u hu
    by_cases e : i = j
    · subst e; rw [World.cell?_setCell_same _ _ _ hu, if_pos rfl]
    · rw [World.cell?_setCell_other _ _ _ _ (by intro e'; injection e' with _ e2; exact e e2), if_neg e]; exact hu
  refine ⟨st _ 3 0 _ _ (st _ 2 0 _ _ (st _ 1 0 _ _ (st _ 0 0 _ _ c0))), st _ 3 1 _ _ (st _ 2 1 _ _ (st _ 1 1 _ _ (st _ 0 1 _ _ c1))), st _ 3 2 _ _ (st _ 2 2 _ _ (st _ 1 2 _ _ (st _ 0 2 _ _ c2))), st _ 3 3 _ _ (st _ 2 3 _ _ (st _ 1 3 _ _ (st _ 0 3 _ _ c3))), ?_, ?_⟩
  · have k : w0.heap.size ≤ R → R < w0.heap.size → False := by omega
    exact ((((h1.setCell R 0 v0 (fun h => (k hR h).elim)).setCell R 1 v1 (fun h => (k hR h).elim)).setCell R 2 v2 (fun h => (k hR h).elim)).setCell R 3 v3 (fun h => (k hR h).elim))
  · intro x X hx hb
    exact (((hx.setOther hb).setOther hb).setOther hb).setOther hb

/-- the reciprocal's first place. -/
theorem first_x (L : Nat) (hL : 0 < L) : 18446744073709551615 / L * L ≤ 256 ^ (2 * 4) := by
  have := Nat.div_mul_le_self 18446744073709551615 L
  have e : (256 : Nat) ^ (2 * 4) = 18446744073709551616 := by decide
  omega

/-- what is known all through the second loop. -/
def Ns (w0 : World) (R Z : Nat) (f : Nat → Nat) (x : Value) (X : Nat) (w' : World) : Prop :=
  Rd .i64 w' Z 0 64 f ∧ Nd w0 R w' ∧ Nm w' x X
theorem Ns.same {w0 w1 w2 : World} {R Z X : Nat} {f : Nat → Nat} {x : Value} (h : Ns w0 R Z f x X w1) (hs : Same w1 w2) : Ns w0 R Z f x X w2 := ⟨h.1.same hs, h.2.1.same hs, h.2.2.same hs⟩

set_option maxRecDepth 400000 in
set_option maxHeartbeats 1000000 in
theorem newDivisor_few (b : Value) (N s : Nat) (w : World) (hN : N ≠ 0) (hl : dl N ≤ 3000) (hs : s + 2 < 4) (hb : Nm w b N) :
    Calls Tajg.prog 56 #[b, .int .i64 (s : Int)] w fun e w' => ∃ x X, e = .returned (.agg #[b, x, .int .i64 4, .int .i64 (s : Int)]) ∧ Nm w' x X ∧ X * ld N 4 ≤ 256 ^ (2 * 4) ∧ Same w w' := by
  have hss : (s : Int) + 2 < 4 := by omega
  obtain ⟨ab, cb, rfl, -⟩ := hb.na
  have HB : Hid (Nm w (.slice ab (dl N) cb) N) := hb
  clear hs hb
  go_enter Tajg.func56, Tajg.ntmps56
  go_wp2_with fail
  have hNd0 : Nd w w.heap.size (w.alloc (Obj.cells #[Value.slice none 0 0, Value.slice none 0 0, Value.int IntKind.i64 0, Value.int IntKind.i64 0] 76)) := by
    refine ⟨(Chg.refl _ _).alloc _, fun o => by rw [World.frozen?_alloc_new], ?_, ?_, ?_, ?_⟩ <;> (rw [World.cell?_alloc_new]; rfl)
  generalize hW : World.alloc (World.alloc w _) _ = W2
  have hNd : Nd w w.heap.size W2 := by rw [← hW]; exact hNd0.same ((Chg.refl _ _).alloc _)
  clear hW hNd0
  obtain ⟨R, hRe⟩ : ∃ R, R = w.heap.size := ⟨_, rfl⟩
  rw [← hRe] at hNd ⊢
  have HRw : Hid (w.heap.size ≤ R) := by show _ ≤ _; omega
  clear hRe
  go_loopw [7, 8] (fun o i wr => o = .int .i64 0 ∧ i = .int .i64 4 ∧ Nd w R wr) (fun _ _ _ => 0)
  case atStart => exact ⟨rfl, rfl, hNd⟩
  case round =>
    clear hNd
    obtain ⟨rfl, rfl, hNd⟩ := hrel
    go_wp2_with fail
    refine (lead_any _ N 4 _ wr (by omega) (by omega) rfl (HB.out.same hNd.1)).mono ?_
    rintro e w3 ⟨l3, n3, rfl, hn3, hl3, hs3⟩
    have hNd3 := hNd.same hs3
    have hLp := ld_low N 4 hN (by omega)
    have hLh := ld_high N 4
    have HL : Hid (0 < ld N 4) := Nat.lt_of_lt_of_le (pp 3) hLp
    have HLh : Hid (ld N 4 ≤ 4294967296) := hLh
    clear hNd hLp hLh
    go_wp2_with fail
    refine (value_any l3 n3 (ld N 4) w3 (by omega) hl3).mono ?_
    rintro e w4 ⟨rfl, rfl⟩
    clear hl3
    obtain ⟨L, HLL⟩ : ∃ L : Int, Hid (L = ((ld N 4 : Nat) : Int)) := ⟨_, rfl⟩
    rw [← HLL.out]
    have l0 : 0 < L := by have h1 := HLL.out; have h2 := HL.out; omega
    have l1 : L ≤ 4294967296 := by have h1 := HLL.out; have h2 := HLh.out; omega
    have lz : (L == 0) = false := by rw [beq_eq_false_iff_ne]; omega
    obtain ⟨Q, HQ⟩ : ∃ Q : Int, Hid (18446744073709551615 / L = Q) := ⟨_, rfl⟩
    have eQ : 18446744073709551615 / L = Q := HQ.out
    have HQN : Hid (Q = ((18446744073709551615 / ld N 4 : Nat) : Int)) := by
      show _ = _
      rw [← eQ, HLL.out]; rfl
    have HQb : Hid (18446744073709551615 / ld N 4 < 18446744073709551616) := by
      have := Nat.div_le_self 18446744073709551615 (ld N 4)
      show _ < _; omega
    have q0 : 0 ≤ Q := by rw [HQN.out]; exact Int.natCast_nonneg _
    have q1 : Q < 18446744073709551616 := by have h1 := HQN.out; have h2 := HQb.out; omega
    go_wp2_with fail
    refine (small_anyX _ Q w4 HQb.out HQN.out).mono ?_
    rintro e w5 ⟨x5, rfl, hx5, hf5, hs5⟩
    have hNd5 := hNd3.same hs5
    have hoff5 := hf5.ne (lt_of_cell hNd3.2.2.1)
    have HX5 : Hid (18446744073709551615 / ld N 4 * ld N 4 ≤ 256 ^ (2 * 4)) := first_x _ HL.out
    generalize 18446744073709551615 / ld N 4 = X5 at *
    clear eQ HQ HQN HQb hNd3 HLL
    go_wp2_with fail
    go_loopw [7, 9, 10] (fun o x i wr => o = .int .i64 (-1) ∧ x = x5 ∧ i = .int .i64 4 ∧ Nd w R wr ∧ Nm wr x5 X5 ∧ ∀ b, x5.ownBlock = some b → b ≠ R) (fun _ _ _ _ => 0)
    case atStart => exact ⟨rfl, rfl, rfl, hNd5, hx5, hoff5⟩
    case round =>
      clear hNd5 hx5 hoff5 hf5
      obtain ⟨rfl, rfl, rfl, hNd, hx, hoff⟩ := hrel
      obtain ⟨ax, cx, rfl, -⟩ := hx.na
      have HX : Hid (Nm wr _ X5) := hx
      obtain ⟨hS, hC, c0, c1, c2, c3⟩ := hNd
      have f0 := hC 0
      have f1 := hC 1
      have f2 := hC 2
      have f3 := hC 3
      go_wp2_with fail
      generalize hWW : World.setCell (World.setCell _ _ _) _ _ = W
      obtain ⟨d0, d1, d2, d3, hSW, hxW⟩ := Nd.out ⟨hS, hC, c0, c1, c2, c3⟩ HRw.out W hWW.symm
      have hx' := hxW _ _ HX.out hoff
      clear hWW hxW c0 c1 c2 c3 f0 f1 f2 f3 hC hS
      exact bodyPost_ret (v := .agg #[Value.slice ab (dl N) cb, Value.slice ax (dl X5) cx, .int .i64 4, .int .i64 (s : Int)]) (by simp [results, Tajg.results56, go_sem, d0, d1, d2, d3]) rfl ⟨_, X5, rfl, hx', HX5.out, hSW⟩
end Go.Proofs.Ygctaj.Nt
