/- nlong.newDivisor, walked: the general case. -/
import Derived.Test.YgctajDivNew
namespace Go.Proofs.Ygctaj.Nt
open Go.RowKit Mem Long
set_option linter.unusedVariables false

theorem arr64 : ∀ i, i < 64 → (Array.replicate 64 (Value.int IntKind.i64 0))[i]? = some (.int .i64 ((0 : Nat) : Int)) := by
  intro i hi
  simp [hi]

set_option maxRecDepth 400000 in
set_option maxHeartbeats 2000000 in
theorem newDivisor_many (b : Value) (N s p : Nat) (w : World) (hN : N ≠ 0) (hl : dl N ≤ 3000) (hp : p = s + 2) (hp4 : 4 ≤ p) (hp5 : p ≤ 3000) (hb : Nm w b N) :
    Calls Tajg.prog 56 #[b, .int .i64 (s : Int)] w fun e w' => ∃ x X, e = .returned (.agg #[b, x, .int .i64 (p : Int), .int .i64 (s : Int)]) ∧ Nm w' x X ∧ X * ld N p ≤ 256 ^ (2 * p) ∧ Same w w' := by
  obtain ⟨ab, cb, rfl, -⟩ := hb.na
  have HB : Hid (Nm w (.slice ab (dl N) cb) N) := hb
  have ep : (s : Int) + 2 = (p : Int) := by omega
  have hs3 : s ≤ 3000 := by omega
  clear hb hp
  go_enter Tajg.func56, Tajg.ntmps56
  go_wp2_with fail
  have hNd0 : Nd w w.heap.size (w.alloc (Obj.cells #[Value.slice none 0 0, Value.slice none 0 0, Value.int IntKind.i64 0, Value.int IntKind.i64 0] 76)) := by
    refine ⟨(Chg.refl _ _).alloc _, fun o => by rw [World.frozen?_alloc_new], ?_, ?_, ?_, ?_⟩ <;> (rw [World.cell?_alloc_new]; rfl)
  have hZ0 : Rd .i64 ((w.alloc (Obj.cells #[Value.slice none 0 0, Value.slice none 0 0, Value.int IntKind.i64 0, Value.int IntKind.i64 0] 76)).alloc (Obj.cells (Array.replicate 64 (Value.int IntKind.i64 0)) 115)) (w.heap.size + 1) 0 64 (fun _ => 0) := by
    intro i hi
    rw [Nat.zero_add, show w.heap.size + 1 = (w.alloc (Obj.cells #[Value.slice none 0 0, Value.slice none 0 0, Value.int IntKind.i64 0, Value.int IntKind.i64 0] 76)).heap.size from by simp, World.cell?_alloc_new]
    exact arr64 i hi
  have hZC : Cl ((w.alloc (Obj.cells #[Value.slice none 0 0, Value.slice none 0 0, Value.int IntKind.i64 0, Value.int IntKind.i64 0] 76)).alloc (Obj.cells (Array.replicate 64 (Value.int IntKind.i64 0)) 115)) (w.heap.size + 1) := by
    intro o
    rw [show w.heap.size + 1 = (w.alloc (Obj.cells #[Value.slice none 0 0, Value.slice none 0 0, Value.int IntKind.i64 0, Value.int IntKind.i64 0] 76)).heap.size from by simp, World.frozen?_alloc_new]
  have hNd := hNd0.same ((Chg.refl (fun _ _ => False) (w.alloc (Obj.cells #[Value.slice none 0 0, Value.slice none 0 0, Value.int IntKind.i64 0, Value.int IntKind.i64 0] 76))).alloc (Obj.cells (Array.replicate 64 (Value.int IntKind.i64 0)) 115))
  change Code.wp _ _ _ _ ((w.alloc (Obj.cells #[Value.slice none 0 0, Value.slice none 0 0, Value.int IntKind.i64 0, Value.int IntKind.i64 0] 76)).alloc (Obj.cells (Array.replicate 64 (Value.int IntKind.i64 0)) 115))
  generalize World.alloc (World.alloc w _) _ = W2 at *
  clear hNd0
  obtain ⟨R, hRe⟩ : ∃ R, R = w.heap.size := ⟨_, rfl⟩
  rw [← hRe] at hNd hZ0 hZC ⊢
  have HRw : Hid (w.heap.size ≤ R) := by show _ ≤ _; omega
  clear hRe
  obtain ⟨Z, hZe⟩ : ∃ Z, Z = R + 1 := ⟨_, rfl⟩
  rw [← hZe] at hZ0 hZC ⊢
  have hZR : Z ≠ R := by omega
  have HZw : Hid (w.heap.size ≤ Z) := by have := HRw.out; show _ ≤ _; omega
  clear hZe
  have hsz0 := sz_zero p hp4
  go_loopw [7, 8] (fun o i wr => ∃ j : Nat, j ≤ 12 ∧ o = .int .i64 (j : Int) ∧ i = .int .i64 ((sz p j : Nat) : Int) ∧ Rd .i64 wr Z 0 64 (mix j (sz p) (fun _ => 0)) ∧ Cl wr Z ∧ Nd w R wr) (fun _ i _ => (intOf i).toNat)
  case atStart => exact ⟨0, by omega, rfl, by rw [hsz0], hZ0.start _, hZC, hNd⟩
  case round =>
    clear hNd hZ0 hZC
    obtain ⟨j, hj, rfl, rfl, hZ, hZC, hNd⟩ := hrel
    have hsl := sz_le p j hp4
    have hs4 := four_le p j
    have hst := sz_step p j
    by_cases hgt : 4 < sz p j
    · have hj12 := sz_end p j hp5 hgt
      have c1 := hZ.at (j := j) (by omega)
      have c2 := hZC (0 + j)
      rw [Nat.zero_add] at c1 c2
      obtain ⟨P, HPj⟩ : ∃ P, Hid (P = sz p j) := ⟨_, rfl⟩
      obtain ⟨P1, HP1⟩ : ∃ P1, Hid (P1 = sz p (j + 1)) := ⟨_, rfl⟩
      rw [← HPj.out, ← HP1.out] at hst
      rw [← HPj.out] at hsl hs4 hgt ⊢
      have e2 : ((P : Int) + 4) / 2 = (P1 : Int) := by omega
      have hP1 : P1 < P := by omega
      clear hst hsz0
      go_wp2_with fail
      go_roundw
      case rel =>
        have h2 := hZ.step (by omega) ((P : Nat) : Int) (by rw [HPj.out])
        rw [Nat.zero_add] at h2
        exact ⟨j + 1, by omega, by go_num, by rw [← HP1.out]; go_num, h2, hZC.setCell _ _, hNd.set hZR HZw.out⟩
      case measure => simp [intOf]; omega
    · have hz4 : sz p j = 4 := by omega
      rw [hz4]
      have HZ4 : Hid (sz p j = 4) := hz4
      clear hz4 hgt hs4 hsl hst hsz0
      go_wp2_with fail
      refine (lead_any _ N 4 _ wr (by omega) (by omega) rfl (HB.out.same hNd.1)).mono ?_
      rintro e w3 ⟨l3, n3, rfl, hn3, hl3, hs3⟩
      have hNd3 := hNd.same hs3
      have hLp := ld_low N 4 hN (by omega)
      have hLh := ld_high N 4
      have HL : Hid (0 < ld N 4) := Nat.lt_of_lt_of_le (pp 3) hLp
      have HLh : Hid (ld N 4 ≤ 4294967296) := hLh
      clear hNd hLp hLh
      go_wp2_with fail
      refine (value_any l3 n3 (ld N 4) w3 (by omega) hl3).mono ?_
      rintro e w4 ⟨rfl, rfl⟩
      clear hl3
      obtain ⟨L, HLL⟩ : ∃ L : Int, Hid (L = ((ld N 4 : Nat) : Int)) := ⟨_, rfl⟩
      rw [← HLL.out]
      have l0 : 0 < L := by have h1 := HLL.out; have h2 := HL.out; omega
      have l1 : L ≤ 4294967296 := by have h1 := HLL.out; have h2 := HLh.out; omega
      have lz : (L == 0) = false := by rw [beq_eq_false_iff_ne]; omega
      obtain ⟨Q, HQ⟩ : ∃ Q : Int, Hid (18446744073709551615 / L = Q) := ⟨_, rfl⟩
      have eQ : 18446744073709551615 / L = Q := HQ.out
      have HQN : Hid (Q = ((18446744073709551615 / ld N 4 : Nat) : Int)) := by
        show _ = _
        rw [← eQ, HLL.out]; rfl
      have HQb : Hid (18446744073709551615 / ld N 4 < 18446744073709551616) := by
        have := Nat.div_le_self 18446744073709551615 (ld N 4)
        show _ < _; omega
      have q0 : 0 ≤ Q := by rw [HQN.out]; exact Int.natCast_nonneg _
      have q1 : Q < 18446744073709551616 := by have h1 := HQN.out; have h2 := HQb.out; omega
      go_wp2_with fail
      refine (small_anyX _ Q w4 HQb.out HQN.out).mono ?_
      rintro e w5 ⟨x5, rfl, hx5, hf5, hs5⟩
      have hNd5 := hNd3.same hs5
      have hoff5 := hf5.ne (lt_of_cell hNd3.2.2.1)
      have HX5 : Hid (18446744073709551615 / ld N 4 * ld N 4 ≤ 256 ^ (2 * 4)) := first_x _ HL.out
      generalize 18446744073709551615 / ld N 4 = X5 at *
      clear eQ HQ HQN HQb hNd3 HLL
      go_wp2_with fail
      have hZ5 := (hZ.same hs3).same hs5
      clear hZ hZC hs3 hs5
      go_loopw [7, 9, 10] (fun o x i wr => ∃ (q X : Nat), q ≤ j ∧ o = .int .i64 ((q : Int) - 1) ∧ i = .int .i64 ((sz p q : Nat) : Int) ∧ Rd .i64 wr Z 0 64 (mix j (sz p) (fun _ => 0)) ∧ Nd w R wr ∧ Nm wr x X ∧ (∀ b, x.ownBlock = some b → b ≠ R) ∧ Hid (X * ld N (sz p q) ≤ 256 ^ (2 * sz p q))) (fun o _ _ _ => (intOf o + 1).toNat)
      case atStart => exact ⟨j, X5, Nat.le_refl _, by go_num, by rw [HZ4.out]; rfl, hZ5, hNd5, hx5, hoff5, by rw [HZ4.out]; exact HX5.out⟩
      case round =>
        clear hNd5 hx5 hoff5 hf5 hZ5 HX5
        obtain ⟨q, X, hq, rfl, rfl, hZ, hNd, hx, hoff, HXq⟩ := hrel
        by_cases hq0 : q = 0
        · subst hq0
          obtain ⟨ax, cx, rfl, -⟩ := hx.na
          have HX : Hid (Nm wr _ X) := hx
          obtain ⟨hS, hC, c0, c1, c2, c3⟩ := hNd
          have f0 := hC 0
          have f1 := hC 1
          have f2 := hC 2
          have f3 := hC 3
          rw [sz_zero p hp4] at HXq
          rw [sz_zero p hp4]
          clear hZ hx
          go_wp2_with fail
          generalize hWW : World.setCell (World.setCell _ _ _) _ _ = W
          obtain ⟨d0, d1, d2, d3, hSW, hxW⟩ := Nd.out ⟨hS, hC, c0, c1, c2, c3⟩ HRw.out W hWW.symm
          have hx' := hxW _ _ HX.out hoff
          clear hWW hxW c0 c1 c2 c3 f0 f1 f2 f3 hC hS
          exact bodyPost_ret (v := .agg #[Value.slice ab (dl N) cb, Value.slice ax (dl X) cx, .int .i64 (p : Int), .int .i64 (s : Int)]) (by simp [results, Tajg.results56, go_sem, d0, d1, d2, d3]) rfl ⟨_, X, rfl, hx', HXq.out, hSW⟩
        · obtain ⟨i, rfl⟩ : ∃ i, q = i + 1 := ⟨q - 1, by omega⟩
          have ei : ((i + 1 : Nat) : Int) - 1 = (i : Int) := by omega
          have hi64 : i < 64 := by omega
          have c1 := hZ i hi64
          rw [mix_lt _ _ (by omega), Nat.zero_add] at c1
          have ha := sz_anti p i
          have h41 := four_le p (i + 1)
          have hlp := sz_le p i hp4
          rw [ei]
          obtain ⟨P, HPj⟩ : ∃ P, Hid (P = sz p i) := ⟨_, rfl⟩
          obtain ⟨P1, HP1⟩ : ∃ P1, Hid (P1 = sz p (i + 1)) := ⟨_, rfl⟩
          rw [← HPj.out] at c1 ha hlp
          rw [← HP1.out] at ha h41 HXq ⊢
          obtain ⟨k, HK⟩ : ∃ k, Hid (k = P - P1) := ⟨_, rfl⟩
          have ek : (P : Int) - (P1 : Int) = (k : Int) := by have := HK.out; omega
          have hPk : P = P1 + k := by have := HK.out; omega
          have HPk : Hid (P = P1 + k) := hPk
          have hxl := dl_le _ _ (x_lt N X P1 hN (by omega) HXq.out)
          obtain ⟨ax, cx, rfl, -⟩ := hx.na
          have hNs : Ns w R Z (mix j (sz p) (fun _ => 0)) (.slice ax (dl X) cx) X wr := ⟨hZ, hNd, hx⟩
          obtain ⟨dX, HdX⟩ : ∃ dX, Hid (dX = dl X) := ⟨_, rfl⟩
          rw [← HdX.out] at hNs hxl ⊢
          clear hPk hZ hNd hx HK
          have i0 : (0 : Int) ≤ (i : Int) := by omega
          have i1 : (i : Int) < 64 := by omega
          go_wp2_with fail
          have HLE : Hid (ld N P * X * 256 ^ k ≤ 256 ^ (2 * P)) := by
            show _ ≤ _
            rw [HPk.out]; exact rf_arg N X P1 k HXq.out
          have hNr := hNs.same (Chg.refl (fun _ _ => False) wr).drew
          have hBr := HB.out.same hNr.2.1.1
          have HxR : Hid (Na wr.drew (.slice ax dX cx) dX X) := by
            have h := hNr.2.2.na
            rwa [← HdX.out] at h
          have HBr : Hid (Nm wr.drew (.slice ab (dl N) cb) N) := hBr
          clear hBr
          have c1d : wr.drew.cell? ⟨Z, i, none⟩ = some (.int .i64 (P : Int)) := c1
          have hk3 : k ≤ 3000 := by have := HPk.out; omega
          have hwk : IntKind.i64.wrap (k : Int) = (k : Int) := by rw [IntKind.wrap_i64]; omega
          have HKp : Hid (k + 2 ≤ P) := by have := HPk.out; show _ ≤ _; omega
          go_region_held3 (fun w' => w'.cell? ⟨Z, i, none⟩ = some (.int .i64 (P : Int)) ∧ Ns w R Z (mix j (sz p) (fun _ => 0)) (.slice ax dX cx) X w')
            (first | exact ⟨c1d, hNr⟩ | exact ⟨cellK hs6 c1d id, hNr.same hs6⟩ | exact ⟨cellK hs7 (cellK hs6 c1d id) id, (hNr.same hs6).same hs7⟩)
            (first
              | (go_at_call 94; refine (lead_any _ N P _ _ (by omega) (by omega) rfl HBr.out).mono ?_; rintro e w6 ⟨l6, n6, rfl, hn6, hl6, hs6⟩)
              | (go_at_call 95; refine (refine_any _ _ n6 dX (ld N P) X P k _ _ _ (by omega) (by omega) HKp.out (by omega) (by omega) rfl (by first | rfl | exact hwk) hl6 (HxR.out.same hs6) HLE.out).mono ?_; rintro e w7 ⟨x7, rfl, hx7, hf7, hs7⟩))
          have c7 := cellK hs7 (cellK hs6 c1d id) id
          have hN7 := (hNr.same hs6).same hs7
          have hoff7 := hf7.ne (lt_of_cell (hNr.same hs6).2.1.2.2.1)
          have HX7 : Hid (rf (ld N P) X P k * ld N P ≤ 256 ^ (2 * P)) := rf_ok _ _ _ _ (by omega) HKp.out HLE.out
          clear c1 c1d hNr hNs hl6 hs6 hs7
          go_wp2_with fail
          go_roundw
          case rel => exact ⟨i, _, by omega, rfl, by rw [HPj.out], hN7.1, hN7.2.1, hx7, hoff7, by rw [← HPj.out]; exact HX7.out⟩
          case measure => simp [intOf]

theorem newDivisor_any (b : Value) (N s p : Nat) (w : World) (hN : N ≠ 0) (hl : dl N ≤ 3000) (hs : s + 2 ≤ 3000) (hp : p = max (s + 2) 4) (hb : Nm w b N) :
    Calls Tajg.prog 56 #[b, .int .i64 (s : Int)] w fun e w' => ∃ x X, e = .returned (.agg #[b, x, .int .i64 (p : Int), .int .i64 (s : Int)]) ∧ Nm w' x X ∧ X * ld N p ≤ 256 ^ (2 * p) ∧ Same w w' := by
  by_cases h : s + 2 < 4
  · obtain rfl : p = 4 := by omega
    exact newDivisor_few b N s w hN hl h hb
  · exact newDivisor_many b N s p w hN hl (by omega) (by omega) (by omega) hb
end Go.Proofs.Ygctaj.Nt
