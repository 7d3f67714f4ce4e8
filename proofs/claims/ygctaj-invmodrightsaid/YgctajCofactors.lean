/- nlong.cofactors, walked. -/
import Derived.Test.YgctajLehmer
import Derived.Test.YgctajDivNew
import Derived.Deep.RegionHeld3
namespace Go.Proofs.Ygctaj.Nt
open Go.RowKit Mem
set_option linter.unusedVariables false

/-- four integers at block R. -/
def F4 (w : World) (R : Nat) (a b c d : Int) : Prop :=
  Cl w R ∧ w.cell? ⟨R, 0, none⟩ = some (.int .i64 a) ∧ w.cell? ⟨R, 1, none⟩ = some (.int .i64 b) ∧ w.cell? ⟨R, 2, none⟩ = some (.int .i64 c) ∧ w.cell? ⟨R, 3, none⟩ = some (.int .i64 d)
theorem F4.kept {may : Nat → Nat → Prop} {w w' : World} {R : Nat} {a b c d : Int} (h : F4 w R a b c d) (hc : Chg may w w') (hm : ∀ o, ¬ may R o) : F4 w' R a b c d :=
  ⟨h.1.kept hc (lt_of_cell h.2.1), cellK hc h.2.1 (hm _), cellK hc h.2.2.1 (hm _), cellK hc h.2.2.2.1 (hm _), cellK hc h.2.2.2.2 (hm _)⟩
/-- the four cells written. -/
theorem F4.set {w : World} {R : Nat} {a b c d a' b' c' d' : Int} (h : F4 w R a b c d) :
    ∀ W, W = (((w.setCell ⟨R, 0, none⟩ (.int .i64 a')).setCell ⟨R, 1, none⟩ (.int .i64 b')).setCell ⟨R, 2, none⟩ (.int .i64 c')).setCell ⟨R, 3, none⟩ (.int .i64 d') →
      F4 W R a' b' c' d' ∧ Chg (fun q _ => q = R) w W := by
  rintro W rfl
  obtain ⟨h2, c0, c1, c2, c3⟩ := h
  have st : ∀ (w : World) (i j : Nat) (v u : Value), w.cell? ⟨R, j, none⟩ = some u → (w.setCell ⟨R, i, none⟩ v).cell? ⟨R, j, none⟩ = some (if i = j then v else u) := by
    intro w i j v u hu
    by_cases e : i = j
    · subst e; rw [World.cell?_setCell_same _ _ _ hu, if_pos rfl]
    · rw [World.cell?_setCell_other _ _ _ _ (by intro e'; injection e' with _ e2; exact e e2), if_neg e]; exact hu
  refine ⟨⟨(((h2.setCell _ _).setCell _ _).setCell _ _).setCell _ _, st _ 3 0 _ _ (st _ 2 0 _ _ (st _ 1 0 _ _ (st _ 0 0 _ _ c0))), st _ 3 1 _ _ (st _ 2 1 _ _ (st _ 1 1 _ _ (st _ 0 1 _ _ c1))), st _ 3 2 _ _ (st _ 2 2 _ _ (st _ 1 2 _ _ (st _ 0 2 _ _ c2))), st _ 3 3 _ _ (st _ 2 3 _ _ (st _ 1 3 _ _ (st _ 0 3 _ _ c3)))⟩, ?_⟩
  exact ((((Chg.refl _ _).setCell R 0 _ (fun _ => rfl)).setCell R 1 _ (fun _ => rfl)).setCell R 2 _ (fun _ => rfl)).setCell R 3 _ (fun _ => rfl)

theorem mul_bound (q c : Int) (q0 : 0 ≤ q) (q1 : q < 2147483648) (c0 : -2147483648 < c) (c1 : c < 2147483648) : -4611686018427387904 < q * c ∧ q * c < 4611686018427387904 := by
  have h1 := Int.mul_le_mul_of_nonneg_left (show c ≤ 2147483647 by omega) q0
  have h2 := Int.mul_le_mul_of_nonneg_left (show -2147483647 ≤ c by omega) q0
  omega

set_option maxRecDepth 100000 in
set_option maxHeartbeats 20000000 in
theorem cofactors_any (U V : Int) (w : World) (hU : 0 ≤ U) (hU2 : U < 4611686018427387904) (hV : 0 ≤ V) (hVU : V ≤ U) :
    Calls Tajg.prog 60 #[.int .i64 U, .int .i64 V] w fun e w' => ∃ a b c d u v : Int, ∃ f : Bool, e = .returned (.tuple #[.agg #[.int .i64 a, .int .i64 b, .int .i64 c, .int .i64 d], .bool f]) ∧ f = (b != 0) ∧ Cf U V a b c d u v ∧ Same w w' := by
  have HS : Hid (Cf U V 1 0 0 1 U V) := Cf.start U V hU hU2 hV hVU
  have HU : Hid (0 ≤ U ∧ 0 ≤ V) := ⟨hU, hV⟩
  go_enter Tajg.func60, Tajg.ntmps60
  go_wp2_with fail
  have hR0 : F4 (w.alloc (Obj.cells #[Value.int IntKind.i64 0, Value.int IntKind.i64 0, Value.int IntKind.i64 0, Value.int IntKind.i64 0] 83)) w.heap.size 0 0 0 0 := by
    refine ⟨fun o => by rw [World.frozen?_alloc_new], ?_, ?_, ?_, ?_⟩ <;> (rw [World.cell?_alloc_new]; rfl)
  have hM0 : F4 ((w.alloc (Obj.cells #[Value.int IntKind.i64 0, Value.int IntKind.i64 0, Value.int IntKind.i64 0, Value.int IntKind.i64 0] 83)).alloc (Obj.cells #[Value.int IntKind.i64 1, Value.int IntKind.i64 0, Value.int IntKind.i64 0, Value.int IntKind.i64 1] 83)) (w.alloc (Obj.cells #[Value.int IntKind.i64 0, Value.int IntKind.i64 0, Value.int IntKind.i64 0, Value.int IntKind.i64 0] 83)).heap.size 1 0 0 1 := by
    refine ⟨fun o => by rw [World.frozen?_alloc_new], ?_, ?_, ?_, ?_⟩ <;> (rw [World.cell?_alloc_new]; rfl)
  rw [show (w.alloc (Obj.cells #[Value.int IntKind.i64 0, Value.int IntKind.i64 0, Value.int IntKind.i64 0, Value.int IntKind.i64 0] 83)).heap.size = w.heap.size + 1 from by simp] at hM0
  have hR1 := hR0.kept ((Chg.refl (fun _ _ => False) _).alloc (Obj.cells #[Value.int IntKind.i64 1, Value.int IntKind.i64 0, Value.int IntKind.i64 0, Value.int IntKind.i64 1] 83)) (fun _ h => h)
  have hS1 : Same w ((w.alloc (Obj.cells #[Value.int IntKind.i64 0, Value.int IntKind.i64 0, Value.int IntKind.i64 0, Value.int IntKind.i64 0] 83)).alloc (Obj.cells #[Value.int IntKind.i64 1, Value.int IntKind.i64 0, Value.int IntKind.i64 0, Value.int IntKind.i64 1] 83)) := ((Chg.refl _ _).alloc _).alloc _
  generalize World.alloc (World.alloc w _) _ = W2 at *
  obtain ⟨R, hRe⟩ : ∃ R, R = w.heap.size := ⟨_, rfl⟩
  rw [← hRe] at hR1 hM0 ⊢
  have HRw : Hid (w.heap.size ≤ R) := by show _ ≤ _; omega
  obtain ⟨Z, hZe⟩ : ∃ Z, Z = R + 1 := ⟨_, rfl⟩
  rw [← hZe] at hM0 ⊢
  have hZR : Z ≠ R := by omega
  have HZw : Hid (w.heap.size ≤ Z) := by have := HRw.out; show _ ≤ _; omega
  clear hZe hRe hR0 hU hV hVU hU2
  go_loopw [0, 1] (fun o i wr => ∃ a b c d u v : Int, o = .int .i64 u ∧ i = .int .i64 v ∧ Hid (Cf U V a b c d u v) ∧ F4 wr Z a b c d ∧ F4 wr R 0 0 0 0 ∧ Same w wr) (fun _ i wr => (intOf i + (match wr.cell? ⟨Z, 2, none⟩ with | some x => intOf x | none => 0)).toNat)
  case atStart => exact ⟨1, 0, 0, 1, U, V, rfl, rfl, HS, hM0, hR1, hS1⟩
  case round =>
    clear hM0 hR1 hS1 HS
    obtain ⟨a, b, c, d, u, v, rfl, rfl, HC, hM, hR, hS⟩ := hrel
    obtain ⟨hMC, m0, m1, m2, m3⟩ := id hM
    obtain ⟨hRC, r0, r1, r2, r3⟩ := id hR
    have HM2 : Hid (wr.cell? ⟨Z, 2, none⟩ = some (.int .i64 c)) := m2
    have f0 := hMC 0
    have f1 := hMC 1
    have f2 := hMC 2
    have f3 := hMC 3
    have g0 := hRC 0
    have g1 := hRC 1
    have g2 := hRC 2
    have g3 := hRC 3
    have la := HC.out.la
    have lb := HC.out.lb
    have lc := HC.out.lc
    have ld := HC.out.ld
    obtain ⟨la1, la2⟩ := la
    obtain ⟨lb1, lb2⟩ := lb
    obtain ⟨lc1, lc2⟩ := lc
    obtain ⟨ld1, ld2⟩ := ld
    obtain ⟨S1, HS1⟩ : ∃ S1, Hid (u + a = S1) := ⟨_, rfl⟩
    obtain ⟨S2, HS2⟩ : ∃ S2, Hid (u + b = S2) := ⟨_, rfl⟩
    obtain ⟨P1, HP1⟩ : ∃ P1, Hid (v + c = P1) := ⟨_, rfl⟩
    obtain ⟨P2, HP2⟩ : ∃ P2, Hid (v + d = P2) := ⟨_, rfl⟩
    have e1 : u + a = S1 := HS1.out
    have e2 : u + b = S2 := HS2.out
    have e3 : v + c = P1 := HP1.out
    have e4 : v + d = P2 := HP2.out
    have b1 : 0 ≤ S1 ∧ S1 ≤ 4611686018427387904 := by have := HC.out.ua; omega
    have b2 : 0 ≤ S2 ∧ S2 ≤ 4611686018427387904 := by have := HC.out.ub; omega
    have b3 : 0 ≤ P1 ∧ P1 ≤ 4611686018427387904 := by have := HC.out.vc; omega
    have b4 : 0 ≤ P2 ∧ P2 ≤ 4611686018427387904 := by have := HC.out.vd; omega
    obtain ⟨b11, b12⟩ := b1
    obtain ⟨b21, b22⟩ := b2
    obtain ⟨b31, b32⟩ := b3
    obtain ⟨b41, b42⟩ := b4
    by_cases t1 : 0 < P1
    · by_cases t2 : 0 < P2
      · obtain ⟨q, HQ⟩ : ∃ q, Hid (S1 / P1 = q) := ⟨_, rfl⟩
        obtain ⟨q', HQ'⟩ : ∃ q', Hid (S2 / P2 = q') := ⟨_, rfl⟩
        have eq1 : S1 / P1 = q := HQ.out
        have eq2 : S2 / P2 = q' := HQ'.out
        have tq1 : S1.tdiv P1 = q := by rw [Int.tdiv_eq_ediv_of_nonneg b11]; exact eq1
        have tq2 : S2.tdiv P2 = q' := by rw [Int.tdiv_eq_ediv_of_nonneg b21]; exact eq2
        have q0 : 0 ≤ q := by rw [← eq1]; exact Int.ediv_nonneg b11 b31
        have q1 : q ≤ 4611686018427387904 := by rw [← eq1]; exact Int.le_trans (Int.ediv_le_self _ b11) b12
        have q0' : 0 ≤ q' := by rw [← eq2]; exact Int.ediv_nonneg b21 b41
        have q1' : q' ≤ 4611686018427387904 := by rw [← eq2]; exact Int.le_trans (Int.ediv_le_self _ b21) b22
        have pz1 : (P1 == 0) = false := by rw [beq_eq_false_iff_ne]; omega
        have pz2 : (P2 == 0) = false := by rw [beq_eq_false_iff_ne]; omega
        by_cases tq : q = q'
        · subst tq
          by_cases t3 : q < 2147483648
          · obtain ⟨QC, HQC⟩ : ∃ QC, Hid (q * c = QC) := ⟨_, rfl⟩
            obtain ⟨QD, HQD⟩ : ∃ QD, Hid (q * d = QD) := ⟨_, rfl⟩
            obtain ⟨QV, HQV⟩ : ∃ QV, Hid (q * v = QV) := ⟨_, rfl⟩
            have eqc : q * c = QC := HQC.out
            have eqd : q * d = QD := HQD.out
            have eqv : q * v = QV := HQV.out
            have bqc : -4611686018427387904 < QC ∧ QC < 4611686018427387904 := by rw [← eqc]; exact mul_bound q c q0 t3 lc1 lc2
            have bqd : -4611686018427387904 < QD ∧ QD < 4611686018427387904 := by rw [← eqd]; exact mul_bound q d q0 t3 ld1 ld2
            obtain ⟨bqc1, bqc2⟩ := bqc
            obtain ⟨bqd1, bqd2⟩ := bqd
            have bqv : -4611686018427387904 < QV ∧ QV < 9223372036854775808 := by
              have h1 : q * P1 = QV + QC := by rw [← eqv, ← eqc, ← e3, Int.mul_add]
              have h2 : q * P1 ≤ S1 := by
                have h := Int.ediv_mul_le S1 (show P1 ≠ 0 by omega)
                rw [eq1] at h
                exact h
              have h3 : 0 ≤ q * P1 := Int.mul_nonneg q0 b31
              rw [h1] at h2 h3
              omega
            obtain ⟨bqv1, bqv2⟩ := bqv
            obtain ⟨C1, HC1⟩ : ∃ C1, Hid (a - QC = C1) := ⟨_, rfl⟩
            obtain ⟨D1, HD1⟩ : ∃ D1, Hid (b - QD = D1) := ⟨_, rfl⟩
            have ec1 : a - QC = C1 := HC1.out
            have ed1 : b - QD = D1 := HD1.out
            have bc1 : -4611686020574871552 < C1 ∧ C1 < 4611686020574871552 := by omega
            have bd1 : -4611686020574871552 < D1 ∧ D1 < 4611686020574871552 := by omega
            obtain ⟨bc11, bc12⟩ := bc1
            obtain ⟨bd11, bd12⟩ := bd1
            have hw1 : IntKind.i64.wrap QC = QC := by rw [IntKind.wrap_i64]; omega
            have hw2 : IntKind.i64.wrap QD = QD := by rw [IntKind.wrap_i64]; omega
            have hw3 : IntKind.i64.wrap C1 = C1 := by rw [IntKind.wrap_i64]; omega
            have hw4 : IntKind.i64.wrap D1 = D1 := by rw [IntKind.wrap_i64]; omega
            go_wp2_with fail
            go_region_held3 (fun w' => w'.cell? ⟨Z, 0, none⟩ = some (.int .i64 a) ∧ w'.cell? ⟨Z, 1, none⟩ = some (.int .i64 b) ∧ w'.cell? ⟨Z, 2, none⟩ = some (.int .i64 c) ∧ w'.cell? ⟨Z, 3, none⟩ = some (.int .i64 d)) (exact ⟨m0, m1, m2, m3⟩) (fail)
            have hSd := hS.drew
            have hMd : F4 wr.drew Z a b c d := hM
            have hRd : F4 wr.drew R 0 0 0 0 := hR
            change wr.drew.cell? _ = _ at m0
            change wr.drew.cell? _ = _ at m1
            change wr.drew.cell? _ = _ at m2
            change wr.drew.cell? _ = _ at m3
            change wr.drew.cell? _ = _ at r0
            change wr.drew.cell? _ = _ at r1
            change wr.drew.cell? _ = _ at r2
            change wr.drew.cell? _ = _ at r3
            change wr.drew.frozen? _ = _ at f0
            change wr.drew.frozen? _ = _ at f1
            change wr.drew.frozen? _ = _ at f2
            change wr.drew.frozen? _ = _ at f3
            change wr.drew.frozen? _ = _ at g0
            change wr.drew.frozen? _ = _ at g1
            change wr.drew.frozen? _ = _ at g2
            change wr.drew.frozen? _ = _ at g3
            clear hM hR hS hMC hRC
            generalize wr.drew = wd at *
            have hM := hMd
            have hR := hRd
            have hS := hSd
            clear hMd hRd hSd
            rcases Int.lt_or_le (-2147483648) C1 with t4 | t4
            · rcases Int.lt_or_le C1 2147483648 with t5 | t5
              · rcases Int.lt_or_le (-2147483648) D1 with t6 | t6
                · rcases Int.lt_or_le D1 2147483648 with t7 | t7
                  · have HN := Cf.next (q := q) HC.out HU.out.1 HU.out.2 (by rw [e3]; exact t1) (by rw [e4]; exact t2) (by rw [e1, e3]; exact eq1.symm) (by rw [e2, e4]; exact eq2.symm) (by rw [eqc, ec1]; exact ⟨t4, t5⟩) (by rw [eqd, ed1]; exact ⟨t6, t7⟩)
                    rw [eqc, eqd, eqv, ec1, ed1] at HN
                    obtain ⟨V1, HV1⟩ : ∃ V1, Hid (u - QV = V1) := ⟨_, rfl⟩
                    have ev1 : u - QV = V1 := HV1.out
                    rw [ev1] at HN
                    have HM : Hid (V1 + C1 < P1 ∧ 0 ≤ V1 + C1) := by
                      have h1 := HN.vc.1
                      refine ⟨?_, h1⟩
                      have h2 := Int.emod_lt_of_pos S1 t1
                      have h3 := Int.emod_def S1 P1
                      rw [eq1] at h3
                      have h4 : P1 * q = QV + QC := by rw [← eqv, ← eqc, ← e3, Int.mul_comm, Int.mul_add]
                      omega
                    have bv1 : -4611686018427387904 ≤ V1 ∧ V1 ≤ 4611686020574871552 := by
                      have h1 := HN.vc
                      omega
                    obtain ⟨bv11, bv12⟩ := bv1
                    have bu1 : -2147483648 ≤ u ∧ u ≤ 4611686020574871552 := by omega
                    have bvv : -2147483648 ≤ v ∧ v ≤ 4611686020574871552 := by omega
                    obtain ⟨bu11, bu12⟩ := bu1
                    obtain ⟨bvv1, bvv2⟩ := bvv
                    have HNN : Hid (Cf U V c d C1 D1 v V1) := HN
                    clear HN
                    go_wp2_with fail
                    generalize hWW : World.setCell (World.setCell _ _ _) _ _ = W
                    obtain ⟨hF, hCg⟩ := F4.set hM W hWW.symm
                    have hSW : Same w W := hS.trans_new hCg (fun q o hq e => by subst e; have := HZw.out; omega)
                    have hRW := hR.kept hCg (fun o e => hZR e.symm)
                    go_roundw
                    case rel => exact ⟨c, d, C1, D1, v, V1, rfl, rfl, HNN, hF, hRW, hSW⟩
                    case measure =>
                      have h1 := HM.out
                      rw [hF.2.2.2.1]
                      rw [HM2.out]
                      simp only [intOf]
                      omega
                  · go_wp2_with fail
                    have hRZ : R ≠ Z := hZR.symm
                    go_region_held3 (fun w' => w'.cell? ⟨Z, 0, none⟩ = some (.int .i64 a) ∧ w'.cell? ⟨Z, 1, none⟩ = some (.int .i64 b) ∧ w'.cell? ⟨Z, 2, none⟩ = some (.int .i64 c) ∧ w'.cell? ⟨Z, 3, none⟩ = some (.int .i64 d))
                      (first | exact ⟨m0, m1, m2, m3⟩ | go_keep) (fail)
                    generalize hWW : World.setCell (World.setCell _ _ _) _ _ = W
                    obtain ⟨hF, hCg⟩ := F4.set hR W hWW.symm
                    obtain ⟨-, d0, d1, d2, d3⟩ := hF
                    have hSW : Same w W := hS.trans_new hCg (fun q o hq e => by subst e; have := HRw.out; omega)
                    clear hWW hR hM hS r0 r1 r2 r3 m0 m1 m2 m3 f0 f1 f2 f3 g0 g1 g2 g3 hCg
                    have hSD := hSW.drew
                    change W.drew.cell? ⟨R, 0, none⟩ = _ at d0
                    change W.drew.cell? ⟨R, 1, none⟩ = _ at d1
                    change W.drew.cell? ⟨R, 2, none⟩ = _ at d2
                    change W.drew.cell? ⟨R, 3, none⟩ = _ at d3
                    generalize W.drew = WD at *
                    go_wp2_with fail
                    exact bodyPost_ret (v := .tuple #[.agg #[.int .i64 a, .int .i64 b, .int .i64 c, .int .i64 d], .bool (b != 0)]) (by simp [results, Tajg.results60, go_sem, d0, d1, d2, d3]) rfl ⟨a, b, c, d, u, v, _, rfl, rfl, HC.out, hSD⟩
                · go_wp2_with fail
                  have hRZ : R ≠ Z := hZR.symm
                  go_region_held3 (fun w' => w'.cell? ⟨Z, 0, none⟩ = some (.int .i64 a) ∧ w'.cell? ⟨Z, 1, none⟩ = some (.int .i64 b) ∧ w'.cell? ⟨Z, 2, none⟩ = some (.int .i64 c) ∧ w'.cell? ⟨Z, 3, none⟩ = some (.int .i64 d))
                    (first | exact ⟨m0, m1, m2, m3⟩ | go_keep) (fail)
                  generalize hWW : World.setCell (World.setCell _ _ _) _ _ = W
                  obtain ⟨hF, hCg⟩ := F4.set hR W hWW.symm
                  obtain ⟨-, d0, d1, d2, d3⟩ := hF
                  have hSW : Same w W := hS.trans_new hCg (fun q o hq e => by subst e; have := HRw.out; omega)
                  clear hWW hR hM hS r0 r1 r2 r3 m0 m1 m2 m3 f0 f1 f2 f3 g0 g1 g2 g3 hCg
                  have hSD := hSW.drew
                  change W.drew.cell? ⟨R, 0, none⟩ = _ at d0
                  change W.drew.cell? ⟨R, 1, none⟩ = _ at d1
                  change W.drew.cell? ⟨R, 2, none⟩ = _ at d2
                  change W.drew.cell? ⟨R, 3, none⟩ = _ at d3
                  generalize W.drew = WD at *
                  go_wp2_with fail
                  exact bodyPost_ret (v := .tuple #[.agg #[.int .i64 a, .int .i64 b, .int .i64 c, .int .i64 d], .bool (b != 0)]) (by simp [results, Tajg.results60, go_sem, d0, d1, d2, d3]) rfl ⟨a, b, c, d, u, v, _, rfl, rfl, HC.out, hSD⟩
              · go_wp2_with fail
                have hRZ : R ≠ Z := hZR.symm
                go_region_held3 (fun w' => w'.cell? ⟨Z, 0, none⟩ = some (.int .i64 a) ∧ w'.cell? ⟨Z, 1, none⟩ = some (.int .i64 b) ∧ w'.cell? ⟨Z, 2, none⟩ = some (.int .i64 c) ∧ w'.cell? ⟨Z, 3, none⟩ = some (.int .i64 d))
                  (first | exact ⟨m0, m1, m2, m3⟩ | go_keep) (fail)
                generalize hWW : World.setCell (World.setCell _ _ _) _ _ = W
                obtain ⟨hF, hCg⟩ := F4.set hR W hWW.symm
                obtain ⟨-, d0, d1, d2, d3⟩ := hF
                have hSW : Same w W := hS.trans_new hCg (fun q o hq e => by subst e; have := HRw.out; omega)
                clear hWW hR hM hS r0 r1 r2 r3 m0 m1 m2 m3 f0 f1 f2 f3 g0 g1 g2 g3 hCg
                have hSD := hSW.drew
                change W.drew.cell? ⟨R, 0, none⟩ = _ at d0
                change W.drew.cell? ⟨R, 1, none⟩ = _ at d1
                change W.drew.cell? ⟨R, 2, none⟩ = _ at d2
                change W.drew.cell? ⟨R, 3, none⟩ = _ at d3
                generalize W.drew = WD at *
                go_wp2_with fail
                exact bodyPost_ret (v := .tuple #[.agg #[.int .i64 a, .int .i64 b, .int .i64 c, .int .i64 d], .bool (b != 0)]) (by simp [results, Tajg.results60, go_sem, d0, d1, d2, d3]) rfl ⟨a, b, c, d, u, v, _, rfl, rfl, HC.out, hSD⟩
            · go_wp2_with fail
              have hRZ : R ≠ Z := hZR.symm
              go_region_held3 (fun w' => w'.cell? ⟨Z, 0, none⟩ = some (.int .i64 a) ∧ w'.cell? ⟨Z, 1, none⟩ = some (.int .i64 b) ∧ w'.cell? ⟨Z, 2, none⟩ = some (.int .i64 c) ∧ w'.cell? ⟨Z, 3, none⟩ = some (.int .i64 d))
                (first | exact ⟨m0, m1, m2, m3⟩ | go_keep) (fail)
              generalize hWW : World.setCell (World.setCell _ _ _) _ _ = W
              obtain ⟨hF, hCg⟩ := F4.set hR W hWW.symm
              obtain ⟨-, d0, d1, d2, d3⟩ := hF
              have hSW : Same w W := hS.trans_new hCg (fun q o hq e => by subst e; have := HRw.out; omega)
              clear hWW hR hM hS r0 r1 r2 r3 m0 m1 m2 m3 f0 f1 f2 f3 g0 g1 g2 g3 hCg
              have hSD := hSW.drew
              change W.drew.cell? ⟨R, 0, none⟩ = _ at d0
              change W.drew.cell? ⟨R, 1, none⟩ = _ at d1
              change W.drew.cell? ⟨R, 2, none⟩ = _ at d2
              change W.drew.cell? ⟨R, 3, none⟩ = _ at d3
              generalize W.drew = WD at *
              go_wp2_with fail
              exact bodyPost_ret (v := .tuple #[.agg #[.int .i64 a, .int .i64 b, .int .i64 c, .int .i64 d], .bool (b != 0)]) (by simp [results, Tajg.results60, go_sem, d0, d1, d2, d3]) rfl ⟨a, b, c, d, u, v, _, rfl, rfl, HC.out, hSD⟩
          · go_wp2_with fail
            have hRZ : R ≠ Z := hZR.symm
            go_region_held3 (fun w' => w'.cell? ⟨Z, 0, none⟩ = some (.int .i64 a) ∧ w'.cell? ⟨Z, 1, none⟩ = some (.int .i64 b) ∧ w'.cell? ⟨Z, 2, none⟩ = some (.int .i64 c) ∧ w'.cell? ⟨Z, 3, none⟩ = some (.int .i64 d))
              (first | exact ⟨m0, m1, m2, m3⟩ | go_keep) (fail)
            generalize hWW : World.setCell (World.setCell _ _ _) _ _ = W
            obtain ⟨hF, hCg⟩ := F4.set hR W hWW.symm
            obtain ⟨-, d0, d1, d2, d3⟩ := hF
            have hSW : Same w W := hS.trans_new hCg (fun q o hq e => by subst e; have := HRw.out; omega)
            clear hWW hR hM hS r0 r1 r2 r3 m0 m1 m2 m3 f0 f1 f2 f3 g0 g1 g2 g3 hCg
            have hSD := hSW.drew
            change W.drew.cell? ⟨R, 0, none⟩ = _ at d0
            change W.drew.cell? ⟨R, 1, none⟩ = _ at d1
            change W.drew.cell? ⟨R, 2, none⟩ = _ at d2
            change W.drew.cell? ⟨R, 3, none⟩ = _ at d3
            generalize W.drew = WD at *
            go_wp2_with fail
            exact bodyPost_ret (v := .tuple #[.agg #[.int .i64 a, .int .i64 b, .int .i64 c, .int .i64 d], .bool (b != 0)]) (by simp [results, Tajg.results60, go_sem, d0, d1, d2, d3]) rfl ⟨a, b, c, d, u, v, _, rfl, rfl, HC.out, hSD⟩
        · go_wp2_with fail
          have hRZ : R ≠ Z := hZR.symm
          go_region_held3 (fun w' => w'.cell? ⟨Z, 0, none⟩ = some (.int .i64 a) ∧ w'.cell? ⟨Z, 1, none⟩ = some (.int .i64 b) ∧ w'.cell? ⟨Z, 2, none⟩ = some (.int .i64 c) ∧ w'.cell? ⟨Z, 3, none⟩ = some (.int .i64 d))
            (first | exact ⟨m0, m1, m2, m3⟩ | go_keep) (fail)
          generalize hWW : World.setCell (World.setCell _ _ _) _ _ = W
          obtain ⟨hF, hCg⟩ := F4.set hR W hWW.symm
          obtain ⟨-, d0, d1, d2, d3⟩ := hF
          have hSW : Same w W := hS.trans_new hCg (fun q o hq e => by subst e; have := HRw.out; omega)
          clear hWW hR hM hS r0 r1 r2 r3 m0 m1 m2 m3 f0 f1 f2 f3 g0 g1 g2 g3 hCg
          have hSD := hSW.drew
          change W.drew.cell? ⟨R, 0, none⟩ = _ at d0
          change W.drew.cell? ⟨R, 1, none⟩ = _ at d1
          change W.drew.cell? ⟨R, 2, none⟩ = _ at d2
          change W.drew.cell? ⟨R, 3, none⟩ = _ at d3
          generalize W.drew = WD at *
          go_wp2_with fail
          exact bodyPost_ret (v := .tuple #[.agg #[.int .i64 a, .int .i64 b, .int .i64 c, .int .i64 d], .bool (b != 0)]) (by simp [results, Tajg.results60, go_sem, d0, d1, d2, d3]) rfl ⟨a, b, c, d, u, v, _, rfl, rfl, HC.out, hSD⟩
      · go_wp2_with fail
        have hRZ : R ≠ Z := hZR.symm
        go_region_held3 (fun w' => w'.cell? ⟨Z, 0, none⟩ = some (.int .i64 a) ∧ w'.cell? ⟨Z, 1, none⟩ = some (.int .i64 b) ∧ w'.cell? ⟨Z, 2, none⟩ = some (.int .i64 c) ∧ w'.cell? ⟨Z, 3, none⟩ = some (.int .i64 d))
          (first | exact ⟨m0, m1, m2, m3⟩ | go_keep) (fail)
        generalize hWW : World.setCell (World.setCell _ _ _) _ _ = W
        obtain ⟨hF, hCg⟩ := F4.set hR W hWW.symm
        obtain ⟨-, d0, d1, d2, d3⟩ := hF
        have hSW : Same w W := hS.trans_new hCg (fun q o hq e => by subst e; have := HRw.out; omega)
        clear hWW hR hM hS r0 r1 r2 r3 m0 m1 m2 m3 f0 f1 f2 f3 g0 g1 g2 g3 hCg
        have hSD := hSW.drew
        change W.drew.cell? ⟨R, 0, none⟩ = _ at d0
        change W.drew.cell? ⟨R, 1, none⟩ = _ at d1
        change W.drew.cell? ⟨R, 2, none⟩ = _ at d2
        change W.drew.cell? ⟨R, 3, none⟩ = _ at d3
        generalize W.drew = WD at *
        go_wp2_with fail
        exact bodyPost_ret (v := .tuple #[.agg #[.int .i64 a, .int .i64 b, .int .i64 c, .int .i64 d], .bool (b != 0)]) (by simp [results, Tajg.results60, go_sem, d0, d1, d2, d3]) rfl ⟨a, b, c, d, u, v, _, rfl, rfl, HC.out, hSD⟩
    · go_wp2_with fail
      have hRZ : R ≠ Z := hZR.symm
      go_region_held3 (fun w' => w'.cell? ⟨Z, 0, none⟩ = some (.int .i64 a) ∧ w'.cell? ⟨Z, 1, none⟩ = some (.int .i64 b) ∧ w'.cell? ⟨Z, 2, none⟩ = some (.int .i64 c) ∧ w'.cell? ⟨Z, 3, none⟩ = some (.int .i64 d))
        (first | exact ⟨m0, m1, m2, m3⟩ | go_keep) (fail)
      generalize hWW : World.setCell (World.setCell _ _ _) _ _ = W
      obtain ⟨hF, hCg⟩ := F4.set hR W hWW.symm
      obtain ⟨-, d0, d1, d2, d3⟩ := hF
      have hSW : Same w W := hS.trans_new hCg (fun q o hq e => by subst e; have := HRw.out; omega)
      clear hWW hR hM hS r0 r1 r2 r3 m0 m1 m2 m3 f0 f1 f2 f3 g0 g1 g2 g3 hCg
      have hSD := hSW.drew
      change W.drew.cell? ⟨R, 0, none⟩ = _ at d0
      change W.drew.cell? ⟨R, 1, none⟩ = _ at d1
      change W.drew.cell? ⟨R, 2, none⟩ = _ at d2
      change W.drew.cell? ⟨R, 3, none⟩ = _ at d3
      generalize W.drew = WD at *
      go_wp2_with fail
      exact bodyPost_ret (v := .tuple #[.agg #[.int .i64 a, .int .i64 b, .int .i64 c, .int .i64 d], .bool (b != 0)]) (by simp [results, Tajg.results60, go_sem, d0, d1, d2, d3]) rfl ⟨a, b, c, d, u, v, _, rfl, rfl, HC.out, hSD⟩
end Go.Proofs.Ygctaj.Nt
