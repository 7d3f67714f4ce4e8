/- nlong.newOdd, widthFor, bitsAt, walked. -/
import Derived.Test.YgctajMontTimes
namespace Go.Proofs.Ygctaj.Nt
open Go.RowKit Mem
set_option linter.unusedVariables false

/-- how many bits of the inverse are right after k steps. -/
def tb : Nat → Nat
  | 0 => 3
  | 1 => 6
  | 2 => 12
  | 3 => 24
  | _ => 32

theorem dvd_pow_le {t s : Nat} {e : Int} (h : t ≤ s) (hd : (2 : Int) ^ s ∣ e) : (2 : Int) ^ t ∣ e := by
  obtain ⟨k, rfl⟩ := hd
  exact ⟨2 ^ (s - t) * k, by rw [← Int.mul_assoc, ← Int.pow_add, show t + (s - t) = s from by omega]⟩

theorem newton (m v v' : Int) (t : Nat) (h : (2 : Int) ^ t ∣ m * v - 1) (hv : v' = v * (2 - m * v) % 4294967296) (s : Nat) (hs : s ≤ 32) (hs2 : s ≤ 2 * t) : (2 : Int) ^ s ∣ m * v' - 1 := by
  obtain ⟨e, he⟩ := h
  have h1 : (2 : Int) ^ (2 * t) ∣ m * (v * (2 - m * v)) - 1 := by
    refine ⟨-(e * e), ?_⟩
    have e1 : m * (v * (2 - m * v)) - 1 = -((m * v - 1) * (m * v - 1)) := by grind
    rw [e1, he, show 2 * t = t + t from by omega, Int.pow_add]
    generalize (2 : Int) ^ t = B
    grind
  have h2 : (2 : Int) ^ 32 ∣ m * v' - m * (v * (2 - m * v)) := by
    refine ⟨-(m * (v * (2 - m * v) / 4294967296)), ?_⟩
    have := Int.emod_add_mul_ediv (v * (2 - m * v)) 4294967296
    rw [← hv] at this
    generalize v * (2 - m * v) / 4294967296 = q at *
    rw [show (2 : Int) ^ 32 = 4294967296 from by decide, ← this]
    grind
  obtain ⟨k1, hk1⟩ := dvd_pow_le hs2 h1
  obtain ⟨k2, hk2⟩ := dvd_pow_le hs h2
  refine ⟨k1 + k2, ?_⟩
  rw [Int.mul_add, ← hk1, ← hk2]; omega

theorem odd_sq (m : Nat) (h : m % 2 = 1) : (2 : Int) ^ 3 ∣ (m : Int) * (m : Int) - 1 := by
  have h1 : m % 8 = 1 ∨ m % 8 = 3 ∨ m % 8 = 5 ∨ m % 8 = 7 := by omega
  have e := Nat.mod_add_div m 8
  generalize m / 8 = q at *
  rcases h1 with h1 | h1 | h1 | h1 <;> rw [h1] at e <;> rw [← e]
  · exact ⟨8 * q * q + 2 * q, by push_cast; grind⟩
  · exact ⟨8 * q * q + 6 * q + 1, by push_cast; grind⟩
  · exact ⟨8 * q * q + 10 * q + 3, by push_cast; grind⟩
  · exact ⟨8 * q * q + 14 * q + 6, by push_cast; grind⟩

theorem inv_ok (M v iv : Nat) (h : (2 : Int) ^ 32 ∣ ((dw M 0 : Nat) : Int) * (v : Int) - 1) (hiv : (iv : Int) = -(v : Int) % 4294967296) : (M * iv + 1) % 4294967296 = 0 := by
  have h0 : dw M 0 = M % 4294967296 := by unfold dw; simp
  rw [h0] at h
  obtain ⟨k, hk⟩ := h
  have e := Nat.mod_add_div M 4294967296
  have e2 := Int.emod_add_mul_ediv (-(v : Int)) 4294967296
  rw [← hiv] at e2
  generalize M % 4294967296 = r at *
  generalize M / 4294967296 = q at *
  rw [show (2 : Int) ^ 32 = 4294967296 from by decide] at hk
  generalize -(v : Int) / 4294967296 = j at *
  have key : ((M * iv + 1 : Nat) : Int) % 4294967296 = 0 := by
    rw [← e]
    have ec : (((r + 4294967296 * q) * iv + 1 : Nat) : Int) = ((r : Int) + 4294967296 * (q : Int)) * (iv : Int) + 1 := by
      rw [Int.natCast_add, Int.natCast_mul, Int.natCast_add, Int.natCast_mul]; rfl
    rw [ec]
    have e3 : (iv : Int) = -(v : Int) - 4294967296 * j := by omega
    rw [e3]
    have e4 : ((r : Int) + 4294967296 * (q : Int)) * (-(v : Int) - 4294967296 * j) + 1 = 4294967296 * (-k - (r : Int) * j + (q : Int) * (-(v : Int) - 4294967296 * j)) := by grind
    rw [e4]
    exact Int.mul_emod_right _ _
  omega

/-- 'copy' of no word. -/
theorem run_cpW0 (w : World) {dp sp : Option Addr} {dl dc sl sc : Nat} (hn : Nat.min sl dl = 0) :
    Sem.run Tajg.prog (Builtin.copy_ #[57, 57] 3 #[.slice dp dl dc, .slice sp sl sc]) w = .ok (.int .i64 0) w := by
  have hu := Tajg.underlying57
  have hi : (Tajg.prog.info? 46).map (fun i => i.size) = some 1 := by kernel_rfl
  exact run_copy_none (P := Tajg.prog) w 57 57 3 46 dp sp dl dc sl sc hu hi hn

/-- how many bits are taken at a time. -/
def wd (n : Nat) : Nat := if 8 < n then 4 else 1

set_option maxRecDepth 20000 in
theorem widthFor_any (a : Option Addr) (n cap : Nat) (w : World) (hn : n ≤ 1000000) :
    Calls Tajg.prog 69 #[.slice a n cap] w fun e w' => e = .returned (.int .i64 ((wd n : Nat) : Int)) ∧ w' = w := by
  by_cases h : 8 < n
  · have e : wd n = 4 := by unfold wd; rw [if_pos h]
    rw [e]
    go_enter Tajg.func69, Tajg.ntmps69
    go_wp2_with fail
    go_ret
    exact ⟨rfl, rfl⟩
  · have e : wd n = 1 := by unfold wd; rw [if_neg h]
    rw [e]
    go_enter Tajg.func69, Tajg.ntmps69
    go_wp2_with fail
    go_ret
    exact ⟨rfl, rfl⟩

theorem wrap_chain (m v : Int) : v * ((2 - m * v % 4294967296) % 4294967296) % 4294967296 = v * (2 - m * v) % 4294967296 := by
  have h1 := Int.emod_add_mul_ediv (m * v) 4294967296
  have h2 := Int.emod_add_mul_ediv (2 - m * v % 4294967296) 4294967296
  generalize m * v % 4294967296 = a at *
  generalize (2 - a) % 4294967296 = b at *
  generalize m * v / 4294967296 = q at *
  generalize (2 - a) / 4294967296 = r at *
  have e : v * (2 - m * v) = v * b + 4294967296 * (v * (r - q)) := by
    rw [← h1]
    have : b = 2 - a - 4294967296 * r := by omega
    rw [this]; grind
  rw [e, Int.add_mul_emod_self_left]

/-- three cells written. -/
theorem three_cells {w0 wr : World} {R : Nat} {u0 u1 u2 v0 v1 v2 : Value} (hS : Same w0 wr) (c0 : wr.cell? ⟨R, 0, none⟩ = some u0) (c1 : wr.cell? ⟨R, 1, none⟩ = some u1) (c2 : wr.cell? ⟨R, 2, none⟩ = some u2) (hR : w0.heap.size ≤ R) :
    ∀ W, W = ((wr.setCell ⟨R, 0, none⟩ v0).setCell ⟨R, 1, none⟩ v1).setCell ⟨R, 2, none⟩ v2 →
      W.cell? ⟨R, 0, none⟩ = some v0 ∧ W.cell? ⟨R, 1, none⟩ = some v1 ∧ W.cell? ⟨R, 2, none⟩ = some v2 ∧ Same w0 W ∧ Chg (fun q _ => q = R) wr W := by
  rintro W rfl
  have st : ∀ (w : World) (i j : Nat) (v u : Value), w.cell? ⟨R, j, none⟩ = some u → (w.setCell ⟨R, i, none⟩ v).cell? ⟨R, j, none⟩ = some (if i = j then v else u) := by
    intro w i j v u hu
    by_cases e : i = j
    · subst e; rw [World.cell?_setCell_same _ _ _ hu, if_pos rfl]
    · rw [World.cell?_setCell_other _ _ _ _ (by intro e'; injection e' with _ e2; exact e e2), if_neg e]; exact hu
  have k : w0.heap.size ≤ R → R < w0.heap.size → False := by omega
  refine ⟨st _ 2 0 _ _ (st _ 1 0 _ _ (st _ 0 0 _ _ c0)), st _ 2 1 _ _ (st _ 1 1 _ _ (st _ 0 1 _ _ c1)), st _ 2 2 _ _ (st _ 1 2 _ _ (st _ 0 2 _ _ c2)), ?_, ?_⟩
  · exact (((hS.setCell R 0 v0 (fun h => (k hR h).elim)).setCell R 1 v1 (fun h => (k hR h).elim)).setCell R 2 v2 (fun h => (k hR h).elim))
  · exact (((Chg.refl _ _).setCell R 0 _ (fun _ => rfl)).setCell R 1 _ (fun _ => rfl)).setCell R 2 _ (fun _ => rfl)

set_option maxRecDepth 20000 in
set_option maxHeartbeats 1000000 in
theorem newOdd_any (m : Value) (M : Nat) (w : World) (hm : Nm w m M) (hodd : M % 2 = 1) (hl : dl M ≤ 4096) :
    Calls Tajg.prog 99 #[m] w fun e w' => ∃ bm om cm br iv : Nat, e = .returned (.agg #[.slice (some ⟨bm, om, none⟩) (wl M) cm, .int .u32 (iv : Int), .slice (some ⟨br, 0, none⟩) (wl M + 1) (wl M + 1)]) ∧ wl M ≤ cm ∧ iv < 4294967296 ∧ (M * iv + 1) % 4294967296 = 0 ∧
      Rd .u32 w' bm om (wl M) (dw M) ∧ Rd .u32 w' br 0 (wl M + 1) (fun _ => 0) ∧ Cl w' br ∧ w.heap.size ≤ br ∧ br ≠ bm ∧ Same w w' := by
  have HM : Hid (Nm w m M) := hm
  have hwl : wl M ≤ 1025 := by unfold wl; omega
  have hw0 : 1 ≤ wl M := by
    have : M ≠ 0 := by omega
    rcases Nat.eq_zero_or_pos (wl M) with e | e
    · exfalso
      have h := lt_wl M
      rw [e] at h
      simp at h
      omega
    · exact e
  clear hm
  go_enter Tajg.func99, Tajg.ntmps99
  go_wp2_with fail
  have hW0 : (w.alloc (Obj.cells #[Value.slice none 0 0, Value.int IntKind.u32 0, Value.slice none 0 0] 121)).cell? ⟨w.heap.size, 0, none⟩ = some (.slice none 0 0) := by rw [World.cell?_alloc_new]; rfl
  have hW1 : (w.alloc (Obj.cells #[Value.slice none 0 0, Value.int IntKind.u32 0, Value.slice none 0 0] 121)).cell? ⟨w.heap.size, 1, none⟩ = some (.int .u32 0) := by rw [World.cell?_alloc_new]; rfl
  have hW2 : (w.alloc (Obj.cells #[Value.slice none 0 0, Value.int IntKind.u32 0, Value.slice none 0 0] 121)).cell? ⟨w.heap.size, 2, none⟩ = some (.slice none 0 0) := by rw [World.cell?_alloc_new]; rfl
  have hWC : Cl (w.alloc (Obj.cells #[Value.slice none 0 0, Value.int IntKind.u32 0, Value.slice none 0 0] 121)) w.heap.size := fun o => by rw [World.frozen?_alloc_new]
  have hWS : Same w (w.alloc (Obj.cells #[Value.slice none 0 0, Value.int IntKind.u32 0, Value.slice none 0 0] 121)) := (Chg.refl _ _).alloc _
  generalize World.alloc w _ = W1 at *
  obtain ⟨R, hRe⟩ : ∃ R, R = w.heap.size := ⟨_, rfl⟩
  rw [← hRe] at hW0 hW1 hW2 hWC ⊢
  have HRw : Hid (w.heap.size ≤ R) := by show _ ≤ _; omega
  clear hRe
  refine (wordsOf_any m M W1 (by omega) (HM.out.same hWS)).mono ?_
  rintro e w3 ⟨v3, rfl, hv3, hf3, hs3⟩
  obtain ⟨a3, cm, rfl, hcm, hMl, hr3⟩ := hv3
  obtain ⟨bm, om, rfl, hRm, hCm⟩ := hr3 (by omega)
  have hbmW := (hf3 bm om none _ cm rfl).1
  have hRW := lt_of_cell hW0
  have hbR : bm ≠ R := by
    have : R < W1.heap.size := hRW
    omega
  have c0 := cellK hs3 hW0 id
  have c1 := cellK hs3 hW1 id
  have c2 := cellK hs3 hW2 id
  have cC := hWC.kept hs3 hRW
  have hS3 := hWS.trans hs3
  have m0 := hRm 0 (by omega)
  rw [Nat.add_zero] at m0
  have HRm : Hid (Rd .u32 w3 bm om (wl M) (dw M)) := hRm
  have Hod : Hid (dw M 0 % 2 = 1) := by
    show _ = _
    have : dw M 0 = M % 4294967296 := by unfold dw; simp
    omega
  clear hW0 hW1 hW2 hWC hWS hs3 hr3 hRm hCm hMl hf3
  generalize hwl' : wl M = n at *
  have Hwl : Hid (wl M = n) := hwl'
  clear hwl'
  obtain ⟨MI, HMI⟩ : ∃ MI : Int, Hid (MI = ((dw M 0 : Nat) : Int)) := ⟨_, rfl⟩
  rw [← HMI.out] at m0
  have k0 : 0 ≤ MI := by have := HMI.out; omega
  have k1 : MI < 4294967296 := by have h1 := HMI.out; have h2 := dw_lt M 0; omega
  go_wp2_with fail
  go_loop [4, 5] (fun v i => ∃ (k V : Nat), k ≤ 4 ∧ i = .int .i64 (k : Int) ∧ v = .int .u32 (V : Int) ∧ Hid (V < 4294967296 ∧ (2 : Int) ^ tb k ∣ MI * (V : Int) - 1)) (fun _ i => (4 - intOf i).toNat)
  case atStart => exact ⟨0, dw M 0, by omega, rfl, by rw [HMI.out], ⟨dw_lt M 0, by rw [HMI.out]; exact odd_sq _ Hod.out⟩⟩
  case round =>
    obtain ⟨k, V, hk, rfl, rfl, HV⟩ := hrel
    obtain ⟨VI, HVI⟩ : ∃ VI : Int, Hid (VI = (V : Int)) := ⟨_, rfl⟩
    rw [← HVI.out]
    have v0 : 0 ≤ VI := by have := HVI.out; omega
    have v1 : VI < 4294967296 := by have h1 := HVI.out; have h2 := HV.out.1; omega
    by_cases hk4 : k = 4
    · subst hk4
      obtain ⟨A4, HA4⟩ : ∃ A4 : Int, Hid (-VI % 4294967296 = A4) := ⟨_, rfl⟩
      have e4 := HA4.out
      have hw4 : IntKind.u32.wrap (-VI) = A4 := by rw [IntKind.wrap_u32]; exact e4
      obtain ⟨iv, Hiv⟩ : ∃ iv : Nat, Hid ((iv : Int) = A4) := ⟨A4.toNat, by show _ = _; omega⟩
      have HI : Hid (iv < 4294967296 ∧ (M * iv + 1) % 4294967296 = 0) := by
        refine ⟨by have := Hiv.out; omega, inv_ok M V iv ?_ ?_⟩
        · have h := HV.out.2
          rw [HMI.out] at h
          exact h
        · rw [Hiv.out, ← e4, HVI.out]
      have en1 : (n : Int) + 1 = ((n + 1 : Nat) : Int) := by omega
      obtain ⟨n1, Hn1⟩ : ∃ n1, Hid (n1 = n + 1) := ⟨_, rfl⟩
      rw [← Hn1.out] at en1
      have hn1 : n1 ≤ 2000 := by have := Hn1.out; omega
      go_wp2_with (at_make; refine wpList_mkc n1 .u32 46 4 _ _ (by rfl) (by rfl) (by go_num) (by go_num) Tajg.underlying57 info46 (by omega) (by omega) ?_; intro br w5 hb1 hb2 hRr hCr hs5; have d0 := cellK hs5 c0 id; have d1 := cellK hs5 c1 id; have d2 := cellK hs5 c2 id; have f0 := cC.kept hs5 (lt_of_cell c0) 0; have f1 := cC.kept hs5 (lt_of_cell c0) 1; have f2 := cC.kept hs5 (lt_of_cell c0) 2)
      generalize hWW : World.setCell (World.setCell _ _ _) _ _ = W
      have hS5 := hS3.trans hs5
      obtain ⟨g0, g1, g2, hSW, hcW⟩ := three_cells hS5 d0 d1 d2 HRw.out W hWW.symm
      have hbrR : br ≠ R := by
        have h1 := lt_of_cell c0
        have h2 : R < w3.heap.size := h1
        omega
      have hbrm : br ≠ bm := by
        have h1 := HRm.out.lt (by omega)
        omega
      have hRmW : Rd .u32 W bm om n (dw M) := (HRm.out.same hs5).kept hcW (fun _ _ e => hbR e)
      have hRrW := hRr.kept hcW (fun _ _ e => hbrR e)
      have hCrW := hCr.kept hcW hb2
      have hbrw : w.heap.size ≤ br := Nat.le_trans hS3.size hb1
      clear hWW d0 d1 d2 f0 f1 f2 c0 c1 c2 hRr hCr
      refine bodyPost_ret (v := .agg #[.slice (some ⟨bm, om, none⟩) n cm, .int .u32 A4, .slice (some ⟨br, 0, none⟩) n1 n1]) (by simp [results, Tajg.results99, go_sem, g0, g1, g2]) rfl ?_
      rw [Hwl.out, ← Hn1.out]
      exact ⟨bm, om, cm, br, iv, by rw [Hiv.out], hcm, HI.out.1, HI.out.2, hRmW, hRrW, hCrW, hbrw, hbrm, hSW⟩
    · have hk3 : k < 4 := by omega
      obtain ⟨MV, HMV⟩ : ∃ MV : Int, Hid (MI * VI = MV) := ⟨_, rfl⟩
      have e1 := HMV.out
      obtain ⟨A1, HA1⟩ : ∃ A1 : Int, Hid (MV % 4294967296 = A1) := ⟨_, rfl⟩
      have e2 := HA1.out
      obtain ⟨A2, HA2⟩ : ∃ A2 : Int, Hid ((2 - A1) % 4294967296 = A2) := ⟨_, rfl⟩
      have e3 := HA2.out
      obtain ⟨VA, HVA⟩ : ∃ VA : Int, Hid (VI * A2 = VA) := ⟨_, rfl⟩
      have e5 := HVA.out
      obtain ⟨A3, HA3⟩ : ∃ A3 : Int, Hid (VA % 4294967296 = A3) := ⟨_, rfl⟩
      have e6 := HA3.out
      have w1 : IntKind.u32.wrap MV = A1 := by rw [IntKind.wrap_u32]; exact e2
      have w2 : IntKind.u32.wrap (2 - A1) = A2 := by rw [IntKind.wrap_u32]; exact e3
      have w3 : IntKind.u32.wrap VA = A3 := by rw [IntKind.wrap_u32]; exact e6
      obtain ⟨V3, HV3⟩ : ∃ V3 : Nat, Hid ((V3 : Int) = A3) := ⟨A3.toNat, by show _ = _; omega⟩
      have HN : Hid (V3 < 4294967296 ∧ (2 : Int) ^ tb (k + 1) ∣ MI * (V3 : Int) - 1) := by
        refine ⟨by have := HV3.out; omega, ?_⟩
        have hc := wrap_chain MI VI
        rw [e1, e2, e3, e5, e6] at hc
        rw [HV3.out]
        have hd := HV.out.2
        rw [← HVI.out] at hd
        refine newton MI VI A3 (tb k) hd (by rw [hc, e1]) _ ?_ ?_
        · have : k = 0 ∨ k = 1 ∨ k = 2 ∨ k = 3 := by omega
          rcases this with rfl | rfl | rfl | rfl <;> decide
        · have : k = 0 ∨ k = 1 ∨ k = 2 ∨ k = 3 := by omega
          rcases this with rfl | rfl | rfl | rfl <;> decide
      go_wp2_with fail
      go_round
      case rel => exact ⟨k + 1, V3, by omega, by go_num, by rw [HV3.out], HN⟩
      case measure => simp [intOf]; omega
end Go.Proofs.Ygctaj.Nt
