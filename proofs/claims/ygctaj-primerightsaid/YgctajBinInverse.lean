/- (binary).inverse, walked. -/
import Derived.Test.YgctajBinEnter
import Derived.Deep.RegionHeld3
namespace Go.Proofs.Ygctaj.Nt
open Go.RowKit Mem
set_option linter.unusedVariables false

theorem r_two (n : Nat) : (((256 ^ (4 * n) : Nat)) : Int) = 2 ^ (32 * n) := by
  rw [show 256 = 2 ^ 8 from rfl, ← Nat.pow_mul, show 8 * (4 * n) = 32 * n from by omega]
  exact Int.natCast_pow 2 _

theorem newton_b (n M V V' t s : Nat) (h : (2 : Int) ^ t ∣ (M : Int) * (V : Int) - 1) (hs : s ≤ 32 * n) (hs2 : s ≤ 2 * t)
    (hV : V' = V * bmn n 2 (M * V % 256 ^ (4 * n)) % 256 ^ (4 * n)) : (2 : Int) ^ s ∣ (M : Int) * (V' : Int) - 1 := by
  obtain ⟨e, he⟩ := h
  have hR := r_two n
  have hRp := pp (4 * n)
  generalize hRR : 256 ^ (4 * n) = R at *
  have e1 := Nat.mod_add_div (M * V) R
  have hYl : M * V % R < R := Nat.mod_lt _ hRp
  unfold bmn at hV
  rw [hRR] at hV
  generalize M * V % R = Y at *
  have e2 := Nat.mod_add_div (2 + R - Y) R
  generalize (2 + R - Y) % R = U at *
  have e3 := Nat.mod_add_div (V * U) R
  rw [← hV] at e3
  generalize M * V / R = q1 at *
  generalize (2 + R - Y) / R = q2 at *
  generalize V * U / R = q3 at *
  have i1 : (Y : Int) + (R : Int) * (q1 : Int) = (M : Int) * (V : Int) := by rw [← Int.natCast_mul, ← Int.natCast_mul, ← Int.natCast_add, e1]
  have i2 : (U : Int) + (R : Int) * (q2 : Int) = 2 + (R : Int) - (Y : Int) := by
    rw [← Int.natCast_mul, ← Int.natCast_add, e2]; omega
  have i3 : (V' : Int) + (R : Int) * (q3 : Int) = (V : Int) * (U : Int) := by rw [← Int.natCast_mul, ← Int.natCast_mul, ← Int.natCast_add, e3]
  generalize (Y : Int) = y at *
  generalize (R : Int) = r at *
  generalize (q1 : Int) = a at *
  generalize (q2 : Int) = b at *
  generalize (q3 : Int) = c at *
  generalize (V : Int) = v at *
  generalize (V' : Int) = v' at *
  generalize (U : Int) = u at *
  generalize (M : Int) = m at *
  have key : m * v' - 1 = -((m * v - 1) * (m * v - 1)) + r * (m * (v * (1 + a - b) - c)) := by
    have k1 : y = m * v - r * a := by omega
    have k2 : u = 2 + r - y - r * b := by omega
    have k3 : v' = v * u - r * c := by omega
    rw [k3, k2, k1]; grind
  have h1 : (2 : Int) ^ s ∣ -((m * v - 1) * (m * v - 1)) := by
    refine dvd_pow_le hs2 ⟨-(e * e), ?_⟩
    rw [he, show 2 * t = t + t from by omega, Int.pow_add]
    generalize (2 : Int) ^ t = B
    grind
  have h2 : (2 : Int) ^ s ∣ r * (m * (v * (1 + a - b) - c)) := by
    obtain ⟨k, hk⟩ := dvd_pow_le hs (e := r) ⟨1, by rw [hR]; omega⟩
    exact ⟨k * (m * (v * (1 + a - b) - c)), by rw [hk, Int.mul_assoc]⟩
  rw [key]
  exact Int.dvd_add h1 h2

theorem min_twice (P m : Nat) : Nat.min (P * 2) m ≤ 2 * Nat.min P m := by
  show min (P * 2) m ≤ 2 * min P m
  omega

set_option maxRecDepth 100000 in
set_option maxHeartbeats 2000000 in
theorem inverse_any (k n bm M : Nat) (w : World) (hn : 1 ≤ n) (hn2 : n ≤ 2000) (hk : k ≤ 32 * n) (hodd : M % 2 = 1) (hM : M ≤ 256 ^ (4 * n)) (hx : Rd .u32 w bm 0 n (dw M)) (hxc : Cl w bm) :
    Calls Tajg.prog 107 #[.agg #[.int .i64 (k : Int), .int .i64 (n : Int)], .slice (some ⟨bm, 0, none⟩) n n] w fun e w' =>
      ∃ B V : Nat, e = .returned (.slice (some ⟨B, 0, none⟩) n n) ∧ (2 : Int) ^ k ∣ (M : Int) * (V : Int) - 1 ∧ Rd .u32 w' B 0 n (dw V) ∧ Cl w' B ∧ Same w w' := by
  have HA : Hid ((w.alloc (Obj.cells #[Value.int IntKind.i64 (k : Int), Value.int IntKind.i64 (n : Int)] 129)).cell? ⟨w.heap.size, 1, none⟩ = some (.int .i64 (n : Int))) := by show _ = _; rw [World.cell?_alloc_new]; rfl
  have HA0 : Hid ((w.alloc (Obj.cells #[Value.int IntKind.i64 (k : Int), Value.int IntKind.i64 (n : Int)] 129)).cell? ⟨w.heap.size, 0, none⟩ = some (.int .i64 (k : Int))) := by show _ = _; rw [World.cell?_alloc_new]; rfl
  have HS1 : Hid (Same w (w.alloc (Obj.cells #[Value.int IntKind.i64 (k : Int), Value.int IntKind.i64 (n : Int)] 129))) := (Chg.refl _ _).alloc _
  have HMl : Hid (M ≤ 256 ^ (4 * n)) := hM
  have HKn : Hid (k ≤ 32 * n) := hk
  have hkb : k ≤ 64000 := by omega
  have Hx : Hid (Rd .u32 w bm 0 n (dw M)) := hx
  have Hxc : Hid (Cl w bm) := hxc
  have hbml := hx.lt (by omega)
  clear hM hk hx hxc
  go_enter Tajg.func107, Tajg.ntmps107
  go_wp2_with (at_make; generalize hWa : World.alloc w _ = W1 at *; refine wpList_mkc n .u32 46 4 _ _ (by rfl) (by rfl) rfl rfl Tajg.underlying57 info46 (by omega) (by omega) ?_; intro B w2 hB1 hB2 hRB hCB hs2; have b0 := hRB 0 (by omega); have b1 := hCB 0; rw [Nat.zero_add] at b0)
  have HS2 : Hid (Same w (w2.setCell ⟨B, 0, none⟩ (.int .u32 2))) := (HS1.out.trans hs2).setCell B _ _ (fun h => absurd h (by have := HS1.out.size; omega))
  have HZ : Hid ((w2.setCell ⟨B, 0, none⟩ (.int .u32 2)).cell? ⟨w.heap.size, 1, none⟩ = some (.int .i64 (n : Int)) ∧ (w2.setCell ⟨B, 0, none⟩ (.int .u32 2)).cell? ⟨w.heap.size, 0, none⟩ = some (.int .i64 (k : Int))) := by
    have hl := lt_of_cell HA.out
    have hl2 : w.heap.size < W1.heap.size := hl
    refine ⟨?_, ?_⟩
    · rw [World.cell?_setCell_other _ _ _ _ (by intro e; injection e with e1 _; omega)]; exact cellK hs2 HA.out id
    · rw [World.cell?_setCell_other _ _ _ _ (by intro e; injection e with e1 _; omega)]; exact cellK hs2 HA0.out id
  have H2 : Hid (Rd .u32 (w2.setCell ⟨B, 0, none⟩ (.int .u32 2)) B 0 n (dw 2)) := by
    refine (hRB.setCell 0 2 (by omega)).congr fun i hi => ?_
    by_cases h : i = 0
    · subst h; rw [upd_same]; rfl
    · rw [upd_other _ _ _ _ h]; exact (dw_above 2 i 1 (by decide) (by omega)).symm
  clear hRB hCB b0 b1 HS1 HA HA0 hs2 hWa hB1 hB2
  generalize World.setCell w2 _ _ = W3 at *
  have HX3 : Hid (Rd .u32 W3 bm 0 n (dw M)) := Hx.out.same HS2.out
  have HC3 : Hid (Cl W3 bm) := Hxc.out.kept HS2.out hbml
  clear Hx Hxc
  obtain ⟨Z, HZe⟩ : ∃ Z, Hid (Z = w.heap.size) := ⟨_, rfl⟩
  rw [← HZe.out] at HZ ⊢
  go_loopw [6, 7] (fun y p wr => ∃ bY V P : Nat, y = .slice (some ⟨bY, 0, none⟩) n n ∧ p = .int .i64 (P : Int) ∧ 3 ≤ P ∧ P ≤ 128000 ∧ (2 : Int) ^ (Nat.min P (32 * n)) ∣ (M : Int) * (V : Int) - 1 ∧ Rd .u32 wr bY 0 n (dw V) ∧ Cl wr bY ∧ Same W3 wr) (fun _ p _ => (k - intOf p).toNat)
  case atStart => exact ⟨bm, M, 3, rfl, rfl, by omega, by omega, dvd_pow_le (Nat.min_le_left _ _) (odd_sq M hodd), HX3.out, HC3.out, Chg.refl _ _⟩
  case round =>
    obtain ⟨bY, V, P, rfl, rfl, hP3, hPb, hV, hR, hC, hS⟩ := hrel
    have z1 := cellK hS HZ.out.1 id
    have z0 := cellK hS HZ.out.2 id
    have HV : Hid ((2 : Int) ^ (Nat.min P (32 * n)) ∣ (M : Int) * (V : Int) - 1) := hV
    have HR : Hid (Rd .u32 wr bY 0 n (dw V)) := hR
    have HC : Hid (Cl wr bY) := hC
    have HSS : Hid (Same W3 wr) := hS
    clear hV hR hC hS
    by_cases hPk : P < k
    · go_wp2_with fail
      have z1d : wr.drew.cell? ⟨Z, 1, none⟩ = some (.int .i64 (n : Int)) := z1
      have z0d : wr.drew.cell? ⟨Z, 0, none⟩ = some (.int .i64 (k : Int)) := z0
      have HSd : Hid (Same W3 wr.drew) := HSS.out.drew
      have HRd : Hid (Rd .u32 wr.drew bY 0 n (dw V)) := HR.out.drew
      have hYl : M * V % 256 ^ (4 * n) ≤ 256 ^ (4 * n) := Nat.le_of_lt (Nat.mod_lt _ (pp _))
      go_region_held3 (fun w' => w'.cell? ⟨Z, 0, none⟩ = some (.int .i64 (k : Int)) ∧ w'.cell? ⟨Z, 1, none⟩ = some (.int .i64 (n : Int)))
        (first | exact ⟨cellK hs6 (cellK hs5 (cellK hs4 z0d id) id) id, cellK hs6 (cellK hs5 (cellK hs4 z1d id) id) id⟩ | exact ⟨cellK hs5 (cellK hs4 z0d id) id, cellK hs5 (cellK hs4 z1d id) id⟩ | exact ⟨cellK hs4 z0d id, cellK hs4 z1d id⟩ | exact ⟨z0d, z1d⟩)
        (first
          | (go_at_call 106; refine (btimes_any (k : Int) n bY 0 n B5 0 n V (bmn n 2 (M * V % 256 ^ (4 * n))) _ hn (by omega) ((HRd.out.same hs4).same hs5) hR5 (Nat.le_refl _) (Nat.le_refl _)).mono ?_; rintro e w6 ⟨B6, rfl, -, hR6, hC6, hs6⟩)
          | (go_at_call 103; refine (minus_any (k : Int) n B 0 n B4 0 n 2 (M * V % 256 ^ (4 * n)) _ hn (by omega) ((H2.out.same HSd.out).same hs4) hR4 (Nat.le_refl _) (Nat.le_refl _) hYl).mono ?_; rintro e w5 ⟨B5, rfl, -, hR5, hC5, hs5⟩)
          | (go_at_call 106; refine (btimes_any (k : Int) n bm 0 n bY 0 n M V _ hn (by omega) (HX3.out.same HSd.out) HRd.out (Nat.le_refl _) (Nat.le_refl _)).mono ?_; rintro e w4 ⟨B4, rfl, -, hR4, hC4, hs4⟩))
      obtain ⟨V', HV'⟩ : ∃ V', Hid (V' = V * bmn n 2 (M * V % 256 ^ (4 * n)) % 256 ^ (4 * n)) := ⟨_, rfl⟩
      rw [← HV'.out] at hR6
      have hS6 := ((HSd.out.trans hs4).trans hs5).trans hs6
      clear hR4 hR5 hC4 hC5 hs4 hs5 hs6 z0 z1 z0d z1d hYl
      go_wp2_with fail
      go_roundw
      case rel => exact ⟨B6, V', P * 2, rfl, by go_num, by omega, by omega, newton_b n M V V' _ _ HV.out (Nat.min_le_right _ _) (min_twice P (32 * n)) HV'.out, hR6, hC6, hS6⟩
      case measure => simp [intOf]; omega
    · go_wp2_with fail
      go_ret
      exact ⟨bY, V, rfl, dvd_pow_le (Nat.le_min.2 ⟨by omega, HKn.out⟩) HV.out, HR.out, HC.out, HS2.out.trans HSS.out⟩
end Go.Proofs.Ygctaj.Nt
