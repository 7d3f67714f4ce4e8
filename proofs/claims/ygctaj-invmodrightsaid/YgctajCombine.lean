/- nlong.combine: plain, and walked. -/
import Derived.Test.YgctajCofactors
import Derived.Test.YgctajWords
namespace Go.Proofs.Ygctaj.Nt
open Go.RowKit Mem
set_option linter.unusedVariables false

/-- a*x + b*y of the lowest i words. -/
def pw (a b : Int) (x y i : Nat) : Int := a * ((x % 256 ^ (4 * i) : Nat) : Int) + b * ((y % 256 ^ (4 * i) : Nat) : Int)
/-- what is carried into word i. -/
def ovr (a b : Int) (x y i : Nat) : Int := pw a b x y i / ((256 ^ (4 * i) : Nat) : Int)

theorem pI (n : Nat) : (0 : Int) < ((256 ^ n : Nat) : Int) := Int.ofNat_lt.2 (pp n)
theorem powI (i : Nat) : ((256 ^ (4 * (i + 1)) : Nat) : Int) = ((256 ^ (4 * i) : Nat) : Int) * 4294967296 := by
  rw [show 4 * (i + 1) = 4 * i + 4 from by omega, Nat.pow_add]; exact Int.natCast_mul _ _
theorem low_succ (x i : Nat) : x % 256 ^ (4 * (i + 1)) = x % 256 ^ (4 * i) + 256 ^ (4 * i) * dw x i := by
  unfold dw
  rw [show 256 ^ (4 * (i + 1)) = 256 ^ (4 * i) * 4294967296 from by rw [show 4 * (i + 1) = 4 * i + 4 from by omega, Nat.pow_add], Nat.mod_mul]
theorem ovr_zero (a b : Int) (x y : Nat) : ovr a b x y 0 = 0 := by
  unfold ovr pw
  simp [Nat.mod_one]
theorem pw_succ (a b : Int) (x y i : Nat) : pw a b x y (i + 1) = pw a b x y i + ((256 ^ (4 * i) : Nat) : Int) * (a * (dw x i : Int) + b * (dw y i : Int)) := by
  unfold pw
  rw [low_succ, low_succ]
  generalize x % 256 ^ (4 * i) = p
  generalize y % 256 ^ (4 * i) = q
  generalize dw x i = d
  generalize dw y i = e
  generalize 256 ^ (4 * i) = B
  push_cast
  grind
theorem sum_eq (a b : Int) (x y i : Nat) : a * (dw x i : Int) + b * (dw y i : Int) + ovr a b x y i = pw a b x y (i + 1) / ((256 ^ (4 * i) : Nat) : Int) := by
  rw [pw_succ]
  unfold ovr
  have h := pI (4 * i)
  generalize ((256 ^ (4 * i) : Nat) : Int) = B at *
  rw [Int.add_mul_ediv_left _ _ (by omega)]
  omega
theorem ovr_succ' (a b : Int) (x y i : Nat) : pw a b x y (i + 1) / ((256 ^ (4 * i) : Nat) : Int) / 4294967296 = ovr a b x y (i + 1) := by
  unfold ovr
  rw [Int.ediv_ediv_of_nonneg (Int.le_of_lt (pI _)), powI]
theorem dw_comb (a b : Int) (x y X i : Nat) (hX : (X : Int) = a * x + b * y) : pw a b x y (i + 1) / ((256 ^ (4 * i) : Nat) : Int) % 4294967296 = ((dw X i : Nat) : Int) := by
  have e : (X : Int) = pw a b x y (i + 1) + ((256 ^ (4 * (i + 1)) : Nat) : Int) * (a * ((x / 256 ^ (4 * (i + 1)) : Nat) : Int) + b * ((y / 256 ^ (4 * (i + 1)) : Nat) : Int)) := by
    have h1 := Nat.mod_add_div x (256 ^ (4 * (i + 1)))
    have h2 := Nat.mod_add_div y (256 ^ (4 * (i + 1)))
    unfold pw
    rw [hX]
    generalize x % 256 ^ (4 * (i + 1)) = xl at *
    generalize x / 256 ^ (4 * (i + 1)) = xh at *
    generalize y % 256 ^ (4 * (i + 1)) = yl at *
    generalize y / 256 ^ (4 * (i + 1)) = yh at *
    generalize 256 ^ (4 * (i + 1)) = B at *
    rw [← h1, ← h2]
    push_cast
    grind
  have e2 := powI i
  have e3 : ((dw X i : Nat) : Int) = (X : Int) / ((256 ^ (4 * i) : Nat) : Int) % 4294967296 := rfl
  rw [e3, e, e2]
  generalize a * ((x / 256 ^ (4 * (i + 1)) : Nat) : Int) + b * ((y / 256 ^ (4 * (i + 1)) : Nat) : Int) = K
  have h := pI (4 * i)
  generalize ((256 ^ (4 * i) : Nat) : Int) = B at *
  rw [Int.mul_assoc, Int.add_mul_ediv_left _ _ (by omega)]
  omega
theorem ovr_bound (a b : Int) (x y i : Nat) (la : -2147483648 < a ∧ a < 2147483648) (lb : -2147483648 < b ∧ b < 2147483648) (sg : (0 ≤ a ∧ b ≤ 0) ∨ (a ≤ 0 ∧ 0 ≤ b)) : -2147483648 ≤ ovr a b x y i ∧ ovr a b x y i < 2147483648 := by
  unfold ovr pw
  have h := pI (4 * i)
  have h1 : ((x % 256 ^ (4 * i) : Nat) : Int) < ((256 ^ (4 * i) : Nat) : Int) := Int.ofNat_lt.2 (Nat.mod_lt _ (pp _))
  have h2 : ((y % 256 ^ (4 * i) : Nat) : Int) < ((256 ^ (4 * i) : Nat) : Int) := Int.ofNat_lt.2 (Nat.mod_lt _ (pp _))
  have h3 : (0 : Int) ≤ ((x % 256 ^ (4 * i) : Nat) : Int) := Int.natCast_nonneg _
  have h4 : (0 : Int) ≤ ((y % 256 ^ (4 * i) : Nat) : Int) := Int.natCast_nonneg _
  generalize ((x % 256 ^ (4 * i) : Nat) : Int) = p at *
  generalize ((y % 256 ^ (4 * i) : Nat) : Int) = q at *
  generalize ((256 ^ (4 * i) : Nat) : Int) = B at *
  have up : ∀ c z : Int, 0 ≤ c → c < 2147483648 → 0 ≤ z → z < B → 0 ≤ c * z ∧ c * z ≤ 2147483647 * B := by
    intro c z c0 c1 z0 z1
    refine ⟨Int.mul_nonneg c0 z0, ?_⟩
    have g1 := Int.mul_le_mul_of_nonneg_right (show c ≤ 2147483647 by omega) z0
    omega
  have dn : ∀ c z : Int, c ≤ 0 → -2147483648 < c → 0 ≤ z → z < B → c * z ≤ 0 ∧ -(2147483647 * B) ≤ c * z := by
    intro c z c0 c1 z0 z1
    have := up (-c) z (by omega) (by omega) z0 z1
    rw [Int.neg_mul] at this
    omega
  have key : -(2147483647 * B) ≤ a * p + b * q ∧ a * p + b * q ≤ 2147483647 * B := by
    rcases sg with ⟨s1, s2⟩ | ⟨s1, s2⟩
    · have := up a p s1 la.2 h3 h1
      have := dn b q s2 lb.1 h4 h2
      omega
    · have := dn a p s1 la.1 h3 h1
      have := up b q s2 lb.2 h4 h2
      omega
  refine ⟨(Int.le_ediv_iff_mul_le h).2 (by omega), Int.ediv_lt_of_lt_mul h (by omega)⟩
theorem prod_bound (a : Int) (d : Nat) (hd : d < 4294967296) (la : -2147483648 < a ∧ a < 2147483648) : -9223372030412324865 ≤ a * (d : Int) ∧ a * (d : Int) ≤ 9223372030412324865 := by
  have h0 : (0 : Int) ≤ (d : Int) := by omega
  have h1 := Int.mul_le_mul_of_nonneg_right (show a ≤ 2147483647 by omega) h0
  have h2 := Int.mul_le_mul_of_nonneg_right (show -2147483647 ≤ a by omega) h0
  omega

theorem sign_prod (a b p q : Int) (sg : (0 ≤ a ∧ b ≤ 0) ∨ (a ≤ 0 ∧ 0 ≤ b)) (hp : 0 ≤ p) (hq : 0 ≤ q) : (0 ≤ a * p ∧ b * q ≤ 0) ∨ (a * p ≤ 0 ∧ 0 ≤ b * q) := by
  rcases sg with ⟨h1, h2⟩ | ⟨h1, h2⟩
  · exact .inl ⟨Int.mul_nonneg h1 hp, Int.mul_nonpos_of_nonpos_of_nonneg h2 hq⟩
  · exact .inr ⟨Int.mul_nonpos_of_nonpos_of_nonneg h1 hp, Int.mul_nonneg h2 hq⟩

set_option maxRecDepth 20000 in
set_option maxHeartbeats 400000 in
theorem wordAt_raw (a : Option Addr) (n cap i : Nat) (D : Int) (w : World) (hn : n ≤ 100000) (hi : i ≤ 1000000) (h1 : i < n → ∃ b off, a = some ⟨b, off, none⟩ ∧ w.cell? ⟨b, off + i, none⟩ = some (.int .u32 D)) (h2 : n ≤ i → D = 0) :
    Calls Tajg.prog 98 #[.slice a n cap, .int .i64 (i : Int)] w fun e w' => e = .returned (.int .u32 D) ∧ w' = w := by
  by_cases h : i < n
  · obtain ⟨b, off, rfl, c1⟩ := h1 h
    clear h1 h2
    go_enter Tajg.func98, Tajg.ntmps98
    go_wp2_with fail
    go_ret
    exact ⟨rfl, rfl⟩
  · obtain rfl := h2 (by omega)
    clear h1 h2
    go_enter Tajg.func98, Tajg.ntmps98
    go_wp2_with fail
    go_ret
    exact ⟨rfl, rfl⟩

set_option maxRecDepth 100000 in
set_option maxHeartbeats 4000000 in
theorem combine_any (bx ox nx cx bY oy ny cy x y X Y : Nat) (a b c d : Int) (w : World) (hnx : nx ≤ 80000) (hny : ny ≤ nx) (hcx : nx ≤ cx) (hcy : ny ≤ cy) (hne : bx ≠ bY)
    (hRx : Rd .u32 w bx ox nx (dw x)) (hCx : Cl w bx) (hRy : Rd .u32 w bY oy ny (dw y)) (hCy : Cl w bY) (hbx : bx < w.heap.size) (hbY : bY < w.heap.size) (hyl : y < 256 ^ (4 * ny))
    (la : -2147483648 < a ∧ a < 2147483648) (lb : -2147483648 < b ∧ b < 2147483648) (lc : -2147483648 < c ∧ c < 2147483648) (ld : -2147483648 < d ∧ d < 2147483648)
    (sg1 : (0 ≤ a ∧ b ≤ 0) ∨ (a ≤ 0 ∧ 0 ≤ b)) (sg2 : (0 ≤ c ∧ d ≤ 0) ∨ (c ≤ 0 ∧ 0 ≤ d)) (hX : (X : Int) = a * x + b * y) (hY : (Y : Int) = c * x + d * y) :
    Calls Tajg.prog 62 #[.slice (some ⟨bx, ox, none⟩) nx cx, .slice (some ⟨bY, oy, none⟩) ny cy, .agg #[.int .i64 a, .int .i64 b, .int .i64 c, .int .i64 d]] w fun e w' => (∃ v, e = .returned v) ∧ Rd .u32 w' bx ox nx (dw X) ∧ Rd .u32 w' bY oy ny (dw Y) ∧ Cl w' bx ∧ Cl w' bY ∧ Chg (fun q _ => q = bx ∨ q = bY) w w' := by
  have HX : Hid ((X : Int) = a * x + b * y) := hX
  have HY : Hid ((Y : Int) = c * x + d * y) := hY
  have HA : Hid (-2147483648 < a ∧ a < 2147483648) := la
  have HB : Hid (-2147483648 < b ∧ b < 2147483648) := lb
  have HC : Hid (-2147483648 < c ∧ c < 2147483648) := lc
  have HD : Hid (-2147483648 < d ∧ d < 2147483648) := ld
  have HS1 : Hid ((0 ≤ a ∧ b ≤ 0) ∨ (a ≤ 0 ∧ 0 ≤ b)) := sg1
  have HS2 : Hid ((0 ≤ c ∧ d ≤ 0) ∨ (c ≤ 0 ∧ 0 ≤ d)) := sg2
  have HYl : Hid (y < 256 ^ (4 * ny)) := hyl
  have HRx : Hid (Rd .u32 w bx ox nx (dw x) ∧ Cl w bx ∧ Rd .u32 w bY oy ny (dw y) ∧ Cl w bY) := ⟨hRx, hCx, hRy, hCy⟩
  clear hX hY sg1 sg2 hyl la lb lc ld hRx hCx hRy hCy
  go_enter Tajg.func62, Tajg.ntmps62
  go_wp2_with fail
  have hM0 : F4 (w.alloc (Obj.cells #[Value.int IntKind.i64 a, Value.int IntKind.i64 b, Value.int IntKind.i64 c, Value.int IntKind.i64 d] 83)) w.heap.size a b c d := by
    refine ⟨fun o => by rw [World.frozen?_alloc_new], ?_, ?_, ?_, ?_⟩ <;> (rw [World.cell?_alloc_new]; rfl)
  have hal : Same w (w.alloc (Obj.cells #[Value.int IntKind.i64 a, Value.int IntKind.i64 b, Value.int IntKind.i64 c, Value.int IntKind.i64 d] 83)) := (Chg.refl _ _).alloc _
  have h1 := HRx.out.1.same hal
  have h2 := HRx.out.2.1.kept hal hbx
  have h3 := HRx.out.2.2.1.same hal
  have h4 := HRx.out.2.2.2.kept hal hbY
  have hCg : Chg (fun q _ => q = bx ∨ q = bY) w (w.alloc (Obj.cells #[Value.int IntKind.i64 a, Value.int IntKind.i64 b, Value.int IntKind.i64 c, Value.int IntKind.i64 d] 83)) := Same.chg hal
  obtain ⟨Z, hZe⟩ : ∃ Z, Z = w.heap.size := ⟨_, rfl⟩
  rw [← hZe] at hM0 ⊢
  have hZx : Z ≠ bx := by omega
  have hZy : Z ≠ bY := by omega
  clear hZe hal HRx
  generalize World.alloc w _ = W1 at *
  go_loopw [6, 7, 8] (fun o u i wr => ∃ j : Nat, j ≤ nx ∧ o = .int .i64 (ovr a b x y j) ∧ u = .int .i64 (ovr c d x y j) ∧ i = .int .i64 (j : Int) ∧ Rd .u32 wr bx ox nx (mix j (dw X) (dw x)) ∧ Cl wr bx ∧ Rd .u32 wr bY oy ny (mix j (dw Y) (dw y)) ∧ Cl wr bY ∧ F4 wr Z a b c d ∧ Chg (fun q _ => q = bx ∨ q = bY) w wr) (fun _ _ i _ => (nx - intOf i).toNat)
  case atStart => exact ⟨0, by omega, by rw [ovr_zero], by rw [ovr_zero], rfl, h1.start _, h2, h3.start _, h4, hM0, hCg⟩
  case round =>
    clear h1 h2 h3 h4 hM0 hCg
    obtain ⟨i, hi, rfl, rfl, rfl, hRx, hCx, hRy, hCy, hM, hCg⟩ := hrel
    by_cases hin : i = nx
    · subst hin
      have hx' := hRx.done (Nat.le_refl _)
      have hy' := hRy.done hny
      clear hRx hRy hM
      go_wp2_with fail
      go_end0
      exact ⟨⟨_, rfl⟩, hx', hy', hCx, hCy, hCg⟩
    · have hlt : i < nx := by omega
      have cx1 := hRx.at hlt
      have fx1 := hCx (ox + i)
      have fy1 := hCy (oy + i)
      obtain ⟨-, m0, m1, m2, m3⟩ := id hM
      have hcy1 : i < ny → wr.cell? ⟨bY, oy + i, none⟩ = some (.int .u32 ((dw y i : Nat) : Int)) := fun h => hRy.at h
      have hy0 : ny ≤ i → ((dw y i : Nat) : Int) = 0 := fun h => by rw [dw_above y i ny HYl.out h]; rfl
      have HBo1 := ovr_bound a b x y i HA.out HB.out HS1.out
      have HBo2 := ovr_bound c d x y i HC.out HD.out HS2.out
      have hs1 := sum_eq a b x y i
      have hs2 := sum_eq c d x y i
      have hv1 := ovr_succ' a b x y i
      have hv2 := ovr_succ' c d x y i
      have hd1 := dw_comb a b x y X i HX.out
      have hd2 := dw_comb c d x y Y i HY.out
      have hpa := prod_bound a (dw x i) (dw_lt x i) HA.out
      have hpb := prod_bound b (dw y i) (dw_lt y i) HB.out
      have hpc := prod_bound c (dw x i) (dw_lt x i) HC.out
      have hpd := prod_bound d (dw y i) (dw_lt y i) HD.out
      have x0 : (0 : Int) ≤ ((dw x i : Nat) : Int) := Int.natCast_nonneg _
      have x1 : ((dw x i : Nat) : Int) < 4294967296 := Int.ofNat_lt.2 (dw_lt x i)
      have y0 : (0 : Int) ≤ ((dw y i : Nat) : Int) := Int.natCast_nonneg _
      have y1 : ((dw y i : Nat) : Int) < 4294967296 := Int.ofNat_lt.2 (dw_lt y i)
      have hsg1 := sign_prod a b _ _ HS1.out x0 y0
      have hsg2 := sign_prod c d _ _ HS2.out x0 y0
      obtain ⟨XI, HXI⟩ : ∃ XI : Int, Hid (XI = ((dw x i : Nat) : Int)) := ⟨_, rfl⟩
      obtain ⟨YI, HYI⟩ : ∃ YI : Int, Hid (YI = ((dw y i : Nat) : Int)) := ⟨_, rfl⟩
      rw [← HXI.out] at cx1 hs1 hs2 hpa hpc x0 x1 hsg1 hsg2
      rw [← HYI.out] at hcy1 hy0 hs1 hs2 hpb hpd y0 y1 hsg1 hsg2
      obtain ⟨AX, HAX⟩ : ∃ AX, Hid (a * XI = AX) := ⟨_, rfl⟩
      obtain ⟨BY, HBY⟩ : ∃ BY, Hid (b * YI = BY) := ⟨_, rfl⟩
      obtain ⟨CX, HCX⟩ : ∃ CX, Hid (c * XI = CX) := ⟨_, rfl⟩
      obtain ⟨DY, HDY⟩ : ∃ DY, Hid (d * YI = DY) := ⟨_, rfl⟩
      have eax := HAX.out
      have eby := HBY.out
      have ecx := HCX.out
      have edy := HDY.out
      rw [eax] at hs1 hpa hsg1
      rw [eby] at hs1 hpb hsg1
      rw [ecx] at hs2 hpc hsg2
      rw [edy] at hs2 hpd hsg2
      generalize pw a b x y (i + 1) / ((256 ^ (4 * i) : Nat) : Int) = S at *
      generalize pw c d x y (i + 1) / ((256 ^ (4 * i) : Nat) : Int) = T at *
      obtain ⟨O1, HO1⟩ : ∃ O1, Hid (ovr a b x y (i + 1) = O1) := ⟨_, rfl⟩
      obtain ⟨O2, HO2⟩ : ∃ O2, Hid (ovr c d x y (i + 1) = O2) := ⟨_, rfl⟩
      rw [HO1.out] at hv1
      rw [HO2.out] at hv2
      generalize ovr a b x y i = V1 at *
      generalize ovr c d x y i = V2 at *
      obtain ⟨SM, HSM⟩ : ∃ SM, Hid (AX + BY = SM) := ⟨_, rfl⟩
      obtain ⟨TM, HTM⟩ : ∃ TM, Hid (CX + DY = TM) := ⟨_, rfl⟩
      have esm := HSM.out
      have etm := HTM.out
      rw [esm] at hs1
      rw [etm] at hs2
      have bsm : -9223372030412324865 ≤ SM ∧ SM ≤ 9223372030412324865 := by omega
      have btm : -9223372030412324865 ≤ TM ∧ TM ≤ 9223372030412324865 := by omega
      have bS : -9223372036854775808 ≤ S ∧ S ≤ 9223372036854775807 := by omega
      have bT : -9223372036854775808 ≤ T ∧ T ≤ 9223372036854775807 := by omega
      obtain ⟨XN, HXN⟩ : ∃ XN : Int, Hid (((dw X i : Nat) : Int) = XN) := ⟨_, rfl⟩
      obtain ⟨YN, HYN⟩ : ∃ YN : Int, Hid (((dw Y i : Nat) : Int) = YN) := ⟨_, rfl⟩
      rw [HXN.out] at hd1
      rw [HYN.out] at hd2
      obtain ⟨bsm1, bsm2⟩ := bsm
      obtain ⟨btm1, btm2⟩ := btm
      obtain ⟨bS1, bS2⟩ := bS
      obtain ⟨bT1, bT2⟩ := bT
      obtain ⟨hpa1, hpa2⟩ := hpa
      obtain ⟨hpb1, hpb2⟩ := hpb
      obtain ⟨hpc1, hpc2⟩ := hpc
      obtain ⟨hpd1, hpd2⟩ := hpd
      obtain ⟨HBo11, HBo12⟩ := HBo1
      obtain ⟨HBo21, HBo22⟩ := HBo2
      have la1 := HA.out.1
      have la2 := HA.out.2
      have lb1 := HB.out.1
      have lb2 := HB.out.2
      have lc1 := HC.out.1
      have lc2 := HC.out.2
      have ld1 := HD.out.1
      have ld2 := HD.out.2
      clear hsg1 hsg2
      have hcyd : i < ny → wr.drew.cell? ⟨bY, oy + i, none⟩ = some (.int .u32 YI) := hcy1
      have cxd : wr.drew.cell? ⟨bx, ox + i, none⟩ = some (.int .u32 XI) := cx1
      go_wp2_with fail
      go_region_held3 (fun w' => w'.cell? ⟨bx, ox + i, none⟩ = some (.int .u32 XI)) (exact cxd)
        (first | (go_at_call 98; refine (wordAt_raw _ ny cy i YI _ (by omega) (by omega) (fun h => ⟨bY, oy, rfl, hcyd h⟩) hy0).mono ?_; rintro e w2 ⟨rfl, rfl⟩))
      have hRx' : Rd .u32 wr.drew bx ox nx (mix i (dw X) (dw x)) := hRx
      have hRy' : Rd .u32 wr.drew bY oy ny (mix i (dw Y) (dw y)) := hRy
      have hCx' : Cl wr.drew bx := hCx
      have hCy' : Cl wr.drew bY := hCy
      have hM' : F4 wr.drew Z a b c d := hM
      have hCg' := hCg.drew
      change wr.drew.cell? _ = _ at m0
      change wr.drew.cell? _ = _ at m1
      change wr.drew.cell? _ = _ at m2
      change wr.drew.cell? _ = _ at m3
      change wr.drew.frozen? _ = _ at fx1
      change wr.drew.frozen? _ = _ at fy1
      clear hRx hRy hCx hCy hM hCg cx1 hcy1
      generalize wr.drew = wd at *
      have HStep : Hid (∀ W, W = wd.setCell ⟨bx, ox + i, none⟩ (.int .u32 XN) → Rd .u32 W bx ox nx (mix (i + 1) (dw X) (dw x)) ∧ Cl W bx ∧ Rd .u32 W bY oy ny (mix i (dw Y) (dw y)) ∧ Cl W bY ∧ F4 W Z a b c d ∧ Chg (fun q _ => q = bx ∨ q = bY) w W) := by
        rintro W rfl
        refine ⟨hRx'.step hlt _ HXN.out.symm, hCx'.setCell _ _, hRy'.setOther (fun e => absurd e hne), hCy'.setCell _ _, ?_, hCg'.setCell _ _ _ (fun _ => .inl rfl)⟩
        exact hM'.kept (may := fun q _ => q = bx) ((Chg.refl _ _).setCell bx _ _ (fun _ => rfl)) (fun o e => hZx e)
      have hXN : IntKind.u32.wrap S = XN := by rw [IntKind.wrap_u32]; exact hd1
      have hYN : IntKind.u32.wrap T = YN := by rw [IntKind.wrap_u32]; exact hd2
      by_cases hiy : i < ny
      · have cy1 := hcyd hiy
        have cy2 : (wd.setCell ⟨bx, ox + i, none⟩ (.int .u32 XN)).cell? ⟨bY, oy + i, none⟩ = some (.int .u32 YI) := by
          rw [World.cell?_setCell_other _ _ _ _ (by intro e; injection e with e1 _; exact hne e1)]; exact cy1
        have fy2 : (wd.setCell ⟨bx, ox + i, none⟩ (.int .u32 XN)).frozen? ⟨bY, oy + i, none⟩ = false := by rw [World.frozen?_setCell]; exact fy1
        have mm2 : (wd.setCell ⟨bx, ox + i, none⟩ (.int .u32 XN)).cell? ⟨Z, 2, none⟩ = some (.int .i64 c) := by
          rw [World.cell?_setCell_other _ _ _ _ (by intro e; injection e with e1 _; exact hZx e1.symm)]; exact m2
        have mm3 : (wd.setCell ⟨bx, ox + i, none⟩ (.int .u32 XN)).cell? ⟨Z, 3, none⟩ = some (.int .i64 d) := by
          rw [World.cell?_setCell_other _ _ _ _ (by intro e; injection e with e1 _; exact hZx e1.symm)]; exact m3
        clear hRx' hRy' hCx' hCy' hM' hCg' hcyd
        go_wp2_with fail
        go_roundw
        case rel =>
          obtain ⟨g1, g2, g3, g4, g5, g6⟩ := HStep.out _ rfl
          refine ⟨i + 1, by omega, by rw [HO1.out], by rw [HO2.out], by go_num, g1.setOther (fun e => absurd e.symm hne), g2.setCell _ _, g3.step hiy _ HYN.out.symm, g4.setCell _ _, ?_, g6.setCell _ _ _ (fun _ => .inr rfl)⟩
          exact g5.kept (may := fun q _ => q = bY) ((Chg.refl _ _).setCell bY _ _ (fun _ => rfl)) (fun o e => hZy e)
        case measure => simp [intOf]; omega
      · clear hRx' hRy' hCx' hCy' hM' hCg' hcyd
        go_wp2_with fail
        go_roundw
        case rel =>
          obtain ⟨g1, g2, g3, g4, g5, g6⟩ := HStep.out _ rfl
          refine ⟨i + 1, by omega, by rw [HO1.out], by rw [HO2.out], by go_num, g1, g2, ?_, g4, g5, g6⟩
          exact g3.congr fun t ht => by rw [mix_lt _ _ (by omega), mix_lt _ _ (by omega)]
        case measure => simp [intOf]; omega
end Go.Proofs.Ygctaj.Nt
