/- mlong.convolve's inner loop, walked. -/
import Derived.Test.YgctajLongPlain
import Derived.Test.YgctajLawConv
import Derived.Deep.RegionHeld3
namespace Go.Proofs.Ygctaj.Long
open Go.RowKit Mem Dft Ntt Nt
set_option linter.unusedVariables false

theorem info23 : (Tajg.prog.info? 23).map (fun i => (i.zero, i.size, i.bytes)) = some (some (.int .u64 0), 1, 8) := by kernel_rfl

theorem run_mk {P : Program} (n : Nat) (k : IntKind) (e bs : Nat) (t : TypeId) (hu : P.underlying t = some (.slice e)) (hi : (P.info? e).map (fun i => (i.zero, i.size, i.bytes)) = some (some (.int k 0), 1, bs))
    (hb : bs * n ≤ 281474976710656) (h63 : n ≤ 9223372036854775807) (w : World) :
    (Instr.makeSlice t (.int .i64 (n : Int)) (.int .i64 (n : Int))).run P w = .ok (.slice (some ⟨w.heap.size, 0, none⟩) n n) (w.alloc (.cells (madeCells #[.int k 0] n) e)) := by
  obtain ⟨i, hi1, hi2⟩ := Option.map_eq_some_iff.1 hi
  simp only [Prod.mk.injEq] at hi2
  obtain ⟨hz, hs, hby⟩ := hi2
  have hr := run_make (P := P) w t e i (.int k 0) hu hi1 hz .i64 .i64 n n (by omega) (Int.le_refl _) (by rw [hby, ← Int.natCast_mul]; omega) (by omega)
  rw [Int.toNat_natCast, hs, Nat.mul_one] at hr
  exact hr
theorem made_rd (k : IntKind) (n e : Nat) (w : World) : Rd k (w.alloc (.cells (madeCells #[.int k 0] n) e)) w.heap.size 0 n (fun _ => 0) := by
  intro j hj
  rw [Nat.zero_add, World.cell?_alloc_new]
  exact madeCells_int k n j hj
theorem made_wr (k : IntKind) (n e : Nat) (w : World) : Wr (w.alloc (.cells (madeCells #[.int k 0] n) e)) w.heap.size 0 n := by
  intro j hj
  rw [World.frozen?_alloc_new]

/-- the three new rows, and the old world kept. -/
def St (w wr : World) (C Bs Bk L n : Nat) (c : Nat → Nat) : Prop :=
  Rd .i64 wr C 0 L c ∧ Wr wr C 0 L ∧ (∃ S, Rd .u64 wr Bs 0 n S) ∧ Wr wr Bs 0 n ∧ (∃ b, Rd .u32 wr Bk 0 n b) ∧ Wr wr Bk 0 n ∧ Same w wr

/-- bounds, plain. -/
theorem bnd0 (c a b : Nat) (h : c ≤ a * 998244353) : c ≤ (a + b) * 998244353 := Nat.le_trans h (Nat.mul_le_mul_right _ (Nat.le_add_right _ _))
theorem bnd1 (c a i e r : Nat) (h : c ≤ (a + i) * 998244353) (hr : r < 998244353) (hi : i < e) : c + r ≤ (a + e) * 998244353 := by
  have h1 : (a + i + 1) * 998244353 ≤ (a + e) * 998244353 := Nat.mul_le_mul_right _ (by omega)
  refine Nat.le_trans ?_ h1
  rw [Nat.add_mul, Nat.one_mul]
  exact Nat.add_le_add h (Nat.le_of_lt hr)
theorem bnd2 (c a i e : Nat) (h : c ≤ (a + i) * 998244353) (hi : i < e) : c ≤ (a + e) * 998244353 := Nat.le_trans h (Nat.mul_le_mul_right _ (by omega))
theorem bnd3 (c m nx i : Nat) (h : c ≤ (m * nx + i) * 998244353) (hm : m ≤ 1023) (hx : nx ≤ 512) (hi : i ≤ 512) : c ≤ 9007199254740992 := by
  have h2 : m * nx ≤ 1023 * 512 := Nat.mul_le_mul hm hx
  exact Nat.le_trans h (Nat.le_trans (Nat.mul_le_mul_right _ (show m * nx + i ≤ 524288 by omega)) (by decide))

def firstLoop : Code → Option Code
  | .loop c => some c
  | .seq a b => match firstLoop a with
    | some c => some c
    | none => firstLoop b
  | .block _ c => firstLoop c
  | .scope c => firstLoop c
  | .cond _ a b => match firstLoop a with
    | some c => some c
    | none => firstLoop b
  | _ => none
noncomputable def inBody : Code := (((Tajg.f92.body.bind firstLoop).bind firstLoop).getD .skip)

set_option maxRecDepth 1000000 in
set_option maxHeartbeats 4000000 in
theorem inner (Bx By s n k nx ny lx ly L M N C Bs Bk m q lo hi : Nat) (X Y c0 : Nat → Nat) (w wr : World) (Q0 : Exit → Act → World → Prop) (c3 c4 c5 c6 c8 c9 c14 c18 c19 c20 c21 c22 c23 c24 c25 c26 c27 c28 c29 c30 c31 c32 c33 c34 c35 c36 c37 c38 c39 c40 c41 c42 c43 c44 c45 c46 c47 c48 c49 c50 c51 c52 c53 c54 c55 c56 c57 c58 c59 c60 c97 : Value) (u16 u17 u61 u62 u63 u64 u65 u66 u67 u68 u69 u70 u71 u72 u73 u74 u75 u76 u77 u78 u79 u80 u81 u82 u83 u84 u85 u86 u87 u88 u89 u90 u91 u92 u93 u94 u95 u96 : Value)
    (hk : k ≤ 10) (HNK : Hid (n = 2 ^ k)) (HNS : Hid (n = 2 * s)) (hn0 : 0 < n) (hn2 : n ≤ 1024) (hsl : s ≤ 512) (hx2 : nx ≤ 512) (hy2 : ny ≤ 512) (hlxl : lx ≤ 524288) (hlyl : ly ≤ 524288) (hLl : L ≤ 524288) (HLX : Hid (nx * n = lx)) (HLY : Hid (ny * n = ly))
    (hX : Rd .u32 w Bx 0 lx X) (hY : Rd .u32 w By 0 ly Y) (HTX : Hid (∀ t, t < nx → Tr X M s n k t)) (HTY : Hid (∀ t, t < ny → Tr Y N s n k t)) (hBx : Bx < w.heap.size) (hBy : By < w.heap.size)
    (hCw : w.heap.size ≤ C) (hBsw : w.heap.size ≤ Bs) (hBkw : w.heap.size ≤ Bk) (hCs : C ≠ Bs) (hCk : C ≠ Bk) (hsk : Bs ≠ Bk)
    (hm : m ≤ 1023) (HMQ : Hid (m * s = q)) (hqn : q + n ≤ L)
    (HP1 : Hid (∀ i, lo ≤ i → i < hi → i ≤ m ∧ m < i + ny)) (HP2 : Hid (∀ i, i < lo → ¬ (i ≤ m ∧ m < i + ny))) (hhx : hi ≤ nx) (hlh : lo ≤ hi)
    (hu16 : u16 = .int .i64 (lo : Int)) (hSt : St w wr C Bs Bk L n c0) (HV : Hid (val c0 L = vb (256 ^ s) (cvN (bv M s) (bv N s) ny nx) m)) (HB : Hid (∀ l, l < L → c0 l ≤ m * nx * 998244353))
    (hexit : ∀ (u16 u17 u61 u62 u63 u64 u65 u66 u67 u68 u69 u70 u71 u72 u73 u74 u75 u76 u77 u78 u79 u80 u81 u82 u83 u84 u85 u86 u87 u88 u89 u90 u91 u92 u93 u94 u95 u96 : Value) (wx : World) (c : Nat → Nat), St w wx C Bs Bk L n c → val c L = vb (256 ^ s) (cvN (bv M s) (bv N s) ny nx) m + 256 ^ q * cvN (bv M s) (bv N s) ny hi m → (∀ l, l < L → c l ≤ (m * nx + hi) * 998244353) → Q0 (.exit 2) ⟨List.toArray (.slice (some ⟨Bx, 0, none⟩) lx lx :: .slice (some ⟨By, 0, none⟩) ly ly :: .int .i64 (s : Int) :: c3 :: c4 :: c5 :: c6 :: .int .i64 (n : Int) :: c8 :: c9 :: .slice (some ⟨C, 0, none⟩) L L :: .slice (some ⟨Bs, 0, none⟩) n n :: .slice (some ⟨Bk, 0, none⟩) n n :: .int .i64 (m : Int) :: c14 :: .int .i64 (hi : Int) :: u16 :: u17 :: c18 :: c19 :: c20 :: c21 :: c22 :: c23 :: c24 :: c25 :: c26 :: c27 :: c28 :: c29 :: c30 :: c31 :: c32 :: c33 :: c34 :: c35 :: c36 :: c37 :: c38 :: c39 :: c40 :: c41 :: c42 :: c43 :: c44 :: c45 :: c46 :: c47 :: c48 :: c49 :: c50 :: c51 :: c52 :: c53 :: c54 :: c55 :: c56 :: c57 :: c58 :: c59 :: c60 :: u61 :: u62 :: u63 :: u64 :: u65 :: u66 :: u67 :: u68 :: u69 :: u70 :: u71 :: u72 :: u73 :: u74 :: u75 :: u76 :: u77 :: u78 :: u79 :: u80 :: u81 :: u82 :: u83 :: u84 :: u85 :: u86 :: u87 :: u88 :: u89 :: u90 :: u91 :: u92 :: u93 :: u94 :: u95 :: u96 :: c97 :: []), []⟩ wx) :
    Code.wp Tajg.prog (Code.loop inBody) Q0 ⟨List.toArray (.slice (some ⟨Bx, 0, none⟩) lx lx :: .slice (some ⟨By, 0, none⟩) ly ly :: .int .i64 (s : Int) :: c3 :: c4 :: c5 :: c6 :: .int .i64 (n : Int) :: c8 :: c9 :: .slice (some ⟨C, 0, none⟩) L L :: .slice (some ⟨Bs, 0, none⟩) n n :: .slice (some ⟨Bk, 0, none⟩) n n :: .int .i64 (m : Int) :: c14 :: .int .i64 (hi : Int) :: u16 :: u17 :: c18 :: c19 :: c20 :: c21 :: c22 :: c23 :: c24 :: c25 :: c26 :: c27 :: c28 :: c29 :: c30 :: c31 :: c32 :: c33 :: c34 :: c35 :: c36 :: c37 :: c38 :: c39 :: c40 :: c41 :: c42 :: c43 :: c44 :: c45 :: c46 :: c47 :: c48 :: c49 :: c50 :: c51 :: c52 :: c53 :: c54 :: c55 :: c56 :: c57 :: c58 :: c59 :: c60 :: u61 :: u62 :: u63 :: u64 :: u65 :: u66 :: u67 :: u68 :: u69 :: u70 :: u71 :: u72 :: u73 :: u74 :: u75 :: u76 :: u77 :: u78 :: u79 :: u80 :: u81 :: u82 :: u83 :: u84 :: u85 :: u86 :: u87 :: u88 :: u89 :: u90 :: u91 :: u92 :: u93 :: u94 :: u95 :: u96 :: c97 :: []), []⟩ wr := by
  have hqI : (m : Int) * (s : Int) = (q : Int) := by rw [← HMQ.out]; simp
  conv => arg 2; arg 1; whnf
  subst hu16
  go_loopw [16] (fun i wr => ∃ (i' : Nat) (c : Nat → Nat), lo ≤ i' ∧ i' ≤ hi + 29 ∧ i = .int .i64 i' ∧ St w wr C Bs Bk L n c ∧ Hid (val c L = vb (256 ^ s) (cvN (bv M s) (bv N s) ny nx) m + 256 ^ q * cvN (bv M s) (bv N s) ny (min i' hi) m) ∧ Hid (∀ l, l < L → c l ≤ (m * nx + min i' hi) * 998244353)) (fun i _ => hi + 29 - (intOf i).toNat)
  case atStart =>
    refine ⟨lo, c0, Nat.le_refl _, by omega, rfl, hSt, ?_, ?_⟩
    · show _ = _
      rw [show min lo hi = lo from by omega, cvN_low _ _ _ _ lo HP2.out, Nat.mul_zero, Nat.add_zero]; exact HV.out
    · intro l hl
      exact bnd0 _ _ _ (HB.out l hl)
  case round =>
    clear hSt HV HB
    obtain ⟨i, c, hil, hih, rfl, hSt, HV, HB⟩ := hrel
    by_cases hlt2 : i < hi
    · obtain ⟨j, hj⟩ : ∃ j, j = i + 29 := ⟨_, rfl⟩
      have r29 : (i : Int) + 29 = (j : Int) := by omega
      have HJ : Hid (j = i + 29) := hj
      clear hj hexit
      have HCB : Hid (∀ l, l < L → c l ≤ 9007199254740992) := by
        intro l hl
        exact bnd3 _ _ _ _ (HB.out l hl) hm hx2 (by omega)
      by_cases hjh : hi < j
      · obtain ⟨hRC, hWC, ⟨S, hRs⟩, hWs, ⟨b, hRk⟩, hWk, hS⟩ := hSt
        have hwz := hS.size
        have hEn : i < hi ∧ hi ≤ hi ∧ hi ≤ i + 29 ∧ min j hi = hi := by have := HJ.out; omega
        have h1 : hi * n ≤ lx := by rw [← HLX.out]; exact Nat.mul_le_mul_right _ (by omega)
        have hP := HP1.out (hi - 1) (by omega) (by omega)
        have hP0 := HP1.out i hil hlt2
        have h2 : (m - i + 1) * n ≤ ly := by rw [← HLY.out]; exact Nat.mul_le_mul_right _ (by omega)
        have HX1 : Hid (∀ l, l < lx → X l < 998244353) := by
          intro l hl
          have h3 : l / n < nx := by rw [Nat.div_lt_iff_lt_mul hn0, HLX.out]; exact hl
          have := (HTX.out (l / n) h3 (l % n) (Nat.mod_lt _ hn0)).1
          rwa [Nat.mul_comm, Nat.div_add_mod] at this
        have HY1 : Hid (∀ l, l < ly → Y l < 998244353) := by
          intro l hl
          have h3 : l / n < ny := by rw [Nat.div_lt_iff_lt_mul hn0, HLY.out]; exact hl
          have := (HTY.out (l / n) h3 (l % n) (Nat.mod_lt _ hn0)).1
          rwa [Nat.mul_comm, Nat.div_add_mod] at this
        have hXr := hX.same hS
        have hYr := hY.same hS
        have hCl := hRC.lt (by omega)
        have hKl := hRk.lt (by omega)
        have hsl2 := hRs.lt (by omega)
        have HTr : Hid (∀ t, i ≤ t → t < i + (hi - i) → Tr X M s n k t ∧ Tr Y N s n k (m - t)) := by
          intro t ht1 ht2
          have := HP1.out t (by omega) (by omega)
          exact ⟨HTX.out t (by omega), HTY.out (m - t) (by omega)⟩
        have HE : Hid (i < hi ∧ hi ≤ hi ∧ hi ≤ i + 29 ∧ min j hi = hi) := hEn
        have hm1 : hi ≤ m + 1 := by omega
        have hilt := hEn.1
        clear hEn hP hP0
        go_wp2_with fail
        refine (products_any Bs n n Bx 0 lx lx By 0 ly ly i hi m S X Y _ hn0 (by omega) hilt h1 hm1 h2 (Nat.le_refl _) (Nat.le_refl _) (by omega) (by omega) (by omega) hRs hWs hXr hYr HX1.out HY1.out (by omega) (by omega)).mono ?_
        rintro e w5 ⟨rfl, hRs5, hC5⟩
        have hS5 : Same w w5 := hS.trans_new hC5 (fun x o hx h => by omega)
        have hRC5 := hRC.kept hC5 (by omega)
        have hWC5 := hWC.kept hC5 hCl
        have hRk5 := hRk.kept hC5 (by omega)
        have hWk5 := hWk.kept hC5 hKl
        have hWs5 := hWs.kept hC5 hsl2
        have hCl5 := hRC5.lt (by omega)
        have hKl5 := hRk5.lt (by omega)
        have hsl5 := hRs5.lt (by omega)
        clear hRs hWs hXr hYr hC5 hRC hWC hRk hWk hS h1 h2 hCl hKl hsl2
        have hRq := hRC5.sub q n hqn
        have hWq := hWC5.sub q n hqn
        rw [Nat.zero_add] at hRq hWq
        go_wp2_with fail
        refine (addBack_any k n C q n Bk n Bs n (fun l => c (q + l)) b _ _ (by omega) HNK.out (Nat.le_refl _) hRq hWq hRk5 hWk5 hRs5 (fun i _ => Nat.mod_lt _ (by decide)) (fun l hl => HCB.out (q + l) (by omega)) (by omega) (by omega) (by omega)).mono ?_
        rintro e w6 ⟨rfl, r, hr, hRC6, hRk6, hC6⟩
        have hS6 : Same w w6 := hS5.trans_new hC6 (fun x o hx h => by omega)
        have hRs6 := hRs5.kept hC6 (by omega)
        have hWs6 := hWs5.kept hC6 hsl5
        have hWk6 := hWk5.kept hC6 hKl5
        have hWC6 := hWC5.kept hC6 hCl5
        have hRall := hRC5.window (q := q) (n := n) hC6 (fun i hi hw h => by omega) (by rw [Nat.zero_add]; exact hRC6)
        have hRall2 : Rd .i64 w6 C 0 L (fun l => if q ≤ l ∧ l < q + n then c l + r (l - q) else c l) := by
          refine hRall.congr fun l hl => ?_
          by_cases hw : q ≤ l ∧ l < q + n
          · rw [if_pos hw, if_pos hw]
            show c (q + (l - q)) + r (l - q) = _
            rw [show q + (l - q) = l from by omega]
          · rw [if_neg hw, if_neg hw]
        have HSt : Hid (St w w6 C Bs Bk L n (fun l => if q ≤ l ∧ l < q + n then c l + r (l - q) else c l)) :=
          ⟨hRall2, hWC6, ⟨_, hRs6⟩, hWs6, ⟨_, hRk6⟩, hWk6, hS6⟩
        have HREX : Hid (∀ l, l < n → r l = qs M N s m i (hi - i) l) :=
          back_exact X Y r _ M N s n k m i (hi - i) (by omega) HNK.out HNS.out hsl (by have := HE.out; omega) HTr.out (fun l _ => rfl) hr
        have HRL : Hid (∀ l, l < n → r l < 998244353) := fun l hl => (hr l hl).1
        clear hr hRC5 hWC5 hRk5 hWk5 hRs5 hWs5 hS5 hRC6 hRk6 hC6 hRq hWq hRs6 hWs6 hWk6 hWC6 hS6 hRall hRall2 hCl5 hKl5 hsl5 hilt hm1 hwz
        go_wp2_with fail
        go_roundw
        case rel =>
          refine ⟨j, _, (by have := HJ.out; omega), (by have := HJ.out; omega), rfl, HSt.out, ?_, ?_⟩
          · show _ = _
            obtain ⟨e1, e2, e3, e4⟩ := HE.out
            rw [val_window c r q n L hqn, HV.out, e4, show min i hi = i from by omega, Nat.add_assoc, ← Nat.mul_add]
            congr 2
            have e5 := val_qs M N s m i ny (hi - i) (fun t h1 h2 => HP1.out t (by omega) (by omega))
            rw [show i + (hi - i) = hi from by omega, ← HNS.out] at e5
            rw [← e5, val_congr r (qs M N s m i (hi - i)) n HREX.out, Nat.add_comm]
          · intro l hl
            obtain ⟨e1, e2, e3, e4⟩ := HE.out
            rw [e4]
            have h1 := HB.out l hl
            rw [show min i hi = i from by omega] at h1
            show (if q ≤ l ∧ l < q + n then c l + r (l - q) else c l) ≤ _
            split
            · rename_i hw
              exact bnd1 _ _ _ _ _ h1 (HRL.out (l - q) (by omega)) e1
            · exact bnd2 _ _ _ _ h1 e1
        case measure => simp [intOf]; have := HJ.out; omega
      · obtain ⟨hRC, hWC, ⟨S, hRs⟩, hWs, ⟨b, hRk⟩, hWk, hS⟩ := hSt
        have hwz := hS.size
        have hEn : i < j ∧ j ≤ hi ∧ j ≤ i + 29 ∧ min j hi = j := by have := HJ.out; omega
        have h1 : j * n ≤ lx := by rw [← HLX.out]; exact Nat.mul_le_mul_right _ (by omega)
        have hP := HP1.out (j - 1) (by omega) (by omega)
        have hP0 := HP1.out i hil hlt2
        have h2 : (m - i + 1) * n ≤ ly := by rw [← HLY.out]; exact Nat.mul_le_mul_right _ (by omega)
        have HX1 : Hid (∀ l, l < lx → X l < 998244353) := by
          intro l hl
          have h3 : l / n < nx := by rw [Nat.div_lt_iff_lt_mul hn0, HLX.out]; exact hl
          have := (HTX.out (l / n) h3 (l % n) (Nat.mod_lt _ hn0)).1
          rwa [Nat.mul_comm, Nat.div_add_mod] at this
        have HY1 : Hid (∀ l, l < ly → Y l < 998244353) := by
          intro l hl
          have h3 : l / n < ny := by rw [Nat.div_lt_iff_lt_mul hn0, HLY.out]; exact hl
          have := (HTY.out (l / n) h3 (l % n) (Nat.mod_lt _ hn0)).1
          rwa [Nat.mul_comm, Nat.div_add_mod] at this
        have hXr := hX.same hS
        have hYr := hY.same hS
        have hCl := hRC.lt (by omega)
        have hKl := hRk.lt (by omega)
        have hsl2 := hRs.lt (by omega)
        have HTr : Hid (∀ t, i ≤ t → t < i + (j - i) → Tr X M s n k t ∧ Tr Y N s n k (m - t)) := by
          intro t ht1 ht2
          have := HP1.out t (by omega) (by omega)
          exact ⟨HTX.out t (by omega), HTY.out (m - t) (by omega)⟩
        have HE : Hid (i < j ∧ j ≤ hi ∧ j ≤ i + 29 ∧ min j hi = j) := hEn
        have hm1 : j ≤ m + 1 := by omega
        have hilt := hEn.1
        clear hEn hP hP0
        go_wp2_with fail
        refine (products_any Bs n n Bx 0 lx lx By 0 ly ly i j m S X Y _ hn0 (by omega) hilt h1 hm1 h2 (Nat.le_refl _) (Nat.le_refl _) (by omega) (by omega) (by omega) hRs hWs hXr hYr HX1.out HY1.out (by omega) (by omega)).mono ?_
        rintro e w5 ⟨rfl, hRs5, hC5⟩
        have hS5 : Same w w5 := hS.trans_new hC5 (fun x o hx h => by omega)
        have hRC5 := hRC.kept hC5 (by omega)
        have hWC5 := hWC.kept hC5 hCl
        have hRk5 := hRk.kept hC5 (by omega)
        have hWk5 := hWk.kept hC5 hKl
        have hWs5 := hWs.kept hC5 hsl2
        have hCl5 := hRC5.lt (by omega)
        have hKl5 := hRk5.lt (by omega)
        have hsl5 := hRs5.lt (by omega)
        clear hRs hWs hXr hYr hC5 hRC hWC hRk hWk hS h1 h2 hCl hKl hsl2
        have hRq := hRC5.sub q n hqn
        have hWq := hWC5.sub q n hqn
        rw [Nat.zero_add] at hRq hWq
        go_wp2_with fail
        refine (addBack_any k n C q n Bk n Bs n (fun l => c (q + l)) b _ _ (by omega) HNK.out (Nat.le_refl _) hRq hWq hRk5 hWk5 hRs5 (fun i _ => Nat.mod_lt _ (by decide)) (fun l hl => HCB.out (q + l) (by omega)) (by omega) (by omega) (by omega)).mono ?_
        rintro e w6 ⟨rfl, r, hr, hRC6, hRk6, hC6⟩
        have hS6 : Same w w6 := hS5.trans_new hC6 (fun x o hx h => by omega)
        have hRs6 := hRs5.kept hC6 (by omega)
        have hWs6 := hWs5.kept hC6 hsl5
        have hWk6 := hWk5.kept hC6 hKl5
        have hWC6 := hWC5.kept hC6 hCl5
        have hRall := hRC5.window (q := q) (n := n) hC6 (fun i hi hw h => by omega) (by rw [Nat.zero_add]; exact hRC6)
        have hRall2 : Rd .i64 w6 C 0 L (fun l => if q ≤ l ∧ l < q + n then c l + r (l - q) else c l) := by
          refine hRall.congr fun l hl => ?_
          by_cases hw : q ≤ l ∧ l < q + n
          · rw [if_pos hw, if_pos hw]
            show c (q + (l - q)) + r (l - q) = _
            rw [show q + (l - q) = l from by omega]
          · rw [if_neg hw, if_neg hw]
        have HSt : Hid (St w w6 C Bs Bk L n (fun l => if q ≤ l ∧ l < q + n then c l + r (l - q) else c l)) :=
          ⟨hRall2, hWC6, ⟨_, hRs6⟩, hWs6, ⟨_, hRk6⟩, hWk6, hS6⟩
        have HREX : Hid (∀ l, l < n → r l = qs M N s m i (j - i) l) :=
          back_exact X Y r _ M N s n k m i (j - i) (by omega) HNK.out HNS.out hsl (by have := HE.out; omega) HTr.out (fun l _ => rfl) hr
        have HRL : Hid (∀ l, l < n → r l < 998244353) := fun l hl => (hr l hl).1
        clear hr hRC5 hWC5 hRk5 hWk5 hRs5 hWs5 hS5 hRC6 hRk6 hC6 hRq hWq hRs6 hWs6 hWk6 hWC6 hS6 hRall hRall2 hCl5 hKl5 hsl5 hilt hm1 hwz
        go_wp2_with fail
        go_roundw
        case rel =>
          refine ⟨j, _, (by have := HJ.out; omega), (by have := HJ.out; omega), rfl, HSt.out, ?_, ?_⟩
          · show _ = _
            obtain ⟨e1, e2, e3, e4⟩ := HE.out
            rw [val_window c r q n L hqn, HV.out, e4, show min i hi = i from by omega, Nat.add_assoc, ← Nat.mul_add]
            congr 2
            have e5 := val_qs M N s m i ny (j - i) (fun t h1 h2 => HP1.out t (by omega) (by omega))
            rw [show i + (j - i) = j from by omega, ← HNS.out] at e5
            rw [← e5, val_congr r (qs M N s m i (j - i)) n HREX.out, Nat.add_comm]
          · intro l hl
            obtain ⟨e1, e2, e3, e4⟩ := HE.out
            rw [e4]
            have h1 := HB.out l hl
            rw [show min i hi = i from by omega] at h1
            show (if q ≤ l ∧ l < q + n then c l + r (l - q) else c l) ≤ _
            split
            · rename_i hw
              exact bnd1 _ _ _ _ _ h1 (HRL.out (l - q) (by omega)) e1
            · exact bnd2 _ _ _ _ h1 e1
        case measure => simp [intOf]; have := HJ.out; omega
    · have HV2 := HV.out
      have HB2 := HB.out
      rw [show min i hi = hi from by omega] at HV2 HB2
      have HF : Hid ((val c L = vb (256 ^ s) (cvN (bv M s) (bv N s) ny nx) m + 256 ^ q * cvN (bv M s) (bv N s) ny hi m) ∧ (∀ l, l < L → c l ≤ (m * nx + hi) * 998244353)) := ⟨HV2, HB2⟩
      clear HV HB hqI HV2 HB2
      have HEX : Hid (∀ (u16 u17 u61 u62 u63 u64 u65 u66 u67 u68 u69 u70 u71 u72 u73 u74 u75 u76 u77 u78 u79 u80 u81 u82 u83 u84 u85 u86 u87 u88 u89 u90 u91 u92 u93 u94 u95 u96 : Value) (wx : World) (c : Nat → Nat), St w wx C Bs Bk L n c → val c L = vb (256 ^ s) (cvN (bv M s) (bv N s) ny nx) m + 256 ^ q * cvN (bv M s) (bv N s) ny hi m → (∀ l, l < L → c l ≤ (m * nx + hi) * 998244353) → Q0 (.exit 2) ⟨List.toArray (.slice (some ⟨Bx, 0, none⟩) lx lx :: .slice (some ⟨By, 0, none⟩) ly ly :: .int .i64 (s : Int) :: c3 :: c4 :: c5 :: c6 :: .int .i64 (n : Int) :: c8 :: c9 :: .slice (some ⟨C, 0, none⟩) L L :: .slice (some ⟨Bs, 0, none⟩) n n :: .slice (some ⟨Bk, 0, none⟩) n n :: .int .i64 (m : Int) :: c14 :: .int .i64 (hi : Int) :: u16 :: u17 :: c18 :: c19 :: c20 :: c21 :: c22 :: c23 :: c24 :: c25 :: c26 :: c27 :: c28 :: c29 :: c30 :: c31 :: c32 :: c33 :: c34 :: c35 :: c36 :: c37 :: c38 :: c39 :: c40 :: c41 :: c42 :: c43 :: c44 :: c45 :: c46 :: c47 :: c48 :: c49 :: c50 :: c51 :: c52 :: c53 :: c54 :: c55 :: c56 :: c57 :: c58 :: c59 :: c60 :: u61 :: u62 :: u63 :: u64 :: u65 :: u66 :: u67 :: u68 :: u69 :: u70 :: u71 :: u72 :: u73 :: u74 :: u75 :: u76 :: u77 :: u78 :: u79 :: u80 :: u81 :: u82 :: u83 :: u84 :: u85 :: u86 :: u87 :: u88 :: u89 :: u90 :: u91 :: u92 :: u93 :: u94 :: u95 :: u96 :: c97 :: []), []⟩ wx) := hexit
      clear hexit
      go_wp2_with fail
      exact HEX.out _ _ _ _ _ _ _ _ _ _ _ _ _ _ _ _ _ _ _ _ _ _ _ _ _ _ _ _ _ _ _ _ _ _ _ _ _ _ _ c hSt HF.out.1 HF.out.2
end Go.Proofs.Ygctaj.Long
