/- (binary).enter, walked. -/
import Derived.Test.YgctajBinTimes
import Derived.Test.YgctajMontNew
import Derived.Test.YgctajDivStep
namespace Go.Proofs.Ygctaj.Nt
open Go.RowKit Mem
set_option linter.unusedVariables false

set_option maxRecDepth 20000 in
set_option maxHeartbeats 1000000 in
theorem wordsOf_na (v : Value) (m N : Nat) (w : World) (hn : m ≤ 100000) (hv : Na w v m N) :
    Calls Tajg.prog 59 #[v] w fun e w' => ∃ v', e = .returned v' ∧ Wn w' v' ((m + 3) / 4) N ∧ Fr w.heap.size w' v' ∧ Same w w' := by
  have HNl : Hid (N < 256 ^ m) := hv.lt
  obtain ⟨a, cap, rfl, hc, -, hr⟩ := hv
  have HR : Hid (0 < m → ∃ b off, a = some ⟨b, off, none⟩ ∧ Rd .u8 w b off m (dg N) ∧ Cl w b) := hr
  clear hr
  obtain ⟨n, HNm⟩ : ∃ n, Hid (n = (m + 3) / 4) := ⟨_, rfl⟩
  have HE : Hid (N % 256 ^ m = N) := Nat.mod_eq_of_lt HNl.out
  have HNn : Hid (N < 256 ^ (4 * n)) := Nat.lt_of_lt_of_le HNl.out (Nat.pow_le_pow_right (by decide) (by have := HNm.out; omega))
  rw [← HNm.out]
  have en : ((m : Int) + 3) / 4 = (n : Int) := by have := HNm.out; omega
  have hnb : n ≤ 100000 := by have := HNm.out; omega
  go_enter Tajg.func59, Tajg.ntmps59
  go_wp2_with (at_make; refine wpList_mkc n .u32 46 4 _ _ (by rfl) (by rfl) (by go_num) (by go_num) Tajg.underlying57 info46 (by omega) (by omega) ?_; intro B w1 hB1 hB2 hRB hCB hs1)
  go_loopw [4] (fun i wr => ∃ j : Nat, j ≤ m ∧ i = .int .i64 (j : Int) ∧ Rd .u32 wr B 0 n (dw (N % 256 ^ j)) ∧ Cl wr B ∧ Same w wr) (fun i _ => (m - intOf i).toNat)
  case atStart => exact ⟨0, by omega, rfl, hRB.congr (fun i _ => by rw [Nat.pow_zero, Nat.mod_one]; unfold dw; simp), hCB, hs1⟩
  case round =>
    clear hRB hCB hs1
    obtain ⟨j, hj, rfl, hR, hC, hS⟩ := hrel
    by_cases h0 : j = m
    · subst h0
      rw [HE.out] at hR
      go_wp2_with fail
      go_ret
      exact ⟨_, rfl, ⟨_, n, rfl, Nat.le_refl _, HNn.out, fun _ => ⟨B, 0, rfl, hR, hC⟩⟩, Fr.mk hB1 (hC.wr _ _), hS⟩
    · have hlt : j < m := by omega
      obtain ⟨b, off, rfl, hRd, -⟩ := HR.out (by omega)
      have c1 := (hRd.same hS) j hlt
      obtain ⟨q, HQ⟩ : ∃ q, Hid (q = j / 4) := ⟨_, rfl⟩
      have eq4 : (j : Int) / 4 = (q : Int) := by have := HQ.out; omega
      have hqn : q < n := by have h1 := HQ.out; have h2 := HNm.out; omega
      have c2 := hR q hqn
      have c3 := hC (0 + q)
      rw [Nat.zero_add] at c2 c3
      obtain ⟨r, HRr⟩ : ∃ r, Hid (r = j % 4) := ⟨_, rfl⟩
      have er4 : (j : Int) % 4 = (r : Int) := by have := HRr.out; omega
      obtain ⟨s, HS⟩ : ∃ s, Hid (s = 8 * r) := ⟨_, rfl⟩
      have es : (8 : Int) * (r : Int) = (s : Int) := by have := HS.out; omega
      have hr4 : r < 4 := by have := HRr.out; omega
      have hs32 : s < 32 := by have := HS.out; omega
      obtain ⟨hh1, hh2⟩ := dw_here N j
      rw [← HQ.out, ← HRr.out, ← HS.out] at hh1 hh2
      have hor := or_words _ (dg N j) s hh2
      rw [← hh1] at hor
      have hwlt := dw_lt (N % 256 ^ (j + 1)) q
      have hb1 : dg N j * 2 ^ s < 4294967296 := by omega
      have hb2 := dw_lt (N % 256 ^ j) q
      have hb3 := dg_lt N j
      have hor2 := u32_or_nat _ _ hb2 hb1
      rw [hor] at hor2
      have HRn : Hid (Rd .u32 (wr.setCell ⟨B, 0 + q, none⟩ (.int .u32 ((dw (N % 256 ^ (j + 1)) q : Nat) : Int))) B 0 n (dw (N % 256 ^ (j + 1)))) := by
        refine (hR.setCell q _ hqn).congr fun k _ => ?_
        by_cases hk : k = q
        · subst hk; rw [upd_same]
        · rw [upd_other _ _ _ _ hk, ← dw_other N j k (by rw [← HQ.out]; exact hk)]
      rw [Nat.zero_add] at HRn
      have eD : ((dg N j : Nat) : Int) * 2 ^ s = ((dg N j * 2 ^ s : Nat) : Int) := by push_cast; rfl
      have z0 : 0 ≤ ((dg N j : Nat) : Int) := by omega
      have z1 : ((dg N j : Nat) : Int) < 256 := by omega
      have z2 : 0 ≤ ((dw (N % 256 ^ j) q : Nat) : Int) := by omega
      have z3 : ((dw (N % 256 ^ j) q : Nat) : Int) < 4294967296 := by omega
      have z4 : 0 ≤ ((dg N j * 2 ^ s : Nat) : Int) := Int.natCast_nonneg _
      have z5 : ((dg N j * 2 ^ s : Nat) : Int) < 4294967296 := Int.ofNat_lt.2 hb1
      have z6 : 0 ≤ ((dw (N % 256 ^ (j + 1)) q : Nat) : Int) := by omega
      have z7 : ((dw (N % 256 ^ (j + 1)) q : Nat) : Int) < 4294967296 := by omega
      clear hh1 hh2 hor hwlt hb1 hb2 hb3 hRd
      generalize ((dg N j * 2 ^ s : Nat) : Int) = E at *
      generalize ((dg N j : Nat) : Int) = D at *
      generalize ((dw (N % 256 ^ j) q : Nat) : Int) = F at *
      generalize ((dw (N % 256 ^ (j + 1)) q : Nat) : Int) = G at *
      go_wp2_with fail
      refine Text.wp_text (by kernel_rfl) (by kernel_rfl) ⟨fun c a w h => (by obtain ⟨_, _, h, _⟩ := h; cases h), fun a w h => (by obtain ⟨_, h, _⟩ := h; cases h)⟩ ?_
      intro K hK
      go_wp2_with fail
      refine hK _ _ (by rfl) ?_
      go_wp2_with fail
      go_roundw
      case rel => exact ⟨j + 1, by omega, by go_num, HRn.out, hC.setCell _ _, (hS.setCell B _ _ (fun h => absurd h (by omega))).drew⟩
      case measure => simp [intOf]; omega

theorem dg_mod_lt (N m i : Nat) (h : i < m) : dg (N % 256 ^ m) i = dg N i := by
  have := dg_join_lo N 0 m i h
  rwa [Nat.mul_zero, Nat.add_zero] at this


/-- the copy of the words of a number into n words of zero. -/
theorem copyWords (B n L c4 X : Nat) (a4 : Option Addr) (w4 : World) (hL : L ≤ n) (hX : X < 256 ^ (4 * L)) (hr4 : 0 < L → ∃ b off, a4 = some ⟨b, off, none⟩ ∧ Rd .u32 w4 b off L (dw X) ∧ Cl w4 b) (hRB : Rd .u32 w4 B 0 n (fun _ => 0)) (hCB : Cl w4 B) (hB : B < w4.heap.size) :
    ∃ (w5 : World) (k5 : Nat), Sem.run Tajg.prog (Builtin.copy_ #[57, 57] 3 #[.slice (some ⟨B, 0, none⟩) n n, .slice a4 L c4]) w4 = .ok (.int .i64 (k5 : Int)) w5 ∧ Rd .u32 w5 B 0 n (dw X) ∧ Cl w5 B ∧ Chg (fun q _ => q = B) w4 w5 := by
  rcases Nat.eq_zero_or_pos L with h0 | h0
  · refine ⟨w4, 0, run_cpW0 w4 (by rw [h0]; simp), ?_, hCB, Chg.refl _ _⟩
    refine hRB.congr fun i _ => ?_
    exact (dw_above _ i L hX (by omega)).symm
  · obtain ⟨b4, o4, rfl, hR4, -⟩ := hr4 h0
    obtain ⟨w5, e5, hR5, hC5⟩ := run_cpW L (dc := n) (sc := c4) (show L = Nat.min L n from (Nat.min_eq_left hL).symm) hR4 hRB (hCB.wr _ _)
    refine ⟨w5, _, e5, hR5.congr fun i _ => ?_, hCB.kept hC5 hB, hC5.mono fun q o _ h => h.1⟩
    by_cases h : i < L
    · rw [mix_lt _ _ h]
    · rw [mix_ge _ _ (by omega)]
      exact (dw_above _ i L hX (by omega)).symm

set_option maxRecDepth 20000 in
set_option maxHeartbeats 1000000 in
theorem benter_any (k : Int) (n A : Nat) (a : Value) (w : World) (ha : Nm w a A) (hdA : dl A ≤ 10000) (hn : 1 ≤ n) (hn2 : n ≤ 2000) :
    Calls Tajg.prog 105 #[.agg #[.int .i64 k, .int .i64 (n : Int)], a] w fun e w' => ∃ B : Nat, e = .returned (.slice (some ⟨B, 0, none⟩) n n) ∧ w.heap.size ≤ B ∧ Rd .u32 w' B 0 n (dw (A % 256 ^ (4 * n))) ∧ Cl w' B ∧ Same w w' := by
  have HC : Hid ((w.alloc (Obj.cells #[Value.int IntKind.i64 k, Value.int IntKind.i64 (n : Int)] 129)).cell? ⟨w.heap.size, 1, none⟩ = some (.int .i64 (n : Int))) := by show _ = _; rw [World.cell?_alloc_new]; rfl
  have HS1 : Hid (Same w (w.alloc (Obj.cells #[Value.int IntKind.i64 k, Value.int IntKind.i64 (n : Int)] 129))) := (Chg.refl _ _).alloc _
  obtain ⟨n4, Hn4⟩ : ∃ n4, Hid (n4 = 4 * n) := ⟨_, rfl⟩
  have en4 : (4 : Int) * (n : Int) = (n4 : Int) := by have := Hn4.out; omega
  have hn4 : n4 ≤ 8000 := by have := Hn4.out; omega
  have hna := ha.na
  obtain ⟨aa, ca, rfl, hca, hAl, hra⟩ := hna
  obtain ⟨la, Hla⟩ : ∃ la, Hid (la = dl A) := ⟨_, rfl⟩
  have Hna : Hid (Na w (.slice aa la ca) la A) := by
    have h := ha.na
    rw [← Hla.out] at h
    exact h
  have HAl : Hid (A < 256 ^ la) := by rw [Hla.out]; exact lt_dl A
  rw [← Hla.out] at hdA hca ⊢
  clear ha hAl hra
  by_cases hlt : n4 < la
  · obtain ⟨ba, oa, rfl, hRa, hCa⟩ : ∃ b off, aa = some ⟨b, off, none⟩ ∧ Rd .u8 w b off la (dg A) ∧ Cl w b := by
      obtain ⟨_, _, e, _, _, h⟩ := Hna.out
      cases e
      exact h (by omega)
    have Hna4 : Hid (Na w (.slice (some ⟨ba, oa, none⟩) n4 n4) n4 (A % 256 ^ n4)) := ⟨_, n4, rfl, Nat.le_refl _, Nat.mod_lt _ (pp n4), fun _ => ⟨ba, oa, rfl, fun i hi => by rw [dg_mod_lt A n4 i hi]; exact hRa i (by omega), hCa⟩⟩
    obtain ⟨L, HL⟩ : ∃ L, Hid (L = (n4 + 3) / 4) := ⟨_, rfl⟩
    have hLn : L ≤ n := by have h1 := Hn4.out; have h2 := HL.out; omega
    clear hRa hCa Hna
    go_enter Tajg.func105, Tajg.ntmps105
    go_wp2_with (at_make; generalize World.alloc w _ = W1 at *; refine wpList_mkc n .u32 46 4 _ _ (by rfl) (by rfl) rfl rfl Tajg.underlying57 info46 (by omega) (by omega) ?_; intro B w3 hB1 hB2 hRB hCB hs3)
    refine (wordsOf_na _ n4 (A % 256 ^ n4) w3 (by omega) (Hna4.out.same (HS1.out.trans hs3))).mono ?_
    rintro e w4 ⟨v4, rfl, hv4, -, hs4⟩
    rw [← HL.out] at hv4
    obtain ⟨a4, c4, rfl, hc4, hX4, hr4⟩ := hv4
    have hS4 := (HS1.out.trans hs3).trans hs4
    have hBw : w.heap.size ≤ B := Nat.le_trans HS1.out.size hB1
    obtain ⟨w5, k5, e5, hR5, hC5, hc5⟩ := copyWords B n L c4 (A % 256 ^ n4) a4 w4 hLn hX4 hr4 (hRB.same hs4) (hCB.kept hs4 hB2) (Nat.lt_of_lt_of_le hB2 hs4.size)
    have hS5 : Same w w5 := hS4.trans_new hc5 (fun q o hq e => by omega)
    rw [Hn4.out] at hR5
    clear hr4 hRB hCB hX4
    go_wp2_with fail
    go_ret
    exact ⟨B, rfl, hBw, hR5, hC5, hS5⟩
  · have Hna4 : Hid (A % 256 ^ n4 = A) := Nat.mod_eq_of_lt (Nat.lt_of_lt_of_le HAl.out (Nat.pow_le_pow_right (by decide) (by omega)))
    obtain ⟨L, HL⟩ : ∃ L, Hid (L = (la + 3) / 4) := ⟨_, rfl⟩
    have hLn : L ≤ n := by have h1 := Hn4.out; have h2 := HL.out; omega
    go_enter Tajg.func105, Tajg.ntmps105
    go_wp2_with (at_make; generalize World.alloc w _ = W1 at *; refine wpList_mkc n .u32 46 4 _ _ (by rfl) (by rfl) rfl rfl Tajg.underlying57 info46 (by omega) (by omega) ?_; intro B w3 hB1 hB2 hRB hCB hs3)
    refine (wordsOf_na _ la A w3 (by omega) (Hna.out.same (HS1.out.trans hs3))).mono ?_
    rintro e w4 ⟨v4, rfl, hv4, -, hs4⟩
    rw [← HL.out] at hv4
    obtain ⟨a4, c4, rfl, hc4, hX4, hr4⟩ := hv4
    have hS4 := (HS1.out.trans hs3).trans hs4
    have hBw : w.heap.size ≤ B := Nat.le_trans HS1.out.size hB1
    obtain ⟨w5, k5, e5, hR5, hC5, hc5⟩ := copyWords B n L c4 A a4 w4 hLn hX4 hr4 (hRB.same hs4) (hCB.kept hs4 hB2) (Nat.lt_of_lt_of_le hB2 hs4.size)
    have hS5 : Same w w5 := hS4.trans_new hc5 (fun q o hq e => by omega)
    rw [← Hna4.out, Hn4.out] at hR5
    clear hr4 hRB hCB hX4
    go_wp2_with fail
    go_ret
    exact ⟨B, rfl, hBw, hR5, hC5, hS5⟩
end Go.Proofs.Ygctaj.Nt
