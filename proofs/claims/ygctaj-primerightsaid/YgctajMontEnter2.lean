/- (*odd).enter, walked. -/
import Derived.Test.YgctajMontEnter
namespace Go.Proofs.Ygctaj.Nt
open Go.RowKit Mem
set_option linter.unusedVariables false

set_option maxRecDepth 20000 in
set_option maxHeartbeats 1000000 in
theorem enter_any (O bm om cm n M na A : Nat) (a m : Value) (w : World) (c0 : w.cell? ⟨O, 0, none⟩ = some (.slice (some ⟨bm, om, none⟩) n cm)) (ha : Na w a na A) (hm : Nm w m M) (hna : na ≤ 1200) (hM : 0 < M) (hn : wl M = n) (hn1 : 1 ≤ n) (hn2 : n ≤ 300) :
    Calls Tajg.prog 100 #[.pointer (some ⟨O, 0, none⟩), a, m] w fun e w' => ∃ B : Nat, e = .returned (.slice (some ⟨B, 0, none⟩) n n) ∧ w.heap.size ≤ B ∧ Rd .u32 w' B 0 n (dw (mg n M A)) ∧ Cl w' B ∧ Same w w' := by
  have hdM : dl M ≤ 1200 := by
    have h1 := hn
    unfold wl at h1; omega
  obtain ⟨n4, Hn4⟩ : ∃ n4, Hid (n4 = 4 * n) := ⟨_, rfl⟩
  have en4 : (4 : Int) * (n : Int) = (n4 : Int) := by have := Hn4.out; omega
  have hn4 : n4 ≤ 1200 := by have := Hn4.out; omega
  have Hn : Hid (wl M = n) := hn
  clear hn
  go_enter Tajg.func100, Tajg.ntmps100
  go_wp2_with fail
  refine (up_any a na A n4 _ w (by omega) (by omega) (by first | rfl | go_num) ha).mono ?_
  rintro e w1 ⟨u1, n1, rfl, hn1', hu1, -, hs1⟩
  have hm1 := hm.same hs1
  go_wp2_with fail
  refine (div_any u1 m n1 (dl M) _ M w1 (by omega) (by omega) hu1 hm1.na (by omega)).mono ?_
  rintro e w2 ⟨q2, r2, rfl, -, hr2, -, -, hs2⟩
  have HR : Hid (A * 256 ^ n4 % M = mg n M A) := by show _ = _; rw [Hn4.out]; rfl
  rw [HR.out] at hr2
  have hlt := mg_lt n M A hM
  have hS2 := hs1.trans hs2
  have d0 := cellK hS2 c0 id
  have hdr : dl (mg n M A) ≤ 1200 := by have := dl_mono (Nat.le_of_lt hlt); omega
  have hwr : wl (mg n M A) ≤ n := by
    have := dl_mono (Nat.le_of_lt hlt)
    have h1 := Hn.out
    unfold wl at h1 ⊢; omega
  have Hr2 : Hid (Nm w2 r2 (mg n M A)) := hr2
  clear hu1 hm1 hm ha c0 hs1 hs2 hr2
  go_wp2_with (at_make; refine wpList_mkc n .u32 46 4 _ _ (by rfl) (by rfl) rfl rfl Tajg.underlying57 info46 (by omega) (by omega) ?_; intro B w3 hB1 hB2 hRB hCB hs3)
  refine (wordsOf_any r2 (mg n M A) w3 (by omega) (Hr2.out.same hs3)).mono ?_
  rintro e w4 ⟨v4, rfl, hv4, -, hs4⟩
  obtain ⟨a4, c4, rfl, hc4, -, hr4⟩ := hv4
  have hRB4 := hRB.same hs4
  have hCB4 := hCB.kept hs4 hB2
  have hB4 : B < w4.heap.size := Nat.lt_of_lt_of_le hB2 hs4.size
  have hS4 := (hS2.trans hs3).trans hs4
  have hBw : w.heap.size ≤ B := Nat.le_trans hS2.size hB1
  obtain ⟨w5, k5, e5, hR5, hC5, hc5⟩ : ∃ (w5 : World) (k5 : Nat), Sem.run Tajg.prog (Builtin.copy_ #[57, 57] 3 #[.slice (some ⟨B, 0, none⟩) n n, .slice a4 (wl (mg n M A)) c4]) w4 = .ok (.int .i64 (k5 : Int)) w5 ∧ Rd .u32 w5 B 0 n (dw (mg n M A)) ∧ Cl w5 B ∧ Chg (fun q _ => q = B) w4 w5 := by
    rcases Nat.eq_zero_or_pos (wl (mg n M A)) with h0 | h0
    · refine ⟨w4, 0, run_cpW0 w4 (by rw [h0]; simp), ?_, hCB4, Chg.refl _ _⟩
      refine hRB4.congr fun i _ => ?_
      have := lt_wl (mg n M A)
      exact (dw_above _ i (wl (mg n M A)) this (by omega)).symm
    · obtain ⟨b4, o4, rfl, hR4, -⟩ := hr4 h0
      obtain ⟨w5, e5, hR5, hC5⟩ := run_cpW (wl (mg n M A)) (dc := n) (sc := c4) (show wl (mg n M A) = Nat.min (wl (mg n M A)) n from (Nat.min_eq_left hwr).symm) hR4 hRB4 (hCB4.wr _ _)
      refine ⟨w5, _, e5, hR5.congr fun i _ => ?_, hCB4.kept hC5 hB4, hC5.mono fun q o _ h => h.1⟩
      by_cases h : i < wl (mg n M A)
      · rw [mix_lt _ _ h]
      · rw [mix_ge _ _ (by omega)]
        exact (dw_above _ i (wl (mg n M A)) (lt_wl _) (by omega)).symm
  have hS5 : Same w w5 := hS4.trans_new hc5 (fun q o hq e => by omega)
  clear hr4 hRB hCB hRB4 hCB4 d0
  generalize wl (mg n M A) = lw at *
  go_wp2_with fail
  go_ret
  exact ⟨B, rfl, hBw, hR5, hC5, hS5⟩
end Go.Proofs.Ygctaj.Nt
