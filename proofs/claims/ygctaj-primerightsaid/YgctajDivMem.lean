/- the copies of the long division, in memory. -/
import Derived.Test.YgctajCopyRun
import Derived.Test.YgctajDiv
namespace Go.Proofs.Ygctaj.Nt
open Go.RowKit Mem
set_option linter.unusedVariables false

theorem parts {wr w5 : World} {Pb L c nr ba oa cc cr : Nat} {ar : Option Addr} {x1 x2 P : Nat → Nat} (hP : wr.heap.size ≤ Pb) (hPl : Pb < w5.heap.size) (hRP : Rd .u8 w5 Pb 0 L (fun _ => 0)) (hCP : Cl w5 Pb) (hs5 : Same wr w5)
    (hRA : Rd .u8 wr ba oa c x1) (hRR : 0 < nr → ∃ b off, ar = some ⟨b, off, none⟩ ∧ Rd .u8 wr b off nr x2 ∧ Cl wr b) (hL : L = c + nr) (hc : 1 ≤ c) (hdg : ∀ i, i < L → P i = if i < c then x1 i else x2 (i - c)) :
    ∃ w6 w7, Sem.run Tajg.prog (Builtin.copy_ #[24, 24] 3 #[.slice (some ⟨Pb, 0, none⟩) L L, .slice (some ⟨ba, oa, none⟩) c cc]) w5 = .ok (.int .i64 (c : Int)) w6 ∧
      (∀ dp, (0 < nr → dp = some ⟨Pb, c, none⟩) → Sem.run Tajg.prog (Builtin.copy_ #[24, 24] 3 #[.slice dp nr nr, .slice ar nr cr]) w6 = .ok (.int .i64 (nr : Int)) w7) ∧ Rd .u8 w7 Pb 0 L P ∧ Cl w7 Pb ∧ Same wr w7 := by
  obtain ⟨w6, e6, hR6, hC6⟩ := run_cp c (dc := L) (sc := cc) (show c = Nat.min c L from (Nat.min_eq_left (by omega)).symm) (hRA.same hs5) hRP (hCP.wr _ _)
  have hS6 : Same wr w6 := hs5.trans_new hC6 (fun q o hq h => by obtain ⟨rfl, _⟩ := h; omega)
  have hC6' := hCP.kept hC6 hPl
  have hPl6 : Pb < w6.heap.size := Nat.lt_of_lt_of_le hPl hC6.size
  rcases Nat.eq_zero_or_pos nr with h0 | h0
  · subst h0
    refine ⟨w6, w6, e6, fun dp _ => run_cp0 w6 (by simp), ?_, hC6', hS6⟩
    intro i hi
    rw [hR6 i hi, hdg i hi, if_pos (by omega), mix_lt _ _ (by omega)]
  · obtain ⟨b, off, rfl, hRr, -⟩ := hRR h0
    have hb : b ≠ Pb := by have := hRr.lt h0; omega
    have hR6c : Rd .u8 w6 Pb c nr (fun i => mix c x1 (fun _ => 0) (c + i)) := by
      intro i hi
      have := hR6 (c + i) (by omega)
      rwa [Nat.zero_add] at this
    obtain ⟨w7, e7, hR7, hC7⟩ := run_cp nr (dc := nr) (sc := cr) (Nat.min_self nr).symm (hRr.same hS6) hR6c (hC6'.wr _ _)
    refine ⟨w6, w7, e6, fun dp hdp => by rw [hdp h0]; exact e7, ?_, hC6'.kept hC7 hPl6, hS6.trans_new hC7 (fun q o hq h => by obtain ⟨rfl, _⟩ := h; omega)⟩
    intro i hi
    rw [Nat.zero_add, hdg i hi]
    by_cases h : i < c
    · have c1 := hR6 i hi
      rw [Nat.zero_add, mix_lt _ _ h] at c1
      rw [if_pos h]
      exact cellK hC7 c1 (by omega)
    · have c1 := hR7 (i - c) (by omega)
      rw [mix_lt _ _ (by omega), show c + (i - c) = i from by omega] at c1
      rw [if_neg h]
      exact c1

theorem put_digits {w8 : World} {Qb m lo c cq D cv : Nat} {av : Option Addr} {y : Nat → Nat} (hQ : Rd .u8 w8 Qb 0 m y) (hC : Cl w8 Qb) (hv : Nm w8 (.slice av (dl D) cv) D) (hD : dl D ≤ c) (hm : lo + c ≤ m) (hc : 1 ≤ c)
    (hy : ∀ i, lo ≤ i → i < lo + c → y i = 0) :
    ∃ (w9 : World) (k : Nat), Sem.run Tajg.prog (Builtin.copy_ #[24, 24] 3 #[.slice (some ⟨Qb, lo, none⟩) c cq, .slice av (dl D) cv]) w8 = .ok (.int .i64 (k : Int)) w9 ∧
      Rd .u8 w9 Qb 0 m (fun i => if lo ≤ i ∧ i < lo + c then dg D (i - lo) else y i) ∧ Cl w9 Qb ∧ Chg (fun q _ => q = Qb) w8 w9 := by
  have hQl : Qb < w8.heap.size := hQ.lt (by omega)
  rcases hv.open with ⟨rfl, e⟩ | ⟨h0, b, off, cap, e, _, hp, hr, _⟩
  · rw [dl_zero] at e ⊢
    cases e
    refine ⟨w8, 0, run_cp0 w8 (by simp), ?_, hC, Chg.refl _ _⟩
    refine hQ.congr fun i hi => ?_
    by_cases h : lo ≤ i ∧ i < lo + c
    · rw [if_pos h, hy i h.1 h.2]; simp [dg]
    · rw [if_neg h]
  · cases e
    have hQc : Rd .u8 w8 Qb lo c (fun i => y (lo + i)) := by
      intro i hi
      have := hQ (lo + i) (by omega)
      rwa [Nat.zero_add] at this
    obtain ⟨w9, e9, hR9, hC9⟩ := run_cp (dl D) (dc := cq) (sc := cv) (show dl D = Nat.min (dl D) c from (Nat.min_eq_left hD).symm) hr hQc (hC.wr _ _)
    refine ⟨w9, dl D, e9, ?_, hC.kept hC9 hQl, hC9.mono fun q o _ h => h.1⟩
    intro i hi
    by_cases h : lo ≤ i ∧ i < lo + c
    · have c1 := hR9 (i - lo) (by omega)
      rw [show lo + (i - lo) = i from by omega] at c1
      rw [Nat.zero_add, c1]
      simp only [if_pos h]
      by_cases h2 : i - lo < dl D
      · rw [mix_lt _ _ h2]
      · rw [mix_ge _ _ (by omega), show lo + (i - lo) = i from by omega, hy i h.1 h.2, dg_above D (i - lo) (dl D) (lt_dl D) (by omega)]
    · have c1 := hQ i hi
      simp only [if_neg h]
      rw [Nat.zero_add] at c1 ⊢
      exact cellK hC9 c1 (by omega)
end Go.Proofs.Ygctaj.Nt
