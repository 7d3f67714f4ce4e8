/- nlong.Factorial, walked. -/
import Derived.Test.YgctajFactors
import Derived.Test.YgctajPower2
namespace Go.Proofs.Ygctaj.Nt
open Go.RowKit Mem Long
set_option linter.unusedVariables false

/-- 'make([]nat.Nat, 0, n)'. -/
theorem wpList_mkrow {ops : Array Oper} {Q : Exit → Act → World → Prop} {d : Option Tmp} {ty : TypeId} {p : String} {af : Array Edge} {rest : List Oper} {a : Act} {w : World} {l c : Operand}
    (B n : Nat) (C : Int) (x : Nat → Value) (N : Nat → Nat) (hl : a.eval l = .int .i64 0) (hc : a.eval c = .int .i64 C) (hC : C = (n : Int)) (hn : n ≤ 1000000) (hB : B ≤ w.heap.size)
    (hK : ∀ w', RowOf B w' (.slice (some ⟨w.heap.size, 0, none⟩) 0 n) 0 x N → Same w w' → wpList Tajg.prog ops Q rest (a.put d (.slice (some ⟨w.heap.size, 0, none⟩) 0 n)) w') :
    wpList Tajg.prog ops Q ({ dst := d, op := .makeSlice 72 l c, type := ty, pos := p, after := af, guard := none } :: rest) a w := by
  obtain ⟨i, hi, hz0, hz1, hz2⟩ := info_parts info24
  refine wpList_make_own _ rfl l c 72 rfl B 24 i (.slice none 0 0) 1 Tajg.underlying72 hi hz0 hz1 .i64 .i64 C n hl hc hC (by rw [hz2]; omega) (by unfold maxLen; omega) hB ?_
  intro w' h1 h2
  exact hK w' ⟨h1, fun i hi => absurd hi (by omega)⟩ (Same.grown (Chg.refl _ _) h2 (fun g hg => by cases hg))

theorem Off.step {w0 : World} {u v v' : Value} (h : Off u v) (hb : v'.ownBlock = v.ownBlock ∨ v'.ownBlock = some (w0.heap.size + 1)) (hu : ∀ b, u.ownBlock = some b → b < w0.heap.size) : Off u v' := by
  by_cases h0 : u.ownBlock = none
  · exact .inl h0
  · rcases hb with hb | hb
    · rcases h with h | h
      · exact .inl h
      · exact .inr (by rw [hb]; exact h)
    · refine .inr fun e => ?_
      rw [hb] at e
      have := hu _ e
      omega
theorem Off.new {w : World} {u : Value} {n : Nat} (hu : ∀ b, u.ownBlock = some b → b < w.heap.size) : Off u (.slice (some ⟨w.heap.size, 0, none⟩) 0 n) := by
  by_cases h0 : u.ownBlock = none
  · exact .inl h0
  · refine .inr fun e => ?_
    exact absurd (hu w.heap.size e) (Nat.lt_irrefl _)
theorem pr_two (M N : Nat → Nat) (j k : Nat) (h : pr M j = pr N (min (2 * j) k)) (hj : 2 * j + 1 < k) : pr M j * (N (2 * j) * N (2 * j + 1)) = pr N (min (2 * (j + 1)) k) := by
  rw [h, Nat.min_eq_left (by omega), Nat.min_eq_left (by omega), ← Nat.mul_assoc]; rfl
theorem pr_last (M N : Nat → Nat) (j k : Nat) (h : pr M j = pr N (min (2 * j) k)) (hj : 2 * j + 1 = k) : pr M j * N (2 * j) = pr N (min (2 * (j + 1)) k) := by
  rw [h, Nat.min_eq_left (by omega), Nat.min_eq_right (by omega), ← hj]; rfl

/-- what Factorial answers. -/
def FacAns (w' : World) (e : Ending) (R m : Nat) : Prop :=
  (dl R ≤ m ∧ ∃ v', e = .returned (.tuple #[v', .bool true]) ∧ Nm w' v' R) ∨ (m < dl R ∧ e = .returned (.tuple #[.slice none 0 0, .bool false]))

theorem factorial_none (X M : Int) (w : World) (hM : M < 1) :
    Calls Tajg.prog 23 #[.int .u64 X, .int .i64 M] w fun e w' => e = .returned (.tuple #[.slice none 0 0, .bool false]) ∧ w' = w := by
  go_enter Tajg.func23, Tajg.ntmps23
  go_wp2_with fail
  go_ret2
  exact ⟨rfl, rfl⟩

set_option maxRecDepth 100000 in
set_option maxHeartbeats 1000000 in
theorem factorial_any (n m : Nat) (X : Int) (w : World) (hX : X = (n : Int)) (hn : n < 18446744073709551616) (hm1 : 1 ≤ m) (hm : m ≤ 4096) :
    Calls Tajg.prog 23 #[.int .u64 X, .int .i64 (m : Int)] w fun e w' => FacAns w' e (fa n) m ∧ Same w w' := by
  obtain ⟨r, HR⟩ : ∃ r : Nat, Hid (r = 8 * m) := ⟨_, rfl⟩
  have er : (8 : Int) * (m : Int) = (r : Int) := by have := HR.out; omega
  have hr1 : r ≤ 32768 := by have := HR.out; omega
  have hr0 : 8 ≤ r := by have := HR.out; omega
  have x0 : 0 ≤ X := by omega
  have x1 : X < 18446744073709551616 := by omega
  by_cases hb : (r : Int) < X
  · have HB : Hid (m < dl (fa n)) := fa_big n m (by have := HR.out; omega)
    clear hX hn
    go_enter Tajg.func23, Tajg.ntmps23
    go_wp2_with fail
    go_ret2
    exact ⟨.inr ⟨HB.out, rfl⟩, Chg.refl _ _⟩
  · subst hX
    have hn2 : n ≤ r := by omega
    have hb2 : ¬ r < n := by omega
    clear hn x0 x1 hb
    go_enter Tajg.func23, Tajg.ntmps23
    go_wp2_with fail
    go_loop [6, 7, 8] (fun o L i => ∃ t l k : Nat, 1 ≤ t ∧ (t ≤ n ∨ t = 1) ∧ k ≤ 15 ∧ l ≤ 16 * t ∧ o = .int .u64 (l : Int) ∧ L = .int .u64 (k : Int) ∧ i = .int .u64 ((t : Int) + 1) ∧ Hid (2 ^ l ≤ fa t ∧ fa t ≤ 2 ^ (2 * l) ∧ 2 ^ k ≤ t + 1)) (fun _ _ i => (n + 1 - intOf i).toNat)
    case atStart => exact ⟨1, 0, 0, by omega, .inr rfl, by omega, by omega, rfl, rfl, rfl, by decide, by decide, by decide⟩
    case round =>
      obtain ⟨t, l, k, ht, ht2, hk, hl, rfl, rfl, rfl, HL⟩ := hrel
      obtain ⟨i, HI⟩ : ∃ i : Nat, Hid (i = t + 1) := ⟨_, rfl⟩
      have hi : (t : Int) + 1 = (i : Int) := by have := HI.out; omega
      have hi2 : 2 ≤ i := by have := HI.out; omega
      have hi3 : i ≤ 40000 := by have := HI.out; omega
      rw [hi]
      by_cases hle : i ≤ n
      · go_wp2_with fail
        go_loop [7] (fun L => ∃ q : Nat, q ≤ 15 ∧ L = .int .u64 (q : Int) ∧ Hid (2 ^ q ≤ i)) (fun L => (16 - intOf L).toNat)
        case atStart => exact ⟨k, hk, rfl, by rw [HI.out]; exact HL.out.2.2⟩
        case round =>
          obtain ⟨q, hq, rfl, HQ⟩ := hrel
          have eq1 : (q : Int) + 1 = ((q + 1 : Nat) : Int) := by omega
          have esh : (i : Int) / 2 ^ (q + 1) = ((i / 2 ^ (q + 1) : Nat) : Int) := by push_cast; rfl
          obtain ⟨z, HZ⟩ : ∃ z : Nat, Hid (z = i / 2 ^ (q + 1)) := ⟨_, rfl⟩
          rw [← HZ.out] at esh
          have hz : z ≤ 40000 := by have := HZ.out; have := Nat.div_le_self i (2 ^ (q + 1)); omega
          generalize hq1 : q + 1 = q1 at *
          by_cases hz0 : z = 0
          · subst hz0
            have HE : Hid (i < 2 ^ (q + 1)) := by
              show _ < _
              rw [hq1]
              rcases Nat.lt_or_ge i (2 ^ q1) with h | h
              · exact h
              · have h2 := Nat.div_pos h (Nat.pow_pos (n := q1) (show 0 < 2 by decide))
                have := HZ.out; omega
            have HQ0 : Hid (1 ≤ q) := by
              show _ ≤ _
              rcases Nat.eq_zero_or_pos q with h | h
              · subst h; have := HE.out; omega
              · exact h
            go_wp2_with fail
            go_round
            case rel =>
              have h1 := HI.out
              have h3 := HQ.out
              have h4 := HE.out
              subst h1
              have h2 := log_step t l q HQ0.out h3 h4 HL.out.1 HL.out.2.1
              exact ⟨t + 1, l + q, q, by omega, .inl hle, hq, by omega, by go_num, rfl, by go_num, h2.1, h2.2, by omega⟩
            case measure => simp [intOf]; omega
          · have HG : Hid (2 ^ q1 ≤ i) := by
              show _ ≤ _
              rcases Nat.lt_or_ge i (2 ^ q1) with h | h
              · have h2 := Nat.div_eq_of_lt h
                have := HZ.out; omega
              · exact h
            have hq15 : q1 ≤ 15 := by
              rcases Nat.lt_or_ge 15 q1 with h | h
              · have h1 : 2 ^ 16 ≤ 2 ^ q1 := Nat.pow_le_pow_right (by decide) h
                have h2 := HG.out
                omega
              · exact h
            go_wp2_with fail
            go_round
            case rel => exact ⟨q1, hq15, by go_num, HG.out⟩
            case measure => simp [intOf]; omega
      · have HF : Hid (fa t = fa n) := by
          show _ = _
          have h1 := HI.out
          rcases ht2 with h | h
          · congr 1; omega
          · subst h
            have : n = 0 ∨ n = 1 := by omega
            rcases this with rfl | rfl <;> rfl
        have HL1 : Hid (2 ^ l ≤ fa n ∧ fa n ≤ 2 ^ (2 * l)) := by
          have h1 := HL.out
          rw [HF.out] at h1
          exact ⟨h1.1, h1.2.1⟩
        clear HL
        by_cases hlr : r ≤ l
        · have HB : Hid (m < dl (fa n)) := big_of_two (Nat.le_trans (Nat.pow_le_pow_right (by decide) (by have := HR.out; omega)) HL1.out.1)
          go_wp2_with fail
          go_ret2
          exact ⟨.inr ⟨HB.out, rfl⟩, Chg.refl _ _⟩
        · have HB : Hid (dl (fa n) ≤ 8192) := by
            have := fa_small (fa n) l m HL1.out.2 (by have := HR.out; omega)
            show _ ≤ _; omega
          go_wp2_with fail
          refine (factors_any n w (by omega)).mono ?_
          rintro e w1 ⟨v1, k1, x1, N1, rfl, hk1, hk2, hR1, hp1, hP1, hS1⟩
          have HP1 : Hid ((∀ i, i < k1 → 0 < N1 i) ∧ pr N1 k1 = fa n) := ⟨hp1, hP1⟩
          clear hp1 hP1
          go_wp2_with fail
          go_loopw [9] (fun o wr => ∃ (k : Nat) (x : Nat → Value) (N : Nat → Nat), 1 ≤ k ∧ k ≤ 50000 ∧ RowOf w.heap.size wr o k x N ∧ Hid ((∀ i, i < k → 0 < N i) ∧ pr N k = fa n) ∧ Same w wr) (fun o _ => match o with | .slice _ n _ => n | _ => 0)
          case atStart => exact ⟨k1, x1, N1, hk1, hk2, hR1, HP1, hS1⟩
          case round =>
            clear hR1 HP1 hS1 hk1 hk2
            obtain ⟨k, x, N, hk1, hk2, hR, HP, hS⟩ := hrel
            obtain ⟨g, cap, rfl, hcap, hcell⟩ := hR.at (by omega)
            by_cases hk3 : k = 1
            · subst hk3
              have c0 := hcell 0 (by omega)
              have hN := (hR.2 0 (by omega)).1
              have e0 : N 0 = fa n := by have := HP.out.2; simpa [pr] using this
              rw [e0] at hN
              obtain ⟨a, ca, hx0, hca, -, -⟩ := hN.na
              rw [hx0] at c0 hN
              clear hR hcell HP
              by_cases hdm : dl (fa n) ≤ m
              · have HN : Hid (Nm wr (.slice a (dl (fa n)) ca) (fa n)) := hN
                have HD : Hid (dl (fa n) ≤ m) := hdm
                clear hN
                generalize hq : dl (fa n) = q at *
                go_wp2_with fail
                go_ret2
                exact ⟨.inl ⟨by rw [hq]; exact HD.out, _, rfl, HN.out⟩, hS⟩
              · have HD : Hid (m < dl (fa n)) := Nat.lt_of_not_le hdm
                clear hN
                generalize hq : dl (fa n) = q at *
                go_wp2_with fail
                go_ret2
                exact ⟨.inr ⟨by rw [hq]; exact HD.out, rfl⟩, hS⟩
            · have hk4 : 2 ≤ k := by omega
              obtain ⟨c, HC⟩ : ∃ c : Nat, Hid (c = (k + 1) / 2) := ⟨_, rfl⟩
              have ec : ((k : Int) + 1) / 2 = (c : Int) := by have := HC.out; omega
              have hc2 : c ≤ 50000 := by have := HC.out; omega
              go_wp2_with (at_make; refine wpList_mkrow w.heap.size c _ x N (by rfl) (by rfl) (by go_num) (by omega) hS.size ?_; intro w2 hR2 hS2)
              have hRw := hR.same hS2
              have ho1 : Off (.slice (some ⟨g, 0, none⟩) k cap) (.slice (some ⟨wr.heap.size, 0, none⟩) 0 c) := Off.new fun b hb => (hR.blk b hb).2
              have ho2 : ∀ i, i < k → Off (x i) (.slice (some ⟨wr.heap.size, 0, none⟩) 0 c) := fun i hi => Off.new (hR.2 i hi).1.blk
              have hSw := hS.trans hS2
              go_loopw [10, 11] (fun o i wr => ∃ (j : Nat) (y : Nat → Value) (M : Nat → Nat), j ≤ c ∧ i = .int .i64 ((2 * j : Nat) : Int) ∧ RowOf w.heap.size wr o j y M ∧ RowOf w.heap.size wr (.slice (some ⟨g, 0, none⟩) k cap) k x N ∧ Off (.slice (some ⟨g, 0, none⟩) k cap) o ∧ (∀ i, i < k → Off (x i) o) ∧ Hid ((∀ i, i < j → 0 < M i) ∧ pr M j = pr N (min (2 * j) k)) ∧ Same w wr) (fun _ i _ => (k + 2 - intOf i).toNat)
              case atStart => exact ⟨0, x, N, by omega, rfl, hR2, hRw, ho1, ho2, ⟨fun i hi => absurd hi (by omega), by simp⟩, hSw⟩
              case round =>
                clear hR hcell hS hR2 hRw ho1 ho2 hSw hS2 w2
                obtain ⟨j, y, M, hj, rfl, hO, hR, ho1, ho2, HM, hS⟩ := hrel
                obtain ⟨i, HI⟩ : ∃ i : Nat, Hid (i = 2 * j) := ⟨_, rfl⟩
                rw [← HI.out]
                have hi3 : i ≤ 50010 := by have h1 := HI.out; have h2 := HC.out; omega
                by_cases hik : i < k
                · obtain ⟨g', cap', e', hcap', hcell⟩ := hR.at (by omega)
                  cases e'
                  have hjc : j + 1 ≤ c := by have h1 := HI.out; have h2 := HC.out; omega
                  have c0 := hcell i hik
                  have n0 := (hR.2 i hik).1
                  have o0 := ho2 i hik
                  obtain ⟨a0, ca0, hx0, hca0, -, -⟩ := n0.na
                  rw [hx0] at c0 n0 o0
                  have hNi := le_pr N k i hik HP.out.1
                  rw [HP.out.2] at hNi
                  have HDi : Hid (dl (N i) ≤ 8192) := Nat.le_trans (dl_mono hNi) HB.out
                  have hpi := HP.out.1 i hik
                  have HPi : Hid (0 < N i) := hpi
                  clear hNi hpi
                  by_cases hlast : i + 1 < k
                  · have c1 := hcell (i + 1) hlast
                    have n1 := (hR.2 (i + 1) hlast).1
                    obtain ⟨a1, ca1, hx1, hca1, -, -⟩ := n1.na
                    rw [hx1] at c1 n1
                    have hNi1 := le_pr N k (i + 1) hlast HP.out.1
                    rw [HP.out.2] at hNi1
                    have HDi1 : Hid (dl (N (i + 1)) ≤ 8192) := Nat.le_trans (dl_mono hNi1) HB.out
                    have HPi1 : Hid (0 < N (i + 1)) := HP.out.1 (i + 1) hlast
                    have HPr : Hid (pr M j * (N i * N (i + 1)) = pr N (min (2 * (j + 1)) k)) := by
                      show _ = _
                      rw [HI.out]; exact pr_two M N j k HM.out.2 (by have := HI.out; omega)
                    clear hcell hNi1
                    have ei : (i : Int) + 1 = ((i + 1 : Nat) : Int) := by omega
                    have hc0 : ((i : Int) + 1 < (k : Int)) := by omega
                    generalize hi1 : i + 1 = i1 at *
                    obtain ⟨d0, HD0⟩ : ∃ d0, Hid (d0 = dl (N i)) := ⟨_, rfl⟩
                    obtain ⟨d1, HD1⟩ : ∃ d1, Hid (d1 = dl (N i1)) := ⟨_, rfl⟩
                    rw [← HD0.out] at c0 o0 n0
                    rw [← HD1.out] at c1 n1
                    go_wp2_with fail
                    refine (mulLong_any _ _ _ _ _ _ wr (by have := HDi.out; omega) (by have := HDi1.out; omega) n0.na n1.na).mono ?_
                    rintro e w3 ⟨o3, rfl, hO3, hF3, hS3⟩
                    obtain ⟨a3, ca3, rfl, -⟩ := hO3.na
                    have hoff := hF3.off (fun b hb => (hO.blk b hb).2)
                    have hO' := hO.same hS3
                    have hR' := hR.same hS3
                    have hS' := hS.trans hS3
                    go_wp2_with (at_builtin; refine wpList_app w.heap.size j (N i * N i1) _ _ y M w3 (by rfl) rfl (by rfl) hO' hO3 hoff hS'.size (by omega) rfl ?_; intro o4 y4 M4 w4 hR4 hM4 hg4 hb4)
                    have hS4 : Same w w4 := Same.grown (Chg.alloc hS' _) hg4 (fun g hg => (hO'.blk g hg).1)
                    have hR5 := RowOf.grown (hR'.same ((Chg.refl _ _).alloc _)) hg4 ho1 ho2
                    go_roundw
                    case rel =>
                      refine ⟨j + 1, y4, M4, hjc, by have := HI.out; go_num, hR4, hR5, ho1.step hb4 (fun b hb => (hR'.blk b hb).2), fun t ht => (ho2 t ht).step hb4 (hR'.2 t ht).1.blk, ⟨fun t ht => ?_, ?_⟩, hS4⟩
                      · subst hM4
                        by_cases e : t = j
                        · simp only [e, if_true]; exact Nat.mul_pos HPi.out HPi1.out
                        · simp only [if_neg e]; exact HM.out.1 t (by omega)
                      · subst hM4
                        rw [pr_snoc]; exact HPr.out
                    case measure => simp [intOf]; omega
                  · have hik1 : i + 1 = k := by omega
                    have hc0 : ¬ ((i : Int) + 1 < (k : Int)) := by omega
                    have HPr : Hid (pr M j * N i = pr N (min (2 * (j + 1)) k)) := by
                      show _ = _
                      rw [HI.out]; exact pr_last M N j k HM.out.2 (by have := HI.out; omega)
                    clear hcell
                    obtain ⟨d0, HD0⟩ : ∃ d0, Hid (d0 = dl (N i)) := ⟨_, rfl⟩
                    rw [← HD0.out] at c0 o0 n0
                    go_wp2_with (at_builtin; refine wpList_app w.heap.size j (N i) _ _ y M wr (by rfl) rfl (by rfl) hO n0 o0 hS.size (by omega) rfl ?_; intro o4 y4 M4 w4 hR4 hM4 hg4 hb4)
                    have hS4 : Same w w4 := Same.grown (Chg.alloc hS _) hg4 (fun g hg => (hO.blk g hg).1)
                    have hR5 := RowOf.grown (hR.same ((Chg.refl _ _).alloc _)) hg4 ho1 ho2
                    go_roundw
                    case rel =>
                      refine ⟨j + 1, y4, M4, hjc, by have := HI.out; go_num, hR4, hR5, ho1.step hb4 (fun b hb => (hR.blk b hb).2), fun t ht => (ho2 t ht).step hb4 (hR.2 t ht).1.blk, ⟨fun t ht => ?_, ?_⟩, hS4⟩
                      · subst hM4
                        by_cases e : t = j
                        · simp only [e, if_true]; exact HPi.out
                        · simp only [if_neg e]; exact HM.out.1 t (by omega)
                      · subst hM4
                        rw [pr_snoc]; exact HPr.out
                    case measure => simp [intOf]; omega
                · have hj1 : 1 ≤ j := by have := HI.out; omega
                  obtain ⟨g', cap', rfl, hcap', -⟩ := hO.at (by omega)
                  have hjk : j < k := by have h1 := HI.out; have h2 := HC.out; omega
                  have HPr : Hid ((∀ i, i < j → 0 < M i) ∧ pr M j = fa n) := by
                    refine ⟨HM.out.1, ?_⟩
                    rw [HM.out.2, Nat.min_eq_right (by have := HI.out; omega), HP.out.2]
                  go_wp2_with fail
                  go_roundw
                  case rel => exact ⟨j, y, M, hj1, by omega, hO, HPr, hS⟩
                  case measure => exact hjk
end Go.Proofs.Ygctaj.Nt
