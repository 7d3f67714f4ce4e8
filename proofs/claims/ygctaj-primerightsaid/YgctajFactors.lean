/- nlong.factors, walked. -/
import Derived.Test.YgctajRowOf
import Derived.Test.YgctajLawNat
namespace Go.Proofs.Ygctaj.Nt
open Go.RowKit Mem
set_option linter.unusedVariables false

theorem small_anyX (V : Nat) (X : Int) (w : World) (hV : V < 18446744073709551616) (hX : X = (V : Int)) :
    Calls Tajg.prog 66 #[.int .u64 X] w fun e w' => ∃ v', e = .returned v' ∧ Nm w' v' V ∧ Fr w.heap.size w' v' ∧ Same w w' := by
  subst hX; exact small_any V w hV

/-- a new slice lies apart from an elder row. -/
theorem Fr.off {w w' : World} {v r : Value} (h : Fr w.heap.size w' v) (hr : ∀ b, r.ownBlock = some b → b < w.heap.size) : Off v r := by
  cases v with
  | slice a n c =>
    cases a with
    | none => exact .inl rfl
    | some p =>
      obtain ⟨b, o, sp⟩ := p
      have h1 := (h b o sp n c rfl).1
      refine .inr fun e => ?_
      have := hr b e.symm
      omega
  | _ => exact .inl rfl

/-- append of one natural to a row of one's own. -/
theorem wpList_app {ops : Array Oper} {Q : Exit → Act → World → Prop} {d : Option Tmp} {ty : TypeId} {p : String} {af : Array Edge} {rest : List Oper} {a : Act} {w : World} {s x : Operand}
    (B k Y : Nat) (v y : Value) (xs : Nat → Value) (N : Nat → Nat) (w0 : World) (hs : a.eval s = v) (hw : w = w0.alloc (.cells #[y] 24)) (hx : a.eval x = .slice (some ⟨w0.heap.size, 0, none⟩) 1 1)
    (h : RowOf B w0 v k xs N) (hy : Nm w0 y Y) (ho : Off y v) (hB : B ≤ w0.heap.size) (hk : k ≤ 1000000) (h1 : y.oneCell' = true)
    (hK : ∀ v' x' N' w', RowOf B w' v' (k + 1) x' N' → N' = (fun i => if i = k then Y else N i) → w.grownBy w' v.ownBlock → (v'.ownBlock = v.ownBlock ∨ v'.ownBlock = some (w0.heap.size + 1)) → wpList Tajg.prog ops Q rest (a.put d v') w') :
    wpList Tajg.prog ops Q ({ dst := d, op := .call { callee := .builtin .append, args := #[s, x], argTypes := #[72, 72] }, type := ty, pos := p, after := af, guard := none } :: rest) a w := by
  subst hw
  have hsa : Same w0 (w0.alloc (.cells #[y] 24)) := (Chg.refl _ _).alloc _
  have h2 := h.same hsa
  obtain ⟨i, hi, hz0, hz1, hz2⟩ := info_parts info24
  refine wpList_append_lies (P := Tajg.prog) _ rfl s x 72 rfl B 24 i (.slice none 0 0) 1 24 Tajg.underlying72 hi hz0 hz1 hz2 rfl (by omega) v k _ hs h2.1 ⟨w0.heap.size, 0, none⟩ 1 1 [y] hx rfl (World.news_of_block (heap_alloc_new w0 _)) (by simpa using h1) (by omega) (by unfold maxLen; omega) (by omega) (by simp; omega) _ rfl ?_
  intro g cap w' g1 g2 g3 g4
  have g5 := RowOf.snoc h2 (hy.same hsa) ho g1 g2 g3
  refine hK _ _ _ w' g5 rfl g2 ?_
  rcases g3 with g3 | g3
  · exact .inl g3.symm
  · refine .inr ?_
    subst g3
    simp [Value.ownBlock]

theorem Nm.one {w : World} {v : Value} {N : Nat} (h : Nm w v N) : v.oneCell' = true := by
  obtain ⟨a, cap, rfl, _⟩ := h.na; rfl
theorem quo_ok (V i Q : Nat) (h : V ≤ Q) (hQ : Q = 18446744073709551615 / i) (hi : 0 < i) : V * i < 18446744073709551616 := by
  subst hQ
  have h1 := Nat.mul_le_mul_right i h
  have h2 := Nat.div_mul_le_self 18446744073709551615 i
  omega

set_option maxRecDepth 100000 in
set_option maxHeartbeats 1000000 in
theorem factors_any (n : Nat) (w : World) (hn : n ≤ 40000) :
    Calls Tajg.prog 54 #[.int .u64 (n : Int)] w fun e w' => ∃ v' k x N, e = .returned v' ∧ 1 ≤ k ∧ k ≤ 50000 ∧ RowOf w.heap.size w' v' k x N ∧ (∀ i, i < k → 0 < N i) ∧ pr N k = fa n ∧ Same w w' := by
  go_enter Tajg.func54, Tajg.ntmps54
  go_wp2_with fail
  go_loopw [3, 4, 5] (fun o v i wr => ∃ (t k V : Nat) (x : Nat → Value) (N : Nat → Nat), 1 ≤ t ∧ t ≤ n + 1 ∧ k ≤ t ∧ Hid (t ≤ n ∨ t = 1) ∧ i = .int .u64 ((t : Int) + 1) ∧ v = .int .u64 (V : Int) ∧ Hid (V < 18446744073709551616 ∧ 0 < V) ∧ RowOf w.heap.size wr o k x N ∧ Hid ((∀ i, i < k → 0 < N i) ∧ pr N k * V = fa t) ∧ Same w wr) (fun _ _ i _ => (n + 1 - intOf i).toNat)
  case atStart => exact ⟨1, 0, 1, fun _ => .slice none 0 0, fun _ => 0, by omega, by omega, by omega, .inr rfl, rfl, rfl, ⟨by omega, by omega⟩, RowOf.nil _ _ _ _, ⟨fun i hi => absurd hi (by omega), rfl⟩, Chg.refl _ _⟩
  case round =>
    obtain ⟨t, k, V, x, N, ht, ht1, hkt, HT, rfl, rfl, HV, hR, HP, hS⟩ := hrel
    obtain ⟨X, HX⟩ : ∃ X : Int, Hid (X = (V : Int)) := ⟨_, rfl⟩
    have x0 : 0 ≤ X := by have := HX.out; omega
    have x1 : X < 18446744073709551616 := by have := HX.out; have := HV.out; omega
    rw [← HX.out]
    obtain ⟨i, HI⟩ : ∃ i : Nat, Hid (i = t + 1) := ⟨_, rfl⟩
    have hi : (t : Int) + 1 = (i : Int) := by have := HI.out; omega
    have hi2 : 2 ≤ i := by have := HI.out; omega
    have hi3 : i ≤ 50000 := by have := HI.out; omega
    rw [hi]
    by_cases hle : i ≤ n
    · obtain ⟨q, HQ⟩ : ∃ q : Nat, Hid (q = 18446744073709551615 / i) := ⟨_, rfl⟩
      have eq : (18446744073709551615 : Int) / (i : Int) = (q : Int) := by rw [HQ.out]; rfl
      have q1 : (0 : Int) ≤ (q : Int) := by omega
      have q2 : (q : Int) < 18446744073709551616 := by
        have h1 := HQ.out
        have h2 := Nat.div_le_self 18446744073709551615 i
        omega
      obtain ⟨QI, HQI⟩ : ∃ QI : Int, Hid (QI = (q : Int)) := ⟨_, rfl⟩
      rw [← HQI.out] at eq q1 q2
      have hfi : Hid (fa i = i * fa t) := by show _ = _; rw [HI.out]; rfl
      by_cases hq : QI < X
      · go_wp2_with fail
        refine (small_anyX V X wr HV.out.1 HX.out).mono ?_
        rintro e w1 ⟨y, rfl, hy, hfy, hs1⟩
        obtain ⟨ay, cy, rfl, -⟩ := hy.na
        have hR1 := hR.same hs1
        have hoff := hfy.off (fun b hb => (hR.blk b hb).2)
        have hS1 := hS.trans hs1
        go_wp2_with (at_builtin; refine wpList_app w.heap.size k V _ _ x N w1 (by rfl) rfl (by rfl) hR1 hy hoff hS1.size (by omega) rfl ?_; intro o2 x2 N2 w2 hR2 hN2 hg2 hb2)
        have hS2 : Same w w2 := Same.grown (Chg.alloc hS1 _) hg2 (fun g hg => (hR1.blk g hg).1)
        go_roundw
        case rel =>
          refine ⟨i, k + 1, i, x2, N2, by omega, by omega, by omega, .inl hle, rfl, by simp, ⟨by omega, by omega⟩, hR2, ⟨fun j hj => ?_, ?_⟩, hS2⟩
          · subst hN2
            by_cases e : j = k
            · simp [e, HV.out.2]
            · simp only [if_neg e]; exact HP.out.1 j (by omega)
          · subst hN2
            rw [pr_snoc, HP.out.2, hfi.out, Nat.mul_comm]
        case measure => simp [intOf]; omega
      · have hq' : X ≤ QI := by omega
        have HM : Hid (V * i < 18446744073709551616) := quo_ok V i q (by have h1 := HX.out; have h2 := HQI.out; omega) HQ.out (by omega)
        obtain ⟨Pm, HPm⟩ : ∃ Pm : Int, Hid (X * (i : Int) = Pm) := ⟨_, rfl⟩
        have ep : X * (i : Int) = Pm := HPm.out
        have ev : Pm = ((V * i : Nat) : Int) := by rw [← ep, HX.out]; push_cast; rfl
        have p0 : 0 ≤ Pm := by omega
        have p1 : Pm < 18446744073709551616 := by have := HM.out; omega
        have HEV : Hid (Pm = ((V * i : Nat) : Int)) := ev
        clear ev
        go_wp2_with fail
        go_roundw
        case rel =>
          refine ⟨i, k, V * i, x, N, by omega, by omega, by have := HI.out; omega, .inl hle, rfl, by rw [← HEV.out], ⟨HM.out, Nat.mul_pos HV.out.2 (by omega)⟩, hR, ⟨HP.out.1, ?_⟩, hS⟩
          rw [← Nat.mul_assoc, HP.out.2, hfi.out, Nat.mul_comm]
        case measure => simp [intOf]; omega
    · have HF : Hid (fa t = fa n) := by
        show _ = _
        have h1 := HI.out
        rcases HT.out with h | h
        · congr 1; omega
        · subst h
          have : n = 0 ∨ n = 1 := by omega
          rcases this with rfl | rfl <;> rfl
      go_wp2_with fail
      refine (small_anyX V X wr HV.out.1 HX.out).mono ?_
      rintro e w1 ⟨y, rfl, hy, hfy, hs1⟩
      obtain ⟨ay, cy, rfl, -⟩ := hy.na
      have hR1 := hR.same hs1
      have hoff := hfy.off (fun b hb => (hR.blk b hb).2)
      have hS1 := hS.trans hs1
      go_wp2_with (at_builtin; refine wpList_app w.heap.size k V _ _ x N w1 (by rfl) rfl (by rfl) hR1 hy hoff hS1.size (by omega) rfl ?_; intro o2 x2 N2 w2 hR2 hN2 hg2 hb2)
      have hS2 : Same w w2 := Same.grown (Chg.alloc hS1 _) hg2 (fun g hg => (hR1.blk g hg).1)
      go_ret
      refine ⟨_, k + 1, x2, N2, rfl, by omega, by omega, hR2, fun j hj => ?_, ?_, hS2⟩
      · subst hN2
        by_cases e : j = k
        · simp [e, HV.out.2]
        · simp only [if_neg e]; exact HP.out.1 j (by omega)
      · subst hN2
        rw [pr_snoc, HP.out.2, HF.out]
end Go.Proofs.Ygctaj.Nt
