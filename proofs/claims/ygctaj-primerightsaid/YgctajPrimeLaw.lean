/- ownNat told exactly, append of two zeros, law.under. -/
import Derived.Test.YgctajLawNat
import Derived.Test.YgctajRowOf
import Derived.Great.BuildSlice
namespace Go.Proofs.Ygctaj.Nt
open Go.RowKit Mem
set_option linter.unusedVariables false

set_option maxRecDepth 20000 in
set_option maxHeartbeats 400000 in
theorem ownNat_zero (w : World) : Calls Tajg.prog 15 #[.slice none 0 0] w fun e w' => e = .returned (.slice none 0 0) ∧ w' = w := by
  have hE := @run_eql_slice_nil Tajg.prog 22 _ Tajg.underlying22
  go_enter Tajg.func15, Tajg.ntmps15
  go_wp2_with fail
  go_ret
  exact ⟨rfl, rfl⟩

set_option maxRecDepth 20000 in
set_option maxHeartbeats 400000 in
theorem ownNat_exact (n b off cap A : Nat) (w : World) (h0 : 0 < n) (hn : n ≤ 1000000) (hc : n ≤ cap) (hR : Rd .u8 w b off n (dg A)) :
    Calls Tajg.prog 15 #[.slice (some ⟨b, off, none⟩) n cap] w fun e w' => ∃ B, e = .returned (.slice (some ⟨B, 0, none⟩) n n) ∧ Rd .u8 w' B 0 n (dg A) ∧ Cl w' B ∧ Same w w' := by
  have hE := @run_eql_slice_nil Tajg.prog 22 _ Tajg.underlying22
  go_enter Tajg.func15, Tajg.ntmps15
  go_wp2_with (first
    | (at_make; refine wpList_mkc n .u8 5 1 _ _ (by rfl) (by rfl) rfl rfl Tajg.underlying24 info5 (by omega) (by omega) ?_; intro B w1 hB1 hB2 hRB hCB hs1)
    | (refine wpList_cp n .u8 5 (by rfl) (by rfl) (Nat.min_self n).symm (hR.same hs1) hRB (hCB.wr _ _) Tajg.underlying24 size5 ?_; intro w2 hR2 hC2))
  have hC2' := hCB.kept hC2 hB2
  have hS2 : Same w w2 := hs1.trans_new hC2 (fun q o hq h => by obtain ⟨rfl, _⟩ := h; omega)
  go_ret
  exact ⟨B, rfl, hR2.done (Nat.le_refl _), hC2', hS2⟩

set_option maxRecDepth 20000 in
set_option maxHeartbeats 400000 in
theorem under_three (w : World) : Calls Tajg.prog 32 #[.slice none 0 0, .int .i64 3] w fun e w' => ∃ v', e = .returned v' ∧ Na w' v' 3 0 ∧ Same w w' := by
  go_enter Tajg.func32, Tajg.ntmps32
  go_wp2_with (first
    | (at_make; refine wpList_mkc 3 .u8 5 1 _ _ (by rfl) (by rfl) rfl rfl Tajg.underlying24 info5 (by omega) (by omega) ?_; intro B w1 hB1 hB2 hRB hCB hs1)
    | (refine wpList_cp0 5 (by rfl) (by rfl) (by rfl) Tajg.underlying24 size5 ?_))
  go_ret
  refine ⟨_, rfl, ⟨_, 3, rfl, Nat.le_refl _, by decide, fun _ => ⟨B, 0, rfl, hRB.congr fun i hi => ?_, hCB⟩⟩, hs1⟩
  unfold dg
  rw [Nat.zero_div]

theorem dg_over (A n i : Nat) (hA : A < 256 ^ n) (h : n ≤ i) : dg A i = 0 := by
  unfold dg
  rw [Nat.div_eq_of_lt (Nat.lt_of_lt_of_le hA (Nat.pow_le_pow_right (by decide) h))]

/-- what append of two zeros leaves in the new block. -/
theorem arr_two (n A : Nat) (hA : A < 256 ^ n) (zs : Array Value) (i : Nat) (hi : i < n + 2) :
    (((List.range n).map fun j => Value.int .u8 ((dg A j : Nat) : Int)).toArray ++ [Value.int .u8 0, Value.int .u8 0].toArray ++ zs)[i]? = some (Value.int .u8 ((dg A i : Nat) : Int)) := by
  rw [Array.getElem?_append_left (by simp; omega)]
  by_cases h : i < n
  · rw [Array.getElem?_append_left (by simp; omega)]
    simp [h]
  · rw [Array.getElem?_append_right (by simp; omega), dg_over A n i hA (by omega)]
    have : i = n ∨ i = n + 1 := by omega
    rcases this with rfl | rfl <;> simp
theorem new_two (w : World) (n A c : Nat) (hA : A < 256 ^ n) (hc : n + 2 ≤ c) (zs : Array Value) :
    Na (w.drew.alloc (.cells (((List.range n).map fun j => Value.int .u8 ((dg A j : Nat) : Int)).toArray ++ [Value.int .u8 0, Value.int .u8 0].toArray ++ zs) 5)) (.slice (some ⟨w.heap.size, 0, none⟩) (n + 2) c) (n + 2) A := by
  refine ⟨_, c, rfl, hc, Nat.lt_of_lt_of_le hA (Nat.pow_le_pow_right (by decide) (by omega)), fun _ => ⟨w.heap.size, 0, rfl, fun i hi => ?_, fun i => ?_⟩⟩
  · rw [Nat.zero_add]
    show (w.drew.alloc _).cell? ⟨w.drew.heap.size, i, none⟩ = _
    rw [World.cell?_alloc_new]
    exact arr_two n A hA zs i hi
  · show (w.drew.alloc _).frozen? ⟨w.drew.heap.size, i, none⟩ = _
    rw [World.frozen?_alloc_new]

theorem two_zeros (w : World) (t : TypeId) : ∀ (j : Nat) (u : Value), [Value.int .u8 0, Value.int .u8 0][j]? = some u → (w.alloc (.cells #[Value.int .u8 0, Value.int .u8 0] t)).cell? ((⟨w.heap.size, 0, none⟩ : Addr).add j) = some u := by
  intro j u h
  rw [add_none, Nat.zero_add, World.cell?_alloc_new]
  match j, h with
  | 0, h => exact h
  | 1, h => exact h
  | j + 2, h => simp at h

theorem run_build2 (w : World) : Sem.run Tajg.prog (Instr.buildSlice 24 2 #[(0, .int .u8 0), (1, .int .u8 0)]) w = .ok (.slice (some ⟨w.heap.size, 0, none⟩) 2 2) (w.alloc (.cells #[Value.int .u8 0, Value.int .u8 0] 5)) := by
  obtain ⟨i, hi, hz0, hz1, hz2⟩ := info_parts info5
  refine run_buildSlice w 24 5 2 _ _ i (.int .u8 0) Tajg.underlying24 hi hz0 (by rw [hz1]; decide) (by rw [hz1]; decide) ?_
  rw [hz1]
  kernel_rfl
theorem wpList_want {P : Program} {ops : Array Oper} {Q : Exit → Act → World → Prop} {o : Oper} {rest : List Oper} {a : Act} {w : World} (hw : Region.wanted o (yielded ops a.tmps) = true)
    (h : o.wp P a w (wpList P ops Q rest) Q) : wpList P ops Q (o :: rest) a w := by
  unfold wpList
  rw [if_pos hw]
  exact .inl h
theorem wpList_bs2 {ops : Array Oper} {Q : Exit → Act → World → Prop} {d : Option Tmp} {ty : TypeId} {p : String} {af : Array Edge} {g : Option (Nat × Bool)} {rest : List Oper} {a : Act} {w : World}
    (hw : Region.wanted { dst := d, op := .buildSlice 24 2 #[(0, .const (.int .u8 0)), (1, .const (.int .u8 0))], type := ty, pos := p, after := af, guard := g } (yielded ops a.tmps) = true)
    (h : wpList Tajg.prog ops Q rest (a.put d (.slice (some ⟨w.heap.size, 0, none⟩) 2 2)) (w.alloc (.cells #[Value.int .u8 0, Value.int .u8 0] 5))) :
    wpList Tajg.prog ops Q ({ dst := d, op := .buildSlice 24 2 #[(0, .const (.int .u8 0)), (1, .const (.int .u8 0))], type := ty, pos := p, after := af, guard := g } :: rest) a w := by
  refine wpList_want hw ?_
  have hr := run_build2 w
  have hp : (#[(0, Operand.const (Value.int .u8 0)), (1, Operand.const (Value.int .u8 0))] : Array (Nat × Operand)).map (fun x => (x.1, a.eval x.2)) = #[(0, Value.int .u8 0), (1, Value.int .u8 0)] := by simp [Act.eval]
  unfold Oper.wp execOp
  simp only [hp, Sem.run_bind, hr, Result.andThen_ok]
  exact h
theorem wpList_app2 {ops : Array Oper} {Q : Exit → Act → World → Prop} {d : Option Tmp} {p : String} {af : Array Edge} {g : Option (Nat × Bool)} {rest : List Oper} {a : Act} {w w' : World} {s x : Operand} {v vx v' : Value}
    (hw : Region.wanted { dst := d, op := .call { callee := .builtin .append, args := #[s, x], argTypes := #[24, 24] }, type := 24, pos := p, after := af, guard := g } (yielded ops a.tmps) = true)
    (hs : a.eval s = v) (hx : a.eval x = vx) (hr : Sem.run Tajg.prog (Builtin.append_ #[24, 24] 24 #[v, vx]) w = .ok v' w')
    (h : wpList Tajg.prog ops Q rest (a.put d v') w') :
    wpList Tajg.prog ops Q ({ dst := d, op := .call { callee := .builtin .append, args := #[s, x], argTypes := #[24, 24] }, type := 24, pos := p, after := af, guard := g } :: rest) a w := by
  refine wpList_want hw ?_
  unfold Oper.wp execOp
  simp only [resolve, invoke, builtin, Sem.run_bind, Sem.run_pure, Result.andThen_ok, List.map_toArray, List.map_cons, List.map_nil, hs, hx, hr]
  exact h
/-- append of two zeros to digits without room. -/
theorem run_two (n B A : Nat) (w : World) (hn : n ≤ 1000) (hA : A < 256 ^ n) (hR : Rd .u8 w B 0 n (dg A)) :
    ∃ c w', Sem.run Tajg.prog (Builtin.append_ #[24, 24] 24 #[.slice (some ⟨B, 0, none⟩) n n, .slice (some ⟨w.heap.size, 0, none⟩) 2 2]) (w.alloc (.cells #[Value.int .u8 0, Value.int .u8 0] 5)) = .ok (.slice (some ⟨w.heap.size + 1, 0, none⟩) (n + 2) c) w' ∧
      Na w' (.slice (some ⟨w.heap.size + 1, 0, none⟩) (n + 2) c) (n + 2) A ∧ Same w w' := by
  have hsa : Same w (w.alloc (.cells #[Value.int .u8 0, Value.int .u8 0] 5)) := (Chg.refl _ _).alloc _
  have hR1 := hR.same hsa
  obtain ⟨i, hi, hz0, hz1, hz2⟩ := info_parts info5
  have hlen : ((List.range n).map fun j => Value.int .u8 ((dg A j : Nat) : Int)).length = n := by simp
  have hr := run_append_grow (P := Tajg.prog) (w.alloc (.cells #[Value.int .u8 0, Value.int .u8 0] 5)) 24 24 5 i (.int .u8 0) Tajg.underlying24 hi hz0 ⟨B, 0, none⟩ n n ((List.range n).map fun j => Value.int .u8 ((dg A j : Nat) : Int)) (by rw [hlen, hz1, Nat.mul_one])
    (fun j u hj => by
      have hjn : j < n := by
        rcases Nat.lt_or_ge j n with h' | h'
        · exact h'
        · rw [List.getElem?_eq_none (by rw [hlen]; exact h')] at hj; cases hj
      rw [List.getElem?_map, List.getElem?_range hjn] at hj
      simp at hj
      subst hj
      rw [add_none]; exact hR1 j hjn)
    ⟨w.heap.size, 0, none⟩ 2 2 [Value.int .u8 0, Value.int .u8 0] (by rw [hz1]; rfl) (two_zeros w 5) (by omega) (by omega) (growslice_fits (by omega) (by rw [hz2]; omega))
  have hsz : (w.alloc (.cells #[Value.int .u8 0, Value.int .u8 0] 5)).heap.size = w.heap.size + 1 := by simp
  rw [hsz] at hr
  have hN := new_two (w.alloc (.cells #[Value.int .u8 0, Value.int .u8 0] 5)) n A _ hA (grownCap_ge (w.alloc (.cells #[Value.int .u8 0, Value.int .u8 0] 5)) (n + 2) n 5) (Builtin.zeroCells (Value.int .u8 0).cells (grownCap (w.alloc (.cells #[Value.int .u8 0, Value.int .u8 0] 5)) (n + 2) n 5 - (n + 2)))
  rw [hsz] at hN
  exact ⟨_, _, hr, hN, (hsa.drew).alloc _⟩
theorem run_two_nil (w : World) :
    ∃ c w', Sem.run Tajg.prog (Builtin.append_ #[24, 24] 24 #[.slice none 0 0, .slice (some ⟨w.heap.size, 0, none⟩) 2 2]) (w.alloc (.cells #[Value.int .u8 0, Value.int .u8 0] 5)) = .ok (.slice (some ⟨w.heap.size + 1, 0, none⟩) 2 c) w' ∧
      Na w' (.slice (some ⟨w.heap.size + 1, 0, none⟩) 2 c) 2 0 ∧ Same w w' := by
  have hsa : Same w (w.alloc (.cells #[Value.int .u8 0, Value.int .u8 0] 5)) := (Chg.refl _ _).alloc _
  obtain ⟨i, hi, hz0, hz1, hz2⟩ := info_parts info5
  have hr := run_append_nil (P := Tajg.prog) (w.alloc (.cells #[Value.int .u8 0, Value.int .u8 0] 5)) 24 24 5 i (.int .u8 0) Tajg.underlying24 hi hz0 ⟨w.heap.size, 0, none⟩ 2 2 [Value.int .u8 0, Value.int .u8 0] (by rw [hz1]; rfl) (two_zeros w 5) (by omega) (by omega) (by rw [hz2]; omega)
  have hsz : (w.alloc (.cells #[Value.int .u8 0, Value.int .u8 0] 5)).heap.size = w.heap.size + 1 := by simp
  rw [hsz] at hr
  have hN := new_two (w.alloc (.cells #[Value.int .u8 0, Value.int .u8 0] 5)) 0 0 _ (by decide) (grownCap_ge (w.alloc (.cells #[Value.int .u8 0, Value.int .u8 0] 5)) 2 0 5) (Builtin.zeroCells (Value.int .u8 0).cells (grownCap (w.alloc (.cells #[Value.int .u8 0, Value.int .u8 0] 5)) 2 0 5 - 2))
  rw [hsz] at hN
  refine ⟨_, _, hr, ?_, (hsa.drew).alloc _⟩
  simpa using hN
end Go.Proofs.Ygctaj.Nt
