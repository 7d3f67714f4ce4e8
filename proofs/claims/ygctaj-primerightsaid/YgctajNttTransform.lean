import Derived.Test.YgctajNttPasses1
namespace Go.Proofs.Ygctaj.Ntt
open Go.RowKit Mem Dft
set_option linter.unusedVariables false

/-- n cells that hold the uint32 0. -/
def zeros (n : Nat) : Array Value := Array.replicate n (.int .u32 0)

theorem info136 : (Tajg.prog.info? 136).map (fun i => i.zero) = some (some (.agg (zeros 64))) := by kernel_rfl
theorem info139 : (Tajg.prog.info? 139).map (fun i => i.zero) = some (some (.agg (zeros 4096))) := by kernel_rfl

theorem wpList_alloc {P : Program} {ops : Array Oper} {Q : Exit → Act → World → Prop} {d : Option Tmp} {t ty : TypeId} {p : String} {af : Array Edge} {rest : List Oper} {a : Act} {w : World} {cs : Array Value}
    (hz : (P.info? t).map (fun i => i.zero) = some (some (.agg cs))) (h : wpList P ops Q rest (a.put d (.pointer (some ⟨w.heap.size, 0, none⟩))) (w.alloc (.cells cs t))) :
    wpList P ops Q ({ dst := d, op := .alloc t, type := ty, pos := p, after := af, guard := none } :: rest) a w := by
  refine wpList_plain rfl fun K hK => ?_
  obtain ⟨i, hi, hz2⟩ := Option.map_eq_some_iff.1 hz
  have hr : (execOp a.eval { dst := d, op := .alloc t, type := ty, pos := p, after := af, guard := none }).run P w = .ok (.value (.pointer (some ⟨w.heap.size, 0, none⟩))) (w.alloc (.cells cs t)) := by
    simp [execOp, Instr.alloc, zeroValue, typeInfo, hi, hz2, newVar, newRow, Value.cells, go_sem]
  unfold Oper.wp
  rw [hr]
  exact hK _ _ h

theorem Has.zeros (w : World) (n t : Nat) : Has (w.alloc (.cells (zeros n) t)) w.heap.size 0 n := by
  intro i hi
  refine ⟨⟨.int .u32 0, ?_⟩, ?_⟩
  · rw [Nat.zero_add, World.cell?_alloc_new]
    unfold Ntt.zeros
    simp [hi]
  · rw [World.frozen?_alloc_new]

set_option maxRecDepth 100000 in
set_option maxHeartbeats 1000000 in
theorem transform_small (b off k n cap w0 : Nat) (x : Nat → Nat) (w : World) (hn : n = 2 ^ k) (hcap : n ≤ cap) (h32 : n ≤ 32) (hw0 : w0 < 998244353)
    (hx : Rd .u32 w b off n x) (hwx : Wr w b off n) (hxl : ∀ i, i < n → x i < 998244353) (hW : k ≠ 0 → pwF (toF w0) (2 ^ (k - 1)) = -1) :
    Calls Tajg.prog 79 #[.slice (some ⟨b, off, none⟩) n cap, .int .i64 (k : Int), .int .u32 (w0 : Int)] w fun e w' =>
      e = .returned (.tuple #[]) ∧ ∃ y : Nat → Nat, Rd .u32 w' b off n y ∧ (∀ j, j < n → y j < 998244353 ∧ toF (y j) = dft (toF w0) (fun i => toF (x i)) n j) ∧ Chg (fun k o => k = b ∧ off ≤ o ∧ o < off + n) w w' := by
  have hpos : 0 < n := by rw [hn]; exact Nat.two_pow_pos k
  have hb := hx.lt hpos
  have hk : k ≤ 40 := by
    rcases Nat.lt_or_ge 40 k with h | h
    · exfalso
      have : 2 ^ 40 ≤ 2 ^ k := Nat.pow_le_pow_right (by decide) (by omega)
      omega
    · exact h
  have HN : Hid (n = 2 ^ k) := hn
  clear hn
  go_enter Tajg.func79, Tajg.ntmps79
  go_wp2_with (refine wpList_alloc info136 ?_)
  have hxa : Rd .u32 (w.alloc (.cells (zeros 64) 136)) b off n x := hx.same ((Chg.refl _ _).alloc _)
  have hwa : Wr (w.alloc (.cells (zeros 64) 136)) b off n := hwx.kept (may := fun _ _ => False) ((Chg.refl _ _).alloc _) hb
  have hza := Has.zeros w 64 136
  have hca : Same w (w.alloc (.cells (zeros 64) 136)) := (Chg.refl _ _).alloc _
  have hsz : w.heap.size < (w.alloc (.cells (zeros 64) 136)).heap.size := by simp
  generalize w.alloc (.cells (zeros 64) 136) = w1 at *
  refine Text.wp_text (by kernel_rfl) (by kernel_rfl) ⟨fun c a w h => by exact absurd h.2.1 (by simp), fun a w h => by exact absurd h.1 (by simp)⟩ ?_
  intro K hK
  go_wp2_with fail
  refine (passes_all b off k n cap w.heap.size 0 32 16 16 16 w0 x w1.drew HN.out hcap hk (by omega) (Nat.le_refl _) (Nat.le_refl _) (by decide) (by omega) hsz (by decide) hw0 hxa.drew hwa.drew hxl
    (by have := (hza.sub 0 (2 * (n / 2)) (by omega)).drew; exact this) (by have := (hza.sub 32 (2 * (n / 2)) (by omega)).drew; exact this) hW).mono ?_
  rintro e w2 ⟨rfl, y, hy, hd, hc⟩
  go_wp2_with fail
  refine hK _ _ (by rfl) ?_
  go_wp2_with fail
  refine bodyPost_ret (v := .tuple #[]) (by simp [results, Tajg.results79, go_sem]) rfl ?_
  refine ⟨rfl, y, hy, hd, ?_⟩
  have h2 : Chg (mayP b off n w.heap.size) w w2 := (Same.chg hca).drew.trans hc
  exact h2.mono fun k o hk h => by
    rcases h with h | h
    · exact h
    · omega

set_option maxRecDepth 100000 in
set_option maxHeartbeats 1000000 in
theorem transform_big (b off k n cap w0 : Nat) (x : Nat → Nat) (w : World) (hn : n = 2 ^ k) (hcap : n ≤ cap) (h32 : 32 < n) (h2048 : n ≤ 2048) (hw0 : w0 < 998244353)
    (hx : Rd .u32 w b off n x) (hwx : Wr w b off n) (hxl : ∀ i, i < n → x i < 998244353) (hW : k ≠ 0 → pwF (toF w0) (2 ^ (k - 1)) = -1) :
    Calls Tajg.prog 79 #[.slice (some ⟨b, off, none⟩) n cap, .int .i64 (k : Int), .int .u32 (w0 : Int)] w fun e w' =>
      e = .returned (.tuple #[]) ∧ ∃ y : Nat → Nat, Rd .u32 w' b off n y ∧ (∀ j, j < n → y j < 998244353 ∧ toF (y j) = dft (toF w0) (fun i => toF (x i)) n j) ∧ Chg (fun k o => k = b ∧ off ≤ o ∧ o < off + n) w w' := by
  have hpos : 0 < n := by rw [hn]; exact Nat.two_pow_pos k
  have hb := hx.lt hpos
  have hk : k ≤ 40 := by
    rcases Nat.lt_or_ge 40 k with h | h
    · exfalso
      have : 2 ^ 40 ≤ 2 ^ k := Nat.pow_le_pow_right (by decide) (by omega)
      omega
    · exact h
  have HN : Hid (n = 2 ^ k) := hn
  clear hn
  go_enter Tajg.func79, Tajg.ntmps79
  go_wp2_with (refine wpList_alloc info139 ?_)
  have hxa : Rd .u32 (w.alloc (.cells (zeros 4096) 139)) b off n x := hx.same ((Chg.refl _ _).alloc _)
  have hwa : Wr (w.alloc (.cells (zeros 4096) 139)) b off n := hwx.kept (may := fun _ _ => False) ((Chg.refl _ _).alloc _) hb
  have hza := Has.zeros w 4096 139
  have hca : Same w (w.alloc (.cells (zeros 4096) 139)) := (Chg.refl _ _).alloc _
  have hsz : w.heap.size < (w.alloc (.cells (zeros 4096) 139)).heap.size := by simp
  generalize w.alloc (.cells (zeros 4096) 139) = w1 at *
  refine Text.wp_text (by kernel_rfl) (by kernel_rfl) ⟨fun c a w h => by exact absurd h.2.1 (by simp), fun a w h => by exact absurd h.1 (by simp)⟩ ?_
  intro K hK
  go_wp2_with fail
  refine (passes_all b off k n cap w.heap.size 0 2048 1024 1024 1024 w0 x w1.drew HN.out hcap hk (by omega) (Nat.le_refl _) (Nat.le_refl _) (by decide) (by omega) hsz (by decide) hw0 hxa.drew hwa.drew hxl
    (by have := (hza.sub 0 (2 * (n / 2)) (by omega)).drew; exact this) (by have := (hza.sub 2048 (2 * (n / 2)) (by omega)).drew; rw [Nat.zero_add] at this; exact this) hW).mono ?_
  rintro e w2 ⟨rfl, y, hy, hd, hc⟩
  go_wp2_with fail
  refine hK _ _ (by rfl) ?_
  go_wp2_with fail
  go_end0
  refine ⟨rfl, y, hy, hd, ?_⟩
  have h2 : Chg (mayP b off n w.heap.size) w w2 := (Same.chg hca).drew.trans hc
  exact h2.mono fun k o hk h => by
    rcases h with h | h
    · exact h
    · omega

theorem transform_any (b off k n cap w0 : Nat) (x : Nat → Nat) (w : World) (hn : n = 2 ^ k) (hcap : n ≤ cap) (h2048 : n ≤ 2048) (hw0 : w0 < 998244353)
    (hx : Rd .u32 w b off n x) (hwx : Wr w b off n) (hxl : ∀ i, i < n → x i < 998244353) (hW : k ≠ 0 → pwF (toF w0) (2 ^ (k - 1)) = -1) :
    Calls Tajg.prog 79 #[.slice (some ⟨b, off, none⟩) n cap, .int .i64 (k : Int), .int .u32 (w0 : Int)] w fun e w' =>
      e = .returned (.tuple #[]) ∧ ∃ y : Nat → Nat, Rd .u32 w' b off n y ∧ (∀ j, j < n → y j < 998244353 ∧ toF (y j) = dft (toF w0) (fun i => toF (x i)) n j) ∧ Chg (fun k o => k = b ∧ off ≤ o ∧ o < off + n) w w' := by
  by_cases h : n ≤ 32
  · exact transform_small b off k n cap w0 x w hn hcap h hw0 hx hwx hxl hW
  · exact transform_big b off k n cap w0 x w hn hcap (by omega) h2048 hw0 hx hwx hxl hW
end Go.Proofs.Ygctaj.Ntt
