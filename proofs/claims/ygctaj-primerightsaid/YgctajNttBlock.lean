import Derived.Test.YgctajNttSmall
import Derived.Test.YgctajPass
import Derived.Test.YgctajOrder
namespace Go.Proofs.Ygctaj.Ntt
open Go.RowKit Mem
set_option linter.unusedVariables false

/-- n factors lie in block b from off on, two cells each. -/
def FacRd (w : World) (b off n : Nat) (f : Nat → Nat) : Prop :=
  ∀ i, i < n → w.cell? ⟨b, off + i * 2, none⟩ = some (.int .u32 ((f i : Nat) : Int)) ∧
    w.cell? ⟨b, off + i * 2 + 1, none⟩ = some (.int .u32 ((f i * 4294967296 / 998244353 : Nat) : Int))

def bfLow (x y f : Nat → Nat) (j : Nat) : Nat := low2 (x j) + shoup (f j) (y j)
def bfHigh (x y f : Nat → Nat) (j : Nat) : Nat := low2 (x j) + 1996488706 - shoup (f j) (y j)

set_option maxHeartbeats 400000 in
theorem block_any (b off off2 br offr n c1 c2 c3 : Nat) (x y f : Nat → Nat) (w : World) (hn : n ≤ 1099511627776)
    (hx : Rd .u32 w b off n x) (hy : Rd .u32 w b off2 n y) (hf : FacRd w br offr n f) (hap : off + n ≤ off2) (hbr : br ≠ b)
    (hwx : Wr w b off n) (hwy : Wr w b off2 n) (bx : ∀ i, i < n → x i < 3992977412) (by_ : ∀ i, i < n → y i < 3992977412) (bf : ∀ i, i < n → f i < 998244353) :
    Calls Tajg.prog 128 #[.slice (some ⟨b, off, none⟩) n c1, .slice (some ⟨b, off2, none⟩) n c2, .slice (some ⟨br, offr, none⟩) n c3] w fun e w' =>
      e = .returned (.tuple #[]) ∧ Rd .u32 w' b off n (bfLow x y f) ∧ Rd .u32 w' b off2 n (bfHigh x y f) ∧ Chg (fun k o => k = b ∧ (off ≤ o ∧ o < off + n ∨ off2 ≤ o ∧ o < off2 + n)) w w' := by
  go_enter Tajg.func128, Tajg.ntmps128
  go_wp2_with fail
  go_loopw [6] (fun i wr => ∃ k : Nat, k ≤ n ∧ i = .int .i64 k ∧ Rd .u32 wr b off n (mix k (bfLow x y f) x) ∧ Rd .u32 wr b off2 n (mix k (bfHigh x y f) y) ∧
      Chg (fun k o => k = b ∧ (off ≤ o ∧ o < off + n ∨ off2 ≤ o ∧ o < off2 + n)) w wr) (fun i _ => n - (intOf i).toNat)
  case atStart => exact ⟨0, Nat.zero_le _, rfl, hx.start _, hy.start _, Chg.refl _ _⟩
  case round =>
    obtain ⟨k, hk, rfl, h1, h2, hc⟩ := hrel
    by_cases hlt : k < n
    · have c1 := h1.at hlt
      have c2 := h2.at hlt
      have hbr' : br < w.heap.size := lt_of_cell (hf k hlt).1
      have c3 : wr.cell? ⟨br, offr + k * 2, none⟩ = _ := (hc.cell br _ hbr' (by simp [hbr])).trans (hf k hlt).1
      have c4 : wr.cell? ⟨br, offr + k * 2 + 1, none⟩ = _ := (hc.cell br _ hbr' (by simp [hbr])).trans (hf k hlt).2
      have f1 : wr.frozen? ⟨b, off + k, none⟩ = false := (hwx.kept hc (hx.lt (by omega))) k hlt
      have f2 : wr.frozen? ⟨b, off2 + k, none⟩ = false := (hwy.kept hc (hx.lt (by omega))) k hlt
      have bX : ((x k : Nat) : Int) < 3992977412 := by have := bx k hlt; omega
      have ht := fun w => times_any (f k) (y k) w (bf k hlt) (by have := by_ k hlt; omega)
      have bV : ((shoup (f k) (y k) : Nat) : Int) < 1996488706 := by have := shoup_lt (f k) (y k) (by have := by_ k hlt; omega); omega
      have bV0 : 0 ≤ ((shoup (f k) (y k) : Nat) : Int) := by omega
      have bX0 : 0 ≤ ((x k : Nat) : Int) := by omega
      unfold fac at ht
      have HX : Hid (bfLow x y f k = low2 (x k) + shoup (f k) (y k) ∧ bfHigh x y f k = low2 (x k) + 1996488706 - shoup (f k) (y k)) := ⟨rfl, rfl⟩
      generalize hX : ((x k : Nat) : Int) = X at *
      generalize hV : ((shoup (f k) (y k) : Nat) : Int) = V at *
      generalize ((y k : Nat) : Int) = Y at *
      generalize ((f k : Nat) : Int) = F at *
      generalize ((f k * 4294967296 / 998244353 : Nat) : Int) = R at *
      have HX' : Hid (((x k : Nat) : Int) = X ∧ ((shoup (f k) (y k) : Nat) : Int) = V) := ⟨hX, hV⟩
      have HT : Hid (∀ w, Calls Tajg.prog 83 #[.agg #[.int .u32 F, .int .u32 R], .int .u32 Y] w fun e w' => e = .returned (.int .u32 V) ∧ Same w w') := ht
      clear hx hy hf bx by_ bf hX hV ht
      by_cases h2p : X < 1996488706
      · have hl2 : ((low2 (x k) : Nat) : Int) = X := by have := HX'.out.1; rw [low2, if_pos (by omega)]; exact this
        have HL : Hid (((low2 (x k) : Nat) : Int) = X) := hl2
        clear hl2
        go_wp2_with fail
        refine Text.wp_text (by kernel_rfl) (by kernel_rfl) ⟨fun c a w h => by exact absurd h.2.1 (by simp), fun a w h => by exact absurd h.1 (by simp)⟩ ?_
        intro K hK
        go_wp2_with fail
        refine (HT.out _).mono ?_
        rintro e w' ⟨rfl, hs⟩
        go_wp2_with fail
        refine hK _ _ (by rfl) ?_
        have d1 := cellK hs c1 id
        have d2 := cellK hs c2 id
        have e1 := frozenK hs c1 f1
        have e2 := frozenK hs c2 f2
        go_wp2_with fail
        go_roundw
        case rel =>
          have hv1 : X + V = ((bfLow x y f k : Nat) : Int) := by have h1 := HL.out; have h2 := HX'.out.2; unfold bfLow; omega
          have hv2 : X + 1996488706 - V = ((bfHigh x y f k : Nat) : Int) := by have h1 := HL.out; have h2 := HX'.out.2; unfold bfHigh; omega
          have hcs : Chg (fun k o => k = b ∧ (off ≤ o ∧ o < off + n ∨ off2 ≤ o ∧ o < off2 + n)) wr w' := (Chg.refl _ _).drew.trans hs.chg
          refine ⟨k + 1, by omega, by go_num, ?_, ?_, ?_⟩
          · exact Rd.setOther (Rd.step (h1.drew.same hs) hlt _ hv1) (by omega)
          · exact Rd.step (Rd.setOther (h2.drew.same hs) (by omega)) hlt _ hv2
          · exact ((hc.trans hcs).setCell _ _ _ (by omega)).setCell _ _ _ (by omega)
        case measure => simp [intOf]; omega
      · have hl2 : ((low2 (x k) : Nat) : Int) = X - 1996488706 := by have := HX'.out.1; rw [low2, if_neg (by omega)]; omega
        have HL : Hid (((low2 (x k) : Nat) : Int) = X - 1996488706) := hl2
        clear hl2
        go_wp2_with fail
        refine Text.wp_text (by kernel_rfl) (by kernel_rfl) ⟨fun c a w h => by exact absurd h.2.1 (by simp), fun a w h => by exact absurd h.1 (by simp)⟩ ?_
        intro K hK
        go_wp2_with fail
        refine (HT.out _).mono ?_
        rintro e w' ⟨rfl, hs⟩
        go_wp2_with fail
        refine hK _ _ (by rfl) ?_
        have d1 := cellK hs c1 id
        have d2 := cellK hs c2 id
        have e1 := frozenK hs c1 f1
        have e2 := frozenK hs c2 f2
        go_wp2_with fail
        go_roundw
        case rel =>
          have hv1 : X - 1996488706 + V = ((bfLow x y f k : Nat) : Int) := by have h1 := HL.out; have h2 := HX'.out.2; unfold bfLow; omega
          have hv2 : X - V = ((bfHigh x y f k : Nat) : Int) := by have h1 := HL.out; have h2 := HX'.out.2; unfold bfHigh; omega
          have hcs : Chg (fun k o => k = b ∧ (off ≤ o ∧ o < off + n ∨ off2 ≤ o ∧ o < off2 + n)) wr w' := (Chg.refl _ _).drew.trans hs.chg
          refine ⟨k + 1, by omega, by go_num, ?_, ?_, ?_⟩
          · exact Rd.setOther (Rd.step (h1.drew.same hs) hlt _ hv1) (by omega)
          · exact Rd.step (Rd.setOther (h2.drew.same hs) (by omega)) hlt _ hv2
          · exact ((hc.trans hcs).setCell _ _ _ (by omega)).setCell _ _ _ (by omega)
        case measure => simp [intOf]; omega
    · go_wp2_with fail
      go_end0
      exact ⟨rfl, h1.done (by omega), h2.done (by omega), hc⟩
end Go.Proofs.Ygctaj.Ntt
