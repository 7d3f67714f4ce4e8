/- mlong.products, walked. -/
import Derived.Test.YgctajNttFwd
import Derived.Test.YgctajLaws
import Derived.Test.YgctajLawNtt
import Derived.Lib.SliceRun
namespace Go.Proofs.Ygctaj.Mem
open Go.RowKit
set_option linter.unusedVariables false

/-- 'clear(s)' of integers. -/
theorem wpList_clr {P : Program} {ops : Array Oper} {Q : Exit → Act → World → Prop} {ty : TypeId} {p : String} {af : Array Edge} {rest : List Oper} {a : Act} {w : World} {d : Operand} {dT : TypeId}
    (k : IntKind) (e : TypeId) {b off n c : Nat} {xs : Nat → Nat} (hd : a.eval d = .slice (some ⟨b, off, none⟩) n c) (hn : 0 < n) (hx : Rd k w b off n xs) (hw : Wr w b off n)
    (hu : P.underlying dT = some (.slice e)) (hz : ∀ w, (zeroValue e).run P w = .ok (.int k 0) w)
    (h : ∀ (w' : World), Rd k w' b off n (fun _ => 0) → Chg (fun q o => q = b ∧ off ≤ o ∧ o < off + n) w w' → wpList P ops Q rest a w') :
    wpList P ops Q ({ dst := none, op := .call { callee := .builtin .clear, args := #[d], argTypes := #[dT] }, type := ty, pos := p, after := af, guard := none } :: rest) a w := by
  refine wpList_plain rfl fun K hK => ?_
  have hrun := Lib.run_clear_slice (P := P) w dT e ty (.int k 0) hu hz rfl rfl b off n c hn (fun j hj => by rw [hx j hj]; rfl) (fun j hj => hw j hj)
  unfold Oper.wp
  simp [execOp, resolve, invoke, builtin, hd, hrun, Result.andThen, Oper.upon]
  refine hK _ _ (h _ ?_ ?_)
  · intro j hj
    have := World.cell?_setCells_in b (List.replicate n (Value.int k 0)) off w (fun j hj => by rw [List.length_replicate] at hj; rw [hx j hj]; rfl) j (by rw [List.length_replicate]; exact hj)
    rw [this]; simp
  · exact Chg.setCells b _ off w (Chg.refl _ _) fun j hj _ => by rw [List.length_replicate] at hj; omega
end Go.Proofs.Ygctaj.Mem

namespace Go.Proofs.Ygctaj.Long
open Go.RowKit Mem Dft Ntt
set_option linter.unusedVariables false

theorem zero23 (w : World) : (zeroValue 23).run Tajg.prog w = .ok (.int .u64 0) w := by kernel_rfl

/-- t products, from block lo on, at point j. -/
def ps (X Y : Nat → Nat) (n m lo : Nat) : Nat → Nat → Nat
  | 0, _ => 0
  | t + 1, j => ps X Y n m lo t j + X ((lo + t) * n + j) * Y ((m - (lo + t)) * n + j)

/-- the bounds of the lazy sums, behind names. -/
def bd (r : Nat) : Nat := r * 996491786299899904 + 998244352
def be (r : Nat) : Nat := bd r + 996491786299899904
theorem bd_int (S r : Nat) (h : S ≤ bd (r % 16)) : ((S : Nat) : Int) ≤ 14947376795496742912 := by
  unfold bd at h
  have := Nat.mod_lt r (show 16 > 0 by decide)
  have h4 : r % 16 * 996491786299899904 ≤ 15 * 996491786299899904 := Nat.mul_le_mul_right _ (by omega)
  omega
theorem be_int (S r : Nat) (h : S ≤ be (r % 16)) : ((S : Nat) : Int) ≤ 15943868581796642816 := by
  unfold be bd at h
  have := Nat.mod_lt r (show 16 > 0 by decide)
  have h4 : r % 16 * 996491786299899904 ≤ 15 * 996491786299899904 := Nat.mul_le_mul_right _ (by omega)
  omega
theorem prod_int (u v : Nat) (h1 : u < 998244353) (h2 : v < 998244353) : ((u : Nat) : Int) * ((v : Nat) : Int) ≤ 996491786299899904 := by
  have h5 : u * v ≤ 998244352 * 998244352 := Nat.mul_le_mul (by omega) (by omega)
  rw [← Int.natCast_mul]; omega
theorem sum_be (S u v r : Nat) (h : S ≤ bd r) (h1 : u < 998244353) (h2 : v < 998244353) : S + u * v ≤ be r := by
  have h5 : u * v ≤ 998244352 * 998244352 := Nat.mul_le_mul (by omega) (by omega)
  unfold be; omega
theorem be_bd (T r : Nat) (h : T ≤ be r) : T ≤ bd (r + 1) := by
  unfold be bd at h
  unfold bd
  omega
theorem mod_bd (T r : Nat) : T % 998244353 ≤ bd r := by
  have h1 : T % 998244353 < 998244353 := Nat.mod_lt _ (by decide)
  unfold bd; omega

set_option maxRecDepth 100000 in
set_option maxHeartbeats 4000000 in
theorem products_any (Bs n cs Bx ox lx cx By oy ly cy lo hi m : Nat) (S0 X Y : Nat → Nat) (w : World) (hn1 : 1 ≤ n) (hn2 : n ≤ 2048) (hlo : lo < hi) (hhi : hi * n ≤ lx) (hm : hi ≤ m + 1) (hmy : (m - lo + 1) * n ≤ ly)
    (hlx : lx ≤ cx) (hly : ly ≤ cy) (hcx : cx ≤ 1099511627776) (hcy : cy ≤ 1099511627776) (hmm : m ≤ 1099511627776)
    (hS : Rd .u64 w Bs 0 n S0) (hW : Wr w Bs 0 n) (hX : Rd .u32 w Bx ox lx X) (hY : Rd .u32 w By oy ly Y) (hXl : ∀ i, i < lx → X i < 998244353) (hYl : ∀ i, i < ly → Y i < 998244353) (hne1 : Bs ≠ Bx) (hne2 : Bs ≠ By) :
    Calls Tajg.prog 116 #[.slice (some ⟨Bs, 0, none⟩) n cs, .slice (some ⟨Bx, ox, none⟩) lx cx, .slice (some ⟨By, oy, none⟩) ly cy, .int .i64 (lo : Int), .int .i64 (hi : Int), .int .i64 (m : Int)] w fun e w' =>
      e = .returned (.tuple #[]) ∧ Rd .u64 w' Bs 0 n (fun j => ps X Y n m lo (hi - lo) j % 998244353) ∧ Chg (fun k o => k = Bs ∧ 0 ≤ o ∧ o < 0 + n) w w' := by
  have HXL : Hid (∀ i, i < lx → X i < 998244353) := hXl
  have HYL : Hid (∀ i, i < ly → Y i < 998244353) := hYl
  have HHI : Hid (hi * n ≤ lx) := hhi
  have HMY : Hid ((m - lo + 1) * n ≤ ly) := hmy
  clear hXl hYl hhi hmy
  go_enter Tajg.func116, Tajg.ntmps116
  go_wp2_with (refine wpList_clr .u64 23 (by rfl) (by omega) hS hW Tajg.underlying61 zero23 ?_; intro w2 hS2 hC2)
  have hW2 := hW.kept hC2 (hS.lt (by omega))
  have hX2 := hX.kept hC2 (by omega)
  have hY2 := hY.kept hC2 (by omega)
  have hbs := hS.lt (by omega)
  clear hS hW hX hY
  go_wp2_with fail
  go_loopw [13] (fun i wr => ∃ (i' : Nat) (Sv : Nat → Nat), lo ≤ i' ∧ i' ≤ hi ∧ i = .int .i64 i' ∧ Rd .u64 wr Bs 0 n Sv ∧ Hid (∀ j, j < n → Sv j % 998244353 = ps X Y n m lo (i' - lo) j % 998244353 ∧ Sv j ≤ bd ((i' - lo) % 16) ∧ (i' = hi → Sv j < 998244353)) ∧ Wr wr Bs 0 n ∧ Rd .u32 wr Bx ox lx X ∧ Rd .u32 wr By oy ly Y ∧ Chg (fun k o => k = Bs ∧ 0 ≤ o ∧ o < 0 + n) w wr) (fun i _ => hi - (intOf i).toNat)
  case atStart =>
    refine ⟨lo, fun _ => 0, Nat.le_refl _, by omega, rfl, hS2, ?_, hW2, hX2, hY2, hC2⟩
    intro j hj
    rw [Nat.sub_self]
    exact ⟨by rw [ps], Nat.zero_le _, fun h => by omega⟩
  case round =>
    clear hS2 hW2 hX2 hY2 hC2
    obtain ⟨i, Sv, hil, hih, rfl, hS, HS, hW, hX, hY, hC⟩ := hrel
    by_cases hlt : i < hi
    · obtain ⟨d, hd⟩ : ∃ d, m = i + d := ⟨m - i, by omega⟩
      have hp1 : i * n + n ≤ lx := by
        have h1 : (i + 1) * n ≤ hi * n := Nat.mul_le_mul_right _ (by omega)
        have h2 := HHI.out
        rw [Nat.add_mul, Nat.one_mul] at h1; omega
      have hq1 : d * n + n ≤ ly := by
        have h1 : (d + 1) * n ≤ (m - lo + 1) * n := Nat.mul_le_mul_right _ (by omega)
        have h2 := HMY.out
        rw [Nat.add_mul, Nat.one_mul] at h1; omega
      have hmd : (m : Int) - (i : Int) = (d : Int) := by omega
      have hpI : (i : Int) * (n : Int) = ((i * n : Nat) : Int) := by simp
      have hqI : (d : Int) * (n : Int) = ((d * n : Nat) : Int) := by simp
      have HNX : Hid (∀ j, ps X Y n m lo (i + 1 - lo) j = ps X Y n m lo (i - lo) j + X (i * n + j) * Y (d * n + j)) := by
        intro j
        rw [show i + 1 - lo = i - lo + 1 from by omega, ps, show lo + (i - lo) = i from by omega, show m - i = d from by omega]
      have HMD : Hid (m = i + d) := hd
      clear hd
      generalize hpe : i * n = p at *
      generalize hqe : d * n = q at *
      have HPE : Hid (i * n = p) := hpe
      clear hpe hqe
      have hXs := hX.sub p n (by omega)
      have hYs := hY.sub q n (by omega)
      go_wp2_with fail
      refine Text.wp_text (by kernel_rfl) (by kernel_rfl) ⟨fun c a w h => by exact absurd h.2.1 (by simp), fun a w h => by exact absurd h.1 (by simp)⟩ ?_
      intro K hK
      go_wp2_with fail
      refine hK _ _ (by rfl) ?_
      clear hK
      go_wp2_with fail
      go_loopw [16] (fun j wr => ∃ j' : Nat, j' ≤ n ∧ j = .int .i64 j' ∧ Rd .u64 wr Bs 0 n (mix j' (fun j => Sv j + X (p + j) * Y (q + j)) Sv) ∧ Wr wr Bs 0 n ∧ Rd .u32 wr Bx ox lx X ∧ Rd .u32 wr By oy ly Y ∧ Chg (fun k o => k = Bs ∧ 0 ≤ o ∧ o < 0 + n) w wr) (fun j _ => n - (intOf j).toNat)
      case atStart => exact ⟨0, Nat.zero_le _, rfl, hS.drew.start _, hW.drew, hX.drew, hY.drew, hC.drew⟩
      case round =>
        clear hS hW hX hY hC hXs hYs
        obtain ⟨j, hj, rfl, hS, hW, hX, hY, hC⟩ := hrel
        by_cases hjl : j < n
        · have cs := hS.at hjl
          have fs := hW j hjl
          rw [Nat.zero_add] at cs fs
          have cx1 := (hX.sub p n (by omega)) j hjl
          have cy1 := (hY.sub q n (by omega)) j hjl
          have h1 := HXL.out (p + j) (by omega)
          have h2 := HYL.out (q + j) (by omega)
          have h3 := (HS.out j hjl).2.1
          have b1 : 0 ≤ ((Sv j : Nat) : Int) := by omega
          have b2 : ((Sv j : Nat) : Int) ≤ 14947376795496742912 := bd_int _ _ h3
          have b3 : 0 ≤ ((X (p + j) : Nat) : Int) := by omega
          have b4 : ((X (p + j) : Nat) : Int) < 998244353 := by omega
          have b5 : 0 ≤ ((Y (q + j) : Nat) : Int) := by omega
          have b6 : ((Y (q + j) : Nat) : Int) < 998244353 := by omega
          have b7 : 0 ≤ ((X (p + j) : Nat) : Int) * ((Y (q + j) : Nat) : Int) := by rw [← Int.natCast_mul]; omega
          have b8 : ((X (p + j) : Nat) : Int) * ((Y (q + j) : Nat) : Int) ≤ 996491786299899904 := prod_int _ _ h1 h2
          have HST : Hid (Rd .u64 (wr.drew.setCell ⟨Bs, j, none⟩ (.int .u64 (((Sv j : Nat) : Int) + ((X (p + j) : Nat) : Int) * ((Y (q + j) : Nat) : Int)))) Bs 0 n (mix (j + 1) (fun j => Sv j + X (p + j) * Y (q + j)) Sv)) := by
            have := hS.drew.step hjl (((Sv j : Nat) : Int) + ((X (p + j) : Nat) : Int) * ((Y (q + j) : Nat) : Int)) (by simp)
            rw [Nat.zero_add] at this
            exact this
          clear h1 h2 h3
          generalize ((Sv j : Nat) : Int) = S at *
          generalize ((X (p + j) : Nat) : Int) = U at *
          generalize ((Y (q + j) : Nat) : Int) = V at *
          go_wp2_with fail
          refine Text.wp_text (by kernel_rfl) (by kernel_rfl) ⟨fun c a w h => by exact absurd h.2.1 (by simp), fun a w h => by exact absurd h.1 (by simp)⟩ ?_
          intro K hK
          go_wp2_with fail
          refine hK _ _ (by rfl) ?_
          go_wp2_with fail
          go_roundw
          case rel => exact ⟨j + 1, by omega, by go_num, HST.out, hW.drew.setCell _ _, hX.drew.setOther (by omega), hY.drew.setOther (by omega), hC.drew.setCell _ _ _ (by omega)⟩
          case measure => simp [intOf]; omega
        · have hS2 := hS.done (show n ≤ j by omega)
          clear hS hmd hpI hqI
          have HNXT : Hid (∀ l, l < n → (Sv l + X (p + l) * Y (q + l)) % 998244353 = ps X Y n m lo (i + 1 - lo) l % 998244353) := by
            intro l hl
            rw [HNX.out l, Nat.add_mod, (HS.out l hl).1, ← Nat.add_mod]
          have HB : Hid (∀ l, l < n → Sv l + X (p + l) * Y (q + l) ≤ be ((i - lo) % 16)) := by
            intro l hl
            exact sum_be _ _ _ _ (HS.out l hl).2.1 (HXL.out (p + l) (by omega)) (HYL.out (q + l) (by omega))
          clear HS HNX
          generalize hT : (fun j => Sv j + X (p + j) * Y (q + j)) = T at *
          have HNT : Hid (∀ l, l < n → T l % 998244353 = ps X Y n m lo (i + 1 - lo) l % 998244353) := by
            intro l hl; rw [← hT]; exact HNXT.out l hl
          have HBT : Hid (∀ l, l < n → T l ≤ be ((i - lo) % 16)) := by
            intro l hl; rw [← hT]; exact HB.out l hl
          clear hT HNXT HB
          obtain ⟨t, ht⟩ : ∃ t, i = lo + t := ⟨i - lo, by omega⟩
          have hil2 : (i : Int) - (lo : Int) = (t : Int) := by omega
          have HTI : Hid (i - lo = t) := by show _ = _; omega
          clear ht
          have hg2 : ((i : Int) == (hi : Int) - 1) = decide (i + 1 = hi) := by
            by_cases h : i + 1 = hi
            · rw [decide_eq_true h, beq_iff_eq]; omega
            · rw [decide_eq_false h, beq_eq_false_iff_ne]; omega
          by_cases hr : t % 16 = 15 ∨ i + 1 = hi
          · have hcs : ((t : Int) % 16 == 15) = true ∨ (((t : Int) % 16 == 15) = false ∧ ((i : Int) == (hi : Int) - 1) = true) := by
              by_cases h : t % 16 = 15
              · left; rw [beq_iff_eq]; omega
              · right; refine ⟨by rw [beq_eq_false_iff_ne]; omega, ?_⟩
                rw [beq_iff_eq]; omega
            clear hg2 hr
            rcases hcs with hg | ⟨hg, hg2⟩
            all_goals
              go_wp2_with fail
              go_loopw [17] (fun j wr => ∃ j' : Nat, j' ≤ n ∧ j = .int .i64 j' ∧ Rd .u64 wr Bs 0 n (mix j' (fun j => T j % 998244353) T) ∧ Wr wr Bs 0 n ∧ Rd .u32 wr Bx ox lx X ∧ Rd .u32 wr By oy ly Y ∧ Chg (fun k o => k = Bs ∧ 0 ≤ o ∧ o < 0 + n) w wr) (fun j _ => n - (intOf j).toNat)
              case atStart => exact ⟨0, Nat.zero_le _, rfl, hS2.start _, hW, hX, hY, hC⟩
              case round =>
                clear hS2 hW hX hY hC hg
                obtain ⟨j, hj, rfl, hS, hW, hX, hY, hC⟩ := hrel
                by_cases hjl : j < n
                · have cs := hS.at hjl
                  have fs := hW j hjl
                  rw [Nat.zero_add] at cs fs
                  have h3 := HBT.out j hjl
                  have b1 : 0 ≤ ((T j : Nat) : Int) := by omega
                  have b2 : ((T j : Nat) : Int) ≤ 15943868581796642816 := be_int _ _ h3
                  have HST : Hid (Rd .u64 (wr.setCell ⟨Bs, j, none⟩ (.int .u64 (((T j : Nat) : Int) % 998244353))) Bs 0 n (mix (j + 1) (fun j => T j % 998244353) T)) := by
                    have := hS.step hjl (((T j : Nat) : Int) % 998244353) (by simp)
                    rw [Nat.zero_add] at this
                    exact this
                  clear h3
                  generalize ((T j : Nat) : Int) = S at *
                  go_wp2_with fail
                  go_roundw
                  case rel => exact ⟨j + 1, by omega, by go_num, HST.out, hW.setCell _ _, hX.setOther (by omega), hY.setOther (by omega), hC.setCell _ _ _ (by omega)⟩
                  case measure => simp [intOf]; omega
                · have hS3 := hS.done (show n ≤ j by omega)
                  clear hS
                  go_wp2_with fail
                  go_roundw
                  case rel =>
                    refine ⟨i + 1, _, by omega, by omega, by go_num, hS3, ?_, hW, hX, hY, hC⟩
                    intro l hl
                    have h1 : T l % 998244353 < 998244353 := Nat.mod_lt _ (by decide)
                    exact ⟨by show T l % 998244353 % 998244353 = _; rw [Nat.mod_mod]; exact HNT.out l hl, mod_bd _ _, fun _ => h1⟩
                  case measure => simp [intOf]; omega
          · have hg : ((t : Int) % 16 == 15) = false := by rw [beq_eq_false_iff_ne]; omega
            have hg3 : ((i : Int) == (hi : Int) - 1) = false := by rw [beq_eq_false_iff_ne]; omega
            clear hg2
            go_wp2_with fail
            go_roundw
            case rel =>
              refine ⟨i + 1, _, by omega, by omega, by go_num, hS2, ?_, hW, hX, hY, hC⟩
              intro l hl
              have h2 := HBT.out l hl
              have h3 := HTI.out
              exact ⟨HNT.out l hl, by rw [show (i + 1 - lo) % 16 = (i - lo) % 16 + 1 by omega]; exact be_bd _ _ h2, fun h => by omega⟩
            case measure => simp [intOf]; omega
    · have ei : i = hi := by omega
      have hR : Rd .u64 wr Bs 0 n (fun j => ps X Y n m lo (hi - lo) j % 998244353) := by
        refine hS.congr fun j hj => ?_
        obtain ⟨h1, _, h3⟩ := HS.out j hj
        rw [← ei, ← h1, Nat.mod_eq_of_lt (h3 ei)]
      clear hS HS ei
      go_wp2_with fail
      go_end0
      exact ⟨rfl, hR, hC⟩
end Go.Proofs.Ygctaj.Long
