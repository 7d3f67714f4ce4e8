import Derived.Test.YgctajDoubleLoop
import Derived.Test.YgctajNttConvolve
namespace Go.Proofs.Ygctaj.nTTConvExact
open Go.RowKit Mem Dft Ntt
set_option linter.unusedVariables false

/-- a slice of uint8 that came in, its elements as naturals. -/
theorem row_u8 {w : World} {a : Option Addr} {len cap : Nat} {zs : List Int} (h : IsRow .u8 w a len cap zs) :
    len ≤ 9223372036854775807 ∧ Sl .u8 w (.slice a len cap) len (fun i => (zs.getD i 0).toNat) ∧ ∀ i, i < len → (zs.getD i 0).toNat < 256 := by
  rcases h with ⟨rfl, rfl, rfl, rfl⟩ | ⟨x, rfl, hl, hm, hz, hc, hw⟩
  · exact ⟨by omega, ⟨none, 0, rfl, by omega, fun h => by omega⟩, fun i hi => by omega⟩
  · have hb : ∀ i, i < len → 0 ≤ zs.getD i 0 ∧ zs.getD i 0 ≤ 255 := by
      intro i hi
      have hm : zs.getD i 0 ∈ zs := by
        rw [List.getD_eq_getElem?_getD, List.getElem?_eq_getElem (by omega)]
        exact List.getElem_mem _
      exact bounds_u8 (hw _ hm)
    refine ⟨by unfold maxLen at hm; omega, ⟨_, cap, rfl, hl, fun h1 => ?_⟩, fun i hi => by have := hb i hi; omega⟩
    obtain ⟨b, off, sp⟩ := x
    have h0 := hc 0 (by omega)
    have hsp : sp = none := by
      cases sp with
      | none => rfl
      | some s =>
        exfalso
        simp only [Addr.add, if_true, World.cell?] at h0
        split at h0 <;> simp at h0
    subst hsp
    refine ⟨b, off, rfl, fun i hi => ?_⟩
    have := hc i (by omega)
    rw [add_none] at this
    rw [this, Int.toNat_of_nonneg (hb i hi).1]

/-- the last two calls: over the limit. -/
theorem convolved_over (a a' : Option Addr) (la lb ca cb : Nat) (w : World) (h : 512 < la ∨ 512 < lb) :
    Calls Tajg.prog 46 #[.slice a la ca, .slice a' lb cb, .slice none 0 0, .bool false] w fun e w' => e = .returned (.bool true) ∧ w' = w := by
  have hE := @run_eql_slice_nil Tajg.prog 66 _ Tajg.underlying66
  by_cases h0 : 512 < la
  · have hd : decide ((512 : Int) < (la : Int)) = true := by simp; omega
    go_enter Tajg.func46, Tajg.ntmps46
    go_wp2_with fail
    go_ret
    exact ⟨rfl, rfl⟩
  · have hlb : 512 < lb := by omega
    have hd : decide ((512 : Int) < (la : Int)) = false := by simp; omega
    have hd2 : decide ((512 : Int) < (lb : Int)) = true := by simp; omega
    go_enter Tajg.func46, Tajg.ntmps46
    go_wp2_with fail
    go_ret
    exact ⟨rfl, rfl⟩

theorem convolved_nil (a a' : Option Addr) (la lb ca cb : Nat) (w : World) (h1 : la ≤ 512) (h2 : lb ≤ 512) (h : la = 0 ∨ lb = 0) :
    Calls Tajg.prog 46 #[.slice a la ca, .slice a' lb cb, .slice none 0 0, .bool true] w fun e w' => e = .returned (.bool true) ∧ Same w w' := by
  have hd : decide ((512 : Int) < (la : Int)) = false := by simp; omega
  have hd2 : decide ((512 : Int) < (lb : Int)) = false := by simp; omega
  go_enter Tajg.func46, Tajg.ntmps46
  go_wp2_with fail
  refine (doubleLoop_nil a a' la lb ca cb w h).mono ?_
  rintro e w1 ⟨rfl, hs1⟩
  go_wp2_with fail
  refine (sameInts_nil w1).mono ?_
  rintro e w2 ⟨rfl, hs2⟩
  go_wp2_with fail
  go_ret
  exact ⟨rfl, hs1.trans hs2⟩

theorem convolved_any (b off b' off' la lb ca cb B : Nat) (x y : Nat → Nat) (w : World) (h1 : 1 ≤ la) (h2 : 1 ≤ lb) (h3 : la ≤ 512) (h4 : lb ≤ 512) (hx : Rd .u8 w b off la x) (hy : Rd .u8 w b' off' lb y) (hxl : ∀ i, i < la → x i < 256) (hyl : ∀ i, i < lb → y i < 256)
    (hR : Rd .i64 w B 0 (la + lb - 1) (cvN x y lb la)) :
    Calls Tajg.prog 46 #[.slice (some ⟨b, off, none⟩) la ca, .slice (some ⟨b', off', none⟩) lb cb, .slice (some ⟨B, 0, none⟩) (la + lb - 1) (la + lb - 1), .bool true] w fun e w' => e = .returned (.bool true) ∧ Same w w' := by
  have hd : decide ((512 : Int) < (la : Int)) = false := by simp; omega
  have hd2 : decide ((512 : Int) < (lb : Int)) = false := by simp; omega
  generalize hm : la + lb - 1 = m at *
  have hml : m ≤ 1099511627776 := by omega
  have HM : Hid (la + lb - 1 = m) := hm
  clear hm
  go_enter Tajg.func46, Tajg.ntmps46
  go_wp2_with fail
  refine (doubleLoop_any b off b' off' la lb ca cb x y w h1 h2 h3 h4 hx hy hxl hyl).mono ?_
  rintro e w1 ⟨C, rfl, hC, hRC, hs1⟩
  rw [HM.out] at hRC ⊢
  have hR1 := hR.same hs1
  clear hR hx hy
  go_wp2_with fail
  refine (sameInts_any B 0 C 0 m m m _ w1 hml hR1 hRC).mono ?_
  rintro e w2 ⟨rfl, hs2⟩
  go_wp2_with fail
  go_ret
  exact ⟨rfl, hs1.trans hs2⟩

theorem pair (v0 v1 : Value) (n0 n1 : Nat) (x y : Nat → Nat) (w : World) (hn0 : n0 ≤ 9223372036854775807) (hn1 : n1 ≤ 9223372036854775807) (hv0 : Sl .u8 w v0 n0 x) (hv1 : Sl .u8 w v1 n1 y) (hxl : ∀ i, i < n0 → x i < 256) (hyl : ∀ i, i < n1 → y i < 256) :
    Calls Tajg.prog 14 #[v0, v1] w fun e w' => e = .returned (.bool true) ∧ Same w w' := by
  go_enter Tajg.func14, Tajg.ntmps14
  go_wp2_with fail
  refine (digits_any v0 n0 513 x w hn0 (by omega) (by omega) hv0).mono ?_
  rintro e w1 ⟨⟨v2, rfl, hv2⟩, rfl⟩
  go_wp2_with fail
  refine (digits_any v1 n1 513 y _ hn1 (by omega) (by omega) hv1).mono ?_
  rintro e w1 ⟨⟨v3, rfl, hv3⟩, rfl⟩
  have hxl2 : ∀ i, i < min n0 513 → x i < 256 := fun i hi => hxl i (by omega)
  have hyl2 : ∀ i, i < min n1 513 → y i < 256 := fun i hi => hyl i (by omega)
  clear hv0 hv1 hxl hyl
  obtain ⟨a, ca, rfl, hca, hra⟩ := hv2
  obtain ⟨a', cb, rfl, hcb, hrb⟩ := hv3
  generalize min n0 513 = la at *
  generalize min n1 513 = lb at *
  by_cases ho : 512 < la ∨ 512 < lb
  · clear hra hrb
    go_wp2_with fail
    refine (convolve_over a a' la lb ca cb _ ho).mono ?_
    rintro e w1 ⟨rfl, rfl⟩
    go_wp2_with fail
    refine (convolved_over a a' la lb ca cb _ ho).mono ?_
    rintro e w1 ⟨rfl, rfl⟩
    go_wp2_with fail
    go_ret
    exact ⟨rfl, Chg.refl _ _⟩
  · have h3 : la ≤ 512 := by omega
    have h4 : lb ≤ 512 := by omega
    clear ho
    by_cases hz : la = 0 ∨ lb = 0
    · clear hra hrb
      go_wp2_with fail
      refine (convolve_nil a a' la lb ca cb _ h3 h4 hz).mono ?_
      rintro e w1 ⟨rfl, rfl⟩
      go_wp2_with fail
      refine (convolved_nil a a' la lb ca cb _ h3 h4 hz).mono ?_
      rintro e w1 ⟨rfl, hs⟩
      go_wp2_with fail
      go_ret
      exact ⟨rfl, hs⟩
    · obtain ⟨b, off, rfl, hx⟩ := hra (by omega)
      obtain ⟨b', off', rfl, hy⟩ := hrb (by omega)
      have h1 : 1 ≤ la := by omega
      have h2 : 1 ≤ lb := by omega
      clear hra hrb hz
      go_wp2_with fail
      refine (convolve_any b off b' off' la lb ca cb x y _ h1 h2 h3 h4 hx hy hxl2 hyl2).mono ?_
      rintro e w1 ⟨B, rfl, hB, hR, hs⟩
      have hx1 := hx.same hs
      have hy1 := hy.same hs
      clear hx hy
      go_wp2_with fail
      refine (convolved_any b off b' off' la lb ca cb B x y _ h1 h2 h3 h4 hx1 hy1 hxl2 hyl2 hR).mono ?_
      rintro e w2 ⟨rfl, hs2⟩
      go_wp2_with fail
      go_ret
      exact ⟨rfl, hs.trans hs2⟩

theorem walk (a0 : Option Addr) (len0 cap0 : Nat) (z0 : List Int) (a1 : Option Addr) (len1 cap1 : Nat) (z1 : List Int) (w : World) (w0 : IsRow .u8 w a0 len0 cap0 z0) (w1 : IsRow .u8 w a1 len1 cap1 z1) :
    Calls Tajg.prog 14 #[.slice a0 len0 cap0, .slice a1 len1 cap1] w fun e w' => e = .returned (.bool true) ∧ Below w.heap.size w w' := by
  obtain ⟨h1, h2, h3⟩ := row_u8 w0
  obtain ⟨g1, g2, g3⟩ := row_u8 w1
  exact (pair _ _ _ _ _ _ w h1 g1 h2 g2 h3 g3).mono fun e w' ⟨he, hs⟩ => ⟨he, Chg.below (Nat.le_refl _) (Same.chg hs)⟩
end Go.Proofs.Ygctaj.nTTConvExact
