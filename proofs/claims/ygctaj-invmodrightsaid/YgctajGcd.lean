/- nlong.Gcd, walked. -/
import Derived.Test.YgctajCombine
import Derived.Test.YgctajLeads2
import Derived.Test.YgctajDivAny
namespace Go.Proofs.Ygctaj.Nt
open Go.RowKit Mem Long
set_option linter.unusedVariables false

theorem words_inj (N M : Nat) : ∀ n, (∀ i, i < n → dw N i = dw M i) → N % 256 ^ (4 * n) = M % 256 ^ (4 * n)
  | 0, _ => by simp [Nat.mod_one]
  | n + 1, h => by rw [low_succ, low_succ, words_inj N M n (fun i hi => h i (by omega)), h n (by omega)]
theorem Wn.uniq {w : World} {v : Value} {n m N M : Nat} (h : Wn w v n N) (k : Wn w v m M) : N = M := by
  have h1 := h.lt
  have k1 := k.lt
  obtain ⟨a, cap, rfl, _, _, hr⟩ := h
  obtain ⟨a', cap', e, _, _, kr⟩ := k
  cases e
  rw [← Nat.mod_eq_of_lt h1, ← Nat.mod_eq_of_lt k1]
  apply words_inj
  intro i hi
  obtain ⟨b, off, rfl, hR, _⟩ := hr (by omega)
  obtain ⟨b', off', e, kR, _⟩ := kr (by omega)
  cases e
  have := (hR i hi).symm.trans (kR i hi)
  simp at this
  exact Int.ofNat.inj this
open Classical in
/-- the number that the words v are in w. -/
noncomputable def mw (w : World) (v : Value) : Nat := if h : ∃ n N, Wn w v n N then Classical.choose (Classical.choose_spec h) else 0
theorem Wn.mw {w : World} {v : Value} {n N : Nat} (h : Wn w v n N) : Nt.mw w v = N := by
  unfold Nt.mw
  have he : ∃ n N, Wn w v n N := ⟨n, N, h⟩
  rw [dif_pos he]
  exact (Classical.choose_spec (Classical.choose_spec he)).uniq h
theorem Wn.blk {w : World} {v : Value} {n N : Nat} (h : Wn w v n N) (hn : 0 < n) : ∀ b, v.ownBlock = some b → b < w.heap.size := by
  obtain ⟨a, cap, rfl, _, _, hr⟩ := h
  obtain ⟨b, off, rfl, hR, _⟩ := hr hn
  intro b' hb
  simp [Value.ownBlock] at hb
  subst hb; exact hR.lt hn
theorem wl_mono {M N : Nat} (h : M ≤ N) : wl M ≤ wl N := by
  have := dl_mono h
  unfold wl; omega
theorem wl_eq_zero {N : Nat} (h : wl N = 0) : N = 0 := by
  have := lt_wl N
  rw [h] at this
  simpa using this
/-- what lies apart from a new slice. -/
def Nq (x y : Value) : Prop := ∀ b, x.ownBlock = some b → y.ownBlock ≠ some b

/-- freshness behind a run that turned nothing. -/
theorem Fr.keep {B B' : Nat} {w w' : World} {v : Value} {n N : Nat} (h : Fr B w v) (hB : B' ≤ B) (hv : Wn w' v n N) : Fr B' w' v := by
  intro b off sp n' c e
  obtain ⟨h1, h2, h3⟩ := h b off sp n' c e
  refine ⟨by omega, h2, ?_⟩
  obtain ⟨a, cap, rfl, _, _, hr⟩ := hv
  cases e
  intro i hi
  obtain ⟨b', off', e', _, hcl⟩ := hr (by omega)
  cases e'
  exact hcl _
theorem wl_pos {N : Nat} (h : 0 < N) : 0 < wl N := Nat.pos_of_ne_zero fun e => by have := wl_eq_zero e; omega
/-- the contract of cofactors, as a word. -/
def CofC : Prop := ∀ (U V : Int) (w : World), 0 ≤ U → U < 4611686018427387904 → 0 ≤ V → V ≤ U →
    Calls Tajg.prog 60 #[.int .i64 U, .int .i64 V] w fun e w' => ∃ a b c d u v : Int, ∃ f : Bool, e = .returned (.tuple #[.agg #[.int .i64 a, .int .i64 b, .int .i64 c, .int .i64 d], .bool f]) ∧ f = (b != 0) ∧ Cf U V a b c d u v ∧ Same w w'

set_option maxRecDepth 100000 in
set_option maxHeartbeats 8000000 in
theorem gcd_core (hcf : CofC) (a b : Value) (na nb A B : Nat) (w : World) (hna : na ≤ 2900) (hnb : nb ≤ 2900) (ha : Na w a na A) (hb : Na w b nb B) :
    Calls Tajg.prog 26 #[a, b] w fun e w' => ∃ v', e = .returned v' ∧ Nm w' v' (Nat.gcd A B) ∧ Fr w.heap.size w' v' ∧ Same w w' := by
  have hdA : dl A ≤ 2900 := by have := dl_le _ _ ha.lt; omega
  have hdB : dl B ≤ 2900 := by have := dl_le _ _ hb.lt; omega
  go_enter Tajg.func26, Tajg.ntmps26
  go_wp2_with fail
  refine (normal_any a na A w (by omega) ha).mono ?_
  rintro e w1 ⟨⟨a1, rfl, ha1, -⟩, rfl⟩
  go_wp2_with fail
  refine (normal_any b nb B _ (by omega) hb).mono ?_
  rintro e w1 ⟨⟨b1, rfl, hb1, -⟩, rfl⟩
  go_wp2_with fail
  refine (cmp_any a1 b1 (dl A) (dl B) A B w1 (by omega) (by omega) ha1.na hb1.na).mono ?_
  rintro e w2 ⟨rfl, hs2⟩
  have ha2 := ha1.same hs2
  have hb2 := hb1.same hs2
  clear ha hb ha1 hb1
  have hs2 : Hid (Same w1 w2) := hs2
  by_cases hlt : A < B
  · rw [cmp_lt hlt]
    have HG : Hid (Nat.gcd A B = Nat.gcd B A) := Nat.gcd_comm A B
    have hle : A ≤ B := Nat.le_of_lt hlt
    obtain ⟨P, rfl⟩ : ∃ P, P = B := ⟨_, rfl⟩
    obtain ⟨Q, rfl⟩ : ∃ Q, Q = A := ⟨_, rfl⟩
    obtain ⟨p, rfl⟩ : ∃ p, p = b1 := ⟨_, rfl⟩
    obtain ⟨q, rfl⟩ : ∃ q, q = a1 := ⟨_, rfl⟩
    have hp2 := hb2
    have hq2 := ha2
    have hdP := hdB
    clear hb2 ha2 hlt hdB
    go_wp2_with fail
    refine (wordsOf_any p P w2 (by omega) hp2).mono ?_
    rintro e w3 ⟨x3, rfl, hx3, hfx3, hs3⟩
    have hq3 := hq2.same hs3
    go_wp2_with fail
    refine (wordsOf_any q Q w3 (by omega) hq3).mono ?_
    rintro e w4 ⟨y4, rfl, hy4, hfy4, hs4⟩
    have hx4 := hx3.same hs4
    have hfx4 : Fr w1.heap.size w4 x3 := Fr.keep hfx3 hs2.out.size hx4
    have hfy4' : Fr w1.heap.size w4 y4 := hfy4.mono (Nat.le_trans hs2.out.size hs3.size)
    have hne4 : 0 < Q → Nq x3 y4 := fun hQ b hb e => absurd rfl (hfy4.ne (R := b) (hx3.blk (wl_pos (Nat.lt_of_lt_of_le hQ hle)) b hb) b e)
    have hS4 := (hs2.out.trans hs3).trans hs4
    clear hp2 hq2 hq3 hx3 hfx3 hfy4 hs3 hs4
    go_wp2_with fail
    go_loopw [5, 6] (fun x y wr => ∃ X Y : Nat, dl X ≤ 2900 ∧ Y ≤ X ∧ Hid (Nat.gcd X Y = Nat.gcd P Q) ∧ Wn wr x (wl X) X ∧ Wn wr y (wl Y) Y ∧ Fr w1.heap.size wr x ∧ Fr w1.heap.size wr y ∧ (0 < Y → Nq x y) ∧ Same w1 wr) (fun _ y wr => mw wr y)
    case atStart => exact ⟨P, Q, hdP, hle, rfl, hx4, hy4, hfx4, hfy4', hne4, hS4⟩
    case round =>
      clear hx4 hy4 hfx4 hfy4' hne4 hS4
      obtain ⟨X, Y, hdX, hYX, HXY, hx, hy, hfx, hfy, hne, hS⟩ := hrel
      have hmw := hy.mw
      have hwX : wl X ≤ 726 := by unfold wl; omega
      have hwYX := wl_mono hYX
      have HX : Hid (Wn wr _ (wl X) X) := hx
      have HY : Hid (Wn wr _ (wl Y) Y) := hy
      obtain ⟨ax, cx, rfl, hcx, hXl, hrx⟩ := hx
      obtain ⟨ay, cy, rfl, hcy, hYl, hry⟩ := hy
      obtain ⟨nx, Hnx⟩ : ∃ nx, Hid (nx = wl X) := ⟨_, rfl⟩
      obtain ⟨ny, Hny⟩ : ∃ ny, Hid (ny = wl Y) := ⟨_, rfl⟩
      rw [← Hnx.out] at hcx hXl hrx HX hwX hwYX hfx hne ⊢
      rw [← Hny.out] at hcy hYl hry HY hwYX hfy hne hmw ⊢
      have hmw2 : Hid (mw wr (.slice ay ny cy) = Y) := hmw
      have HrX : Hid (0 < nx → ∃ b off, ax = some ⟨b, off, none⟩ ∧ Rd .u32 wr b off nx (dw X) ∧ Cl wr b) := hrx
      have HrY : Hid (0 < ny → ∃ b off, ay = some ⟨b, off, none⟩ ∧ Rd .u32 wr b off ny (dw Y) ∧ Cl wr b) := hry
      have HXl : Hid (X < 256 ^ (4 * nx)) := hXl
      have HYl : Hid (Y < 256 ^ (4 * ny)) := hYl
      clear hrx hry hXl hYl hmw
      by_cases h3 : 2 < ny
      · have hY0 : 0 < Y := by
          rcases Nat.eq_zero_or_pos Y with e | e
          · have := Hny.out
            rw [e, wl_zero] at this; omega
          · exact e
        go_wp2_with fail
        refine (leads_any _ _ nx ny X Y wr (by omega) (by omega) (by omega) Hnx.out.symm hYX HX.out HY.out).mono ?_
        rintro e w3 ⟨t, rfl, ht, hs3⟩
        have HU : Hid (((X / 2 ^ t : Nat) : Int) < 4611686018427387904 ∧ ((Y / 2 ^ t : Nat) : Int) ≤ ((X / 2 ^ t : Nat) : Int)) := ⟨Int.ofNat_lt.2 ht, Int.ofNat_le.2 (Nat.div_le_div_right hYX)⟩
        have HU0 : Hid ((0 : Int) ≤ ((X / 2 ^ t : Nat) : Int) ∧ (0 : Int) ≤ ((Y / 2 ^ t : Nat) : Int)) := ⟨Int.natCast_nonneg _, Int.natCast_nonneg _⟩
        clear ht
        obtain ⟨UU, HUU⟩ : ∃ UU : Int, Hid (UU = ((X / 2 ^ t : Nat) : Int)) := ⟨_, rfl⟩
        obtain ⟨VV, HVV⟩ : ∃ VV : Int, Hid (VV = ((Y / 2 ^ t : Nat) : Int)) := ⟨_, rfl⟩
        rw [← HUU.out, ← HVV.out]
        rw [← HUU.out, ← HVV.out] at HU HU0
        go_wp2_with fail
        refine (hcf UU VV w3 HU0.out.1 HU.out.1 HU0.out.2 HU.out.2).mono ?_
        rintro e w4 ⟨ma, mb, mc, md, mu, mv, f, rfl, hf, hCf, hs4⟩
        have HCf : Hid (Cf UU VV ma mb mc md mu mv) := hCf
        clear hCf
        have hF : F4 (w4.alloc (Obj.cells #[Value.int IntKind.i64 ma, Value.int IntKind.i64 mb, Value.int IntKind.i64 mc, Value.int IntKind.i64 md] 83)) w4.heap.size ma mb mc md := by
          refine ⟨fun o => by rw [World.frozen?_alloc_new], ?_, ?_, ?_, ?_⟩ <;> (rw [World.cell?_alloc_new]; rfl)
        have hsT : Same wr (w4.alloc (Obj.cells #[Value.int IntKind.i64 ma, Value.int IntKind.i64 mb, Value.int IntKind.i64 mc, Value.int IntKind.i64 md] 83)) := (hs3.trans hs4).alloc _
        clear hs3 hs4
        by_cases hb0 : mb = 0
        · have hff : f = false := by rw [hf, hb0]; rfl
          subst hff
          clear hf hb0
          generalize hWT : World.alloc w4 _ = wT at hsT hF
          go_wp2_with fail
          clear hWT
          have hx5 := HX.out.same hsT
          have hy5 := HY.out.same hsT
          have hST := hS.trans hsT
          go_wp2_with fail
          refine (digitsOf_any _ nx X wT (by omega) hx5).mono ?_
          rintro e w6 ⟨d6, rfl, hd6, -, hs6⟩
          have hy6 := hy5.same hs6
          go_wp2_with fail
          refine (digitsOf_any _ ny Y w6 (by omega) hy6).mono ?_
          rintro e w7 ⟨d7, rfl, hd7, -, hs7⟩
          have hd67 := hd6.same hs7
          have hy7 := hy6.same hs7
          have hS7 := (hST.trans hs6).trans hs7
          clear hx5 hy5 hd6 hy6 hs6 hs7 hST hsT
          go_wp2_with fail
          refine (div_any d6 d7 (dl X) (dl Y) X Y w7 (by omega) (by have := dl_mono hYX; omega) hd67.na hd7.na (by omega)).mono ?_
          rintro e w8 ⟨q8, r8, rfl, -, hr8, -, -, hs8⟩
          have hy8 := hy7.same hs8
          have hmod : X % Y < Y := Nat.mod_lt _ hY0
          have hdr : dl (X % Y) ≤ 2900 := by have h1 := dl_mono (Nat.le_of_lt hmod); have h2 := dl_mono hYX; omega
          have HG2 : Hid (Nat.gcd Y (X % Y) = Nat.gcd P Q) := by
            show _ = _
            rw [← HXY.out, Nat.gcd_comm X Y, Nat.gcd_rec Y X, Nat.gcd_comm]
          go_wp2_with fail
          refine (wordsOf_any r8 (X % Y) w8 (by omega) hr8).mono ?_
          rintro e w9 ⟨y9, rfl, hy9, hfy9, hs9⟩
          have hx9 := hy8.same hs9
          have hS9 := (hS7.trans hs8).trans hs9
          have hfx9 := Fr.keep hfy (Nat.le_refl _) hx9
          have hfy9' : Fr w1.heap.size w9 y9 := hfy9.mono (hS7.trans hs8).size
          have hne9 : 0 < X % Y → Nq (.slice ay ny cy) y9 := fun _ b hb e => absurd rfl (hfy9.ne (R := b) (hy8.blk (by omega) b hb) b e)
          have hx9' : Wn w9 (.slice ay ny cy) (wl Y) Y := by rw [← Hny.out]; exact hx9
          have hdY : dl Y ≤ 2900 := by have h2 := dl_mono hYX; omega
          clear hx9 hy8 hy7 hfy9 hd67 hd7 hr8
          go_wp2_with fail
          go_roundw
          case rel => exact ⟨Y, X % Y, hdY, Nat.le_of_lt hmod, HG2, hx9', hy9, hfx9, hfy9', hne9, hS9⟩
          case measure => rw [hmw2.out, hy9.mw]; exact hmod
        · have hff : f = true := by rw [hf]; simp [hb0]
          subst hff
          clear hf
          by_cases hlen : nx ≤ ny + 1
          · generalize hWT : World.alloc w4 _ = wT at hsT hF
            obtain ⟨X1, Y1, eX1, eY1, hg1, -, hor1⟩ := HCf.out.gd X Y (by rw [HUU.out, HVV.out]; exact Ld.mk X Y (2 ^ t) (Nat.pow_pos (by decide)) hY0)
            have hor2 : X1 ≤ Y ∧ Y1 < Y ∧ Y1 < X1 := by
              rcases hor1 with ⟨_, h0, _, _⟩ | h
              · exact absurd h0 hb0
              · exact h
            have sgs := HCf.out.sg
            have sg1 : (0 ≤ ma ∧ mb ≤ 0) ∨ (ma ≤ 0 ∧ 0 ≤ mb) := by omega
            have sg2 : (0 ≤ mc ∧ md ≤ 0) ∨ (mc ≤ 0 ∧ 0 ≤ md) := by omega
            obtain ⟨bx, ox, rfl, hRx, hCx⟩ := HrX.out (by omega)
            obtain ⟨bY, oY, rfl, hRy, hCy⟩ := HrY.out (by omega)
            have hne2 : bx ≠ bY := fun e => hne hY0 bx rfl (by rw [e]; rfl)
            have hbx := hRx.lt (by omega)
            have hbY := hRy.lt (by omega)
            have hRx5 := hRx.same hsT
            have hRy5 := hRy.same hsT
            have hCx5 := hCx.kept hsT hbx
            have hCy5 := hCy.kept hsT hbY
            have hST := hS.trans hsT
            have hZ1 := hF.2.1
            have hZ2 := hF.2.2.1
            have hZ3 := hF.2.2.2.1
            have hZ4 := hF.2.2.2.2
            have HCB := combine_any bx ox nx cx bY oY ny cy X Y X1 Y1 ma mb mc md wT (by omega) hwYX hcx hcy hne2 hRx5 hCx5 hRy5 hCy5 (hRx5.lt (by omega)) (hRy5.lt (by omega)) HYl.out HCf.out.la HCf.out.lb HCf.out.lc HCf.out.ld sg1 sg2 eX1 eY1
            have HCB2 : Hid (Calls Tajg.prog 62 _ wT _) := HCB
            clear HCB hRx hRy hCx hCy sgs sg1 sg2 eX1 eY1 hor1 hRx5 hRy5 hCx5 hCy5
            go_wp2_with fail
            clear hWT
            refine HCB2.out.mono ?_
            rintro e w6 ⟨⟨v6, rfl⟩, hRx6, hRy6, hCx6, hCy6, hCg6⟩
            have hXb : X1 < 256 ^ (4 * nx) := Nat.lt_of_le_of_lt (Nat.le_trans hor2.1 hYX) HXl.out
            have hYb : Y1 < 256 ^ (4 * ny) := Nat.lt_trans hor2.2.1 HYl.out
            have hx6 : Wn w6 (.slice (some ⟨bx, ox, none⟩) nx cx) nx X1 := ⟨_, cx, rfl, hcx, hXb, fun _ => ⟨bx, ox, rfl, hRx6, hCx6⟩⟩
            have hy6 : Wn w6 (.slice (some ⟨bY, oY, none⟩) ny cy) ny Y1 := ⟨_, cy, rfl, hcy, hYb, fun _ => ⟨bY, oY, rfl, hRy6, hCy6⟩⟩
            have hfbx := (hfx bx ox none nx cx rfl).1
            have hfby := (hfy bY oY none ny cy rfl).1
            have hS6 : Same w1 w6 := hST.trans_new hCg6 (fun q o hq e => by rcases e with e | e <;> subst e <;> omega)
            have hfx6 : Fr w1.heap.size w6 (.slice (some ⟨bx, ox, none⟩) nx cx) := Fr.mk hfbx (hCx6.wr _ _)
            have hfy6 : Fr w1.heap.size w6 (.slice (some ⟨bY, oY, none⟩) ny cy) := Fr.mk hfby (hCy6.wr _ _)
            clear hRx6 hRy6 hCx6 hCy6 hCg6 HCB2 hXb hYb hST hsT hF hZ1 hZ2 hZ3 hZ4
            go_wp2_with fail
            refine (trimmed_any _ nx X1 w6 (by omega) hx6).mono ?_
            rintro e w7 ⟨⟨x7, rfl, hx7, hf7, ho7⟩, rfl⟩
            go_wp2_with fail
            refine (trimmed_any _ ny Y1 _ (by omega) hy6).mono ?_
            rintro e w7 ⟨⟨y7, rfl, hy7, hg7, hp7⟩, rfl⟩
            have hfx7 := hf7 _ hfx6
            have hfy7 := hg7 _ hfy6
            have hne7 : 0 < Y1 → Nq x7 y7 := fun _ b hb e => by
              rw [ho7] at hb
              rw [hp7] at e
              exact hne hY0 b hb e
            have hdX1 : dl X1 ≤ 2900 := by have h1 := dl_mono (Nat.le_trans hor2.1 hYX); omega
            have HG2 : Hid (Nat.gcd X1 Y1 = Nat.gcd P Q) := by show _ = _; rw [hg1, HXY.out]
            clear hx6 hy6 hf7 hg7 hfx6 hfy6 ho7 hp7
            go_wp2_with fail
            go_roundw
            case rel => exact ⟨X1, Y1, hdX1, Nat.le_of_lt hor2.2.2, HG2, hx7, hy7, hfx7, hfy7, hne7, hS6⟩
            case measure => rw [hmw2.out, hy7.mw]; exact hor2.2.1
          · generalize hWT : World.alloc w4 _ = wT at hsT hF
            go_wp2_with fail
            clear hWT
            have hx5 := HX.out.same hsT
            have hy5 := HY.out.same hsT
            have hST := hS.trans hsT
            go_wp2_with fail
            refine (digitsOf_any _ nx X wT (by omega) hx5).mono ?_
            rintro e w6 ⟨d6, rfl, hd6, -, hs6⟩
            have hy6 := hy5.same hs6
            go_wp2_with fail
            refine (digitsOf_any _ ny Y w6 (by omega) hy6).mono ?_
            rintro e w7 ⟨d7, rfl, hd7, -, hs7⟩
            have hd67 := hd6.same hs7
            have hy7 := hy6.same hs7
            have hS7 := (hST.trans hs6).trans hs7
            clear hx5 hy5 hd6 hy6 hs6 hs7 hST hsT
            go_wp2_with fail
            refine (div_any d6 d7 (dl X) (dl Y) X Y w7 (by omega) (by have := dl_mono hYX; omega) hd67.na hd7.na (by omega)).mono ?_
            rintro e w8 ⟨q8, r8, rfl, -, hr8, -, -, hs8⟩
            have hy8 := hy7.same hs8
            have hmod : X % Y < Y := Nat.mod_lt _ hY0
            have hdr : dl (X % Y) ≤ 2900 := by have h1 := dl_mono (Nat.le_of_lt hmod); have h2 := dl_mono hYX; omega
            have HG2 : Hid (Nat.gcd Y (X % Y) = Nat.gcd P Q) := by
              show _ = _
              rw [← HXY.out, Nat.gcd_comm X Y, Nat.gcd_rec Y X, Nat.gcd_comm]
            go_wp2_with fail
            refine (wordsOf_any r8 (X % Y) w8 (by omega) hr8).mono ?_
            rintro e w9 ⟨y9, rfl, hy9, hfy9, hs9⟩
            have hx9 := hy8.same hs9
            have hS9 := (hS7.trans hs8).trans hs9
            have hfx9 := Fr.keep hfy (Nat.le_refl _) hx9
            have hfy9' : Fr w1.heap.size w9 y9 := hfy9.mono (hS7.trans hs8).size
            have hne9 : 0 < X % Y → Nq (.slice ay ny cy) y9 := fun _ b hb e => absurd rfl (hfy9.ne (R := b) (hy8.blk (by omega) b hb) b e)
            have hx9' : Wn w9 (.slice ay ny cy) (wl Y) Y := by rw [← Hny.out]; exact hx9
            have hdY : dl Y ≤ 2900 := by have h2 := dl_mono hYX; omega
            clear hx9 hy8 hy7 hfy9 hd67 hd7 hr8
            go_wp2_with fail
            go_roundw
            case rel => exact ⟨Y, X % Y, hdY, Nat.le_of_lt hmod, HG2, hx9', hy9, hfx9, hfy9', hne9, hS9⟩
            case measure => rw [hmw2.out, hy9.mw]; exact hmod
      · by_cases hz : ny = 0
        · have hY0 : Y = 0 := wl_eq_zero (by rw [← Hny.out]; exact hz)
          subst hz
          have HG3 : Hid (Nat.gcd Q P = X) := by
            show _ = _
            rw [HG.out, ← HXY.out, hY0, Nat.gcd_zero_right]
          go_wp2_with fail
          refine (digitsOf_any _ nx X wr (by omega) HX.out).mono ?_
          rintro e w6 ⟨d6, rfl, hd6, hf6, hs6⟩
          go_wp2_with fail
          go_ret
          exact ⟨_, rfl, by rw [HG3.out]; exact hd6, hf6.mono hS.size, hS.trans hs6⟩
        · have hY0 : 0 < Y := by
            rcases Nat.eq_zero_or_pos Y with e | e
            · have := Hny.out
              rw [e, wl_zero] at this; omega
            · exact e
          have hnyz : ((ny : Int) == 0) = false := by rw [beq_eq_false_iff_ne]; omega
          have hdY8 : dl Y ≤ 8 := by have h1 := Hny.out; unfold wl at h1; omega
          have hdY : dl Y ≤ 2900 := by omega
          go_wp2_with fail
          refine (digitsOf_any _ nx X wr (by omega) HX.out).mono ?_
          rintro e w6 ⟨d6, rfl, hd6, -, hs6⟩
          have hy6 := HY.out.same hs6
          go_wp2_with fail
          refine (digitsOf_any _ ny Y w6 (by omega) hy6).mono ?_
          rintro e w7 ⟨d7, rfl, hd7, -, hs7⟩
          have hd67 := hd6.same hs7
          have hy7 := hy6.same hs7
          have hS7 := (hS.trans hs6).trans hs7
          clear hd6 hy6 hs6 hs7
          go_wp2_with fail
          refine (div_any d6 d7 (dl X) (dl Y) X Y w7 (by omega) (by omega) hd67.na hd7.na (by omega)).mono ?_
          rintro e w8 ⟨q8, r8, rfl, -, hr8, -, -, hs8⟩
          have hy8 := hy7.same hs8
          have hmod : X % Y < Y := Nat.mod_lt _ hY0
          have hdr : dl (X % Y) ≤ 8 := by have h1 := dl_mono (Nat.le_of_lt hmod); omega
          have hS8 := hS7.trans hs8
          clear hd67 hd7 hy7 hs8 hS7
          go_wp2_with fail
          refine (digitsOf_any _ ny Y w8 (by omega) hy8).mono ?_
          rintro e w9 ⟨d9, rfl, hd9, -, hs9⟩
          have hr9 := hr8.same hs9
          have hS9 := hS8.trans hs9
          go_wp2_with fail
          refine (value_any d9 (dl Y) Y w9 (by omega) hd9.na).mono ?_
          rintro e w10 ⟨rfl, rfl⟩
          have HYb : Hid (Y < 18446744073709551616) := Nat.lt_of_lt_of_le (lt_dl Y) (Nat.le_trans (Nat.pow_le_pow_right (by decide) hdY8) (by decide))
          have HRb : Hid (X % Y < 18446744073709551616) := Nat.lt_trans hmod HYb.out
          have HG2 : Hid (Nat.gcd Y (X % Y) = Nat.gcd Q P) := by
            show _ = _
            rw [HG.out, ← HXY.out, Nat.gcd_comm X Y, Nat.gcd_rec Y X, Nat.gcd_comm]
          obtain ⟨YI, HYI⟩ : ∃ YI : Int, Hid (YI = (Y : Int)) := ⟨_, rfl⟩
          rw [← HYI.out]
          clear hd9 hy8 hr8
          go_wp2_with fail
          refine (value_any r8 (dl (X % Y)) (X % Y) w10 (by omega) hr9.na).mono ?_
          rintro e w11 ⟨rfl, rfl⟩
          obtain ⟨RI, HRI⟩ : ∃ RI : Int, Hid (RI = ((X % Y : Nat) : Int)) := ⟨_, rfl⟩
          rw [← HRI.out]
          clear hr9
          go_wp2_with fail
          go_loopw [15, 16] (fun o i wr => ∃ u v : Nat, o = .int .u64 (u : Int) ∧ i = .int .u64 (v : Int) ∧ Hid (u < 18446744073709551616 ∧ v < 18446744073709551616 ∧ Nat.gcd u v = Nat.gcd Q P) ∧ Same w11 wr) (fun _ i _ => (intOf i).toNat)
          case atStart => exact ⟨Y, X % Y, by rw [HYI.out], by rw [HRI.out], ⟨HYb.out, HRb.out, HG2.out⟩, Chg.refl _ _⟩
          case round =>
            obtain ⟨u, v, rfl, rfl, HUV, hSr⟩ := hrel
            by_cases hv0 : v = 0
            · subst hv0
              have HGu : Hid (Nat.gcd Q P = u) := by show _ = _; rw [← HUV.out.2.2, Nat.gcd_zero_right]
              obtain ⟨UI, HUI⟩ : ∃ UI : Int, Hid (UI = (u : Int)) := ⟨_, rfl⟩
              rw [← HUI.out]
              go_wp2_with fail
              refine (small_anyX u UI wr HUV.out.1 HUI.out).mono ?_
              rintro e w12 ⟨v12, rfl, hv12, hf12, hs12⟩
              go_wp2_with fail
              go_ret
              exact ⟨_, rfl, by rw [HGu.out]; exact hv12, hf12.mono (hS9.trans hSr).size, (hS9.trans hSr).trans hs12⟩
            · have HUV2 : Hid (v < 18446744073709551616 ∧ u % v < 18446744073709551616 ∧ Nat.gcd v (u % v) = Nat.gcd Q P) := by
                refine ⟨HUV.out.2.1, Nat.lt_trans (Nat.mod_lt _ (by omega)) HUV.out.2.1, ?_⟩
                rw [← HUV.out.2.2, Nat.gcd_comm u v, Nat.gcd_rec v u, Nat.gcd_comm]
              have HMv : Hid (u % v < v) := Nat.mod_lt _ (by omega)
              obtain ⟨UI, HUI⟩ : ∃ UI : Int, Hid (UI = (u : Int)) := ⟨_, rfl⟩
              obtain ⟨VI, HVI⟩ : ∃ VI : Int, Hid (VI = (v : Int)) := ⟨_, rfl⟩
              rw [← HUI.out, ← HVI.out]
              have eM : UI % VI = ((u % v : Nat) : Int) := by rw [HUI.out, HVI.out]; rfl
              have u0 : 0 ≤ UI := by have := HUI.out; omega
              have v0 : 0 < VI := by have := HVI.out; omega
              have u1 : UI < 18446744073709551616 := by have h1 := HUI.out; have h2 := HUV.out.1; omega
              have v1 : VI < 18446744073709551616 := by have h1 := HVI.out; have h2 := HUV.out.2.1; omega
              have vz : (VI == 0) = false := by rw [beq_eq_false_iff_ne]; omega
              obtain ⟨MI, HMI⟩ : ∃ MI : Int, Hid (MI = ((u % v : Nat) : Int)) := ⟨_, rfl⟩
              rw [← HMI.out] at eM
              have m0 : 0 ≤ MI := by rw [HMI.out]; exact Int.natCast_nonneg _
              have m1 : MI < 18446744073709551616 := by rw [HMI.out]; exact Int.ofNat_lt.2 HUV2.out.2.1
              have tM : UI.tmod VI = MI := by rw [Int.tmod_eq_emod_of_nonneg u0]; exact eM
              go_wp2_with fail
              refine Text.wp_text (by kernel_rfl) (by kernel_rfl) ⟨fun c a w h => (by obtain ⟨_, _, h, _⟩ := h; cases h), fun a w h => (by obtain ⟨_, h, _⟩ := h; cases h)⟩ ?_
              intro K hK
              go_wp2_with fail
              refine hK _ _ (by rfl) ?_
              go_wp2_with fail
              go_roundw
              case rel => exact ⟨v, u % v, by rw [HVI.out], by rw [← HMI.out], HUV2, hSr.drew⟩
              case measure =>
                have h1 := HMv.out
                have h2 := HMI.out
                have h3 := HVI.out
                simp only [intOf]
                rw [h2, h3]
                omega
  · have hc := cmp_ge (Nat.le_of_not_lt hlt)
    generalize cmpN A B = C at *
    obtain ⟨hc0, hc1⟩ := hc
    have HG : Hid (Nat.gcd A B = Nat.gcd A B) := rfl
    have hle : B ≤ A := Nat.le_of_not_lt hlt
    obtain ⟨P, rfl⟩ : ∃ P, P = A := ⟨_, rfl⟩
    obtain ⟨Q, rfl⟩ : ∃ Q, Q = B := ⟨_, rfl⟩
    obtain ⟨p, rfl⟩ : ∃ p, p = a1 := ⟨_, rfl⟩
    obtain ⟨q, rfl⟩ : ∃ q, q = b1 := ⟨_, rfl⟩
    have hp2 := ha2
    have hq2 := hb2
    have hdP := hdA
    clear hb2 ha2 hlt
    go_wp2_with fail
    refine (wordsOf_any p P w2 (by omega) hp2).mono ?_
    rintro e w3 ⟨x3, rfl, hx3, hfx3, hs3⟩
    have hq3 := hq2.same hs3
    go_wp2_with fail
    refine (wordsOf_any q Q w3 (by omega) hq3).mono ?_
    rintro e w4 ⟨y4, rfl, hy4, hfy4, hs4⟩
    have hx4 := hx3.same hs4
    have hfx4 : Fr w1.heap.size w4 x3 := Fr.keep hfx3 hs2.out.size hx4
    have hfy4' : Fr w1.heap.size w4 y4 := hfy4.mono (Nat.le_trans hs2.out.size hs3.size)
    have hne4 : 0 < Q → Nq x3 y4 := fun hQ b hb e => absurd rfl (hfy4.ne (R := b) (hx3.blk (wl_pos (Nat.lt_of_lt_of_le hQ hle)) b hb) b e)
    have hS4 := (hs2.out.trans hs3).trans hs4
    clear hp2 hq2 hq3 hx3 hfx3 hfy4 hs3 hs4
    go_wp2_with fail
    go_loopw [5, 6] (fun x y wr => ∃ X Y : Nat, dl X ≤ 2900 ∧ Y ≤ X ∧ Hid (Nat.gcd X Y = Nat.gcd P Q) ∧ Wn wr x (wl X) X ∧ Wn wr y (wl Y) Y ∧ Fr w1.heap.size wr x ∧ Fr w1.heap.size wr y ∧ (0 < Y → Nq x y) ∧ Same w1 wr) (fun _ y wr => mw wr y)
    case atStart => exact ⟨P, Q, hdP, hle, rfl, hx4, hy4, hfx4, hfy4', hne4, hS4⟩
    case round =>
      clear hx4 hy4 hfx4 hfy4' hne4 hS4
      obtain ⟨X, Y, hdX, hYX, HXY, hx, hy, hfx, hfy, hne, hS⟩ := hrel
      have hmw := hy.mw
      have hwX : wl X ≤ 726 := by unfold wl; omega
      have hwYX := wl_mono hYX
      have HX : Hid (Wn wr _ (wl X) X) := hx
      have HY : Hid (Wn wr _ (wl Y) Y) := hy
      obtain ⟨ax, cx, rfl, hcx, hXl, hrx⟩ := hx
      obtain ⟨ay, cy, rfl, hcy, hYl, hry⟩ := hy
      obtain ⟨nx, Hnx⟩ : ∃ nx, Hid (nx = wl X) := ⟨_, rfl⟩
      obtain ⟨ny, Hny⟩ : ∃ ny, Hid (ny = wl Y) := ⟨_, rfl⟩
      rw [← Hnx.out] at hcx hXl hrx HX hwX hwYX hfx hne ⊢
      rw [← Hny.out] at hcy hYl hry HY hwYX hfy hne hmw ⊢
      have hmw2 : Hid (mw wr (.slice ay ny cy) = Y) := hmw
      have HrX : Hid (0 < nx → ∃ b off, ax = some ⟨b, off, none⟩ ∧ Rd .u32 wr b off nx (dw X) ∧ Cl wr b) := hrx
      have HrY : Hid (0 < ny → ∃ b off, ay = some ⟨b, off, none⟩ ∧ Rd .u32 wr b off ny (dw Y) ∧ Cl wr b) := hry
      have HXl : Hid (X < 256 ^ (4 * nx)) := hXl
      have HYl : Hid (Y < 256 ^ (4 * ny)) := hYl
      clear hrx hry hXl hYl hmw
      by_cases h3 : 2 < ny
      · have hY0 : 0 < Y := by
          rcases Nat.eq_zero_or_pos Y with e | e
          · have := Hny.out
            rw [e, wl_zero] at this; omega
          · exact e
        go_wp2_with fail
        refine (leads_any _ _ nx ny X Y wr (by omega) (by omega) (by omega) Hnx.out.symm hYX HX.out HY.out).mono ?_
        rintro e w3 ⟨t, rfl, ht, hs3⟩
        have HU : Hid (((X / 2 ^ t : Nat) : Int) < 4611686018427387904 ∧ ((Y / 2 ^ t : Nat) : Int) ≤ ((X / 2 ^ t : Nat) : Int)) := ⟨Int.ofNat_lt.2 ht, Int.ofNat_le.2 (Nat.div_le_div_right hYX)⟩
        have HU0 : Hid ((0 : Int) ≤ ((X / 2 ^ t : Nat) : Int) ∧ (0 : Int) ≤ ((Y / 2 ^ t : Nat) : Int)) := ⟨Int.natCast_nonneg _, Int.natCast_nonneg _⟩
        clear ht
        obtain ⟨UU, HUU⟩ : ∃ UU : Int, Hid (UU = ((X / 2 ^ t : Nat) : Int)) := ⟨_, rfl⟩
        obtain ⟨VV, HVV⟩ : ∃ VV : Int, Hid (VV = ((Y / 2 ^ t : Nat) : Int)) := ⟨_, rfl⟩
        rw [← HUU.out, ← HVV.out]
        rw [← HUU.out, ← HVV.out] at HU HU0
        go_wp2_with fail
        refine (hcf UU VV w3 HU0.out.1 HU.out.1 HU0.out.2 HU.out.2).mono ?_
        rintro e w4 ⟨ma, mb, mc, md, mu, mv, f, rfl, hf, hCf, hs4⟩
        have HCf : Hid (Cf UU VV ma mb mc md mu mv) := hCf
        clear hCf
        have hF : F4 (w4.alloc (Obj.cells #[Value.int IntKind.i64 ma, Value.int IntKind.i64 mb, Value.int IntKind.i64 mc, Value.int IntKind.i64 md] 83)) w4.heap.size ma mb mc md := by
          refine ⟨fun o => by rw [World.frozen?_alloc_new], ?_, ?_, ?_, ?_⟩ <;> (rw [World.cell?_alloc_new]; rfl)
        have hsT : Same wr (w4.alloc (Obj.cells #[Value.int IntKind.i64 ma, Value.int IntKind.i64 mb, Value.int IntKind.i64 mc, Value.int IntKind.i64 md] 83)) := (hs3.trans hs4).alloc _
        clear hs3 hs4
        by_cases hb0 : mb = 0
        · have hff : f = false := by rw [hf, hb0]; rfl
          subst hff
          clear hf hb0
          generalize hWT : World.alloc w4 _ = wT at hsT hF
          go_wp2_with fail
          clear hWT
          have hx5 := HX.out.same hsT
          have hy5 := HY.out.same hsT
          have hST := hS.trans hsT
          go_wp2_with fail
          refine (digitsOf_any _ nx X wT (by omega) hx5).mono ?_
          rintro e w6 ⟨d6, rfl, hd6, -, hs6⟩
          have hy6 := hy5.same hs6
          go_wp2_with fail
          refine (digitsOf_any _ ny Y w6 (by omega) hy6).mono ?_
          rintro e w7 ⟨d7, rfl, hd7, -, hs7⟩
          have hd67 := hd6.same hs7
          have hy7 := hy6.same hs7
          have hS7 := (hST.trans hs6).trans hs7
          clear hx5 hy5 hd6 hy6 hs6 hs7 hST hsT
          go_wp2_with fail
          refine (div_any d6 d7 (dl X) (dl Y) X Y w7 (by omega) (by have := dl_mono hYX; omega) hd67.na hd7.na (by omega)).mono ?_
          rintro e w8 ⟨q8, r8, rfl, -, hr8, -, -, hs8⟩
          have hy8 := hy7.same hs8
          have hmod : X % Y < Y := Nat.mod_lt _ hY0
          have hdr : dl (X % Y) ≤ 2900 := by have h1 := dl_mono (Nat.le_of_lt hmod); have h2 := dl_mono hYX; omega
          have HG2 : Hid (Nat.gcd Y (X % Y) = Nat.gcd P Q) := by
            show _ = _
            rw [← HXY.out, Nat.gcd_comm X Y, Nat.gcd_rec Y X, Nat.gcd_comm]
          go_wp2_with fail
          refine (wordsOf_any r8 (X % Y) w8 (by omega) hr8).mono ?_
          rintro e w9 ⟨y9, rfl, hy9, hfy9, hs9⟩
          have hx9 := hy8.same hs9
          have hS9 := (hS7.trans hs8).trans hs9
          have hfx9 := Fr.keep hfy (Nat.le_refl _) hx9
          have hfy9' : Fr w1.heap.size w9 y9 := hfy9.mono (hS7.trans hs8).size
          have hne9 : 0 < X % Y → Nq (.slice ay ny cy) y9 := fun _ b hb e => absurd rfl (hfy9.ne (R := b) (hy8.blk (by omega) b hb) b e)
          have hx9' : Wn w9 (.slice ay ny cy) (wl Y) Y := by rw [← Hny.out]; exact hx9
          have hdY : dl Y ≤ 2900 := by have h2 := dl_mono hYX; omega
          clear hx9 hy8 hy7 hfy9 hd67 hd7 hr8
          go_wp2_with fail
          go_roundw
          case rel => exact ⟨Y, X % Y, hdY, Nat.le_of_lt hmod, HG2, hx9', hy9, hfx9, hfy9', hne9, hS9⟩
          case measure => rw [hmw2.out, hy9.mw]; exact hmod
        · have hff : f = true := by rw [hf]; simp [hb0]
          subst hff
          clear hf
          by_cases hlen : nx ≤ ny + 1
          · generalize hWT : World.alloc w4 _ = wT at hsT hF
            obtain ⟨X1, Y1, eX1, eY1, hg1, -, hor1⟩ := HCf.out.gd X Y (by rw [HUU.out, HVV.out]; exact Ld.mk X Y (2 ^ t) (Nat.pow_pos (by decide)) hY0)
            have hor2 : X1 ≤ Y ∧ Y1 < Y ∧ Y1 < X1 := by
              rcases hor1 with ⟨_, h0, _, _⟩ | h
              · exact absurd h0 hb0
              · exact h
            have sgs := HCf.out.sg
            have sg1 : (0 ≤ ma ∧ mb ≤ 0) ∨ (ma ≤ 0 ∧ 0 ≤ mb) := by omega
            have sg2 : (0 ≤ mc ∧ md ≤ 0) ∨ (mc ≤ 0 ∧ 0 ≤ md) := by omega
            obtain ⟨bx, ox, rfl, hRx, hCx⟩ := HrX.out (by omega)
            obtain ⟨bY, oY, rfl, hRy, hCy⟩ := HrY.out (by omega)
            have hne2 : bx ≠ bY := fun e => hne hY0 bx rfl (by rw [e]; rfl)
            have hbx := hRx.lt (by omega)
            have hbY := hRy.lt (by omega)
            have hRx5 := hRx.same hsT
            have hRy5 := hRy.same hsT
            have hCx5 := hCx.kept hsT hbx
            have hCy5 := hCy.kept hsT hbY
            have hST := hS.trans hsT
            have hZ1 := hF.2.1
            have hZ2 := hF.2.2.1
            have hZ3 := hF.2.2.2.1
            have hZ4 := hF.2.2.2.2
            have HCB := combine_any bx ox nx cx bY oY ny cy X Y X1 Y1 ma mb mc md wT (by omega) hwYX hcx hcy hne2 hRx5 hCx5 hRy5 hCy5 (hRx5.lt (by omega)) (hRy5.lt (by omega)) HYl.out HCf.out.la HCf.out.lb HCf.out.lc HCf.out.ld sg1 sg2 eX1 eY1
            have HCB2 : Hid (Calls Tajg.prog 62 _ wT _) := HCB
            clear HCB hRx hRy hCx hCy sgs sg1 sg2 eX1 eY1 hor1 hRx5 hRy5 hCx5 hCy5
            go_wp2_with fail
            clear hWT
            refine HCB2.out.mono ?_
            rintro e w6 ⟨⟨v6, rfl⟩, hRx6, hRy6, hCx6, hCy6, hCg6⟩
            have hXb : X1 < 256 ^ (4 * nx) := Nat.lt_of_le_of_lt (Nat.le_trans hor2.1 hYX) HXl.out
            have hYb : Y1 < 256 ^ (4 * ny) := Nat.lt_trans hor2.2.1 HYl.out
            have hx6 : Wn w6 (.slice (some ⟨bx, ox, none⟩) nx cx) nx X1 := ⟨_, cx, rfl, hcx, hXb, fun _ => ⟨bx, ox, rfl, hRx6, hCx6⟩⟩
            have hy6 : Wn w6 (.slice (some ⟨bY, oY, none⟩) ny cy) ny Y1 := ⟨_, cy, rfl, hcy, hYb, fun _ => ⟨bY, oY, rfl, hRy6, hCy6⟩⟩
            have hfbx := (hfx bx ox none nx cx rfl).1
            have hfby := (hfy bY oY none ny cy rfl).1
            have hS6 : Same w1 w6 := hST.trans_new hCg6 (fun q o hq e => by rcases e with e | e <;> subst e <;> omega)
            have hfx6 : Fr w1.heap.size w6 (.slice (some ⟨bx, ox, none⟩) nx cx) := Fr.mk hfbx (hCx6.wr _ _)
            have hfy6 : Fr w1.heap.size w6 (.slice (some ⟨bY, oY, none⟩) ny cy) := Fr.mk hfby (hCy6.wr _ _)
            clear hRx6 hRy6 hCx6 hCy6 hCg6 HCB2 hXb hYb hST hsT hF hZ1 hZ2 hZ3 hZ4
            go_wp2_with fail
            refine (trimmed_any _ nx X1 w6 (by omega) hx6).mono ?_
            rintro e w7 ⟨⟨x7, rfl, hx7, hf7, ho7⟩, rfl⟩
            go_wp2_with fail
            refine (trimmed_any _ ny Y1 _ (by omega) hy6).mono ?_
            rintro e w7 ⟨⟨y7, rfl, hy7, hg7, hp7⟩, rfl⟩
            have hfx7 := hf7 _ hfx6
            have hfy7 := hg7 _ hfy6
            have hne7 : 0 < Y1 → Nq x7 y7 := fun _ b hb e => by
              rw [ho7] at hb
              rw [hp7] at e
              exact hne hY0 b hb e
            have hdX1 : dl X1 ≤ 2900 := by have h1 := dl_mono (Nat.le_trans hor2.1 hYX); omega
            have HG2 : Hid (Nat.gcd X1 Y1 = Nat.gcd P Q) := by show _ = _; rw [hg1, HXY.out]
            clear hx6 hy6 hf7 hg7 hfx6 hfy6 ho7 hp7
            go_wp2_with fail
            go_roundw
            case rel => exact ⟨X1, Y1, hdX1, Nat.le_of_lt hor2.2.2, HG2, hx7, hy7, hfx7, hfy7, hne7, hS6⟩
            case measure => rw [hmw2.out, hy7.mw]; exact hor2.2.1
          · generalize hWT : World.alloc w4 _ = wT at hsT hF
            go_wp2_with fail
            clear hWT
            have hx5 := HX.out.same hsT
            have hy5 := HY.out.same hsT
            have hST := hS.trans hsT
            go_wp2_with fail
            refine (digitsOf_any _ nx X wT (by omega) hx5).mono ?_
            rintro e w6 ⟨d6, rfl, hd6, -, hs6⟩
            have hy6 := hy5.same hs6
            go_wp2_with fail
            refine (digitsOf_any _ ny Y w6 (by omega) hy6).mono ?_
            rintro e w7 ⟨d7, rfl, hd7, -, hs7⟩
            have hd67 := hd6.same hs7
            have hy7 := hy6.same hs7
            have hS7 := (hST.trans hs6).trans hs7
            clear hx5 hy5 hd6 hy6 hs6 hs7 hST hsT
            go_wp2_with fail
            refine (div_any d6 d7 (dl X) (dl Y) X Y w7 (by omega) (by have := dl_mono hYX; omega) hd67.na hd7.na (by omega)).mono ?_
            rintro e w8 ⟨q8, r8, rfl, -, hr8, -, -, hs8⟩
            have hy8 := hy7.same hs8
            have hmod : X % Y < Y := Nat.mod_lt _ hY0
            have hdr : dl (X % Y) ≤ 2900 := by have h1 := dl_mono (Nat.le_of_lt hmod); have h2 := dl_mono hYX; omega
            have HG2 : Hid (Nat.gcd Y (X % Y) = Nat.gcd P Q) := by
              show _ = _
              rw [← HXY.out, Nat.gcd_comm X Y, Nat.gcd_rec Y X, Nat.gcd_comm]
            go_wp2_with fail
            refine (wordsOf_any r8 (X % Y) w8 (by omega) hr8).mono ?_
            rintro e w9 ⟨y9, rfl, hy9, hfy9, hs9⟩
            have hx9 := hy8.same hs9
            have hS9 := (hS7.trans hs8).trans hs9
            have hfx9 := Fr.keep hfy (Nat.le_refl _) hx9
            have hfy9' : Fr w1.heap.size w9 y9 := hfy9.mono (hS7.trans hs8).size
            have hne9 : 0 < X % Y → Nq (.slice ay ny cy) y9 := fun _ b hb e => absurd rfl (hfy9.ne (R := b) (hy8.blk (by omega) b hb) b e)
            have hx9' : Wn w9 (.slice ay ny cy) (wl Y) Y := by rw [← Hny.out]; exact hx9
            have hdY : dl Y ≤ 2900 := by have h2 := dl_mono hYX; omega
            clear hx9 hy8 hy7 hfy9 hd67 hd7 hr8
            go_wp2_with fail
            go_roundw
            case rel => exact ⟨Y, X % Y, hdY, Nat.le_of_lt hmod, HG2, hx9', hy9, hfx9, hfy9', hne9, hS9⟩
            case measure => rw [hmw2.out, hy9.mw]; exact hmod
      · by_cases hz : ny = 0
        · have hY0 : Y = 0 := wl_eq_zero (by rw [← Hny.out]; exact hz)
          subst hz
          have HG3 : Hid (Nat.gcd P Q = X) := by
            show _ = _
            rw [← HXY.out, hY0, Nat.gcd_zero_right]
          go_wp2_with fail
          refine (digitsOf_any _ nx X wr (by omega) HX.out).mono ?_
          rintro e w6 ⟨d6, rfl, hd6, hf6, hs6⟩
          go_wp2_with fail
          go_ret
          exact ⟨_, rfl, by rw [HG3.out]; exact hd6, hf6.mono hS.size, hS.trans hs6⟩
        · have hY0 : 0 < Y := by
            rcases Nat.eq_zero_or_pos Y with e | e
            · have := Hny.out
              rw [e, wl_zero] at this; omega
            · exact e
          have hnyz : ((ny : Int) == 0) = false := by rw [beq_eq_false_iff_ne]; omega
          have hdY8 : dl Y ≤ 8 := by have h1 := Hny.out; unfold wl at h1; omega
          have hdY : dl Y ≤ 2900 := by omega
          go_wp2_with fail
          refine (digitsOf_any _ nx X wr (by omega) HX.out).mono ?_
          rintro e w6 ⟨d6, rfl, hd6, -, hs6⟩
          have hy6 := HY.out.same hs6
          go_wp2_with fail
          refine (digitsOf_any _ ny Y w6 (by omega) hy6).mono ?_
          rintro e w7 ⟨d7, rfl, hd7, -, hs7⟩
          have hd67 := hd6.same hs7
          have hy7 := hy6.same hs7
          have hS7 := (hS.trans hs6).trans hs7
          clear hd6 hy6 hs6 hs7
          go_wp2_with fail
          refine (div_any d6 d7 (dl X) (dl Y) X Y w7 (by omega) (by omega) hd67.na hd7.na (by omega)).mono ?_
          rintro e w8 ⟨q8, r8, rfl, -, hr8, -, -, hs8⟩
          have hy8 := hy7.same hs8
          have hmod : X % Y < Y := Nat.mod_lt _ hY0
          have hdr : dl (X % Y) ≤ 8 := by have h1 := dl_mono (Nat.le_of_lt hmod); omega
          have hS8 := hS7.trans hs8
          clear hd67 hd7 hy7 hs8 hS7
          go_wp2_with fail
          refine (digitsOf_any _ ny Y w8 (by omega) hy8).mono ?_
          rintro e w9 ⟨d9, rfl, hd9, -, hs9⟩
          have hr9 := hr8.same hs9
          have hS9 := hS8.trans hs9
          go_wp2_with fail
          refine (value_any d9 (dl Y) Y w9 (by omega) hd9.na).mono ?_
          rintro e w10 ⟨rfl, rfl⟩
          have HYb : Hid (Y < 18446744073709551616) := Nat.lt_of_lt_of_le (lt_dl Y) (Nat.le_trans (Nat.pow_le_pow_right (by decide) hdY8) (by decide))
          have HRb : Hid (X % Y < 18446744073709551616) := Nat.lt_trans hmod HYb.out
          have HG2 : Hid (Nat.gcd Y (X % Y) = Nat.gcd P Q) := by
            show _ = _
            rw [← HXY.out, Nat.gcd_comm X Y, Nat.gcd_rec Y X, Nat.gcd_comm]
          obtain ⟨YI, HYI⟩ : ∃ YI : Int, Hid (YI = (Y : Int)) := ⟨_, rfl⟩
          rw [← HYI.out]
          clear hd9 hy8 hr8
          go_wp2_with fail
          refine (value_any r8 (dl (X % Y)) (X % Y) w10 (by omega) hr9.na).mono ?_
          rintro e w11 ⟨rfl, rfl⟩
          obtain ⟨RI, HRI⟩ : ∃ RI : Int, Hid (RI = ((X % Y : Nat) : Int)) := ⟨_, rfl⟩
          rw [← HRI.out]
          clear hr9
          go_wp2_with fail
          go_loopw [15, 16] (fun o i wr => ∃ u v : Nat, o = .int .u64 (u : Int) ∧ i = .int .u64 (v : Int) ∧ Hid (u < 18446744073709551616 ∧ v < 18446744073709551616 ∧ Nat.gcd u v = Nat.gcd P Q) ∧ Same w11 wr) (fun _ i _ => (intOf i).toNat)
          case atStart => exact ⟨Y, X % Y, by rw [HYI.out], by rw [HRI.out], ⟨HYb.out, HRb.out, HG2.out⟩, Chg.refl _ _⟩
          case round =>
            obtain ⟨u, v, rfl, rfl, HUV, hSr⟩ := hrel
            by_cases hv0 : v = 0
            · subst hv0
              have HGu : Hid (Nat.gcd P Q = u) := by show _ = _; rw [← HUV.out.2.2, Nat.gcd_zero_right]
              obtain ⟨UI, HUI⟩ : ∃ UI : Int, Hid (UI = (u : Int)) := ⟨_, rfl⟩
              rw [← HUI.out]
              go_wp2_with fail
              refine (small_anyX u UI wr HUV.out.1 HUI.out).mono ?_
              rintro e w12 ⟨v12, rfl, hv12, hf12, hs12⟩
              go_wp2_with fail
              go_ret
              exact ⟨_, rfl, by rw [HGu.out]; exact hv12, hf12.mono (hS9.trans hSr).size, (hS9.trans hSr).trans hs12⟩
            · have HUV2 : Hid (v < 18446744073709551616 ∧ u % v < 18446744073709551616 ∧ Nat.gcd v (u % v) = Nat.gcd P Q) := by
                refine ⟨HUV.out.2.1, Nat.lt_trans (Nat.mod_lt _ (by omega)) HUV.out.2.1, ?_⟩
                rw [← HUV.out.2.2, Nat.gcd_comm u v, Nat.gcd_rec v u, Nat.gcd_comm]
              have HMv : Hid (u % v < v) := Nat.mod_lt _ (by omega)
              obtain ⟨UI, HUI⟩ : ∃ UI : Int, Hid (UI = (u : Int)) := ⟨_, rfl⟩
              obtain ⟨VI, HVI⟩ : ∃ VI : Int, Hid (VI = (v : Int)) := ⟨_, rfl⟩
              rw [← HUI.out, ← HVI.out]
              have eM : UI % VI = ((u % v : Nat) : Int) := by rw [HUI.out, HVI.out]; rfl
              have u0 : 0 ≤ UI := by have := HUI.out; omega
              have v0 : 0 < VI := by have := HVI.out; omega
              have u1 : UI < 18446744073709551616 := by have h1 := HUI.out; have h2 := HUV.out.1; omega
              have v1 : VI < 18446744073709551616 := by have h1 := HVI.out; have h2 := HUV.out.2.1; omega
              have vz : (VI == 0) = false := by rw [beq_eq_false_iff_ne]; omega
              obtain ⟨MI, HMI⟩ : ∃ MI : Int, Hid (MI = ((u % v : Nat) : Int)) := ⟨_, rfl⟩
              rw [← HMI.out] at eM
              have m0 : 0 ≤ MI := by rw [HMI.out]; exact Int.natCast_nonneg _
              have m1 : MI < 18446744073709551616 := by rw [HMI.out]; exact Int.ofNat_lt.2 HUV2.out.2.1
              have tM : UI.tmod VI = MI := by rw [Int.tmod_eq_emod_of_nonneg u0]; exact eM
              go_wp2_with fail
              refine Text.wp_text (by kernel_rfl) (by kernel_rfl) ⟨fun c a w h => (by obtain ⟨_, _, h, _⟩ := h; cases h), fun a w h => (by obtain ⟨_, h, _⟩ := h; cases h)⟩ ?_
              intro K hK
              go_wp2_with fail
              refine hK _ _ (by rfl) ?_
              go_wp2_with fail
              go_roundw
              case rel => exact ⟨v, u % v, by rw [HVI.out], by rw [← HMI.out], HUV2, hSr.drew⟩
              case measure =>
                have h1 := HMv.out
                have h2 := HMI.out
                have h3 := HVI.out
                simp only [intOf]
                rw [h2, h3]
                omega

theorem gcd_any (a b : Value) (na nb A B : Nat) (w : World) (hna : na ≤ 2900) (hnb : nb ≤ 2900) (ha : Na w a na A) (hb : Na w b nb B) :
    Calls Tajg.prog 26 #[a, b] w fun e w' => ∃ v', e = .returned v' ∧ Nm w' v' (Nat.gcd A B) ∧ Fr w.heap.size w' v' ∧ Same w w' :=
  gcd_core (fun U V w h1 h2 h3 h4 => cofactors_any U V w h1 h2 h3 h4) a b na nb A B w hna hnb ha hb
end Go.Proofs.Ygctaj.Nt
