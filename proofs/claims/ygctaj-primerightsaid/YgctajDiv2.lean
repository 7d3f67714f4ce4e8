/- nlong.Div, walked: the long division. -/
import Derived.Test.YgctajDivMem
namespace Go.Proofs.Ygctaj.Nt
open Go.RowKit Mem Long
set_option linter.unusedVariables false

theorem cnt_ok (m s0 : Nat) (hm : 1 ≤ m) (hs : 1 ≤ s0) : 1 ≤ (m + s0 - 1) / s0 ∧ (m + s0 - 1) / s0 ≤ m := by
  refine ⟨(Nat.le_div_iff_mul_le (by omega)).2 (by omega), ?_⟩
  refine Nat.le_of_lt_succ ((Nat.div_lt_iff_lt_mul (by omega)).2 ?_)
  have : m + s0 ≤ (m + 1) * s0 := by
    rw [Nat.add_mul, Nat.one_mul]
    have := Nat.mul_le_mul_left m hs
    omega
  rw [Nat.succ_eq_add_one]; omega

theorem lead_lt (A B m : Nat) (hB : B ≠ 0) (hm : m + dl B = dl A + 1) : A / 256 ^ m < B := by
  have hd : 0 < dl B := Nat.pos_of_ne_zero fun h => hB (dl_eq_zero.1 h)
  have h1 : 256 ^ (dl B - 1) ≤ B := le_of_dl (by omega)
  refine Nat.lt_of_lt_of_le ((Nat.div_lt_iff_lt_mul (pp m)).2 ?_) h1
  rw [← Nat.pow_add, show dl B - 1 + m = dl A from by omega]
  exact lt_dl A
theorem quo_lt (A B m : Nat) (hB : B ≠ 0) (hm : m + dl B = dl A + 1) : A / B < 256 ^ m := by
  have h1 := lead_lt A B m hB hm
  refine (Nat.div_lt_iff_lt_mul (Nat.pos_of_ne_zero hB)).2 ?_
  have := (Nat.div_lt_iff_lt_mul (pp m)).1 h1
  rwa [Nat.mul_comm] at this

/-- the digits of the quotient that are found. -/
def qd (Q h i : Nat) : Nat := if i < h then 0 else dg Q i

set_option maxRecDepth 100000 in
set_option maxHeartbeats 4000000 in
theorem div_more (a b : Value) (na nb A B : Nat) (w : World) (hna : na ≤ 2900) (hnb : nb ≤ 2900) (ha : Na w a na A) (hb : Na w b nb B) (hB : B ≠ 0) (hge : dl B ≤ dl A) :
    Calls Tajg.prog 25 #[a, b] w fun e w' => ∃ q r, e = .returned (.tuple #[q, r, .bool true]) ∧ Nm w' q (A / B) ∧ Nm w' r (A % B) ∧ Fr w.heap.size w' q ∧ Fr w.heap.size w' r ∧ Same w w' := by
  have hdA : dl A ≤ 2900 := by have := dl_le _ _ ha.lt; omega
  have hdB : dl B ≤ 2900 := by have := dl_le _ _ hb.lt; omega
  have hb0 : ((dl B : Int) == 0) = false := by
    rw [beq_eq_false_iff_ne]
    have : dl B ≠ 0 := fun h => hB (dl_eq_zero.1 h)
    omega
  have hB1 : 1 ≤ dl B := Nat.pos_of_ne_zero fun h => hB (dl_eq_zero.1 h)
  go_enter Tajg.func25, Tajg.ntmps25
  go_wp2_with fail
  refine (normal_any a na A w (by omega) ha).mono ?_
  rintro e w1 ⟨⟨a1, rfl, ha1, -⟩, rfl⟩
  go_wp2_with fail
  refine (normal_any b nb B _ (by omega) hb).mono ?_
  rintro e w1 ⟨⟨b1, rfl, hb1, -⟩, rfl⟩
  clear ha hb hna hnb
  have HA : Hid (Nm w1 a1 A) := ha1
  have HB : Hid (Nm w1 b1 B) := hb1
  have hA0 : A ≠ 0 := fun h => by rw [h, dl_zero] at hge; omega
  rcases ha1.open with ⟨h, _⟩ | ⟨_, ba, oa, ca, rfl, hca, hpa, hra, hcla⟩
  · exact absurd h hA0
  obtain ⟨ab, cb, rfl, -⟩ := hb1.na
  clear ha1 hb1 hra hcla
  obtain ⟨la, HLA⟩ : ∃ la, Hid (la = dl A) := ⟨_, rfl⟩
  obtain ⟨lb, HLB⟩ : ∃ lb, Hid (lb = dl B) := ⟨_, rfl⟩
  obtain ⟨m, HM⟩ : ∃ m, Hid (m + lb = la + 1) := ⟨la + 1 - lb, by show _ = _; have h1 := HLA.out; have h2 := HLB.out; omega⟩
  have hm1 : 1 ≤ m := by have h1 := HLA.out; have h2 := HLB.out; have h3 := HM.out; omega
  have HQlt : Hid (A / B < 256 ^ m) := quo_lt A B m hB (by rw [← HLA.out, ← HLB.out]; exact HM.out)
  have HLd : Hid (A / 256 ^ m < B) := lead_lt A B m hB (by rw [← HLA.out, ← HLB.out]; exact HM.out)
  rw [← HLB.out] at hb0 hge hdB hB1 HB ⊢
  rw [← HLA.out] at hge hdA HA hca hpa ⊢
  have em : (la : Int) - (lb : Int) + 1 = (m : Int) := by have := HM.out; omega
  have hm2 : m ≤ 2900 := by have := HM.out; omega
  have HB0 : Hid (B ≠ 0) := hB
  have hmm : ¬ ((m : Int) < 1) := by omega
  clear hB hA0
  obtain ⟨s0, HS0⟩ : ∃ s0, Hid (s0 = max lb 64) := ⟨_, rfl⟩
  obtain ⟨cnt, HC⟩ : ∃ cnt, Hid (cnt = (m + s0 - 1) / s0) := ⟨_, rfl⟩
  obtain ⟨s, HS⟩ : ∃ s, Hid (s = (m + cnt - 1) / cnt) := ⟨_, rfl⟩
  have hs64 : 64 ≤ s0 := by have := HS0.out; omega
  have hc12 : 1 ≤ cnt ∧ cnt ≤ m := by rw [HC.out]; exact cnt_ok m s0 hm1 (by omega)
  have hs12 : 1 ≤ s ∧ s ≤ m := by rw [HS.out]; exact cnt_ok m cnt hm1 hc12.1
  have ecnt : ((m : Int) + (s0 : Int) - 1) / (s0 : Int) = (cnt : Int) := by
    rw [HC.out, show (m : Int) + (s0 : Int) - 1 = ((m + s0 - 1 : Nat) : Int) from by omega]; rfl
  have es : ((m : Int) + (cnt : Int) - 1) / (cnt : Int) = (s : Int) := by
    rw [HS.out, show (m : Int) + (cnt : Int) - 1 = ((m + cnt - 1 : Nat) : Int) from by omega]; rfl
  obtain ⟨hc1, hc2⟩ := hc12
  obtain ⟨hs1, hs2⟩ := hs12
  have hcz : ((cnt : Int) == 0) = false := by rw [beq_eq_false_iff_ne]; omega
  have hcs : lb < 64 ∧ s0 = 64 ∨ ¬ lb < 64 ∧ s0 = lb := by have := HS0.out; omega
  rcases hcs with ⟨h64, h64'⟩ | ⟨h64, h64'⟩
  · subst h64'
    rw [show ((64 : Nat) : Int) = 64 from rfl] at ecnt
    clear hs64
    go_wp2_with fail
    refine (newDivisor_any _ B s (max (s + 2) 4) w1 HB0.out (by have := HLB.out; omega) (by omega) rfl HB.out).mono ?_
    rintro e w2 ⟨x2, X2, rfl, hx2, hX2, hsm2⟩
    try rw [ecnt]
    try rw [es]
    obtain ⟨p, HP⟩ : ∃ p, Hid (p = max (s + 2) 4) := ⟨_, rfl⟩
    rw [← HP.out] at hX2 ⊢
    have HX2 : Hid (X2 * ld B p ≤ 256 ^ (2 * p)) := hX2
    have hp4 : 4 ≤ p := by have := HP.out; omega
    have hp5 : p ≤ 3000 := by have := HP.out; omega
    obtain ⟨ax, cx, rfl, -⟩ := hx2.na
    have hal : Same w2 (w2.alloc (Obj.cells #[Value.slice ab lb cb, Value.slice ax (dl X2) cx, Value.int IntKind.i64 (p : Int), Value.int IntKind.i64 (s : Int)] 76)) := (Chg.refl _ _).alloc _
    have HDv : Hid (Dv (w2.alloc (Obj.cells #[Value.slice ab lb cb, Value.slice ax (dl X2) cx, Value.int IntKind.i64 (p : Int), Value.int IntKind.i64 (s : Int)] 76)) w2.heap.size (.slice ab lb cb) (.slice ax (dl X2) cx) B X2 p) := by
      refine ⟨?_, ?_, ?_, (HB.out.same hsm2).same hal, hx2.same hal⟩ <;> (rw [World.cell?_alloc_new]; rfl)
    have HA2 : Hid (Nm (w2.alloc (Obj.cells #[Value.slice ab lb cb, Value.slice ax (dl X2) cx, Value.int IntKind.i64 (p : Int), Value.int IntKind.i64 (s : Int)] 76)) (.slice (some ⟨ba, oa, none⟩) la ca) A) := (HA.out.same hsm2).same hal
    have HS2 : Hid (Same w1 (w2.alloc (Obj.cells #[Value.slice ab lb cb, Value.slice ax (dl X2) cx, Value.int IntKind.i64 (p : Int), Value.int IntKind.i64 (s : Int)] 76))) := hsm2.trans hal
    clear hX2 ecnt es hcz hsm2 hx2 hal
    go_wp2_with (at_make; generalize World.alloc w2 _ = W1 at *; refine wpList_mkc m .u8 5 1 _ _ (by rfl) (by rfl) rfl rfl Tajg.underlying24 info5 (by omega) (by omega) ?_; intro Qb w3 hB1' hB2' hRB hCB hs3)
    refine (down_any _ la A m _ w3 (by omega) (by omega) rfl (by have h := (HA2.out.same hs3).na; rwa [← HLA.out] at h)).mono ?_
    rintro e w4 ⟨⟨r4, rfl, hr4, -, hrb4⟩, rfl⟩
    have hQ0 : Rd .u8 w4 Qb 0 m (qd (A / B) m) := hRB.congr (fun i hi => by unfold qd; rw [if_pos hi])
    have hoff4 : ∀ b, r4.ownBlock = some b → b ≠ Qb := fun b hb e => by
      have h1 := HA2.out.blk b (hrb4 b hb)
      omega
    have HR4 : Hid (A / 256 ^ m = A / 256 ^ m % B) := (Nat.mod_eq_of_lt HLd.out).symm
    have hr4' : Na w4 r4 (la - m) (A / 256 ^ m % B) := by rw [← HR4.out]; exact hr4
    have hlam : la - m ≤ 2900 := by omega
    clear hRB hr4
    generalize la - m = nr0 at *
    go_wp2_with fail
    go_loopw [5, 11] (fun r i wr => ∃ (h nr : Nat), h ≤ m ∧ nr ≤ 2900 ∧ i = .int .i64 (h : Int) ∧ Na wr r nr (A / 256 ^ h % B) ∧ (∀ b, r.ownBlock = some b → b ≠ Qb) ∧ (h = m ∨ (Nm wr r (A / 256 ^ h % B) ∧ Fr w1.heap.size wr r)) ∧ Rd .u8 wr Qb 0 m (qd (A / B) h) ∧ Cl wr Qb ∧ Same W1 wr) (fun _ i _ => (intOf i).toNat)
    case atStart => exact ⟨m, nr0, Nat.le_refl _, hlam, rfl, hr4', hoff4, .inl rfl, hQ0, hCB, hs3⟩
    case round =>
      clear hr4' hoff4 hQ0 hCB hs3 hB2' w4
      obtain ⟨H, nr, hhm, hnr, rfl, hr, hoff, hor, hQ, hC, hS⟩ := hrel
      have hSw : Hid (Same w1 wr) := HS2.out.trans hS
      by_cases h0 : H = 0
      · subst h0
        rcases hor with e | ⟨hrm, hrf⟩
        · omega
        rw [Nat.pow_zero, Nat.div_one] at hrm
        have hq : Na wr (.slice (some ⟨Qb, 0, none⟩) m m) m (A / B) := ⟨_, m, rfl, Nat.le_refl _, HQlt.out, fun _ => ⟨Qb, 0, rfl, hQ.congr (fun i _ => by unfold qd; rw [if_neg (by omega)]), hC⟩⟩
        have hqf : Fr w1.heap.size wr (.slice (some ⟨Qb, 0, none⟩) m m) := Fr.mk (Nat.le_trans HS2.out.size hB1') (hC.wr _ _)
        clear hr hQ hC hoff
        go_wp2_with fail
        refine (normal_any _ m (A / B) wr (by omega) hq).mono ?_
        rintro e w9 ⟨⟨q9, rfl, hq9, hqf9⟩, rfl⟩
        have hqf' := hqf9 _ hqf
        go_wp2_with fail
        go_ret3
        exact ⟨_, _, rfl, hq9, hrm, hqf', hrf, hSw.out⟩
      · clear hor
        obtain ⟨ar, cr, rfl, hcr, hrl, hrr⟩ := hr
        have HRR : Hid (0 < nr → ∃ b off, ar = some ⟨b, off, none⟩ ∧ Rd .u8 wr b off nr (dg (A / 256 ^ H % B)) ∧ Cl wr b) := hrr
        have HRL : Hid (A / 256 ^ H % B < 256 ^ nr) := hrl
        clear hrr hrl
        obtain ⟨g, HG⟩ : ∃ g, Hid (g = (H - 1) / s) := ⟨_, rfl⟩
        obtain ⟨lo, HLO⟩ : ∃ lo, Hid (lo = g * s) := ⟨_, rfl⟩
        have hlo : lo < H := by
          have h1 := Nat.div_mul_le_self (H - 1) s
          rw [← HG.out, ← HLO.out] at h1
          omega
        have eg : ((H : Int) - 1) / (s : Int) = (g : Int) := by
          rw [HG.out, show (H : Int) - 1 = ((H - 1 : Nat) : Int) from by omega]; rfl
        have elo : (g : Int) * (s : Int) = (lo : Int) := by rw [HLO.out]; push_cast; rfl
        have hgb : g ≤ 2900 := by rw [HG.out]; exact Nat.le_trans (Nat.div_le_self _ _) (by omega)
        have hszz : ((s : Int) == 0) = false := by rw [beq_eq_false_iff_ne]; omega
        obtain ⟨c, HCc⟩ : ∃ c, Hid (c = H - lo) := ⟨_, rfl⟩
        obtain ⟨L, HLL⟩ : ∃ L, Hid (L = c + nr) := ⟨_, rfl⟩
        have ec : (H : Int) - (lo : Int) = (c : Int) := by have := HCc.out; omega
        have ec2 : H - lo = c := HCc.out.symm
        have eL : (c : Int) + (nr : Int) = (L : Int) := by have := HLL.out; omega
        have eL2 : L - c = nr := by have := HLL.out; omega
        have hc1' : 1 ≤ c := by have := HCc.out; omega
        have hcL : c ≤ L := by have := HLL.out; omega
        have hL : L ≤ 6000 := by have h1 := HLL.out; have h2 := HCc.out; omega
        have hcm : lo + c ≤ m := by have h2 := HCc.out; omega
        have hmla : m ≤ la := by have := HM.out; omega
        have hhla : H ≤ la := by omega
        have hra : Rd .u8 wr ba oa la (dg A) := by
          have h1 := (HA2.out.same hS).na
          rw [← HLA.out] at h1
          obtain ⟨_, _, e, _, _, h2⟩ := h1
          cases e
          obtain ⟨_, _, e, h3, _⟩ := h2 (by omega)
          cases e
          exact h3
        have HRA : Hid (Rd .u8 wr ba (oa + lo) c (dg (A / 256 ^ lo))) := by
          intro i hi
          rw [dg_down, Nat.add_assoc]
          exact hra (lo + i) (by omega)
        clear hra
        have hPc : ∀ i, i < L → dg (pc A B H lo) i = if i < c then dg (A / 256 ^ lo) i else dg (A / 256 ^ H % B) (i - c) := by
          intro i hi
          unfold pc
          rw [← HCc.out]
          by_cases hic : i < c
          · rw [if_pos hic, dg_join_lo _ _ _ _ hic]
          · rw [if_neg hic]
            obtain ⟨t, rfl⟩ : ∃ t, i = c + t := ⟨i - c, by omega⟩
            rw [dg_join_hi, Nat.add_sub_cancel_left]
        have HPc : Hid (∀ i, i < L → dg (pc A B H lo) i = if i < c then dg (A / 256 ^ lo) i else dg (A / 256 ^ H % B) (i - c)) := hPc
        have HPl : Hid (pc A B H lo < 256 ^ L) := by
          show _ < _
          unfold pc
          rw [← HCc.out, HLL.out, Nat.pow_add]
          have h1 := Nat.mod_lt (A / 256 ^ lo) (pp c)
          have h2 := HRL.out
          have h3 : 256 ^ c * (A / 256 ^ H % B) + 256 ^ c ≤ 256 ^ c * 256 ^ nr := by rw [← Nat.mul_succ]; exact Nat.mul_le_mul_left _ h2
          omega
        clear hPc
        have HB0' : Hid (0 < B) := Nat.pos_of_ne_zero HB0.out
        have HFin : Hid (∀ (w7 : World) (Pb : Nat), Rd .u8 w7 Pb 0 L (dg (pc A B H lo)) → Cl w7 Pb → Na w7 (.slice (some ⟨Pb, 0, none⟩) L L) L (pc A B H lo)) := fun w7 Pb h1 h2 => ⟨_, L, rfl, Nat.le_refl _, HPl.out, fun _ => ⟨Pb, 0, rfl, h1, h2⟩⟩
        rcases Nat.eq_zero_or_pos nr with hn0 | hn0
        · subst hn0
          have hLc : c = L := by have := HLL.out; omega
          subst hLc
          go_wp2_with (at_make; refine wpList_mkc c .u8 5 1 _ _ (by rfl) (by rfl) (by go_num) (by go_num) Tajg.underlying24 info5 (by omega) (by omega) ?_; intro Pb w5 hP1 hP2 hRP hCP hs5; obtain ⟨w6, w7, e6, e7, hR7, hC7, hS7⟩ := parts (cc := ca - lo) (cr := cr) hP1 hP2 hRP hCP hs5 HRA.out HRR.out HLL.out hc1' HPc.out; have HP7 := HFin.out w7 Pb hR7 hC7; have e7' := e7 (some ⟨Pb, 0, none⟩) (fun h => absurd h (by omega)); clear e7; clear hRP hCP hs5 hR7 hC7 hP2)
          refine (normal_any _ c _ w7 (by omega) HP7).mono ?_
          rintro e w8 ⟨⟨P8, rfl, hP8, -⟩, rfl⟩
          have hdP : dl (pc A B H lo) ≤ c := dl_le _ _ HP7.lt
          have hS17 := hS.trans hS7
          have HD8 : Hid (Dv w8 w2.heap.size (.slice ab lb cb) (.slice ax (dl X2) cx) B X2 p) := HDv.out.same hS17
          clear e6 e7' HP7
          go_wp2_with fail
          refine (divide_any P8 _ _ w2.heap.size _ (pc A B H lo) B X2 p w8 (by omega) HB0.out (by have := HLB.out; omega) hp4 hp5 hP8.na HD8.out HX2.out).mono ?_
          rintro e w9 ⟨q9, r9, rfl, hq9, hr9, -, hrf9, hs9⟩
          have hQ9 := (hQ.same hS7).same hs9
          have hC9 := (hC.kept hS7 (hQ.lt (by omega))).kept hs9 ((hQ.same hS7).lt (by omega))
          obtain ⟨aq, cq, rfl, -⟩ := hq9.na
          have hdq : dl (pc A B H lo / B) ≤ c := dl_le _ _ (by rw [HCc.out]; exact pc_quo A B H lo HB0'.out)
          have HY : Hid (∀ i, lo ≤ i → i < lo + c → qd (A / B) H i = 0) := fun i _ hi2 => by
            unfold qd; rw [if_pos (by have := HCc.out; omega)]
          obtain ⟨w10, k10, e10, hQ10, hC10, hc10⟩ := put_digits (cq := m - lo) hQ9 hC9 hq9 hdq hcm hc1' HY.out
          have hQn : Rd .u8 w10 Qb 0 m (qd (A / B) lo) := by
            refine hQ10.congr fun i hi => ?_
            have hcc := HCc.out
            by_cases hi1 : lo ≤ i ∧ i < lo + c
            · rw [if_pos hi1]
              unfold qd
              rw [if_neg (by omega)]
              have := pc_dg A B H lo (i - lo) (by omega) HB0'.out (by omega)
              rw [show lo + (i - lo) = i from by omega] at this
              exact this.symm
            · rw [if_neg hi1]
              unfold qd
              by_cases hi2 : i < lo
              · rw [if_pos hi2, if_pos (by omega)]
              · rw [if_neg hi2, if_neg (by omega)]
          have hQ8 : Qb < w8.heap.size := (hQ.same hS7).lt (by omega)
          have hoff9 := hrf9.ne hQ8
          have hr10 := hr9.kept hc10 (fun b hb o e => hoff9 b hb e)
          have hmod := pc_mod A B H lo (by omega)
          rw [hmod] at hr10
          have hS10 : Same W1 w10 := (hS17.trans hs9).trans_new hc10 (fun q o hq e => by omega)
          have hrf10 := (hrf9.mono (Nat.le_trans HS2.out.size (hS17.size))).at hr10
          have hdr : dl (A / 256 ^ lo % B) ≤ 2900 := by
            have h1 : A / 256 ^ lo % B ≤ B := Nat.le_of_lt (Nat.mod_lt _ HB0'.out)
            have h2 := dl_mono h1
            have := HLB.out
            omega
          clear hQ9 hC9 hq9 hQ10 hc10 hr9 hmod hS17 hs9 hrf9 HD8 hP8 hdP
          generalize dl (pc A B H lo / B) = dq at *
          go_wp2_with fail
          go_roundw
          case rel => exact ⟨lo, _, by omega, hdr, rfl, hr10.na, hoff9, .inr ⟨hr10, hrf10⟩, hQn, hC10, hS10⟩
          case measure => simp [intOf]; omega
        · have hcL' : c < L := by have := HLL.out; omega
          go_wp2_with (at_make; refine wpList_mkc L .u8 5 1 _ _ (by rfl) (by rfl) (by go_num) (by go_num) Tajg.underlying24 info5 (by omega) (by omega) ?_; intro Pb w5 hP1 hP2 hRP hCP hs5; obtain ⟨w6, w7, e6, e7, hR7, hC7, hS7⟩ := parts (cc := ca - lo) (cr := cr) hP1 hP2 hRP hCP hs5 HRA.out HRR.out HLL.out hc1' HPc.out; have HP7 := HFin.out w7 Pb hR7 hC7; have e7' := e7 (some ⟨Pb, c, none⟩) (fun _ => rfl); clear e7; clear hRP hCP hs5 hR7 hC7 hP2)
          refine (normal_any _ L _ w7 (by omega) HP7).mono ?_
          rintro e w8 ⟨⟨P8, rfl, hP8, -⟩, rfl⟩
          have hdP : dl (pc A B H lo) ≤ L := dl_le _ _ HP7.lt
          have hS17 := hS.trans hS7
          have HD8 : Hid (Dv w8 w2.heap.size (.slice ab lb cb) (.slice ax (dl X2) cx) B X2 p) := HDv.out.same hS17
          clear e6 e7' HP7
          go_wp2_with fail
          refine (divide_any P8 _ _ w2.heap.size _ (pc A B H lo) B X2 p w8 (by omega) HB0.out (by have := HLB.out; omega) hp4 hp5 hP8.na HD8.out HX2.out).mono ?_
          rintro e w9 ⟨q9, r9, rfl, hq9, hr9, -, hrf9, hs9⟩
          have hQ9 := (hQ.same hS7).same hs9
          have hC9 := (hC.kept hS7 (hQ.lt (by omega))).kept hs9 ((hQ.same hS7).lt (by omega))
          obtain ⟨aq, cq, rfl, -⟩ := hq9.na
          have hdq : dl (pc A B H lo / B) ≤ c := dl_le _ _ (by rw [HCc.out]; exact pc_quo A B H lo HB0'.out)
          have HY : Hid (∀ i, lo ≤ i → i < lo + c → qd (A / B) H i = 0) := fun i _ hi2 => by
            unfold qd; rw [if_pos (by have := HCc.out; omega)]
          obtain ⟨w10, k10, e10, hQ10, hC10, hc10⟩ := put_digits (cq := m - lo) hQ9 hC9 hq9 hdq hcm hc1' HY.out
          have hQn : Rd .u8 w10 Qb 0 m (qd (A / B) lo) := by
            refine hQ10.congr fun i hi => ?_
            have hcc := HCc.out
            by_cases hi1 : lo ≤ i ∧ i < lo + c
            · rw [if_pos hi1]
              unfold qd
              rw [if_neg (by omega)]
              have := pc_dg A B H lo (i - lo) (by omega) HB0'.out (by omega)
              rw [show lo + (i - lo) = i from by omega] at this
              exact this.symm
            · rw [if_neg hi1]
              unfold qd
              by_cases hi2 : i < lo
              · rw [if_pos hi2, if_pos (by omega)]
              · rw [if_neg hi2, if_neg (by omega)]
          have hQ8 : Qb < w8.heap.size := (hQ.same hS7).lt (by omega)
          have hoff9 := hrf9.ne hQ8
          have hr10 := hr9.kept hc10 (fun b hb o e => hoff9 b hb e)
          have hmod := pc_mod A B H lo (by omega)
          rw [hmod] at hr10
          have hS10 : Same W1 w10 := (hS17.trans hs9).trans_new hc10 (fun q o hq e => by omega)
          have hrf10 := (hrf9.mono (Nat.le_trans HS2.out.size (hS17.size))).at hr10
          have hdr : dl (A / 256 ^ lo % B) ≤ 2900 := by
            have h1 : A / 256 ^ lo % B ≤ B := Nat.le_of_lt (Nat.mod_lt _ HB0'.out)
            have h2 := dl_mono h1
            have := HLB.out
            omega
          clear hQ9 hC9 hq9 hQ10 hc10 hr9 hmod hS17 hs9 hrf9 HD8 hP8 hdP
          generalize dl (pc A B H lo / B) = dq at *
          go_wp2_with fail
          go_roundw
          case rel => exact ⟨lo, _, by omega, hdr, rfl, hr10.na, hoff9, .inr ⟨hr10, hrf10⟩, hQn, hC10, hS10⟩
          case measure => simp [intOf]; omega
  · subst h64'
    have hsz : ((s0 : Int) == 0) = false := by rw [beq_eq_false_iff_ne]; omega
    go_wp2_with fail
    refine (newDivisor_any _ B s (max (s + 2) 4) w1 HB0.out (by have := HLB.out; omega) (by omega) rfl HB.out).mono ?_
    rintro e w2 ⟨x2, X2, rfl, hx2, hX2, hsm2⟩
    try rw [ecnt]
    try rw [es]
    obtain ⟨p, HP⟩ : ∃ p, Hid (p = max (s + 2) 4) := ⟨_, rfl⟩
    rw [← HP.out] at hX2 ⊢
    have HX2 : Hid (X2 * ld B p ≤ 256 ^ (2 * p)) := hX2
    have hp4 : 4 ≤ p := by have := HP.out; omega
    have hp5 : p ≤ 3000 := by have := HP.out; omega
    obtain ⟨ax, cx, rfl, -⟩ := hx2.na
    have hal : Same w2 (w2.alloc (Obj.cells #[Value.slice ab s0 cb, Value.slice ax (dl X2) cx, Value.int IntKind.i64 (p : Int), Value.int IntKind.i64 (s : Int)] 76)) := (Chg.refl _ _).alloc _
    have HDv : Hid (Dv (w2.alloc (Obj.cells #[Value.slice ab s0 cb, Value.slice ax (dl X2) cx, Value.int IntKind.i64 (p : Int), Value.int IntKind.i64 (s : Int)] 76)) w2.heap.size (.slice ab s0 cb) (.slice ax (dl X2) cx) B X2 p) := by
      refine ⟨?_, ?_, ?_, (HB.out.same hsm2).same hal, hx2.same hal⟩ <;> (rw [World.cell?_alloc_new]; rfl)
    have HA2 : Hid (Nm (w2.alloc (Obj.cells #[Value.slice ab s0 cb, Value.slice ax (dl X2) cx, Value.int IntKind.i64 (p : Int), Value.int IntKind.i64 (s : Int)] 76)) (.slice (some ⟨ba, oa, none⟩) la ca) A) := (HA.out.same hsm2).same hal
    have HS2 : Hid (Same w1 (w2.alloc (Obj.cells #[Value.slice ab s0 cb, Value.slice ax (dl X2) cx, Value.int IntKind.i64 (p : Int), Value.int IntKind.i64 (s : Int)] 76))) := hsm2.trans hal
    clear hX2 ecnt es hcz hsm2 hx2 hal
    go_wp2_with (at_make; generalize World.alloc w2 _ = W1 at *; refine wpList_mkc m .u8 5 1 _ _ (by rfl) (by rfl) rfl rfl Tajg.underlying24 info5 (by omega) (by omega) ?_; intro Qb w3 hB1' hB2' hRB hCB hs3)
    refine (down_any _ la A m _ w3 (by omega) (by omega) rfl (by have h := (HA2.out.same hs3).na; rwa [← HLA.out] at h)).mono ?_
    rintro e w4 ⟨⟨r4, rfl, hr4, -, hrb4⟩, rfl⟩
    have hQ0 : Rd .u8 w4 Qb 0 m (qd (A / B) m) := hRB.congr (fun i hi => by unfold qd; rw [if_pos hi])
    have hoff4 : ∀ b, r4.ownBlock = some b → b ≠ Qb := fun b hb e => by
      have h1 := HA2.out.blk b (hrb4 b hb)
      omega
    have HR4 : Hid (A / 256 ^ m = A / 256 ^ m % B) := (Nat.mod_eq_of_lt HLd.out).symm
    have hr4' : Na w4 r4 (la - m) (A / 256 ^ m % B) := by rw [← HR4.out]; exact hr4
    have hlam : la - m ≤ 2900 := by omega
    clear hRB hr4
    generalize la - m = nr0 at *
    go_wp2_with fail
    go_loopw [5, 11] (fun r i wr => ∃ (h nr : Nat), h ≤ m ∧ nr ≤ 2900 ∧ i = .int .i64 (h : Int) ∧ Na wr r nr (A / 256 ^ h % B) ∧ (∀ b, r.ownBlock = some b → b ≠ Qb) ∧ (h = m ∨ (Nm wr r (A / 256 ^ h % B) ∧ Fr w1.heap.size wr r)) ∧ Rd .u8 wr Qb 0 m (qd (A / B) h) ∧ Cl wr Qb ∧ Same W1 wr) (fun _ i _ => (intOf i).toNat)
    case atStart => exact ⟨m, nr0, Nat.le_refl _, hlam, rfl, hr4', hoff4, .inl rfl, hQ0, hCB, hs3⟩
    case round =>
      clear hr4' hoff4 hQ0 hCB hs3 hB2' w4
      obtain ⟨H, nr, hhm, hnr, rfl, hr, hoff, hor, hQ, hC, hS⟩ := hrel
      have hSw : Hid (Same w1 wr) := HS2.out.trans hS
      by_cases h0 : H = 0
      · subst h0
        rcases hor with e | ⟨hrm, hrf⟩
        · omega
        rw [Nat.pow_zero, Nat.div_one] at hrm
        have hq : Na wr (.slice (some ⟨Qb, 0, none⟩) m m) m (A / B) := ⟨_, m, rfl, Nat.le_refl _, HQlt.out, fun _ => ⟨Qb, 0, rfl, hQ.congr (fun i _ => by unfold qd; rw [if_neg (by omega)]), hC⟩⟩
        have hqf : Fr w1.heap.size wr (.slice (some ⟨Qb, 0, none⟩) m m) := Fr.mk (Nat.le_trans HS2.out.size hB1') (hC.wr _ _)
        clear hr hQ hC hoff
        go_wp2_with fail
        refine (normal_any _ m (A / B) wr (by omega) hq).mono ?_
        rintro e w9 ⟨⟨q9, rfl, hq9, hqf9⟩, rfl⟩
        have hqf' := hqf9 _ hqf
        go_wp2_with fail
        go_ret3
        exact ⟨_, _, rfl, hq9, hrm, hqf', hrf, hSw.out⟩
      · clear hor
        obtain ⟨ar, cr, rfl, hcr, hrl, hrr⟩ := hr
        have HRR : Hid (0 < nr → ∃ b off, ar = some ⟨b, off, none⟩ ∧ Rd .u8 wr b off nr (dg (A / 256 ^ H % B)) ∧ Cl wr b) := hrr
        have HRL : Hid (A / 256 ^ H % B < 256 ^ nr) := hrl
        clear hrr hrl
        obtain ⟨g, HG⟩ : ∃ g, Hid (g = (H - 1) / s) := ⟨_, rfl⟩
        obtain ⟨lo, HLO⟩ : ∃ lo, Hid (lo = g * s) := ⟨_, rfl⟩
        have hlo : lo < H := by
          have h1 := Nat.div_mul_le_self (H - 1) s
          rw [← HG.out, ← HLO.out] at h1
          omega
        have eg : ((H : Int) - 1) / (s : Int) = (g : Int) := by
          rw [HG.out, show (H : Int) - 1 = ((H - 1 : Nat) : Int) from by omega]; rfl
        have elo : (g : Int) * (s : Int) = (lo : Int) := by rw [HLO.out]; push_cast; rfl
        have hgb : g ≤ 2900 := by rw [HG.out]; exact Nat.le_trans (Nat.div_le_self _ _) (by omega)
        have hszz : ((s : Int) == 0) = false := by rw [beq_eq_false_iff_ne]; omega
        obtain ⟨c, HCc⟩ : ∃ c, Hid (c = H - lo) := ⟨_, rfl⟩
        obtain ⟨L, HLL⟩ : ∃ L, Hid (L = c + nr) := ⟨_, rfl⟩
        have ec : (H : Int) - (lo : Int) = (c : Int) := by have := HCc.out; omega
        have ec2 : H - lo = c := HCc.out.symm
        have eL : (c : Int) + (nr : Int) = (L : Int) := by have := HLL.out; omega
        have eL2 : L - c = nr := by have := HLL.out; omega
        have hc1' : 1 ≤ c := by have := HCc.out; omega
        have hcL : c ≤ L := by have := HLL.out; omega
        have hL : L ≤ 6000 := by have h1 := HLL.out; have h2 := HCc.out; omega
        have hcm : lo + c ≤ m := by have h2 := HCc.out; omega
        have hmla : m ≤ la := by have := HM.out; omega
        have hhla : H ≤ la := by omega
        have hra : Rd .u8 wr ba oa la (dg A) := by
          have h1 := (HA2.out.same hS).na
          rw [← HLA.out] at h1
          obtain ⟨_, _, e, _, _, h2⟩ := h1
          cases e
          obtain ⟨_, _, e, h3, _⟩ := h2 (by omega)
          cases e
          exact h3
        have HRA : Hid (Rd .u8 wr ba (oa + lo) c (dg (A / 256 ^ lo))) := by
          intro i hi
          rw [dg_down, Nat.add_assoc]
          exact hra (lo + i) (by omega)
        clear hra
        have hPc : ∀ i, i < L → dg (pc A B H lo) i = if i < c then dg (A / 256 ^ lo) i else dg (A / 256 ^ H % B) (i - c) := by
          intro i hi
          unfold pc
          rw [← HCc.out]
          by_cases hic : i < c
          · rw [if_pos hic, dg_join_lo _ _ _ _ hic]
          · rw [if_neg hic]
            obtain ⟨t, rfl⟩ : ∃ t, i = c + t := ⟨i - c, by omega⟩
            rw [dg_join_hi, Nat.add_sub_cancel_left]
        have HPc : Hid (∀ i, i < L → dg (pc A B H lo) i = if i < c then dg (A / 256 ^ lo) i else dg (A / 256 ^ H % B) (i - c)) := hPc
        have HPl : Hid (pc A B H lo < 256 ^ L) := by
          show _ < _
          unfold pc
          rw [← HCc.out, HLL.out, Nat.pow_add]
          have h1 := Nat.mod_lt (A / 256 ^ lo) (pp c)
          have h2 := HRL.out
          have h3 : 256 ^ c * (A / 256 ^ H % B) + 256 ^ c ≤ 256 ^ c * 256 ^ nr := by rw [← Nat.mul_succ]; exact Nat.mul_le_mul_left _ h2
          omega
        clear hPc
        have HB0' : Hid (0 < B) := Nat.pos_of_ne_zero HB0.out
        have HFin : Hid (∀ (w7 : World) (Pb : Nat), Rd .u8 w7 Pb 0 L (dg (pc A B H lo)) → Cl w7 Pb → Na w7 (.slice (some ⟨Pb, 0, none⟩) L L) L (pc A B H lo)) := fun w7 Pb h1 h2 => ⟨_, L, rfl, Nat.le_refl _, HPl.out, fun _ => ⟨Pb, 0, rfl, h1, h2⟩⟩
        rcases Nat.eq_zero_or_pos nr with hn0 | hn0
        · subst hn0
          have hLc : c = L := by have := HLL.out; omega
          subst hLc
          go_wp2_with (at_make; refine wpList_mkc c .u8 5 1 _ _ (by rfl) (by rfl) (by go_num) (by go_num) Tajg.underlying24 info5 (by omega) (by omega) ?_; intro Pb w5 hP1 hP2 hRP hCP hs5; obtain ⟨w6, w7, e6, e7, hR7, hC7, hS7⟩ := parts (cc := ca - lo) (cr := cr) hP1 hP2 hRP hCP hs5 HRA.out HRR.out HLL.out hc1' HPc.out; have HP7 := HFin.out w7 Pb hR7 hC7; have e7' := e7 (some ⟨Pb, 0, none⟩) (fun h => absurd h (by omega)); clear e7; clear hRP hCP hs5 hR7 hC7 hP2)
          refine (normal_any _ c _ w7 (by omega) HP7).mono ?_
          rintro e w8 ⟨⟨P8, rfl, hP8, -⟩, rfl⟩
          have hdP : dl (pc A B H lo) ≤ c := dl_le _ _ HP7.lt
          have hS17 := hS.trans hS7
          have HD8 : Hid (Dv w8 w2.heap.size (.slice ab s0 cb) (.slice ax (dl X2) cx) B X2 p) := HDv.out.same hS17
          clear e6 e7' HP7
          go_wp2_with fail
          refine (divide_any P8 _ _ w2.heap.size _ (pc A B H lo) B X2 p w8 (by omega) HB0.out (by have := HLB.out; omega) hp4 hp5 hP8.na HD8.out HX2.out).mono ?_
          rintro e w9 ⟨q9, r9, rfl, hq9, hr9, -, hrf9, hs9⟩
          have hQ9 := (hQ.same hS7).same hs9
          have hC9 := (hC.kept hS7 (hQ.lt (by omega))).kept hs9 ((hQ.same hS7).lt (by omega))
          obtain ⟨aq, cq, rfl, -⟩ := hq9.na
          have hdq : dl (pc A B H lo / B) ≤ c := dl_le _ _ (by rw [HCc.out]; exact pc_quo A B H lo HB0'.out)
          have HY : Hid (∀ i, lo ≤ i → i < lo + c → qd (A / B) H i = 0) := fun i _ hi2 => by
            unfold qd; rw [if_pos (by have := HCc.out; omega)]
          obtain ⟨w10, k10, e10, hQ10, hC10, hc10⟩ := put_digits (cq := m - lo) hQ9 hC9 hq9 hdq hcm hc1' HY.out
          have hQn : Rd .u8 w10 Qb 0 m (qd (A / B) lo) := by
            refine hQ10.congr fun i hi => ?_
            have hcc := HCc.out
            by_cases hi1 : lo ≤ i ∧ i < lo + c
            · rw [if_pos hi1]
              unfold qd
              rw [if_neg (by omega)]
              have := pc_dg A B H lo (i - lo) (by omega) HB0'.out (by omega)
              rw [show lo + (i - lo) = i from by omega] at this
              exact this.symm
            · rw [if_neg hi1]
              unfold qd
              by_cases hi2 : i < lo
              · rw [if_pos hi2, if_pos (by omega)]
              · rw [if_neg hi2, if_neg (by omega)]
          have hQ8 : Qb < w8.heap.size := (hQ.same hS7).lt (by omega)
          have hoff9 := hrf9.ne hQ8
          have hr10 := hr9.kept hc10 (fun b hb o e => hoff9 b hb e)
          have hmod := pc_mod A B H lo (by omega)
          rw [hmod] at hr10
          have hS10 : Same W1 w10 := (hS17.trans hs9).trans_new hc10 (fun q o hq e => by omega)
          have hrf10 := (hrf9.mono (Nat.le_trans HS2.out.size (hS17.size))).at hr10
          have hdr : dl (A / 256 ^ lo % B) ≤ 2900 := by
            have h1 : A / 256 ^ lo % B ≤ B := Nat.le_of_lt (Nat.mod_lt _ HB0'.out)
            have h2 := dl_mono h1
            have := HLB.out
            omega
          clear hQ9 hC9 hq9 hQ10 hc10 hr9 hmod hS17 hs9 hrf9 HD8 hP8 hdP
          generalize dl (pc A B H lo / B) = dq at *
          go_wp2_with fail
          go_roundw
          case rel => exact ⟨lo, _, by omega, hdr, rfl, hr10.na, hoff9, .inr ⟨hr10, hrf10⟩, hQn, hC10, hS10⟩
          case measure => simp [intOf]; omega
        · have hcL' : c < L := by have := HLL.out; omega
          go_wp2_with (at_make; refine wpList_mkc L .u8 5 1 _ _ (by rfl) (by rfl) (by go_num) (by go_num) Tajg.underlying24 info5 (by omega) (by omega) ?_; intro Pb w5 hP1 hP2 hRP hCP hs5; obtain ⟨w6, w7, e6, e7, hR7, hC7, hS7⟩ := parts (cc := ca - lo) (cr := cr) hP1 hP2 hRP hCP hs5 HRA.out HRR.out HLL.out hc1' HPc.out; have HP7 := HFin.out w7 Pb hR7 hC7; have e7' := e7 (some ⟨Pb, c, none⟩) (fun _ => rfl); clear e7; clear hRP hCP hs5 hR7 hC7 hP2)
          refine (normal_any _ L _ w7 (by omega) HP7).mono ?_
          rintro e w8 ⟨⟨P8, rfl, hP8, -⟩, rfl⟩
          have hdP : dl (pc A B H lo) ≤ L := dl_le _ _ HP7.lt
          have hS17 := hS.trans hS7
          have HD8 : Hid (Dv w8 w2.heap.size (.slice ab s0 cb) (.slice ax (dl X2) cx) B X2 p) := HDv.out.same hS17
          clear e6 e7' HP7
          go_wp2_with fail
          refine (divide_any P8 _ _ w2.heap.size _ (pc A B H lo) B X2 p w8 (by omega) HB0.out (by have := HLB.out; omega) hp4 hp5 hP8.na HD8.out HX2.out).mono ?_
          rintro e w9 ⟨q9, r9, rfl, hq9, hr9, -, hrf9, hs9⟩
          have hQ9 := (hQ.same hS7).same hs9
          have hC9 := (hC.kept hS7 (hQ.lt (by omega))).kept hs9 ((hQ.same hS7).lt (by omega))
          obtain ⟨aq, cq, rfl, -⟩ := hq9.na
          have hdq : dl (pc A B H lo / B) ≤ c := dl_le _ _ (by rw [HCc.out]; exact pc_quo A B H lo HB0'.out)
          have HY : Hid (∀ i, lo ≤ i → i < lo + c → qd (A / B) H i = 0) := fun i _ hi2 => by
            unfold qd; rw [if_pos (by have := HCc.out; omega)]
          obtain ⟨w10, k10, e10, hQ10, hC10, hc10⟩ := put_digits (cq := m - lo) hQ9 hC9 hq9 hdq hcm hc1' HY.out
          have hQn : Rd .u8 w10 Qb 0 m (qd (A / B) lo) := by
            refine hQ10.congr fun i hi => ?_
            have hcc := HCc.out
            by_cases hi1 : lo ≤ i ∧ i < lo + c
            · rw [if_pos hi1]
              unfold qd
              rw [if_neg (by omega)]
              have := pc_dg A B H lo (i - lo) (by omega) HB0'.out (by omega)
              rw [show lo + (i - lo) = i from by omega] at this
              exact this.symm
            · rw [if_neg hi1]
              unfold qd
              by_cases hi2 : i < lo
              · rw [if_pos hi2, if_pos (by omega)]
              · rw [if_neg hi2, if_neg (by omega)]
          have hQ8 : Qb < w8.heap.size := (hQ.same hS7).lt (by omega)
          have hoff9 := hrf9.ne hQ8
          have hr10 := hr9.kept hc10 (fun b hb o e => hoff9 b hb e)
          have hmod := pc_mod A B H lo (by omega)
          rw [hmod] at hr10
          have hS10 : Same W1 w10 := (hS17.trans hs9).trans_new hc10 (fun q o hq e => by omega)
          have hrf10 := (hrf9.mono (Nat.le_trans HS2.out.size (hS17.size))).at hr10
          have hdr : dl (A / 256 ^ lo % B) ≤ 2900 := by
            have h1 : A / 256 ^ lo % B ≤ B := Nat.le_of_lt (Nat.mod_lt _ HB0'.out)
            have h2 := dl_mono h1
            have := HLB.out
            omega
          clear hQ9 hC9 hq9 hQ10 hc10 hr9 hmod hS17 hs9 hrf9 HD8 hP8 hdP
          generalize dl (pc A B H lo / B) = dq at *
          go_wp2_with fail
          go_roundw
          case rel => exact ⟨lo, _, by omega, hdr, rfl, hr10.na, hoff9, .inr ⟨hr10, hrf10⟩, hQn, hC10, hS10⟩
          case measure => simp [intOf]; omega
end Go.Proofs.Ygctaj.Nt
