/- naturals in words of 32 bits. -/
import Derived.Test.YgctajDivSmall
namespace Go.Proofs.Ygctaj.Nt
open Go.RowKit Mem
set_option linter.unusedVariables false

/-- word j of N. -/
def dw (N j : Nat) : Nat := N / 256 ^ (4 * j) % 4294967296
theorem dw_lt (N j : Nat) : dw N j < 4294967296 := Nat.mod_lt _ (by decide)
/-- how many words N has. -/
def wl (N : Nat) : Nat := (dl N + 3) / 4
theorem wl_zero : wl 0 = 0 := by unfold wl; rw [dl_zero]
theorem lt_wl (N : Nat) : N < 256 ^ (4 * wl N) := Nat.lt_of_lt_of_le (lt_dl N) (Nat.pow_le_pow_right (by decide) (by unfold wl; omega))
theorem wl_le (N n : Nat) (h : N < 256 ^ (4 * n)) : wl N ≤ n := by
  have := dl_le _ _ h
  unfold wl; omega
theorem wl_top (N m : Nat) (h : N < 256 ^ (4 * (m + 1))) (hz : dw N m ≠ 0) : wl N = m + 1 := by
  have h1 := dl_le _ _ h
  have h2 : 256 ^ (4 * m) ≤ N := by
    rcases Nat.lt_or_ge N (256 ^ (4 * m)) with h' | h'
    · exact absurd (by unfold dw; rw [Nat.div_eq_of_lt h']) hz
    · exact h'
  have h3 : 4 * m < dl N := by
    rcases Nat.lt_or_ge (4 * m) (dl N) with h' | h'
    · exact h'
    · have h4 := lt_dl N
      have h5 : 256 ^ dl N ≤ 256 ^ (4 * m) := Nat.pow_le_pow_right (by decide) h'
      omega
  unfold wl; omega
theorem dw_zero_top (N m : Nat) (h : N < 256 ^ (4 * (m + 1))) (hz : dw N m = 0) : N < 256 ^ (4 * m) := by
  unfold dw at hz
  have e : 256 ^ (4 * (m + 1)) = 256 ^ (4 * m) * 4294967296 := by rw [show 4 * (m + 1) = 4 * m + 4 from by omega, Nat.pow_add]
  rw [e] at h
  have h1 : N / 256 ^ (4 * m) < 4294967296 := (Nat.div_lt_iff_lt_mul (pp _)).2 (by rw [Nat.mul_comm]; exact h)
  rw [Nat.mod_eq_of_lt h1] at hz
  rcases Nat.lt_or_ge N (256 ^ (4 * m)) with h' | h'
  · exact h'
  · have := Nat.div_pos h' (pp (4 * m)); omega
theorem dw_above (N i n : Nat) (hN : N < 256 ^ (4 * n)) (hi : n ≤ i) : dw N i = 0 := by
  unfold dw
  rw [Nat.div_eq_of_lt (Nat.lt_of_lt_of_le hN (Nat.pow_le_pow_right (by decide) (by omega)))]
theorem le_wl (N : Nat) (h : N ≠ 0) : 256 ^ (4 * (wl N - 1)) ≤ N := by
  have hd : 0 < dl N := Nat.pos_of_ne_zero fun e => h (dl_eq_zero.1 e)
  have h1 : 256 ^ (dl N - 1) ≤ N := le_of_dl (by omega)
  exact Nat.le_trans (Nat.pow_le_pow_right (by decide) (by unfold wl; omega)) h1

/-- v is a slice of n words, N their value. -/
def Wn (w : World) (v : Value) (n N : Nat) : Prop :=
  ∃ a cap, v = .slice a n cap ∧ n ≤ cap ∧ N < 256 ^ (4 * n) ∧ (0 < n → ∃ b off, a = some ⟨b, off, none⟩ ∧ Rd .u32 w b off n (dw N) ∧ Cl w b)
theorem Wn.lt {w : World} {v : Value} {n N : Nat} (h : Wn w v n N) : N < 256 ^ (4 * n) := by obtain ⟨_, _, _, _, h, _⟩ := h; exact h
theorem Wn.kept {may : Nat → Nat → Prop} {w w' : World} {v : Value} {n N : Nat} (h : Wn w v n N) (hc : Chg may w w') (hb : ∀ b, v.ownBlock = some b → ∀ o, ¬ may b o) : Wn w' v n N := by
  obtain ⟨a, cap, rfl, h1, h2, hr⟩ := h
  refine ⟨a, cap, rfl, h1, h2, fun hn => ?_⟩
  obtain ⟨b, off, rfl, hR, hcl⟩ := hr hn
  exact ⟨b, off, rfl, hR.kept hc (fun i _ => hb b rfl _), hcl.kept hc (hR.lt hn)⟩
theorem Wn.same {w w' : World} {v : Value} {n N : Nat} (h : Wn w v n N) (hs : Same w w') : Wn w' v n N := h.kept hs fun _ _ _ h => h

theorem dw_dg (N i : Nat) : dw N (i / 4) / 2 ^ (8 * (i % 4)) % 256 = dg N i := by
  unfold dw dg
  have e : 256 ^ i = 256 ^ (4 * (i / 4)) * 256 ^ (i % 4) := by rw [← Nat.pow_add]; congr 1; omega
  rw [e, ← Nat.div_div_eq_div_mul]
  generalize N / 256 ^ (4 * (i / 4)) = x
  have h : i % 4 = 0 ∨ i % 4 = 1 ∨ i % 4 = 2 ∨ i % 4 = 3 := by omega
  rcases h with h | h | h | h <;> rw [h] <;> omega

theorem mod_div (A i k : Nat) : A % 256 ^ i / 256 ^ k = if i ≤ k then 0 else A / 256 ^ k % 256 ^ (i - k) := by
  by_cases h : i ≤ k
  · rw [if_pos h, Nat.div_eq_of_lt (Nat.lt_of_lt_of_le (Nat.mod_lt _ (pp i)) (Nat.pow_le_pow_right (by decide) h))]
  · rw [if_neg h, show 256 ^ i = 256 ^ k * 256 ^ (i - k) from by rw [← Nat.pow_add]; congr 1; omega, Nat.mod_mul_right_div_self]
theorem mod_big (x t : Nat) (h : 4 ≤ t) : x % 256 ^ t % 4294967296 = x % 4294967296 := by
  rw [show (4294967296 : Nat) = 256 ^ 4 from rfl, Nat.mod_mod_of_dvd _ (Nat.pow_dvd_pow 256 h)]
theorem dw_other (A i k : Nat) (hk : k ≠ i / 4) : dw (A % 256 ^ (i + 1)) k = dw (A % 256 ^ i) k := by
  unfold dw
  rw [mod_div, mod_div]
  rcases Nat.lt_or_ge k (i / 4) with h | h
  · rw [if_neg (by omega), if_neg (by omega), mod_big _ _ (by omega), mod_big _ _ (by omega)]
  · rw [if_pos (by omega), if_pos (by omega)]
theorem mod_small (x t : Nat) (h : t ≤ 4) : x % 256 ^ t % 4294967296 = x % 256 ^ t := by
  refine Nat.mod_eq_of_lt (Nat.lt_of_lt_of_le (Nat.mod_lt _ (pp t)) ?_)
  rw [show (4294967296 : Nat) = 256 ^ 4 from rfl]
  exact Nat.pow_le_pow_right (by decide) h
theorem dw_here (A i : Nat) : dw (A % 256 ^ (i + 1)) (i / 4) = dw (A % 256 ^ i) (i / 4) + dg A i * 2 ^ (8 * (i % 4)) ∧ dw (A % 256 ^ i) (i / 4) < 2 ^ (8 * (i % 4)) := by
  unfold dw
  rw [mod_div, mod_div, if_neg (by omega)]
  have e : dg A i = A / 256 ^ (4 * (i / 4)) / 256 ^ (i % 4) % 256 := by
    unfold dg
    rw [Nat.div_div_eq_div_mul, ← Nat.pow_add]; congr 3; omega
  rw [e]
  generalize A / 256 ^ (4 * (i / 4)) = x
  have h : i % 4 = 0 ∨ i % 4 = 1 ∨ i % 4 = 2 ∨ i % 4 = 3 := by omega
  rcases h with h | h | h | h
  · rw [if_pos (by omega), show i + 1 - 4 * (i / 4) = 1 from by omega, h]; omega
  · rw [if_neg (by omega), show i + 1 - 4 * (i / 4) = 2 from by omega, show i - 4 * (i / 4) = 1 from by omega, h]; omega
  · rw [if_neg (by omega), show i + 1 - 4 * (i / 4) = 3 from by omega, show i - 4 * (i / 4) = 2 from by omega, h]; omega
  · rw [if_neg (by omega), show i + 1 - 4 * (i / 4) = 4 from by omega, show i - 4 * (i / 4) = 3 from by omega, h]; omega
theorem or_words (m d s : Nat) (hm : m < 2 ^ s) : (m ||| d * 2 ^ s) = m + d * 2 ^ s := by
  have := Nat.two_pow_add_eq_or_of_lt hm d
  rw [Nat.or_comm, Nat.mul_comm, ← this, Nat.add_comm]

theorem info46 : (Tajg.prog.info? 46).map (fun i => (i.zero, i.size, i.bytes)) = some (some (.int .u32 0), 1, 4) := by kernel_rfl

set_option maxRecDepth 20000 in
set_option maxHeartbeats 400000 in
theorem digitsOf_any (v : Value) (n N : Nat) (w : World) (hn : n ≤ 100000) (hv : Wn w v n N) :
    Calls Tajg.prog 64 #[v] w fun e w' => ∃ v', e = .returned v' ∧ Nm w' v' N ∧ Fr w.heap.size w' v' ∧ Same w w' := by
  have HL : Hid (N < 256 ^ (4 * n)) := hv.lt
  obtain ⟨a, cap, rfl, hc, -, hr⟩ := hv
  have HR : Hid (0 < n → ∃ b off, a = some ⟨b, off, none⟩ ∧ Rd .u32 w b off n (dw N) ∧ Cl w b) := hr
  clear hr
  obtain ⟨m, HM⟩ : ∃ m, Hid (m = 4 * n) := ⟨_, rfl⟩
  have em : (4 : Int) * (n : Int) = (m : Int) := by have := HM.out; omega
  have hm : m ≤ 400000 := by have := HM.out; omega
  rw [← HM.out] at HL
  go_enter Tajg.func64, Tajg.ntmps64
  go_wp2_with (at_make; refine wpList_mkc m .u8 5 1 _ _ (by rfl) (by rfl) (by go_num) (by go_num) Tajg.underlying24 info5 (by omega) (by omega) ?_; intro B w1 hB1 hB2 hRB hCB hs1)
  go_loopw [4] (fun i wr => ∃ j : Nat, j ≤ m ∧ i = .int .i64 (j : Int) ∧ Rd .u8 wr B 0 m (mix j (dg N) (fun _ => 0)) ∧ Cl wr B ∧ Same w wr) (fun i _ => (m - intOf i).toNat)
  case atStart => exact ⟨0, by omega, rfl, hRB.start _, hCB, hs1⟩
  case round =>
    clear hRB hCB hs1
    obtain ⟨j, hj, rfl, hR, hC, hS⟩ := hrel
    by_cases h0 : j = m
    · subst h0
      have hna : Na wr (.slice (some ⟨B, 0, none⟩) j j) j N := ⟨_, j, rfl, Nat.le_refl _, HL.out, fun _ => ⟨B, 0, rfl, hR.done (Nat.le_refl _), hC⟩⟩
      have hf0 : Fr w.heap.size wr (.slice (some ⟨B, 0, none⟩) j j) := Fr.mk hB1 (hC.wr _ _)
      go_wp2_with fail
      refine (normal_any _ j N _ (by omega) hna).mono ?_
      rintro e w2 ⟨⟨v', rfl, hv', hf⟩, rfl⟩
      have hf1 := hf _ hf0
      go_wp2_with fail
      go_ret
      exact ⟨_, rfl, hv', hf1, hS⟩
    · have hlt : j < m := by omega
      have c1 := hR.at hlt
      have c2 := hC (0 + j)
      rw [Nat.zero_add] at c1 c2
      have hn0 : 0 < n := by have := HM.out; omega
      obtain ⟨b, off, rfl, hRw, -⟩ := HR.out hn0
      obtain ⟨q, HQ⟩ : ∃ q, Hid (q = j / 4) := ⟨_, rfl⟩
      have eq4 : (j : Int) / 4 = (q : Int) := by have := HQ.out; omega
      have hqn : q < n := by have h1 := HQ.out; have h2 := HM.out; omega
      have c3 := (hRw.same hS) q hqn
      obtain ⟨r, HRr⟩ : ∃ r, Hid (r = j % 4) := ⟨_, rfl⟩
      have er4 : (j : Int) % 4 = (r : Int) := by have := HRr.out; omega
      obtain ⟨s, HS⟩ : ∃ s, Hid (s = 8 * r) := ⟨_, rfl⟩
      have es : (8 : Int) * (r : Int) = (s : Int) := by have := HS.out; omega
      have hr4 : r < 4 := by have := HRr.out; omega
      have hs32 : s < 32 := by have := HS.out; omega
      have hdd := dw_dg N j
      rw [← HQ.out, ← HRr.out, ← HS.out] at hdd
      have HD : (dw N q : Int) / 2 ^ s % 256 = ((dg N j : Nat) : Int) := by rw [← hdd]; push_cast; rfl
      have z0 : 0 ≤ (dw N q : Int) := by omega
      have z1 : (dw N q : Int) < 4294967296 := by have := dw_lt N q; omega
      clear hdd hRw
      generalize ((dw N q : Nat) : Int) = D at *
      go_wp2_with fail
      go_roundw
      case rel =>
        have h2 := hR.step hlt _ rfl
        rw [Nat.zero_add] at h2
        exact ⟨j + 1, by omega, by go_num, h2, hC.setCell _ _, hS.setCell B _ _ (fun h => absurd h (by omega))⟩
      case measure => simp [intOf]; omega

set_option maxRecDepth 20000 in
set_option maxHeartbeats 400000 in
theorem wordAt_any (v : Value) (n N i : Nat) (I : Int) (w : World) (hn : n ≤ 100000) (hi : i ≤ 1000000) (hI : I = (i : Int)) (hv : Wn w v n N) :
    Calls Tajg.prog 98 #[v, .int .i64 I] w fun e w' => e = .returned (.int .u32 ((dw N i : Nat) : Int)) ∧ w' = w := by
  subst hI
  have HL : Hid (N < 256 ^ (4 * n)) := hv.lt
  obtain ⟨a, cap, rfl, hc, -, hr⟩ := hv
  by_cases h : i < n
  · obtain ⟨b, off, rfl, hR, -⟩ := hr (by omega)
    have c1 := hR i h
    clear hR hr
    generalize ((dw N i : Nat) : Int) = D at *
    go_enter Tajg.func98, Tajg.ntmps98
    go_wp2_with fail
    go_ret
    exact ⟨rfl, rfl⟩
  · rw [dw_above N i n HL.out (by omega)]
    clear hr
    go_enter Tajg.func98, Tajg.ntmps98
    go_wp2_with fail
    go_ret
    exact ⟨rfl, rfl⟩

set_option maxRecDepth 20000 in
set_option maxHeartbeats 400000 in
theorem trimmed_any (v : Value) (n N : Nat) (w : World) (hn : n ≤ 100000) :
    Wn w v n N → Calls Tajg.prog 63 #[v] w fun e w' => (∃ v', e = .returned v' ∧ Wn w v' (wl N) N ∧ (∀ B, Fr B w v → Fr B w v') ∧ v'.ownBlock = v.ownBlock) ∧ w' = w := by
  rintro ⟨a, cap, rfl, hc, hl, hr⟩
  have HL : Hid (N < 256 ^ (4 * n)) := hl
  have HR : Hid (0 < n → ∃ b off, a = some ⟨b, off, none⟩ ∧ Rd .u32 w b off n (dw N) ∧ Cl w b) := hr
  clear hl hr
  go_enter Tajg.func63, Tajg.ntmps63
  go_wp2_with fail
  go_loop [3] (fun i => ∃ m : Nat, m ≤ n ∧ i = .int .i64 m ∧ Hid (N < 256 ^ (4 * m))) (fun i => (intOf i).toNat)
  case atStart => exact ⟨n, Nat.le_refl _, rfl, HL⟩
  case round =>
    obtain ⟨m, hm, rfl, HM⟩ := hrel
    by_cases h0 : m = 0
    · subst h0
      have e0 : N = 0 := by have := HM.out; simpa using this
      go_wp2_with fail
      go_ret
      refine ⟨⟨_, rfl, ?_, ?_, ?_⟩, rfl⟩
      · rw [wl_zero]; exact ⟨a, 0, rfl, Nat.le_refl _, by simp, fun h => absurd h (by omega)⟩
      · intro B h b off sp n' c' e
        cases e
        obtain ⟨h1, h2, h3⟩ := h b off sp n cap rfl
        exact ⟨h1, h2, fun i hi => absurd hi (by omega)⟩
      · cases a <;> rfl
    · obtain ⟨b, off, rfl, hR, hcl⟩ := HR.out (by omega)
      obtain ⟨k, rfl⟩ : ∃ k, m = k + 1 := ⟨m - 1, by omega⟩
      have hc1 := hR k (by omega)
      have hd0 := dw_lt N k
      have em : ((k + 1 : Nat) : Int) - 1 = (k : Int) := by omega
      have hg0 : decide ((0 : Int) < ((k + 1 : Nat) : Int)) = true := by simp
      by_cases hz : dw N k = 0
      · have HZ : Hid (N < 256 ^ (4 * k)) := dw_zero_top _ _ HM.out hz
        rw [hz] at hc1
        clear hd0 hz hR hcl HR
        go_wp2_with fail
        go_round
        case rel => exact ⟨k, by omega, by go_num, HZ⟩
        case measure => simp [intOf]
      · have hwl := wl_top _ _ HM.out hz
        have HNm : Hid (Wn w (.slice (some ⟨b, off, none⟩) (k + 1) (k + 1)) (wl N) N) := by
          show Wn _ _ _ _
          rw [hwl]
          exact ⟨_, k + 1, rfl, Nat.le_refl _, HM.out, fun _ => ⟨b, off, rfl, fun i hi => hR i (by omega), hcl⟩⟩
        have hz2 : (((dw N k : Nat) : Int) == 0) = false := by rw [beq_eq_false_iff_ne]; omega
        have HFr : Hid (∀ B, Fr B w (.slice (some ⟨b, off, none⟩) n cap) → Fr B w (.slice (some ⟨b, off, none⟩) (k + 1) (k + 1))) := by
          intro B h
          obtain ⟨h1, _, h3⟩ := h b off none n cap rfl
          exact Fr.mk h1 (hcl.wr _ _)
        clear hd0 hz hwl hR hcl HR
        generalize ((dw N k : Nat) : Int) = D at *
        generalize hk1 : k + 1 = k1 at *
        go_wp2_with fail
        go_ret
        exact ⟨⟨_, rfl, HNm.out, HFr.out, rfl⟩, rfl⟩

set_option maxRecDepth 20000 in
set_option maxHeartbeats 1000000 in
theorem wordsOf_any (v : Value) (N : Nat) (w : World) (hn : dl N ≤ 100000) (hv : Nm w v N) :
    Calls Tajg.prog 59 #[v] w fun e w' => ∃ v', e = .returned v' ∧ Wn w' v' (wl N) N ∧ Fr w.heap.size w' v' ∧ Same w w' := by
  obtain ⟨a, cap, rfl, hc, -, hr⟩ := hv.na
  have HR : Hid (0 < dl N → ∃ b off, a = some ⟨b, off, none⟩ ∧ Rd .u8 w b off (dl N) (dg N) ∧ Cl w b) := hr
  clear hr hv
  obtain ⟨n, HN⟩ : ∃ n, Hid (n = wl N) := ⟨_, rfl⟩
  obtain ⟨m, HM⟩ : ∃ m, Hid (m = dl N) := ⟨_, rfl⟩
  have HNm : Hid (n = (m + 3) / 4) := by show _ = _; rw [HN.out, HM.out]; rfl
  have HE : Hid (N % 256 ^ m = N) := by show _ = _; rw [HM.out]; exact Nat.mod_eq_of_lt (lt_dl N)
  rw [← HN.out]
  rw [← HM.out] at hn hc HR ⊢
  have en : ((m : Int) + 3) / 4 = (n : Int) := by have := HNm.out; omega
  have hnb : n ≤ 100000 := by have := HNm.out; omega
  go_enter Tajg.func59, Tajg.ntmps59
  go_wp2_with (at_make; refine wpList_mkc n .u32 46 4 _ _ (by rfl) (by rfl) (by go_num) (by go_num) Tajg.underlying57 info46 (by omega) (by omega) ?_; intro B w1 hB1 hB2 hRB hCB hs1)
  go_loopw [4] (fun i wr => ∃ j : Nat, j ≤ m ∧ i = .int .i64 (j : Int) ∧ Rd .u32 wr B 0 n (dw (N % 256 ^ j)) ∧ Cl wr B ∧ Same w wr) (fun i _ => (m - intOf i).toNat)
  case atStart => exact ⟨0, by omega, rfl, hRB.congr (fun i _ => by rw [Nat.pow_zero, Nat.mod_one]; unfold dw; simp), hCB, hs1⟩
  case round =>
    clear hRB hCB hs1
    obtain ⟨j, hj, rfl, hR, hC, hS⟩ := hrel
    by_cases h0 : j = m
    · subst h0
      rw [HE.out] at hR
      go_wp2_with fail
      go_ret
      exact ⟨_, rfl, ⟨_, n, rfl, Nat.le_refl _, by rw [HN.out]; exact lt_wl N, fun _ => ⟨B, 0, rfl, hR, hC⟩⟩, Fr.mk hB1 (hC.wr _ _), hS⟩
    · have hlt : j < m := by omega
      obtain ⟨b, off, rfl, hRd, -⟩ := HR.out (by omega)
      have c1 := (hRd.same hS) j hlt
      obtain ⟨q, HQ⟩ : ∃ q, Hid (q = j / 4) := ⟨_, rfl⟩
      have eq4 : (j : Int) / 4 = (q : Int) := by have := HQ.out; omega
      have hqn : q < n := by have h1 := HQ.out; have h2 := HNm.out; omega
      have c2 := hR q hqn
      have c3 := hC (0 + q)
      rw [Nat.zero_add] at c2 c3
      obtain ⟨r, HRr⟩ : ∃ r, Hid (r = j % 4) := ⟨_, rfl⟩
      have er4 : (j : Int) % 4 = (r : Int) := by have := HRr.out; omega
      obtain ⟨s, HS⟩ : ∃ s, Hid (s = 8 * r) := ⟨_, rfl⟩
      have es : (8 : Int) * (r : Int) = (s : Int) := by have := HS.out; omega
      have hr4 : r < 4 := by have := HRr.out; omega
      have hs32 : s < 32 := by have := HS.out; omega
      obtain ⟨hh1, hh2⟩ := dw_here N j
      rw [← HQ.out, ← HRr.out, ← HS.out] at hh1 hh2
      have hor := or_words _ (dg N j) s hh2
      rw [← hh1] at hor
      have hwlt := dw_lt (N % 256 ^ (j + 1)) q
      have hb1 : dg N j * 2 ^ s < 4294967296 := by omega
      have hb2 := dw_lt (N % 256 ^ j) q
      have hb3 := dg_lt N j
      have hor2 := u32_or_nat _ _ hb2 hb1
      rw [hor] at hor2
      have HRn : Hid (Rd .u32 (wr.setCell ⟨B, 0 + q, none⟩ (.int .u32 ((dw (N % 256 ^ (j + 1)) q : Nat) : Int))) B 0 n (dw (N % 256 ^ (j + 1)))) := by
        refine (hR.setCell q _ hqn).congr fun k _ => ?_
        by_cases hk : k = q
        · subst hk; rw [upd_same]
        · rw [upd_other _ _ _ _ hk, ← dw_other N j k (by rw [← HQ.out]; exact hk)]
      rw [Nat.zero_add] at HRn
      have eD : ((dg N j : Nat) : Int) * 2 ^ s = ((dg N j * 2 ^ s : Nat) : Int) := by push_cast; rfl
      have z0 : 0 ≤ ((dg N j : Nat) : Int) := by omega
      have z1 : ((dg N j : Nat) : Int) < 256 := by omega
      have z2 : 0 ≤ ((dw (N % 256 ^ j) q : Nat) : Int) := by omega
      have z3 : ((dw (N % 256 ^ j) q : Nat) : Int) < 4294967296 := by omega
      have z4 : 0 ≤ ((dg N j * 2 ^ s : Nat) : Int) := Int.natCast_nonneg _
      have z5 : ((dg N j * 2 ^ s : Nat) : Int) < 4294967296 := Int.ofNat_lt.2 hb1
      have z6 : 0 ≤ ((dw (N % 256 ^ (j + 1)) q : Nat) : Int) := by omega
      have z7 : ((dw (N % 256 ^ (j + 1)) q : Nat) : Int) < 4294967296 := by omega
      clear hh1 hh2 hor hwlt hb1 hb2 hb3 hRd
      generalize ((dg N j * 2 ^ s : Nat) : Int) = E at *
      generalize ((dg N j : Nat) : Int) = D at *
      generalize ((dw (N % 256 ^ j) q : Nat) : Int) = F at *
      generalize ((dw (N % 256 ^ (j + 1)) q : Nat) : Int) = G at *
      go_wp2_with fail
      refine Text.wp_text (by kernel_rfl) (by kernel_rfl) ⟨fun c a w h => (by obtain ⟨_, _, h, _⟩ := h; cases h), fun a w h => (by obtain ⟨_, h, _⟩ := h; cases h)⟩ ?_
      intro K hK
      go_wp2_with fail
      refine hK _ _ (by rfl) ?_
      go_wp2_with fail
      go_roundw
      case rel => exact ⟨j + 1, by omega, by go_num, HRn.out, hC.setCell _ _, (hS.setCell B _ _ (fun h => absurd h (by omega))).drew⟩
      case measure => simp [intOf]; omega
end Go.Proofs.Ygctaj.Nt
