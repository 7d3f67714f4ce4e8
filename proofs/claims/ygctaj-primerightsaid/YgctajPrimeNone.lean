/- No composite number below 2^32 passes the tests. -/
import Derived.Test.YgctajPrimeCnt
import Derived.Test.YgctajPrimeS1
import Derived.Test.YgctajPrimeS2
import Derived.Test.YgctajPrimeS3
import Derived.Test.YgctajPrimeS4
import Derived.Test.YgctajPrimeS5
import Derived.Test.YgctajPrimeP1
import Derived.Test.YgctajPrimeP2
import Derived.Test.YgctajPrimeP3
namespace Go.Proofs.Ygctaj.Pq
open Num
set_option linter.unusedVariables false

theorem small_list : ∀ r, r < 320 → 43 ≤ r → Nat.gcd r PRM = 1 → r ∈ [43, 47, 53, 59, 61, 67, 71, 73, 79, 83, 89, 97, 101, 103, 107, 109, 113, 127, 131, 137, 139, 149, 151, 157, 163, 167, 173, 179, 181, 191, 193, 197, 199, 211, 223, 227, 229, 233, 239, 241, 251, 257, 263, 269, 271, 277, 281, 283, 293, 307, 311, 313, 317] := by decide +kernel
set_option maxRecDepth 100000 in
theorem Ps.small {n : Nat} (h : Ps n) (hl : ∀ r, Prm r → r ∣ n → r < 320) : False := by
  have hs : ∀ s, Prm s → s ∣ n → (s - 1) ∣ (n - 1) := fun s h1 h2 => h.ord_small h1 h2 (by have := hl s h1 h2; omega)
  have h0 := fun s (h1 : Prm s) (h2 : s ∣ n) => small_list s (hl s h1 h2) (h.ge h1 h2) (h.cop_dvd h2)
  replace h0 := go_step h hs (by decide) h0 pr_43
  replace h0 := go_step h hs (by decide) h0 pr_47
  replace h0 := go_step h hs (by decide) h0 pr_53
  replace h0 := go_step h hs (by decide) h0 pr_59
  replace h0 := go_step h hs (by decide) h0 pr_61
  replace h0 := go_step h hs (by decide) h0 pr_67
  replace h0 := go_step h hs (by decide) h0 pr_71
  replace h0 := go_step h hs (by decide) h0 pr_73
  replace h0 := go_step h hs (by decide) h0 pr_79
  replace h0 := go_step h hs (by decide) h0 pr_83
  replace h0 := go_step h hs (by decide) h0 pr_89
  replace h0 := go_step h hs (by decide) h0 pr_97
  replace h0 := go_step h hs (by decide) h0 pr_101
  replace h0 := go_step h hs (by decide) h0 pr_103
  replace h0 := go_step h hs (by decide) h0 pr_107
  replace h0 := go_step h hs (by decide) h0 pr_109
  replace h0 := go_step h hs (by decide) h0 pr_113
  replace h0 := go_step h hs (by decide) h0 pr_127
  replace h0 := go_step h hs (by decide) h0 pr_131
  replace h0 := go_step h hs (by decide) h0 pr_137
  replace h0 := go_step h hs (by decide) h0 pr_139
  replace h0 := go_step h hs (by decide) h0 pr_149
  replace h0 := go_step h hs (by decide) h0 pr_151
  replace h0 := go_step h hs (by decide) h0 pr_157
  replace h0 := go_step h hs (by decide) h0 pr_163
  replace h0 := go_step h hs (by decide) h0 pr_167
  replace h0 := go_step h hs (by decide) h0 pr_173
  replace h0 := go_step h hs (by decide) h0 pr_179
  replace h0 := go_step h hs (by decide) h0 pr_181
  replace h0 := go_step h hs (by decide) h0 pr_191
  replace h0 := go_step h hs (by decide) h0 pr_193
  replace h0 := go_step h hs (by decide) h0 pr_197
  replace h0 := go_step h hs (by decide) h0 pr_199
  replace h0 := go_step h hs (by decide) h0 pr_211
  replace h0 := go_step h hs (by decide) h0 pr_223
  replace h0 := go_step h hs (by decide) h0 pr_227
  replace h0 := go_step h hs (by decide) h0 pr_229
  replace h0 := go_step h hs (by decide) h0 pr_233
  replace h0 := go_step h hs (by decide) h0 pr_239
  replace h0 := go_step h hs (by decide) h0 pr_241
  replace h0 := go_step h hs (by decide) h0 pr_251
  replace h0 := go_step h hs (by decide) h0 pr_257
  replace h0 := go_step h hs (by decide) h0 pr_263
  replace h0 := go_step h hs (by decide) h0 pr_269
  replace h0 := go_step h hs (by decide) h0 pr_271
  replace h0 := go_step h hs (by decide) h0 pr_277
  replace h0 := go_step h hs (by decide) h0 pr_281
  replace h0 := go_step h hs (by decide) h0 pr_283
  replace h0 := go_step h hs (by decide) h0 pr_293
  replace h0 := go_step h hs (by decide) h0 pr_307
  replace h0 := go_step h hs (by decide) h0 pr_311
  replace h0 := go_step h hs (by decide) h0 pr_313
  replace h0 := go_step h hs (by decide) h0 pr_317
  obtain ⟨s, h1, h2⟩ := prm_factor n h.two
  exact absurd (h0 s h1 h2) (by simp)

theorem Ps.great {n q : Nat} (h : Ps n) (hq : Prm q) (hd : q ∣ n) (hq0 : 320 ≤ q) : False := by
  have hb := h.ord hq hd
  have hg0 : 0 < Nat.gcd (n - 1) (q - 1) := Nat.gcd_pos_of_pos_right _ (by omega)
  have c8 := few_cnt hq hg0 hb 8 (by omega)
  rw [cnt_8] at c8
  have hno := fun D => h.no (D := D) hq hd hq0 (by omega)
  rcases Nat.lt_or_ge 512 q with ht | ht
  case inr =>
    have hn := hno 2 (by omega) (by omega)
    rcases Nat.lt_or_ge 349 q with hu | hu
    case inr => exact hn (ch_320 q (by omega) hu)
    rcases Nat.lt_or_ge 379 q with hu | hu
    case inr => exact hn (ch_350 q (by omega) hu)
    rcases Nat.lt_or_ge 409 q with hu | hu
    case inr => exact hn (ch_380 q (by omega) hu)
    rcases Nat.lt_or_ge 443 q with hu | hu
    case inr => exact hn (ch_410 q (by omega) hu)
    rcases Nat.lt_or_ge 479 q with hu | hu
    case inr => exact hn (ch_444 q (by omega) hu)
    exact hn (ch_480 q (by omega) ht)
  rcases Nat.lt_or_ge 1024 q with ht | ht
  case inr =>
    have c9 := few_cnt hq hg0 hb 9 (by omega)
    rw [cnt_9] at c9
    have hn := hno 3 (by omega) (by omega)
    rcases Nat.lt_or_ge 577 q with hu | hu
    case inr => exact hn (ch_513 q (by omega) hu)
    rcases Nat.lt_or_ge 647 q with hu | hu
    case inr => exact hn (ch_578 q (by omega) hu)
    rcases Nat.lt_or_ge 739 q with hu | hu
    case inr => exact hn (ch_648 q (by omega) hu)
    rcases Nat.lt_or_ge 859 q with hu | hu
    case inr => exact hn (ch_740 q (by omega) hu)
    exact hn (ch_860 q (by omega) ht)
  rcases Nat.lt_or_ge 2048 q with ht | ht
  case inr =>
    have c10 := few_cnt hq hg0 hb 10 (by omega)
    rw [cnt_10] at c10
    have hn := hno 4 (by omega) (by omega)
    rcases Nat.lt_or_ge 1259 q with hu | hu
    case inr => exact hn (ch_1025 q (by omega) hu)
    rcases Nat.lt_or_ge 1697 q with hu | hu
    case inr => exact hn (ch_1260 q (by omega) hu)
    exact hn (ch_1698 q (by omega) ht)
  rcases Nat.lt_or_ge 4096 q with ht | ht
  case inr =>
    have c11 := few_cnt hq hg0 hb 11 (by omega)
    rw [cnt_11] at c11
    have hn := hno 5 (by omega) (by omega)
    rcases Nat.lt_or_ge 3671 q with hu | hu
    case inr => exact hn (ch_2049 q (by omega) hu)
    exact hn (ch_3672 q (by omega) ht)
  rcases Nat.lt_or_ge 8192 q with ht | ht
  case inr =>
    have c12 := few_cnt hq hg0 hb 12 (by omega)
    rw [cnt_12] at c12
    have hn := hno 6 (by omega) (by omega)
    exact hn (ch_4097 q (by omega) ht)
  rcases Nat.lt_or_ge 16384 q with ht | ht
  case inr =>
    have c13 := few_cnt hq hg0 hb 13 (by omega)
    rw [cnt_13] at c13
    have hn := hno 8 (by omega) (by omega)
    exact hn (ch_8193 q (by omega) ht)
  rcases Nat.lt_or_ge 32768 q with ht | ht
  case inr =>
    have c14 := few_cnt hq hg0 hb 14 (by omega)
    rw [cnt_14] at c14
    have hn := hno 11 (by omega) (by omega)
    exact hn (ch_16385 q (by omega) ht)
  rcases Nat.lt_or_ge 65536 q with ht | ht
  case inr =>
    have c15 := few_cnt hq hg0 hb 15 (by omega)
    rw [cnt_15] at c15
    have hn := hno 15 (by omega) (by omega)
    exact hn (ch_32769 q (by omega) ht)
  rcases Nat.lt_or_ge 131072 q with ht | ht
  case inr =>
    have c16 := few_cnt hq hg0 hb 16 (by omega)
    rw [cnt_16] at c16
    have hn := hno 21 (by omega) (by omega)
    rcases Nat.lt_or_ge 126151 q with hu | hu
    case inr => exact hn (ch_65537 q (by omega) hu)
    exact hn (ch_126152 q (by omega) ht)
  rcases Nat.lt_or_ge 262144 q with ht | ht
  case inr =>
    have c17 := few_cnt hq hg0 hb 17 (by omega)
    rw [cnt_17] at c17
    have hn := hno 28 (by omega) (by omega)
    rcases Nat.lt_or_ge 184057 q with hu | hu
    case inr => exact hn (ch_131073 q (by omega) hu)
    rcases Nat.lt_or_ge 237971 q with hu | hu
    case inr => exact hn (ch_184058 q (by omega) hu)
    exact hn (ch_237972 q (by omega) ht)
  rcases Nat.lt_or_ge 331684 q with ht | ht
  case inr =>
    have c18 := few_cnt hq hg0 hb 18 (by omega)
    rw [cnt_18] at c18
    have hn := hno 25 (by omega) (by omega)
    rcases Nat.lt_or_ge 320839 q with hu | hu
    case inr => exact hn (ch_262145 q (by omega) hu)
    exact hn (ch_320840 q (by omega) ht)
  have c18 := few_cnt hq hg0 hb 18 (by omega)
  rw [cnt_18] at c18
  obtain ⟨k, rfl⟩ := hd
  have hk0 : k ≠ 0 := by rintro rfl; have := h.two; omega
  have hk1 : k ≠ 1 := by rintro rfl; rw [Nat.mul_one] at h; exact h.comp hq
  have hm := cof_mod (by omega) (by omega) (Nat.gcd_dvd_left (q * k - 1) (q - 1)) (Nat.gcd_dvd_right _ _)
  have hle := Nat.le_of_dvd (by omega) hm
  have h1 : 331685 * 12949 ≤ q * k := Nat.mul_le_mul (by omega) (by omega)
  have h2 := h.lt
  omega

/-- no composite number below 2^32 passes. -/
theorem no_ps (n : Nat) : ¬ Ps n := fun h => by
  obtain ⟨q, hq, hd, hmax⟩ := prm_greatest n h.two
  rcases Nat.lt_or_ge q 320 with h1 | h1
  · exact h.small fun r hr hrd => Nat.lt_of_le_of_lt (hmax r hr hrd) h1
  · exact h.great hq hd h1
end Go.Proofs.Ygctaj.Pq
