/- nlong.Div, walked. -/
import Derived.Test.YgctajDivide
import Derived.Test.YgctajDivStep
namespace Go.Proofs.Ygctaj.Nt
open Go.RowKit Mem Long
set_option linter.unusedVariables false

theorem Na.kept {may : Nat → Nat → Prop} {w w' : World} {v : Value} {n N : Nat} (h : Na w v n N) (hc : Chg may w w') (hb : ∀ b, v.ownBlock = some b → ∀ o, ¬ may b o) : Na w' v n N := by
  obtain ⟨a, cap, rfl, h1, h2, hr⟩ := h
  refine ⟨a, cap, rfl, h1, h2, fun hn => ?_⟩
  obtain ⟨b, off, rfl, hR, hcl⟩ := hr hn
  exact ⟨b, off, rfl, hR.kept hc (fun i _ => hb b rfl _), hcl.kept hc (hR.lt hn)⟩
theorem Nm.kept {may : Nat → Nat → Prop} {w w' : World} {v : Value} {N : Nat} (h : Nm w v N) (hc : Chg may w w') (hb : ∀ b, v.ownBlock = some b → ∀ o, ¬ may b o) : Nm w' v N :=
  ⟨h.1.kept hc hb, h.2⟩

set_option maxRecDepth 100000 in
set_option maxHeartbeats 1000000 in
theorem div_none (a b : Value) (na nb A : Nat) (w : World) (hna : na ≤ 1000000) (hnb : nb ≤ 1000000) (ha : Na w a na A) (hb : Na w b nb 0) :
    Calls Tajg.prog 25 #[a, b] w fun e w' => e = .returned (.tuple #[.slice none 0 0, .slice none 0 0, .bool false]) ∧ w' = w := by
  go_enter Tajg.func25, Tajg.ntmps25
  go_wp2_with fail
  refine (normal_any a na A w (by omega) ha).mono ?_
  rintro e w1 ⟨⟨a1, rfl, ha1, -⟩, rfl⟩
  go_wp2_with fail
  refine (normal_any b nb 0 _ (by omega) hb).mono ?_
  rintro e w1 ⟨⟨b1, rfl, hb1, -⟩, rfl⟩
  obtain rfl := hb1.2 rfl
  go_wp2_with fail
  go_ret3
  exact ⟨rfl, rfl⟩

theorem len_lt {A B : Nat} (h : dl A < dl B) : A < B := lt_of_dl h

set_option maxRecDepth 100000 in
set_option maxHeartbeats 2000000 in
theorem div_less (a b : Value) (na nb A B : Nat) (w : World) (hna : na ≤ 1000000) (hnb : nb ≤ 1000000) (ha : Na w a na A) (hb : Na w b nb B) (hB : B ≠ 0) (hlt : dl A < dl B) :
    Calls Tajg.prog 25 #[a, b] w fun e w' => ∃ q r, e = .returned (.tuple #[q, r, .bool true]) ∧ Nm w' q (A / B) ∧ Nm w' r (A % B) ∧ Fr w.heap.size w' q ∧ Fr w.heap.size w' r ∧ Same w w' := by
  have hdA : dl A ≤ 1000000 := by have := dl_le _ _ ha.lt; omega
  have hdB : dl B ≤ 1000000 := by have := dl_le _ _ hb.lt; omega
  have hAB := lt_of_dl hlt
  have HQ : Hid (A / B = 0 ∧ A % B = A) := ⟨Nat.div_eq_of_lt hAB, Nat.mod_eq_of_lt hAB⟩
  have hb0 : ((dl B : Int) == 0) = false := by rw [beq_eq_false_iff_ne]; omega
  clear hAB
  go_enter Tajg.func25, Tajg.ntmps25
  go_wp2_with fail
  refine (normal_any a na A w (by omega) ha).mono ?_
  rintro e w1 ⟨⟨a1, rfl, ha1, -⟩, rfl⟩
  go_wp2_with fail
  refine (normal_any b nb B _ (by omega) hb).mono ?_
  rintro e w1 ⟨⟨b1, rfl, hb1, -⟩, rfl⟩
  have HA : Hid (Nm w1 a1 A) := ha1
  obtain ⟨aa, ca, rfl, -⟩ := ha1.na
  obtain ⟨ab, cb, rfl, -⟩ := hb1.na
  clear ha1 hb1
  obtain ⟨la, HLA⟩ : ∃ la, Hid (la = dl A) := ⟨_, rfl⟩
  obtain ⟨lb, HLB⟩ : ∃ lb, Hid (lb = dl B) := ⟨_, rfl⟩
  rw [← HLB.out] at hb0 hlt hdB ⊢
  rw [← HLA.out] at hlt hdA HA ⊢
  have hm : (la : Int) - (lb : Int) + 1 < 1 := by omega
  go_wp2_with fail
  refine (add_any _ (.slice none 0 0) la 0 A 0 w1 (by omega) (by omega) (by have h := HA.out.na; rwa [← HLA.out] at h) (Na.nil _)).mono ?_
  rintro e w2 ⟨r2, rfl, hr2, hf2, hs2⟩
  go_wp2_with fail
  go_ret3
  exact ⟨_, _, rfl, by rw [HQ.out.1]; exact Nm.nil _, by rw [HQ.out.2]; exact hr2, Fr.nil _ _, hf2, hs2⟩
end Go.Proofs.Ygctaj.Nt
