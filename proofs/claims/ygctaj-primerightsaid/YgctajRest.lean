/- nlong.rest, walked. -/
import Derived.Test.YgctajDivSmall
namespace Go.Proofs.Ygctaj.Nt
open Go.RowKit Mem
set_option linter.unusedVariables false

set_option maxRecDepth 20000 in
set_option maxHeartbeats 400000 in
theorem rest_any (v : Value) (n N V : Nat) (w : World) (hn : n ≤ 1000000) (hV : 0 < V) (hV2 : V ≤ 281474976710656) (hv : Na w v n N) :
    Calls Tajg.prog 72 #[v, .int .u64 (V : Int)] w fun e w' => e = .returned (.int .u64 ((N % V : Nat) : Int)) ∧ w' = w := by
  have HV : Hid (N < 256 ^ n) := hv.lt
  obtain ⟨a, cap, rfl, hc, -, hr⟩ := hv
  have HR : Hid (0 < n → ∃ b off, a = some ⟨b, off, none⟩ ∧ Rd .u8 w b off n (dg N) ∧ Cl w b) := hr
  clear hr
  have v0 : (0 : Int) < (V : Int) := by omega
  have v1 : ((V : Int) == 0) = false := by rw [beq_eq_false_iff_ne]; omega
  go_enter Tajg.func72, Tajg.ntmps72
  go_wp2_with fail
  go_loop [5, 6] (fun o i => ∃ j : Nat, j ≤ n ∧ i = .int .i64 ((j : Int) - 1) ∧ o = .int .u64 ((N / 256 ^ j % V : Nat) : Int)) (fun _ i => (intOf i + 1).toNat)
  case atStart => exact ⟨n, Nat.le_refl _, rfl, by rw [Nat.div_eq_of_lt HV.out, Nat.zero_mod]; rfl⟩
  case round =>
    obtain ⟨j, hj, rfl, rfl⟩ := hrel
    by_cases h0 : j = 0
    · subst h0
      rw [Nat.pow_zero, Nat.div_one]
      clear HR
      go_wp2_with fail
      go_ret
      exact ⟨rfl, rfl⟩
    · obtain ⟨b, off, rfl, hR, -⟩ := HR.out (by omega)
      obtain ⟨i, rfl⟩ : ∃ i, j = i + 1 := ⟨j - 1, by omega⟩
      have c1 := hR i (by omega)
      have d1 := dg_lt N i
      have ei : ((i + 1 : Nat) : Int) - 1 = (i : Int) := by omega
      have hd := div_dg N (i + 1) (by omega)
      rw [Nat.add_sub_cancel] at hd
      have hb : N / 256 ^ (i + 1) % V < V := Nat.mod_lt _ hV
      have ho := or_dg (N / 256 ^ (i + 1) % V) (dg N i) (by omega) d1
      have HQ : Hid ((N / 256 ^ (i + 1) % V * 256 + dg N i) % V = N / 256 ^ i % V) := by
        show _ = _
        have e : N / 256 ^ i = N / 256 ^ (i + 1) * 256 + dg N i := by omega
        rw [e, Nat.add_mod, Nat.mul_mod, Nat.mod_mod, ← Nat.mul_mod, ← Nat.add_mod]
      have hA1 : N / 256 ^ (i + 1) % V * 256 + dg N i < 18446744073709551616 := by omega
      have HQi : Hid (((N / 256 ^ (i + 1) % V * 256 + dg N i : Nat) : Int) % (V : Int) = ((N / 256 ^ i % V : Nat) : Int)) := by
        show _ = _; rw [← Int.natCast_emod, HQ.out]
      have hQ := HQi.out
      clear hR HR HQ hd
      rw [ei]
      generalize N / 256 ^ (i + 1) % V = A at *
      have ea : (A : Int) * 256 = ((A * 256 : Nat) : Int) := by omega
      have z0 : (0 : Int) ≤ (A : Int) := by omega
      have z1 : (A : Int) < 18446744073709551616 := by omega
      have z2 : (0 : Int) ≤ ((A * 256 : Nat) : Int) := by omega
      have z3 : ((A * 256 : Nat) : Int) < 18446744073709551616 := by omega
      have z4 : (0 : Int) ≤ ((dg N i : Nat) : Int) := by omega
      have z5 : ((dg N i : Nat) : Int) < 256 := by omega
      have z6 : (0 : Int) ≤ ((A * 256 + dg N i : Nat) : Int) := by omega
      have z7 : ((A * 256 + dg N i : Nat) : Int) < 18446744073709551616 := by omega
      obtain ⟨T, HT⟩ : ∃ T : Int, Hid (T = ((N / 256 ^ i % V : Nat) : Int)) := ⟨_, rfl⟩
      rw [← HT.out] at hQ
      clear hA1 d1 hb
      generalize ((A * 256 + dg N i : Nat) : Int) = A3 at *
      generalize ((A * 256 : Nat) : Int) = A2 at *
      generalize (A : Int) = A1 at *
      generalize ((dg N i : Nat) : Int) = D at *
      go_wp2_with fail
      go_round
      case rel => exact ⟨i, by omega, rfl, by rw [HQi.out]⟩
      case measure => simp [intOf]
end Go.Proofs.Ygctaj.Nt
