/- The row of law.PrimeRight: the frame by the kit's template; the walk lies in YgctajPrimeRightWalks. -/
import Derived.Test.YgctajRows
import Derived.Test.YgctajPrimeRightWalks
import Derived.WalkKit
import Derived.ProofKit
import Derived.OpenShut
import Derived.ShutString
import Derived.ChangeOld
import Derived.Below
namespace Go.Proofs.Ygctaj.primeRight
open Go.ChangeShapes Go.WideShapes Go.ChangeAt Go.RowKit
open Go.ChangeMaps (open_string shut_string)
set_option linter.unusedVariables false      -- a walk need not use every 'w<i>' (that an integer argument fits its kind)

theorem own : ownKnob Tajg.prog.godebug = none := by kernel_rfl

/-! ### THE ROW's STEP: WRITTEN OUT: LEAVE IT -/
set_option maxRecDepth 100000 in
theorem lifted (os : Os) (started : os.Started) (H : Type) (enc : TypeId × Value → H) :
    ReturnsInHanded {} Tajg.checked os 8 .any (Rows.primeRightSpec.pre6 enc Tajg.prog Tajg.f8 Rows.primeRightRow.domain false) (Rows.primeRightSpec.post enc Tajg.prog Tajg.f8 false true false false) := by
  refine returnsInHanded_of_change (C := Tajg.checked) own started (by kernel_rfl) Tajg.func8
    (ChangeSpec.witness6 (enc := enc) (C := Tajg.checked) false ⟨#[], #[.int .u32 0], []⟩ 8 (by kernel_rfl) (by kernel_rfl) (by kernel_rfl) (by kernel_rfl)) ?_
  intro W base args ds gs before hval0 hW hcnd _
  have hval : ∀ (j : Nat) t v, Tajg.f8.params[j]? = some t → args[j]? = some v → Value.okWide Tajg.prog W .any base t v := hval0
  have hW' := hW
  obtain ⟨p, q, hA0, hV, rfl, hfz, hnd⟩ := hW
  have hA : DataW.TrodAll enc Tajg.prog W 0 (fun _ => true) true Tajg.f8.params.toList args.toList ds p := hA0
  rw [Tajg.params8] at hA hval
  obtain ⟨v0, vs0, d0, ds0, p0, q0, hargs, rfl, rfl, h0, r0⟩ := trodAll_cons hA
  obtain ⟨rfl, rfl, rfl⟩ := trodAll_nil r0
  obtain rfl : args = #[v0] := by cases args; simp_all
  obtain ⟨rfl, rfl⟩ := trodVars_none hV
  obtain ⟨a0, rfl, rfl, rfl, w0⟩ := open_int Tajg.underlying46 (hval 0 46 v0 rfl rfl) h0
  clear hA0 hval0
  refine (walk a0 w0 W).mono fun e W' ⟨he, bel⟩ => ?_
  subst he
  exact ⟨_, rfl, _, _, _, [], _, [], hW', trodAll_mk1 (shut_bool Tajg.underlying4 _), (trodAll_cons_mk (shut_int Tajg.underlying46 w0) trodAll_mk0), rfl, bel.frame _, fun h => by cases h⟩

theorem over : Rows.primeRightRow.holds Tajg.pinned (OpenSpec.ofChange Rows.primeRightSpec) :=
  OpenClaim.holds_of_wide 8 Tajg.f8 rfl rfl rfl rfl rfl rfl rfl ⟨rfl, rfl, rfl, rfl, rfl⟩ rfl rfl rfl rfl rfl (by kernel_rfl) Tajg.func8 (by kernel_rfl)
    (of_decide_eq_true (by kernel_rfl)) (by unfold Func.isWrapper; first | (rw [if_pos (by decide +kernel)]; kernel_rfl) | (rw [if_neg (by decide +kernel)]; exact ⟨rfl, rfl⟩))
    (fun os started H enc _ => lifted os started H enc)

/-- ████ THE STATEMENT ████ -/
theorem proved : Rows.PrimeRightSaid :=
  over
#print axioms proved
end Go.Proofs.Ygctaj.primeRight
