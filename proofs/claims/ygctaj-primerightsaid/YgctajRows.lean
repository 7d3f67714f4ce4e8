/-
  No cell of these rows narrows 'for every input' (looked for: loops, veiled, ifaces, maps, wideKeys, modest, calm, conditions, laid).
  DERIVED. THE GIVEN ROWS OF THIS SEAT. 12 by the template 'for every input the law returns true; each argument reads behind the call as it read before'; 0 by the template 'total and deterministic' (their statements: YgctajTotals.lean).
  GIVEN WITH THE SEED: the statements are not yours to turn. If you find one false, say at which input.
  Laid BY PROGRAM, IN A SANDBOX (cutbox-rows.mjs): the forced cells as the released guide's own fill.sh prints them over the translation a00d2956bebd6804… (all of the seat's roots in one cut). By AI agents, Wed Nov 11 2026. No macro, syntax, notation, axiom, sorry.
-/
import Derived.Test.YgctajChecked
import GoSem.Claim
import GoSem.ClaimJoined
import GoSem.ClaimMapViews
import Derived.JoinedTies
import Derived.KernelRfl
namespace Go.Proofs.Ygctaj
/- THE CELL 'sum', in the pinned program and in every row, IS THE sha256 OF THE DUMP (.gsa) THAT YgctajProg.lean LOADS. Nothing in Lean hashes anything: it is a label: what it is worth is what the hold of that sum in a sandbox is worth. -/
noncomputable def Tajg.pinned : Pinned := { name := "ygctaj", sum := "a00d2956bebd68040161c11d2b12b83c083ee03abba06c75951d4dbb8b29645e", checked := Tajg.checked }
namespace Rows
def none {H : Type} : Left H := { results := [], args := [] }

/-- 'law.PowerLongRight': WHATEVER THE INPUT: true; the input reads as it did. -/
def powerLongRightSpec : ChangeSpec := { name := "powerLongRight", fn := fun _ => fun
  | [d1, d2, d3] => { results := [.lit (.bool true)], args := [d1, d2, d3] }
  | _ => none }
def powerLongRightRow : OpenClaim := { program := "ygctaj", sum := "a00d2956bebd68040161c11d2b12b83c083ee03abba06c75951d4dbb8b29645e", func := "fftlab/law.PowerLongRight", spec := "powerLongRight", apart := false }
def PowerLongRightSaid : Prop := powerLongRightRow.holds Tajg.pinned (OpenSpec.ofChange powerLongRightSpec)

/-- ITS FALSE NEIGHBOUR: 'it returns false'. Refute it at one input. -/
def powerLongRightWrong : ChangeSpec := { name := "powerLongRight", fn := fun _ => fun
  | [d1, d2, d3] => { results := [.lit (.bool false)], args := [d1, d2, d3] }
  | _ => none }
def PowerLongRightWrongFalsely : Prop := powerLongRightRow.holds Tajg.pinned (OpenSpec.ofChange powerLongRightWrong)

/-- 'law.FactorialLongRight': WHATEVER THE INPUT: true; the input reads as it did. -/
def factorialLongRightSpec : ChangeSpec := { name := "factorialLongRight", fn := fun _ => fun
  | [d1, d2] => { results := [.lit (.bool true)], args := [d1, d2] }
  | _ => none }
def factorialLongRightRow : OpenClaim := { program := "ygctaj", sum := "a00d2956bebd68040161c11d2b12b83c083ee03abba06c75951d4dbb8b29645e", func := "fftlab/law.FactorialLongRight", spec := "factorialLongRight", apart := false }
def FactorialLongRightSaid : Prop := factorialLongRightRow.holds Tajg.pinned (OpenSpec.ofChange factorialLongRightSpec)

/-- ITS FALSE NEIGHBOUR: 'it returns false'. Refute it at one input. -/
def factorialLongRightWrong : ChangeSpec := { name := "factorialLongRight", fn := fun _ => fun
  | [d1, d2] => { results := [.lit (.bool false)], args := [d1, d2] }
  | _ => none }
def FactorialLongRightWrongFalsely : Prop := factorialLongRightRow.holds Tajg.pinned (OpenSpec.ofChange factorialLongRightWrong)

/-- 'law.GcdRight': WHATEVER THE INPUT: true; the input reads as it did. -/
def gcdRightSpec : ChangeSpec := { name := "gcdRight", fn := fun _ => fun
  | [d1, d2] => { results := [.lit (.bool true)], args := [d1, d2] }
  | _ => none }
def gcdRightRow : OpenClaim := { program := "ygctaj", sum := "a00d2956bebd68040161c11d2b12b83c083ee03abba06c75951d4dbb8b29645e", func := "fftlab/law.GcdRight", spec := "gcdRight", apart := false }
def GcdRightSaid : Prop := gcdRightRow.holds Tajg.pinned (OpenSpec.ofChange gcdRightSpec)

/-- ITS FALSE NEIGHBOUR: 'it returns false'. Refute it at one input. -/
def gcdRightWrong : ChangeSpec := { name := "gcdRight", fn := fun _ => fun
  | [d1, d2] => { results := [.lit (.bool false)], args := [d1, d2] }
  | _ => none }
def GcdRightWrongFalsely : Prop := gcdRightRow.holds Tajg.pinned (OpenSpec.ofChange gcdRightWrong)

/-- 'law.PowModRight': WHATEVER THE INPUT: true; the input reads as it did. -/
def powModRightSpec : ChangeSpec := { name := "powModRight", fn := fun _ => fun
  | [d1, d2, d3] => { results := [.lit (.bool true)], args := [d1, d2, d3] }
  | _ => none }
def powModRightRow : OpenClaim := { program := "ygctaj", sum := "a00d2956bebd68040161c11d2b12b83c083ee03abba06c75951d4dbb8b29645e", func := "fftlab/law.PowModRight", spec := "powModRight", apart := false }
def PowModRightSaid : Prop := powModRightRow.holds Tajg.pinned (OpenSpec.ofChange powModRightSpec)

/-- ITS FALSE NEIGHBOUR: 'it returns false'. Refute it at one input. -/
def powModRightWrong : ChangeSpec := { name := "powModRight", fn := fun _ => fun
  | [d1, d2, d3] => { results := [.lit (.bool false)], args := [d1, d2, d3] }
  | _ => none }
def PowModRightWrongFalsely : Prop := powModRightRow.holds Tajg.pinned (OpenSpec.ofChange powModRightWrong)

/-- 'law.InvModRight': WHATEVER THE INPUT: true; the input reads as it did. -/
def invModRightSpec : ChangeSpec := { name := "invModRight", fn := fun _ => fun
  | [d1, d2] => { results := [.lit (.bool true)], args := [d1, d2] }
  | _ => none }
def invModRightRow : OpenClaim := { program := "ygctaj", sum := "a00d2956bebd68040161c11d2b12b83c083ee03abba06c75951d4dbb8b29645e", func := "fftlab/law.InvModRight", spec := "invModRight", apart := false }
def InvModRightSaid : Prop := invModRightRow.holds Tajg.pinned (OpenSpec.ofChange invModRightSpec)

/-- ITS FALSE NEIGHBOUR: 'it returns false'. Refute it at one input. -/
def invModRightWrong : ChangeSpec := { name := "invModRight", fn := fun _ => fun
  | [d1, d2] => { results := [.lit (.bool false)], args := [d1, d2] }
  | _ => none }
def InvModRightWrongFalsely : Prop := invModRightRow.holds Tajg.pinned (OpenSpec.ofChange invModRightWrong)

/-- 'law.PrimeRight': WHATEVER THE INPUT: true; the input reads as it did. -/
def primeRightSpec : ChangeSpec := { name := "primeRight", fn := fun _ => fun
  | [d] => { results := [.lit (.bool true)], args := [d] }
  | _ => none }
def primeRightRow : OpenClaim := { program := "ygctaj", sum := "a00d2956bebd68040161c11d2b12b83c083ee03abba06c75951d4dbb8b29645e", func := "fftlab/law.PrimeRight", spec := "primeRight", apart := false }
def PrimeRightSaid : Prop := primeRightRow.holds Tajg.pinned (OpenSpec.ofChange primeRightSpec)

/-- ITS FALSE NEIGHBOUR: 'it returns false'. Refute it at one input. -/
def primeRightWrong : ChangeSpec := { name := "primeRight", fn := fun _ => fun
  | [d] => { results := [.lit (.bool false)], args := [d] }
  | _ => none }
def PrimeRightWrongFalsely : Prop := primeRightRow.holds Tajg.pinned (OpenSpec.ofChange primeRightWrong)

/-- 'law.PrimeOfProduct': WHATEVER THE INPUT: true; the input reads as it did. -/
def primeOfProductSpec : ChangeSpec := { name := "primeOfProduct", fn := fun _ => fun
  | [d1, d2] => { results := [.lit (.bool true)], args := [d1, d2] }
  | _ => none }
def primeOfProductRow : OpenClaim := { program := "ygctaj", sum := "a00d2956bebd68040161c11d2b12b83c083ee03abba06c75951d4dbb8b29645e", func := "fftlab/law.PrimeOfProduct", spec := "primeOfProduct", apart := false }
def PrimeOfProductSaid : Prop := primeOfProductRow.holds Tajg.pinned (OpenSpec.ofChange primeOfProductSpec)

/-- ITS FALSE NEIGHBOUR: 'it returns false'. Refute it at one input. -/
def primeOfProductWrong : ChangeSpec := { name := "primeOfProduct", fn := fun _ => fun
  | [d1, d2] => { results := [.lit (.bool false)], args := [d1, d2] }
  | _ => none }
def PrimeOfProductWrongFalsely : Prop := primeOfProductRow.holds Tajg.pinned (OpenSpec.ofChange primeOfProductWrong)

/-- 'law.FieldRight': WHATEVER THE INPUT: true; the input reads as it did. -/
def fieldRightSpec : ChangeSpec := { name := "fieldRight", fn := fun _ => fun
  | [d1, d2, d3] => { results := [.lit (.bool true)], args := [d1, d2, d3] }
  | _ => none }
def fieldRightRow : OpenClaim := { program := "ygctaj", sum := "a00d2956bebd68040161c11d2b12b83c083ee03abba06c75951d4dbb8b29645e", func := "fftlab/law.FieldRight", spec := "fieldRight", apart := false }
def FieldRightSaid : Prop := fieldRightRow.holds Tajg.pinned (OpenSpec.ofChange fieldRightSpec)

/-- ITS FALSE NEIGHBOUR: 'it returns false'. Refute it at one input. -/
def fieldRightWrong : ChangeSpec := { name := "fieldRight", fn := fun _ => fun
  | [d1, d2, d3] => { results := [.lit (.bool false)], args := [d1, d2, d3] }
  | _ => none }
def FieldRightWrongFalsely : Prop := fieldRightRow.holds Tajg.pinned (OpenSpec.ofChange fieldRightWrong)

/-- 'law.RootOrder': WHATEVER THE INPUT: true; the input reads as it did. -/
def rootOrderSpec : ChangeSpec := { name := "rootOrder", fn := fun _ => fun
  | [d] => { results := [.lit (.bool true)], args := [d] }
  | _ => none }
def rootOrderRow : OpenClaim := { program := "ygctaj", sum := "a00d2956bebd68040161c11d2b12b83c083ee03abba06c75951d4dbb8b29645e", func := "fftlab/law.RootOrder", spec := "rootOrder", apart := false }
def RootOrderSaid : Prop := rootOrderRow.holds Tajg.pinned (OpenSpec.ofChange rootOrderSpec)

/-- ITS FALSE NEIGHBOUR: 'it returns false'. Refute it at one input. -/
def rootOrderWrong : ChangeSpec := { name := "rootOrder", fn := fun _ => fun
  | [d] => { results := [.lit (.bool false)], args := [d] }
  | _ => none }
def RootOrderWrongFalsely : Prop := rootOrderRow.holds Tajg.pinned (OpenSpec.ofChange rootOrderWrong)

/-- 'law.NTTisDFT': WHATEVER THE INPUT: true; the input reads as it did. -/
def nTTisDFTSpec : ChangeSpec := { name := "nTTisDFT", fn := fun _ => fun
  | [d] => { results := [.lit (.bool true)], args := [d] }
  | _ => none }
def nTTisDFTRow : OpenClaim := { program := "ygctaj", sum := "a00d2956bebd68040161c11d2b12b83c083ee03abba06c75951d4dbb8b29645e", func := "fftlab/law.NTTisDFT", spec := "nTTisDFT", apart := false }
def NTTisDFTSaid : Prop := nTTisDFTRow.holds Tajg.pinned (OpenSpec.ofChange nTTisDFTSpec)

/-- ITS FALSE NEIGHBOUR: 'it returns false'. Refute it at one input. -/
def nTTisDFTWrong : ChangeSpec := { name := "nTTisDFT", fn := fun _ => fun
  | [d] => { results := [.lit (.bool false)], args := [d] }
  | _ => none }
def NTTisDFTWrongFalsely : Prop := nTTisDFTRow.holds Tajg.pinned (OpenSpec.ofChange nTTisDFTWrong)

/-- 'law.NTTBack': WHATEVER THE INPUT: true; the input reads as it did. -/
def nTTBackSpec : ChangeSpec := { name := "nTTBack", fn := fun _ => fun
  | [d] => { results := [.lit (.bool true)], args := [d] }
  | _ => none }
def nTTBackRow : OpenClaim := { program := "ygctaj", sum := "a00d2956bebd68040161c11d2b12b83c083ee03abba06c75951d4dbb8b29645e", func := "fftlab/law.NTTBack", spec := "nTTBack", apart := false }
def NTTBackSaid : Prop := nTTBackRow.holds Tajg.pinned (OpenSpec.ofChange nTTBackSpec)

/-- ITS FALSE NEIGHBOUR: 'it returns false'. Refute it at one input. -/
def nTTBackWrong : ChangeSpec := { name := "nTTBack", fn := fun _ => fun
  | [d] => { results := [.lit (.bool false)], args := [d] }
  | _ => none }
def NTTBackWrongFalsely : Prop := nTTBackRow.holds Tajg.pinned (OpenSpec.ofChange nTTBackWrong)

/-- 'law.NTTConvExact': WHATEVER THE INPUT: true; the input reads as it did. -/
def nTTConvExactSpec : ChangeSpec := { name := "nTTConvExact", fn := fun _ => fun
  | [d1, d2] => { results := [.lit (.bool true)], args := [d1, d2] }
  | _ => none }
def nTTConvExactRow : OpenClaim := { program := "ygctaj", sum := "a00d2956bebd68040161c11d2b12b83c083ee03abba06c75951d4dbb8b29645e", func := "fftlab/law.NTTConvExact", spec := "nTTConvExact", apart := false }
def NTTConvExactSaid : Prop := nTTConvExactRow.holds Tajg.pinned (OpenSpec.ofChange nTTConvExactSpec)

/-- ITS FALSE NEIGHBOUR: 'it returns false'. Refute it at one input. -/
def nTTConvExactWrong : ChangeSpec := { name := "nTTConvExact", fn := fun _ => fun
  | [d1, d2] => { results := [.lit (.bool false)], args := [d1, d2] }
  | _ => none }
def NTTConvExactWrongFalsely : Prop := nTTConvExactRow.holds Tajg.pinned (OpenSpec.ofChange nTTConvExactWrong)

end Rows
end Go.Proofs.Ygctaj
