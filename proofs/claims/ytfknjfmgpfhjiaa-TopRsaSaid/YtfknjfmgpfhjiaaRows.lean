/-
  No cell of these rows narrows 'for every input' (looked for: loops, veiled, ifaces, maps, wideKeys, modest, calm, conditions, laid).
  DERIVED. THE GIVEN ROWS OF THIS SEAT. 12 by the template 'for every input the law returns true; each argument reads behind the call as it read before'; 0 by the template 'total and deterministic' (their statements: YtfknjfmgpfhjiaaTotals.lean).
  GIVEN WITH THE SEED: the statements are not yours to turn. If you find one false, say at which input.
  Laid BY PROGRAM, IN A SANDBOX (cutbox-rows.mjs): the forced cells as the released guide's own fill.sh prints them over the translation 28dd9b55fa5d34e7… (all of the seat's roots in one cut). By AI agents, Wed Nov 11 2026. No macro, syntax, notation, axiom, sorry.
-/
import Derived.Test.YtfknjfmgpfhjiaaChecked
import GoSem.Claim
import GoSem.ClaimJoined
import GoSem.ClaimMapViews
import Derived.JoinedTies
import Derived.KernelRfl
namespace Go.Proofs.Ytfknjfmgpfhjiaa
/- THE CELL 'sum', in the pinned program and in every row, IS THE sha256 OF THE DUMP (.gsa) THAT YtfknjfmgpfhjiaaProg.lean LOADS. Nothing in Lean hashes anything: it is a label: what it is worth is what the hold of that sum in a sandbox is worth. -/
noncomputable def Try.pinned : Pinned := { name := "ytfknjfmgpfhjiaa", sum := "28dd9b55fa5d34e769b4111f152cd85bd19c251572a88cdedd556b4869d8223a", checked := Try.checked }
namespace Rows
def none {H : Type} : Left H := { results := [], args := [] }

/-- 'postmarktop.TopRsa': WHATEVER THE INPUT: true; the input reads as it did. -/
def topRsaSpec : ChangeSpec := { name := "topRsa", fn := fun _ => fun
  | [d1, d2] => { results := [.lit (.bool true)], args := [d1, d2] }
  | _ => none }
def topRsaRow : OpenClaim := { program := "ytfknjfmgpfhjiaa", sum := "28dd9b55fa5d34e769b4111f152cd85bd19c251572a88cdedd556b4869d8223a", func := "postmark/postmarktop.TopRsa", spec := "topRsa", apart := false }
def TopRsaSaid : Prop := topRsaRow.holds Try.pinned (OpenSpec.ofChange topRsaSpec)

/-- ITS FALSE NEIGHBOUR: 'it returns false'. Refute it at one input. -/
def topRsaWrong : ChangeSpec := { name := "topRsa", fn := fun _ => fun
  | [d1, d2] => { results := [.lit (.bool false)], args := [d1, d2] }
  | _ => none }
def TopRsaWrongFalsely : Prop := topRsaRow.holds Try.pinned (OpenSpec.ofChange topRsaWrong)

/-- 'postmarklaw01.NatSums': WHATEVER THE INPUT: true; the input reads as it did. -/
def natSumsSpec : ChangeSpec := { name := "natSums", fn := fun _ => fun
  | [d1, d2] => { results := [.lit (.bool true)], args := [d1, d2] }
  | _ => none }
def natSumsRow : OpenClaim := { program := "ytfknjfmgpfhjiaa", sum := "28dd9b55fa5d34e769b4111f152cd85bd19c251572a88cdedd556b4869d8223a", func := "postmark/postmarklaw01.NatSums", spec := "natSums", apart := false }
def NatSumsSaid : Prop := natSumsRow.holds Try.pinned (OpenSpec.ofChange natSumsSpec)

/-- ITS FALSE NEIGHBOUR: 'it returns false'. Refute it at one input. -/
def natSumsWrong : ChangeSpec := { name := "natSums", fn := fun _ => fun
  | [d1, d2] => { results := [.lit (.bool false)], args := [d1, d2] }
  | _ => none }
def NatSumsWrongFalsely : Prop := natSumsRow.holds Try.pinned (OpenSpec.ofChange natSumsWrong)

/-- 'postmarklaw01.NatProducts': WHATEVER THE INPUT: true; the input reads as it did. -/
def natProductsSpec : ChangeSpec := { name := "natProducts", fn := fun _ => fun
  | [d1, d2] => { results := [.lit (.bool true)], args := [d1, d2] }
  | _ => none }
def natProductsRow : OpenClaim := { program := "ytfknjfmgpfhjiaa", sum := "28dd9b55fa5d34e769b4111f152cd85bd19c251572a88cdedd556b4869d8223a", func := "postmark/postmarklaw01.NatProducts", spec := "natProducts", apart := false }
def NatProductsSaid : Prop := natProductsRow.holds Try.pinned (OpenSpec.ofChange natProductsSpec)

/-- ITS FALSE NEIGHBOUR: 'it returns false'. Refute it at one input. -/
def natProductsWrong : ChangeSpec := { name := "natProducts", fn := fun _ => fun
  | [d1, d2] => { results := [.lit (.bool false)], args := [d1, d2] }
  | _ => none }
def NatProductsWrongFalsely : Prop := natProductsRow.holds Try.pinned (OpenSpec.ofChange natProductsWrong)

/-- 'postmarklaw01.NatPowers': WHATEVER THE INPUT: true; the input reads as it did. -/
def natPowersSpec : ChangeSpec := { name := "natPowers", fn := fun _ => fun
  | [d1, d2, d3] => { results := [.lit (.bool true)], args := [d1, d2, d3] }
  | _ => none }
def natPowersRow : OpenClaim := { program := "ytfknjfmgpfhjiaa", sum := "28dd9b55fa5d34e769b4111f152cd85bd19c251572a88cdedd556b4869d8223a", func := "postmark/postmarklaw01.NatPowers", spec := "natPowers", apart := false }
def NatPowersSaid : Prop := natPowersRow.holds Try.pinned (OpenSpec.ofChange natPowersSpec)

/-- ITS FALSE NEIGHBOUR: 'it returns false'. Refute it at one input. -/
def natPowersWrong : ChangeSpec := { name := "natPowers", fn := fun _ => fun
  | [d1, d2, d3] => { results := [.lit (.bool false)], args := [d1, d2, d3] }
  | _ => none }
def NatPowersWrongFalsely : Prop := natPowersRow.holds Try.pinned (OpenSpec.ofChange natPowersWrong)

/-- 'postmarklaw01.NatRing': WHATEVER THE INPUT: true; the input reads as it did. -/
def natRingSpec : ChangeSpec := { name := "natRing", fn := fun _ => fun
  | [d1, d2, d3] => { results := [.lit (.bool true)], args := [d1, d2, d3] }
  | _ => none }
def natRingRow : OpenClaim := { program := "ytfknjfmgpfhjiaa", sum := "28dd9b55fa5d34e769b4111f152cd85bd19c251572a88cdedd556b4869d8223a", func := "postmark/postmarklaw01.NatRing", spec := "natRing", apart := false }
def NatRingSaid : Prop := natRingRow.holds Try.pinned (OpenSpec.ofChange natRingSpec)

/-- ITS FALSE NEIGHBOUR: 'it returns false'. Refute it at one input. -/
def natRingWrong : ChangeSpec := { name := "natRing", fn := fun _ => fun
  | [d1, d2, d3] => { results := [.lit (.bool false)], args := [d1, d2, d3] }
  | _ => none }
def NatRingWrongFalsely : Prop := natRingRow.holds Try.pinned (OpenSpec.ofChange natRingWrong)

/-- 'postmarklaw01.NatBack': WHATEVER THE INPUT: true; the input reads as it did. -/
def natBackSpec : ChangeSpec := { name := "natBack", fn := fun _ => fun
  | [d1, d2] => { results := [.lit (.bool true)], args := [d1, d2] }
  | _ => none }
def natBackRow : OpenClaim := { program := "ytfknjfmgpfhjiaa", sum := "28dd9b55fa5d34e769b4111f152cd85bd19c251572a88cdedd556b4869d8223a", func := "postmark/postmarklaw01.NatBack", spec := "natBack", apart := false }
def NatBackSaid : Prop := natBackRow.holds Try.pinned (OpenSpec.ofChange natBackSpec)

/-- ITS FALSE NEIGHBOUR: 'it returns false'. Refute it at one input. -/
def natBackWrong : ChangeSpec := { name := "natBack", fn := fun _ => fun
  | [d1, d2] => { results := [.lit (.bool false)], args := [d1, d2] }
  | _ => none }
def NatBackWrongFalsely : Prop := natBackRow.holds Try.pinned (OpenSpec.ofChange natBackWrong)

/-- 'postmarklaw01.NatPowerLaws': WHATEVER THE INPUT: true; the input reads as it did. -/
def natPowerLawsSpec : ChangeSpec := { name := "natPowerLaws", fn := fun _ => fun
  | [d1, d2, d3, d4] => { results := [.lit (.bool true)], args := [d1, d2, d3, d4] }
  | _ => none }
def natPowerLawsRow : OpenClaim := { program := "ytfknjfmgpfhjiaa", sum := "28dd9b55fa5d34e769b4111f152cd85bd19c251572a88cdedd556b4869d8223a", func := "postmark/postmarklaw01.NatPowerLaws", spec := "natPowerLaws", apart := false }
def NatPowerLawsSaid : Prop := natPowerLawsRow.holds Try.pinned (OpenSpec.ofChange natPowerLawsSpec)

/-- ITS FALSE NEIGHBOUR: 'it returns false'. Refute it at one input. -/
def natPowerLawsWrong : ChangeSpec := { name := "natPowerLaws", fn := fun _ => fun
  | [d1, d2, d3, d4] => { results := [.lit (.bool false)], args := [d1, d2, d3, d4] }
  | _ => none }
def NatPowerLawsWrongFalsely : Prop := natPowerLawsRow.holds Try.pinned (OpenSpec.ofChange natPowerLawsWrong)

/-- 'postmarklaw01.NatPrimes': WHATEVER THE INPUT: true; the input reads as it did. -/
def natPrimesSpec : ChangeSpec := { name := "natPrimes", fn := fun _ => fun
  | [d1, d2] => { results := [.lit (.bool true)], args := [d1, d2] }
  | _ => none }
def natPrimesRow : OpenClaim := { program := "ytfknjfmgpfhjiaa", sum := "28dd9b55fa5d34e769b4111f152cd85bd19c251572a88cdedd556b4869d8223a", func := "postmark/postmarklaw01.NatPrimes", spec := "natPrimes", apart := false }
def NatPrimesSaid : Prop := natPrimesRow.holds Try.pinned (OpenSpec.ofChange natPrimesSpec)

/-- ITS FALSE NEIGHBOUR: 'it returns false'. Refute it at one input. -/
def natPrimesWrong : ChangeSpec := { name := "natPrimes", fn := fun _ => fun
  | [d1, d2] => { results := [.lit (.bool false)], args := [d1, d2] }
  | _ => none }
def NatPrimesWrongFalsely : Prop := natPrimesRow.holds Try.pinned (OpenSpec.ofChange natPrimesWrong)

/-- 'postmarklaw01.NatInverses': WHATEVER THE INPUT: true; the input reads as it did. -/
def natInversesSpec : ChangeSpec := { name := "natInverses", fn := fun _ => fun
  | [d1, d2] => { results := [.lit (.bool true)], args := [d1, d2] }
  | _ => none }
def natInversesRow : OpenClaim := { program := "ytfknjfmgpfhjiaa", sum := "28dd9b55fa5d34e769b4111f152cd85bd19c251572a88cdedd556b4869d8223a", func := "postmark/postmarklaw01.NatInverses", spec := "natInverses", apart := false }
def NatInversesSaid : Prop := natInversesRow.holds Try.pinned (OpenSpec.ofChange natInversesSpec)

/-- ITS FALSE NEIGHBOUR: 'it returns false'. Refute it at one input. -/
def natInversesWrong : ChangeSpec := { name := "natInverses", fn := fun _ => fun
  | [d1, d2] => { results := [.lit (.bool false)], args := [d1, d2] }
  | _ => none }
def NatInversesWrongFalsely : Prop := natInversesRow.holds Try.pinned (OpenSpec.ofChange natInversesWrong)

/-- 'postmarklaw01.NatBytes': WHATEVER THE INPUT: true; the input reads as it did. -/
def natBytesSpec : ChangeSpec := { name := "natBytes", fn := fun _ => fun
  | [d1, d2, d3] => { results := [.lit (.bool true)], args := [d1, d2, d3] }
  | _ => none }
def natBytesRow : OpenClaim := { program := "ytfknjfmgpfhjiaa", sum := "28dd9b55fa5d34e769b4111f152cd85bd19c251572a88cdedd556b4869d8223a", func := "postmark/postmarklaw01.NatBytes", spec := "natBytes", apart := false }
def NatBytesSaid : Prop := natBytesRow.holds Try.pinned (OpenSpec.ofChange natBytesSpec)

/-- ITS FALSE NEIGHBOUR: 'it returns false'. Refute it at one input. -/
def natBytesWrong : ChangeSpec := { name := "natBytes", fn := fun _ => fun
  | [d1, d2, d3] => { results := [.lit (.bool false)], args := [d1, d2, d3] }
  | _ => none }
def NatBytesWrongFalsely : Prop := natBytesRow.holds Try.pinned (OpenSpec.ofChange natBytesWrong)

/-- 'postmarklaw01.NatWritten': WHATEVER THE INPUT: true; the input reads as it did. -/
def natWrittenSpec : ChangeSpec := { name := "natWritten", fn := fun _ => fun
  | [d1, d2] => { results := [.lit (.bool true)], args := [d1, d2] }
  | _ => none }
def natWrittenRow : OpenClaim := { program := "ytfknjfmgpfhjiaa", sum := "28dd9b55fa5d34e769b4111f152cd85bd19c251572a88cdedd556b4869d8223a", func := "postmark/postmarklaw01.NatWritten", spec := "natWritten", apart := false }
def NatWrittenSaid : Prop := natWrittenRow.holds Try.pinned (OpenSpec.ofChange natWrittenSpec)

/-- ITS FALSE NEIGHBOUR: 'it returns false'. Refute it at one input. -/
def natWrittenWrong : ChangeSpec := { name := "natWritten", fn := fun _ => fun
  | [d1, d2] => { results := [.lit (.bool false)], args := [d1, d2] }
  | _ => none }
def NatWrittenWrongFalsely : Prop := natWrittenRow.holds Try.pinned (OpenSpec.ofChange natWrittenWrong)

/-- 'postmarklaw01.NatForms': WHATEVER THE INPUT: true; the input reads as it did. -/
def natFormsSpec : ChangeSpec := { name := "natForms", fn := fun _ => fun
  | [d1, d2, d3] => { results := [.lit (.bool true)], args := [d1, d2, d3] }
  | _ => none }
def natFormsRow : OpenClaim := { program := "ytfknjfmgpfhjiaa", sum := "28dd9b55fa5d34e769b4111f152cd85bd19c251572a88cdedd556b4869d8223a", func := "postmark/postmarklaw01.NatForms", spec := "natForms", apart := false }
def NatFormsSaid : Prop := natFormsRow.holds Try.pinned (OpenSpec.ofChange natFormsSpec)

/-- ITS FALSE NEIGHBOUR: 'it returns false'. Refute it at one input. -/
def natFormsWrong : ChangeSpec := { name := "natForms", fn := fun _ => fun
  | [d1, d2, d3] => { results := [.lit (.bool false)], args := [d1, d2, d3] }
  | _ => none }
def NatFormsWrongFalsely : Prop := natFormsRow.holds Try.pinned (OpenSpec.ofChange natFormsWrong)

/- THE SECOND FORM. 'bulk': how many values and letters a reading holds, each counted each time it is reached (what is shared counts as often as it is met; a slice's spare places count too). A statement '..UptoSaid' is the law's where the arguments, and the package variables that the reading takes, are together of bulk at most 1048576: NARROWER than '..Said'. Prove '..Said' where nothing that the law and all that it calls make is longer than what came in: it says more and counts as full. Else prove '..UptoSaid'. A law counts once. -/
mutual
def uptoBulk {H : Type} : DataW H → Nat
  | .lit (.string bytes) => bytes.length + 1
  | .lit _ => 1
  | .nil => 1
  | .ptr d => uptoBulk d + 1
  | .slice elems spare => uptoBulkAll elems + uptoBulkAll spare + 1
  | .agg parts => uptoBulkAll parts + 1
  | .iface _ d => uptoBulk d + 1
  | .map entries => uptoBulkEntries entries + 1
  | .held _ => 1
def uptoBulkAll {H : Type} : List (DataW H) → Nat
  | [] => 0
  | d :: r => uptoBulk d + uptoBulkAll r
def uptoBulkEntries {H : Type} : List (Lit × DataW H) → Nat
  | [] => 0
  | x :: r => uptoBulkEntry x + uptoBulkEntries r
def uptoBulkEntry {H : Type} : Lit × DataW H → Nat
  | (.string bytes, d) => bytes.length + uptoBulk d + 1
  | (_, d) => uptoBulk d + 1
 end
def uptoSmall : (H : Type) → List (DataW H) → Bool := fun _ ds => decide (uptoBulkAll ds ≤ 1048576)
def OpenSpec.upto (s : _root_.Go.ChangeSpec) : _root_.Go.OpenSpec := { _root_.Go.OpenSpec.ofChange s with cond := some uptoSmall }

/-- 'postmarktop.TopRsa', WHERE WHAT IT READS IS OF BULK AT MOST 1048576: true; the input reads as it did. -/
def topRsaUptoRow : OpenClaim := { program := "ytfknjfmgpfhjiaa", sum := "28dd9b55fa5d34e769b4111f152cd85bd19c251572a88cdedd556b4869d8223a", func := "postmark/postmarktop.TopRsa", spec := "topRsa", apart := false, narrowed := true }
def TopRsaUptoSaid : Prop := topRsaUptoRow.holds Try.pinned (OpenSpec.upto topRsaSpec)

/-- 'postmarklaw01.NatSums', WHERE WHAT IT READS IS OF BULK AT MOST 1048576: true; the input reads as it did. -/
def natSumsUptoRow : OpenClaim := { program := "ytfknjfmgpfhjiaa", sum := "28dd9b55fa5d34e769b4111f152cd85bd19c251572a88cdedd556b4869d8223a", func := "postmark/postmarklaw01.NatSums", spec := "natSums", apart := false, narrowed := true }
def NatSumsUptoSaid : Prop := natSumsUptoRow.holds Try.pinned (OpenSpec.upto natSumsSpec)

/-- 'postmarklaw01.NatProducts', WHERE WHAT IT READS IS OF BULK AT MOST 1048576: true; the input reads as it did. -/
def natProductsUptoRow : OpenClaim := { program := "ytfknjfmgpfhjiaa", sum := "28dd9b55fa5d34e769b4111f152cd85bd19c251572a88cdedd556b4869d8223a", func := "postmark/postmarklaw01.NatProducts", spec := "natProducts", apart := false, narrowed := true }
def NatProductsUptoSaid : Prop := natProductsUptoRow.holds Try.pinned (OpenSpec.upto natProductsSpec)

/-- 'postmarklaw01.NatPowers', WHERE WHAT IT READS IS OF BULK AT MOST 1048576: true; the input reads as it did. -/
def natPowersUptoRow : OpenClaim := { program := "ytfknjfmgpfhjiaa", sum := "28dd9b55fa5d34e769b4111f152cd85bd19c251572a88cdedd556b4869d8223a", func := "postmark/postmarklaw01.NatPowers", spec := "natPowers", apart := false, narrowed := true }
def NatPowersUptoSaid : Prop := natPowersUptoRow.holds Try.pinned (OpenSpec.upto natPowersSpec)

/-- 'postmarklaw01.NatRing', WHERE WHAT IT READS IS OF BULK AT MOST 1048576: true; the input reads as it did. -/
def natRingUptoRow : OpenClaim := { program := "ytfknjfmgpfhjiaa", sum := "28dd9b55fa5d34e769b4111f152cd85bd19c251572a88cdedd556b4869d8223a", func := "postmark/postmarklaw01.NatRing", spec := "natRing", apart := false, narrowed := true }
def NatRingUptoSaid : Prop := natRingUptoRow.holds Try.pinned (OpenSpec.upto natRingSpec)

/-- 'postmarklaw01.NatBack', WHERE WHAT IT READS IS OF BULK AT MOST 1048576: true; the input reads as it did. -/
def natBackUptoRow : OpenClaim := { program := "ytfknjfmgpfhjiaa", sum := "28dd9b55fa5d34e769b4111f152cd85bd19c251572a88cdedd556b4869d8223a", func := "postmark/postmarklaw01.NatBack", spec := "natBack", apart := false, narrowed := true }
def NatBackUptoSaid : Prop := natBackUptoRow.holds Try.pinned (OpenSpec.upto natBackSpec)

/-- 'postmarklaw01.NatPowerLaws', WHERE WHAT IT READS IS OF BULK AT MOST 1048576: true; the input reads as it did. -/
def natPowerLawsUptoRow : OpenClaim := { program := "ytfknjfmgpfhjiaa", sum := "28dd9b55fa5d34e769b4111f152cd85bd19c251572a88cdedd556b4869d8223a", func := "postmark/postmarklaw01.NatPowerLaws", spec := "natPowerLaws", apart := false, narrowed := true }
def NatPowerLawsUptoSaid : Prop := natPowerLawsUptoRow.holds Try.pinned (OpenSpec.upto natPowerLawsSpec)

/-- 'postmarklaw01.NatPrimes', WHERE WHAT IT READS IS OF BULK AT MOST 1048576: true; the input reads as it did. -/
def natPrimesUptoRow : OpenClaim := { program := "ytfknjfmgpfhjiaa", sum := "28dd9b55fa5d34e769b4111f152cd85bd19c251572a88cdedd556b4869d8223a", func := "postmark/postmarklaw01.NatPrimes", spec := "natPrimes", apart := false, narrowed := true }
def NatPrimesUptoSaid : Prop := natPrimesUptoRow.holds Try.pinned (OpenSpec.upto natPrimesSpec)

/-- 'postmarklaw01.NatInverses', WHERE WHAT IT READS IS OF BULK AT MOST 1048576: true; the input reads as it did. -/
def natInversesUptoRow : OpenClaim := { program := "ytfknjfmgpfhjiaa", sum := "28dd9b55fa5d34e769b4111f152cd85bd19c251572a88cdedd556b4869d8223a", func := "postmark/postmarklaw01.NatInverses", spec := "natInverses", apart := false, narrowed := true }
def NatInversesUptoSaid : Prop := natInversesUptoRow.holds Try.pinned (OpenSpec.upto natInversesSpec)

/-- 'postmarklaw01.NatBytes', WHERE WHAT IT READS IS OF BULK AT MOST 1048576: true; the input reads as it did. -/
def natBytesUptoRow : OpenClaim := { program := "ytfknjfmgpfhjiaa", sum := "28dd9b55fa5d34e769b4111f152cd85bd19c251572a88cdedd556b4869d8223a", func := "postmark/postmarklaw01.NatBytes", spec := "natBytes", apart := false, narrowed := true }
def NatBytesUptoSaid : Prop := natBytesUptoRow.holds Try.pinned (OpenSpec.upto natBytesSpec)

/-- 'postmarklaw01.NatWritten', WHERE WHAT IT READS IS OF BULK AT MOST 1048576: true; the input reads as it did. -/
def natWrittenUptoRow : OpenClaim := { program := "ytfknjfmgpfhjiaa", sum := "28dd9b55fa5d34e769b4111f152cd85bd19c251572a88cdedd556b4869d8223a", func := "postmark/postmarklaw01.NatWritten", spec := "natWritten", apart := false, narrowed := true }
def NatWrittenUptoSaid : Prop := natWrittenUptoRow.holds Try.pinned (OpenSpec.upto natWrittenSpec)

/-- 'postmarklaw01.NatForms', WHERE WHAT IT READS IS OF BULK AT MOST 1048576: true; the input reads as it did. -/
def natFormsUptoRow : OpenClaim := { program := "ytfknjfmgpfhjiaa", sum := "28dd9b55fa5d34e769b4111f152cd85bd19c251572a88cdedd556b4869d8223a", func := "postmark/postmarklaw01.NatForms", spec := "natForms", apart := false, narrowed := true }
def NatFormsUptoSaid : Prop := natFormsUptoRow.holds Try.pinned (OpenSpec.upto natFormsSpec)

end Rows
end Go.Proofs.Ytfknjfmgpfhjiaa
