/-
  No cell of these rows narrows 'for every input' (looked for: loops, veiled, ifaces, maps, wideKeys, modest, calm, conditions, laid).
  DERIVED. THE GIVEN ROWS OF THIS SEAT. 6 by the template 'for every input the law returns true; each argument reads behind the call as it read before'; 0 by the template 'total and deterministic' (their statements: YtfcgcgmleogamaaTotals.lean).
  GIVEN WITH THE SEED: the statements are not yours to turn. If you find one false, say at which input.
  Laid BY PROGRAM, IN A SANDBOX (cutbox-rows.mjs): the forced cells as the released guide's own fill.sh prints them over the translation 9e3a0f0d0dc32a98… (all of the seat's roots in one cut). By AI agents, Wed Nov 11 2026. No macro, syntax, notation, axiom, sorry.
-/
import Derived.Test.YtfcgcgmleogamaaChecked
import GoSem.Claim
import GoSem.ClaimJoined
import GoSem.ClaimMapViews
import Derived.JoinedTies
import Derived.KernelRfl
namespace Go.Proofs.Ytfcgcgmleogamaa
/- THE CELL 'sum', in the pinned program and in every row, IS THE sha256 OF THE DUMP (.gsa) THAT YtfcgcgmleogamaaProg.lean LOADS. Nothing in Lean hashes anything: it is a label: what it is worth is what the hold of that sum in a sandbox is worth. -/
noncomputable def Try.pinned : Pinned := { name := "ytfcgcgmleogamaa", sum := "9e3a0f0d0dc32a983bdc4cf02322b35c73ad67fd6bdf8c8c9015506e42dbcd7d", checked := Try.checked }
namespace Rows
def none {H : Type} : Left H := { results := [], args := [] }

/-- 'laws.FnForms': WHATEVER THE INPUT: true; the input reads as it did. -/
def fnFormsSpec : ChangeSpec := { name := "fnForms", fn := fun _ => fun
  | [d] => { results := [.lit (.bool true)], args := [d] }
  | _ => none }
def fnFormsRow : OpenClaim := { program := "ytfcgcgmleogamaa", sum := "9e3a0f0d0dc32a983bdc4cf02322b35c73ad67fd6bdf8c8c9015506e42dbcd7d", func := "loop.example/g03115/laws.FnForms", spec := "fnForms", unfollowed := true, recurses := true, plainKeys := false, apart := false }
def FnFormsSaid : Prop := fnFormsRow.holds Try.pinned (OpenSpec.ofChange fnFormsSpec)

/-- ITS FALSE NEIGHBOUR: 'it returns false'. Refute it at one input. -/
def fnFormsWrong : ChangeSpec := { name := "fnForms", fn := fun _ => fun
  | [d] => { results := [.lit (.bool false)], args := [d] }
  | _ => none }
def FnFormsWrongFalsely : Prop := fnFormsRow.holds Try.pinned (OpenSpec.ofChange fnFormsWrong)

/-- 'laws.FnPtolemy': WHATEVER THE INPUT: true; the input reads as it did. -/
def fnPtolemySpec : ChangeSpec := { name := "fnPtolemy", fn := fun _ => fun
  | [d] => { results := [.lit (.bool true)], args := [d] }
  | _ => none }
def fnPtolemyRow : OpenClaim := { program := "ytfcgcgmleogamaa", sum := "9e3a0f0d0dc32a983bdc4cf02322b35c73ad67fd6bdf8c8c9015506e42dbcd7d", func := "loop.example/g03115/laws.FnPtolemy", spec := "fnPtolemy", unfollowed := true, recurses := true, plainKeys := false, apart := false }
def FnPtolemySaid : Prop := fnPtolemyRow.holds Try.pinned (OpenSpec.ofChange fnPtolemySpec)

/-- ITS FALSE NEIGHBOUR: 'it returns false'. Refute it at one input. -/
def fnPtolemyWrong : ChangeSpec := { name := "fnPtolemy", fn := fun _ => fun
  | [d] => { results := [.lit (.bool false)], args := [d] }
  | _ => none }
def FnPtolemyWrongFalsely : Prop := fnPtolemyRow.holds Try.pinned (OpenSpec.ofChange fnPtolemyWrong)

/-- 'laws.FnCrossings': WHATEVER THE INPUT: true; the input reads as it did. -/
def fnCrossingsSpec : ChangeSpec := { name := "fnCrossings", fn := fun _ => fun
  | [d] => { results := [.lit (.bool true)], args := [d] }
  | _ => none }
def fnCrossingsRow : OpenClaim := { program := "ytfcgcgmleogamaa", sum := "9e3a0f0d0dc32a983bdc4cf02322b35c73ad67fd6bdf8c8c9015506e42dbcd7d", func := "loop.example/g03115/laws.FnCrossings", spec := "fnCrossings", unfollowed := true, recurses := true, plainKeys := false, apart := false }
def FnCrossingsSaid : Prop := fnCrossingsRow.holds Try.pinned (OpenSpec.ofChange fnCrossingsSpec)

/-- ITS FALSE NEIGHBOUR: 'it returns false'. Refute it at one input. -/
def fnCrossingsWrong : ChangeSpec := { name := "fnCrossings", fn := fun _ => fun
  | [d] => { results := [.lit (.bool false)], args := [d] }
  | _ => none }
def FnCrossingsWrongFalsely : Prop := fnCrossingsRow.holds Try.pinned (OpenSpec.ofChange fnCrossingsWrong)

/-- 'laws.FnFriezeArcs': WHATEVER THE INPUT: true; the input reads as it did. -/
def fnFriezeArcsSpec : ChangeSpec := { name := "fnFriezeArcs", fn := fun _ => fun
  | [d] => { results := [.lit (.bool true)], args := [d] }
  | _ => none }
def fnFriezeArcsRow : OpenClaim := { program := "ytfcgcgmleogamaa", sum := "9e3a0f0d0dc32a983bdc4cf02322b35c73ad67fd6bdf8c8c9015506e42dbcd7d", func := "loop.example/g03115/laws.FnFriezeArcs", spec := "fnFriezeArcs", unfollowed := true, recurses := true, plainKeys := false, apart := false }
def FnFriezeArcsSaid : Prop := fnFriezeArcsRow.holds Try.pinned (OpenSpec.ofChange fnFriezeArcsSpec)

/-- ITS FALSE NEIGHBOUR: 'it returns false'. Refute it at one input. -/
def fnFriezeArcsWrong : ChangeSpec := { name := "fnFriezeArcs", fn := fun _ => fun
  | [d] => { results := [.lit (.bool false)], args := [d] }
  | _ => none }
def FnFriezeArcsWrongFalsely : Prop := fnFriezeArcsRow.holds Try.pinned (OpenSpec.ofChange fnFriezeArcsWrong)

/-- 'laws.FnArcs': WHATEVER THE INPUT: true; the input reads as it did. -/
def fnArcsSpec : ChangeSpec := { name := "fnArcs", fn := fun _ => fun
  | [d] => { results := [.lit (.bool true)], args := [d] }
  | _ => none }
def fnArcsRow : OpenClaim := { program := "ytfcgcgmleogamaa", sum := "9e3a0f0d0dc32a983bdc4cf02322b35c73ad67fd6bdf8c8c9015506e42dbcd7d", func := "loop.example/g03115/laws.FnArcs", spec := "fnArcs", unfollowed := true, recurses := true, plainKeys := false, apart := false }
def FnArcsSaid : Prop := fnArcsRow.holds Try.pinned (OpenSpec.ofChange fnArcsSpec)

/-- ITS FALSE NEIGHBOUR: 'it returns false'. Refute it at one input. -/
def fnArcsWrong : ChangeSpec := { name := "fnArcs", fn := fun _ => fun
  | [d] => { results := [.lit (.bool false)], args := [d] }
  | _ => none }
def FnArcsWrongFalsely : Prop := fnArcsRow.holds Try.pinned (OpenSpec.ofChange fnArcsWrong)

/-- 'laws.FnExactArcLaurent': WHATEVER THE INPUT: true; the input reads as it did. -/
def fnExactArcLaurentSpec : ChangeSpec := { name := "fnExactArcLaurent", fn := fun _ => fun
  | [d1, d2, d3] => { results := [.lit (.bool true)], args := [d1, d2, d3] }
  | _ => none }
def fnExactArcLaurentRow : OpenClaim := { program := "ytfcgcgmleogamaa", sum := "9e3a0f0d0dc32a983bdc4cf02322b35c73ad67fd6bdf8c8c9015506e42dbcd7d", func := "loop.example/g03115/laws.FnExactArcLaurent", spec := "fnExactArcLaurent", unfollowed := true, recurses := true, plainKeys := false, apart := false }
def FnExactArcLaurentSaid : Prop := fnExactArcLaurentRow.holds Try.pinned (OpenSpec.ofChange fnExactArcLaurentSpec)

/-- ITS FALSE NEIGHBOUR: 'it returns false'. Refute it at one input. -/
def fnExactArcLaurentWrong : ChangeSpec := { name := "fnExactArcLaurent", fn := fun _ => fun
  | [d1, d2, d3] => { results := [.lit (.bool false)], args := [d1, d2, d3] }
  | _ => none }
def FnExactArcLaurentWrongFalsely : Prop := fnExactArcLaurentRow.holds Try.pinned (OpenSpec.ofChange fnExactArcLaurentWrong)

/- THE SECOND FORM. 'bulk': how many values and letters a reading holds, each counted each time it is reached (what is shared counts as often as it is met; a slice's spare places count too). A statement '..UptoSaid' is the law's where the arguments, and the package variables that the reading takes, are together of bulk at most 1048576: NARROWER than '..Said'. Prove '..Said' where nothing that the law and all that it calls make is longer than what came in: it says more and counts as full. Else prove '..UptoSaid'. A law counts once. -/
mutual
def uptoBulk {H : Type} : DataW H → Nat
  | .lit (.string bytes) => bytes.length + 1
  | .lit _ => 1
  | .nil => 1
  | .ptr d => uptoBulk d + 1
  | .slice elems spare => uptoBulkAll elems + uptoBulkAll spare + 1
  | .agg parts => uptoBulkAll parts + 1
  | .iface _ d => uptoBulk d + 1
  | .map entries => uptoBulkEntries entries + 1
  | .held _ => 1
def uptoBulkAll {H : Type} : List (DataW H) → Nat
  | [] => 0
  | d :: r => uptoBulk d + uptoBulkAll r
def uptoBulkEntries {H : Type} : List (Lit × DataW H) → Nat
  | [] => 0
  | x :: r => uptoBulkEntry x + uptoBulkEntries r
def uptoBulkEntry {H : Type} : Lit × DataW H → Nat
  | (.string bytes, d) => bytes.length + uptoBulk d + 1
  | (_, d) => uptoBulk d + 1
 end
def uptoSmall : (H : Type) → List (DataW H) → Bool := fun _ ds => decide (uptoBulkAll ds ≤ 1048576)
def OpenSpec.upto (s : _root_.Go.ChangeSpec) : _root_.Go.OpenSpec := { _root_.Go.OpenSpec.ofChange s with cond := some uptoSmall }

/-- 'laws.FnForms', WHERE WHAT IT READS IS OF BULK AT MOST 1048576: true; the input reads as it did. -/
def fnFormsUptoRow : OpenClaim := { program := "ytfcgcgmleogamaa", sum := "9e3a0f0d0dc32a983bdc4cf02322b35c73ad67fd6bdf8c8c9015506e42dbcd7d", func := "loop.example/g03115/laws.FnForms", spec := "fnForms", unfollowed := true, recurses := true, plainKeys := false, apart := false, narrowed := true }
def FnFormsUptoSaid : Prop := fnFormsUptoRow.holds Try.pinned (OpenSpec.upto fnFormsSpec)

/-- 'laws.FnPtolemy', WHERE WHAT IT READS IS OF BULK AT MOST 1048576: true; the input reads as it did. -/
def fnPtolemyUptoRow : OpenClaim := { program := "ytfcgcgmleogamaa", sum := "9e3a0f0d0dc32a983bdc4cf02322b35c73ad67fd6bdf8c8c9015506e42dbcd7d", func := "loop.example/g03115/laws.FnPtolemy", spec := "fnPtolemy", unfollowed := true, recurses := true, plainKeys := false, apart := false, narrowed := true }
def FnPtolemyUptoSaid : Prop := fnPtolemyUptoRow.holds Try.pinned (OpenSpec.upto fnPtolemySpec)

/-- 'laws.FnCrossings', WHERE WHAT IT READS IS OF BULK AT MOST 1048576: true; the input reads as it did. -/
def fnCrossingsUptoRow : OpenClaim := { program := "ytfcgcgmleogamaa", sum := "9e3a0f0d0dc32a983bdc4cf02322b35c73ad67fd6bdf8c8c9015506e42dbcd7d", func := "loop.example/g03115/laws.FnCrossings", spec := "fnCrossings", unfollowed := true, recurses := true, plainKeys := false, apart := false, narrowed := true }
def FnCrossingsUptoSaid : Prop := fnCrossingsUptoRow.holds Try.pinned (OpenSpec.upto fnCrossingsSpec)

/-- 'laws.FnFriezeArcs', WHERE WHAT IT READS IS OF BULK AT MOST 1048576: true; the input reads as it did. -/
def fnFriezeArcsUptoRow : OpenClaim := { program := "ytfcgcgmleogamaa", sum := "9e3a0f0d0dc32a983bdc4cf02322b35c73ad67fd6bdf8c8c9015506e42dbcd7d", func := "loop.example/g03115/laws.FnFriezeArcs", spec := "fnFriezeArcs", unfollowed := true, recurses := true, plainKeys := false, apart := false, narrowed := true }
def FnFriezeArcsUptoSaid : Prop := fnFriezeArcsUptoRow.holds Try.pinned (OpenSpec.upto fnFriezeArcsSpec)

/-- 'laws.FnArcs', WHERE WHAT IT READS IS OF BULK AT MOST 1048576: true; the input reads as it did. -/
def fnArcsUptoRow : OpenClaim := { program := "ytfcgcgmleogamaa", sum := "9e3a0f0d0dc32a983bdc4cf02322b35c73ad67fd6bdf8c8c9015506e42dbcd7d", func := "loop.example/g03115/laws.FnArcs", spec := "fnArcs", unfollowed := true, recurses := true, plainKeys := false, apart := false, narrowed := true }
def FnArcsUptoSaid : Prop := fnArcsUptoRow.holds Try.pinned (OpenSpec.upto fnArcsSpec)

/-- 'laws.FnExactArcLaurent', WHERE WHAT IT READS IS OF BULK AT MOST 1048576: true; the input reads as it did. -/
def fnExactArcLaurentUptoRow : OpenClaim := { program := "ytfcgcgmleogamaa", sum := "9e3a0f0d0dc32a983bdc4cf02322b35c73ad67fd6bdf8c8c9015506e42dbcd7d", func := "loop.example/g03115/laws.FnExactArcLaurent", spec := "fnExactArcLaurent", unfollowed := true, recurses := true, plainKeys := false, apart := false, narrowed := true }
def FnExactArcLaurentUptoSaid : Prop := fnExactArcLaurentUptoRow.holds Try.pinned (OpenSpec.upto fnExactArcLaurentSpec)

end Rows
end Go.Proofs.Ytfcgcgmleogamaa
