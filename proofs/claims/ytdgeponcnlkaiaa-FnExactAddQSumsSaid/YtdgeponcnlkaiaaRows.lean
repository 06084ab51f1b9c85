/-
  No cell of these rows narrows 'for every input' (looked for: loops, veiled, ifaces, maps, wideKeys, modest, calm, conditions, laid).
  DERIVED. THE GIVEN ROWS OF THIS SEAT. 12 by the template 'for every input the law returns true; each argument reads behind the call as it read before'; 0 by the template 'total and deterministic' (their statements: YtdgeponcnlkaiaaTotals.lean).
  GIVEN WITH THE SEED: the statements are not yours to turn. If you find one false, say at which input.
  Laid BY PROGRAM, IN A SANDBOX (cutbox-rows.mjs): the forced cells as the released guide's own fill.sh prints them over the translation 987342e4f3f3c2bd… (all of the seat's roots in one cut). By AI agents, Wed Nov 11 2026. No macro, syntax, notation, axiom, sorry.
-/
import Derived.Test.YtdgeponcnlkaiaaChecked
import GoSem.Claim
import GoSem.ClaimJoined
import GoSem.ClaimMapViews
import Derived.JoinedTies
import Derived.KernelRfl
namespace Go.Proofs.Ytdgeponcnlkaiaa
/- THE CELL 'sum', in the pinned program and in every row, IS THE sha256 OF THE DUMP (.gsa) THAT YtdgeponcnlkaiaaProg.lean LOADS. Nothing in Lean hashes anything: it is a label: what it is worth is what the hold of that sum in a sandbox is worth. -/
noncomputable def Try.pinned : Pinned := { name := "ytdgeponcnlkaiaa", sum := "987342e4f3f3c2bd34e62f8b1210fa17c114d62c29df3ca2734429075f7078d1", checked := Try.checked }
namespace Rows
def none {H : Type} : Left H := { results := [], args := [] }

/-- 'laws.FnExactNewSession': WHATEVER THE INPUT: true; the input reads as it did. -/
def fnExactNewSessionSpec : ChangeSpec := { name := "fnExactNewSession", fn := fun _ => fun
  | [] => { results := [.lit (.bool true)], args := [] }
  | _ => none }
def fnExactNewSessionRow : OpenClaim := { program := "ytdgeponcnlkaiaa", sum := "987342e4f3f3c2bd34e62f8b1210fa17c114d62c29df3ca2734429075f7078d1", func := "loop.example/g03115/laws.FnExactNewSession", spec := "fnExactNewSession", unfollowed := true, recurses := true, plainKeys := false, apart := false }
def FnExactNewSessionSaid : Prop := fnExactNewSessionRow.holds Try.pinned (OpenSpec.ofChange fnExactNewSessionSpec)

/-- ITS FALSE NEIGHBOUR: 'it returns false'. Refute it at one input. -/
def fnExactNewSessionWrong : ChangeSpec := { name := "fnExactNewSession", fn := fun _ => fun
  | [] => { results := [.lit (.bool false)], args := [] }
  | _ => none }
def FnExactNewSessionWrongFalsely : Prop := fnExactNewSessionRow.holds Try.pinned (OpenSpec.ofChange fnExactNewSessionWrong)

/-- 'laws.FnForms': WHATEVER THE INPUT: true; the input reads as it did. -/
def fnFormsSpec : ChangeSpec := { name := "fnForms", fn := fun _ => fun
  | [d] => { results := [.lit (.bool true)], args := [d] }
  | _ => none }
def fnFormsRow : OpenClaim := { program := "ytdgeponcnlkaiaa", sum := "987342e4f3f3c2bd34e62f8b1210fa17c114d62c29df3ca2734429075f7078d1", func := "loop.example/g03115/laws.FnForms", spec := "fnForms", unfollowed := true, recurses := true, plainKeys := false, apart := false }
def FnFormsSaid : Prop := fnFormsRow.holds Try.pinned (OpenSpec.ofChange fnFormsSpec)

/-- ITS FALSE NEIGHBOUR: 'it returns false'. Refute it at one input. -/
def fnFormsWrong : ChangeSpec := { name := "fnForms", fn := fun _ => fun
  | [d] => { results := [.lit (.bool false)], args := [d] }
  | _ => none }
def FnFormsWrongFalsely : Prop := fnFormsRow.holds Try.pinned (OpenSpec.ofChange fnFormsWrong)

/-- 'laws.FnDivided': WHATEVER THE INPUT: true; the input reads as it did. -/
def fnDividedSpec : ChangeSpec := { name := "fnDivided", fn := fun _ => fun
  | [d] => { results := [.lit (.bool true)], args := [d] }
  | _ => none }
def fnDividedRow : OpenClaim := { program := "ytdgeponcnlkaiaa", sum := "987342e4f3f3c2bd34e62f8b1210fa17c114d62c29df3ca2734429075f7078d1", func := "loop.example/g03115/laws.FnDivided", spec := "fnDivided", unfollowed := true, recurses := true, plainKeys := false, apart := false }
def FnDividedSaid : Prop := fnDividedRow.holds Try.pinned (OpenSpec.ofChange fnDividedSpec)

/-- ITS FALSE NEIGHBOUR: 'it returns false'. Refute it at one input. -/
def fnDividedWrong : ChangeSpec := { name := "fnDivided", fn := fun _ => fun
  | [d] => { results := [.lit (.bool false)], args := [d] }
  | _ => none }
def FnDividedWrongFalsely : Prop := fnDividedRow.holds Try.pinned (OpenSpec.ofChange fnDividedWrong)

/-- 'laws.FnExactAddQSums': WHATEVER THE INPUT: true; the input reads as it did. -/
def fnExactAddQSumsSpec : ChangeSpec := { name := "fnExactAddQSums", fn := fun _ => fun
  | [d1, d2] => { results := [.lit (.bool true)], args := [d1, d2] }
  | _ => none }
def fnExactAddQSumsRow : OpenClaim := { program := "ytdgeponcnlkaiaa", sum := "987342e4f3f3c2bd34e62f8b1210fa17c114d62c29df3ca2734429075f7078d1", func := "loop.example/g03115/laws.FnExactAddQSums", spec := "fnExactAddQSums", unfollowed := true, recurses := true, plainKeys := false, apart := false }
def FnExactAddQSumsSaid : Prop := fnExactAddQSumsRow.holds Try.pinned (OpenSpec.ofChange fnExactAddQSumsSpec)

/-- ITS FALSE NEIGHBOUR: 'it returns false'. Refute it at one input. -/
def fnExactAddQSumsWrong : ChangeSpec := { name := "fnExactAddQSums", fn := fun _ => fun
  | [d1, d2] => { results := [.lit (.bool false)], args := [d1, d2] }
  | _ => none }
def FnExactAddQSumsWrongFalsely : Prop := fnExactAddQSumsRow.holds Try.pinned (OpenSpec.ofChange fnExactAddQSumsWrong)

/-- 'laws.FnLaurentRing': WHATEVER THE INPUT: true; the input reads as it did. -/
def fnLaurentRingSpec : ChangeSpec := { name := "fnLaurentRing", fn := fun _ => fun
  | [d] => { results := [.lit (.bool true)], args := [d] }
  | _ => none }
def fnLaurentRingRow : OpenClaim := { program := "ytdgeponcnlkaiaa", sum := "987342e4f3f3c2bd34e62f8b1210fa17c114d62c29df3ca2734429075f7078d1", func := "loop.example/g03115/laws.FnLaurentRing", spec := "fnLaurentRing", unfollowed := true, recurses := true, plainKeys := false, apart := false }
def FnLaurentRingSaid : Prop := fnLaurentRingRow.holds Try.pinned (OpenSpec.ofChange fnLaurentRingSpec)

/-- ITS FALSE NEIGHBOUR: 'it returns false'. Refute it at one input. -/
def fnLaurentRingWrong : ChangeSpec := { name := "fnLaurentRing", fn := fun _ => fun
  | [d] => { results := [.lit (.bool false)], args := [d] }
  | _ => none }
def FnLaurentRingWrongFalsely : Prop := fnLaurentRingRow.holds Try.pinned (OpenSpec.ofChange fnLaurentRingWrong)

/-- 'laws.FnExactPowerLaurent': WHATEVER THE INPUT: true; the input reads as it did. -/
def fnExactPowerLaurentSpec : ChangeSpec := { name := "fnExactPowerLaurent", fn := fun _ => fun
  | [d1, d2] => { results := [.lit (.bool true)], args := [d1, d2] }
  | _ => none }
def fnExactPowerLaurentRow : OpenClaim := { program := "ytdgeponcnlkaiaa", sum := "987342e4f3f3c2bd34e62f8b1210fa17c114d62c29df3ca2734429075f7078d1", func := "loop.example/g03115/laws.FnExactPowerLaurent", spec := "fnExactPowerLaurent", unfollowed := true, recurses := true, plainKeys := false, apart := false }
def FnExactPowerLaurentSaid : Prop := fnExactPowerLaurentRow.holds Try.pinned (OpenSpec.ofChange fnExactPowerLaurentSpec)

/-- ITS FALSE NEIGHBOUR: 'it returns false'. Refute it at one input. -/
def fnExactPowerLaurentWrong : ChangeSpec := { name := "fnExactPowerLaurent", fn := fun _ => fun
  | [d1, d2] => { results := [.lit (.bool false)], args := [d1, d2] }
  | _ => none }
def FnExactPowerLaurentWrongFalsely : Prop := fnExactPowerLaurentRow.holds Try.pinned (OpenSpec.ofChange fnExactPowerLaurentWrong)

/-- 'laws.FnExactNumeratorOf': WHATEVER THE INPUT: true; the input reads as it did. -/
def fnExactNumeratorOfSpec : ChangeSpec := { name := "fnExactNumeratorOf", fn := fun _ => fun
  | [d] => { results := [.lit (.bool true)], args := [d] }
  | _ => none }
def fnExactNumeratorOfRow : OpenClaim := { program := "ytdgeponcnlkaiaa", sum := "987342e4f3f3c2bd34e62f8b1210fa17c114d62c29df3ca2734429075f7078d1", func := "loop.example/g03115/laws.FnExactNumeratorOf", spec := "fnExactNumeratorOf", unfollowed := true, recurses := true, plainKeys := false, apart := false }
def FnExactNumeratorOfSaid : Prop := fnExactNumeratorOfRow.holds Try.pinned (OpenSpec.ofChange fnExactNumeratorOfSpec)

/-- ITS FALSE NEIGHBOUR: 'it returns false'. Refute it at one input. -/
def fnExactNumeratorOfWrong : ChangeSpec := { name := "fnExactNumeratorOf", fn := fun _ => fun
  | [d] => { results := [.lit (.bool false)], args := [d] }
  | _ => none }
def FnExactNumeratorOfWrongFalsely : Prop := fnExactNumeratorOfRow.holds Try.pinned (OpenSpec.ofChange fnExactNumeratorOfWrong)

/-- 'laws.FnExactDivideLaurents': WHATEVER THE INPUT: true; the input reads as it did. -/
def fnExactDivideLaurentsSpec : ChangeSpec := { name := "fnExactDivideLaurents", fn := fun _ => fun
  | [d1, d2] => { results := [.lit (.bool true)], args := [d1, d2] }
  | _ => none }
def fnExactDivideLaurentsRow : OpenClaim := { program := "ytdgeponcnlkaiaa", sum := "987342e4f3f3c2bd34e62f8b1210fa17c114d62c29df3ca2734429075f7078d1", func := "loop.example/g03115/laws.FnExactDivideLaurents", spec := "fnExactDivideLaurents", unfollowed := true, recurses := true, plainKeys := false, apart := false }
def FnExactDivideLaurentsSaid : Prop := fnExactDivideLaurentsRow.holds Try.pinned (OpenSpec.ofChange fnExactDivideLaurentsSpec)

/-- ITS FALSE NEIGHBOUR: 'it returns false'. Refute it at one input. -/
def fnExactDivideLaurentsWrong : ChangeSpec := { name := "fnExactDivideLaurents", fn := fun _ => fun
  | [d1, d2] => { results := [.lit (.bool false)], args := [d1, d2] }
  | _ => none }
def FnExactDivideLaurentsWrongFalsely : Prop := fnExactDivideLaurentsRow.holds Try.pinned (OpenSpec.ofChange fnExactDivideLaurentsWrong)

/-- 'laws.FnTorus': WHATEVER THE INPUT: true; the input reads as it did. -/
def fnTorusSpec : ChangeSpec := { name := "fnTorus", fn := fun _ => fun
  | [d] => { results := [.lit (.bool true)], args := [d] }
  | _ => none }
def fnTorusRow : OpenClaim := { program := "ytdgeponcnlkaiaa", sum := "987342e4f3f3c2bd34e62f8b1210fa17c114d62c29df3ca2734429075f7078d1", func := "loop.example/g03115/laws.FnTorus", spec := "fnTorus", unfollowed := true, recurses := true, plainKeys := false, apart := false }
def FnTorusSaid : Prop := fnTorusRow.holds Try.pinned (OpenSpec.ofChange fnTorusSpec)

/-- ITS FALSE NEIGHBOUR: 'it returns false'. Refute it at one input. -/
def fnTorusWrong : ChangeSpec := { name := "fnTorus", fn := fun _ => fun
  | [d] => { results := [.lit (.bool false)], args := [d] }
  | _ => none }
def FnTorusWrongFalsely : Prop := fnTorusRow.holds Try.pinned (OpenSpec.ofChange fnTorusWrong)

/-- 'laws.FnExactClassicalOf': WHATEVER THE INPUT: true; the input reads as it did. -/
def fnExactClassicalOfSpec : ChangeSpec := { name := "fnExactClassicalOf", fn := fun _ => fun
  | [d] => { results := [.lit (.bool true)], args := [d] }
  | _ => none }
def fnExactClassicalOfRow : OpenClaim := { program := "ytdgeponcnlkaiaa", sum := "987342e4f3f3c2bd34e62f8b1210fa17c114d62c29df3ca2734429075f7078d1", func := "loop.example/g03115/laws.FnExactClassicalOf", spec := "fnExactClassicalOf", unfollowed := true, recurses := true, plainKeys := false, apart := false }
def FnExactClassicalOfSaid : Prop := fnExactClassicalOfRow.holds Try.pinned (OpenSpec.ofChange fnExactClassicalOfSpec)

/-- ITS FALSE NEIGHBOUR: 'it returns false'. Refute it at one input. -/
def fnExactClassicalOfWrong : ChangeSpec := { name := "fnExactClassicalOf", fn := fun _ => fun
  | [d] => { results := [.lit (.bool false)], args := [d] }
  | _ => none }
def FnExactClassicalOfWrongFalsely : Prop := fnExactClassicalOfRow.holds Try.pinned (OpenSpec.ofChange fnExactClassicalOfWrong)

/-- 'laws.FnQuantumDivided': WHATEVER THE INPUT: true; the input reads as it did. -/
def fnQuantumDividedSpec : ChangeSpec := { name := "fnQuantumDivided", fn := fun _ => fun
  | [d] => { results := [.lit (.bool true)], args := [d] }
  | _ => none }
def fnQuantumDividedRow : OpenClaim := { program := "ytdgeponcnlkaiaa", sum := "987342e4f3f3c2bd34e62f8b1210fa17c114d62c29df3ca2734429075f7078d1", func := "loop.example/g03115/laws.FnQuantumDivided", spec := "fnQuantumDivided", unfollowed := true, recurses := true, plainKeys := false, apart := false }
def FnQuantumDividedSaid : Prop := fnQuantumDividedRow.holds Try.pinned (OpenSpec.ofChange fnQuantumDividedSpec)

/-- ITS FALSE NEIGHBOUR: 'it returns false'. Refute it at one input. -/
def fnQuantumDividedWrong : ChangeSpec := { name := "fnQuantumDivided", fn := fun _ => fun
  | [d] => { results := [.lit (.bool false)], args := [d] }
  | _ => none }
def FnQuantumDividedWrongFalsely : Prop := fnQuantumDividedRow.holds Try.pinned (OpenSpec.ofChange fnQuantumDividedWrong)

/-- 'laws.FnExactMulQSums': WHATEVER THE INPUT: true; the input reads as it did. -/
def fnExactMulQSumsSpec : ChangeSpec := { name := "fnExactMulQSums", fn := fun _ => fun
  | [d1, d2, d3] => { results := [.lit (.bool true)], args := [d1, d2, d3] }
  | _ => none }
def fnExactMulQSumsRow : OpenClaim := { program := "ytdgeponcnlkaiaa", sum := "987342e4f3f3c2bd34e62f8b1210fa17c114d62c29df3ca2734429075f7078d1", func := "loop.example/g03115/laws.FnExactMulQSums", spec := "fnExactMulQSums", unfollowed := true, recurses := true, plainKeys := false, apart := false }
def FnExactMulQSumsSaid : Prop := fnExactMulQSumsRow.holds Try.pinned (OpenSpec.ofChange fnExactMulQSumsSpec)

/-- ITS FALSE NEIGHBOUR: 'it returns false'. Refute it at one input. -/
def fnExactMulQSumsWrong : ChangeSpec := { name := "fnExactMulQSums", fn := fun _ => fun
  | [d1, d2, d3] => { results := [.lit (.bool false)], args := [d1, d2, d3] }
  | _ => none }
def FnExactMulQSumsWrongFalsely : Prop := fnExactMulQSumsRow.holds Try.pinned (OpenSpec.ofChange fnExactMulQSumsWrong)

/- THE SECOND FORM. 'bulk': how many values and letters a reading holds, each counted each time it is reached (what is shared counts as often as it is met; a slice's spare places count too). A statement '..UptoSaid' is the law's where the arguments, and the package variables that the reading takes, are together of bulk at most 1048576: NARROWER than '..Said'. Prove '..Said' where nothing that the law and all that it calls make is longer than what came in: it says more and counts as full. Else prove '..UptoSaid'. A law counts once. -/
mutual
def uptoBulk {H : Type} : DataW H → Nat
  | .lit (.string bytes) => bytes.length + 1
  | .lit _ => 1
  | .nil => 1
  | .ptr d => uptoBulk d + 1
  | .slice elems spare => uptoBulkAll elems + uptoBulkAll spare + 1
  | .agg parts => uptoBulkAll parts + 1
  | .iface _ d => uptoBulk d + 1
  | .map entries => uptoBulkEntries entries + 1
  | .held _ => 1
def uptoBulkAll {H : Type} : List (DataW H) → Nat
  | [] => 0
  | d :: r => uptoBulk d + uptoBulkAll r
def uptoBulkEntries {H : Type} : List (Lit × DataW H) → Nat
  | [] => 0
  | x :: r => uptoBulkEntry x + uptoBulkEntries r
def uptoBulkEntry {H : Type} : Lit × DataW H → Nat
  | (.string bytes, d) => bytes.length + uptoBulk d + 1
  | (_, d) => uptoBulk d + 1
 end
def uptoSmall : (H : Type) → List (DataW H) → Bool := fun _ ds => decide (uptoBulkAll ds ≤ 1048576)
def OpenSpec.upto (s : _root_.Go.ChangeSpec) : _root_.Go.OpenSpec := { _root_.Go.OpenSpec.ofChange s with cond := some uptoSmall }

/-- 'laws.FnExactNewSession', WHERE WHAT IT READS IS OF BULK AT MOST 1048576: true; the input reads as it did. -/
def fnExactNewSessionUptoRow : OpenClaim := { program := "ytdgeponcnlkaiaa", sum := "987342e4f3f3c2bd34e62f8b1210fa17c114d62c29df3ca2734429075f7078d1", func := "loop.example/g03115/laws.FnExactNewSession", spec := "fnExactNewSession", unfollowed := true, recurses := true, plainKeys := false, apart := false, narrowed := true }
def FnExactNewSessionUptoSaid : Prop := fnExactNewSessionUptoRow.holds Try.pinned (OpenSpec.upto fnExactNewSessionSpec)

/-- 'laws.FnForms', WHERE WHAT IT READS IS OF BULK AT MOST 1048576: true; the input reads as it did. -/
def fnFormsUptoRow : OpenClaim := { program := "ytdgeponcnlkaiaa", sum := "987342e4f3f3c2bd34e62f8b1210fa17c114d62c29df3ca2734429075f7078d1", func := "loop.example/g03115/laws.FnForms", spec := "fnForms", unfollowed := true, recurses := true, plainKeys := false, apart := false, narrowed := true }
def FnFormsUptoSaid : Prop := fnFormsUptoRow.holds Try.pinned (OpenSpec.upto fnFormsSpec)

/-- 'laws.FnDivided', WHERE WHAT IT READS IS OF BULK AT MOST 1048576: true; the input reads as it did. -/
def fnDividedUptoRow : OpenClaim := { program := "ytdgeponcnlkaiaa", sum := "987342e4f3f3c2bd34e62f8b1210fa17c114d62c29df3ca2734429075f7078d1", func := "loop.example/g03115/laws.FnDivided", spec := "fnDivided", unfollowed := true, recurses := true, plainKeys := false, apart := false, narrowed := true }
def FnDividedUptoSaid : Prop := fnDividedUptoRow.holds Try.pinned (OpenSpec.upto fnDividedSpec)

/-- 'laws.FnExactAddQSums', WHERE WHAT IT READS IS OF BULK AT MOST 1048576: true; the input reads as it did. -/
def fnExactAddQSumsUptoRow : OpenClaim := { program := "ytdgeponcnlkaiaa", sum := "987342e4f3f3c2bd34e62f8b1210fa17c114d62c29df3ca2734429075f7078d1", func := "loop.example/g03115/laws.FnExactAddQSums", spec := "fnExactAddQSums", unfollowed := true, recurses := true, plainKeys := false, apart := false, narrowed := true }
def FnExactAddQSumsUptoSaid : Prop := fnExactAddQSumsUptoRow.holds Try.pinned (OpenSpec.upto fnExactAddQSumsSpec)

/-- 'laws.FnLaurentRing', WHERE WHAT IT READS IS OF BULK AT MOST 1048576: true; the input reads as it did. -/
def fnLaurentRingUptoRow : OpenClaim := { program := "ytdgeponcnlkaiaa", sum := "987342e4f3f3c2bd34e62f8b1210fa17c114d62c29df3ca2734429075f7078d1", func := "loop.example/g03115/laws.FnLaurentRing", spec := "fnLaurentRing", unfollowed := true, recurses := true, plainKeys := false, apart := false, narrowed := true }
def FnLaurentRingUptoSaid : Prop := fnLaurentRingUptoRow.holds Try.pinned (OpenSpec.upto fnLaurentRingSpec)

/-- 'laws.FnExactPowerLaurent', WHERE WHAT IT READS IS OF BULK AT MOST 1048576: true; the input reads as it did. -/
def fnExactPowerLaurentUptoRow : OpenClaim := { program := "ytdgeponcnlkaiaa", sum := "987342e4f3f3c2bd34e62f8b1210fa17c114d62c29df3ca2734429075f7078d1", func := "loop.example/g03115/laws.FnExactPowerLaurent", spec := "fnExactPowerLaurent", unfollowed := true, recurses := true, plainKeys := false, apart := false, narrowed := true }
def FnExactPowerLaurentUptoSaid : Prop := fnExactPowerLaurentUptoRow.holds Try.pinned (OpenSpec.upto fnExactPowerLaurentSpec)

/-- 'laws.FnExactNumeratorOf', WHERE WHAT IT READS IS OF BULK AT MOST 1048576: true; the input reads as it did. -/
def fnExactNumeratorOfUptoRow : OpenClaim := { program := "ytdgeponcnlkaiaa", sum := "987342e4f3f3c2bd34e62f8b1210fa17c114d62c29df3ca2734429075f7078d1", func := "loop.example/g03115/laws.FnExactNumeratorOf", spec := "fnExactNumeratorOf", unfollowed := true, recurses := true, plainKeys := false, apart := false, narrowed := true }
def FnExactNumeratorOfUptoSaid : Prop := fnExactNumeratorOfUptoRow.holds Try.pinned (OpenSpec.upto fnExactNumeratorOfSpec)

/-- 'laws.FnExactDivideLaurents', WHERE WHAT IT READS IS OF BULK AT MOST 1048576: true; the input reads as it did. -/
def fnExactDivideLaurentsUptoRow : OpenClaim := { program := "ytdgeponcnlkaiaa", sum := "987342e4f3f3c2bd34e62f8b1210fa17c114d62c29df3ca2734429075f7078d1", func := "loop.example/g03115/laws.FnExactDivideLaurents", spec := "fnExactDivideLaurents", unfollowed := true, recurses := true, plainKeys := false, apart := false, narrowed := true }
def FnExactDivideLaurentsUptoSaid : Prop := fnExactDivideLaurentsUptoRow.holds Try.pinned (OpenSpec.upto fnExactDivideLaurentsSpec)

/-- 'laws.FnTorus', WHERE WHAT IT READS IS OF BULK AT MOST 1048576: true; the input reads as it did. -/
def fnTorusUptoRow : OpenClaim := { program := "ytdgeponcnlkaiaa", sum := "987342e4f3f3c2bd34e62f8b1210fa17c114d62c29df3ca2734429075f7078d1", func := "loop.example/g03115/laws.FnTorus", spec := "fnTorus", unfollowed := true, recurses := true, plainKeys := false, apart := false, narrowed := true }
def FnTorusUptoSaid : Prop := fnTorusUptoRow.holds Try.pinned (OpenSpec.upto fnTorusSpec)

/-- 'laws.FnExactClassicalOf', WHERE WHAT IT READS IS OF BULK AT MOST 1048576: true; the input reads as it did. -/
def fnExactClassicalOfUptoRow : OpenClaim := { program := "ytdgeponcnlkaiaa", sum := "987342e4f3f3c2bd34e62f8b1210fa17c114d62c29df3ca2734429075f7078d1", func := "loop.example/g03115/laws.FnExactClassicalOf", spec := "fnExactClassicalOf", unfollowed := true, recurses := true, plainKeys := false, apart := false, narrowed := true }
def FnExactClassicalOfUptoSaid : Prop := fnExactClassicalOfUptoRow.holds Try.pinned (OpenSpec.upto fnExactClassicalOfSpec)

/-- 'laws.FnQuantumDivided', WHERE WHAT IT READS IS OF BULK AT MOST 1048576: true; the input reads as it did. -/
def fnQuantumDividedUptoRow : OpenClaim := { program := "ytdgeponcnlkaiaa", sum := "987342e4f3f3c2bd34e62f8b1210fa17c114d62c29df3ca2734429075f7078d1", func := "loop.example/g03115/laws.FnQuantumDivided", spec := "fnQuantumDivided", unfollowed := true, recurses := true, plainKeys := false, apart := false, narrowed := true }
def FnQuantumDividedUptoSaid : Prop := fnQuantumDividedUptoRow.holds Try.pinned (OpenSpec.upto fnQuantumDividedSpec)

/-- 'laws.FnExactMulQSums', WHERE WHAT IT READS IS OF BULK AT MOST 1048576: true; the input reads as it did. -/
def fnExactMulQSumsUptoRow : OpenClaim := { program := "ytdgeponcnlkaiaa", sum := "987342e4f3f3c2bd34e62f8b1210fa17c114d62c29df3ca2734429075f7078d1", func := "loop.example/g03115/laws.FnExactMulQSums", spec := "fnExactMulQSums", unfollowed := true, recurses := true, plainKeys := false, apart := false, narrowed := true }
def FnExactMulQSumsUptoSaid : Prop := fnExactMulQSumsUptoRow.holds Try.pinned (OpenSpec.upto fnExactMulQSumsSpec)

end Rows
end Go.Proofs.Ytdgeponcnlkaiaa
