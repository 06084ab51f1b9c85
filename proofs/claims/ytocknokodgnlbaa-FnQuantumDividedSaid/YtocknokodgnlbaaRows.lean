/-
  No cell of these rows narrows 'for every input' (looked for: loops, veiled, ifaces, maps, wideKeys, modest, calm, conditions, laid).
  DERIVED. THE GIVEN ROWS OF THIS SEAT. 7 by the template 'for every input the law returns true; each argument reads behind the call as it read before'; 0 by the template 'total and deterministic' (their statements: YtocknokodgnlbaaTotals.lean).
  GIVEN WITH THE SEED: the statements are not yours to turn. If you find one false, say at which input.
  Laid BY PROGRAM, IN A SANDBOX (cutbox-rows.mjs): the forced cells as the released guide's own fill.sh prints them over the translation 7d4b12ddf6de3df1… (all of the seat's roots in one cut). By AI agents, Wed Nov 11 2026. No macro, syntax, notation, axiom, sorry.
-/
import Derived.Test.YtocknokodgnlbaaChecked
import GoSem.Claim
import GoSem.ClaimJoined
import GoSem.ClaimMapViews
import Derived.JoinedTies
import Derived.KernelRfl
namespace Go.Proofs.Ytocknokodgnlbaa
/- THE CELL 'sum', in the pinned program and in every row, IS THE sha256 OF THE DUMP (.gsa) THAT YtocknokodgnlbaaProg.lean LOADS. Nothing in Lean hashes anything: it is a label: what it is worth is what the hold of that sum in a sandbox is worth. -/
noncomputable def Try.pinned : Pinned := { name := "ytocknokodgnlbaa", sum := "7d4b12ddf6de3df112e4d5eb7860f38f887b04aa9e9b659a31cc276d2caa7085", checked := Try.checked }
namespace Rows
def none {H : Type} : Left H := { results := [], args := [] }

/-- 'laws.FnDivided': WHATEVER THE INPUT: true; the input reads as it did. -/
def fnDividedSpec : ChangeSpec := { name := "fnDivided", fn := fun _ => fun
  | [d] => { results := [.lit (.bool true)], args := [d] }
  | _ => none }
def fnDividedRow : OpenClaim := { program := "ytocknokodgnlbaa", sum := "7d4b12ddf6de3df112e4d5eb7860f38f887b04aa9e9b659a31cc276d2caa7085", func := "loop.example/g03115/laws.FnDivided", spec := "fnDivided", unfollowed := true, recurses := true, plainKeys := false, apart := false }
def FnDividedSaid : Prop := fnDividedRow.holds Try.pinned (OpenSpec.ofChange fnDividedSpec)

/-- ITS FALSE NEIGHBOUR: 'it returns false'. Refute it at one input. -/
def fnDividedWrong : ChangeSpec := { name := "fnDivided", fn := fun _ => fun
  | [d] => { results := [.lit (.bool false)], args := [d] }
  | _ => none }
def FnDividedWrongFalsely : Prop := fnDividedRow.holds Try.pinned (OpenSpec.ofChange fnDividedWrong)

/-- 'laws.FnLaurentRing': WHATEVER THE INPUT: true; the input reads as it did. -/
def fnLaurentRingSpec : ChangeSpec := { name := "fnLaurentRing", fn := fun _ => fun
  | [d] => { results := [.lit (.bool true)], args := [d] }
  | _ => none }
def fnLaurentRingRow : OpenClaim := { program := "ytocknokodgnlbaa", sum := "7d4b12ddf6de3df112e4d5eb7860f38f887b04aa9e9b659a31cc276d2caa7085", func := "loop.example/g03115/laws.FnLaurentRing", spec := "fnLaurentRing", unfollowed := true, recurses := true, plainKeys := false, apart := false }
def FnLaurentRingSaid : Prop := fnLaurentRingRow.holds Try.pinned (OpenSpec.ofChange fnLaurentRingSpec)

/-- ITS FALSE NEIGHBOUR: 'it returns false'. Refute it at one input. -/
def fnLaurentRingWrong : ChangeSpec := { name := "fnLaurentRing", fn := fun _ => fun
  | [d] => { results := [.lit (.bool false)], args := [d] }
  | _ => none }
def FnLaurentRingWrongFalsely : Prop := fnLaurentRingRow.holds Try.pinned (OpenSpec.ofChange fnLaurentRingWrong)

/-- 'laws.FnTorus': WHATEVER THE INPUT: true; the input reads as it did. -/
def fnTorusSpec : ChangeSpec := { name := "fnTorus", fn := fun _ => fun
  | [d] => { results := [.lit (.bool true)], args := [d] }
  | _ => none }
def fnTorusRow : OpenClaim := { program := "ytocknokodgnlbaa", sum := "7d4b12ddf6de3df112e4d5eb7860f38f887b04aa9e9b659a31cc276d2caa7085", func := "loop.example/g03115/laws.FnTorus", spec := "fnTorus", unfollowed := true, recurses := true, plainKeys := false, apart := false }
def FnTorusSaid : Prop := fnTorusRow.holds Try.pinned (OpenSpec.ofChange fnTorusSpec)

/-- ITS FALSE NEIGHBOUR: 'it returns false'. Refute it at one input. -/
def fnTorusWrong : ChangeSpec := { name := "fnTorus", fn := fun _ => fun
  | [d] => { results := [.lit (.bool false)], args := [d] }
  | _ => none }
def FnTorusWrongFalsely : Prop := fnTorusRow.holds Try.pinned (OpenSpec.ofChange fnTorusWrong)

/-- 'laws.FnQuantumDivided': WHATEVER THE INPUT: true; the input reads as it did. -/
def fnQuantumDividedSpec : ChangeSpec := { name := "fnQuantumDivided", fn := fun _ => fun
  | [d] => { results := [.lit (.bool true)], args := [d] }
  | _ => none }
def fnQuantumDividedRow : OpenClaim := { program := "ytocknokodgnlbaa", sum := "7d4b12ddf6de3df112e4d5eb7860f38f887b04aa9e9b659a31cc276d2caa7085", func := "loop.example/g03115/laws.FnQuantumDivided", spec := "fnQuantumDivided", unfollowed := true, recurses := true, plainKeys := false, apart := false }
def FnQuantumDividedSaid : Prop := fnQuantumDividedRow.holds Try.pinned (OpenSpec.ofChange fnQuantumDividedSpec)

/-- ITS FALSE NEIGHBOUR: 'it returns false'. Refute it at one input. -/
def fnQuantumDividedWrong : ChangeSpec := { name := "fnQuantumDivided", fn := fun _ => fun
  | [d] => { results := [.lit (.bool false)], args := [d] }
  | _ => none }
def FnQuantumDividedWrongFalsely : Prop := fnQuantumDividedRow.holds Try.pinned (OpenSpec.ofChange fnQuantumDividedWrong)

/-- 'laws.FnExactDivideQSums': WHATEVER THE INPUT: true; the input reads as it did. -/
def fnExactDivideQSumsSpec : ChangeSpec := { name := "fnExactDivideQSums", fn := fun _ => fun
  | [d1, d2, d3] => { results := [.lit (.bool true)], args := [d1, d2, d3] }
  | _ => none }
def fnExactDivideQSumsRow : OpenClaim := { program := "ytocknokodgnlbaa", sum := "7d4b12ddf6de3df112e4d5eb7860f38f887b04aa9e9b659a31cc276d2caa7085", func := "loop.example/g03115/laws.FnExactDivideQSums", spec := "fnExactDivideQSums", unfollowed := true, recurses := true, plainKeys := false, apart := false }
def FnExactDivideQSumsSaid : Prop := fnExactDivideQSumsRow.holds Try.pinned (OpenSpec.ofChange fnExactDivideQSumsSpec)

/-- ITS FALSE NEIGHBOUR: 'it returns false'. Refute it at one input. -/
def fnExactDivideQSumsWrong : ChangeSpec := { name := "fnExactDivideQSums", fn := fun _ => fun
  | [d1, d2, d3] => { results := [.lit (.bool false)], args := [d1, d2, d3] }
  | _ => none }
def FnExactDivideQSumsWrongFalsely : Prop := fnExactDivideQSumsRow.holds Try.pinned (OpenSpec.ofChange fnExactDivideQSumsWrong)

/-- 'laws.FnExactSomosLaurents': WHATEVER THE INPUT: true; the input reads as it did. -/
def fnExactSomosLaurentsSpec : ChangeSpec := { name := "fnExactSomosLaurents", fn := fun _ => fun
  | [d1, d2] => { results := [.lit (.bool true)], args := [d1, d2] }
  | _ => none }
def fnExactSomosLaurentsRow : OpenClaim := { program := "ytocknokodgnlbaa", sum := "7d4b12ddf6de3df112e4d5eb7860f38f887b04aa9e9b659a31cc276d2caa7085", func := "loop.example/g03115/laws.FnExactSomosLaurents", spec := "fnExactSomosLaurents", unfollowed := true, recurses := true, plainKeys := false, apart := false }
def FnExactSomosLaurentsSaid : Prop := fnExactSomosLaurentsRow.holds Try.pinned (OpenSpec.ofChange fnExactSomosLaurentsSpec)

/-- ITS FALSE NEIGHBOUR: 'it returns false'. Refute it at one input. -/
def fnExactSomosLaurentsWrong : ChangeSpec := { name := "fnExactSomosLaurents", fn := fun _ => fun
  | [d1, d2] => { results := [.lit (.bool false)], args := [d1, d2] }
  | _ => none }
def FnExactSomosLaurentsWrongFalsely : Prop := fnExactSomosLaurentsRow.holds Try.pinned (OpenSpec.ofChange fnExactSomosLaurentsWrong)

/-- 'laws.FnExactRankTwoTerms': WHATEVER THE INPUT: true; the input reads as it did. -/
def fnExactRankTwoTermsSpec : ChangeSpec := { name := "fnExactRankTwoTerms", fn := fun _ => fun
  | [d1, d2, d3] => { results := [.lit (.bool true)], args := [d1, d2, d3] }
  | _ => none }
def fnExactRankTwoTermsRow : OpenClaim := { program := "ytocknokodgnlbaa", sum := "7d4b12ddf6de3df112e4d5eb7860f38f887b04aa9e9b659a31cc276d2caa7085", func := "loop.example/g03115/laws.FnExactRankTwoTerms", spec := "fnExactRankTwoTerms", unfollowed := true, recurses := true, plainKeys := false, apart := false }
def FnExactRankTwoTermsSaid : Prop := fnExactRankTwoTermsRow.holds Try.pinned (OpenSpec.ofChange fnExactRankTwoTermsSpec)

/-- ITS FALSE NEIGHBOUR: 'it returns false'. Refute it at one input. -/
def fnExactRankTwoTermsWrong : ChangeSpec := { name := "fnExactRankTwoTerms", fn := fun _ => fun
  | [d1, d2, d3] => { results := [.lit (.bool false)], args := [d1, d2, d3] }
  | _ => none }
def FnExactRankTwoTermsWrongFalsely : Prop := fnExactRankTwoTermsRow.holds Try.pinned (OpenSpec.ofChange fnExactRankTwoTermsWrong)

/- THE SECOND FORM. 'bulk': how many values and letters a reading holds, each counted each time it is reached (what is shared counts as often as it is met; a slice's spare places count too). A statement '..UptoSaid' is the law's where the arguments, and the package variables that the reading takes, are together of bulk at most 1048576: NARROWER than '..Said'. Prove '..Said' where nothing that the law and all that it calls make is longer than what came in: it says more and counts as full. Else prove '..UptoSaid'. A law counts once. -/
mutual
def uptoBulk {H : Type} : DataW H → Nat
  | .lit (.string bytes) => bytes.length + 1
  | .lit _ => 1
  | .nil => 1
  | .ptr d => uptoBulk d + 1
  | .slice elems spare => uptoBulkAll elems + uptoBulkAll spare + 1
  | .agg parts => uptoBulkAll parts + 1
  | .iface _ d => uptoBulk d + 1
  | .map entries => uptoBulkEntries entries + 1
  | .held _ => 1
def uptoBulkAll {H : Type} : List (DataW H) → Nat
  | [] => 0
  | d :: r => uptoBulk d + uptoBulkAll r
def uptoBulkEntries {H : Type} : List (Lit × DataW H) → Nat
  | [] => 0
  | x :: r => uptoBulkEntry x + uptoBulkEntries r
def uptoBulkEntry {H : Type} : Lit × DataW H → Nat
  | (.string bytes, d) => bytes.length + uptoBulk d + 1
  | (_, d) => uptoBulk d + 1
 end
def uptoSmall : (H : Type) → List (DataW H) → Bool := fun _ ds => decide (uptoBulkAll ds ≤ 1048576)
def OpenSpec.upto (s : _root_.Go.ChangeSpec) : _root_.Go.OpenSpec := { _root_.Go.OpenSpec.ofChange s with cond := some uptoSmall }

/-- 'laws.FnDivided', WHERE WHAT IT READS IS OF BULK AT MOST 1048576: true; the input reads as it did. -/
def fnDividedUptoRow : OpenClaim := { program := "ytocknokodgnlbaa", sum := "7d4b12ddf6de3df112e4d5eb7860f38f887b04aa9e9b659a31cc276d2caa7085", func := "loop.example/g03115/laws.FnDivided", spec := "fnDivided", unfollowed := true, recurses := true, plainKeys := false, apart := false, narrowed := true }
def FnDividedUptoSaid : Prop := fnDividedUptoRow.holds Try.pinned (OpenSpec.upto fnDividedSpec)

/-- 'laws.FnLaurentRing', WHERE WHAT IT READS IS OF BULK AT MOST 1048576: true; the input reads as it did. -/
def fnLaurentRingUptoRow : OpenClaim := { program := "ytocknokodgnlbaa", sum := "7d4b12ddf6de3df112e4d5eb7860f38f887b04aa9e9b659a31cc276d2caa7085", func := "loop.example/g03115/laws.FnLaurentRing", spec := "fnLaurentRing", unfollowed := true, recurses := true, plainKeys := false, apart := false, narrowed := true }
def FnLaurentRingUptoSaid : Prop := fnLaurentRingUptoRow.holds Try.pinned (OpenSpec.upto fnLaurentRingSpec)

/-- 'laws.FnTorus', WHERE WHAT IT READS IS OF BULK AT MOST 1048576: true; the input reads as it did. -/
def fnTorusUptoRow : OpenClaim := { program := "ytocknokodgnlbaa", sum := "7d4b12ddf6de3df112e4d5eb7860f38f887b04aa9e9b659a31cc276d2caa7085", func := "loop.example/g03115/laws.FnTorus", spec := "fnTorus", unfollowed := true, recurses := true, plainKeys := false, apart := false, narrowed := true }
def FnTorusUptoSaid : Prop := fnTorusUptoRow.holds Try.pinned (OpenSpec.upto fnTorusSpec)

/-- 'laws.FnQuantumDivided', WHERE WHAT IT READS IS OF BULK AT MOST 1048576: true; the input reads as it did. -/
def fnQuantumDividedUptoRow : OpenClaim := { program := "ytocknokodgnlbaa", sum := "7d4b12ddf6de3df112e4d5eb7860f38f887b04aa9e9b659a31cc276d2caa7085", func := "loop.example/g03115/laws.FnQuantumDivided", spec := "fnQuantumDivided", unfollowed := true, recurses := true, plainKeys := false, apart := false, narrowed := true }
def FnQuantumDividedUptoSaid : Prop := fnQuantumDividedUptoRow.holds Try.pinned (OpenSpec.upto fnQuantumDividedSpec)

/-- 'laws.FnExactDivideQSums', WHERE WHAT IT READS IS OF BULK AT MOST 1048576: true; the input reads as it did. -/
def fnExactDivideQSumsUptoRow : OpenClaim := { program := "ytocknokodgnlbaa", sum := "7d4b12ddf6de3df112e4d5eb7860f38f887b04aa9e9b659a31cc276d2caa7085", func := "loop.example/g03115/laws.FnExactDivideQSums", spec := "fnExactDivideQSums", unfollowed := true, recurses := true, plainKeys := false, apart := false, narrowed := true }
def FnExactDivideQSumsUptoSaid : Prop := fnExactDivideQSumsUptoRow.holds Try.pinned (OpenSpec.upto fnExactDivideQSumsSpec)

/-- 'laws.FnExactSomosLaurents', WHERE WHAT IT READS IS OF BULK AT MOST 1048576: true; the input reads as it did. -/
def fnExactSomosLaurentsUptoRow : OpenClaim := { program := "ytocknokodgnlbaa", sum := "7d4b12ddf6de3df112e4d5eb7860f38f887b04aa9e9b659a31cc276d2caa7085", func := "loop.example/g03115/laws.FnExactSomosLaurents", spec := "fnExactSomosLaurents", unfollowed := true, recurses := true, plainKeys := false, apart := false, narrowed := true }
def FnExactSomosLaurentsUptoSaid : Prop := fnExactSomosLaurentsUptoRow.holds Try.pinned (OpenSpec.upto fnExactSomosLaurentsSpec)

/-- 'laws.FnExactRankTwoTerms', WHERE WHAT IT READS IS OF BULK AT MOST 1048576: true; the input reads as it did. -/
def fnExactRankTwoTermsUptoRow : OpenClaim := { program := "ytocknokodgnlbaa", sum := "7d4b12ddf6de3df112e4d5eb7860f38f887b04aa9e9b659a31cc276d2caa7085", func := "loop.example/g03115/laws.FnExactRankTwoTerms", spec := "fnExactRankTwoTerms", unfollowed := true, recurses := true, plainKeys := false, apart := false, narrowed := true }
def FnExactRankTwoTermsUptoSaid : Prop := fnExactRankTwoTermsUptoRow.holds Try.pinned (OpenSpec.upto fnExactRankTwoTermsSpec)

end Rows
end Go.Proofs.Ytocknokodgnlbaa
