/-
  No cell of these rows narrows 'for every input' (looked for: loops, veiled, ifaces, maps, wideKeys, modest, calm, conditions, laid).
  DERIVED. THE GIVEN ROWS OF THIS SEAT. 6 by the template 'for every input the law returns true; each argument reads behind the call as it read before'; 0 by the template 'total and deterministic' (their statements: YtbhkonnakkhibaaGreatTotals.lean).
  GIVEN WITH THE SEED: the statements are not yours to turn. If you find one false, say at which input.
  Laid BY PROGRAM, IN A SANDBOX (cutbox-rows.mjs): the forced cells as the released guide's own fill.sh prints them over the translation aff2799758e4840f… (all of the seat's roots in one cut). By AI agents, Wed Nov 11 2026. No macro, syntax, notation, axiom, sorry.
-/
import Derived.Test.YtbhkonnakkhibaaGreatChecked
import GoSem.Claim
import GoSem.ClaimJoined
import GoSem.ClaimMapViews
import Derived.JoinedTies
import Derived.KernelRfl
namespace Go.Proofs.YtbhkonnakkhibaaGreat
/- THE CELL 'sum', in the pinned program and in every row, IS THE sha256 OF THE DUMP (.gsa) THAT YtbhkonnakkhibaaGreatProg.lean LOADS. Nothing in Lean hashes anything: it is a label: what it is worth is what the hold of that sum in a sandbox is worth. -/
noncomputable def Tryz.pinned : Pinned := { name := "ytbhkonnakkhibaagreat", sum := "aff2799758e4840f52c17473ad1b1a8b6ef2d3254a0fd9ef7bb39a533fd521fd", checked := Tryz.checked }
namespace Rows
def none {H : Type} : Left H := { results := [], args := [] }

/-- 'laws.FnExactFPolynomialsOf': WHATEVER THE INPUT: true; the input reads as it did. -/
def fnExactFPolynomialsOfSpec : ChangeSpec := { name := "fnExactFPolynomialsOf", fn := fun _ => fun
  | [d1, d2] => { results := [.lit (.bool true)], args := [d1, d2] }
  | _ => none }
def fnExactFPolynomialsOfRow : OpenClaim := { program := "ytbhkonnakkhibaagreat", sum := "aff2799758e4840f52c17473ad1b1a8b6ef2d3254a0fd9ef7bb39a533fd521fd", func := "loop.example/g03115/laws.FnExactFPolynomialsOf", spec := "fnExactFPolynomialsOf", unfollowed := true, recurses := true, plainKeys := false, apart := false }
def FnExactFPolynomialsOfSaid : Prop := fnExactFPolynomialsOfRow.holds Tryz.pinned (OpenSpec.ofChange fnExactFPolynomialsOfSpec)

/-- ITS FALSE NEIGHBOUR: 'it returns false'. Refute it at one input. -/
def fnExactFPolynomialsOfWrong : ChangeSpec := { name := "fnExactFPolynomialsOf", fn := fun _ => fun
  | [d1, d2] => { results := [.lit (.bool false)], args := [d1, d2] }
  | _ => none }
def FnExactFPolynomialsOfWrongFalsely : Prop := fnExactFPolynomialsOfRow.holds Tryz.pinned (OpenSpec.ofChange fnExactFPolynomialsOfWrong)

/-- 'laws.FnSeedsBack': WHATEVER THE INPUT: true; the input reads as it did. -/
def fnSeedsBackSpec : ChangeSpec := { name := "fnSeedsBack", fn := fun _ => fun
  | [d] => { results := [.lit (.bool true)], args := [d] }
  | _ => none }
def fnSeedsBackRow : OpenClaim := { program := "ytbhkonnakkhibaagreat", sum := "aff2799758e4840f52c17473ad1b1a8b6ef2d3254a0fd9ef7bb39a533fd521fd", func := "loop.example/g03115/laws.FnSeedsBack", spec := "fnSeedsBack", unfollowed := true, recurses := true, plainKeys := false, apart := false }
def FnSeedsBackSaid : Prop := fnSeedsBackRow.holds Tryz.pinned (OpenSpec.ofChange fnSeedsBackSpec)

/-- ITS FALSE NEIGHBOUR: 'it returns false'. Refute it at one input. -/
def fnSeedsBackWrong : ChangeSpec := { name := "fnSeedsBack", fn := fun _ => fun
  | [d] => { results := [.lit (.bool false)], args := [d] }
  | _ => none }
def FnSeedsBackWrongFalsely : Prop := fnSeedsBackRow.holds Tryz.pinned (OpenSpec.ofChange fnSeedsBackWrong)

/-- 'laws.FnExactSeparatedOf': WHATEVER THE INPUT: true; the input reads as it did. -/
def fnExactSeparatedOfSpec : ChangeSpec := { name := "fnExactSeparatedOf", fn := fun _ => fun
  | [d1, d2] => { results := [.lit (.bool true)], args := [d1, d2] }
  | _ => none }
def fnExactSeparatedOfRow : OpenClaim := { program := "ytbhkonnakkhibaagreat", sum := "aff2799758e4840f52c17473ad1b1a8b6ef2d3254a0fd9ef7bb39a533fd521fd", func := "loop.example/g03115/laws.FnExactSeparatedOf", spec := "fnExactSeparatedOf", unfollowed := true, recurses := true, plainKeys := false, apart := false }
def FnExactSeparatedOfSaid : Prop := fnExactSeparatedOfRow.holds Tryz.pinned (OpenSpec.ofChange fnExactSeparatedOfSpec)

/-- ITS FALSE NEIGHBOUR: 'it returns false'. Refute it at one input. -/
def fnExactSeparatedOfWrong : ChangeSpec := { name := "fnExactSeparatedOf", fn := fun _ => fun
  | [d1, d2] => { results := [.lit (.bool false)], args := [d1, d2] }
  | _ => none }
def FnExactSeparatedOfWrongFalsely : Prop := fnExactSeparatedOfRow.holds Tryz.pinned (OpenSpec.ofChange fnExactSeparatedOfWrong)

/-- 'laws.FnExactSessionOk': WHATEVER THE INPUT: true; the input reads as it did. -/
def fnExactSessionOkSpec : ChangeSpec := { name := "fnExactSessionOk", fn := fun _ => fun
  | [d] => { results := [.lit (.bool true)], args := [d] }
  | _ => none }
def fnExactSessionOkRow : OpenClaim := { program := "ytbhkonnakkhibaagreat", sum := "aff2799758e4840f52c17473ad1b1a8b6ef2d3254a0fd9ef7bb39a533fd521fd", func := "loop.example/g03115/laws.FnExactSessionOk", spec := "fnExactSessionOk", unfollowed := true, recurses := true, plainKeys := false, apart := false }
def FnExactSessionOkSaid : Prop := fnExactSessionOkRow.holds Tryz.pinned (OpenSpec.ofChange fnExactSessionOkSpec)

/-- ITS FALSE NEIGHBOUR: 'it returns false'. Refute it at one input. -/
def fnExactSessionOkWrong : ChangeSpec := { name := "fnExactSessionOk", fn := fun _ => fun
  | [d] => { results := [.lit (.bool false)], args := [d] }
  | _ => none }
def FnExactSessionOkWrongFalsely : Prop := fnExactSessionOkRow.holds Tryz.pinned (OpenSpec.ofChange fnExactSessionOkWrong)

/-- 'laws.FnExactQuantumVariables': WHATEVER THE INPUT: true; the input reads as it did. -/
def fnExactQuantumVariablesSpec : ChangeSpec := { name := "fnExactQuantumVariables", fn := fun _ => fun
  | [d1, d2] => { results := [.lit (.bool true)], args := [d1, d2] }
  | _ => none }
def fnExactQuantumVariablesRow : OpenClaim := { program := "ytbhkonnakkhibaagreat", sum := "aff2799758e4840f52c17473ad1b1a8b6ef2d3254a0fd9ef7bb39a533fd521fd", func := "loop.example/g03115/laws.FnExactQuantumVariables", spec := "fnExactQuantumVariables", unfollowed := true, recurses := true, plainKeys := false, apart := false }
def FnExactQuantumVariablesSaid : Prop := fnExactQuantumVariablesRow.holds Tryz.pinned (OpenSpec.ofChange fnExactQuantumVariablesSpec)

/-- ITS FALSE NEIGHBOUR: 'it returns false'. Refute it at one input. -/
def fnExactQuantumVariablesWrong : ChangeSpec := { name := "fnExactQuantumVariables", fn := fun _ => fun
  | [d1, d2] => { results := [.lit (.bool false)], args := [d1, d2] }
  | _ => none }
def FnExactQuantumVariablesWrongFalsely : Prop := fnExactQuantumVariablesRow.holds Tryz.pinned (OpenSpec.ofChange fnExactQuantumVariablesWrong)

/-- 'laws.FnSomos': WHATEVER THE INPUT: true; the input reads as it did. -/
def fnSomosSpec : ChangeSpec := { name := "fnSomos", fn := fun _ => fun
  | [d] => { results := [.lit (.bool true)], args := [d] }
  | _ => none }
def fnSomosRow : OpenClaim := { program := "ytbhkonnakkhibaagreat", sum := "aff2799758e4840f52c17473ad1b1a8b6ef2d3254a0fd9ef7bb39a533fd521fd", func := "loop.example/g03115/laws.FnSomos", spec := "fnSomos", unfollowed := true, recurses := true, plainKeys := false, apart := false }
def FnSomosSaid : Prop := fnSomosRow.holds Tryz.pinned (OpenSpec.ofChange fnSomosSpec)

/-- ITS FALSE NEIGHBOUR: 'it returns false'. Refute it at one input. -/
def fnSomosWrong : ChangeSpec := { name := "fnSomos", fn := fun _ => fun
  | [d] => { results := [.lit (.bool false)], args := [d] }
  | _ => none }
def FnSomosWrongFalsely : Prop := fnSomosRow.holds Tryz.pinned (OpenSpec.ofChange fnSomosWrong)

/- THE SECOND FORM. 'bulk': how many values and letters a reading holds, each counted each time it is reached (what is shared counts as often as it is met; a slice's spare places count too). A statement '..UptoSaid' is the law's where the arguments, and the package variables that the reading takes, are together of bulk at most 1048576: NARROWER than '..Said'. Prove '..Said' where nothing that the law and all that it calls make is longer than what came in: it says more and counts as full. Else prove '..UptoSaid'. A law counts once. -/
mutual
def uptoBulk {H : Type} : DataW H → Nat
  | .lit (.string bytes) => bytes.length + 1
  | .lit _ => 1
  | .nil => 1
  | .ptr d => uptoBulk d + 1
  | .slice elems spare => uptoBulkAll elems + uptoBulkAll spare + 1
  | .agg parts => uptoBulkAll parts + 1
  | .iface _ d => uptoBulk d + 1
  | .map entries => uptoBulkEntries entries + 1
  | .held _ => 1
def uptoBulkAll {H : Type} : List (DataW H) → Nat
  | [] => 0
  | d :: r => uptoBulk d + uptoBulkAll r
def uptoBulkEntries {H : Type} : List (Lit × DataW H) → Nat
  | [] => 0
  | x :: r => uptoBulkEntry x + uptoBulkEntries r
def uptoBulkEntry {H : Type} : Lit × DataW H → Nat
  | (.string bytes, d) => bytes.length + uptoBulk d + 1
  | (_, d) => uptoBulk d + 1
 end
def uptoSmall : (H : Type) → List (DataW H) → Bool := fun _ ds => decide (uptoBulkAll ds ≤ 1048576)
def OpenSpec.upto (s : _root_.Go.ChangeSpec) : _root_.Go.OpenSpec := { _root_.Go.OpenSpec.ofChange s with cond := some uptoSmall }

/-- 'laws.FnExactFPolynomialsOf', WHERE WHAT IT READS IS OF BULK AT MOST 1048576: true; the input reads as it did. -/
def fnExactFPolynomialsOfUptoRow : OpenClaim := { program := "ytbhkonnakkhibaagreat", sum := "aff2799758e4840f52c17473ad1b1a8b6ef2d3254a0fd9ef7bb39a533fd521fd", func := "loop.example/g03115/laws.FnExactFPolynomialsOf", spec := "fnExactFPolynomialsOf", unfollowed := true, recurses := true, plainKeys := false, apart := false, narrowed := true }
def FnExactFPolynomialsOfUptoSaid : Prop := fnExactFPolynomialsOfUptoRow.holds Tryz.pinned (OpenSpec.upto fnExactFPolynomialsOfSpec)

/-- 'laws.FnSeedsBack', WHERE WHAT IT READS IS OF BULK AT MOST 1048576: true; the input reads as it did. -/
def fnSeedsBackUptoRow : OpenClaim := { program := "ytbhkonnakkhibaagreat", sum := "aff2799758e4840f52c17473ad1b1a8b6ef2d3254a0fd9ef7bb39a533fd521fd", func := "loop.example/g03115/laws.FnSeedsBack", spec := "fnSeedsBack", unfollowed := true, recurses := true, plainKeys := false, apart := false, narrowed := true }
def FnSeedsBackUptoSaid : Prop := fnSeedsBackUptoRow.holds Tryz.pinned (OpenSpec.upto fnSeedsBackSpec)

/-- 'laws.FnExactSeparatedOf', WHERE WHAT IT READS IS OF BULK AT MOST 1048576: true; the input reads as it did. -/
def fnExactSeparatedOfUptoRow : OpenClaim := { program := "ytbhkonnakkhibaagreat", sum := "aff2799758e4840f52c17473ad1b1a8b6ef2d3254a0fd9ef7bb39a533fd521fd", func := "loop.example/g03115/laws.FnExactSeparatedOf", spec := "fnExactSeparatedOf", unfollowed := true, recurses := true, plainKeys := false, apart := false, narrowed := true }
def FnExactSeparatedOfUptoSaid : Prop := fnExactSeparatedOfUptoRow.holds Tryz.pinned (OpenSpec.upto fnExactSeparatedOfSpec)

/-- 'laws.FnExactSessionOk', WHERE WHAT IT READS IS OF BULK AT MOST 1048576: true; the input reads as it did. -/
def fnExactSessionOkUptoRow : OpenClaim := { program := "ytbhkonnakkhibaagreat", sum := "aff2799758e4840f52c17473ad1b1a8b6ef2d3254a0fd9ef7bb39a533fd521fd", func := "loop.example/g03115/laws.FnExactSessionOk", spec := "fnExactSessionOk", unfollowed := true, recurses := true, plainKeys := false, apart := false, narrowed := true }
def FnExactSessionOkUptoSaid : Prop := fnExactSessionOkUptoRow.holds Tryz.pinned (OpenSpec.upto fnExactSessionOkSpec)

/-- 'laws.FnExactQuantumVariables', WHERE WHAT IT READS IS OF BULK AT MOST 1048576: true; the input reads as it did. -/
def fnExactQuantumVariablesUptoRow : OpenClaim := { program := "ytbhkonnakkhibaagreat", sum := "aff2799758e4840f52c17473ad1b1a8b6ef2d3254a0fd9ef7bb39a533fd521fd", func := "loop.example/g03115/laws.FnExactQuantumVariables", spec := "fnExactQuantumVariables", unfollowed := true, recurses := true, plainKeys := false, apart := false, narrowed := true }
def FnExactQuantumVariablesUptoSaid : Prop := fnExactQuantumVariablesUptoRow.holds Tryz.pinned (OpenSpec.upto fnExactQuantumVariablesSpec)

/-- 'laws.FnSomos', WHERE WHAT IT READS IS OF BULK AT MOST 1048576: true; the input reads as it did. -/
def fnSomosUptoRow : OpenClaim := { program := "ytbhkonnakkhibaagreat", sum := "aff2799758e4840f52c17473ad1b1a8b6ef2d3254a0fd9ef7bb39a533fd521fd", func := "loop.example/g03115/laws.FnSomos", spec := "fnSomos", unfollowed := true, recurses := true, plainKeys := false, apart := false, narrowed := true }
def FnSomosUptoSaid : Prop := fnSomosUptoRow.holds Tryz.pinned (OpenSpec.upto fnSomosSpec)

end Rows
end Go.Proofs.YtbhkonnakkhibaaGreat
