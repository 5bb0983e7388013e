/-
  No cell of these rows narrows 'for every input' (looked for: loops, veiled, ifaces, maps, wideKeys, modest, calm, conditions, laid).
  DERIVED. THE GIVEN ROWS OF THIS SEAT. 3 by the template 'for every input the law returns true; each argument reads behind the call as it read before'; 0 by the template 'total and deterministic' (their statements: YtibmaeckmnkmjaaTotals.lean).
  GIVEN WITH THE SEED: the statements are not yours to turn. If you find one false, say at which input.
  Laid BY PROGRAM, IN A SANDBOX (cutbox-rows.mjs): the forced cells as the released guide's own fill.sh prints them over the translation a8fc037ee91552ec… (all of the seat's roots in one cut). By AI agents, Wed Nov 11 2026. No macro, syntax, notation, axiom, sorry.
-/
import Derived.Test.YtibmaeckmnkmjaaChecked
import GoSem.Claim
import GoSem.ClaimJoined
import GoSem.ClaimMapViews
import Derived.JoinedTies
import Derived.KernelRfl
namespace Go.Proofs.Ytibmaeckmnkmjaa
/- THE CELL 'sum', in the pinned program and in every row, IS THE sha256 OF THE DUMP (.gsa) THAT YtibmaeckmnkmjaaProg.lean LOADS. Nothing in Lean hashes anything: it is a label: what it is worth is what the hold of that sum in a sandbox is worth. -/
noncomputable def Try.pinned : Pinned := { name := "ytibmaeckmnkmjaa", sum := "a8fc037ee91552ec2e0c10d6d6b6a4f7cc5f05ab037884ddc97f8ec122ebe6e4", checked := Try.checked }
namespace Rows
def none {H : Type} : Left H := { results := [], args := [] }

/-- 'rookerylaw12.CommandTells': WHATEVER THE INPUT: true; the input reads as it did. -/
def commandTellsSpec : ChangeSpec := { name := "commandTells", fn := fun _ => fun
  | [d] => { results := [.lit (.bool true)], args := [d] }
  | _ => none }
def commandTellsRow : OpenClaim := { program := "ytibmaeckmnkmjaa", sum := "a8fc037ee91552ec2e0c10d6d6b6a4f7cc5f05ab037884ddc97f8ec122ebe6e4", func := "rookery/rookerylaw12.CommandTells", spec := "commandTells", inPlace := ["internal/abi.NoEscape"], recurses := true, apart := false }
def CommandTellsSaid : Prop := commandTellsRow.holds Try.pinned (OpenSpec.ofChange commandTellsSpec)

/-- ITS FALSE NEIGHBOUR: 'it returns false'. Refute it at one input. -/
def commandTellsWrong : ChangeSpec := { name := "commandTells", fn := fun _ => fun
  | [d] => { results := [.lit (.bool false)], args := [d] }
  | _ => none }
def CommandTellsWrongFalsely : Prop := commandTellsRow.holds Try.pinned (OpenSpec.ofChange commandTellsWrong)

/-- 'rookerylaw12.CommandAsks': WHATEVER THE INPUT: true; the input reads as it did. -/
def commandAsksSpec : ChangeSpec := { name := "commandAsks", fn := fun _ => fun
  | [d1, d2, d3] => { results := [.lit (.bool true)], args := [d1, d2, d3] }
  | _ => none }
def commandAsksRow : OpenClaim := { program := "ytibmaeckmnkmjaa", sum := "a8fc037ee91552ec2e0c10d6d6b6a4f7cc5f05ab037884ddc97f8ec122ebe6e4", func := "rookery/rookerylaw12.CommandAsks", spec := "commandAsks", inPlace := ["internal/abi.NoEscape"], recurses := true, apart := false }
def CommandAsksSaid : Prop := commandAsksRow.holds Try.pinned (OpenSpec.ofChange commandAsksSpec)

/-- ITS FALSE NEIGHBOUR: 'it returns false'. Refute it at one input. -/
def commandAsksWrong : ChangeSpec := { name := "commandAsks", fn := fun _ => fun
  | [d1, d2, d3] => { results := [.lit (.bool false)], args := [d1, d2, d3] }
  | _ => none }
def CommandAsksWrongFalsely : Prop := commandAsksRow.holds Try.pinned (OpenSpec.ofChange commandAsksWrong)

/-- 'rookerylaw12.CommandKinds': WHATEVER THE INPUT: true; the input reads as it did. -/
def commandKindsSpec : ChangeSpec := { name := "commandKinds", fn := fun _ => fun
  | [d] => { results := [.lit (.bool true)], args := [d] }
  | _ => none }
def commandKindsRow : OpenClaim := { program := "ytibmaeckmnkmjaa", sum := "a8fc037ee91552ec2e0c10d6d6b6a4f7cc5f05ab037884ddc97f8ec122ebe6e4", func := "rookery/rookerylaw12.CommandKinds", spec := "commandKinds", inPlace := ["internal/abi.NoEscape"], recurses := true, apart := false }
def CommandKindsSaid : Prop := commandKindsRow.holds Try.pinned (OpenSpec.ofChange commandKindsSpec)

/-- ITS FALSE NEIGHBOUR: 'it returns false'. Refute it at one input. -/
def commandKindsWrong : ChangeSpec := { name := "commandKinds", fn := fun _ => fun
  | [d] => { results := [.lit (.bool false)], args := [d] }
  | _ => none }
def CommandKindsWrongFalsely : Prop := commandKindsRow.holds Try.pinned (OpenSpec.ofChange commandKindsWrong)

/- THE SECOND FORM. 'bulk': how many values and letters a reading holds, each counted each time it is reached (what is shared counts as often as it is met; a slice's spare places count too). A statement '..UptoSaid' is the law's where the arguments, and the package variables that the reading takes, are together of bulk at most 1048576: NARROWER than '..Said'. Prove '..Said' where nothing that the law and all that it calls make is longer than what came in: it says more and counts as full. Else prove '..UptoSaid'. A law counts once. -/
mutual
def uptoBulk {H : Type} : DataW H → Nat
  | .lit (.string bytes) => bytes.length + 1
  | .lit _ => 1
  | .nil => 1
  | .ptr d => uptoBulk d + 1
  | .slice elems spare => uptoBulkAll elems + uptoBulkAll spare + 1
  | .agg parts => uptoBulkAll parts + 1
  | .iface _ d => uptoBulk d + 1
  | .map entries => uptoBulkEntries entries + 1
  | .held _ => 1
def uptoBulkAll {H : Type} : List (DataW H) → Nat
  | [] => 0
  | d :: r => uptoBulk d + uptoBulkAll r
def uptoBulkEntries {H : Type} : List (Lit × DataW H) → Nat
  | [] => 0
  | x :: r => uptoBulkEntry x + uptoBulkEntries r
def uptoBulkEntry {H : Type} : Lit × DataW H → Nat
  | (.string bytes, d) => bytes.length + uptoBulk d + 1
  | (_, d) => uptoBulk d + 1
 end
def uptoSmall : (H : Type) → List (DataW H) → Bool := fun _ ds => decide (uptoBulkAll ds ≤ 1048576)
def OpenSpec.upto (s : _root_.Go.ChangeSpec) : _root_.Go.OpenSpec := { _root_.Go.OpenSpec.ofChange s with cond := some uptoSmall }

/-- 'rookerylaw12.CommandTells', WHERE WHAT IT READS IS OF BULK AT MOST 1048576: true; the input reads as it did. -/
def commandTellsUptoRow : OpenClaim := { program := "ytibmaeckmnkmjaa", sum := "a8fc037ee91552ec2e0c10d6d6b6a4f7cc5f05ab037884ddc97f8ec122ebe6e4", func := "rookery/rookerylaw12.CommandTells", spec := "commandTells", inPlace := ["internal/abi.NoEscape"], recurses := true, apart := false, narrowed := true }
def CommandTellsUptoSaid : Prop := commandTellsUptoRow.holds Try.pinned (OpenSpec.upto commandTellsSpec)

/-- 'rookerylaw12.CommandAsks', WHERE WHAT IT READS IS OF BULK AT MOST 1048576: true; the input reads as it did. -/
def commandAsksUptoRow : OpenClaim := { program := "ytibmaeckmnkmjaa", sum := "a8fc037ee91552ec2e0c10d6d6b6a4f7cc5f05ab037884ddc97f8ec122ebe6e4", func := "rookery/rookerylaw12.CommandAsks", spec := "commandAsks", inPlace := ["internal/abi.NoEscape"], recurses := true, apart := false, narrowed := true }
def CommandAsksUptoSaid : Prop := commandAsksUptoRow.holds Try.pinned (OpenSpec.upto commandAsksSpec)

/-- 'rookerylaw12.CommandKinds', WHERE WHAT IT READS IS OF BULK AT MOST 1048576: true; the input reads as it did. -/
def commandKindsUptoRow : OpenClaim := { program := "ytibmaeckmnkmjaa", sum := "a8fc037ee91552ec2e0c10d6d6b6a4f7cc5f05ab037884ddc97f8ec122ebe6e4", func := "rookery/rookerylaw12.CommandKinds", spec := "commandKinds", inPlace := ["internal/abi.NoEscape"], recurses := true, apart := false, narrowed := true }
def CommandKindsUptoSaid : Prop := commandKindsUptoRow.holds Try.pinned (OpenSpec.upto commandKindsSpec)

end Rows
end Go.Proofs.Ytibmaeckmnkmjaa
