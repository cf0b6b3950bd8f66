/-
  No cell of these rows narrows 'for every input' (looked for: loops, veiled, ifaces, maps, wideKeys, modest, calm, conditions, laid).
  DERIVED. THE GIVEN ROWS OF THIS SEAT. 3 by the template 'for every input the law returns true; each argument reads behind the call as it read before'; 0 by the template 'total and deterministic' (their statements: YtiemmejpaahbpaaTotals.lean).
  GIVEN WITH THE SEED: the statements are not yours to turn. If you find one false, say at which input.
  Laid BY PROGRAM, IN A SANDBOX (cutbox-rows.mjs): the forced cells as the released guide's own fill.sh prints them over the translation f64e4c7128c11e30… (all of the seat's roots in one cut). By AI agents, Wed Nov 11 2026. No macro, syntax, notation, axiom, sorry.
-/
import Derived.Test.YtiemmejpaahbpaaChecked
import GoSem.Claim
import GoSem.ClaimJoined
import GoSem.ClaimMapViews
import Derived.JoinedTies
import Derived.KernelRfl
namespace Go.Proofs.Ytiemmejpaahbpaa
/- THE CELL 'sum', in the pinned program and in every row, IS THE sha256 OF THE DUMP (.gsa) THAT YtiemmejpaahbpaaProg.lean LOADS. Nothing in Lean hashes anything: it is a label: what it is worth is what the hold of that sum in a sandbox is worth. -/
noncomputable def Try.pinned : Pinned := { name := "ytiemmejpaahbpaa", sum := "f64e4c7128c11e3076c3a4bdeafacff17c948a2e84a1ebb004d910378ba11bcb", checked := Try.checked }
namespace Rows
def none {H : Type} : Left H := { results := [], args := [] }

/-- 'routinglaw34.ExternalOrder': WHATEVER THE INPUT: true; the input reads as it did. -/
def externalOrderSpec : ChangeSpec := { name := "externalOrder", fn := fun _ => fun
  | [d1, d2, d3] => { results := [.lit (.bool true)], args := [d1, d2, d3] }
  | _ => none }
def externalOrderRow : OpenClaim := { program := "ytiemmejpaahbpaa", sum := "f64e4c7128c11e3076c3a4bdeafacff17c948a2e84a1ebb004d910378ba11bcb", func := "routing/routinglaw34.ExternalOrder", spec := "externalOrder", unfollowed := true, recurses := true, plainKeys := false, apart := false }
def ExternalOrderSaid : Prop := externalOrderRow.holds Try.pinned (OpenSpec.ofChange externalOrderSpec)

/-- ITS FALSE NEIGHBOUR: 'it returns false'. Refute it at one input. -/
def externalOrderWrong : ChangeSpec := { name := "externalOrder", fn := fun _ => fun
  | [d1, d2, d3] => { results := [.lit (.bool false)], args := [d1, d2, d3] }
  | _ => none }
def ExternalOrderWrongFalsely : Prop := externalOrderRow.holds Try.pinned (OpenSpec.ofChange externalOrderWrong)

/-- 'routinglaw34.ExternalReachable': WHATEVER THE INPUT: true; the input reads as it did. -/
def externalReachableSpec : ChangeSpec := { name := "externalReachable", fn := fun _ => fun
  | [d1, d2, d3, d4] => { results := [.lit (.bool true)], args := [d1, d2, d3, d4] }
  | _ => none }
def externalReachableRow : OpenClaim := { program := "ytiemmejpaahbpaa", sum := "f64e4c7128c11e3076c3a4bdeafacff17c948a2e84a1ebb004d910378ba11bcb", func := "routing/routinglaw34.ExternalReachable", spec := "externalReachable", unfollowed := true, recurses := true, plainKeys := false, apart := false }
def ExternalReachableSaid : Prop := externalReachableRow.holds Try.pinned (OpenSpec.ofChange externalReachableSpec)

/-- ITS FALSE NEIGHBOUR: 'it returns false'. Refute it at one input. -/
def externalReachableWrong : ChangeSpec := { name := "externalReachable", fn := fun _ => fun
  | [d1, d2, d3, d4] => { results := [.lit (.bool false)], args := [d1, d2, d3, d4] }
  | _ => none }
def ExternalReachableWrongFalsely : Prop := externalReachableRow.holds Try.pinned (OpenSpec.ofChange externalReachableWrong)

/-- 'routinglaw34.ExternalChecks': WHATEVER THE INPUT: true; the input reads as it did. -/
def externalChecksSpec : ChangeSpec := { name := "externalChecks", fn := fun _ => fun
  | [d] => { results := [.lit (.bool true)], args := [d] }
  | _ => none }
def externalChecksRow : OpenClaim := { program := "ytiemmejpaahbpaa", sum := "f64e4c7128c11e3076c3a4bdeafacff17c948a2e84a1ebb004d910378ba11bcb", func := "routing/routinglaw34.ExternalChecks", spec := "externalChecks", unfollowed := true, recurses := true, plainKeys := false, apart := false }
def ExternalChecksSaid : Prop := externalChecksRow.holds Try.pinned (OpenSpec.ofChange externalChecksSpec)

/-- ITS FALSE NEIGHBOUR: 'it returns false'. Refute it at one input. -/
def externalChecksWrong : ChangeSpec := { name := "externalChecks", fn := fun _ => fun
  | [d] => { results := [.lit (.bool false)], args := [d] }
  | _ => none }
def ExternalChecksWrongFalsely : Prop := externalChecksRow.holds Try.pinned (OpenSpec.ofChange externalChecksWrong)

/- THE SECOND FORM. 'bulk': how many values and letters a reading holds, each counted each time it is reached (what is shared counts as often as it is met; a slice's spare places count too). A statement '..UptoSaid' is the law's where the arguments, and the package variables that the reading takes, are together of bulk at most 1048576: NARROWER than '..Said'. Prove '..Said' where nothing that the law and all that it calls make is longer than what came in: it says more and counts as full. Else prove '..UptoSaid'. A law counts once. -/
mutual
def uptoBulk {H : Type} : DataW H → Nat
  | .lit (.string bytes) => bytes.length + 1
  | .lit _ => 1
  | .nil => 1
  | .ptr d => uptoBulk d + 1
  | .slice elems spare => uptoBulkAll elems + uptoBulkAll spare + 1
  | .agg parts => uptoBulkAll parts + 1
  | .iface _ d => uptoBulk d + 1
  | .map entries => uptoBulkEntries entries + 1
  | .held _ => 1
def uptoBulkAll {H : Type} : List (DataW H) → Nat
  | [] => 0
  | d :: r => uptoBulk d + uptoBulkAll r
def uptoBulkEntries {H : Type} : List (Lit × DataW H) → Nat
  | [] => 0
  | x :: r => uptoBulkEntry x + uptoBulkEntries r
def uptoBulkEntry {H : Type} : Lit × DataW H → Nat
  | (.string bytes, d) => bytes.length + uptoBulk d + 1
  | (_, d) => uptoBulk d + 1
 end
def uptoSmall : (H : Type) → List (DataW H) → Bool := fun _ ds => decide (uptoBulkAll ds ≤ 1048576)
def OpenSpec.upto (s : _root_.Go.ChangeSpec) : _root_.Go.OpenSpec := { _root_.Go.OpenSpec.ofChange s with cond := some uptoSmall }

/-- 'routinglaw34.ExternalOrder', WHERE WHAT IT READS IS OF BULK AT MOST 1048576: true; the input reads as it did. -/
def externalOrderUptoRow : OpenClaim := { program := "ytiemmejpaahbpaa", sum := "f64e4c7128c11e3076c3a4bdeafacff17c948a2e84a1ebb004d910378ba11bcb", func := "routing/routinglaw34.ExternalOrder", spec := "externalOrder", unfollowed := true, recurses := true, plainKeys := false, apart := false, narrowed := true }
def ExternalOrderUptoSaid : Prop := externalOrderUptoRow.holds Try.pinned (OpenSpec.upto externalOrderSpec)

/-- 'routinglaw34.ExternalReachable', WHERE WHAT IT READS IS OF BULK AT MOST 1048576: true; the input reads as it did. -/
def externalReachableUptoRow : OpenClaim := { program := "ytiemmejpaahbpaa", sum := "f64e4c7128c11e3076c3a4bdeafacff17c948a2e84a1ebb004d910378ba11bcb", func := "routing/routinglaw34.ExternalReachable", spec := "externalReachable", unfollowed := true, recurses := true, plainKeys := false, apart := false, narrowed := true }
def ExternalReachableUptoSaid : Prop := externalReachableUptoRow.holds Try.pinned (OpenSpec.upto externalReachableSpec)

/-- 'routinglaw34.ExternalChecks', WHERE WHAT IT READS IS OF BULK AT MOST 1048576: true; the input reads as it did. -/
def externalChecksUptoRow : OpenClaim := { program := "ytiemmejpaahbpaa", sum := "f64e4c7128c11e3076c3a4bdeafacff17c948a2e84a1ebb004d910378ba11bcb", func := "routing/routinglaw34.ExternalChecks", spec := "externalChecks", unfollowed := true, recurses := true, plainKeys := false, apart := false, narrowed := true }
def ExternalChecksUptoSaid : Prop := externalChecksUptoRow.holds Try.pinned (OpenSpec.upto externalChecksSpec)

end Rows
end Go.Proofs.Ytiemmejpaahbpaa
