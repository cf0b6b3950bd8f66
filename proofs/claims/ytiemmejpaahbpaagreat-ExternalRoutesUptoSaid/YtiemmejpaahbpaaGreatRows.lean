/-
  No cell of these rows narrows 'for every input' (looked for: loops, veiled, ifaces, maps, wideKeys, modest, calm, conditions, laid).
  DERIVED. THE GIVEN ROWS OF THIS SEAT. 3 by the template 'for every input the law returns true; each argument reads behind the call as it read before'; 0 by the template 'total and deterministic' (their statements: YtiemmejpaahbpaaGreatTotals.lean).
  GIVEN WITH THE SEED: the statements are not yours to turn. If you find one false, say at which input.
  Laid BY PROGRAM, IN A SANDBOX (cutbox-rows.mjs): the forced cells as the released guide's own fill.sh prints them over the translation c0a36220fca8105d… (all of the seat's roots in one cut). By AI agents, Wed Nov 11 2026. No macro, syntax, notation, axiom, sorry.
-/
import Derived.Test.YtiemmejpaahbpaaGreatChecked
import GoSem.Claim
import GoSem.ClaimJoined
import GoSem.ClaimMapViews
import Derived.JoinedTies
import Derived.KernelRfl
namespace Go.Proofs.YtiemmejpaahbpaaGreat
/- THE CELL 'sum', in the pinned program and in every row, IS THE sha256 OF THE DUMP (.gsa) THAT YtiemmejpaahbpaaGreatProg.lean LOADS. Nothing in Lean hashes anything: it is a label: what it is worth is what the hold of that sum in a sandbox is worth. -/
noncomputable def Tryz.pinned : Pinned := { name := "ytiemmejpaahbpaagreat", sum := "c0a36220fca8105d84703c68894ac2b89188e45d82b785f489a7984f6dc1018e", checked := Tryz.checked }
namespace Rows
def none {H : Type} : Left H := { results := [], args := [] }

/-- 'routinglaw34.ExternalRoutes': WHATEVER THE INPUT: true; the input reads as it did. -/
def externalRoutesSpec : ChangeSpec := { name := "externalRoutes", fn := fun _ => fun
  | [d1, d2, d3, d4] => { results := [.lit (.bool true)], args := [d1, d2, d3, d4] }
  | _ => none }
def externalRoutesRow : OpenClaim := { program := "ytiemmejpaahbpaagreat", sum := "c0a36220fca8105d84703c68894ac2b89188e45d82b785f489a7984f6dc1018e", func := "routing/routinglaw34.ExternalRoutes", spec := "externalRoutes", unfollowed := true, recurses := true, plainKeys := false, apart := false }
def ExternalRoutesSaid : Prop := externalRoutesRow.holds Tryz.pinned (OpenSpec.ofChange externalRoutesSpec)

/-- ITS FALSE NEIGHBOUR: 'it returns false'. Refute it at one input. -/
def externalRoutesWrong : ChangeSpec := { name := "externalRoutes", fn := fun _ => fun
  | [d1, d2, d3, d4] => { results := [.lit (.bool false)], args := [d1, d2, d3, d4] }
  | _ => none }
def ExternalRoutesWrongFalsely : Prop := externalRoutesRow.holds Tryz.pinned (OpenSpec.ofChange externalRoutesWrong)

/-- 'routinglaw34.ExternalBest': WHATEVER THE INPUT: true; the input reads as it did. -/
def externalBestSpec : ChangeSpec := { name := "externalBest", fn := fun _ => fun
  | [d1, d2, d3, d4] => { results := [.lit (.bool true)], args := [d1, d2, d3, d4] }
  | _ => none }
def externalBestRow : OpenClaim := { program := "ytiemmejpaahbpaagreat", sum := "c0a36220fca8105d84703c68894ac2b89188e45d82b785f489a7984f6dc1018e", func := "routing/routinglaw34.ExternalBest", spec := "externalBest", unfollowed := true, recurses := true, plainKeys := false, apart := false }
def ExternalBestSaid : Prop := externalBestRow.holds Tryz.pinned (OpenSpec.ofChange externalBestSpec)

/-- ITS FALSE NEIGHBOUR: 'it returns false'. Refute it at one input. -/
def externalBestWrong : ChangeSpec := { name := "externalBest", fn := fun _ => fun
  | [d1, d2, d3, d4] => { results := [.lit (.bool false)], args := [d1, d2, d3, d4] }
  | _ => none }
def ExternalBestWrongFalsely : Prop := externalBestRow.holds Tryz.pinned (OpenSpec.ofChange externalBestWrong)

/-- 'routinglaw34.ExternalBodies': WHATEVER THE INPUT: true; the input reads as it did. -/
def externalBodiesSpec : ChangeSpec := { name := "externalBodies", fn := fun _ => fun
  | [d1, d2] => { results := [.lit (.bool true)], args := [d1, d2] }
  | _ => none }
def externalBodiesRow : OpenClaim := { program := "ytiemmejpaahbpaagreat", sum := "c0a36220fca8105d84703c68894ac2b89188e45d82b785f489a7984f6dc1018e", func := "routing/routinglaw34.ExternalBodies", spec := "externalBodies", unfollowed := true, recurses := true, plainKeys := false, apart := false }
def ExternalBodiesSaid : Prop := externalBodiesRow.holds Tryz.pinned (OpenSpec.ofChange externalBodiesSpec)

/-- ITS FALSE NEIGHBOUR: 'it returns false'. Refute it at one input. -/
def externalBodiesWrong : ChangeSpec := { name := "externalBodies", fn := fun _ => fun
  | [d1, d2] => { results := [.lit (.bool false)], args := [d1, d2] }
  | _ => none }
def ExternalBodiesWrongFalsely : Prop := externalBodiesRow.holds Tryz.pinned (OpenSpec.ofChange externalBodiesWrong)

/- THE SECOND FORM. 'bulk': how many values and letters a reading holds, each counted each time it is reached (what is shared counts as often as it is met; a slice's spare places count too). A statement '..UptoSaid' is the law's where the arguments, and the package variables that the reading takes, are together of bulk at most 1048576: NARROWER than '..Said'. Prove '..Said' where nothing that the law and all that it calls make is longer than what came in: it says more and counts as full. Else prove '..UptoSaid'. A law counts once. -/
mutual
def uptoBulk {H : Type} : DataW H → Nat
  | .lit (.string bytes) => bytes.length + 1
  | .lit _ => 1
  | .nil => 1
  | .ptr d => uptoBulk d + 1
  | .slice elems spare => uptoBulkAll elems + uptoBulkAll spare + 1
  | .agg parts => uptoBulkAll parts + 1
  | .iface _ d => uptoBulk d + 1
  | .map entries => uptoBulkEntries entries + 1
  | .held _ => 1
def uptoBulkAll {H : Type} : List (DataW H) → Nat
  | [] => 0
  | d :: r => uptoBulk d + uptoBulkAll r
def uptoBulkEntries {H : Type} : List (Lit × DataW H) → Nat
  | [] => 0
  | x :: r => uptoBulkEntry x + uptoBulkEntries r
def uptoBulkEntry {H : Type} : Lit × DataW H → Nat
  | (.string bytes, d) => bytes.length + uptoBulk d + 1
  | (_, d) => uptoBulk d + 1
 end
def uptoSmall : (H : Type) → List (DataW H) → Bool := fun _ ds => decide (uptoBulkAll ds ≤ 1048576)
def OpenSpec.upto (s : _root_.Go.ChangeSpec) : _root_.Go.OpenSpec := { _root_.Go.OpenSpec.ofChange s with cond := some uptoSmall }

/-- 'routinglaw34.ExternalRoutes', WHERE WHAT IT READS IS OF BULK AT MOST 1048576: true; the input reads as it did. -/
def externalRoutesUptoRow : OpenClaim := { program := "ytiemmejpaahbpaagreat", sum := "c0a36220fca8105d84703c68894ac2b89188e45d82b785f489a7984f6dc1018e", func := "routing/routinglaw34.ExternalRoutes", spec := "externalRoutes", unfollowed := true, recurses := true, plainKeys := false, apart := false, narrowed := true }
def ExternalRoutesUptoSaid : Prop := externalRoutesUptoRow.holds Tryz.pinned (OpenSpec.upto externalRoutesSpec)

/-- 'routinglaw34.ExternalBest', WHERE WHAT IT READS IS OF BULK AT MOST 1048576: true; the input reads as it did. -/
def externalBestUptoRow : OpenClaim := { program := "ytiemmejpaahbpaagreat", sum := "c0a36220fca8105d84703c68894ac2b89188e45d82b785f489a7984f6dc1018e", func := "routing/routinglaw34.ExternalBest", spec := "externalBest", unfollowed := true, recurses := true, plainKeys := false, apart := false, narrowed := true }
def ExternalBestUptoSaid : Prop := externalBestUptoRow.holds Tryz.pinned (OpenSpec.upto externalBestSpec)

/-- 'routinglaw34.ExternalBodies', WHERE WHAT IT READS IS OF BULK AT MOST 1048576: true; the input reads as it did. -/
def externalBodiesUptoRow : OpenClaim := { program := "ytiemmejpaahbpaagreat", sum := "c0a36220fca8105d84703c68894ac2b89188e45d82b785f489a7984f6dc1018e", func := "routing/routinglaw34.ExternalBodies", spec := "externalBodies", unfollowed := true, recurses := true, plainKeys := false, apart := false, narrowed := true }
def ExternalBodiesUptoSaid : Prop := externalBodiesUptoRow.holds Tryz.pinned (OpenSpec.upto externalBodiesSpec)

end Rows
end Go.Proofs.YtiemmejpaahbpaaGreat
