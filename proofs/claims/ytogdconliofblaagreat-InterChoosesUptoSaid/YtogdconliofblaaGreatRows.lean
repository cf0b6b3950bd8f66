/-
  No cell of these rows narrows 'for every input' (looked for: loops, veiled, ifaces, maps, wideKeys, modest, calm, conditions, laid).
  DERIVED. THE GIVEN ROWS OF THIS SEAT. 6 by the template 'for every input the law returns true; each argument reads behind the call as it read before'; 0 by the template 'total and deterministic' (their statements: YtogdconliofblaaGreatTotals.lean).
  GIVEN WITH THE SEED: the statements are not yours to turn. If you find one false, say at which input.
  Laid BY PROGRAM, IN A SANDBOX (cutbox-rows.mjs): the forced cells as the released guide's own fill.sh prints them over the translation 7fe20600d880db84… (all of the seat's roots in one cut). By AI agents, Wed Nov 11 2026. No macro, syntax, notation, axiom, sorry.
-/
import Derived.Test.YtogdconliofblaaGreatChecked
import GoSem.Claim
import GoSem.ClaimJoined
import GoSem.ClaimMapViews
import Derived.JoinedTies
import Derived.KernelRfl
namespace Go.Proofs.YtogdconliofblaaGreat
/- THE CELL 'sum', in the pinned program and in every row, IS THE sha256 OF THE DUMP (.gsa) THAT YtogdconliofblaaGreatProg.lean LOADS. Nothing in Lean hashes anything: it is a label: what it is worth is what the hold of that sum in a sandbox is worth. -/
noncomputable def Tryz.pinned : Pinned := { name := "ytogdconliofblaagreat", sum := "7fe20600d880db84e22e09bc7446d8129eb4e974437fec8201b7ec4d01f20153", checked := Tryz.checked }
namespace Rows
def none {H : Type} : Left H := { results := [], args := [] }

/-- 'routinglaw33.InterSummaries': WHATEVER THE INPUT: true; the input reads as it did. -/
def interSummariesSpec : ChangeSpec := { name := "interSummaries", fn := fun _ => fun
  | [d1, d2, d3, d4] => { results := [.lit (.bool true)], args := [d1, d2, d3, d4] }
  | _ => none }
def interSummariesRow : OpenClaim := { program := "ytogdconliofblaagreat", sum := "7fe20600d880db84e22e09bc7446d8129eb4e974437fec8201b7ec4d01f20153", func := "routing/routinglaw33.InterSummaries", spec := "interSummaries", unfollowed := true, recurses := true, plainKeys := false, apart := false }
def InterSummariesSaid : Prop := interSummariesRow.holds Tryz.pinned (OpenSpec.ofChange interSummariesSpec)

/-- ITS FALSE NEIGHBOUR: 'it returns false'. Refute it at one input. -/
def interSummariesWrong : ChangeSpec := { name := "interSummaries", fn := fun _ => fun
  | [d1, d2, d3, d4] => { results := [.lit (.bool false)], args := [d1, d2, d3, d4] }
  | _ => none }
def InterSummariesWrongFalsely : Prop := interSummariesRow.holds Tryz.pinned (OpenSpec.ofChange interSummariesWrong)

/-- 'routinglaw33.InterBest': WHATEVER THE INPUT: true; the input reads as it did. -/
def interBestSpec : ChangeSpec := { name := "interBest", fn := fun _ => fun
  | [d1, d2, d3] => { results := [.lit (.bool true)], args := [d1, d2, d3] }
  | _ => none }
def interBestRow : OpenClaim := { program := "ytogdconliofblaagreat", sum := "7fe20600d880db84e22e09bc7446d8129eb4e974437fec8201b7ec4d01f20153", func := "routing/routinglaw33.InterBest", spec := "interBest", unfollowed := true, recurses := true, plainKeys := false, apart := false }
def InterBestSaid : Prop := interBestRow.holds Tryz.pinned (OpenSpec.ofChange interBestSpec)

/-- ITS FALSE NEIGHBOUR: 'it returns false'. Refute it at one input. -/
def interBestWrong : ChangeSpec := { name := "interBest", fn := fun _ => fun
  | [d1, d2, d3] => { results := [.lit (.bool false)], args := [d1, d2, d3] }
  | _ => none }
def InterBestWrongFalsely : Prop := interBestRow.holds Tryz.pinned (OpenSpec.ofChange interBestWrong)

/-- 'routinglaw33.InterBack': WHATEVER THE INPUT: true; the input reads as it did. -/
def interBackSpec : ChangeSpec := { name := "interBack", fn := fun _ => fun
  | [d1, d2, d3] => { results := [.lit (.bool true)], args := [d1, d2, d3] }
  | _ => none }
def interBackRow : OpenClaim := { program := "ytogdconliofblaagreat", sum := "7fe20600d880db84e22e09bc7446d8129eb4e974437fec8201b7ec4d01f20153", func := "routing/routinglaw33.InterBack", spec := "interBack", unfollowed := true, recurses := true, plainKeys := false, apart := false }
def InterBackSaid : Prop := interBackRow.holds Tryz.pinned (OpenSpec.ofChange interBackSpec)

/-- ITS FALSE NEIGHBOUR: 'it returns false'. Refute it at one input. -/
def interBackWrong : ChangeSpec := { name := "interBack", fn := fun _ => fun
  | [d1, d2, d3] => { results := [.lit (.bool false)], args := [d1, d2, d3] }
  | _ => none }
def InterBackWrongFalsely : Prop := interBackRow.holds Tryz.pinned (OpenSpec.ofChange interBackWrong)

/-- 'routinglaw33.InterRanges': WHATEVER THE INPUT: true; the input reads as it did. -/
def interRangesSpec : ChangeSpec := { name := "interRanges", fn := fun _ => fun
  | [d1, d2, d3] => { results := [.lit (.bool true)], args := [d1, d2, d3] }
  | _ => none }
def interRangesRow : OpenClaim := { program := "ytogdconliofblaagreat", sum := "7fe20600d880db84e22e09bc7446d8129eb4e974437fec8201b7ec4d01f20153", func := "routing/routinglaw33.InterRanges", spec := "interRanges", unfollowed := true, recurses := true, plainKeys := false, apart := false }
def InterRangesSaid : Prop := interRangesRow.holds Tryz.pinned (OpenSpec.ofChange interRangesSpec)

/-- ITS FALSE NEIGHBOUR: 'it returns false'. Refute it at one input. -/
def interRangesWrong : ChangeSpec := { name := "interRanges", fn := fun _ => fun
  | [d1, d2, d3] => { results := [.lit (.bool false)], args := [d1, d2, d3] }
  | _ => none }
def InterRangesWrongFalsely : Prop := interRangesRow.holds Tryz.pinned (OpenSpec.ofChange interRangesWrong)

/-- 'routinglaw33.InterChooses': WHATEVER THE INPUT: true; the input reads as it did. -/
def interChoosesSpec : ChangeSpec := { name := "interChooses", fn := fun _ => fun
  | [d1, d2] => { results := [.lit (.bool true)], args := [d1, d2] }
  | _ => none }
def interChoosesRow : OpenClaim := { program := "ytogdconliofblaagreat", sum := "7fe20600d880db84e22e09bc7446d8129eb4e974437fec8201b7ec4d01f20153", func := "routing/routinglaw33.InterChooses", spec := "interChooses", unfollowed := true, recurses := true, plainKeys := false, apart := false }
def InterChoosesSaid : Prop := interChoosesRow.holds Tryz.pinned (OpenSpec.ofChange interChoosesSpec)

/-- ITS FALSE NEIGHBOUR: 'it returns false'. Refute it at one input. -/
def interChoosesWrong : ChangeSpec := { name := "interChooses", fn := fun _ => fun
  | [d1, d2] => { results := [.lit (.bool false)], args := [d1, d2] }
  | _ => none }
def InterChoosesWrongFalsely : Prop := interChoosesRow.holds Tryz.pinned (OpenSpec.ofChange interChoosesWrong)

/-- 'routinglaw33.InterRoutes': WHATEVER THE INPUT: true; the input reads as it did. -/
def interRoutesSpec : ChangeSpec := { name := "interRoutes", fn := fun _ => fun
  | [d1, d2, d3] => { results := [.lit (.bool true)], args := [d1, d2, d3] }
  | _ => none }
def interRoutesRow : OpenClaim := { program := "ytogdconliofblaagreat", sum := "7fe20600d880db84e22e09bc7446d8129eb4e974437fec8201b7ec4d01f20153", func := "routing/routinglaw33.InterRoutes", spec := "interRoutes", unfollowed := true, recurses := true, plainKeys := false, apart := false }
def InterRoutesSaid : Prop := interRoutesRow.holds Tryz.pinned (OpenSpec.ofChange interRoutesSpec)

/-- ITS FALSE NEIGHBOUR: 'it returns false'. Refute it at one input. -/
def interRoutesWrong : ChangeSpec := { name := "interRoutes", fn := fun _ => fun
  | [d1, d2, d3] => { results := [.lit (.bool false)], args := [d1, d2, d3] }
  | _ => none }
def InterRoutesWrongFalsely : Prop := interRoutesRow.holds Tryz.pinned (OpenSpec.ofChange interRoutesWrong)

/- THE SECOND FORM. 'bulk': how many values and letters a reading holds, each counted each time it is reached (what is shared counts as often as it is met; a slice's spare places count too). A statement '..UptoSaid' is the law's where the arguments, and the package variables that the reading takes, are together of bulk at most 1048576: NARROWER than '..Said'. Prove '..Said' where nothing that the law and all that it calls make is longer than what came in: it says more and counts as full. Else prove '..UptoSaid'. A law counts once. -/
mutual
def uptoBulk {H : Type} : DataW H → Nat
  | .lit (.string bytes) => bytes.length + 1
  | .lit _ => 1
  | .nil => 1
  | .ptr d => uptoBulk d + 1
  | .slice elems spare => uptoBulkAll elems + uptoBulkAll spare + 1
  | .agg parts => uptoBulkAll parts + 1
  | .iface _ d => uptoBulk d + 1
  | .map entries => uptoBulkEntries entries + 1
  | .held _ => 1
def uptoBulkAll {H : Type} : List (DataW H) → Nat
  | [] => 0
  | d :: r => uptoBulk d + uptoBulkAll r
def uptoBulkEntries {H : Type} : List (Lit × DataW H) → Nat
  | [] => 0
  | x :: r => uptoBulkEntry x + uptoBulkEntries r
def uptoBulkEntry {H : Type} : Lit × DataW H → Nat
  | (.string bytes, d) => bytes.length + uptoBulk d + 1
  | (_, d) => uptoBulk d + 1
 end
def uptoSmall : (H : Type) → List (DataW H) → Bool := fun _ ds => decide (uptoBulkAll ds ≤ 1048576)
def OpenSpec.upto (s : _root_.Go.ChangeSpec) : _root_.Go.OpenSpec := { _root_.Go.OpenSpec.ofChange s with cond := some uptoSmall }

/-- 'routinglaw33.InterSummaries', WHERE WHAT IT READS IS OF BULK AT MOST 1048576: true; the input reads as it did. -/
def interSummariesUptoRow : OpenClaim := { program := "ytogdconliofblaagreat", sum := "7fe20600d880db84e22e09bc7446d8129eb4e974437fec8201b7ec4d01f20153", func := "routing/routinglaw33.InterSummaries", spec := "interSummaries", unfollowed := true, recurses := true, plainKeys := false, apart := false, narrowed := true }
def InterSummariesUptoSaid : Prop := interSummariesUptoRow.holds Tryz.pinned (OpenSpec.upto interSummariesSpec)

/-- 'routinglaw33.InterBest', WHERE WHAT IT READS IS OF BULK AT MOST 1048576: true; the input reads as it did. -/
def interBestUptoRow : OpenClaim := { program := "ytogdconliofblaagreat", sum := "7fe20600d880db84e22e09bc7446d8129eb4e974437fec8201b7ec4d01f20153", func := "routing/routinglaw33.InterBest", spec := "interBest", unfollowed := true, recurses := true, plainKeys := false, apart := false, narrowed := true }
def InterBestUptoSaid : Prop := interBestUptoRow.holds Tryz.pinned (OpenSpec.upto interBestSpec)

/-- 'routinglaw33.InterBack', WHERE WHAT IT READS IS OF BULK AT MOST 1048576: true; the input reads as it did. -/
def interBackUptoRow : OpenClaim := { program := "ytogdconliofblaagreat", sum := "7fe20600d880db84e22e09bc7446d8129eb4e974437fec8201b7ec4d01f20153", func := "routing/routinglaw33.InterBack", spec := "interBack", unfollowed := true, recurses := true, plainKeys := false, apart := false, narrowed := true }
def InterBackUptoSaid : Prop := interBackUptoRow.holds Tryz.pinned (OpenSpec.upto interBackSpec)

/-- 'routinglaw33.InterRanges', WHERE WHAT IT READS IS OF BULK AT MOST 1048576: true; the input reads as it did. -/
def interRangesUptoRow : OpenClaim := { program := "ytogdconliofblaagreat", sum := "7fe20600d880db84e22e09bc7446d8129eb4e974437fec8201b7ec4d01f20153", func := "routing/routinglaw33.InterRanges", spec := "interRanges", unfollowed := true, recurses := true, plainKeys := false, apart := false, narrowed := true }
def InterRangesUptoSaid : Prop := interRangesUptoRow.holds Tryz.pinned (OpenSpec.upto interRangesSpec)

/-- 'routinglaw33.InterChooses', WHERE WHAT IT READS IS OF BULK AT MOST 1048576: true; the input reads as it did. -/
def interChoosesUptoRow : OpenClaim := { program := "ytogdconliofblaagreat", sum := "7fe20600d880db84e22e09bc7446d8129eb4e974437fec8201b7ec4d01f20153", func := "routing/routinglaw33.InterChooses", spec := "interChooses", unfollowed := true, recurses := true, plainKeys := false, apart := false, narrowed := true }
def InterChoosesUptoSaid : Prop := interChoosesUptoRow.holds Tryz.pinned (OpenSpec.upto interChoosesSpec)

/-- 'routinglaw33.InterRoutes', WHERE WHAT IT READS IS OF BULK AT MOST 1048576: true; the input reads as it did. -/
def interRoutesUptoRow : OpenClaim := { program := "ytogdconliofblaagreat", sum := "7fe20600d880db84e22e09bc7446d8129eb4e974437fec8201b7ec4d01f20153", func := "routing/routinglaw33.InterRoutes", spec := "interRoutes", unfollowed := true, recurses := true, plainKeys := false, apart := false, narrowed := true }
def InterRoutesUptoSaid : Prop := interRoutesUptoRow.holds Tryz.pinned (OpenSpec.upto interRoutesSpec)

end Rows
end Go.Proofs.YtogdconliofblaaGreat
