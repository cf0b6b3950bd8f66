/-
  No cell of these rows narrows 'for every input' (looked for: loops, veiled, ifaces, maps, wideKeys, modest, calm, conditions, laid).
  DERIVED. THE GIVEN ROWS OF THIS SEAT. 7 by the template 'for every input the law returns true; each argument reads behind the call as it read before'; 0 by the template 'total and deterministic' (their statements: YtddageahmgaigaaGreatTotals.lean).
  GIVEN WITH THE SEED: the statements are not yours to turn. If you find one false, say at which input.
  Laid BY PROGRAM, IN A SANDBOX (cutbox-rows.mjs): the forced cells as the released guide's own fill.sh prints them over the translation 6ae7d2a0c1547185… (all of the seat's roots in one cut). By AI agents, Wed Nov 11 2026. No macro, syntax, notation, axiom, sorry.
-/
import Derived.Test.YtddageahmgaigaaGreatChecked
import GoSem.Claim
import GoSem.ClaimJoined
import GoSem.ClaimMapViews
import Derived.JoinedTies
import Derived.KernelRfl
namespace Go.Proofs.YtddageahmgaigaaGreat
/- THE CELL 'sum', in the pinned program and in every row, IS THE sha256 OF THE DUMP (.gsa) THAT YtddageahmgaigaaGreatProg.lean LOADS. Nothing in Lean hashes anything: it is a label: what it is worth is what the hold of that sum in a sandbox is worth. -/
noncomputable def Tryz.pinned : Pinned := { name := "ytddageahmgaigaagreat", sum := "6ae7d2a0c15471855220b0db1dec1b59dddbc7f04fcb9a60897ab956097f1486", checked := Tryz.checked }
namespace Rows
def none {H : Type} : Left H := { results := [], args := [] }

/-- 'routinglaw30.OriginRouter': WHATEVER THE INPUT: true; the input reads as it did. -/
def originRouterSpec : ChangeSpec := { name := "originRouter", fn := fun _ => fun
  | [d1, d2] => { results := [.lit (.bool true)], args := [d1, d2] }
  | _ => none }
def originRouterRow : OpenClaim := { program := "ytddageahmgaigaagreat", sum := "6ae7d2a0c15471855220b0db1dec1b59dddbc7f04fcb9a60897ab956097f1486", func := "routing/routinglaw30.OriginRouter", spec := "originRouter", unfollowed := true, recurses := true, plainKeys := false, apart := false }
def OriginRouterSaid : Prop := originRouterRow.holds Tryz.pinned (OpenSpec.ofChange originRouterSpec)

/-- ITS FALSE NEIGHBOUR: 'it returns false'. Refute it at one input. -/
def originRouterWrong : ChangeSpec := { name := "originRouter", fn := fun _ => fun
  | [d1, d2] => { results := [.lit (.bool false)], args := [d1, d2] }
  | _ => none }
def OriginRouterWrongFalsely : Prop := originRouterRow.holds Tryz.pinned (OpenSpec.ofChange originRouterWrong)

/-- 'routinglaw30.OriginNext': WHATEVER THE INPUT: true; the input reads as it did. -/
def originNextSpec : ChangeSpec := { name := "originNext", fn := fun _ => fun
  | [d1, d2] => { results := [.lit (.bool true)], args := [d1, d2] }
  | _ => none }
def originNextRow : OpenClaim := { program := "ytddageahmgaigaagreat", sum := "6ae7d2a0c15471855220b0db1dec1b59dddbc7f04fcb9a60897ab956097f1486", func := "routing/routinglaw30.OriginNext", spec := "originNext", unfollowed := true, recurses := true, plainKeys := false, apart := false }
def OriginNextSaid : Prop := originNextRow.holds Tryz.pinned (OpenSpec.ofChange originNextSpec)

/-- ITS FALSE NEIGHBOUR: 'it returns false'. Refute it at one input. -/
def originNextWrong : ChangeSpec := { name := "originNext", fn := fun _ => fun
  | [d1, d2] => { results := [.lit (.bool false)], args := [d1, d2] }
  | _ => none }
def OriginNextWrongFalsely : Prop := originNextRow.holds Tryz.pinned (OpenSpec.ofChange originNextWrong)

/-- 'routinglaw30.OriginPlans': WHATEVER THE INPUT: true; the input reads as it did. -/
def originPlansSpec : ChangeSpec := { name := "originPlans", fn := fun _ => fun
  | [d1, d2, d3] => { results := [.lit (.bool true)], args := [d1, d2, d3] }
  | _ => none }
def originPlansRow : OpenClaim := { program := "ytddageahmgaigaagreat", sum := "6ae7d2a0c15471855220b0db1dec1b59dddbc7f04fcb9a60897ab956097f1486", func := "routing/routinglaw30.OriginPlans", spec := "originPlans", unfollowed := true, recurses := true, plainKeys := false, apart := false }
def OriginPlansSaid : Prop := originPlansRow.holds Tryz.pinned (OpenSpec.ofChange originPlansSpec)

/-- ITS FALSE NEIGHBOUR: 'it returns false'. Refute it at one input. -/
def originPlansWrong : ChangeSpec := { name := "originPlans", fn := fun _ => fun
  | [d1, d2, d3] => { results := [.lit (.bool false)], args := [d1, d2, d3] }
  | _ => none }
def OriginPlansWrongFalsely : Prop := originPlansRow.holds Tryz.pinned (OpenSpec.ofChange originPlansWrong)

/-- 'routinglaw30.OriginDone': WHATEVER THE INPUT: true; the input reads as it did. -/
def originDoneSpec : ChangeSpec := { name := "originDone", fn := fun _ => fun
  | [d1, d2, d3] => { results := [.lit (.bool true)], args := [d1, d2, d3] }
  | _ => none }
def originDoneRow : OpenClaim := { program := "ytddageahmgaigaagreat", sum := "6ae7d2a0c15471855220b0db1dec1b59dddbc7f04fcb9a60897ab956097f1486", func := "routing/routinglaw30.OriginDone", spec := "originDone", unfollowed := true, recurses := true, plainKeys := false, apart := false }
def OriginDoneSaid : Prop := originDoneRow.holds Tryz.pinned (OpenSpec.ofChange originDoneSpec)

/-- ITS FALSE NEIGHBOUR: 'it returns false'. Refute it at one input. -/
def originDoneWrong : ChangeSpec := { name := "originDone", fn := fun _ => fun
  | [d1, d2, d3] => { results := [.lit (.bool false)], args := [d1, d2, d3] }
  | _ => none }
def OriginDoneWrongFalsely : Prop := originDoneRow.holds Tryz.pinned (OpenSpec.ofChange originDoneWrong)

/-- 'routinglaw30.OriginNewer': WHATEVER THE INPUT: true; the input reads as it did. -/
def originNewerSpec : ChangeSpec := { name := "originNewer", fn := fun _ => fun
  | [d1, d2, d3] => { results := [.lit (.bool true)], args := [d1, d2, d3] }
  | _ => none }
def originNewerRow : OpenClaim := { program := "ytddageahmgaigaagreat", sum := "6ae7d2a0c15471855220b0db1dec1b59dddbc7f04fcb9a60897ab956097f1486", func := "routing/routinglaw30.OriginNewer", spec := "originNewer", unfollowed := true, recurses := true, plainKeys := false, apart := false }
def OriginNewerSaid : Prop := originNewerRow.holds Tryz.pinned (OpenSpec.ofChange originNewerSpec)

/-- ITS FALSE NEIGHBOUR: 'it returns false'. Refute it at one input. -/
def originNewerWrong : ChangeSpec := { name := "originNewer", fn := fun _ => fun
  | [d1, d2, d3] => { results := [.lit (.bool false)], args := [d1, d2, d3] }
  | _ => none }
def OriginNewerWrongFalsely : Prop := originNewerRow.holds Tryz.pinned (OpenSpec.ofChange originNewerWrong)

/-- 'routinglaw30.OriginNetwork': WHATEVER THE INPUT: true; the input reads as it did. -/
def originNetworkSpec : ChangeSpec := { name := "originNetwork", fn := fun _ => fun
  | [d1, d2] => { results := [.lit (.bool true)], args := [d1, d2] }
  | _ => none }
def originNetworkRow : OpenClaim := { program := "ytddageahmgaigaagreat", sum := "6ae7d2a0c15471855220b0db1dec1b59dddbc7f04fcb9a60897ab956097f1486", func := "routing/routinglaw30.OriginNetwork", spec := "originNetwork", unfollowed := true, recurses := true, plainKeys := false, apart := false }
def OriginNetworkSaid : Prop := originNetworkRow.holds Tryz.pinned (OpenSpec.ofChange originNetworkSpec)

/-- ITS FALSE NEIGHBOUR: 'it returns false'. Refute it at one input. -/
def originNetworkWrong : ChangeSpec := { name := "originNetwork", fn := fun _ => fun
  | [d1, d2] => { results := [.lit (.bool false)], args := [d1, d2] }
  | _ => none }
def OriginNetworkWrongFalsely : Prop := originNetworkRow.holds Tryz.pinned (OpenSpec.ofChange originNetworkWrong)

/-- 'routinglaw30.OriginValid': WHATEVER THE INPUT: true; the input reads as it did. -/
def originValidSpec : ChangeSpec := { name := "originValid", fn := fun _ => fun
  | [d1, d2] => { results := [.lit (.bool true)], args := [d1, d2] }
  | _ => none }
def originValidRow : OpenClaim := { program := "ytddageahmgaigaagreat", sum := "6ae7d2a0c15471855220b0db1dec1b59dddbc7f04fcb9a60897ab956097f1486", func := "routing/routinglaw30.OriginValid", spec := "originValid", unfollowed := true, recurses := true, plainKeys := false, apart := false }
def OriginValidSaid : Prop := originValidRow.holds Tryz.pinned (OpenSpec.ofChange originValidSpec)

/-- ITS FALSE NEIGHBOUR: 'it returns false'. Refute it at one input. -/
def originValidWrong : ChangeSpec := { name := "originValid", fn := fun _ => fun
  | [d1, d2] => { results := [.lit (.bool false)], args := [d1, d2] }
  | _ => none }
def OriginValidWrongFalsely : Prop := originValidRow.holds Tryz.pinned (OpenSpec.ofChange originValidWrong)

/- THE SECOND FORM. 'bulk': how many values and letters a reading holds, each counted each time it is reached (what is shared counts as often as it is met; a slice's spare places count too). A statement '..UptoSaid' is the law's where the arguments, and the package variables that the reading takes, are together of bulk at most 1048576: NARROWER than '..Said'. Prove '..Said' where nothing that the law and all that it calls make is longer than what came in: it says more and counts as full. Else prove '..UptoSaid'. A law counts once. -/
mutual
def uptoBulk {H : Type} : DataW H → Nat
  | .lit (.string bytes) => bytes.length + 1
  | .lit _ => 1
  | .nil => 1
  | .ptr d => uptoBulk d + 1
  | .slice elems spare => uptoBulkAll elems + uptoBulkAll spare + 1
  | .agg parts => uptoBulkAll parts + 1
  | .iface _ d => uptoBulk d + 1
  | .map entries => uptoBulkEntries entries + 1
  | .held _ => 1
def uptoBulkAll {H : Type} : List (DataW H) → Nat
  | [] => 0
  | d :: r => uptoBulk d + uptoBulkAll r
def uptoBulkEntries {H : Type} : List (Lit × DataW H) → Nat
  | [] => 0
  | x :: r => uptoBulkEntry x + uptoBulkEntries r
def uptoBulkEntry {H : Type} : Lit × DataW H → Nat
  | (.string bytes, d) => bytes.length + uptoBulk d + 1
  | (_, d) => uptoBulk d + 1
 end
def uptoSmall : (H : Type) → List (DataW H) → Bool := fun _ ds => decide (uptoBulkAll ds ≤ 1048576)
def OpenSpec.upto (s : _root_.Go.ChangeSpec) : _root_.Go.OpenSpec := { _root_.Go.OpenSpec.ofChange s with cond := some uptoSmall }

/-- 'routinglaw30.OriginRouter', WHERE WHAT IT READS IS OF BULK AT MOST 1048576: true; the input reads as it did. -/
def originRouterUptoRow : OpenClaim := { program := "ytddageahmgaigaagreat", sum := "6ae7d2a0c15471855220b0db1dec1b59dddbc7f04fcb9a60897ab956097f1486", func := "routing/routinglaw30.OriginRouter", spec := "originRouter", unfollowed := true, recurses := true, plainKeys := false, apart := false, narrowed := true }
def OriginRouterUptoSaid : Prop := originRouterUptoRow.holds Tryz.pinned (OpenSpec.upto originRouterSpec)

/-- 'routinglaw30.OriginNext', WHERE WHAT IT READS IS OF BULK AT MOST 1048576: true; the input reads as it did. -/
def originNextUptoRow : OpenClaim := { program := "ytddageahmgaigaagreat", sum := "6ae7d2a0c15471855220b0db1dec1b59dddbc7f04fcb9a60897ab956097f1486", func := "routing/routinglaw30.OriginNext", spec := "originNext", unfollowed := true, recurses := true, plainKeys := false, apart := false, narrowed := true }
def OriginNextUptoSaid : Prop := originNextUptoRow.holds Tryz.pinned (OpenSpec.upto originNextSpec)

/-- 'routinglaw30.OriginPlans', WHERE WHAT IT READS IS OF BULK AT MOST 1048576: true; the input reads as it did. -/
def originPlansUptoRow : OpenClaim := { program := "ytddageahmgaigaagreat", sum := "6ae7d2a0c15471855220b0db1dec1b59dddbc7f04fcb9a60897ab956097f1486", func := "routing/routinglaw30.OriginPlans", spec := "originPlans", unfollowed := true, recurses := true, plainKeys := false, apart := false, narrowed := true }
def OriginPlansUptoSaid : Prop := originPlansUptoRow.holds Tryz.pinned (OpenSpec.upto originPlansSpec)

/-- 'routinglaw30.OriginDone', WHERE WHAT IT READS IS OF BULK AT MOST 1048576: true; the input reads as it did. -/
def originDoneUptoRow : OpenClaim := { program := "ytddageahmgaigaagreat", sum := "6ae7d2a0c15471855220b0db1dec1b59dddbc7f04fcb9a60897ab956097f1486", func := "routing/routinglaw30.OriginDone", spec := "originDone", unfollowed := true, recurses := true, plainKeys := false, apart := false, narrowed := true }
def OriginDoneUptoSaid : Prop := originDoneUptoRow.holds Tryz.pinned (OpenSpec.upto originDoneSpec)

/-- 'routinglaw30.OriginNewer', WHERE WHAT IT READS IS OF BULK AT MOST 1048576: true; the input reads as it did. -/
def originNewerUptoRow : OpenClaim := { program := "ytddageahmgaigaagreat", sum := "6ae7d2a0c15471855220b0db1dec1b59dddbc7f04fcb9a60897ab956097f1486", func := "routing/routinglaw30.OriginNewer", spec := "originNewer", unfollowed := true, recurses := true, plainKeys := false, apart := false, narrowed := true }
def OriginNewerUptoSaid : Prop := originNewerUptoRow.holds Tryz.pinned (OpenSpec.upto originNewerSpec)

/-- 'routinglaw30.OriginNetwork', WHERE WHAT IT READS IS OF BULK AT MOST 1048576: true; the input reads as it did. -/
def originNetworkUptoRow : OpenClaim := { program := "ytddageahmgaigaagreat", sum := "6ae7d2a0c15471855220b0db1dec1b59dddbc7f04fcb9a60897ab956097f1486", func := "routing/routinglaw30.OriginNetwork", spec := "originNetwork", unfollowed := true, recurses := true, plainKeys := false, apart := false, narrowed := true }
def OriginNetworkUptoSaid : Prop := originNetworkUptoRow.holds Tryz.pinned (OpenSpec.upto originNetworkSpec)

/-- 'routinglaw30.OriginValid', WHERE WHAT IT READS IS OF BULK AT MOST 1048576: true; the input reads as it did. -/
def originValidUptoRow : OpenClaim := { program := "ytddageahmgaigaagreat", sum := "6ae7d2a0c15471855220b0db1dec1b59dddbc7f04fcb9a60897ab956097f1486", func := "routing/routinglaw30.OriginValid", spec := "originValid", unfollowed := true, recurses := true, plainKeys := false, apart := false, narrowed := true }
def OriginValidUptoSaid : Prop := originValidUptoRow.holds Tryz.pinned (OpenSpec.upto originValidSpec)

end Rows
end Go.Proofs.YtddageahmgaigaaGreat
