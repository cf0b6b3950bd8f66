/-
  Facts about the program that the row of LinkstateChecks asks, told by the kernel apart from the others.
-/
import Derived.Test.YtombnejipaoinaaGreatStay
import Derived.JoinedCond
namespace Go.Proofs.YtombnejipaoinaaGreat

set_option maxRecDepth 1000000 in
theorem lc_inPlace : (Rows.linkstateChecksRow.inPlace == Tryz.pinned.checked.prog.inPlace 3) = true := by kernel_rfl
set_option maxRecDepth 1000000 in
theorem lc_unfollowed : (Rows.linkstateChecksRow.unfollowed == Tryz.pinned.checked.prog.unfollowed 3) = true := by kernel_rfl
set_option maxRecDepth 1000000 in
theorem lc_recurses : (Rows.linkstateChecksRow.recurses == Tryz.pinned.checked.prog.recurses 3) = true := by kernel_rfl
set_option maxRecDepth 1000000 in
theorem lc_varsNamed : (Rows.linkstateChecksRow.named == Tryz.pinned.checked.prog.varsNamed 3) = true := by kernel_rfl

end Go.Proofs.YtombnejipaoinaaGreat
