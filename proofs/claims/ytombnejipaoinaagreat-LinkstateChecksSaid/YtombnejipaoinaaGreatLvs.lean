/-
  The document's example of linkstate: lives() returns true; told by the evaluator in five pieces.
-/
import Derived.Test.YtombnejipaoinaaGreatExr5
namespace Go.Ex
open Go

theorem tail_fix : ∀ (n : Nat) (c : Code), (∀ a b, c ≠ .seq a b) → tailC n c = c
  | 0, c, _ => by cases c <;> rfl
  | n + 1, c, h => by
    cases c with
    | seq a b => exact absurd rfl (h a b)
    | _ => rfl
theorem tail_tail : ∀ (m n : Nat) (c : Code), tailC (m + n) c = tailC n (tailC m c)
  | 0, n, c => by
    rw [Nat.zero_add]
    cases c <;> rfl
  | m + 1, n, c => by
    rw [show m + 1 + n = (m + n) + 1 from by omega]
    cases c with
    | seq a b => exact tail_tail m n b
    | _ =>
      rw [tail_fix _ _ (by intro a b h; cases h), tail_fix _ _ (by intro a b h; cases h), tail_fix _ _ (by intro a b h; cases h)]

set_option maxRecDepth 1000000 in
theorem lives_true (w : World) : Calls Go.Proofs.Tryz.prog 4 #[] w fun e w' => e = .returned (.bool true) ∧ Go.RowKit.Below w.heap.size w w' := by
  have hm : Go.Proofs.Tryz.prog.follows .mixedOrders = true := by kernel_rfl
  have hH := noH_ok Go.Proofs.Tryz.prog
  obtain ⟨x, tm', S', h5, hx, hn, hmk, hres⟩ := endB_ok pieceEnd
  have t5 := tri_of hH hm h5
  have t4 := piece_ok hH hm piece4 t5 hn
  rw [show tailC 7 liveC = tailC 1 (tailC 6 liveC) from tail_tail 6 1 liveC, head_tail] at t4
  have t3 := piece_ok hH hm piece3 t4 (Nat.le_trans (by decide) hn)
  rw [show tailC 6 liveC = tailC 1 (tailC 5 liveC) from tail_tail 5 1 liveC, head_tail] at t3
  have t2 := piece_ok hH hm piece2 t3 (Nat.le_trans (by decide) hn)
  rw [show tailC 5 liveC = tailC 1 (tailC 4 liveC) from tail_tail 4 1 liveC, head_tail] at t2
  have t1 := piece_ok hH hm piece1 t2 (Nat.le_trans (by decide) hn)
  rw [show tailC 4 liveC = tailC 4 (tailC 0 liveC) from tail_tail 0 4 liveC, head_tail] at t1
  rw [show tailC 0 liveC = liveC from by cases liveC <;> rfl] at t1
  exact body_true (F := Go.Proofs.Tryz.f4) (c := liveC) Go.Proofs.Tryz.func4 (by kernel_rfl) t1 hx hmk hres w
end Go.Ex
