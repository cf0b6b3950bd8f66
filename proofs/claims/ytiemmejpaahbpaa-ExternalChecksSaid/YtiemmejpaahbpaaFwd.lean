/-
  slices.Clone at hops; external.forwarded.
-/
import Derived.Test.YtiemmejpaahbpaaLkp
namespace Go.Proofs.Ytiemmejpaahbpaa
open Go.RowKit

theorem clone_post {w w1 w2 : World} {l : List Ls.Hop} {v v' : Value} (B : Below w.heap.size w w1) (O : w1.ownsRow w.heap.size 53 3 v 0 []) (O2 : w2.ownsRow w.heap.size 53 3 v' (0 + (l.map hopE).length) ([] ++ (l.map hopE).flatten)) (G : w1.grownBy w2 v.ownBlock) : MrgPost w l (.returned v') w2 :=
  ⟨v', rfl, by rw [List.length_map, Nat.zero_add, List.nil_append] at O2; exact O2, Below.owned B B.size O G⟩

set_option maxHeartbeats 1000000 in
set_option maxRecDepth 100000 in
theorem clone_calls (w : World) (v : Value) (l : List Ls.Hop) (h : HopsAt w v l) (hn : l.length * 16 ≤ 140737488355328) :
    Calls Try.prog 56 #[v] w (MrgPost w l) := by
  obtain ⟨i0, hi, hz0, hz1, hz2⟩ := info_parts Try.infoHop
  have HI := Lib.hid hi
  have HZ0 := Lib.hid hz0
  have HZ1 := Lib.hid hz1
  have HZ2 := Lib.hid hz2
  clear hi hz0 hz1 hz2
  have H := Lib.hid h
  obtain ⟨a, cap, rfl, h1, h2, h3, -⟩ := h.get
  have K1 : Hid (0 + (l.map hopE).length ≤ maxLen) := Lib.hid (by rw [List.length_map]; unfold maxLen; omega)
  have K2 : Hid ((0 + (l.map hopE).length) * 16 ≤ 140737488355328) := Lib.hid (by rw [List.length_map]; omega)
  clear h hn h2
  cases a with
  | none =>
    have c0 := h3 rfl
    have l0 : l.length = 0 := by omega
    have l1 : l = [] := List.length_eq_zero_iff.1 l0
    subst l1
    subst c0
    clear h1 h3 l0 H K1 K2
    simp only [List.length_nil]
    have NL := fun W => Lib.run_eql_slice_nil (P := Try.prog) W 26 53 none 0 0 0 0 Try.underlying26
    go_enter Try.func56, Try.ntmps56
    go_wp2_with fail
    go_ret
    exact ⟨_, rfl, World.ownsRow_nil _ _ _ _, Below.refl _ _⟩
  | some ad =>
    clear h1 h3
    have NL := fun W => Lib.run_eql_slice_nil (P := Try.prog) W 26 53 (some ad) l.length cap 0 0 Try.underlying26
    have O0 : Hid ((w.alloc (.cells #[] 53)).ownsRow w.heap.size 53 3 (.slice (some ⟨w.heap.size, 0, none⟩) 0 0) 0 []) := Lib.hid (World.ownsRow_made w #[] 0 (Nat.le_refl _) (by unfold maxLen; omega) rfl)
    have HA := Lib.hid (H.out.below ((Below.refl _ _).alloc (Nat.le_refl _) (.cells #[] 53)))
    have B0 : Hid (Below w.heap.size w (w.alloc (.cells #[] 53))) := Lib.hid ((Below.refl _ _).alloc (Nat.le_refl _) _)
    clear H
    go_enter Try.func56, Try.ntmps56
    go_wp2_with (at_builtin; refine wpList_append_sl rfl _ _ _ rfl w.heap.size 53 i0 _ 3 16 Try.underlying26 HI.out HZ0.out HZ1.out HZ2.out rfl (by decide) _ 0 [] rfl O0.out _ (l.map hopE) rfl HA.out (hopE_len l) (hopE_one l) K1.out K2.out (by simp) ?_; intro v' w2 O2 G2; have PO := Lib.hid (clone_post B0.out O0.out O2 G2); clear O2 G2)
    go_ret
    exact PO.out

end Go.Proofs.Ytiemmejpaahbpaa
