/-
  slices.Clone at interfaces and at ranges.
-/
import Derived.Test.YtombnejipaoinaaGreatRck
namespace Go.Proofs.YtombnejipaoinaaGreat
open Go.RowKit

def ClnPost (t : TypeId) (k : Nat) (w : World) (css : List (List Value)) (e : Ending) (w' : World) : Prop := ∃ v', e = .returned v' ∧ w'.ownsRow w.heap.size t k v' css.length css.flatten ∧ Below w.heap.size w w'

theorem cln_post {t : TypeId} {k : Nat} {w w1 w2 : World} {css : List (List Value)} {v v' : Value} (B : Below w.heap.size w w1) (O : w1.ownsRow w.heap.size t k v 0 []) (O2 : w2.ownsRow w.heap.size t k v' (0 + css.length) ([] ++ css.flatten)) (G : w1.grownBy w2 v.ownBlock) : ClnPost t k w css (.returned v') w2 :=
  ⟨v', rfl, by rw [Nat.zero_add, List.nil_append] at O2; exact O2, Below.owned B B.size O G⟩

theorem Tryz.infoIfc : (Tryz.prog.info? 70).map (fun i => (i.zero, i.size, i.bytes)) = some (some (.agg #[.int .i64 0, .int .u32 0, .int .i64 0, .int .u32 0, .int .u32 0, .int .i64 0, .int .i64 0, .int .i64 0, .int .i64 0]), 9, 64) := by kernel_rfl
theorem if9E_len (l : List If9) : ∀ c ∈ l.map if9E, c.length = 9 := by
  intro c hc
  obtain ⟨x, -, rfl⟩ := List.mem_map.1 hc
  rfl
theorem if9E_one (l : List If9) : ∀ c ∈ l.map if9E, ∀ u ∈ c, u.oneCell' = true := by
  intro c hc u hu
  obtain ⟨x, -, rfl⟩ := List.mem_map.1 hc
  simp only [if9E, List.mem_cons, List.not_mem_nil, or_false] at hu
  rcases hu with rfl | rfl | rfl | rfl | rfl | rfl | rfl | rfl | rfl <;> rfl

set_option maxHeartbeats 1000000 in
set_option maxRecDepth 100000 in
theorem cloneIfc (w : World) (v : Value) (l : List If9) (h : SlV 9 w v (l.map if9E)) (hn : l.length * 64 ≤ 140737488355328) :
    Calls Tryz.prog 14 #[v] w (ClnPost 70 9 w (l.map if9E)) := by
  obtain ⟨i0, hi, hz0, hz1, hz2⟩ := info_parts Tryz.infoIfc
  have HI := Lib.hid hi
  have HZ0 := Lib.hid hz0
  have HZ1 := Lib.hid hz1
  have HZ2 := Lib.hid hz2
  clear hi hz0 hz1 hz2
  have H := Lib.hid h
  obtain ⟨a, cap, rfl, h1, h2, h3, -⟩ := h
  have K1 : Hid (0 + (l.map if9E).length ≤ maxLen) := Lib.hid (by rw [List.length_map]; unfold maxLen; omega)
  have K2 : Hid ((0 + (l.map if9E).length) * 64 ≤ 140737488355328) := Lib.hid (by rw [List.length_map]; omega)
  have EL : (l.map if9E).length = l.length := List.length_map ..
  clear hn h2
  cases a with
  | none =>
    have c0 := h3 rfl
    have l0 : l.length = 0 := by omega
    have l1 : l = [] := List.length_eq_zero_iff.1 l0
    subst l1
    subst c0
    clear h1 h3 l0 H K1 K2 EL
    simp only [List.map_nil, List.length_nil]
    have NL := fun W => Lib.run_eql_slice_nil (P := Tryz.prog) W 23 70 none 0 0 0 0 Tryz.underlying23
    go_enter Tryz.func14, Tryz.ntmps14
    go_wp2_with fail
    go_ret
    exact ⟨_, rfl, World.ownsRow_nil _ _ _ _, Below.refl _ _⟩
  | some ad =>
    rw [EL] at h1
    clear h1 h3
    have NL := fun W => Lib.run_eql_slice_nil (P := Tryz.prog) W 23 70 (some ad) l.length cap 0 0 Tryz.underlying23
    have O0 : Hid ((w.alloc (.cells #[] 70)).ownsRow w.heap.size 70 9 (.slice (some ⟨w.heap.size, 0, none⟩) 0 0) 0 []) := Lib.hid (World.ownsRow_made w #[] 0 (Nat.le_refl _) (by unfold maxLen; omega) rfl)
    have HA := Lib.hid (H.out.below ((Below.refl _ _).alloc (Nat.le_refl _) (.cells #[] 70)))
    have B0 : Hid (Below w.heap.size w (w.alloc (.cells #[] 70))) := Lib.hid ((Below.refl _ _).alloc (Nat.le_refl _) _)
    rw [EL] at HA
    clear H
    rw [EL]
    go_enter Tryz.func14, Tryz.ntmps14
    go_wp2_with (at_builtin; refine wpList_append_sl rfl _ _ _ rfl w.heap.size 70 i0 _ 9 64 Tryz.underlying23 HI.out HZ0.out HZ1.out HZ2.out rfl (by decide) _ 0 [] rfl O0.out _ (l.map if9E) rfl HA.out (if9E_len l) (if9E_one l) K1.out K2.out (by simp) ?_; intro v' w2 O2 G2; have PO := Lib.hid (cln_post B0.out O0.out O2 G2); clear O0 HA B0 K1 K2 O2 G2)
    go_ret
    exact PO.out

theorem Tryz.infoArg : (Tryz.prog.info? 77).map (fun i => (i.zero, i.size, i.bytes)) = some (some (.agg #[.int .u32 0, .int .u32 0, .int .i64 0, .bool false]), 4, 32) := by kernel_rfl
theorem agE_len (l : List Arg) : ∀ c ∈ l.map agE, c.length = 4 := by
  intro c hc
  obtain ⟨x, -, rfl⟩ := List.mem_map.1 hc
  rfl
theorem agE_one (l : List Arg) : ∀ c ∈ l.map agE, ∀ u ∈ c, u.oneCell' = true := by
  intro c hc u hu
  obtain ⟨x, -, rfl⟩ := List.mem_map.1 hc
  simp only [agE, List.mem_cons, List.not_mem_nil, or_false] at hu
  rcases hu with rfl | rfl | rfl | rfl <;> rfl

set_option maxHeartbeats 1000000 in
set_option maxRecDepth 100000 in
theorem cloneArg (w : World) (v : Value) (l : List Arg) (h : SlV 4 w v (l.map agE)) (hn : l.length * 32 ≤ 140737488355328) :
    Calls Tryz.prog 15 #[v] w (ClnPost 77 4 w (l.map agE)) := by
  obtain ⟨i0, hi, hz0, hz1, hz2⟩ := info_parts Tryz.infoArg
  have HI := Lib.hid hi
  have HZ0 := Lib.hid hz0
  have HZ1 := Lib.hid hz1
  have HZ2 := Lib.hid hz2
  clear hi hz0 hz1 hz2
  have H := Lib.hid h
  obtain ⟨a, cap, rfl, h1, h2, h3, -⟩ := h
  have K1 : Hid (0 + (l.map agE).length ≤ maxLen) := Lib.hid (by rw [List.length_map]; unfold maxLen; omega)
  have K2 : Hid ((0 + (l.map agE).length) * 32 ≤ 140737488355328) := Lib.hid (by rw [List.length_map]; omega)
  have EL : (l.map agE).length = l.length := List.length_map ..
  clear hn h2
  cases a with
  | none =>
    have c0 := h3 rfl
    have l0 : l.length = 0 := by omega
    have l1 : l = [] := List.length_eq_zero_iff.1 l0
    subst l1
    subst c0
    clear h1 h3 l0 H K1 K2 EL
    simp only [List.map_nil, List.length_nil]
    have NL := fun W => Lib.run_eql_slice_nil (P := Tryz.prog) W 24 77 none 0 0 0 0 Tryz.underlying24
    go_enter Tryz.func15, Tryz.ntmps15
    go_wp2_with fail
    go_ret
    exact ⟨_, rfl, World.ownsRow_nil _ _ _ _, Below.refl _ _⟩
  | some ad =>
    rw [EL] at h1
    clear h1 h3
    have NL := fun W => Lib.run_eql_slice_nil (P := Tryz.prog) W 24 77 (some ad) l.length cap 0 0 Tryz.underlying24
    have O0 : Hid ((w.alloc (.cells #[] 77)).ownsRow w.heap.size 77 4 (.slice (some ⟨w.heap.size, 0, none⟩) 0 0) 0 []) := Lib.hid (World.ownsRow_made w #[] 0 (Nat.le_refl _) (by unfold maxLen; omega) rfl)
    have HA := Lib.hid (H.out.below ((Below.refl _ _).alloc (Nat.le_refl _) (.cells #[] 77)))
    have B0 : Hid (Below w.heap.size w (w.alloc (.cells #[] 77))) := Lib.hid ((Below.refl _ _).alloc (Nat.le_refl _) _)
    rw [EL] at HA
    clear H
    rw [EL]
    go_enter Tryz.func15, Tryz.ntmps15
    go_wp2_with (at_builtin; refine wpList_append_sl rfl _ _ _ rfl w.heap.size 77 i0 _ 4 32 Tryz.underlying24 HI.out HZ0.out HZ1.out HZ2.out rfl (by decide) _ 0 [] rfl O0.out _ (l.map agE) rfl HA.out (agE_len l) (agE_one l) K1.out K2.out (by simp) ?_; intro v' w2 O2 G2; have PO := Lib.hid (cln_post B0.out O0.out O2 G2); clear O0 HA B0 K1 K2 O2 G2)
    go_ret
    exact PO.out

end Go.Proofs.YtombnejipaoinaaGreat
