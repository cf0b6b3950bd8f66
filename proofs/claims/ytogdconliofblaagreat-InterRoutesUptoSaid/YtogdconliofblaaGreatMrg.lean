/-
  intra.Merge: the hops of both lists, ascending, each once.
-/
import Derived.Test.YtogdconliofblaaGreatCpt
import Derived.Test.YtogdconliofblaaGreatSrw
import Derived.Test.YtogdconliofblaaGreatShl
namespace Go.Proofs.YtogdconliofblaaGreat
open Go.RowKit

theorem cmpI_cases (a b : Int) : (a < b ∧ cmpI a b = -1) ∨ (b < a ∧ cmpI a b = 1) ∨ (a = b ∧ cmpI a b = 0) := by
  by_cases h1 : a < b
  · exact .inl ⟨h1, cmpI_lt h1⟩
  · by_cases h2 : b < a
    · exact .inr (.inl ⟨h2, cmpI_gt h2⟩)
    · exact .inr (.inr ⟨by omega, cmpI_eq (by omega)⟩)

theorem hopCmp_lt (a b : Ls.Hop) : ltOf hopCmp a b = Ls.hopLt a b := by
  obtain ⟨a1, a2, a3⟩ := a
  obtain ⟨b1, b2, b3⟩ := b
  unfold ltOf hopCmp Ls.hopLt Ls.lexB
  simp only [orI]
  rcases cmpI_cases a1 b1 with ⟨h1, e1⟩ | ⟨h1, e1⟩ | ⟨h1, e1⟩ <;> rcases cmpI_cases a2 b2 with ⟨h2, e2⟩ | ⟨h2, e2⟩ | ⟨h2, e2⟩ <;> rcases cmpI_cases a3 b3 with ⟨h3, e3⟩ | ⟨h3, e3⟩ | ⟨h3, e3⟩ <;>
    rw [e1, e2, e3, Bool.eq_iff_iff] <;> simp <;> omega

theorem hopSWO : Go.Sort.SWO (ltOf hopCmp) := by
  have e : ltOf hopCmp = Ls.hopLt := by funext a b; exact hopCmp_lt a b
  rw [e]
  refine ⟨Ls.hopLin.irr, Ls.hopLin.tr, fun x y z h1 h2 => ?_⟩
  cases c : Ls.hopLt x z with
  | false => rfl
  | true =>
    cases d : Ls.hopLt y x with
    | true => have := Ls.hopLin.tr _ _ _ d c; rw [h2] at this; cases this
    | false =>
      have := Ls.hopLin.tot _ _ h1 d
      subst this
      rw [h2] at c; cases c

theorem cmpLaysHop (blk off size : Nat) (w : World) : CmpLays Tryz.prog 95 #[] hopE 3 hopCmp blk off size w :=
  fun _ _ _ _ x y => (order_calls x y _).mono fun _ _ ⟨he, hg⟩ => ⟨he, hg.grow⟩

def SortPost (base : Nat) (w : World) (v : Value) (l : List Ls.Hop) (e : Ending) (w' : World) : Prop :=
  e = .returned (.tuple #[]) ∧ ∃ l', l'.Perm l ∧ Ls.Up Ls.hopLt l' ∧ HopsOwn base w' v l' ∧ Below base w w'

theorem sort_hops (base : Nat) (w : World) (v : Value) (l : List Ls.Hop) (h : HopsOwn base w v l) (hl : l.length < 4611686018427387904) :
    Calls Tryz.prog 94 #[v, .func (.func 95) #[] #[]] w (SortPost base w v l) := by
  rcases own_cases h with ⟨rfl, h0⟩ | ⟨g, cap, cur, rfl, hb, hlt, _⟩
  · refine (sort_none_hop none 0 (.func (.func 95) #[] #[]) w).mono ?_
    rintro e w' ⟨rfl, rfl⟩
    have : l = [] := List.length_eq_zero_iff.1 h0
    subst this
    exact ⟨rfl, [], List.Perm.refl _, List.Pairwise.nil, h, Below.refl _ _⟩
  · have eg : ∀ args w, (callFunc 95 args).run Tryz.prog w = .ok (.enter 95 args) w := enters_of Tryz.func95 (by kernel_rfl) rfl
    have hcon := AnyQ.slices_SortFunc Tryz.sortHop 3 Tryz.isAgg60 Tryz.sizeOf60 hopE (fun _ => rfl) (fun x v hv => by simp [hopE] at hv; rcases hv with rfl | rfl | rfl <;> rfl) hopCmp hopSWO 95 #[] g 0 cap l.toArray w eg (cmpLaysHop g 0 _ w) (own_holds (enc := hopE) (k := 3) (fun _ => rfl) h) hlt (by simpa using hl)
    change Calls Tryz.prog 94 _ _ _ at hcon
    rw [List.size_toArray] at hcon
    refine hcon.mono ?_
    rintro e w' ⟨rfl, d', n, os, hp, hs, rfl⟩
    obtain ⟨e1, e2, e3⟩ := sorted_list (l := l) (by simpa using hp) (by simpa using hs)
    obtain ⟨o1, o2⟩ := own_sorted (enc := hopE) (k := 3) (fun _ => rfl) h (m := n) (d' := d') (os := os) e1
    refine ⟨rfl, d'.toList, e2, ?_, ?_, ?_⟩
    · unfold Ls.Up
      refine e3.imp fun {a b} h => ?_
      rw [← hopCmp_lt]; exact h
    · have e4 : d'.toList.length = l.length := by simpa using e1
      unfold HopsOwn
      rw [e4]; exact o1
    · refine ⟨o2.os, o2.tape, o2.output, o2.size, fun i hi => o2.block i (by omega) (fun e => by cases e; omega)⟩

theorem HopsOwn.base {base base' : Nat} {w : World} {v : Value} {l : List Ls.Hop} (h : HopsOwn base w v l) (hb : base' ≤ base) : HopsOwn base' w v l := by
  refine ⟨h.1, ?_⟩
  rcases h.2 with h | ⟨g, cap, cur, h1, h2, h3⟩
  · exact .inl h
  · exact .inr ⟨g, cap, cur, h1, Nat.le_trans hb h2, h3⟩

def MrgPost (w : World) (l : List Ls.Hop) (e : Ending) (w' : World) : Prop := ∃ v, e = .returned v ∧ HopsOwn w.heap.size w' v l ∧ Below w.heap.size w w'

set_option maxHeartbeats 1000000 in
theorem merge_calls (w : World) (va vb : Value) (la lb : List Ls.Hop) (ha : HopsAt w va la) (hb : HopsAt w vb lb) (hn : (la.length + lb.length) * 16 ≤ 140737488355328) :
    Calls Tryz.prog 59 #[va, vb] w (MrgPost w (Ls.merge Ls.hopLt la lb)) := by
  have HA := Lib.hid ha
  have HB := Lib.hid hb
  have HN := Lib.hid hn
  obtain ⟨aa, ca, ea, -⟩ := ha.get
  obtain ⟨ab, cb, eb, -⟩ := hb.get
  subst ea eb
  clear ha hb hn
  go_enter Tryz.func59, Tryz.ntmps59
  go_wp2_with fail
  refine (concat2 _ _ _ la lb (HA.out.below ((Below.refl _ _).alloc (Nat.le_refl _) _)) (HB.out.below ((Below.refl _ _).alloc (Nat.le_refl _) _)) _ _ (blk_cell (alloc_new w _) rfl) (blk_cell (alloc_new w _) rfl) HN.out).mono ?_
  rintro e w1 ⟨v, rfl, O, B⟩
  have B1 : Below w.heap.size w w1 := ((Below.refl _ _).alloc (Nat.le_refl _) _).trans (B.mono (by simp))
  have O1 : HopsOwn w.heap.size w1 v (la ++ lb) := HopsOwn.base O (by simp)
  clear O B
  go_wp2_with fail
  refine (sort_hops w.heap.size w1 v (la ++ lb) O1 (by have := HN.out; rw [List.length_append]; omega)).mono ?_
  rintro e w2 ⟨rfl, l', P, U, O2, B2⟩
  have B3 := B1.trans B2
  have E : Hid (Ls.compact l' = Ls.merge Ls.hopLt la lb) := Lib.hid (Ls.compact_merge Ls.hopLin U fun x => by rw [P.mem_iff, List.mem_append])
  clear O1 B1 B2 P U
  go_wp2_with fail
  refine (compact_any w.heap.size w2 v l' O2).mono ?_
  rintro e w3 ⟨v', rfl, O3, B4⟩
  have B5 := B3.trans B4
  rw [E.out] at O3
  clear O2 B3 B4
  go_wp2_with fail
  go_ret
  exact ⟨_, rfl, O3, B5⟩

end Go.Proofs.YtogdconliofblaaGreat
