/-
  slices.SortFunc at routes, by their prefixes.
-/
import Derived.Test.YtogdconliofblaaGreatMrg
import Derived.Test.YtogdconliofblaaGreatRtd
namespace Go.Proofs.YtogdconliofblaaGreat
open Go.RowKit

def RtsOwn (base : Nat) (w : World) (v : Value) (l : List Rt) : Prop := w.ownsRow base 57 9 v l.length (l.map rtE).flatten
def rtPC (a b : Rt) : Int := pfxCmp a.pfx b.pfx

theorem rtPC_lt (a b : Rt) : ltOf rtPC a b = Ls.pfxLt a.pfx b.pfx := by
  unfold ltOf rtPC pfxCmp
  cases h : Ls.pfxLt a.pfx b.pfx with
  | true => rfl
  | false => simp; split <;> omega

theorem rtSWO : Go.Sort.SWO (ltOf rtPC) := by
  have e : ltOf rtPC = fun a b => Ls.pfxLt a.pfx b.pfx := by funext a b; exact rtPC_lt a b
  rw [e]
  refine ⟨fun a => Ls.pfxLin.irr _, fun a b c => Ls.pfxLin.tr _ _ _, fun x y z h1 h2 => ?_⟩
  cases c : Ls.pfxLt x.pfx z.pfx with
  | false => rfl
  | true =>
    cases d : Ls.pfxLt y.pfx x.pfx with
    | true => have := Ls.pfxLin.tr _ _ _ d c; rw [h2] at this; cases this
    | false =>
      have := Ls.pfxLin.tot _ _ h1 d
      rw [this] at c
      rw [c] at h2; cases h2

theorem cmpLaysRt (blk off size : Nat) (w : World) : CmpLays Tryz.prog 51 #[] rtE 9 rtPC blk off size w :=
  fun _ _ _ _ x y => (rorder_calls x y _).mono fun _ _ ⟨he, hg⟩ => ⟨he, hg.grow⟩

def SortRtPost (base : Nat) (w : World) (v : Value) (l : List Rt) (e : Ending) (w' : World) : Prop :=
  e = .returned (.tuple #[]) ∧ ∃ l', l'.Perm l ∧ (l'.Pairwise fun a b => Ls.pfxLt b.pfx a.pfx = false) ∧ RtsOwn base w' v l' ∧ Below base w w'

theorem rtE_one (x : Rt) (v : Value) (hv : v ∈ rtE x) : v.oneCell' = true := by
  simp [rtE] at hv
  rcases hv with rfl | rfl | rfl | rfl | rfl | rfl | rfl | rfl | rfl <;> rfl

theorem sort_rts (base : Nat) (w : World) (v : Value) (l : List Rt) (h : RtsOwn base w v l) (hl : l.length < 4611686018427387904) :
    Calls Tryz.prog 50 #[v, .func (.func 51) #[] #[]] w (SortRtPost base w v l) := by
  rcases own_cases h with ⟨rfl, h0⟩ | ⟨g, cap, cur, rfl, hb, hlt, _⟩
  · refine (sort_none_rt none 0 (.func (.func 51) #[] #[]) w).mono ?_
    rintro e w' ⟨rfl, rfl⟩
    have : l = [] := List.length_eq_zero_iff.1 h0
    subst this
    exact ⟨rfl, [], List.Perm.refl _, List.Pairwise.nil, h, Below.refl _ _⟩
  · have eg : ∀ args w, (callFunc 51 args).run Tryz.prog w = .ok (.enter 51 args) w := enters_of Tryz.func51 (by kernel_rfl) rfl
    have hcon := AnyQ.slices_SortFunc Tryz.sortRoute 9 Tryz.isAgg57 Tryz.sizeOf57 rtE (fun _ => rfl) (fun x v hv => rtE_one x v hv) rtPC rtSWO 51 #[] g 0 cap l.toArray w eg (cmpLaysRt g 0 _ w) (own_holds (enc := rtE) (k := 9) (fun _ => rfl) h) hlt (by simpa using hl)
    change Calls Tryz.prog 50 _ _ _ at hcon
    rw [List.size_toArray] at hcon
    refine hcon.mono ?_
    rintro e w' ⟨rfl, d', n, os, hp, hs, rfl⟩
    obtain ⟨e1, e2, e3⟩ := sorted_list (l := l) (by simpa using hp) (by simpa using hs)
    obtain ⟨o1, o2⟩ := own_sorted (enc := rtE) (k := 9) (fun _ => rfl) h (m := n) (d' := d') (os := os) e1
    refine ⟨rfl, d'.toList, e2, ?_, ?_, ?_⟩
    · refine e3.imp fun {a b} h => ?_
      rw [← rtPC_lt]; exact h
    · have e4 : d'.toList.length = l.length := by simpa using e1
      unfold RtsOwn
      rw [e4]; exact o1
    · refine ⟨o2.os, o2.tape, o2.output, o2.size, fun i hi => o2.block i (by omega) (fun e => by cases e; omega)⟩

end Go.Proofs.YtogdconliofblaaGreat
