/-
  The document's examples of external routes, in plain words.
-/
import Derived.Test.YtiemmejpaahbpaaRtw
import Derived.Test.YtiemmejpaahbpaaSeal
namespace Go.Proofs.Ytiemmejpaahbpaa
open Go.RowKit

def exL (second : Bool) : Lsa := ⟨5, 0, 0, 4, 1, 0, 0, false, false, none, 0, 0, none, 0, 0, 3, second, 0, 0⟩
/-- sealed -/
def exS (second : Bool) (s : Int) (la : Option Addr) (lc : Nat) (aa : Option Addr) (ac : Nat) : Lsa := { exL second with sum := s, la := la, ln := 0, lc := lc, aa := aa, an := 0, ac := ac }
def exH : Ls.Hop := ⟨1, 5, 4⟩
def exR (b : Nat) : Rch := ⟨4, 0, false, false, true, 12, some ⟨b, 0, none⟩, 1, 1, [exH]⟩
def exO (second : Bool) : Rp := ⟨⟨0, 0⟩, 5, 0, if second then 12 else 15, second, if second then 3 else 0, 0, [exH]⟩

theorem exL_ok (b : Bool) : OkL (exL b) := by cases b <;> (constructor <;> decide)
theorem exL_oh (b : Bool) : OkH (exL b) := by cases b <;> (constructor <;> decide)
theorem exL_chk (b : Bool) : chkP (exL b) = 0 := by cases b <;> decide
theorem exS_way (second : Bool) (s : Int) (la : Option Addr) (lc : Nat) (aa : Option Addr) (ac : Nat) (b : Nat) : offWay (exS second s la lc aa ac) [exR b] [] = (12, [exH], true) := by
  unfold offWay
  have e : wayP (exS second s la lc aa ac).router [exR b] = ⟨true, false, 12, [exH]⟩ := by rfl
  rw [e]; rfl
theorem exS_off (second : Bool) (s : Int) (la : Option Addr) (lc : Nat) (aa : Option Addr) (ac : Nat) (b : Nat) : offR (exS second s la lc aa ac) [exR b] [] = exO second := by
  unfold offR
  rw [exS_way]
  cases second <;> rfl
theorem exS_okb (second : Bool) (s : Int) (la : Option Addr) (lc : Nat) (aa : Option Addr) (ac : Nat) (b : Nat) : offOk (exS second s la lc aa ac) [exR b] [] = true := by
  unfold offOk
  rw [exS_way, exS_off]
  cases second <;> rfl
theorem exS_tab (second : Bool) (s : Int) (la : Option Addr) (lc : Nat) (aa : Option Addr) (ac : Nat) (b : Nat) : tabOf 1 [exR b] [] [exS second s la lc aa ac] = upd (fun _ => none) ⟨0, 0⟩ (exO second) := by
  unfold tabOf
  rw [List.foldl_cons, List.foldl_nil]
  unfold tabStep
  rw [exS_okb, exS_off]
  cases second <;> rfl

theorem one_of_tab {l : List RtH} {r : Rp} {p : Ls.Pfx} (hp : (l.map RtH.pure).Pairwise fun a b => Ls.pfxLt a.pfx b.pfx = true) (h : ∀ x, x ∈ l.map RtH.pure ↔ upd (fun _ => none) p r x.pfx = some x) (hr : r.pfx = p) : ∃ x, l = [x] ∧ x.pure = r := by
  have hm : ∀ x ∈ l.map RtH.pure, x = r := by
    intro x hx
    have := (h x).1 hx
    unfold upd at this
    split at this
    · exact (Option.some.inj this).symm
    · cases this
  have hi : r ∈ l.map RtH.pure := (h r).2 (by unfold upd; rw [if_pos hr])
  match l, hp, hm, hi with
  | [], _, _, hi => simp at hi
  | [x], _, hm, _ => exact ⟨x, rfl, hm _ (by simp)⟩
  | x :: y :: l, hp, hm, _ =>
    have h1 := hm x.pure (by simp)
    have h2 := hm y.pure (by simp)
    have := (List.pairwise_cons.1 hp).1 y.pure (by simp)
    rw [h1, h2, Ls.pfxLin.irr] at this
    cases this

theorem exBd (second : Bool) (s : Int) (la : Option Addr) (lc : Nat) (aa : Option Addr) (ac : Nat) (b : Nat) : RBd [exS second s la lc aa ac] [exR b] [] 1 := by
  refine ⟨?_, ?_, ?_, fun y hy => by simp at hy, by simp [hopSum, exR], ?_, ?_, ?_, by simp, by simp⟩
  · intro x hx; rw [List.mem_singleton] at hx; subst hx; have h := exL_ok second; exact ⟨h.id0, h.id1, h.r0, h.r1, h.f0, h.f1⟩
  · intro x hx _; rw [List.mem_singleton] at hx; subst hx; exact ⟨(by decide : (0 : Int) ≤ 0), (by decide : (0 : Int) ≤ 32)⟩
  · intro x hx _; rw [List.mem_singleton] at hx; subst hx; exact ⟨(by decide : (0 : Int) ≤ 3), (by decide : (3 : Int) ≤ 4294967296)⟩
  · intro x hx; simp [lookR, lookO, zeroRtH]
  · intro x hx; rw [List.mem_singleton] at hx; subst hx; rw [exS_way]; exact ⟨by decide, by decide⟩
  · intro x hx; rw [List.mem_singleton] at hx; subst hx; rw [exS_off]; cases second <;> decide

end Go.Proofs.Ytiemmejpaahbpaa
