/-
  The plain part of HeapSorts: the table while it is filled, and while it is emptied.
-/
import Derived.Test.YtnlcckajldkchaaAwk
namespace Go.Proofs.Ytnlcckajldkchaa
open Go.RowKit

/-- the table after k of the keys have been set -/
def filled (zs : List Int) (k : Nat) : Hp.Tb := ⟨List.replicate k true ++ List.replicate (zs.length - k) false, zs.take k ++ List.replicate (zs.length - k) 0⟩

theorem filled_zero (zs : List Int) : filled zs 0 = tnew zs.length := by simp [filled, tnew]

theorem set_mid {α : Type} (a : List α) (n : Nat) (b c : α) (k : Nat) (h : a.length = k) (hk : k < n) : (a ++ List.replicate (n - k) b).set k c = (a ++ [c]) ++ List.replicate (n - (k + 1)) b := by
  rw [List.set_append_right _ _ (by omega), h, Nat.sub_self, show n - k = n - (k + 1) + 1 from by omega, List.replicate_succ, List.set_cons_zero, List.append_assoc]; rfl

theorem filled_succ (zs : List Int) (k : Nat) (h : k < zs.length) : tset (filled zs k) k (zs.getD k 0) = filled zs (k + 1) := by
  unfold tset filled
  rw [set_mid _ _ _ _ _ (by simp) h, set_mid _ _ _ _ _ (by simp; omega) h]
  congr 1
  · rw [List.replicate_succ' (n := k)]
  · rw [List.take_add_one, List.getD_eq_getElem?_getD]; simp [h]

theorem filled_tin (zs : List Int) (k : Nat) (h : k < zs.length) : tin (filled zs k) (k : Nat) = true := by
  simp [tin, filled]; omega

/-- while it is emptied: n items are left, and all of them come behind the last one -/
structure Rest (zs : List Int) (t : Hp.Tb) (n : Nat) (last least : Int) : Prop where
  li : t.ins.length = zs.length
  ky : t.keys = zs
  cn : tlen t = n
  lo : -1 ≤ last
  hi : last < zs.length
  aft : ∀ j, j < zs.length → t.ins.getD j false = true → last < 0 ∨ least < zs.getD j 0 ∨ (least = zs.getD j 0 ∧ last < j)

theorem rest_start (zs : List Int) : Rest zs (filled zs zs.length) zs.length (-1) 0 :=
  ⟨by simp [filled], by simp [filled], by simp [filled, tlen], by omega, by omega, fun _ _ _ => .inl (by omega)⟩

structure Step (zs : List Int) (t : Hp.Tb) (n : Nat) (last least : Int) (i : Nat) (k : Int) : Prop where
  tm : tmin t = (i, k, true)
  len : tlen (tpop t) = n - 1
  hi : i < zs.length
  key : zs.getD i 0 = k
  next : Rest zs (tpop t) (n - 1) i k
  ok : last < 0 ∨ least < k ∨ (least = k ∧ last < i)

theorem Rest.step {zs : List Int} {t : Hp.Tb} {n : Nat} {last least : Int} (r : Rest zs t n last least) (h : 0 < n) : ∃ i k, Step zs t n last least i k := by
  have ok := Hp.mn_ok t t.ins.length
  have some : (tmin t).2.2 = true := by
    cases hb : (tmin t).2.2 with
    | true => rfl
    | false =>
      have := (ok.1 hb).2
      have c := (Hp.count_pos_iff t.ins).1 (by have := r.cn; unfold tlen at this; omega)
      obtain ⟨x, hx, e⟩ := c
      rw [this x hx] at e; cases e
  obtain ⟨o1, o2, o3, o4⟩ := ok.2 some
  obtain ⟨i, k, b, e⟩ : ∃ i k b, tmin t = (i, k, b) := ⟨_, _, _, rfl⟩
  have e' : Hp.mn t t.ins.length = (i, k, b) := e
  rw [e'] at o1 o2 o3 o4
  rw [e] at some
  simp only at o1 o2 o3 o4 some
  subst some
  have hi : i < zs.length := by rw [← r.li]; exact o1
  have kk : zs.getD i 0 = k := by rw [o3, r.ky]
  have tp : tpop t = tdrop t i := by unfold tpop; rw [e]; rfl
  have cn := Hp.count_set_false t.ins i o1 o2
  have len : tlen (tpop t) = n - 1 := by rw [tp]; show (t.ins.set i false).count true = _; rw [cn.1]; have := r.cn; unfold tlen at this; omega
  refine ⟨i, k, e, len, hi, kk, ⟨by rw [tp]; simp [tdrop, r.li], by rw [tp]; exact r.ky, len, by omega, by omega, fun j hj hin => ?_⟩, ?_⟩
  · rw [tp] at hin
    have hin : (t.ins.set i false).getD j false = true := hin
    rw [Hp.getD_set _ _ _ _ _ o1] at hin
    by_cases ej : j = i
    · rw [if_pos ej] at hin; cases hin
    · rw [if_neg ej] at hin
      have := o4 j (by rw [r.li]; exact hj) hin
      rw [r.ky] at this
      right; omega
  · have := r.aft i hi o2; rw [kk] at this; exact this

theorem Rest.none {zs : List Int} {t : Hp.Tb} {last least : Int} (r : Rest zs t 0 last least) : (tmin t).2.2 = false := by
  cases hb : (tmin t).2.2 with
  | false => rfl
  | true =>
    have ok := (Hp.mn_ok t t.ins.length).2 hb
    have := (Hp.count_pos_iff t.ins).2 ⟨_, ok.1, ok.2.1⟩
    have c := r.cn; unfold tlen at c; omega

end Go.Proofs.Ytnlcckajldkchaa
