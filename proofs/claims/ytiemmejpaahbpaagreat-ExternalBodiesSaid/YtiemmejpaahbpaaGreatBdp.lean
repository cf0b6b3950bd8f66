/-
  The advertisements of announcements: plain.
-/
import Derived.Test.YtiemmejpaahbpaaGreatAnn
import Derived.Test.YtiemmejpaahbpaaGreatSst
import Derived.Test.YtiemmejpaahbpaaGreatHed
namespace Go.Proofs.YtiemmejpaahbpaaGreat
open Go.RowKit

/-- the advertisement of an announcement -/
def bodL (router : Int) (x : Ext) : Lsa := ⟨5, x.pfx.addr, x.pfx.len, router, 0, 0, 0, false, false, none, 0, 0, none, 0, 0, x.cost, x.second, x.fwd, x.tag⟩

theorem bod_cmp {x y : Ext} (r : Int) (h : Ls.pfxLt x.pfx y.pfx = true) : kkCmp (lkOf (bodL r y)) (lkOf (bodL r x)) = 1 := by
  unfold kkCmp lkOf bodL
  simp only
  rw [cmpI_eq (a := 5) rfl, cmpI_eq (a := r) rfl]
  simp [Ls.pfxLt, Ls.lexB] at h
  rcases Int.lt_trichotomy x.pfx.addr y.pfx.addr with c | c | c
  · rw [cmpI_gt c]; simp [orI]
  · rw [cmpI_eq c.symm]
    have : x.pfx.len < y.pfx.len := by omega
    rw [cmpI_gt this]; simp [orI]
  · omega

theorem extErr_parts {l : List Ext} {k : Nat} (h : extErr l k = 0) : validP (exAt l k).pfx = true ∧ (withinB (exAt l k).cost 0 16777216 = true ∧ withinB (exAt l k).tag 0 4294967295 = true) ∧ (0 < k → Ls.pfxLt (exAt l (k - 1)).pfx (exAt l k).pfx = true) := by
  unfold extErr at h
  change (if validP (exAt l k).pfx = false then (1 : Int) else if withinB (exAt l k).cost 0 16777216 = false ∨ withinB (exAt l k).tag 0 4294967295 = false then 5 else if 0 < k ∧ Ls.pfxLt (exAt l (k - 1)).pfx (exAt l k).pfx = false then 16 else 0) = 0 at h
  split at h
  · cases h
  · split at h
    · cases h
    · split at h
      · cases h
      · rename_i h1 h2 h3
        refine ⟨by simpa using h1, ⟨?_, ?_⟩, fun hk => ?_⟩
        · cases e : withinB (exAt l k).cost 0 16777216 <;> simp_all
        · cases e : withinB (exAt l k).tag 0 4294967295 <;> simp_all
        · cases e : Ls.pfxLt (exAt l (k - 1)).pfx (exAt l k).pfx <;> simp_all

theorem ex_asc {l : List Ext} (h : ∀ i, i < l.length → extErr l i = 0) : ∀ j, j < l.length → ∀ i, i < j → Ls.pfxLt (exAt l i).pfx (exAt l j).pfx = true
  | 0, _, _, hi => absurd hi (by omega)
  | j + 1, hj, i, hi => by
    have h1 := (extErr_parts (h (j + 1) hj)).2.2 (by omega)
    rw [Nat.add_sub_cancel] at h1
    rcases Nat.lt_or_ge i j with c | c
    · exact Ls.pfxLin.tr _ _ _ (ex_asc h j (by omega) i c) h1
    · rw [show i = j from by omega]; exact h1

theorem lsaAt_map {l : List Ext} (r : Int) {k : Nat} (c : k < l.length) : lsaAt (l.map (bodL r)) k = bodL r (exAt l k) := by
  rw [lsaAt_eq (by simpa using c), List.getElem_map, exAt, getD_at c]

theorem bod_kasc {l : List Ext} (r : Int) (h : ∀ i, i < l.length → extErr l i = 0) : KAsc (l.map (bodL r)) := by
  intro i j hij hj
  rw [List.length_map] at hj
  rw [lsaAt_map r hj, lsaAt_map r (show i < l.length by omega), bod_cmp r (ex_asc h j hj i hij)]
  omega

theorem chk5 {a n r c f t : Int} {b : Bool} (h : headP 5 a n r 1 0 0 = 0) (h2 : withinB c 0 16777216 = true) (h3 : withinB t 0 4294967295 = true) : chkP ⟨5, a, n, r, 1, 0, 0, false, false, none, 0, 0, none, 0, 0, c, b, f, t⟩ = 0 := by
  unfold chkP
  simp [h, h2, h3, unusedP]

theorem bod_chk {l : List Ext} {r : Int} (hr : ¬ r = 0) {k : Nat} (h : extErr l k = 0) : chkP { bodL r (exAt l k) with seq := 1 } = 0 := by
  obtain ⟨h1, ⟨h2, h3⟩, -⟩ := extErr_parts h
  obtain ⟨l0, l1⟩ := validP_len h1
  have hf : fitsB (exAt l k).pfx.addr (exAt l k).pfx.len = true := h1
  have hw : withinB (exAt l k).pfx.len 0 32 = true := by simp [withinB, l0, l1]
  have hh : headP 5 (exAt l k).pfx.addr (exAt l k).pfx.len r 1 0 0 = 0 := by
    unfold headP
    rw [hf, hw]
    simp [withinB, hr]
  exact chk5 hh h2 h3

end Go.Proofs.YtiemmejpaahbpaaGreat
