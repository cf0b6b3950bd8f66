/-
  A stable sort by merging in place: the search's end, the rotation, and what is asked of each half.
-/
/-
  A stable sort by blocks that double: what a round's steps keep.
-/
import Derived.Test.YtogdconliofblaaGreatSwv
namespace Go.Proofs.YtogdconliofblaaGreat

section
variable {β : Type} {R : β → β → Prop} {τ : β → Nat}
theorem rotF_id (c : Nat → β) {s m e : Nat} (sm : s ≤ m) (me : m ≤ e) (h : ¬ (s < m ∧ m < e)) : rotF c s m e = c := by
  funext t
  unfold rotF
  repeat' split
  all_goals first | rfl | (exfalso; omega) | (congr 1; omega)

def TagF (τ : β → Nat) (c : Nat → β) (a m b : Nat) : Prop := ∀ i j, a ≤ i → i < m → m ≤ j → j < b → τ (c i) < τ (c j)

structure HalvF (R : β → β → Prop) (τ : β → Nat) (c c1 : Nat → β) (a s mid e b : Nat) : Prop where
  rf : RotF R c1 a s mid e b
  sm : SameF c1 c a b
  t1 : TagF τ c1 a s mid
  t2 : TagF τ c1 mid e b
  las : a ≤ s
  lsm : s ≤ mid
  lme : mid ≤ e
  leb : e ≤ b

theorem MidF.halv {c : Nat → β} {a m b s e mid : Nat} (M : MidF R c a m b s e) (h1 : SrtF R c a m) (h2 : SrtF R c m b) (ht : TagF τ c a m b) (hm : mid + m = s + e) : HalvF R τ c (rotF c s m e) a s mid e b := by
  have sm := M.sm
  have me := M.me
  have la := M.la
  have eb := M.eb
  refine ⟨M.rot h1 h2 (by omega), (sameF_rot c sm me).wide la eb, fun i j h3 h4 h5 h6 => ?_, fun i j h3 h4 h5 h6 => ?_, la, by omega, by omega, eb⟩
  · rw [rot1 c h4, rot2 c h5 (by omega)]; exact ht _ _ h3 (by omega) (by omega) (by omega)
  · rw [rot3 c (by omega) h4, rot4 c sm me h5]; exact ht _ _ (by omega) (by omega) (by omega) h6

theorem HalvF.skip1 {c c1 : Nat → β} {a s mid e b : Nat} (H : HalvF R τ c c1 a s mid e b) (h : ¬ (a < s ∧ s < mid)) : SrtF R c1 a mid := by
  have h1 := H.las
  have h2 := H.lsm
  by_cases e1 : a < s
  · obtain rfl : s = mid := by omega
    exact H.rf.h1
  · obtain rfl : s = a := by omega
    exact H.rf.h2
theorem HalvF.skip2 {c c1 c2 : Nat → β} {a s mid e b : Nat} (H : HalvF R τ c c1 a s mid e b) (g : SameF c2 c1 a mid) (h : ¬ (mid < e ∧ e < b)) : SrtF R c2 mid b := by
  have h1 := H.lme
  have h2 := H.leb
  intro i j h3 h4 h5
  rw [g.out i (.inr h3), g.out j (.inr (by omega))]
  by_cases e1 : mid < e
  · obtain rfl : e = b := by omega
    exact H.rf.h3 i j h3 h4 h5
  · obtain rfl : e = mid := by omega
    exact H.rf.h4 i j h3 h4 h5
theorem HalvF.two {c c1 c2 : Nat → β} {a s mid e b : Nat} (H : HalvF R τ c c1 a s mid e b) (g : SameF c2 c1 a mid) : SrtF R c2 mid e ∧ SrtF R c2 e b ∧ TagF τ c2 mid e b := by
  have h1 := H.lme
  refine ⟨fun i j h3 h4 h5 => ?_, fun i j h3 h4 h5 => ?_, fun i j h3 h4 h5 h6 => ?_⟩
  · rw [g.out i (.inr h3), g.out j (.inr (by omega))]; exact H.rf.h3 i j h3 h4 h5
  · rw [g.out i (.inr (by omega)), g.out j (.inr (by omega))]; exact H.rf.h4 i j h3 h4 h5
  · rw [g.out i (.inr h3), g.out j (.inr (by omega))]; exact H.t2 i j h3 h4 h5 h6
theorem HalvF.fin {c c1 c2 c3 : Nat → β} {a s mid e b : Nat} (H : HalvF R τ c c1 a s mid e b) (s1 : SrtF R c2 a mid) (g1 : SameF c2 c1 a mid) (s2 : SrtF R c3 mid b) (g2 : SameF c3 c2 mid b) : SrtF R c3 a b ∧ SameF c3 c a b := by
  have h1 := H.las
  have h2 := H.lsm
  have h3 := H.lme
  have h4 := H.leb
  obtain ⟨q1, q2⟩ := RotF.join H.rf.cr (by omega) (by omega) s1 g1 s2 g2
  exact ⟨q1, q2.trans H.sm⟩
end

end Go.Proofs.YtogdconliofblaaGreat

namespace Go.Proofs.YtogdconliofblaaGreat

section
variable {β : Type} {R : β → β → Prop} {τ : β → Nat}
/-- what stands before p is earlier than what stands behind it -/
def TagAt (τ : β → Nat) (c : Nat → β) (p n : Nat) : Prop := ∀ x y, x < p → p ≤ y → y < n → τ (c x) < τ (c y)
def BlkT (τ : β → Nat) (c : Nat → β) (s n : Nat) : Prop := ∀ r, TagAt τ c (r * s) n
def BlkS (R : β → β → Prop) (c : Nat → β) (s n : Nat) : Prop := ∀ r, SrtF R c (r * s) (min (r * s + s) n)

theorem TagAt.same {c c' : Nat → β} {u v p n : Nat} (h : TagAt τ c p n) (g : SameF c' c u v) (hp : p ≤ u ∨ v ≤ p) (hv : v ≤ n) : TagAt τ c' p n := by
  intro x y h1 h2 h3
  obtain ⟨x', ex, hx⟩ : ∃ x', c' x = c x' ∧ x' < p := by
    by_cases e : u ≤ x ∧ x < v
    · obtain ⟨t, t1, t2, t3⟩ := g.mem x e.1 e.2
      exact ⟨t, t3, by omega⟩
    · exact ⟨x, g.out x (by omega), h1⟩
  obtain ⟨y', ey, hy, hy2⟩ : ∃ y', c' y = c y' ∧ p ≤ y' ∧ y' < n := by
    by_cases e : u ≤ y ∧ y < v
    · obtain ⟨t, t1, t2, t3⟩ := g.mem y e.1 e.2
      exact ⟨t, t3, by omega, by omega⟩
    · exact ⟨y, g.out y (by omega), h2, h3⟩
  rw [ex, ey]
  exact h x' y' hx hy hy2

theorem BlkT.same {c c' : Nat → β} {s n q v : Nat} (h : BlkT τ c s n) (g : SameF c' c (q * s) v) (hv : v ≤ q * s + s) (hn : v ≤ n) : BlkT τ c' s n := by
  intro r
  refine (h r).same g ?_ hn
  by_cases e : r ≤ q
  · exact .inl (Nat.mul_le_mul_right s e)
  · refine .inr ?_
    have := Nat.mul_le_mul_right s (show q + 1 ≤ r by omega)
    rw [Nat.add_mul, Nat.one_mul] at this
    omega
theorem BlkT.twice {c : Nat → β} {s n : Nat} (h : BlkT τ c s n) : BlkT τ c (2 * s) n := by
  intro r
  have := h (r * 2)
  rwa [Nat.mul_assoc] at this

/-- the first phase: blocks before a are sorted, the rest stands as it stood -/
structure InsB (R : β → β → Prop) (τ : β → Nat) (D d : Nat → β) (s q n : Nat) : Prop where
  rest : ∀ t, q * s ≤ t → d t = D t
  same : SameF d D 0 n
  tag : BlkT τ d s n
  srt : ∀ r, r < q → SrtF R d (r * s) (r * s + s)

theorem InsB.start {D : Nat → β} {s n : Nat} (ht : ∀ x y, x < y → y < n → τ (D x) < τ (D y)) : InsB R τ D D s 0 n :=
  ⟨fun _ _ => rfl, SameF.refl _ _ _, fun r x y h1 h2 h3 => ht x y (by omega) h3, fun r h => by omega⟩
theorem InsB.step {D d d' : Nat → β} {s q n : Nat} (h : InsB R τ D d s q n) (hn : q * s + s ≤ n) (h1 : SrtF R d' (q * s) (q * s + s)) (h2 : SameF d' d (q * s) (q * s + s)) : InsB R τ D d' s (q + 1) n := by
  refine ⟨fun t ht => ?_, (h2.wide (Nat.zero_le _) hn).trans h.same, h.tag.same h2 (Nat.le_refl _) hn, fun r hr => ?_⟩
  · rw [Nat.add_mul, Nat.one_mul] at ht
    rw [h2.out t (.inr ht), h.rest t (by omega)]
  · by_cases e : r = q
    · subst e; exact h1
    · have hm := Nat.mul_le_mul_right s (show r + 1 ≤ q by omega)
      rw [Nat.add_mul, Nat.one_mul] at hm
      intro i j h3 h4 h5
      rw [h2.out i (.inl (by omega)), h2.out j (.inl (by omega))]
      exact h.srt r (by omega) i j h3 h4 h5
theorem InsB.last {D d d' : Nat → β} {s q n : Nat} (h : InsB R τ D d s q n) (hq : q * s ≤ n) (hn : n < q * s + s) (h1 : SrtF R d' (q * s) n) (h2 : SameF d' d (q * s) n) : BlkS R d' s n ∧ BlkT τ d' s n ∧ SameF d' D 0 n := by
  refine ⟨fun r => ?_, h.tag.same h2 (by omega) (Nat.le_refl _), (h2.wide (Nat.zero_le _) (Nat.le_refl _)).trans h.same⟩
  by_cases e : r = q
  · subst e; rw [Nat.min_eq_right (by omega)]; exact h1
  · by_cases e2 : r < q
    · have hm := Nat.mul_le_mul_right s (show r + 1 ≤ q by omega)
      rw [Nat.add_mul, Nat.one_mul] at hm
      intro i j h3 h4 h5
      rw [h2.out i (.inl (by omega)), h2.out j (.inl (by omega))]
      exact h.srt r e2 i j h3 h4 (by omega)
    · have hm := Nat.mul_le_mul_right s (show q + 1 ≤ r by omega)
      rw [Nat.add_mul, Nat.one_mul] at hm
      intro i j h3 h4 h5
      omega

/-- a round: C as the round found it -/
structure MrgB (R : β → β → Prop) (τ : β → Nat) (C d : Nat → β) (s q n : Nat) : Prop where
  rest : ∀ t, q * (2 * s) ≤ t → d t = C t
  same : SameF d C 0 n
  tag : BlkT τ d (2 * s) n
  srt : ∀ r, r < q → SrtF R d (r * (2 * s)) (r * (2 * s) + 2 * s)

theorem MrgB.start {C : Nat → β} {s n : Nat} (ht : BlkT τ C s n) : MrgB R τ C C s 0 n :=
  ⟨fun _ _ => rfl, SameF.refl _ _ _, ht.twice, fun r h => by omega⟩
/-- what a merge is told -/
theorem MrgB.left {C d : Nat → β} {s q n : Nat} (h : MrgB R τ C d s q n) (hS : BlkS R C s n) (hm : q * (2 * s) + s ≤ n) : SrtF R d (q * (2 * s)) (q * (2 * s) + s) := by
  have e := hS (q * 2)
  rw [Nat.mul_assoc, Nat.min_eq_left hm] at e
  intro i j h1 h2 h3
  rw [h.rest i h1, h.rest j (by omega)]
  exact e i j h1 h2 h3
theorem MrgB.right {C d : Nat → β} {s q n v : Nat} (h : MrgB R τ C d s q n) (hS : BlkS R C s n) (hv : v ≤ q * (2 * s) + 2 * s) (hn : v ≤ n) : SrtF R d (q * (2 * s) + s) v := by
  have e := hS (q * 2 + 1)
  rw [Nat.add_mul, Nat.one_mul, Nat.mul_assoc] at e
  intro i j h1 h2 h3
  rw [h.rest i (by omega), h.rest j (by omega)]
  exact e i j h1 h2 (by omega)
theorem MrgB.tags {C d : Nat → β} {s q n v : Nat} (h : MrgB R τ C d s q n) (hT : BlkT τ C s n) (hn : v ≤ n) : TagF τ d (q * (2 * s)) (q * (2 * s) + s) v := by
  have e := hT (q * 2 + 1)
  rw [Nat.add_mul, Nat.one_mul, Nat.mul_assoc] at e
  intro i j h1 h2 h3 h4
  rw [h.rest i h1, h.rest j (by omega)]
  exact e i j h2 h3 (by omega)
theorem MrgB.step {C d d' : Nat → β} {s q n : Nat} (h : MrgB R τ C d s q n) (hn : q * (2 * s) + 2 * s ≤ n) (h1 : SrtF R d' (q * (2 * s)) (q * (2 * s) + 2 * s)) (h2 : SameF d' d (q * (2 * s)) (q * (2 * s) + 2 * s)) : MrgB R τ C d' s (q + 1) n := by
  obtain ⟨a1, a2, a3, a4⟩ := InsB.step (s := 2 * s) ⟨h.rest, h.same, h.tag, h.srt⟩ hn h1 h2
  exact ⟨a1, a2, a3, a4⟩
theorem MrgB.last {C d d' : Nat → β} {s q n : Nat} (h : MrgB R τ C d s q n) (hq : q * (2 * s) ≤ n) (hn : n < q * (2 * s) + 2 * s) (h1 : SrtF R d' (q * (2 * s)) n) (h2 : SameF d' d (q * (2 * s)) n) : BlkS R d' (2 * s) n ∧ BlkT τ d' (2 * s) n ∧ SameF d' C 0 n :=
  InsB.last (s := 2 * s) ⟨h.rest, h.same, h.tag, h.srt⟩ hq hn h1 h2
/-- nothing left to merge at the end of a round -/
theorem MrgB.none {C d : Nat → β} {s q n : Nat} (h : MrgB R τ C d s q n) (hS : BlkS R C s n) (hq : q * (2 * s) ≤ n) (hn : n ≤ q * (2 * s) + s) (hs : 0 < s) : BlkS R d (2 * s) n ∧ BlkT τ d (2 * s) n ∧ SameF d C 0 n := by
  refine h.last hq (by omega) (fun i j h1 h2 h3 => ?_) (SameF.refl _ _ _)
  have e := hS (q * 2)
  rw [Nat.mul_assoc, Nat.min_eq_right hn] at e
  rw [h.rest i h1, h.rest j (by omega)]
  exact e i j h1 h2 h3
theorem BlkS.all {c : Nat → β} {s n : Nat} (h : BlkS R c s n) (hn : n ≤ s) : SrtF R c 0 n := by
  have e := h 0
  rw [Nat.zero_mul, Nat.zero_add, Nat.min_eq_right hn] at e
  exact e
end

end Go.Proofs.YtogdconliofblaaGreat
