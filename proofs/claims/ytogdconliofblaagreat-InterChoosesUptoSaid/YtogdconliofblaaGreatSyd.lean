/-
  A stable sort by merging in place, in plain words: blocks exchanged, and the merge's middle.
-/
/-
  A stable sort by merging in place: the middle of two sorted rows.
-/
/-
  A stable sort by merging in place: behind the rotation, and the two halves put together.
-/
/-
  A stable sort by merging in place: one element put into a sorted row.
-/
import Derived.Test.YtogdconliofblaaGreatMem
namespace Go.Proofs.YtogdconliofblaaGreat

section
variable {β : Type}
/-- n places from a on exchanged with those from b on -/
def swpF (c : Nat → β) (a b n : Nat) : Nat → β := fun t => if a ≤ t ∧ t < a + n then c (t - a + b) else if b ≤ t ∧ t < b + n then c (t - b + a) else c t
/-- the rows from l to m and from m to r change places -/
def rotF (c : Nat → β) (l m r : Nat) : Nat → β := fun t => if t < l then c t else if t < l + (r - m) then c (t - l + m) else if t < r then c (t - (r - m)) else c t
def put2 (c : Nat → β) (i j : Nat) : Nat → β := fun t => if t = i then c j else if t = j then c i else c t

theorem swpF_zero (c : Nat → β) (a b : Nat) : swpF c a b 0 = c := by
  funext t; unfold swpF; rw [if_neg (by omega), if_neg (by omega)]
theorem swpF_succ (c : Nat → β) {a b n : Nat} (h : a + n < b) : swpF c a b (n + 1) = put2 (swpF c a b n) (a + n) (b + n) := by
  funext t
  unfold put2
  by_cases e1 : t = a + n
  · subst e1
    rw [if_pos rfl]
    unfold swpF
    rw [if_pos (by omega), if_neg (by omega), if_neg (by omega)]
    congr 1; omega
  · rw [if_neg e1]
    by_cases e2 : t = b + n
    · subst e2
      rw [if_pos rfl]
      unfold swpF
      rw [if_neg (by omega), if_pos (by omega), if_neg (by omega), if_neg (by omega)]
      congr 1; omega
    · rw [if_neg e2]
      unfold swpF
      by_cases h1 : a ≤ t ∧ t < a + n
      · rw [if_pos (by omega), if_pos h1]
      · rw [if_neg (by omega), if_neg h1]
        by_cases h2 : b ≤ t ∧ t < b + n
        · rw [if_pos (by omega), if_pos h2]
        · rw [if_neg (by omega), if_neg h2]

theorem rotF_gt (c : Nat → β) {m i j : Nat} (hi : i ≤ m) (h : j < i) : rotF (swpF c (m - i) m j) (m - i + j) m (m + j) = rotF c (m - i) m (m + j) := by
  funext t
  unfold rotF swpF
  repeat' split
  all_goals first | rfl | (exfalso; omega) | (congr 1; omega)
theorem rotF_lt (c : Nat → β) {m i j : Nat} (hi : i ≤ m) (h : i < j) : rotF (swpF c (m - i) (m + j - i) i) (m - i) m (m + (j - i)) = rotF c (m - i) m (m + j) := by
  funext t
  unfold rotF swpF
  repeat' split
  all_goals first | rfl | (exfalso; omega) | (congr 1; omega)
theorem rotF_eq (c : Nat → β) {m i : Nat} (hi : i ≤ m) : swpF c (m - i) m i = rotF c (m - i) m (m + i) := by
  funext t
  unfold rotF swpF
  repeat' split
  all_goals first | rfl | (exfalso; omega) | (congr 1; omega)
end

end Go.Proofs.YtogdconliofblaaGreat

namespace Go.Proofs.YtogdconliofblaaGreat

section
variable {β : Type} {R : β → β → Prop}
def SrtF (R : β → β → Prop) (c : Nat → β) (a b : Nat) : Prop := ∀ i j, a ≤ i → i < j → j < b → R (c i) (c j)
def CrsF (R : β → β → Prop) (c : Nat → β) (a m k b : Nat) : Prop := ∀ i j, a ≤ i → i < m → k ≤ j → j < b → R (c i) (c j)

theorem SrtF.le {c : Nat → β} {a b : Nat} (h : SrtF R c a b) {i j : Nat} (h1 : a ≤ i) (h2 : i ≤ j) (h3 : j < b) : c i = c j ∨ R (c i) (c j) := by
  rcases Nat.lt_or_eq_of_le h2 with e | e
  · exact .inr (h i j h1 e h3)
  · subst e; exact .inl rfl
/-- the search goes down: where the right one is not less, it is not so before either -/
theorem look_dn (tr : ∀ x y z, R x y → R y z → R x z) {c : Nat → β} {a m b p k q : Nat} (h1 : SrtF R c a m) (h2 : SrtF R c m b) (hk : a ≤ k) (hkq : k ≤ q) (hq : q < m) (hp : m ≤ p - q) (hb : p - k < b) (hqp : q ≤ p)
    (h : ¬ R (c (p - q)) (c q)) : ¬ R (c (p - k)) (c k) := by
  intro hr
  apply h
  have e1 := h1.le hk hkq hq
  have e2 : c (p - q) = c (p - k) ∨ R (c (p - q)) (c (p - k)) := h2.le hp (by omega) hb
  rcases e1 with e1 | e1 <;> rcases e2 with e2 | e2
  · rw [e2, ← e1]; exact hr
  · rw [← e1]; exact tr _ _ _ e2 hr
  · rw [e2]; exact tr _ _ _ hr e1
  · exact tr _ _ _ e2 (tr _ _ _ hr e1)
theorem look_up (tr : ∀ x y z, R x y → R y z → R x z) {c : Nat → β} {a m b p k q : Nat} (h1 : SrtF R c a m) (h2 : SrtF R c m b) (hq : a ≤ q) (hkq : q ≤ k) (hk : k < m) (hp : m ≤ p - k) (hb : p - q < b) (hkp : k ≤ p)
    (h : R (c (p - q)) (c q)) : R (c (p - k)) (c k) := by
  have e1 := h1.le hq hkq hk
  have e2 : c (p - k) = c (p - q) ∨ R (c (p - k)) (c (p - q)) := h2.le hp (by omega) hb
  rcases e1 with e1 | e1 <;> rcases e2 with e2 | e2
  · rw [e2, ← e1]; exact h
  · rw [← e1]; exact tr _ _ _ e2 h
  · rw [e2]; exact tr _ _ _ h e1
  · exact tr _ _ _ e2 (tr _ _ _ h e1)

/-- what the search has found: s from the left, and e = mid + m - s from the right -/
structure MidF (R : β → β → Prop) (c : Nat → β) (a m b s e : Nat) : Prop where
  la : a ≤ s
  sm : s ≤ m
  me : m ≤ e
  eb : e ≤ b
  lr : CrsF R c a s e b
  rl : ∀ i j, m ≤ i → i < e → s ≤ j → j < m → R (c i) (c j)

theorem mid_of (tr : ∀ x y z, R x y → R y z → R x z) {c : Nat → β} {a m b mid s lo hi : Nat} (h1 : SrtF R c a m) (h2 : SrtF R c m b) (tot : ∀ i j, a ≤ i → i < m → m ≤ j → j < b → ¬ R (c j) (c i) → R (c i) (c j))
    (hm2 : mid < b) (hls : lo ≤ s) (hsh : s ≤ hi) (hlh : (mid < m ∧ lo = mid + m - b ∧ hi = mid) ∨ (m ≤ mid ∧ lo = a ∧ hi = m)) (hlo : mid < m → a + b ≤ mid + m ∨ a ≤ lo)
    (hal : a ≤ lo) (hP : ∀ k, lo ≤ k → k < s → ¬ R (c (mid + m - 1 - k)) (c k)) (hN : ∀ k, s ≤ k → k < hi → R (c (mid + m - 1 - k)) (c k)) (hse : mid + m ≤ b + s) : MidF R c a m b s (mid + m - s) := by
  have sm : s ≤ m := by omega
  have me : m ≤ mid + m - s := by omega
  refine ⟨by omega, sm, me, by omega, ?_, ?_⟩
  · intro i j hi1 hi2 hj1 hj2
    by_cases e : lo < s
    · have q := hP (s - 1) (by omega) (by omega)
      have q2 := tot (s - 1) (mid + m - 1 - (s - 1)) (by omega) (by omega) (by omega) (by omega) q
      have l1 := h1.le hi1 (show i ≤ s - 1 by omega) (by omega)
      have l2 : c (mid + m - 1 - (s - 1)) = c j ∨ R (c (mid + m - 1 - (s - 1))) (c j) := h2.le (by omega) (by omega) hj2
      rcases l1 with l1 | l1 <;> rcases l2 with l2 | l2
      · rw [l1, ← l2]; exact q2
      · rw [l1]; exact tr _ _ _ q2 l2
      · rw [← l2]; exact tr _ _ _ l1 q2
      · exact tr _ _ _ l1 (tr _ _ _ q2 l2)
    · exfalso; omega
  · intro i j hi1 hi2 hj1 hj2
    by_cases e : s < hi
    · have q := hN s (Nat.le_refl _) e
      have l1 : c i = c (mid + m - 1 - s) ∨ R (c i) (c (mid + m - 1 - s)) := h2.le hi1 (by omega) (by omega)
      have l2 := h1.le (show a ≤ s by omega) hj1 hj2
      rcases l1 with l1 | l1 <;> rcases l2 with l2 | l2
      · rw [l1, ← l2]; exact q
      · rw [l1]; exact tr _ _ _ q l2
      · rw [← l2]; exact tr _ _ _ l1 q
      · exact tr _ _ _ l1 (tr _ _ _ q l2)
    · exfalso; omega
end

end Go.Proofs.YtogdconliofblaaGreat

namespace Go.Proofs.YtogdconliofblaaGreat

section
variable {β : Type} {R : β → β → Prop}
theorem rot1 (c : Nat → β) {s m e t : Nat} (h : t < s) : rotF c s m e t = c t := if_pos h
theorem rot2 (c : Nat → β) {s m e t : Nat} (h1 : s ≤ t) (h2 : t < s + (e - m)) : rotF c s m e t = c (t - s + m) := by
  unfold rotF; rw [if_neg (by omega), if_pos h2]
theorem rot3 (c : Nat → β) {s m e t : Nat} (h1 : s + (e - m) ≤ t) (h2 : t < e) : rotF c s m e t = c (t - (e - m)) := by
  unfold rotF; rw [if_neg (by omega), if_neg (by omega), if_pos h2]
theorem rot4 (c : Nat → β) {s m e t : Nat} (sm : s ≤ m) (me : m ≤ e) (h : e ≤ t) : rotF c s m e t = c t := by
  unfold rotF; rw [if_neg (by omega), if_neg (by omega), if_neg (by omega)]

/-- behind the rotation, mid the new middle -/
structure RotF (R : β → β → Prop) (c' : Nat → β) (a s mid e b : Nat) : Prop where
  h1 : SrtF R c' a s
  h2 : SrtF R c' s mid
  h3 : SrtF R c' mid e
  h4 : SrtF R c' e b
  cr : CrsF R c' a mid mid b

theorem MidF.rot {c : Nat → β} {a m b s e mid : Nat} (M : MidF R c a m b s e) (h1 : SrtF R c a m) (h2 : SrtF R c m b) (hm : mid = s + (e - m)) : RotF R (rotF c s m e) a s mid e b := by
  have sm := M.sm
  have me := M.me
  have la := M.la
  have eb := M.eb
  subst hm
  refine ⟨fun i j h3 h4 h5 => ?_, fun i j h3 h4 h5 => ?_, fun i j h3 h4 h5 => ?_, fun i j h3 h4 h5 => ?_, fun i j h3 h4 h5 h6 => ?_⟩
  · rw [rot1 c (by omega), rot1 c h5]; exact h1 i j h3 h4 (by omega)
  · rw [rot2 c h3 (by omega), rot2 c (by omega) h5]; exact h2 _ _ (by omega) (by omega) (by omega)
  · rw [rot3 c h3 (by omega), rot3 c (by omega) h5]; exact h1 _ _ (by omega) (by omega) (by omega)
  · rw [rot4 c sm me h3, rot4 c sm me (by omega)]; exact h2 _ _ (by omega) h4 h5
  · by_cases c1 : i < s
    · rw [rot1 c c1]
      by_cases c2 : j < e
      · rw [rot3 c h5 c2]; exact h1 _ _ h3 (by omega) (by omega)
      · rw [rot4 c sm me (by omega)]; exact M.lr _ _ h3 c1 (by omega) h6
    · rw [rot2 c (by omega) h4]
      by_cases c2 : j < e
      · rw [rot3 c h5 c2]; exact M.rl _ _ (by omega) (by omega) (by omega) (by omega)
      · rw [rot4 c sm me (by omega)]; exact h2 _ _ (by omega) (by omega) h6

/-- the same elements from a to b, and nothing else turned -/
structure SameF (c' c : Nat → β) (a b : Nat) : Prop where
  out : ∀ t, t < a ∨ b ≤ t → c' t = c t
  mem : ∀ t, a ≤ t → t < b → ∃ u, a ≤ u ∧ u < b ∧ c' t = c u
  bak : ∀ t, a ≤ t → t < b → ∃ u, a ≤ u ∧ u < b ∧ c t = c' u
theorem SameF.refl (c : Nat → β) (a b : Nat) : SameF c c a b := ⟨fun _ _ => rfl, fun t h1 h2 => ⟨t, h1, h2, rfl⟩, fun t h1 h2 => ⟨t, h1, h2, rfl⟩⟩
theorem SameF.trans {c c' c'' : Nat → β} {a b : Nat} (h : SameF c'' c' a b) (h' : SameF c' c a b) : SameF c'' c a b := by
  refine ⟨fun t ht => (h.out t ht).trans (h'.out t ht), fun t h1 h2 => ?_, fun t h1 h2 => ?_⟩
  · obtain ⟨u, e1, e2, e3⟩ := h.mem t h1 h2
    obtain ⟨v, f1, f2, f3⟩ := h'.mem u e1 e2
    exact ⟨v, f1, f2, e3.trans f3⟩
  · obtain ⟨u, e1, e2, e3⟩ := h'.bak t h1 h2
    obtain ⟨v, f1, f2, f3⟩ := h.bak u e1 e2
    exact ⟨v, f1, f2, e3.trans f3⟩
theorem SameF.wide {c c' : Nat → β} {a b a' b' : Nat} (h : SameF c' c a b) (ha : a' ≤ a) (hb : b ≤ b') : SameF c' c a' b' := by
  refine ⟨fun t ht => h.out t (by omega), fun t h1 h2 => ?_, fun t h1 h2 => ?_⟩
  · by_cases e : a ≤ t ∧ t < b
    · obtain ⟨u, e1, e2, e3⟩ := h.mem t e.1 e.2
      exact ⟨u, by omega, by omega, e3⟩
    · exact ⟨t, h1, h2, h.out t (by omega)⟩
  · by_cases e : a ≤ t ∧ t < b
    · obtain ⟨u, e1, e2, e3⟩ := h.bak t e.1 e.2
      exact ⟨u, by omega, by omega, e3⟩
    · exact ⟨t, h1, h2, (h.out t (by omega)).symm⟩
theorem sameF_rot (c : Nat → β) {s m e : Nat} (sm : s ≤ m) (me : m ≤ e) : SameF (rotF c s m e) c s e := by
  refine ⟨fun t ht => ?_, fun t h1 h2 => ?_, fun t h1 h2 => ?_⟩
  · rcases ht with h | h
    · exact rot1 c h
    · exact rot4 c sm me h
  · by_cases e1 : t < s + (e - m)
    · exact ⟨t - s + m, by omega, by omega, rot2 c h1 e1⟩
    · exact ⟨t - (e - m), by omega, by omega, rot3 c (by omega) h2⟩
  · by_cases e1 : t < m
    · refine ⟨t + (e - m), by omega, by omega, ?_⟩
      rw [rot3 c (by omega) (by omega)]; congr 1; omega
    · refine ⟨t - m + s, by omega, by omega, ?_⟩
      rw [rot2 c (by omega) (by omega)]; congr 1; omega

/-- the two halves, each sorted -/
theorem RotF.join {c c1 c2 : Nat → β} {a mid b : Nat} (cr : CrsF R c a mid mid b) (ham : a ≤ mid) (hmb : mid ≤ b) (s1 : SrtF R c1 a mid) (g1 : SameF c1 c a mid) (s2 : SrtF R c2 mid b) (g2 : SameF c2 c1 mid b) : SrtF R c2 a b ∧ SameF c2 c a b := by
  refine ⟨fun i j h1 h2 h3 => ?_, (g2.wide ham (Nat.le_refl _)).trans (g1.wide (Nat.le_refl _) hmb)⟩
  by_cases e1 : j < mid
  · rw [g2.out i (by omega), g2.out j (by omega)]; exact s1 i j h1 h2 e1
  · by_cases e2 : mid ≤ i
    · exact s2 i j e2 h2 h3
    · rw [g2.out i (by omega)]
      obtain ⟨u, u1, u2, u3⟩ := g1.mem i h1 (by omega)
      obtain ⟨v, v1, v2, v3⟩ := g2.mem j (by omega) h3
      rw [u3, v3, g1.out v (by omega)]
      exact cr u v u1 u2 v1 v2
end

end Go.Proofs.YtogdconliofblaaGreat

namespace Go.Proofs.YtogdconliofblaaGreat

section
variable {β : Type} {R : β → β → Prop}
theorem up_start (c : Nat → β) (a : Nat) : rotF c a (a + 1) (a + 1) = c := by
  funext t; unfold rotF
  repeat' split
  all_goals first | rfl | (exfalso; omega) | (congr 1; omega)
theorem up_step (c : Nat → β) {a k : Nat} (h : a ≤ k) : put2 (rotF c a (a + 1) (k + 1)) k (k + 1) = rotF c a (a + 1) (k + 2) := by
  funext t; unfold put2 rotF
  repeat' split
  all_goals first | rfl | (exfalso; omega) | (congr 1; omega)
theorem dn_start (c : Nat → β) (m : Nat) : rotF c m m (m + 1) = c := by
  funext t; unfold rotF
  repeat' split
  all_goals first | rfl | (exfalso; omega) | (congr 1; omega)
theorem dn_step (c : Nat → β) {k m : Nat} (h : k + 1 ≤ m) : put2 (rotF c (k + 1) m (m + 1)) (k + 1) k = rotF c k m (m + 1) := by
  funext t; unfold put2 rotF
  repeat' split
  all_goals first | rfl | (exfalso; omega) | (congr 1; omega)

theorem up_srt {c : Nat → β} {a i b : Nat} (h : SrtF R c (a + 1) b) (hi : a + 1 ≤ i) (hib : i ≤ b) (h1 : ∀ k, a + 1 ≤ k → k < i → R (c k) (c a)) (h2 : ∀ k, i ≤ k → k < b → R (c a) (c k)) :
    SrtF R (rotF c a (a + 1) i) a b ∧ SameF (rotF c a (a + 1) i) c a b := by
  refine ⟨fun x y h3 h4 h5 => ?_, (sameF_rot c (by omega) hi).wide (Nat.le_refl _) hib⟩
  have val : ∀ t, a ≤ t → (t + 1 < i → rotF c a (a + 1) i t = c (t + 1)) ∧ (t + 1 = i → rotF c a (a + 1) i t = c a) ∧ (i ≤ t → rotF c a (a + 1) i t = c t) := by
    intro t ht
    refine ⟨fun h => ?_, fun h => ?_, fun h => ?_⟩
    · rw [rot2 c ht (by omega)]; congr 1; omega
    · rw [rot3 c (by omega) (by omega)]; congr 1; omega
    · exact rot4 c (by omega) hi h
  have vx := val x h3
  have vy := val y (by omega)
  by_cases y1 : y + 1 < i
  · rw [vx.1 (by omega), vy.1 y1]; exact h _ _ (by omega) (by omega) (by omega)
  · by_cases y2 : y + 1 = i
    · rw [vx.1 (by omega), vy.2.1 y2]; exact h1 _ (by omega) (by omega)
    · rw [vy.2.2 (by omega)]
      by_cases x1 : x + 1 < i
      · rw [vx.1 x1]; exact h _ _ (by omega) (by omega) h5
      · by_cases x2 : x + 1 = i
        · rw [vx.2.1 x2]; exact h2 _ (by omega) h5
        · rw [vx.2.2 (by omega)]; exact h _ _ (by omega) h4 h5

theorem dn_srt {c : Nat → β} {a i m : Nat} (h : SrtF R c a m) (hai : a ≤ i) (him : i ≤ m) (h1 : ∀ k, a ≤ k → k < i → R (c k) (c m)) (h2 : ∀ k, i ≤ k → k < m → R (c m) (c k)) :
    SrtF R (rotF c i m (m + 1)) a (m + 1) ∧ SameF (rotF c i m (m + 1)) c a (m + 1) := by
  refine ⟨fun x y h3 h4 h5 => ?_, (sameF_rot c him (by omega)).wide hai (Nat.le_refl _)⟩
  have val : ∀ t, t < m + 1 → (t < i → rotF c i m (m + 1) t = c t) ∧ (t = i → rotF c i m (m + 1) t = c m) ∧ (i < t → rotF c i m (m + 1) t = c (t - 1)) := by
    intro t ht
    refine ⟨fun h => rot1 c h, fun h => ?_, fun h => ?_⟩
    · rw [rot2 c (by omega) (by omega)]; congr 1; omega
    · rw [rot3 c (by omega) ht]; congr 1; omega
  have vx := val x (by omega)
  have vy := val y h5
  by_cases y1 : y < i
  · rw [vx.1 (by omega), vy.1 y1]; exact h _ _ h3 h4 (by omega)
  · by_cases y2 : y = i
    · rw [vx.1 (by omega), vy.2.1 y2]; exact h1 _ h3 (by omega)
    · rw [vy.2.2 (by omega)]
      by_cases x1 : x < i
      · rw [vx.1 x1]; exact h _ _ h3 (by omega) (by omega)
      · by_cases x2 : x = i
        · rw [vx.2.1 x2]; exact h2 _ (by omega) (by omega)
        · rw [vx.2.2 (by omega)]; exact h _ _ (by omega) (by omega) (by omega)
end

end Go.Proofs.YtogdconliofblaaGreat
