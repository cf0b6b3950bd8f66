/-
  The plain mathematics of the indexed binary heap: what the Go code computes, as functions on lists, and that it keeps the order of a heap. No program in sight.
-/
namespace Hp

structure St where
  items : List Nat
  place : List Int
  keys : List Int

def St.len (h : St) : Nat := h.items.length
def St.key (h : St) (x : Nat) : Int := h.keys.getD x 0
def St.get (h : St) (i : Nat) : Nat := h.items.getD i 0

/-- key and item, in this order -/
def ltB (ka kb a b : Int) : Bool := decide (ka < kb) || (ka == kb && decide (a < b))
def St.lt (h : St) (a b : Nat) : Bool := ltB (h.key a) (h.key b) a b
def St.less (h : St) (i j : Nat) : Bool := h.lt (h.get i) (h.get j)
def St.swap (h : St) (i j : Nat) : St :=
  { items := (h.items.set i (h.get j)).set j (h.get i), place := (h.place.set (h.get j) i).set (h.get i) j, keys := h.keys }

/-- the loop that moves an element up -/
def up : Nat → St → Nat → St × Nat
  | 0, h, i => (h, i)
  | f + 1, h, i => if 0 < i ∧ h.less i ((i - 1) / 2) = true then up f (h.swap i ((i - 1) / 2)) ((i - 1) / 2) else (h, i)

/-- the child that is tried -/
def kid (h : St) (i : Nat) : Nat := if 2 * i + 1 + 1 < h.len ∧ h.less (2 * i + 1 + 1) (2 * i + 1) = true then 2 * i + 1 + 1 else 2 * i + 1

/-- the loop that moves an element down -/
def down : Nat → St → Nat → St
  | 0, h, _ => h
  | f + 1, h, i => if kid h i < h.len ∧ h.less (kid h i) i = true then down f (h.swap i (kid h i)) (kid h i) else h

def settle (h : St) (i : Nat) : St := down h.len (up i h i).1 (up i h i).2

/-! ### The order -/

theorem lt_irrefl (h : St) (a : Nat) : h.lt a a = false := by simp [St.lt, ltB]
theorem lt_asymm (h : St) (a b : Nat) (c : h.lt a b = true) : h.lt b a = false := by
  simp [St.lt, ltB] at *; omega
theorem le_trans (h : St) (a b c : Nat) (x : h.lt b a = false) (y : h.lt c b = false) : h.lt c a = false := by
  simp [St.lt, ltB] at *; omega

/-! ### Well-formed states -/

structure Wf (h : St) : Prop where
  lens : h.keys.length = h.place.length
  inr : ∀ i, i < h.len → h.get i < h.place.length
  at_ : ∀ i, i < h.len → h.place.getD (h.get i) 0 = i
  back : ∀ x, x < h.place.length → h.place.getD x 0 = -1 ∨ (0 ≤ h.place.getD x 0 ∧ (h.place.getD x 0).toNat < h.len ∧ h.get (h.place.getD x 0).toNat = x)

theorem Wf.inj {h : St} (w : Wf h) {i j : Nat} (hi : i < h.len) (hj : j < h.len) (e : h.get i = h.get j) : i = j := by
  have a := w.at_ i hi; have b := w.at_ j hj; rw [e, b] at a; omega

theorem swap_len (h : St) (i j : Nat) : (h.swap i j).len = h.len := by simp [St.swap, St.len]
theorem swap_key (h : St) (i j x : Nat) : (h.swap i j).key x = h.key x := rfl
theorem swap_lt (h : St) (i j a b : Nat) : (h.swap i j).lt a b = h.lt a b := rfl
theorem swap_get (h : St) (i j k : Nat) (hi : i < h.len) (hj : j < h.len) : (h.swap i j).get k = if k = j then h.get i else if k = i then h.get j else h.get k := by
  unfold St.len at *
  simp only [St.swap, St.get, List.getD_eq_getElem?_getD, List.getElem?_set, List.length_set]
  grind
theorem swap_pl (h : St) (i j : Nat) : (h.swap i j).place.length = h.place.length := by simp [St.swap]
theorem swap_place (h : St) (w : Wf h) (i j x : Nat) (hi : i < h.len) (hj : j < h.len) : (h.swap i j).place.getD x 0 = if x = h.get i then (j : Int) else if x = h.get j then (i : Int) else h.place.getD x 0 := by
  have a := w.inr i hi
  have b := w.inr j hj
  simp only [St.swap, List.getD_eq_getElem?_getD, List.getElem?_set, List.length_set]
  grind

theorem Wf.swap {h : St} (w : Wf h) {i j : Nat} (hi : i < h.len) (hj : j < h.len) : Wf (h.swap i j) := by
  have inj := @Wf.inj h w
  refine ⟨by rw [swap_pl]; exact w.lens, fun k hk => ?_, fun k hk => ?_, fun x hx => ?_⟩
  · rw [swap_len] at hk; rw [swap_get h i j k hi hj, swap_pl]
    have := w.inr i hi; have := w.inr j hj; have := w.inr k hk
    grind
  · rw [swap_len] at hk; rw [swap_place h w i j _ hi hj, swap_get h i j k hi hj]
    have a1 := w.at_ i hi; have a2 := w.at_ j hj; have a3 := w.at_ k hk
    have b1 := @inj i j hi hj
    have b2 := @inj k j hk hj
    have b3 := @inj k i hk hi
    grind
  · rw [swap_pl] at hx
    rw [swap_place h w i j _ hi hj, swap_len]
    have b := w.back x hx
    have a1 := w.at_ i hi; have a2 := w.at_ j hj
    have s := swap_get h i j
    by_cases e1 : x = h.get i
    · right; simp only [if_pos e1]; refine ⟨by omega, by simpa using hj, ?_⟩
      simp only [Int.toNat_natCast]; rw [s j hi hj, if_pos rfl]; exact e1.symm
    · by_cases e2 : x = h.get j
      · right; simp only [if_neg e1, if_pos e2]; refine ⟨by omega, by simpa using hi, ?_⟩
        simp only [Int.toNat_natCast]; rw [s i hi hj]
        split
        · rename_i e; rw [e2, e]
        · simp [e2]
      · simp only [if_neg e1, if_neg e2]
        rcases b with b | ⟨b1, b2, b3⟩
        · exact .inl b
        · right; refine ⟨b1, b2, ?_⟩
          rw [s _ hi hj, if_neg (fun e => e2 (by rw [← e]; exact b3.symm)), if_neg (fun e => e1 (by rw [← e]; exact b3.symm))]
          exact b3

/-! ### The order of a heap -/

def Heap (h : St) : Prop := ∀ j, 0 < j → j < h.len → h.less j ((j - 1) / 2) = false

/-- all is in order but for the element at 'i', and its children are not before its parent -/
structure Gap (h : St) (i : Nat) : Prop where
  rest : ∀ j, 0 < j → j < h.len → j ≠ i → (j - 1) / 2 ≠ i → h.less j ((j - 1) / 2) = false
  kids : 0 < i → ∀ c, 0 < c → c < h.len → (c - 1) / 2 = i → h.less c ((i - 1) / 2) = false

theorem less_swap (h : St) (i j a b : Nat) (hi : i < h.len) (hj : j < h.len) :
    (h.swap i j).less a b = h.lt (if a = j then h.get i else if a = i then h.get j else h.get a) (if b = j then h.get i else if b = i then h.get j else h.get b) := by
  unfold St.less; rw [swap_lt, swap_get h i j a hi hj, swap_get h i j b hi hj]

theorem Gap.up {h : St} {i : Nat} (g : Gap h i) (hi : i < h.len) (h0 : 0 < i) (hl : h.less i ((i - 1) / 2) = true) : Gap (h.swap i ((i - 1) / 2)) ((i - 1) / 2) := by
  have hp : (i - 1) / 2 < h.len := by omega
  refine ⟨fun j j0 jl jn jp => ?_, fun p0 c c0 cl cp => ?_⟩
  · rw [swap_len] at jl
    rw [less_swap h i _ _ _ hi hp]
    by_cases e : (j - 1) / 2 = i
    · have := g.kids h0 j j0 jl e
      rw [if_neg (by omega), if_neg (by omega), if_neg (by omega), if_pos e]; exact this
    · by_cases e2 : j = i
      · subst e2; exact absurd rfl jp
      · have := g.rest j j0 jl e2 e
        rw [if_neg jn, if_neg e2, if_neg jp, if_neg e]; exact this
  · rw [swap_len] at cl
    rw [less_swap h i _ _ _ hi hp]
    have r := g.rest ((i - 1) / 2) p0 hp (by omega) (by omega)
    by_cases e : c = i
    · subst e
      rw [if_neg (by omega), if_pos rfl, if_neg (by omega), if_neg (by omega)]; exact r
    · have r2 := g.rest c c0 cl e (by omega)
      rw [if_neg (by omega), if_neg e, if_neg (by omega), if_neg (by omega)]
      rw [cp] at r2
      exact le_trans h _ _ _ r r2

/-- what holds when the first loop has ended -/
structure Low (h : St) (i : Nat) : Prop where
  rest : ∀ j, 0 < j → j < h.len → (j - 1) / 2 ≠ i → h.less j ((j - 1) / 2) = false
  kids : 0 < i → ∀ c, 0 < c → c < h.len → (c - 1) / 2 = i → h.less c ((i - 1) / 2) = false

theorem Gap.low {h : St} {i : Nat} (g : Gap h i) (e : ¬ (0 < i ∧ h.less i ((i - 1) / 2) = true)) : Low h i := by
  refine ⟨fun j j0 jl jp => ?_, g.kids⟩
  by_cases ji : j = i
  · subst ji
    cases hh : h.less j ((j - 1) / 2)
    · rfl
    · exact absurd ⟨j0, hh⟩ e
  · exact g.rest j j0 jl ji jp

theorem kid_cases (h : St) (i : Nat) : kid h i = 2 * i + 1 ∨ kid h i = 2 * i + 2 := by unfold kid; split <;> simp

theorem kid_least (h : St) (i c : Nat) (c0 : 0 < c) (cl : c < h.len) (cp : (c - 1) / 2 = i) : h.less c (kid h i) = false := by
  unfold kid
  have : c = 2 * i + 1 ∨ c = 2 * i + 1 + 1 := by omega
  split
  · rename_i hh
    rcases this with e | e
    · rw [e]; exact lt_asymm h _ _ hh.2
    · rw [e]; exact lt_irrefl h _
  · rename_i hh
    rcases this with e | e
    · rw [e]; exact lt_irrefl h _
    · rw [e] at cl ⊢
      cases hl : h.less (2 * i + 1 + 1) (2 * i + 1)
      · rfl
      · exact absurd ⟨cl, hl⟩ hh

theorem Low.down {h : St} {i : Nat} (g : Low h i) (hi : i < h.len) (hk : kid h i < h.len) (hl : h.less (kid h i) i = true) : Low (h.swap i (kid h i)) (kid h i) := by
  have kc := kid_cases h i
  have least := kid_least h i
  generalize hkk : kid h i = k at *
  refine ⟨fun j j0 jl jp => ?_, fun p0 c c0 cl cp => ?_⟩
  · rw [swap_len] at jl
    rw [less_swap h i _ _ _ hi hk]
    by_cases e : (j - 1) / 2 = i
    · rw [if_neg (show ¬ (j - 1) / 2 = k by omega), if_pos e]
      by_cases ej : j = k
      · rw [if_pos ej]; exact lt_asymm h _ _ hl
      · rw [if_neg ej, if_neg (by omega)]
        exact least j j0 jl e
    · rw [if_neg jp, if_neg e]
      by_cases ej : j = k
      · exact absurd (by omega) e
      · rw [if_neg ej]
        by_cases ei : j = i
        · rw [if_pos ei]
          have := g.kids (by omega) k (by omega) hk (by omega)
          rw [ei]; exact this
        · rw [if_neg ei]; exact g.rest j j0 jl e
  · rw [swap_len] at cl
    rw [less_swap h i _ _ _ hi hk]
    have e1 : (k - 1) / 2 = i := by omega
    rw [e1, if_neg (by omega), if_neg (by omega), if_neg (by omega), if_pos rfl]
    have := g.rest c c0 cl (by omega)
    rw [cp] at this; exact this

theorem Low.heap {h : St} {i : Nat} (g : Low h i) (e : ¬ (kid h i < h.len ∧ h.less (kid h i) i = true)) : Heap h := by
  intro j j0 jl
  by_cases jp : (j - 1) / 2 = i
  · have l := kid_least h i j j0 jl jp
    have kc := kid_cases h i
    rw [jp]
    by_cases hk : kid h i < h.len
    · cases hh : h.less (kid h i) i
      · exact le_trans h _ _ _ hh l
      · exact absurd ⟨hk, hh⟩ e
    · have : j = 2 * i + 1 ∨ j = 2 * i + 2 := by omega
      unfold kid at hk
      split at hk <;> omega
  · exact g.rest j j0 jl jp

/-! ### What the loops keep -/

/-- the same items, lists of the same lengths, the same keys -/
structure Same (h h' : St) : Prop where
  keys : h'.keys = h.keys
  len : h'.len = h.len
  pl : h'.place.length = h.place.length
  mem : ∀ x, x < h.place.length → (h'.place.getD x 0 = -1 ↔ h.place.getD x 0 = -1)

theorem Same.refl (h : St) : Same h h := ⟨rfl, rfl, rfl, fun _ _ => Iff.rfl⟩
theorem Same.trans {a b c : St} (x : Same a b) (y : Same b c) : Same a c :=
  ⟨y.keys.trans x.keys, y.len.trans x.len, y.pl.trans x.pl, fun z hz => (y.mem z (by rw [x.pl]; exact hz)).trans (x.mem z hz)⟩

theorem Same.swap {h : St} (w : Wf h) {i j : Nat} (hi : i < h.len) (hj : j < h.len) : Same h (h.swap i j) := by
  refine ⟨rfl, swap_len .., swap_pl .., fun x _ => ?_⟩
  rw [swap_place h w i j x hi hj]
  have a1 := w.at_ i hi; have a2 := w.at_ j hj
  split
  · rename_i e; rw [e, a1]; constructor <;> intro <;> omega
  · split
    · rename_i e; rw [e, a2]; constructor <;> intro <;> omega
    · exact Iff.rfl

theorem up_keeps : ∀ (f : Nat) (h : St) (i : Nat), Wf h → Gap h i → i < h.len → i ≤ f →
    Wf (up f h i).1 ∧ Same h (up f h i).1 ∧ Low (up f h i).1 (up f h i).2 ∧ (up f h i).2 < h.len
  | 0, h, i, w, g, hi, hf => by
    simp only [up]; exact ⟨w, Same.refl h, g.low (by omega), hi⟩
  | f + 1, h, i, w, g, hi, hf => by
    simp only [up]
    by_cases c : 0 < i ∧ h.less i ((i - 1) / 2) = true
    · rw [if_pos c]
      have hp : (i - 1) / 2 < h.len := by omega
      have ih := up_keeps f (h.swap i ((i - 1) / 2)) ((i - 1) / 2) (w.swap hi hp) (g.up hi c.1 c.2) (by rw [swap_len]; exact hp) (by omega)
      refine ⟨ih.1, (Same.swap w hi hp).trans ih.2.1, ih.2.2.1, ?_⟩
      have := ih.2.2.2; rw [swap_len] at this; exact this
    · rw [if_neg c]; exact ⟨w, Same.refl h, g.low c, hi⟩

theorem down_keeps : ∀ (f : Nat) (h : St) (i : Nat), Wf h → Low h i → i < h.len → h.len ≤ f + i →
    Wf (down f h i) ∧ Same h (down f h i) ∧ Heap (down f h i)
  | 0, h, i, w, g, hi, hf => by omega
  | f + 1, h, i, w, g, hi, hf => by
    simp only [down]
    have kc := kid_cases h i
    by_cases c : kid h i < h.len ∧ h.less (kid h i) i = true
    · rw [if_pos c]
      have ih := down_keeps f (h.swap i (kid h i)) (kid h i) (w.swap hi c.1) (g.down hi c.1 c.2) (by rw [swap_len]; exact c.1) (by rw [swap_len]; omega)
      exact ⟨ih.1, (Same.swap w hi c.1).trans ih.2.1, ih.2.2⟩
    · rw [if_neg c]; exact ⟨w, Same.refl h, g.heap c⟩

theorem settle_keeps (h : St) (i : Nat) (w : Wf h) (g : Gap h i) (hi : i < h.len) : Wf (settle h i) ∧ Same h (settle h i) ∧ Heap (settle h i) := by
  unfold settle
  have u := up_keeps i h i w g hi (Nat.le_refl _)
  have d := down_keeps h.len _ _ u.1 u.2.2.1 (by rw [u.2.1.len]; exact u.2.2.2) (by rw [u.2.1.len]; omega)
  exact ⟨d.1, u.2.1.trans d.2.1, d.2.2⟩

/-- the first item is the least -/
theorem least (h : St) (o : Heap h) : ∀ j, j < h.len → h.less j 0 = false := by
  intro j
  induction j using Nat.strongRecOn with
  | _ j ih =>
    intro hj
    by_cases e : j = 0
    · subst e; exact lt_irrefl h _
    · exact le_trans h _ _ _ (ih ((j - 1) / 2) (by omega) (by omega)) (o j (by omega) hj)

end Hp
