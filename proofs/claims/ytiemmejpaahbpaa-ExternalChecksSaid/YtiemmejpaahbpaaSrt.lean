/-
  Plain mathematics: lists that ascend strictly under a linear order; putting in, merging, striking doubles.
-/
namespace Go.Proofs.Ytiemmejpaahbpaa
namespace Ls

/-- a strict linear order, as a test -/
structure Lin {α : Type} (lt : α → α → Bool) : Prop where
  irr : ∀ a, lt a a = false
  tr : ∀ a b c, lt a b = true → lt b c = true → lt a c = true
  tot : ∀ a b, lt a b = false → lt b a = false → a = b

section
variable {α : Type} {lt : α → α → Bool}

theorem Lin.asymm (L : Lin lt) {a b : α} (h : lt a b = true) : lt b a = false := by
  cases c : lt b a with
  | false => rfl
  | true => have := L.tr a b a h c; rw [L.irr] at this; cases this

/-- strictly ascending -/
def Asc (lt : α → α → Bool) (l : List α) : Prop := l.Pairwise fun a b => lt a b = true

theorem asc_ext (L : Lin lt) : ∀ (a b : List α), Asc lt a → Asc lt b → (∀ x, x ∈ a ↔ x ∈ b) → a = b
  | [], [], _, _, _ => rfl
  | [], y :: b, _, _, h => by have := (h y).2 (by simp); simp at this
  | x :: a, [], _, _, h => by have := (h x).1 (by simp); simp at this
  | x :: a, y :: b, ha, hb, h => by
    obtain ⟨ha1, ha2⟩ := List.pairwise_cons.1 ha
    obtain ⟨hb1, hb2⟩ := List.pairwise_cons.1 hb
    have e : x = y := by
      have h1 := (h x).1 (by simp)
      have h2 := (h y).2 (by simp)
      rcases List.mem_cons.1 h1 with h1 | h1
      · exact h1
      · rcases List.mem_cons.1 h2 with h2 | h2
        · exact h2.symm
        · have := L.asymm (ha1 y h2); rw [hb1 x h1] at this; cases this
    subst e
    rw [asc_ext L a b ha2 hb2 fun z => ?_]
    constructor
    · intro hz
      rcases List.mem_cons.1 ((h z).1 (List.mem_cons_of_mem _ hz)) with e | h'
      · subst e; have := ha1 z hz; rw [L.irr] at this; cases this
      · exact h'
    · intro hz
      rcases List.mem_cons.1 ((h z).2 (List.mem_cons_of_mem _ hz)) with e | h'
      · subst e; have := hb1 z hz; rw [L.irr] at this; cases this
      · exact h'

variable [DecidableEq α]
/-- put into its place, once -/
def add (lt : α → α → Bool) : List α → α → List α
  | [], h => [h]
  | x :: l, h => if x = h then x :: l else if lt h x then h :: x :: l else x :: add lt l h

theorem mem_add (l : List α) (h x : α) : x ∈ add lt l h ↔ x = h ∨ x ∈ l := by
  induction l with
  | nil => simp [add]
  | cons y l ih =>
    unfold add
    split
    · rename_i e; subst e; simp
    · split
      · simp
      · simp only [List.mem_cons, ih]
        constructor
        · rintro (h | h | h) <;> simp [h]
        · rintro (h | h | h) <;> simp [h]

theorem asc_add (L : Lin lt) (l : List α) (h : α) (ha : Asc lt l) : Asc lt (add lt l h) := by
  induction l with
  | nil => simp [add, Asc]
  | cons y l ih =>
    obtain ⟨h1, h2⟩ := List.pairwise_cons.1 ha
    unfold add
    split
    · exact ha
    · rename_i ne
      split
      · rename_i lh
        refine List.pairwise_cons.2 ⟨fun z hz => ?_, ha⟩
        rcases List.mem_cons.1 hz with rfl | hz
        · exact lh
        · exact L.tr _ _ _ lh (h1 z hz)
      · rename_i lh
        refine List.pairwise_cons.2 ⟨fun z hz => ?_, ih h2⟩
        rcases (mem_add _ _ _).1 hz with rfl | hz
        · cases c : lt y z with
          | true => rfl
          | false => exact absurd (L.tot _ _ c (by simpa using lh)) ne
        · exact h1 z hz

def adds (lt : α → α → Bool) (l : List α) (m : List α) : List α := m.foldl (add lt) l
theorem mem_adds (l m : List α) (x : α) : x ∈ adds lt l m ↔ x ∈ l ∨ x ∈ m := by
  unfold adds
  induction m generalizing l with
  | nil => simp
  | cons y m ih =>
    rw [List.foldl_cons, ih, mem_add]
    simp only [List.mem_cons]
    constructor
    · rintro ((h | h) | h) <;> simp [h]
    · rintro (h | h | h) <;> simp [h]
theorem asc_adds (L : Lin lt) (l m : List α) (h : Asc lt l) : Asc lt (adds lt l m) := by
  unfold adds
  induction m generalizing l with
  | nil => exact h
  | cons y m ih => rw [List.foldl_cons]; exact ih _ (asc_add L _ _ h)

/-- the elements of both, ascending, each once -/
def merge (lt : α → α → Bool) (a b : List α) : List α := adds lt (adds lt [] a) b
theorem mem_merge (a b : List α) (x : α) : x ∈ merge lt a b ↔ x ∈ a ∨ x ∈ b := by simp [merge, mem_adds]
theorem asc_merge (L : Lin lt) (a b : List α) : Asc lt (merge lt a b) := asc_adds L _ _ (asc_adds L _ _ (by simp [Asc]))
theorem merge_eq (L : Lin lt) {a b c : List α} (hc : Asc lt c) (h : ∀ x, x ∈ c ↔ x ∈ a ∨ x ∈ b) : c = merge lt a b :=
  asc_ext L _ _ hc (asc_merge L a b) fun x => by rw [h, mem_merge]

/-- without what equals the one before it -/
def compact : List α → List α
  | [] => []
  | [x] => [x]
  | x :: y :: l => if x = y then compact (y :: l) else x :: compact (y :: l)

theorem mem_compact : ∀ (l : List α) (x : α), x ∈ compact l ↔ x ∈ l
  | [], x => Iff.rfl
  | [y], x => Iff.rfl
  | y :: z :: l, x => by
    unfold compact
    have ih := mem_compact (z :: l) x
    split
    · rename_i e; subst e; rw [ih]; simp
    · rw [List.mem_cons, ih, List.mem_cons (b := y)]

/-- ascending, equals allowed -/
def Up (lt : α → α → Bool) (l : List α) : Prop := l.Pairwise fun a b => lt b a = false

theorem asc_compact (L : Lin lt) : ∀ l : List α, Up lt l → Asc lt (compact l)
  | [], _ => List.Pairwise.nil
  | [y], _ => by simp [compact, Asc]
  | y :: z :: l, h => by
    obtain ⟨h1, h2⟩ := List.pairwise_cons.1 h
    have ih := asc_compact L (z :: l) h2
    unfold compact
    split
    · exact ih
    · rename_i ne
      refine List.pairwise_cons.2 ⟨fun x hx => ?_, ih⟩
      have hx := (mem_compact _ _).1 hx
      have yz : lt y z = true := by
        cases c : lt y z with
        | true => rfl
        | false => exact absurd (L.tot _ _ c (h1 z (by simp))) ne
      rcases List.mem_cons.1 hx with rfl | hx
      · exact yz
      · have zx := (List.pairwise_cons.1 h2).1 x hx
        cases c : lt y x with
        | true => rfl
        | false =>
          have := L.tot _ _ c (h1 x (by simp [hx]))
          subst this
          rw [yz] at zx; cases zx

theorem compact_merge (L : Lin lt) {a b d : List α} (hd : Up lt d) (h : ∀ x, x ∈ d ↔ x ∈ a ∨ x ∈ b) : compact d = merge lt a b :=
  merge_eq L (asc_compact L d hd) fun x => by rw [mem_compact, h]

theorem merge_self (L : Lin lt) {a : List α} (h : Asc lt a) : merge lt a [] = a := (merge_eq L h fun x => by simp).symm
theorem merge_comm (L : Lin lt) (a b : List α) : merge lt a b = merge lt b a := merge_eq L (asc_merge L a b) fun x => by rw [mem_merge]; exact or_comm
theorem merge_length_le (a b : List α) : (merge lt a b).length ≤ a.length + b.length := by
  have key : ∀ (m l : List α), (adds lt l m).length ≤ l.length + m.length := by
    intro m
    have h1 : ∀ (l : List α) (h : α), (add lt l h).length ≤ l.length + 1 := by
      intro l h
      induction l with
      | nil => simp [add]
      | cons y l ih =>
        unfold add
        split
        · simp
        · split
          · simp
          · simp only [List.length_cons]; omega
    unfold adds
    induction m with
    | nil => intro l; simp
    | cons y m ih => intro l; rw [List.foldl_cons]; have := ih (add lt l y); have := h1 l y; simp; omega
  have h1 := key b (adds lt [] a)
  have h2 := key a []
  unfold merge
  simp at h2
  omega
end

/-! ### the order of numbers, one behind the other -/

def lexB (a b : Int) (r : Bool) : Bool := decide (a < b) || (decide (a = b) && r)

structure Hop where
  iface : Int
  addr : Int
  router : Int
deriving DecidableEq, Inhabited

def hopLt (a b : Hop) : Bool := lexB a.iface b.iface (lexB a.addr b.addr (decide (a.router < b.router)))

theorem hopLin : Lin hopLt where
  irr a := by simp [hopLt, lexB]
  tr a b c h1 h2 := by simp [hopLt, lexB] at h1 h2 ⊢; omega
  tot a b h1 h2 := by
    obtain ⟨a1, a2, a3⟩ := a; obtain ⟨b1, b2, b3⟩ := b
    simp [hopLt, lexB] at h1 h2 ⊢; omega

structure Pfx where
  addr : Int
  len : Int
deriving DecidableEq, Inhabited

def pfxLt (a b : Pfx) : Bool := lexB a.addr b.addr (decide (a.len < b.len))
theorem pfxLin : Lin pfxLt where
  irr a := by simp [pfxLt, lexB]
  tr a b c h1 h2 := by simp [pfxLt, lexB] at h1 h2 ⊢; omega
  tot a b h1 h2 := by
    obtain ⟨a1, a2⟩ := a; obtain ⟨b1, b2⟩ := b
    simp [pfxLt, lexB] at h1 h2 ⊢; omega

end Ls
end Go.Proofs.Ytiemmejpaahbpaa
