/-
  Plain mathematics: lists that ascend strictly under a linear order; putting in, merging, striking doubles.
-/
/-
  How slices lie in memory: rows of cells that are only read; what stays when memory grows.
-/
import Derived.Test.YtombnejipaoinaaGreatProg
import Derived.WalkKit
import Derived.WalkSpells
import Derived.WalkLawsBesides
import Derived.Lib.Hide
import Derived.Laws.AppendOwnNone
import Derived.OwnWalk
import Derived.Maps.AppendAt
namespace Go.Proofs.YtombnejipaoinaaGreat
namespace Ls

/-- a strict linear order, as a test -/
structure Lin {α : Type} (lt : α → α → Bool) : Prop where
  irr : ∀ a, lt a a = false
  tr : ∀ a b c, lt a b = true → lt b c = true → lt a c = true
  tot : ∀ a b, lt a b = false → lt b a = false → a = b

section
variable {α : Type} {lt : α → α → Bool}

theorem Lin.asymm (L : Lin lt) {a b : α} (h : lt a b = true) : lt b a = false := by
  cases c : lt b a with
  | false => rfl
  | true => have := L.tr a b a h c; rw [L.irr] at this; cases this

/-- strictly ascending -/
def Asc (lt : α → α → Bool) (l : List α) : Prop := l.Pairwise fun a b => lt a b = true

theorem asc_ext (L : Lin lt) : ∀ (a b : List α), Asc lt a → Asc lt b → (∀ x, x ∈ a ↔ x ∈ b) → a = b
  | [], [], _, _, _ => rfl
  | [], y :: b, _, _, h => by have := (h y).2 (by simp); simp at this
  | x :: a, [], _, _, h => by have := (h x).1 (by simp); simp at this
  | x :: a, y :: b, ha, hb, h => by
    obtain ⟨ha1, ha2⟩ := List.pairwise_cons.1 ha
    obtain ⟨hb1, hb2⟩ := List.pairwise_cons.1 hb
    have e : x = y := by
      have h1 := (h x).1 (by simp)
      have h2 := (h y).2 (by simp)
      rcases List.mem_cons.1 h1 with h1 | h1
      · exact h1
      · rcases List.mem_cons.1 h2 with h2 | h2
        · exact h2.symm
        · have := L.asymm (ha1 y h2); rw [hb1 x h1] at this; cases this
    subst e
    rw [asc_ext L a b ha2 hb2 fun z => ?_]
    constructor
    · intro hz
      rcases List.mem_cons.1 ((h z).1 (List.mem_cons_of_mem _ hz)) with e | h'
      · subst e; have := ha1 z hz; rw [L.irr] at this; cases this
      · exact h'
    · intro hz
      rcases List.mem_cons.1 ((h z).2 (List.mem_cons_of_mem _ hz)) with e | h'
      · subst e; have := hb1 z hz; rw [L.irr] at this; cases this
      · exact h'

variable [DecidableEq α]
/-- put into its place, once -/
def add (lt : α → α → Bool) : List α → α → List α
  | [], h => [h]
  | x :: l, h => if x = h then x :: l else if lt h x then h :: x :: l else x :: add lt l h

theorem mem_add (l : List α) (h x : α) : x ∈ add lt l h ↔ x = h ∨ x ∈ l := by
  induction l with
  | nil => simp [add]
  | cons y l ih =>
    unfold add
    split
    · rename_i e; subst e; simp
    · split
      · simp
      · simp only [List.mem_cons, ih]
        constructor
        · rintro (h | h | h) <;> simp [h]
        · rintro (h | h | h) <;> simp [h]

theorem asc_add (L : Lin lt) (l : List α) (h : α) (ha : Asc lt l) : Asc lt (add lt l h) := by
  induction l with
  | nil => simp [add, Asc]
  | cons y l ih =>
    obtain ⟨h1, h2⟩ := List.pairwise_cons.1 ha
    unfold add
    split
    · exact ha
    · rename_i ne
      split
      · rename_i lh
        refine List.pairwise_cons.2 ⟨fun z hz => ?_, ha⟩
        rcases List.mem_cons.1 hz with rfl | hz
        · exact lh
        · exact L.tr _ _ _ lh (h1 z hz)
      · rename_i lh
        refine List.pairwise_cons.2 ⟨fun z hz => ?_, ih h2⟩
        rcases (mem_add _ _ _).1 hz with rfl | hz
        · cases c : lt y z with
          | true => rfl
          | false => exact absurd (L.tot _ _ c (by simpa using lh)) ne
        · exact h1 z hz

def adds (lt : α → α → Bool) (l : List α) (m : List α) : List α := m.foldl (add lt) l
theorem mem_adds (l m : List α) (x : α) : x ∈ adds lt l m ↔ x ∈ l ∨ x ∈ m := by
  unfold adds
  induction m generalizing l with
  | nil => simp
  | cons y m ih =>
    rw [List.foldl_cons, ih, mem_add]
    simp only [List.mem_cons]
    constructor
    · rintro ((h | h) | h) <;> simp [h]
    · rintro (h | h | h) <;> simp [h]
theorem asc_adds (L : Lin lt) (l m : List α) (h : Asc lt l) : Asc lt (adds lt l m) := by
  unfold adds
  induction m generalizing l with
  | nil => exact h
  | cons y m ih => rw [List.foldl_cons]; exact ih _ (asc_add L _ _ h)

/-- the elements of both, ascending, each once -/
def merge (lt : α → α → Bool) (a b : List α) : List α := adds lt (adds lt [] a) b
theorem mem_merge (a b : List α) (x : α) : x ∈ merge lt a b ↔ x ∈ a ∨ x ∈ b := by simp [merge, mem_adds]
theorem asc_merge (L : Lin lt) (a b : List α) : Asc lt (merge lt a b) := asc_adds L _ _ (asc_adds L _ _ (by simp [Asc]))
theorem merge_eq (L : Lin lt) {a b c : List α} (hc : Asc lt c) (h : ∀ x, x ∈ c ↔ x ∈ a ∨ x ∈ b) : c = merge lt a b :=
  asc_ext L _ _ hc (asc_merge L a b) fun x => by rw [h, mem_merge]

/-- without what equals the one before it -/
def compact : List α → List α
  | [] => []
  | [x] => [x]
  | x :: y :: l => if x = y then compact (y :: l) else x :: compact (y :: l)

theorem mem_compact : ∀ (l : List α) (x : α), x ∈ compact l ↔ x ∈ l
  | [], x => Iff.rfl
  | [y], x => Iff.rfl
  | y :: z :: l, x => by
    unfold compact
    have ih := mem_compact (z :: l) x
    split
    · rename_i e; subst e; rw [ih]; simp
    · rw [List.mem_cons, ih, List.mem_cons (b := y)]

/-- ascending, equals allowed -/
def Up (lt : α → α → Bool) (l : List α) : Prop := l.Pairwise fun a b => lt b a = false

theorem asc_compact (L : Lin lt) : ∀ l : List α, Up lt l → Asc lt (compact l)
  | [], _ => List.Pairwise.nil
  | [y], _ => by simp [compact, Asc]
  | y :: z :: l, h => by
    obtain ⟨h1, h2⟩ := List.pairwise_cons.1 h
    have ih := asc_compact L (z :: l) h2
    unfold compact
    split
    · exact ih
    · rename_i ne
      refine List.pairwise_cons.2 ⟨fun x hx => ?_, ih⟩
      have hx := (mem_compact _ _).1 hx
      have yz : lt y z = true := by
        cases c : lt y z with
        | true => rfl
        | false => exact absurd (L.tot _ _ c (h1 z (by simp))) ne
      rcases List.mem_cons.1 hx with rfl | hx
      · exact yz
      · have zx := (List.pairwise_cons.1 h2).1 x hx
        cases c : lt y x with
        | true => rfl
        | false =>
          have := L.tot _ _ c (h1 x (by simp [hx]))
          subst this
          rw [yz] at zx; cases zx

theorem compact_merge (L : Lin lt) {a b d : List α} (hd : Up lt d) (h : ∀ x, x ∈ d ↔ x ∈ a ∨ x ∈ b) : compact d = merge lt a b :=
  merge_eq L (asc_compact L d hd) fun x => by rw [mem_compact, h]

theorem merge_self (L : Lin lt) {a : List α} (h : Asc lt a) : merge lt a [] = a := (merge_eq L h fun x => by simp).symm
theorem merge_comm (L : Lin lt) (a b : List α) : merge lt a b = merge lt b a := merge_eq L (asc_merge L a b) fun x => by rw [mem_merge]; exact or_comm
theorem merge_length_le (a b : List α) : (merge lt a b).length ≤ a.length + b.length := by
  have key : ∀ (m l : List α), (adds lt l m).length ≤ l.length + m.length := by
    intro m
    have h1 : ∀ (l : List α) (h : α), (add lt l h).length ≤ l.length + 1 := by
      intro l h
      induction l with
      | nil => simp [add]
      | cons y l ih =>
        unfold add
        split
        · simp
        · split
          · simp
          · simp only [List.length_cons]; omega
    unfold adds
    induction m with
    | nil => intro l; simp
    | cons y m ih => intro l; rw [List.foldl_cons]; have := ih (add lt l y); have := h1 l y; simp; omega
  have h1 := key b (adds lt [] a)
  have h2 := key a []
  unfold merge
  simp at h2
  omega
end

/-! ### the order of numbers, one behind the other -/

def lexB (a b : Int) (r : Bool) : Bool := decide (a < b) || (decide (a = b) && r)

structure Hop where
  iface : Int
  addr : Int
  router : Int
deriving DecidableEq, Inhabited

def hopLt (a b : Hop) : Bool := lexB a.iface b.iface (lexB a.addr b.addr (decide (a.router < b.router)))

theorem hopLin : Lin hopLt where
  irr a := by simp [hopLt, lexB]
  tr a b c h1 h2 := by simp [hopLt, lexB] at h1 h2 ⊢; omega
  tot a b h1 h2 := by
    obtain ⟨a1, a2, a3⟩ := a; obtain ⟨b1, b2, b3⟩ := b
    simp [hopLt, lexB] at h1 h2 ⊢; omega

structure Pfx where
  addr : Int
  len : Int
deriving DecidableEq, Inhabited

def pfxLt (a b : Pfx) : Bool := lexB a.addr b.addr (decide (a.len < b.len))
theorem pfxLin : Lin pfxLt where
  irr a := by simp [pfxLt, lexB]
  tr a b c h1 h2 := by simp [pfxLt, lexB] at h1 h2 ⊢; omega
  tot a b h1 h2 := by
    obtain ⟨a1, a2⟩ := a; obtain ⟨b1, b2⟩ := b
    simp [pfxLt, lexB] at h1 h2 ⊢; omega

end Ls
end Go.Proofs.YtombnejipaoinaaGreat

namespace Go.Proofs.YtombnejipaoinaaGreat
open Go.RowKit

/-! ### Blocks -/

theorem blk_cell {w : World} {b : Nat} {C : Array Value} {t : TypeId} (h : w.heap[b]? = some (.cells C t (0, 0))) {i : Nat} {v : Value} (hv : C[i]? = some v) : w.cell? ⟨b, i, none⟩ = some v := by
  simp [World.cell?, h, hv]
theorem blk_free {w : World} {b : Nat} {C : Array Value} {t : TypeId} (h : w.heap[b]? = some (.cells C t (0, 0))) (i : Nat) : w.frozen? ⟨b, i, none⟩ = false := by
  simp [World.frozen?, h]
theorem blk_set {w : World} {b : Nat} {C : Array Value} {t : TypeId} (h : w.heap[b]? = some (.cells C t (0, 0))) (i : Nat) (u : Value) : (w.setCell ⟨b, i, none⟩ u).heap[b]? = some (.cells (C.setIfInBounds i u) t (0, 0)) := by
  simp [World.setCell, Array.getElem?_modify, h]
theorem blk_other (w : World) (a : Addr) (u : Value) (k : Nat) (h : k ≠ a.block) : (w.setCell a u).heap[k]? = w.heap[k]? := Below.heap_setCell w a u k h
theorem blk_lt {w : World} {b : Nat} {o : Obj} (h : w.heap[b]? = some o) : b < w.heap.size := by
  rcases Nat.lt_or_ge b w.heap.size with h' | h'
  · exact h'
  · simp [Array.getElem?_eq_none h'] at h
theorem alloc_get (w : World) (o : Obj) (k : Nat) (h : k < w.heap.size) : (w.alloc o).heap[k]? = w.heap[k]? := Below.heap_alloc w o k h
theorem alloc_new (w : World) (o : Obj) : (w.alloc o).heap[w.heap.size]? = some o := (MapKept.heap_alloc w o).1

/-- all that was there reads as it did -/
theorem bcell {w w1 : World} (hb : Below w.heap.size w w1) {a : Addr} {v : Value} (h : w.cell? a = some v) : w1.cell? a = some v :=
  (hb.cell (p := a) (World.block_lt_of_cell? w a h)).trans h

/-! ### Slices that are read -/

/-- v is a slice of the elements css, k cells each -/
def SlV (k : Nat) (w : World) (v : Value) (css : List (List Value)) : Prop :=
  ∃ a cap, v = .slice a css.length cap ∧ css.length ≤ cap ∧ cap ≤ maxLen ∧ (a = none → cap = 0) ∧ (0 < css.length → ∃ b off, a = some ⟨b, off, none⟩ ∧ b < w.heap.size ∧ ∀ i (h : i < css.length) j u, css[i][j]? = some u → w.cell? ⟨b, off + i * k + j, none⟩ = some u)

theorem SlV.below {k : Nat} {w w' : World} {v : Value} {css : List (List Value)} (h : SlV k w v css) (hb : Below w.heap.size w w') : SlV k w' v css := by
  obtain ⟨a, cap, rfl, h1, h2, hn, h3⟩ := h
  refine ⟨a, cap, rfl, h1, h2, hn, fun h0 => ?_⟩
  obtain ⟨b, off, rfl, h4, h5⟩ := h3 h0
  exact ⟨b, off, rfl, Nat.lt_of_lt_of_le h4 hb.size, fun i h j u hu => bcell hb (h5 i h j u hu)⟩

theorem SlV.len {k : Nat} {w : World} {v : Value} {css : List (List Value)} (h : SlV k w v css) : css.length ≤ 9223372036854775807 := by
  obtain ⟨a, cap, rfl, h1, h2, hn, h3⟩ := h
  unfold maxLen at h2; omega

theorem flat_get {k : Nat} : ∀ (css : List (List Value)), (∀ c ∈ css, c.length = k) → ∀ i (h : i < css.length) j u, css[i][j]? = some u → css.flatten[i * k + j]? = some u
  | [], _, i, h, _, _, _ => by simp at h
  | c :: css, hc, 0, _, j, u, hu => by
    have hl := hc c (by simp)
    have hj : j < c.length := by
      rcases Nat.lt_or_ge j c.length with h | h
      · exact h
      · rw [List.getElem_cons_zero, List.getElem?_eq_none h] at hu; cases hu
    rw [List.flatten_cons, Nat.zero_mul, Nat.zero_add, List.getElem?_append_left hj]; exact hu
  | c :: css, hc, i + 1, h, j, u, hu => by
    have hl := hc c (by simp)
    rw [List.flatten_cons, List.getElem?_append_right (by rw [hl, Nat.succ_mul]; omega), hl, show (i + 1) * k + j - k = i * k + j from by rw [Nat.succ_mul]; omega]
    exact flat_get css (fun c h => hc c (by simp [h])) i (by simpa using h) j u (by simpa using hu)

theorem flat_len {k : Nat} : ∀ (css : List (List Value)), (∀ c ∈ css, c.length = k) → css.flatten.length = css.length * k
  | [], _ => by simp
  | c :: css, hc => by
    rw [List.flatten_cons, List.length_append, hc c (by simp), flat_len css fun c h => hc c (by simp [h]), List.length_cons, Nat.succ_mul]; omega

/-- a row of one's own, read -/
theorem SlV.of_own {k : Nat} {w : World} {base : Nat} {e : TypeId} {v : Value} {css : List (List Value)} (hc : ∀ c ∈ css, c.length = k) (h : w.ownsRow base e k v css.length css.flatten) : SlV k w v css := by
  rcases h.2 with ⟨rfl, h0⟩ | ⟨g, cap, cur, rfl, hb, hg, h1, h2, h3, h4⟩
  · exact ⟨none, 0, by rw [h0], by omega, by omega, fun _ => rfl, fun h => by omega⟩
  · refine ⟨_, cap, rfl, h1, h2, (fun h => by cases h), fun h0 => ⟨g, 0, rfl, blk_lt hg, fun i hi j u hu => ?_⟩⟩
    have e1 := flat_get css hc i hi j u hu
    rw [← h4, List.getElem?_take] at e1
    split at e1
    · rw [Nat.zero_add]; exact blk_cell hg (by simpa using e1)
    · cases e1

/-- the slice is nil, or begins a row of a block from base on -/
theorem own_cases {w : World} {base : Nat} {e : TypeId} {k : Nat} {v : Value} {n : Nat} {xs : List Value} (h : w.ownsRow base e k v n xs) :
    (v = .slice none 0 0 ∧ n = 0) ∨ ∃ g cap cur, v = .slice (some ⟨g, 0, none⟩) n cap ∧ base ≤ g ∧ g < w.heap.size ∧ w.heap[g]? = some (.cells cur e (0, 0)) ∧ n ≤ cap ∧ cap ≤ maxLen ∧ cur.size = cap * k ∧ cur.toList.take (n * k) = xs := by
  rcases h.2 with h | ⟨g, cap, cur, rfl, hb, hg, r⟩
  · exact .inl h
  · exact .inr ⟨g, cap, cur, rfl, hb, blk_lt hg, hg, r⟩

theorem flat_one {css : List (List Value)} (h1 : ∀ c ∈ css, ∀ u ∈ c, u.oneCell' = true) : ∀ u ∈ css.flatten, u.oneCell' = true := by
  intro u hu
  obtain ⟨c, hc, hu⟩ := List.mem_flatten.1 hu
  exact h1 c hc u hu

theorem flat_cells {k : Nat} {w : World} {b off : Nat} {css : List (List Value)} (hl : ∀ c ∈ css, c.length = k) (h : ∀ i (h : i < css.length) j u, css[i][j]? = some u → w.cell? ⟨b, off + i * k + j, none⟩ = some u) :
    ∀ j u, css.flatten[j]? = some u → w.cell? ((⟨b, off, none⟩ : Addr).add j) = some u := by
  intro j u hu
  have hadd : (⟨b, off, none⟩ : Addr).add j = ⟨b, off + j, none⟩ := by unfold Addr.add; split <;> simp_all
  rw [hadd]
  have hj : j < css.length * k := by
    rw [← flat_len css hl]
    rcases Nat.lt_or_ge j css.flatten.length with h | h
    · exact h
    · rw [List.getElem?_eq_none h] at hu; cases hu
  have k0 : 0 < k := by rcases Nat.eq_zero_or_pos k with e | e; · subst e; simp at hj
                        · exact e
  have hi : j / k < css.length := Nat.div_lt_of_lt_mul (by rwa [Nat.mul_comm])
  have hd : j / k * k + j % k = j := Nat.div_add_mod' j k
  have hm := Nat.mod_lt j k0
  have hc : css[j / k].length = k := hl _ (List.getElem_mem hi)
  have e1 := flat_get css hl (j / k) hi (j % k) _ (List.getElem?_eq_getElem (by rw [hc]; exact hm))
  rw [hd, hu] at e1
  have := h (j / k) hi (j % k) u (by rw [List.getElem?_eq_getElem (by rw [hc]; exact hm), e1])
  rw [Nat.add_assoc, hd] at this
  exact this

/-- 'append(own, read...)' -/
theorem wpList_append_sl {P : Program} {w : World} {ops : Array Oper} {rest : List Oper} {o : Oper} {a : Act} {Q : Exit → Act → World → Prop} (hgd : o.guard = none) (s x : Operand) (t : TypeId)
    (ho : o.op = .call { callee := .builtin .append, args := #[s, x], argTypes := #[t, t] })
    (base : Nat) (e : TypeId) (i : TypeInfo) (z : Value) (size bytes : Nat) (ht : P.underlying t = some (.slice e)) (hi : P.info? e = some i) (hz : i.zero = some z)
    (hsize : i.size = size) (hby : i.bytes = bytes) (hzs : z.cells.size = size) (hsz : 0 < size)
    (v : Value) (n : Nat) (xs : List Value) (hs : a.eval s = v) (hown : w.ownsRow base e size v n xs)
    (vx : Value) (css : List (List Value)) (hx : a.eval x = vx) (hsl : SlV size w vx css) (hl : ∀ c ∈ css, c.length = size) (h1 : ∀ c ∈ css, ∀ u ∈ c, u.oneCell' = true)
    (h63 : n + css.length ≤ maxLen) (hbytes : (n + css.length) * bytes ≤ 140737488355328) (hbase : base ≤ w.heap.size)
    (h : ∀ v' w', w'.ownsRow base e size v' (n + css.length) (xs ++ css.flatten) → w.grownBy w' v.ownBlock → wpList P ops Q rest (a.put o.dst v') w') : wpList P ops Q (o :: rest) a w := by
  obtain ⟨ad, cap, rfl, c1, c2, c3, c4⟩ := hsl
  cases ad with
  | none =>
    have c0 := c3 rfl
    have cl : css.length = 0 := by omega
    have ce : css = [] := List.length_eq_zero_iff.1 cl
    subst ce
    subst c0
    refine wpList_append_own_none hgd s x t ho base e i size ht hi v n xs hs hown hx (h v w (by simpa using hown) ⟨rfl, rfl, rfl, Nat.le_refl _, fun _ _ _ => rfl⟩)
  | some ad =>
    refine wpList_append_own w hgd s x t ho base e i z size bytes ht hi hz hsize hby hzs hsz v n xs hs hown ad css.length cap css.flatten hx (flat_len css hl) ?_ (flat_one h1) h63 hbytes hbase fun v' w' h2 h3 _ => h v' w' h2 h3
    intro j u hu
    have h0 : 0 < css.length := by
      rcases Nat.eq_zero_or_pos css.length with e | e
      · rw [List.length_eq_zero_iff.1 e] at hu; simp at hu
      · exact e
    obtain ⟨b, off, e1, _, h5⟩ := c4 h0
    cases e1
    exact flat_cells hl h5 j u hu

/-! ### Hops -/

def hopE (h : Ls.Hop) : List Value := [.int .i64 h.iface, .int .u32 h.addr, .int .u32 h.router]
def HopsAt (w : World) (v : Value) (l : List Ls.Hop) : Prop := SlV 3 w v (l.map hopE)

theorem HopsAt.below {w w' : World} {v : Value} {l : List Ls.Hop} (h : HopsAt w v l) (hb : Below w.heap.size w w') : HopsAt w' v l := SlV.below h hb

/-- the cells of a slice of hops -/
theorem HopsAt.get {w : World} {v : Value} {l : List Ls.Hop} (h : HopsAt w v l) : ∃ a cap, v = .slice a l.length cap ∧ l.length ≤ cap ∧ cap ≤ maxLen ∧ (a = none → cap = 0) ∧ (0 < l.length → ∃ b off, a = some ⟨b, off, none⟩ ∧ b < w.heap.size ∧ ∀ i (h : i < l.length),
    w.cell? ⟨b, off + i * 3, none⟩ = some (.int .i64 l[i].iface) ∧ w.cell? ⟨b, off + i * 3 + 1, none⟩ = some (.int .u32 l[i].addr) ∧ w.cell? ⟨b, off + i * 3 + 2, none⟩ = some (.int .u32 l[i].router)) := by
  obtain ⟨a, cap, h0, h1, h2, hn, h3⟩ := h
  simp only [List.length_map] at h0 h1 h3
  refine ⟨a, cap, h0, h1, h2, hn, fun hl => ?_⟩
  obtain ⟨b, off, e, h4, h5⟩ := h3 hl
  refine ⟨b, off, e, h4, fun i hi => ?_⟩
  have := h5 i (by simpa using hi)
  simp only [List.getElem_map, hopE] at this
  exact ⟨this 0 _ rfl, this 1 _ rfl, this 2 _ rfl⟩

theorem SlV.kept {k : Nat} {w w' : World} {v : Value} {css : List (List Value)} {row : Option Nat} (h : SlV k w v css) (hg : w.grownBy w' row) (hb : ∀ b off n c, v = .slice (some ⟨b, off, none⟩) n c → row ≠ some b) : SlV k w' v css := by
  obtain ⟨a, cap, e, h1, h2, h3, h4⟩ := h
  refine ⟨a, cap, e, h1, h2, h3, fun h0 => ?_⟩
  obtain ⟨b, off, ea, h5, h6⟩ := h4 h0
  subst ea
  exact ⟨b, off, rfl, Nat.lt_of_lt_of_le h5 hg.size, fun i hi j u hu => (World.cell?_of_block (w := w) (w' := w') (hg.block b h5 (fun z => hb b off _ _ e z.symm))).trans (h6 i hi j u hu)⟩

theorem wpList_append_one {P : Program} {w : World} {ops : Array Oper} {rest : List Oper} {o : Oper} {a : Act} {Q : Exit → Act → World → Prop} (hgd : o.guard = none) (s x : Operand) (t : TypeId)
    (ho : o.op = .call { callee := .builtin .append, args := #[s, x], argTypes := #[t, t] })
    (base : Nat) (e : TypeId) (i : TypeInfo) (z : Value) (size bytes : Nat) (ht : P.underlying t = some (.slice e)) (hi : P.info? e = some i) (hz : i.zero = some z)
    (hsize : i.size = size) (hby : i.bytes = bytes) (hzs : z.cells.size = size) (hsz : 0 < size)
    (v : Value) (n : Nat) (xs : List Value) (hs : a.eval s = v) (hown : w.ownsRow base e size v n xs)
    (nb : Nat) (vals : List Value) (te : TypeId) (hx : a.eval x = .slice (some ⟨nb, 0, none⟩) 1 1) (hblk : w.heap[nb]? = some (.cells vals.toArray te (0, 0))) (hl : vals.length = size) (h1 : ∀ u ∈ vals, u.oneCell' = true)
    (h63 : n + 1 ≤ maxLen) (hbytes : (n + 1) * bytes ≤ 140737488355328) (hbase : base ≤ w.heap.size)
    (h : ∀ v' w', w'.ownsRow base e size v' (n + 1) (xs ++ vals) → w.grownBy w' v.ownBlock → (v'.ownBlock = v.ownBlock ∨ v'.ownBlock = some w.heap.size) → wpList P ops Q rest (a.put o.dst v') w') : wpList P ops Q (o :: rest) a w := by
  refine wpList_append_own_at w hgd s x t ho base e i z size bytes ht hi hz hsize hby hzs hsz v n xs hs hown ⟨nb, 0, none⟩ 1 1 vals hx (by rw [hl, Nat.one_mul]) ?_ h1 h63 hbytes hbase fun v' w' h2 h3 _ h5 => h v' w' h2 h3 h5
  intro j u hu
  have := blk_cell (i := j) hblk (by simpa using hu)
  have e : (⟨nb, 0, none⟩ : Addr).add j = ⟨nb, j, none⟩ := by
    cases j with
    | zero => rfl
    | succ j => simp [Addr.add]
  rw [e]; exact this

end Go.Proofs.YtombnejipaoinaaGreat
