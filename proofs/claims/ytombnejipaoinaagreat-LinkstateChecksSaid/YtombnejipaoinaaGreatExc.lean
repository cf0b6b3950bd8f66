/-
  The evaluator's tables, values and blocks: what they say of the memory.
-/
/-
  The evaluator's blocks and the memory: what a step leaves.
-/
import Derived.Test.YtombnejipaoinaaGreatExa
import Derived.Laws.World
import Derived.Laws.Sem
import Derived.Laws.Cells
import Derived.Laws.Entries
namespace Go.Ex
open Go

section
variable {α : Type}
theorem Tr.get_nil (n : Nat) : (Tr.nil : Tr α).get n = none := rfl
theorem Tr.get_node (l r : Tr α) (v : Option α) (n : Nat) : (Tr.node l v r).get n = if n = 0 then v else if n % 2 = 1 then l.get (n / 2) else r.get ((n - 1) / 2) := by
  show @Bool.rec (fun _ => Option α) (@Bool.rec (fun _ => Option α) (r.get ((n - 1) / 2)) (l.get (n / 2)) (Nat.beq (n % 2) 1)) v (Nat.beq n 0) = _
  cases h : Nat.beq n 0 with
  | true => have := Nat.eq_of_beq_eq_true h; simp [this]
  | false =>
    have h0 := Nat.ne_of_beq_eq_false h
    rw [if_neg h0]
    cases h2 : Nat.beq (n % 2) 1 with
    | true => rw [if_pos (Nat.eq_of_beq_eq_true h2)]
    | false => rw [if_neg (Nat.ne_of_beq_eq_false h2)]
theorem Tr.one_succ (x : Option α) (k n : Nat) : Tr.one x (k + 1) n = if n = 0 then .node .nil x .nil else if n % 2 = 1 then .node (Tr.one x k (n / 2)) none .nil else .node .nil none (Tr.one x k ((n - 1) / 2)) := by
  show @Bool.rec (fun _ => Tr α) (@Bool.rec (fun _ => Tr α) (.node .nil none (Tr.one x k ((n - 1) / 2))) (.node (Tr.one x k (n / 2)) none .nil) (Nat.beq (n % 2) 1)) (.node .nil x .nil) (Nat.beq n 0) = _
  cases h : Nat.beq n 0 with
  | true => have := Nat.eq_of_beq_eq_true h; simp [this]
  | false =>
    have h0 := Nat.ne_of_beq_eq_false h
    rw [if_neg h0]
    cases h2 : Nat.beq (n % 2) 1 with
    | true => rw [if_pos (Nat.eq_of_beq_eq_true h2)]
    | false => rw [if_neg (Nat.ne_of_beq_eq_false h2)]
theorem Tr.set_node (l r : Tr α) (v x : Option α) (n : Nat) : (Tr.node l v r).set x n = if n = 0 then .node l x r else if n % 2 = 1 then .node (l.set x (n / 2)) v r else .node l v (r.set x ((n - 1) / 2)) := by
  show @Bool.rec (fun _ => Tr α) (@Bool.rec (fun _ => Tr α) (.node l v (r.set x ((n - 1) / 2))) (.node (l.set x (n / 2)) v r) (Nat.beq (n % 2) 1)) (.node l x r) (Nat.beq n 0) = _
  cases h : Nat.beq n 0 with
  | true => have := Nat.eq_of_beq_eq_true h; simp [this]
  | false =>
    have h0 := Nat.ne_of_beq_eq_false h
    rw [if_neg h0]
    cases h2 : Nat.beq (n % 2) 1 with
    | true => rw [if_pos (Nat.eq_of_beq_eq_true h2)]
    | false => rw [if_neg (Nat.ne_of_beq_eq_false h2)]
theorem Tr.get_one (x : Option α) : ∀ (k n : Nat), n < k → ∀ j, (Tr.one x k n).get j = if j = n then x else none
  | 0, _, h, _ => by omega
  | k + 1, n, h, j => by
    rw [Tr.one_succ]
    by_cases h0 : n = 0
    · rw [if_pos h0, Tr.get_node]
      by_cases hj : j = 0
      · simp [hj, h0]
      · rw [if_neg hj, if_neg (by omega : ¬ j = n)]
        split <;> rfl
    · rw [if_neg h0]
      by_cases h2 : n % 2 = 1
      · rw [if_pos h2, Tr.get_node]
        by_cases hj : j = 0
        · rw [if_pos hj, if_neg (by omega)]
        · rw [if_neg hj]
          by_cases hj2 : j % 2 = 1
          · rw [if_pos hj2, Tr.get_one x k (n / 2) (by omega)]
            by_cases e : j = n
            · rw [if_pos (by omega), if_pos e]
            · rw [if_neg (by omega), if_neg e]
          · rw [if_neg hj2, Tr.get_nil, if_neg (by omega)]
      · rw [if_neg h2, Tr.get_node]
        by_cases hj : j = 0
        · rw [if_pos hj, if_neg (by omega)]
        · rw [if_neg hj]
          by_cases hj2 : j % 2 = 1
          · rw [if_pos hj2, Tr.get_nil, if_neg (by omega)]
          · rw [if_neg hj2, Tr.get_one x k ((n - 1) / 2) (by omega)]
            by_cases e : j = n
            · rw [if_pos (by omega), if_pos e]
            · rw [if_neg (by omega), if_neg e]
theorem Tr.get_set (x : Option α) : ∀ (t : Tr α) (n j : Nat), (t.set x n).get j = if j = n then x else t.get j
  | .nil, n, j => by
    show (Tr.one x (n + 1) n).get j = _
    rw [Tr.get_one x (n + 1) n (by omega), Tr.get_nil]
  | .node l v r, n, j => by
    rw [Tr.set_node]
    by_cases h0 : n = 0
    · rw [if_pos h0, Tr.get_node, Tr.get_node]
      by_cases hj : j = 0
      · simp [hj, h0]
      · rw [if_neg hj, if_neg (by omega : ¬ j = n), if_neg hj]
    · rw [if_neg h0]
      by_cases h2 : n % 2 = 1
      · rw [if_pos h2, Tr.get_node, Tr.get_node]
        by_cases hj : j = 0
        · rw [if_pos hj, if_neg (by omega), if_pos hj]
        · rw [if_neg hj, if_neg hj]
          by_cases hj2 : j % 2 = 1
          · rw [if_pos hj2, if_pos hj2, Tr.get_set x l (n / 2)]
            by_cases e : j = n
            · rw [if_pos (by omega), if_pos e]
            · rw [if_neg (by omega), if_neg e]
          · rw [if_neg hj2, if_neg hj2, if_neg (by omega)]
      · rw [if_neg h2, Tr.get_node, Tr.get_node]
        by_cases hj : j = 0
        · rw [if_pos hj, if_neg (by omega), if_pos hj]
        · rw [if_neg hj, if_neg hj]
          by_cases hj2 : j % 2 = 1
          · rw [if_pos hj2, if_pos hj2, if_neg (by omega)]
          · rw [if_neg hj2, if_neg hj2, Tr.get_set x r ((n - 1) / 2)]
            by_cases e : j = n
            · rw [if_pos (by omega), if_pos e]
            · rw [if_neg (by omega), if_neg e]
theorem Tr.get_ofList : ∀ (l : List α) (i : Nat) (t : Tr α) (j : Nat), (Tr.ofList l i t).get j = if i ≤ j ∧ j < i + l.length then l[j - i]? else t.get j
  | [], i, t, j => by rw [if_neg (by simp)]; rfl
  | x :: l, i, t, j => by
    show (Tr.ofList l (i + 1) (t.set (some x) i)).get j = _
    rw [Tr.get_ofList l (i + 1), Tr.get_set]
    by_cases h : i + 1 ≤ j ∧ j < i + 1 + l.length
    · rw [if_pos h, if_pos (by simp; omega), show j - i = (j - (i + 1)) + 1 by omega, List.getElem?_cons_succ]
    · rw [if_neg h]
      by_cases e : j = i
      · rw [if_pos e, if_pos (by simp; omega)]; subst e; simp
      · rw [if_neg e, if_neg (by simp; omega)]
theorem Tr.get_list (l : List α) (j : Nat) : (Tr.ofList l 0 .nil).get j = l[j]? := by
  rw [Tr.get_ofList]
  by_cases h : j < l.length
  · rw [if_pos (by omega)]; rfl
  · rw [if_neg (by omega), Tr.get_nil, List.getElem?_eq_none (by omega)]
end

theorem ob_some {α β : Type} {x : Option α} {f : α → Option β} {b : β} : ob x f = some b ↔ ∃ a, x = some a ∧ f a = some b := by
  cases x with
  | none => constructor
            · intro h; cases h
            · rintro ⟨a, h, _⟩; cases h
  | some a => constructor
              · intro h; exact ⟨a, rfl, h⟩
              · rintro ⟨a', h, h2⟩; cases h; exact h2
theorem gd_some {β : Type} {c : Bool} {x : Option β} {b : β} : gd c x = some b ↔ c = true ∧ x = some b := by
  cases c with
  | false => constructor
             · intro h; cases h
             · rintro ⟨h, _⟩; cases h
  | true => exact ⟨fun h => ⟨rfl, h⟩, fun h => h.2⟩
theorem brec {β : Type} (c : Bool) (x y : β) : @Bool.rec (fun _ => β) x y c = bif c then y else x := by cases c <;> rfl

/-- where a block lies: the real block, what is added to an offset, its cells -/
structure Loc where
  b : Nat
  sh : Nat
  c : Nat
abbrev Dm := Nat → Option Loc

/-- a value and the real one -/
inductive RV (D : Dm) : Value → Value → Prop
  | bool (b : Bool) : RV D (.bool b) (.bool b)
  | int (k : IntKind) (n : Int) : RV D (.int k n) (.int k n)
  | float (k : FloatKind) (n : Nat) : RV D (.float k n) (.float k n)
  | string (s : ByteArray) : RV D (.string s) (.string s)
  | nilPtr : RV D (.pointer none) (.pointer none)
  | ptr (i off : Nat) (l : Loc) : D i = some l → RV D (.pointer (some ⟨i, off, none⟩)) (.pointer (some ⟨l.b, off + l.sh, none⟩))
  | nilSlc : RV D (.slice none 0 0) (.slice none 0 0)
  | slc (i off : Nat) (l : Loc) (n c : Nat) : D i = some l → c < BIG → RV D (.slice (some ⟨i, off, none⟩) n c) (.slice (some ⟨l.b, off + l.sh, none⟩) n c)
  | slcU (i off : Nat) (l : Loc) (n s mc rc : Nat) : D i = some l → 0 < s → s < K20 → n ≤ mc → mc ≤ rc → mc ≤ 1000000000 → (off + l.sh) + rc * s ≤ l.c → RV D (.slice (some ⟨i, off, none⟩) n (unk mc s)) (.slice (some ⟨l.b, off + l.sh, none⟩) n rc)
  | slcE (a : Option Addr) (c : Nat) : RV D (.slice none 0 EMP) (.slice a 0 c)
  | nilMap : RV D (.map none) (.map none)
  | map (i : Nat) (l : Loc) : D i = some l → RV D (.map (some i)) (.map (some l.b))
  | nilFunc : RV D .nilFunc .nilFunc
  | yld (i : Nat) (l : Loc) : D i = some l → RV D (.func (.yield i) #[] #[]) (.func (.yield l.b) #[] #[])
  | func (fn : FuncId) (a b a' b' : List Value) : a.length = a'.length → b.length = b'.length → (∀ (i : Nat) (x y : Value), a[i]? = some x → a'[i]? = some y → RV D x y) → (∀ (i : Nat) (x y : Value), b[i]? = some x → b'[i]? = some y → RV D x y) → RV D (.func (.func fn) ⟨a⟩ ⟨b⟩) (.func (.func fn) ⟨a'⟩ ⟨b'⟩)
  | nilIface : RV D .nilIface .nilIface
  | iface (t : TypeId) (v r : Value) : RV D v r → RV D (.iface t v) (.iface t r)
  | agg (a a' : List Value) : a.length = a'.length → (∀ (i : Nat) (x y : Value), a[i]? = some x → a'[i]? = some y → RV D x y) → RV D (.agg ⟨a⟩) (.agg ⟨a'⟩)
  | tuple (a a' : List Value) : a.length = a'.length → (∀ (i : Nat) (x y : Value), a[i]? = some x → a'[i]? = some y → RV D x y) → RV D (.tuple ⟨a⟩) (.tuple ⟨a'⟩)

/-- rows of values -/
def RL (D : Dm) (l l' : List Value) : Prop := l.length = l'.length ∧ ∀ (i : Nat) (x y : Value), l[i]? = some x → l'[i]? = some y → RV D x y

def Dm.le (D D' : Dm) : Prop := ∀ i l, D i = some l → D' i = some l
theorem Dm.le.refl (D : Dm) : D.le D := fun _ _ h => h
theorem Dm.le.trans {D D' D'' : Dm} (h : D.le D') (h' : D'.le D'') : D.le D'' := fun i l e => h' i l (h i l e)

theorem RV.mono {D D' : Dm} (hd : D.le D') {v r : Value} (h : RV D v r) : RV D' v r := by
  induction h with
  | bool => exact .bool _
  | int => exact .int _ _
  | float => exact .float _ _
  | string => exact .string _
  | nilPtr => exact .nilPtr
  | ptr i off l h => exact .ptr i off l (hd _ _ h)
  | nilSlc => exact .nilSlc
  | slc i off l n c h hc => exact .slc i off l n c (hd _ _ h) hc
  | slcU i off l n s mc rc h h1 h2 h3 h4 h5 h6 => exact .slcU i off l n s mc rc (hd _ _ h) h1 h2 h3 h4 h5 h6
  | slcE a c => exact .slcE a c
  | nilMap => exact .nilMap
  | map i l h => exact .map i l (hd _ _ h)
  | nilFunc => exact .nilFunc
  | yld i l h => exact .yld i l (hd _ _ h)
  | func fn a b a' b' h1 h2 _ _ i1 i2 => exact .func fn a b a' b' h1 h2 i1 i2
  | nilIface => exact .nilIface
  | iface t v r _ ih => exact .iface t v r ih
  | agg a a' h _ ih => exact .agg a a' h ih
  | tuple a a' h _ ih => exact .tuple a a' h ih
theorem RL.mono {D D' : Dm} (hd : D.le D') {l l' : List Value} (h : RL D l l') : RL D' l l' := ⟨h.1, fun i x y a b => (h.2 i x y a b).mono hd⟩

section
variable {D : Dm}
theorem RL.nil : RL D [] [] := ⟨rfl, fun i x y h => by simp at h⟩
theorem RL.cons {x y : Value} {l l' : List Value} (h : RV D x y) (hl : RL D l l') : RL D (x :: l) (y :: l') := by
  refine ⟨by simp [hl.1], fun i a b ha hb => ?_⟩
  cases i with
  | zero => simp at ha hb; subst ha hb; exact h
  | succ i => simp at ha hb; exact hl.2 i a b ha hb
theorem RL.cons_inv {x : Value} {l l' : List Value} (h : RL D (x :: l) l') : ∃ y r, l' = y :: r ∧ RV D x y ∧ RL D l r := by
  cases l' with
  | nil => have := h.1; simp at this
  | cons y r => exact ⟨y, r, rfl, h.2 0 x y rfl rfl, by have := h.1; simpa using this, fun i a b ha hb => h.2 (i + 1) a b (by simpa using ha) (by simpa using hb)⟩
theorem RL.nil_inv {l' : List Value} (h : RL D [] l') : l' = [] := by
  have := h.1; cases l' with
  | nil => rfl
  | cons => simp at this
theorem RL.append {a a' b b' : List Value} (h : RL D a a') (h' : RL D b b') : RL D (a ++ b) (a' ++ b') := by
  induction a generalizing a' with
  | nil => rw [h.nil_inv]; exact h'
  | cons x a ih =>
    obtain ⟨y, r, rfl, h1, h2⟩ := h.cons_inv
    exact .cons h1 (ih h2)
theorem RL.get {l l' : List Value} (h : RL D l l') {i : Nat} {x : Value} (hx : l[i]? = some x) : ∃ y, l'[i]? = some y ∧ RV D x y := by
  have hi : i < l.length := by
    rcases Nat.lt_or_ge i l.length with h | h
    · exact h
    · rw [List.getElem?_eq_none h] at hx; cases hx
  have hi' : i < l'.length := h.1 ▸ hi
  exact ⟨l'[i], List.getElem?_eq_getElem hi', h.2 i x _ hx (List.getElem?_eq_getElem hi')⟩
theorem RL.rep {z z' : List Value} (h : RL D z z') : ∀ n, RL D (rep z n) (rep z' n)
  | 0 => .nil
  | n + 1 => h.append (RL.rep h n)
theorem RV.agg' {l l' : List Value} (h : RL D l l') : RV D (.agg ⟨l⟩) (.agg ⟨l'⟩) := .agg l l' h.1 h.2
theorem RV.tuple' {l l' : List Value} (h : RL D l l') : RV D (.tuple ⟨l⟩) (.tuple ⟨l'⟩) := .tuple l l' h.1 h.2
theorem RV.func' {fn : FuncId} {l l' m m' : List Value} (h : RL D l l') (h' : RL D m m')   : RV D (.func (.func fn) ⟨l⟩ ⟨m⟩) (.func (.func fn) ⟨l'⟩ ⟨m'⟩) := .func fn l m l' m' h.1 h'.1 h.2 h'.2

/-- a plain value is the real one -/
theorem pl_rv : ∀ (k : Nat) (v : Value), pl k v = true → RV D v v
  | 0, _, h => by cases h
  | k + 1, v, h => by
    cases v with
    | bool b => exact .bool b
    | int i n => exact .int i n
    | float i n => exact .float i n
    | complex => simp [pl] at h
    | string s => exact .string s
    | pointer a => cases a with
      | none => exact .nilPtr
      | some a => simp [pl] at h
    | slice a n c => cases a with
      | none =>
        cases n with
        | succ n => simp [pl] at h
        | zero =>
          cases c with
          | succ c => simp [pl] at h
          | zero => exact .nilSlc
      | some a => simp [pl] at h
    | map r => cases r with
      | none => exact .nilMap
      | some a => simp [pl] at h
    | chan => simp [pl] at h
    | func fn a b =>
      obtain ⟨a⟩ := a; obtain ⟨b⟩ := b
      cases fn with
      | func f =>
      have h' : a.all (pl k) = true ∧ b.all (pl k) = true := by simp only [pl, Bool.and_eq_true] at h; exact h
      refine RV.func' ⟨rfl, fun i x y hx hy => ?_⟩ ⟨rfl, fun i x y hx hy => ?_⟩ <;> rw [hx] at hy <;> cases hy
      · exact pl_rv k x (List.all_eq_true.1 h'.1 x (List.mem_of_getElem? hx))
      · exact pl_rv k x (List.all_eq_true.1 h'.2 x (List.mem_of_getElem? hx))
      | _ => simp [pl] at h
    | nilFunc => exact .nilFunc
    | iface t v => exact .iface t v v (pl_rv k v (by simpa [pl] using h))
    | nilIface => exact .nilIface
    | agg cs =>
      obtain ⟨a⟩ := cs
      simp [pl] at h
      refine RV.agg' ⟨rfl, fun i x y hx hy => ?_⟩
      rw [hx] at hy; cases hy
      exact pl_rv k x (h x (List.mem_of_getElem? hx))
    | tuple cs =>
      obtain ⟨a⟩ := cs
      simp [pl] at h
      refine RV.tuple' ⟨rfl, fun i x y hx hy => ?_⟩
      rw [hx] at hy; cases hy
      exact pl_rv k x (h x (List.mem_of_getElem? hx))

theorem RL.eq_of {l l' : List Value} (h : RL D l l') (hp : ∀ (i : Nat) (x y : Value), l[i]? = some x → RV D x y → y = x) : l' = l := by
  induction l generalizing l' with
  | nil => exact h.nil_inv
  | cons x l ih =>
    obtain ⟨y, r, rfl, h1, h2⟩ := h.cons_inv
    rw [hp 0 x y rfl h1, ih h2 (fun i a b ha hb => hp (i + 1) a b (by simpa using ha) hb)]

theorem pl_eq : ∀ (k : Nat) (v r : Value), pl k v = true → RV D v r → r = v
  | 0, _, _, h, _ => by cases h
  | k + 1, v, r, h, hr => by
    cases hr with
    | bool | int | float | string | nilPtr | nilSlc | nilMap | nilFunc | nilIface => rfl
    | ptr | slc | slcU | map | yld => simp [pl] at h
    | slcE => simp [pl, EMP] at h
    | func fn a b a' b' h1 h2 h3 h4 =>
      have h' : a.all (pl k) = true ∧ b.all (pl k) = true := by simp only [pl, Bool.and_eq_true] at h; exact h
      have e1 := RL.eq_of (D := D) (l := a) (l' := a') ⟨h1, h3⟩ (fun i x y hx hy => pl_eq k x y (List.all_eq_true.1 h'.1 x (List.mem_of_getElem? hx)) hy)
      have e2 := RL.eq_of (D := D) (l := b) (l' := b') ⟨h2, h4⟩ (fun i x y hx hy => pl_eq k x y (List.all_eq_true.1 h'.2 x (List.mem_of_getElem? hx)) hy)
      rw [e1, e2]
    | iface t v r hv => rw [pl_eq k v r (by simpa [pl] using h) hv]
    | agg a a' h1 h2 =>
      simp [pl] at h
      rw [RL.eq_of (D := D) (l := a) (l' := a') ⟨h1, h2⟩ (fun i x y hx hy => pl_eq k x y (h x (List.mem_of_getElem? hx)) hy)]
    | tuple a a' h1 h2 =>
      simp [pl] at h
      rw [RL.eq_of (D := D) (l := a) (l' := a') ⟨h1, h2⟩ (fun i x y hx hy => pl_eq k x y (h x (List.mem_of_getElem? hx)) hy)]
theorem pl_eqL (k : Nat) {l l' : List Value} (h : RL D l l') (hp : l.all (pl k) = true) : l' = l :=
  h.eq_of fun i x y hx hy => pl_eq k x y (by simpa using (List.all_eq_true.1 hp) x (List.mem_of_getElem? hx)) hy

theorem RV.cells {v r : Value} (h : RV D v r) : RL D v.cells.toList r.cells.toList := by
  cases h with
  | agg a a' h1 h2 => exact ⟨h1, h2⟩
  | bool b => exact .cons (.bool b) .nil
  | int k n => exact .cons (.int k n) .nil
  | float k n => exact .cons (.float k n) .nil
  | string s => exact .cons (.string s) .nil
  | nilPtr => exact .cons .nilPtr .nil
  | ptr i off l h => exact .cons (.ptr i off l h) .nil
  | nilSlc => exact .cons .nilSlc .nil
  | slc i off l n c h hc => exact .cons (.slc i off l n c h hc) .nil
  | slcU i off l n s mc rc h h1 h2 h3 h4 h5 h6 => exact .cons (.slcU i off l n s mc rc h h1 h2 h3 h4 h5 h6) .nil
  | slcE a c => exact .cons (.slcE a c) .nil
  | nilMap => exact .cons .nilMap .nil
  | map i l h => exact .cons (.map i l h) .nil
  | nilFunc => exact .cons .nilFunc .nil
  | yld i l h => exact .cons (.yld i l h) .nil
  | func fn a b a' b' h1 h2 h3 h4 => exact .cons (.func fn a b a' b' h1 h2 h3 h4) .nil
  | nilIface => exact .cons .nilIface .nil
  | iface t v r h => exact .cons (.iface t v r h) .nil
  | tuple a a' h1 h2 => exact .cons (.tuple a a' h1 h2) .nil
end

theorem unk_eq (m s : Nat) : unk m s = BIG + (m * K20 + s) := by unfold unk; simp only [Nat.add_eq, Nat.mul_eq]
theorem unk_ge (m s : Nat) : BIG ≤ unk m s := by rw [unk_eq]; exact Nat.le_add_right _ _
theorem unk_ble (m s : Nat) : Nat.ble BIG (unk m s) = true := Nat.ble_eq_true_of_le (unk_ge m s)
theorem sub_add (a b : Nat) : a + b - a = b := Nat.add_sub_cancel_left ..
theorem mcV_unk {m s : Nat} (h : s < K20) : mcV (unk m s) = m := by
  unfold mcV
  rw [brec, unk_ble, cond_true]
  simp only [Nat.sub_eq]
  rw [unk_eq, sub_add]
  show (m * K20 + s) / K20 = m
  rw [Nat.add_comm, Nat.add_mul_div_right _ _ (by decide), Nat.div_eq_of_lt h]; omega
theorem scV_unk {m s : Nat} (h : s < K20) : scV (unk m s) = s := by
  unfold scV
  rw [unk_eq]
  simp only [Nat.sub_eq]
  rw [sub_add]
  show (m * K20 + s) % K20 = s
  rw [Nat.add_comm, Nat.add_mul_mod_self_right, Nat.mod_eq_of_lt h]
theorem mcV_known {c : Nat} (h : c < BIG) : mcV c = c := by
  unfold mcV
  rw [brec]
  cases e : Nat.ble BIG c with
  | false => rfl
  | true => have := Nat.le_of_ble_eq_true e; omega
theorem pureRun_run {α : Type} {P : Program} {s : Sem α} {a : α} (h : pureRun P s = some a) (w : World) : s.run P w = .ok a w := by
  induction s generalizing w with
  | pure x => simp only [pureRun, Option.some.injEq] at h; subst h; rfl
  | program k ih => exact ih P h w
  | mark m k ih => exact ih h w
  | _ => simp [pureRun] at h

theorem pureRun_bind {α β : Type} {P : Program} {s : Sem α} {f : α → Sem β} {b : β} (h : pureRun P (s >>= f) = some b) : ∃ a, pureRun P s = some a ∧ pureRun P (f a) = some b := by
  have h' : pureRun P (s.bind f) = some b := h
  clear h
  induction s with
  | pure x => exact ⟨x, rfl, h'⟩
  | program k ih => exact ih P h'
  | mark m k ih => exact ih h'
  | _ => simp [Sem.bind, pureRun] at h'

end Go.Ex

namespace Go.Ex
open Go

/-- entries of maps -/
def RE (D : Dm) (l l' : List MapEntry) : Prop := l.length = l'.length ∧ ∀ (i : Nat) (e e' : MapEntry), l[i]? = some e → l'[i]? = some e' → e'.key = e.key ∧ pl 4 e.key = true ∧ e'.born = e.born ∧ RV D e.val e'.val
theorem RE.mono {D D' : Dm} (hd : D.le D') {l l' : List MapEntry} (h : RE D l l') : RE D' l l' :=
  ⟨h.1, fun i e e' a b => ⟨(h.2 i e e' a b).1, (h.2 i e e' a b).2.1, (h.2 i e e' a b).2.2.1, (h.2 i e e' a b).2.2.2.mono hd⟩⟩

/-- the places of a function and the real ones -/
structure RTm (D : Dm) (n : Nat) (tm : Tm) (ts : Array Value) : Prop where
  sz : ts.size = n
  get : ∀ t v, tm.get t = some v → ∃ r, ts[t]? = some r ∧ RV D v r
  gl : ∀ g, g < tm.ng → ∃ l, D g = some l ∧ l.b = g ∧ l.sh = 0
theorem RTm.mono {D D' : Dm} (hd : D.le D') {n : Nat} {tm : Tm} {ts : Array Value} (h : RTm D n tm ts) : RTm D' n tm ts :=
  ⟨h.sz, fun t v e => let ⟨r, h1, h2⟩ := h.get t v e; ⟨r, h1, h2.mono hd⟩, fun g hg => let ⟨l, h1, h2⟩ := h.gl g hg; ⟨l, hd _ _ h1, h2⟩⟩

/-- a block and the real one -/
inductive RO (D : Dm) (l : Loc) : VObj → Obj → Prop
  | row (cs : List Value) (e : TypeId) (rc : Array Value) (lo hi : Nat) : rc.size = l.c → cs.length + l.sh ≤ rc.size → (∀ (i : Nat) (x : Value), cs[i]? = some x → ∃ y, rc[i + l.sh]? = some y ∧ RV D x y) → (hi ≤ lo ∨ rc.size ≤ lo) → RO D l (.row cs e) (.cells rc e (lo, hi))
  | map (es : List MapEntry) (c : Nat) (res : List MapEntry) : l.sh = 0 → RE D es res → RO D l (.map es c) (.map ⟨res⟩ c)
  | iterN (since : Nat) (seen : List Nat) (st : Nat) : l.sh = 0 → RO D l (.iter none since seen st) (.mapIter none since ⟨seen⟩ st)
  | iter (m : Nat) (lm : Loc) (since : Nat) (seen : List Nat) (st : Nat) : l.sh = 0 → D m = some lm → RO D l (.iter (some m) since seen st) (.mapIter (some lm.b) since ⟨seen⟩ st)
  | siter (s : ByteArray) (pos : Nat) : l.sh = 0 → RO D l (.siter s pos) (.stringIter s pos)
  | dfrN : l.sh = 0 → RO D l (.dfr false) (.deferred (some []))
  | dfrS : l.sh = 0 → RO D l (.dfr true) (.deferred none)
  | loop (L : Lp) (ld : Loc) (fn : FuncId) (ts : Array Value) : l.sh = 0 → D L.dfr = some ld → ld.sh = 0 → RTm D L.sz L.tm ts → RO D l (.loop L) (.loop { state := L.st, pending := L.pend, fn, tmps := ts, params := ⟨L.params⟩, assign := L.assign, body := L.body, defers := ld.b })
theorem RO.mono {D D' : Dm} (hd : D.le D') {l : Loc} {o : VObj} {ob : Obj} (h : RO D l o ob) : RO D' l o ob := by
  cases h with
  | row cs e rc lo hi h1 h2 h3 h4 => exact .row cs e rc lo hi h1 h2 (fun i x hx => let ⟨y, a, b⟩ := h3 i x hx; ⟨y, a, b.mono hd⟩) h4
  | map es c res h1 h2 => exact .map es c res h1 (h2.mono hd)
  | iterN s n t h => exact .iterN s n t h
  | iter m lm s n t h h' => exact .iter m lm s n t h (hd _ _ h')
  | siter s p h => exact .siter s p h
  | dfrN h => exact .dfrN h
  | dfrS h => exact .dfrS h
  | loop L ld fn ts h h1 h2 h3 => exact .loop L ld fn ts h (hd _ _ h1) h2 (h3.mono hd)

/-- blocks and the memory -/
structure RH (D : Dm) (g : Nat → Option VObj) (w : World) : Prop where
  blk : ∀ i o, g i = some o → ∃ l ob, D i = some l ∧ w.heap[l.b]? = some ob ∧ RO D l o ob
  inj : ∀ i j o o' l l', g i = some o → g j = some o' → D i = some l → D j = some l' → l.b = l'.b → i = j
theorem RH.sub {D : Dm} {g g' : Nat → Option VObj} {w : World} (h : RH D g w) (hs : ∀ i o, g' i = some o → g i = some o) : RH D g' w :=
  ⟨fun i o hi => h.blk i o (hs i o hi), fun i j o o' l l' hi hj => h.inj i j o o' l l' (hs i o hi) (hs j o' hj)⟩
structure RS (D : Dm) (S : St) (w : World) : Prop where
  rh : RH D S.h.get w
  lt : ∀ i o, S.h.get i = some o → i < S.n

/-- what a step leaves as it was -/
structure Fr (D : Dm) (S : St) (w : World) (D' : Dm) (S' : St) (w' : World) : Prop where
  n : S.n ≤ S'.n
  ext : ∀ i, (i < S.n ∨ S'.n ≤ i) → D' i = D i
  le : D.le D'
  size : w.heap.size ≤ w'.heap.size
  os : w'.os = w.os
  tape : w'.tape = w.tape
  output : w'.output = w.output
  out : ∀ k, k < w.heap.size → (∀ i o l, S.h.get i = some o → D i = some l → l.b ≠ k) → w'.heap[k]? = w.heap[k]?
  img : ∀ i o l, S'.h.get i = some o → D' i = some l → w.heap.size ≤ l.b ∨ ∃ i' o' l', S.h.get i' = some o' ∧ D i' = some l' ∧ l'.b = l.b
  wm : S'.wm ≤ S.wm
  old : ∀ i, i < S.n → i < S'.wm → S'.h.get i = S.h.get i

theorem Fr.refl (D : Dm) (S : St) (w : World) : Fr D S w D S w :=
  ⟨Nat.le_refl _, fun _ _ => rfl, .refl D, Nat.le_refl _, rfl, rfl, rfl, fun _ _ _ => rfl, fun i o l h1 h2 => .inr ⟨i, o, l, h1, h2, rfl⟩, Nat.le_refl _, fun _ _ _ => rfl⟩
theorem Fr.drew (D : Dm) (S : St) (w : World) : Fr D S w D S w.drew :=
  ⟨Nat.le_refl _, fun _ _ => rfl, .refl D, Nat.le_refl _, rfl, rfl, rfl, fun _ _ _ => rfl, fun i o l h1 h2 => .inr ⟨i, o, l, h1, h2, rfl⟩, Nat.le_refl _, fun _ _ _ => rfl⟩
theorem RS.drew {D : Dm} {S : St} {w : World} (h : RS D S w) : RS D S w.drew := ⟨⟨h.rh.blk, h.rh.inj⟩, h.lt⟩

theorem Fr.trans {D D1 D2 : Dm} {S S1 S2 : St} {w w1 w2 : World} (h : Fr D S w D1 S1 w1) (h' : Fr D1 S1 w1 D2 S2 w2) : Fr D S w D2 S2 w2 := by
  refine ⟨Nat.le_trans h.n h'.n, fun i hi => ?_, h.le.trans h'.le, Nat.le_trans h.size h'.size, h'.os.trans h.os, h'.tape.trans h.tape, h'.output.trans h.output, fun k hk hn => ?_, fun i o l hi hl => ?_, Nat.le_trans h'.wm h.wm, fun i hi hw => ?_⟩
  · have := h.n; have := h'.n
    rw [h'.ext i (by omega), h.ext i (by omega)]
  · rw [h'.out k (Nat.lt_of_lt_of_le hk h.size) ?_, h.out k hk hn]
    intro i o l hi hl e
    rcases h.img i o l hi hl with h1 | ⟨i', o', l', h1, h2, h3⟩
    · omega
    · exact hn i' o' l' h1 h2 (h3.trans e)
  · rcases h'.img i o l hi hl with h1 | ⟨i', o', l', h1, h2, h3⟩
    · exact .inl (Nat.le_trans h.size h1)
    · rcases h.img i' o' l' h1 h2 with h4 | ⟨i2, o2, l2, h4, h5, h6⟩
      · exact .inl (h3 ▸ h4)
      · exact .inr ⟨i2, o2, l2, h4, h5, h6.trans h3⟩
  · rw [h'.old i (Nat.lt_of_lt_of_le hi h.n) hw, h.old i hi (Nat.lt_of_lt_of_le hw h'.wm)]

def Dm.up (D : Dm) (i : Nat) (l : Loc) : Dm := fun j => if j = i then some l else D j
theorem Dm.le_up {D : Dm} {i : Nat} {l : Loc} (h : D i = none) : D.le (D.up i l) := fun j l' e => by
  unfold Dm.up
  by_cases c : j = i
  · subst c; rw [h] at e; cases e
  · rw [if_neg c]; exact e
theorem Dm.up_self (D : Dm) (i : Nat) (l : Loc) : D.up i l i = some l := by simp [Dm.up]

section
variable {D : Dm} {S : St} {w : World}
theorem RS.blt (h : RS D S w) {i : Nat} {o : VObj} {l : Loc} (hi : S.h.get i = some o) (hl : D i = some l) : l.b < w.heap.size := by
  obtain ⟨l', ob, h1, h2, -⟩ := h.rh.blk i o hi
  rw [hl] at h1; cases h1
  rcases Nat.lt_or_ge l.b w.heap.size with c | c
  · exact c
  · rw [Array.getElem?_eq_none c] at h2; cases h2

/-- a new block -/
theorem RS.new (h : RS D S w) (hD : D S.n = none) {o : VObj} {ob : Obj} {c : Nat} (ho : RO (D.up S.n ⟨w.heap.size, 0, c⟩) ⟨w.heap.size, 0, c⟩ o ob) :
    RS (D.up S.n ⟨w.heap.size, 0, c⟩) (newV S o) (w.alloc ob) ∧ Fr D S w (D.up S.n ⟨w.heap.size, 0, c⟩) (newV S o) (w.alloc ob) := by
  have le : D.le (D.up S.n ⟨w.heap.size, 0, c⟩) := Dm.le_up hD
  have hg : ∀ j, (newV S o).h.get j = if j = S.n then some o else S.h.get j := fun j => Tr.get_set _ _ _ _
  have hold : ∀ k, k < w.heap.size → (w.alloc ob).heap[k]? = w.heap[k]? := fun k hk => by
    simp only [World.alloc, Array.getElem?_push]; rw [if_neg (by omega)]
  have hdn : ∀ j, j ≠ S.n → (D.up S.n ⟨w.heap.size, 0, c⟩) j = D j := fun j hj => by simp [Dm.up, hj]
  refine ⟨⟨⟨fun i o' hi => ?_, fun i j o1 o2 l l' hi hj hl hl' e => ?_⟩, fun i o' hi => ?_⟩, ⟨Nat.le_succ _, fun i hi => hdn i ?_, le, by simp, rfl, rfl, rfl, fun k hk _ => hold k hk, fun i o' l hi hl => ?_, Nat.le_refl _, fun i hi _ => ?_⟩⟩
  · rw [hg] at hi
    by_cases c' : i = S.n
    · rw [if_pos c'] at hi; cases hi; subst c'
      exact ⟨_, ob, Dm.up_self _ _ _, by show (w.heap.push ob)[w.heap.size]? = _; simp, ho⟩
    · rw [if_neg c'] at hi
      obtain ⟨l, ob', h1, h2, h3⟩ := h.rh.blk i o' hi
      exact ⟨l, ob', le _ _ h1, (hold _ (h.blt hi h1)).trans h2, h3.mono le⟩
  · rw [hg] at hi hj
    by_cases ci : i = S.n
    · by_cases cj : j = S.n
      · exact ci.trans cj.symm
      · exfalso
        rw [if_neg cj] at hj
        rw [hdn j cj] at hl'
        have := h.blt hj hl'
        subst ci
        rw [Dm.up_self] at hl; cases hl
        simp only at e; omega
    · rw [if_neg ci] at hi
      rw [hdn i ci] at hl
      by_cases cj : j = S.n
      · exfalso
        have := h.blt hi hl
        subst cj
        rw [Dm.up_self] at hl'; cases hl'
        simp only at e; omega
      · rw [if_neg cj] at hj
        rw [hdn j cj] at hl'
        exact h.rh.inj i j o1 o2 l l' hi hj hl hl' e
  · rw [hg] at hi
    show i < S.n + 1
    by_cases c' : i = S.n
    · omega
    · rw [if_neg c'] at hi; have := h.lt i o' hi; omega
  · rcases hi with hi | hi
    · omega
    · have : S.n + 1 ≤ i := hi; omega
  · rw [hg] at hi
    by_cases c' : i = S.n
    · subst c'; rw [Dm.up_self] at hl; cases hl; exact .inl (Nat.le_refl _)
    · rw [if_neg c'] at hi; rw [hdn i c'] at hl
      exact .inr ⟨i, o', l, hi, hl, rfl⟩
  · rw [hg, if_neg (by omega)]

/-- one block is written -/
structure Wr (w w' : World) (b : Nat) (ob : Obj) : Prop where
  size : w'.heap.size = w.heap.size
  at_ : w'.heap[b]? = some ob
  ne : ∀ k, k ≠ b → w'.heap[k]? = w.heap[k]?
  os : w'.os = w.os
  tape : w'.tape = w.tape
  output : w'.output = w.output

theorem putV_wm (S : St) (i : Nat) (o : VObj) : (putV S i o).wm = min S.wm i := by
  show @Bool.rec (fun _ => Nat) S.wm i (Nat.ble i S.wm) = _
  rw [brec]
  cases c : Nat.ble i S.wm with
  | true => have := Nat.le_of_ble_eq_true c; simp only [cond_true]; omega
  | false => have : ¬ i ≤ S.wm := fun h => by rw [Nat.ble_eq_true_of_le h] at c; cases c
             simp only [cond_false]; omega

theorem RS.put (h : RS D S w) {i : Nat} {o o' : VObj} {l : Loc} (hi : S.h.get i = some o) (hl : D i = some l) {w' : World} {ob : Obj} (hw : Wr w w' l.b ob) (ho : RO D l o' ob) :
    RS D (putV S i o') w' ∧ Fr D S w D (putV S i o') w' := by
  have hg : ∀ j, (putV S i o').h.get j = if j = i then some o' else S.h.get j := fun j => Tr.get_set _ _ _ _
  refine ⟨⟨⟨fun j oj hj => ?_, fun j k o1 o2 l1 l2 hj hk hl1 hl2 e => ?_⟩, fun j oj hj => ?_⟩, ⟨Nat.le_refl _, fun _ _ => rfl, .refl D, Nat.le_of_eq hw.size.symm, hw.os, hw.tape, hw.output, fun k hk hn => ?_, fun j oj lj hj hlj => ?_, by rw [putV_wm]; omega, fun j hj hm => ?_⟩⟩
  · rw [hg] at hj
    by_cases c : j = i
    · rw [if_pos c] at hj; cases hj; subst c
      exact ⟨l, ob, hl, hw.at_, ho⟩
    · rw [if_neg c] at hj
      obtain ⟨l', ob', h1, h2, h3⟩ := h.rh.blk j oj hj
      exact ⟨l', ob', h1, (hw.ne _ fun e => c (h.rh.inj j i oj o l' l hj hi h1 hl e)).trans h2, h3⟩
  · have get : ∀ (m : Nat) (om : VObj), (putV S i o').h.get m = some om → ∃ om', S.h.get m = some om' := fun m om hm => by
      rw [hg] at hm
      by_cases c : m = i
      · subst c; exact ⟨o, hi⟩
      · rw [if_neg c] at hm; exact ⟨om, hm⟩
    obtain ⟨o1', h1⟩ := get j o1 hj
    obtain ⟨o2', h2⟩ := get k o2 hk
    exact h.rh.inj j k o1' o2' l1 l2 h1 h2 hl1 hl2 e
  · rw [hg] at hj
    show j < S.n
    by_cases c : j = i
    · subst c; exact h.lt j o hi
    · rw [if_neg c] at hj; exact h.lt j oj hj
  · exact hw.ne k fun e => hn i o l hi hl e.symm
  · rw [hg] at hj
    by_cases c : j = i
    · subst c; exact .inr ⟨j, o, lj, hi, hlj, rfl⟩
    · rw [if_neg c] at hj; exact .inr ⟨j, oj, lj, hj, hlj, rfl⟩
  · rw [putV_wm] at hm
    rw [hg, if_neg (by omega)]

/-- one block is taken away -/
theorem RS.kill (h : RS D S w) (i : Nat) : RS D (killV S i) w ∧ Fr D S w D (killV S i) w := by
  have hg : ∀ j, (killV S i).h.get j = if j = i then none else S.h.get j := fun j => Tr.get_set _ _ _ _
  have sub : ∀ j o, (killV S i).h.get j = some o → S.h.get j = some o := fun j o hj => by
    rw [hg] at hj
    by_cases c : j = i
    · rw [if_pos c] at hj; cases hj
    · rwa [if_neg c] at hj
  refine ⟨⟨h.rh.sub sub, fun j o hj => h.lt j o (sub j o hj)⟩, ⟨Nat.le_refl _, fun _ _ => rfl, .refl D, Nat.le_refl _, rfl, rfl, rfl, fun _ _ _ => rfl, fun j o l hj hl => .inr ⟨j, o, l, sub j o hj, hl, rfl⟩, ?_, fun j hj hm => ?_⟩⟩
  · show (putV S i (.siter default 0)).wm ≤ _
    rw [putV_wm]; omega
  · have : (killV S i).wm = min S.wm i := putV_wm S i (.siter default 0)
    rw [this] at hm
    rw [hg, if_neg (by omega)]
end
end Go.Ex
