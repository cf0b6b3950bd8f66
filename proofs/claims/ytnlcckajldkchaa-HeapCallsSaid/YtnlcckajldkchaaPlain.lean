/-
  The plain mathematics of the indexed binary heap, second part: the calls Set, Drop, Min on the heap and on a table that is searched from the beginning, and that they agree. No program in sight.
-/
import Derived.Test.YtnlcckajldkchaaPure
namespace Hp

/-! ### The calls on the heap -/

def put (h : St) (x : Nat) : St := { h with items := h.items ++ [x], place := h.place.set x h.items.length }
def enter (h : St) (x : Nat) : St := if h.place.getD x 0 < 0 then put h x else h
def rekey (h : St) (x : Nat) (k : Int) : St := { h with keys := h.keys.set x k }
def set (h : St) (x : Nat) (k : Int) : St := settle (rekey (enter h x) x k) ((enter h x).place.getD x 0).toNat

def cut (h : St) (x : Nat) : St := { h with items := h.items.take (h.items.length - 1), place := h.place.set x (-1) }
def take (h : St) (x : Nat) : St := cut (h.swap (h.place.getD x 0).toNat (h.len - 1)) x
def drop (h : St) (x : Nat) : St := if (h.place.getD x 0).toNat < h.len - 1 then settle (take h x) (h.place.getD x 0).toNat else take h x

def new (n : Nat) : St := { items := [], place := List.replicate n (-1), keys := List.replicate n 0 }

/-! ### The table -/

structure Tb where
  ins : List Bool
  keys : List Int

structure Rel (h : St) (r : Tb) : Prop where
  wf : Wf h
  heap : Heap h
  li : r.ins.length = h.place.length
  lk : r.keys.length = h.place.length
  mem : ∀ x, x < h.place.length → (r.ins.getD x false = false ↔ h.place.getD x 0 = -1)
  key : ∀ x, x < h.place.length → r.ins.getD x false = true → r.keys.getD x 0 = h.key x
  cnt : h.len = r.ins.count true

theorem Rel.new (n : Nat) : Rel (new n) ⟨List.replicate n false, List.replicate n 0⟩ := by
  have e1 : (Hp.new n).place = List.replicate n (-1) := rfl
  have e2 : (Hp.new n).keys = List.replicate n 0 := rfl
  have e3 : (Hp.new n).len = 0 := rfl
  refine ⟨⟨by simp [e1, e2], by rw [e3]; intro _ h; omega, by rw [e3]; intro _ h; omega, ?_⟩, by intro j _ h; rw [e3] at h; omega, by simp [e1], by simp [e1], ?_, ?_, by simp [e3, List.count_replicate]⟩
  · intro x hx; rw [e1] at *; simp at hx; left; simp [List.getD_eq_getElem?_getD, hx]
  · intro x hx; rw [e1] at *; simp at hx; simp [List.getD_eq_getElem?_getD, hx]
  · intro x hx; rw [e1] at *; simp at hx; simp [List.getD_eq_getElem?_getD, hx]

theorem getD_set {α : Type} (l : List α) (i j : Nat) (v d : α) (h : i < l.length) : (l.set i v).getD j d = if j = i then v else l.getD j d := by
  simp only [List.getD_eq_getElem?_getD, List.getElem?_set]
  grind

theorem count_set_true (l : List Bool) (x : Nat) (h : x < l.length) : (l.set x true).count true = if l.getD x false then l.count true else l.count true + 1 := by
  induction l generalizing x with
  | nil => simp at h
  | cons b l ih =>
    cases x with
    | zero => cases b <;> simp
    | succ x =>
      simp only [List.length_cons, Nat.add_lt_add_iff_right] at h
      have := ih x h
      simp only [List.set_cons_succ, List.count_cons, this, List.getD_cons_succ]
      split <;> omega

theorem count_set_false (l : List Bool) (x : Nat) (h : x < l.length) (ht : l.getD x false = true) : (l.set x false).count true = l.count true - 1 ∧ 0 < l.count true := by
  induction l generalizing x with
  | nil => simp at h
  | cons b l ih =>
    cases x with
    | zero => simp at ht; subst ht; simp
    | succ x =>
      simp only [List.length_cons, Nat.add_lt_add_iff_right] at h
      simp only [List.getD_cons_succ] at ht
      have := ih x h ht
      simp only [List.set_cons_succ, List.count_cons, this]
      omega

/-! ### Set -/

theorem get_put_lt (h : St) (x i : Nat) (hi : i < h.len) : (put h x).get i = h.get i := by
  unfold St.len at hi; simp [put, St.get, List.getD_eq_getElem?_getD, List.getElem?_append_left hi]
theorem get_put_last (h : St) (x : Nat) : (put h x).get h.len = x := by
  simp [put, St.get, St.len]
theorem len_put (h : St) (x : Nat) : (put h x).len = h.len + 1 := by simp [put, St.len]

theorem not_in {h : St} (w : Wf h) {x : Nat} (hn : h.place.getD x 0 < 0) : ∀ i, i < h.len → h.get i ≠ x := by
  intro i hi e
  have := w.at_ i hi; rw [e] at this; omega

theorem Wf.put {h : St} (w : Wf h) {x : Nat} (hx : x < h.place.length) (hn : h.place.getD x 0 < 0) : Wf (put h x) := by
  have ne := not_in w hn
  have pl : (Hp.put h x).place = h.place.set x h.len := rfl
  refine ⟨by rw [pl, List.length_set]; exact w.lens, fun i hi => ?_, fun i hi => ?_, fun y hy => ?_⟩
  · rw [len_put] at hi; rw [pl, List.length_set]
    by_cases e : i = h.len
    · rw [e, get_put_last]; exact hx
    · rw [get_put_lt h x i (by omega)]; exact w.inr i (by omega)
  · rw [len_put] at hi; rw [pl, getD_set _ _ _ _ _ hx]
    by_cases e : i = h.len
    · rw [e, get_put_last, if_pos rfl]
    · rw [get_put_lt h x i (by omega), if_neg (ne i (by omega))]; exact w.at_ i (by omega)
  · rw [pl, List.length_set] at hy; rw [pl, getD_set _ _ _ _ _ hx, len_put]
    by_cases e : y = x
    · right; rw [if_pos e]; exact ⟨by omega, by omega, by rw [Int.toNat_natCast, get_put_last]; exact e.symm⟩
    · rw [if_neg e]
      rcases w.back y hy with b | ⟨b1, b2, b3⟩
      · exact .inl b
      · exact .inr ⟨b1, by omega, by rw [get_put_lt h x _ b2]; exact b3⟩

theorem Wf.rekey {h : St} (w : Wf h) (x : Nat) (k : Int) : Wf (rekey h x k) :=
  ⟨by simp [Hp.rekey]; exact w.lens, w.inr, w.at_, w.back⟩

theorem key_rekey (h : St) (x y : Nat) (k : Int) (hx : x < h.keys.length) : (rekey h x k).key y = if y = x then k else h.key y := by
  unfold St.key rekey; exact getD_set _ _ _ _ _ hx

theorem lt_rekey (h : St) (x a b : Nat) (k : Int) (hx : x < h.keys.length) (ha : a ≠ x) (hb : b ≠ x) : (rekey h x k).lt a b = h.lt a b := by
  unfold St.lt; rw [key_rekey h x a k hx, key_rekey h x b k hx, if_neg ha, if_neg hb]

/-- a key has changed at place i -/
theorem Gap.rekey {h : St} (w : Wf h) (o : Heap h) {i : Nat} (hi : i < h.len) (k : Int) : Gap (rekey h (h.get i) k) i := by
  have hx : h.get i < h.keys.length := by rw [w.lens]; exact w.inr i hi
  have inj := @Wf.inj h w
  have L : (Hp.rekey h (h.get i) k).len = h.len := rfl
  refine ⟨fun j j0 jl jn jp => ?_, fun i0 c c0 cl cp => ?_⟩
  · rw [L] at jl
    show (Hp.rekey h (h.get i) k).lt (h.get j) (h.get ((j - 1) / 2)) = false
    rw [lt_rekey h _ _ _ k hx (fun e => jn (inj jl hi e)) (fun e => jp (inj (by omega) hi e))]
    exact o j j0 jl
  · rw [L] at cl
    show (Hp.rekey h (h.get i) k).lt (h.get c) (h.get ((i - 1) / 2)) = false
    rw [lt_rekey h _ _ _ k hx (fun e => by have := inj cl hi e; omega) (fun e => by have := inj (by omega) hi e; omega)]
    have a := o c c0 cl
    rw [cp] at a
    exact le_trans h _ _ _ (o i i0 hi) a

/-- a new item at the end -/
theorem Gap.put {h : St} (w : Wf h) (o : Heap h) {x : Nat} (hx : x < h.place.length) (hn : h.place.getD x 0 < 0) (k : Int) : Gap (Hp.rekey (Hp.put h x) x k) h.len := by
  have ne := not_in w hn
  have hk : x < (Hp.put h x).keys.length := by show x < h.keys.length; rw [w.lens]; exact hx
  have L : (Hp.rekey (Hp.put h x) x k).len = h.len + 1 := len_put h x
  refine ⟨fun j j0 jl jn jp => ?_, fun i0 c c0 cl cp => ?_⟩
  · rw [L] at jl
    show (Hp.rekey (Hp.put h x) x k).lt ((Hp.put h x).get j) ((Hp.put h x).get ((j - 1) / 2)) = false
    rw [get_put_lt h x j (by omega), get_put_lt h x _ (by omega), lt_rekey _ _ _ _ k hk (ne j (by omega)) (ne _ (by omega))]
    exact o j j0 (by omega)
  · rw [L] at cl; omega

theorem enter_at {h : St} (w : Wf h) {x : Nat} (hx : x < h.place.length) : 0 ≤ (enter h x).place.getD x 0 ∧ ((enter h x).place.getD x 0).toNat < (enter h x).len ∧ (enter h x).place.length = h.place.length := by
  unfold enter
  by_cases c : h.place.getD x 0 < 0
  · rw [if_pos c]
    have : (put h x).place = h.place.set x h.len := rfl
    rw [this, getD_set _ _ _ _ _ hx, if_pos rfl, len_put]; simp
  · rw [if_neg c]
    rcases w.back x hx with b | b
    · omega
    · exact ⟨b.1, b.2.1, rfl⟩

theorem Rel.set {h : St} {r : Tb} (R : Rel h r) {x : Nat} (hx : x < h.place.length) (k : Int) : Rel (set h x k) ⟨r.ins.set x true, r.keys.set x k⟩ ∧ (Hp.set h x k).place.length = h.place.length := by
  have w := R.wf
  have key : ∃ i, i = ((enter h x).place.getD x 0).toNat ∧ Wf (Hp.rekey (enter h x) x k) ∧ Gap (Hp.rekey (enter h x) x k) i ∧ i < (Hp.rekey (enter h x) x k).len ∧
      (∀ y, y < h.place.length → ((enter h x).place.getD y 0 = -1 ↔ (y ≠ x ∧ h.place.getD y 0 = -1))) ∧ (enter h x).place.length = h.place.length ∧ (enter h x).keys = h.keys ∧
      (enter h x).len = if h.place.getD x 0 < 0 then h.len + 1 else h.len := by
    have ea := enter_at w hx
    refine ⟨_, rfl, ?_⟩
    unfold enter at *
    by_cases c : h.place.getD x 0 < 0
    · rw [if_pos c] at *
      have pl : (put h x).place = h.place.set x h.len := rfl
      have e : ((put h x).place.getD x 0).toNat = h.len := by rw [pl, getD_set _ _ _ _ _ hx, if_pos rfl]; simp
      rw [e, if_pos c]
      refine ⟨(w.put hx c).rekey x k, Gap.put w R.heap hx c k, by show h.len < (put h x).len; rw [len_put]; omega, fun y hy => ?_, ea.2.2, rfl, len_put h x⟩
      rw [pl, getD_set _ _ _ _ _ hx]
      by_cases e : y = x
      · rw [if_pos e]; constructor
        · intro; omega
        · intro hh; exact absurd e hh.1
      · rw [if_neg e]; simp [e]
    · rw [if_neg c] at *
      rw [if_neg c]
      rcases w.back x hx with b | ⟨b1, b2, b3⟩
      · omega
      refine ⟨w.rekey x k, ?_, b2, fun y hy => ?_, rfl, rfl, rfl⟩
      · have := Gap.rekey w R.heap b2 k; rw [b3] at this; exact this
      · constructor
        · intro hh; exact ⟨fun e => by rw [e] at hh; omega, hh⟩
        · exact fun hh => hh.2
  obtain ⟨i, ei, w1, g1, l1, m1, p1, k1, n1⟩ := key
  have s := settle_keeps _ i w1 g1 l1
  have hset : Hp.set h x k = settle (Hp.rekey (enter h x) x k) i := by rw [ei]; rfl
  rw [hset]
  obtain ⟨sw, ss, sh⟩ := s
  have hk : x < (enter h x).keys.length := by rw [k1, w.lens]; exact hx
  have pl : (settle (Hp.rekey (enter h x) x k) i).place.length = h.place.length := ss.pl.trans p1
  have hxi : x < r.ins.length := by rw [R.li]; exact hx
  have hxk : x < r.keys.length := by rw [R.lk]; exact hx
  refine ⟨⟨sw, sh, by simp [pl, R.li], by simp [pl, R.lk], fun y hy => ?_, fun y hy hin => ?_, ?_⟩, pl⟩
  · rw [pl] at hy
    have a := ss.mem y (by show y < (enter h x).place.length; rw [p1]; exact hy)
    have b : ((Hp.rekey (enter h x) x k).place.getD y 0 = -1 ↔ (y ≠ x ∧ h.place.getD y 0 = -1)) := m1 y hy
    rw [a, b, getD_set _ _ _ _ _ hxi]
    have := R.mem y hy
    by_cases e : y = x
    · simp [e]
    · rw [if_neg e, this]; exact ⟨fun z => ⟨e, z⟩, fun z => z.2⟩
  · rw [pl] at hy
    have kk : (settle (Hp.rekey (enter h x) x k) i).key y = (Hp.rekey (enter h x) x k).key y := by unfold St.key; rw [ss.keys]
    rw [kk, key_rekey _ _ _ _ hk, getD_set _ _ _ _ _ hxk]
    rw [getD_set _ _ _ _ _ hxi] at hin
    by_cases e : y = x
    · simp [e]
    · rw [if_neg e] at hin ⊢; rw [if_neg e, R.key y hy hin]; unfold St.key; rw [k1]
  · rw [ss.len]
    show (enter h x).len = _
    rw [n1, count_set_true _ _ hxi, R.cnt]
    have m := R.mem x hx
    cases hb : r.ins.getD x false with
    | false => rw [m.1 hb]; simp
    | true =>
      have : ¬ h.place.getD x 0 < 0 := by
        rcases w.back x hx with b | b
        · have := m.2 b; rw [hb] at this; cases this
        · omega
      rw [if_neg this]; simp

/-! ### Drop -/

theorem Rel.there {h : St} {r : Tb} (R : Rel h r) {x : Nat} (hx : x < h.place.length) (hi : r.ins.getD x false = true) :
    0 ≤ h.place.getD x 0 ∧ (h.place.getD x 0).toNat < h.len ∧ h.get (h.place.getD x 0).toNat = x := by
  rcases R.wf.back x hx with b | b
  · have := (R.mem x hx).2 b; rw [hi] at this; cases this
  · exact b

theorem len_cut (h : St) (x : Nat) : (cut h x).len = h.len - 1 := by simp [cut, St.len]
theorem get_cut (h : St) (x i : Nat) (hi : i < h.len - 1) : (cut h x).get i = h.get i := by
  unfold St.len at hi; simp only [cut, St.get, List.getD_eq_getElem?_getD, List.getElem?_take]; rw [if_pos hi]

/-- the last item leaves -/
theorem Wf.cut {h : St} (w : Wf h) (l : 0 < h.len) : Wf (Hp.cut h (h.get (h.len - 1))) := by
  have hx := w.inr (h.len - 1) (by omega)
  have inj := @Wf.inj h w
  generalize ex : h.get (h.len - 1) = x at *
  have pl : (Hp.cut h x).place = h.place.set x (-1) := rfl
  refine ⟨by rw [pl, List.length_set]; exact w.lens, fun i hi => ?_, fun i hi => ?_, fun y hy => ?_⟩
  · rw [len_cut] at hi; rw [get_cut _ _ _ hi, pl, List.length_set]; exact w.inr i (by omega)
  · rw [len_cut] at hi; rw [get_cut _ _ _ hi, pl, getD_set _ _ _ _ _ hx]
    rw [if_neg (fun e => by have := inj (i := i) (j := h.len - 1) (by omega) (by omega) (by rw [e, ex]); omega)]
    exact w.at_ i (by omega)
  · rw [pl, List.length_set] at hy; rw [pl, getD_set _ _ _ _ _ hx, len_cut]
    by_cases e : y = x
    · rw [if_pos e]; exact .inl rfl
    · rw [if_neg e]
      rcases w.back y hy with b | ⟨b1, b2, b3⟩
      · exact .inl b
      · have : (h.place.getD y 0).toNat ≠ h.len - 1 := fun e2 => e (by rw [← b3, e2, ex])
        exact .inr ⟨b1, by omega, by rw [get_cut _ _ _ (by omega)]; exact b3⟩

theorem Rel.drop {h : St} {r : Tb} (R : Rel h r) {x : Nat} (hx : x < h.place.length) (hi : r.ins.getD x false = true) :
    Rel (drop h x) ⟨r.ins.set x false, r.keys⟩ ∧ (Hp.drop h x).place.length = h.place.length := by
  obtain ⟨a0, al, ax⟩ := R.there hx hi
  have w := R.wf
  have hl : h.len - 1 < h.len := by omega
  have hxi : x < r.ins.length := by rw [R.li]; exact hx
  unfold Hp.drop Hp.take
  generalize h.place.getD x 0 = p at *
  generalize ep : p.toNat = i at *
  -- behind the exchange the item is the last one
  have w1 := w.swap al hl
  have s1 := Same.swap w al hl
  have g1 : (h.swap i (h.len - 1)).get (h.len - 1) = x := by rw [swap_get h i _ _ al hl, if_pos rfl]; exact ax
  have L1 : (h.swap i (h.len - 1)).len = h.len := swap_len ..
  have w2 : Wf (Hp.cut (h.swap i (h.len - 1)) x) := by
    have := w1.cut (by omega); rw [L1, g1] at this; exact this
  have L2 : (Hp.cut (h.swap i (h.len - 1)) x).len = h.len - 1 := by rw [len_cut, L1]
  have P2 : (Hp.cut (h.swap i (h.len - 1)) x).place = (h.swap i (h.len - 1)).place.set x (-1) := rfl
  have hx1 : x < (h.swap i (h.len - 1)).place.length := by rw [swap_pl]; exact hx
  have M2 : ∀ y, y < h.place.length → ((Hp.cut (h.swap i (h.len - 1)) x).place.getD y 0 = -1 ↔ (y = x ∨ h.place.getD y 0 = -1)) := by
    intro y hy
    rw [P2, getD_set _ _ _ _ _ hx1]
    by_cases e : y = x
    · simp [e]
    · rw [if_neg e, s1.mem y hy]; simp [e]
  have K2 : (Hp.cut (h.swap i (h.len - 1)) x).keys = h.keys := rfl
  have G : ∀ j, j < h.len - 1 → (Hp.cut (h.swap i (h.len - 1)) x).get j = if j = i then h.get (h.len - 1) else h.get j := by
    intro j hj
    rw [get_cut _ _ _ (by rw [L1]; exact hj), swap_get h i _ _ al hl, if_neg (by omega)]
  -- what is left to say of any state that keeps that
  have fin : ∀ h' : St, Wf h' → Heap h' → Same (Hp.cut (h.swap i (h.len - 1)) x) h' → Rel h' ⟨r.ins.set x false, r.keys⟩ ∧ h'.place.length = h.place.length := by
    intro h' w' o' s'
    have pl : h'.place.length = h.place.length := by rw [s'.pl, P2, List.length_set, swap_pl]
    have cn := count_set_false r.ins x hxi hi
    refine ⟨⟨w', o', by simp [pl, R.li], by simp [pl, R.lk], fun y hy => ?_, fun y hy hin => ?_, ?_⟩, pl⟩
    · rw [pl] at hy
      rw [s'.mem y (by rw [P2, List.length_set, swap_pl]; exact hy), M2 y hy, getD_set _ _ _ _ _ hxi]
      have := R.mem y hy
      by_cases e : y = x
      · simp [e]
      · rw [if_neg e, this]; exact ⟨fun z => .inr z, fun z => z.resolve_left e⟩
    · rw [pl] at hy
      rw [getD_set _ _ _ _ _ hxi] at hin
      by_cases e : y = x
      · rw [if_pos e] at hin; cases hin
      · rw [if_neg e] at hin; show r.keys.getD y 0 = _; rw [R.key y hy hin]; unfold St.key; rw [s'.keys, K2]
    · rw [s'.len, L2]; show _ = (r.ins.set x false).count true; rw [cn.1, R.cnt]
  by_cases c : i < h.len - 1
  · rw [if_pos c]
    have gap : Gap (Hp.cut (h.swap i (h.len - 1)) x) i := by
      refine ⟨fun j j0 jl jn jp => ?_, fun i0 d d0 dl dp => ?_⟩
      · rw [L2] at jl
        show h.lt ((Hp.cut (h.swap i (h.len - 1)) x).get j) ((Hp.cut (h.swap i (h.len - 1)) x).get ((j - 1) / 2)) = false
        rw [G j jl, G _ (by omega), if_neg jn, if_neg jp]
        exact R.heap j j0 (by omega)
      · rw [L2] at dl
        show h.lt ((Hp.cut (h.swap i (h.len - 1)) x).get d) ((Hp.cut (h.swap i (h.len - 1)) x).get ((i - 1) / 2)) = false
        rw [G d dl, G _ (by omega), if_neg (by omega), if_neg (by omega)]
        have a := R.heap d d0 (by omega)
        rw [dp] at a
        exact le_trans h _ _ _ (R.heap i i0 al) a
    have s := settle_keeps _ i w2 gap (by rw [L2]; exact c)
    exact fin _ s.1 s.2.2 s.2.1
  · rw [if_neg c]
    refine fin _ w2 ?_ (Same.refl _)
    intro j j0 jl
    rw [L2] at jl
    show h.lt ((Hp.cut (h.swap i (h.len - 1)) x).get j) ((Hp.cut (h.swap i (h.len - 1)) x).get ((j - 1) / 2)) = false
    rw [G j jl, G _ (by omega), if_neg (by omega), if_neg (by omega)]
    exact R.heap j j0 (by omega)

/-! ### Min -/

/-- the search from the beginning, after i rounds -/
def mn (r : Tb) : Nat → Nat × Int × Bool
  | 0 => (0, 0, false)
  | i + 1 => if r.ins.getD i false = true ∧ ((mn r i).2.2 = false ∨ r.keys.getD i 0 < (mn r i).2.1) then (i, r.keys.getD i 0, true) else mn r i

theorem mn_ok (r : Tb) : ∀ i, ((mn r i).2.2 = false → mn r i = (0, 0, false) ∧ ∀ j, j < i → r.ins.getD j false = false) ∧
    ((mn r i).2.2 = true → (mn r i).1 < i ∧ r.ins.getD (mn r i).1 false = true ∧ (mn r i).2.1 = r.keys.getD (mn r i).1 0 ∧
      ∀ j, j < i → r.ins.getD j false = true → (mn r i).2.1 < r.keys.getD j 0 ∨ ((mn r i).2.1 = r.keys.getD j 0 ∧ (mn r i).1 ≤ j))
  | 0 => by simp [mn]
  | i + 1 => by
    have ih := mn_ok r i
    simp only [mn]
    generalize mn r i = s at *
    obtain ⟨a, b, c⟩ := s
    simp only at *
    split
    · rename_i hc
      refine ⟨by simp, fun _ => ⟨by simp, hc.1, rfl, fun j hj hin => ?_⟩⟩
      simp only
      by_cases e : j = i
      · subst e; exact .inr ⟨rfl, Nat.le_refl _⟩
      · cases c with
        | false => have := (ih.1 rfl).2 j (by omega); rw [this] at hin; cases hin
        | true =>
          have h2 := (ih.2 rfl).2.2.2 j (by omega) hin
          rcases hc.2 with h3 | h3
          · cases h3
          · left; omega
    · rename_i hc
      refine ⟨fun h => ⟨(ih.1 h).1, fun j hj => ?_⟩, fun h => ?_⟩
      · by_cases e : j = i
        · subst e
          cases hb : r.ins.getD j false with
          | false => rfl
          | true => exact absurd ⟨hb, .inl h⟩ hc
        · exact (ih.1 h).2 j (by omega)
      · obtain ⟨i1, i2, i3, i4⟩ := ih.2 h
        refine ⟨by omega, i2, i3, fun j hj hin => ?_⟩
        by_cases e : j = i
        · subst e
          have : ¬ r.keys.getD j 0 < b := fun hlt => hc ⟨hin, .inr hlt⟩
          show b < _ ∨ (b = _ ∧ a ≤ j)
          omega
        · exact i4 j (by omega) hin

/-- what Min answers -/
def minOf (h : St) : Nat × Int × Bool := if h.len = 0 then (0, 0, false) else (h.get 0, h.key (h.get 0), true)

theorem count_pos_iff (l : List Bool) : 0 < l.count true ↔ ∃ x, x < l.length ∧ l.getD x false = true := by
  rw [List.count_pos_iff, List.mem_iff_getElem]
  constructor
  · rintro ⟨i, hi, e⟩; exact ⟨i, hi, by simp [List.getD_eq_getElem?_getD, hi, e]⟩
  · rintro ⟨i, hi, e⟩; exact ⟨i, hi, by simpa [List.getD_eq_getElem?_getD, hi] using e⟩

theorem Rel.first {h : St} {r : Tb} (R : Rel h r) (l : 0 < h.len) : h.get 0 < h.place.length ∧ r.ins.getD (h.get 0) false = true := by
  have hx := R.wf.inr 0 l
  refine ⟨hx, ?_⟩
  cases hb : r.ins.getD (h.get 0) false with
  | true => rfl
  | false => have a := (R.mem _ hx).1 hb; have b := R.wf.at_ 0 l; omega

theorem Rel.least {h : St} {r : Tb} (R : Rel h r) {y : Nat} (hy : y < h.place.length) (hin : r.ins.getD y false = true) : h.lt y (h.get 0) = false := by
  obtain ⟨_, b, c⟩ := R.there hy hin
  have := Hp.least h R.heap _ b
  unfold St.less at this; rw [c] at this; exact this

theorem Rel.min {h : St} {r : Tb} (R : Rel h r) : mn r r.ins.length = minOf h := by
  have ok := mn_ok r r.ins.length
  unfold minOf
  by_cases l : h.len = 0
  · rw [if_pos l]
    cases hb : (mn r r.ins.length).2.2 with
    | false => exact (ok.1 hb).1
    | true =>
      have := (count_pos_iff r.ins).2 ⟨_, (ok.2 hb).1, (ok.2 hb).2.1⟩
      rw [← R.cnt] at this; omega
  · rw [if_neg l]
    obtain ⟨fx, fi⟩ := R.first (by omega)
    cases hb : (mn r r.ins.length).2.2 with
    | false => have := (ok.1 hb).2 (h.get 0) (by rw [R.li]; exact fx); rw [this] at fi; cases fi
    | true =>
      obtain ⟨o1, o2, o3, o4⟩ := ok.2 hb
      have o5 := o4 (h.get 0) (by rw [R.li]; exact fx) fi
      have o1 : (mn r r.ins.length).1 < h.place.length := by have := o1; rw [R.li] at this; rw [R.li]; exact this
      have o6 := R.least o1 o2
      have k1 := R.key _ fx fi
      have k2 := R.key _ o1 o2
      rw [o3, k1, k2] at o5
      simp only [St.lt, ltB, Bool.or_eq_false_iff, decide_eq_false_iff_not, Bool.and_eq_false_iff, beq_eq_false_iff_ne] at o6
      have e : (mn r r.ins.length).1 = h.get 0 := by omega
      have e2 : (mn r r.ins.length).2.1 = h.key (h.get 0) := by rw [o3, e]; exact k1
      rw [← e2]
      rw [← e, ← hb]

end Hp
