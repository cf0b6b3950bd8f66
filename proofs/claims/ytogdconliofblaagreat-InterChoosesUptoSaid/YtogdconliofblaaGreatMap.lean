/-
  Maps as partial functions: a block that holds a map; keys of one shape, elements of one shape.
-/
/-
  Prefixes as the keys of a map.
-/
import Derived.Test.YtogdconliofblaaGreatLeaf
import Derived.Test.YtogdconliofblaaGreatCmr
import Derived.Maps.RangeWalk
import Derived.DeepKeys4
namespace Go.Proofs.YtogdconliofblaaGreat
open Go.RowKit

/-- the keys of type k are the values mkK x, x being ok -/
structure KeyIs (P : Program) (k : TypeId) {α : Type} (ok : α → Prop) (mkK : α → Value) (lit : α → Lit) : Prop where
  keyed : Maps.Keyed P k
  of : ∀ x, ok x → keyOf P k (mkK x) = some (lit x)
  inv : ∀ v l, keyOf P k v = some l → ∃ x, ok x ∧ v = mkK x
  inj : ∀ x y, mkK x = mkK y → x = y

theorem KeyIs.lit_inj {P : Program} {k : TypeId} {α : Type} {ok : α → Prop} {mkK : α → Value} {lit : α → Lit} (K : KeyIs P k ok mkK lit) {x y : α} (hx : ok x) (hy : ok y) (h : lit x = lit y) : x = y :=
  K.inj _ _ (K.keyed.inj (K.of x hx) (h ▸ K.of y hy))
theorem KeyIs.isKey {P : Program} {k : TypeId} {α : Type} {ok : α → Prop} {mkK : α → Value} {lit : α → Lit} (K : KeyIs P k ok mkK lit) {x : α} (hx : ok x) : WideAt.IsKeyLit (lit x) := K.keyed.key (K.of x hx)

/-- an element is kept as it is -/
def heldR : Value → Option (DataW Value × List MemPlace) := fun v => some (.held v, [])

section
variable {P : Program} {k : TypeId} {α β : Type} {ok : α → Prop} {mkK : α → Value} {lit : α → Lit} {mkV : β → Value}

/-- block b of w is a map of at most n entries: at key x it has f x -/
def MapF (P : Program) (k : TypeId) (ok : α → Prop) (lit : α → Lit) (mkV : β → Value) (w : World) (b n : Nat) (f : α → Option β) : Prop :=
  ∃ D : DataW Value, w.ownsMap P k heldR b n D ∧ ∀ x, ok x → Maps.has D (lit x) = (f x).isSome ∧ ∀ v, f x = some v → ∀ zd, D.atKey (lit x) zd = .held (mkV v)

theorem MapF.made (w : World) : MapF P k ok lit mkV (w.alloc (.map #[] 0)) w.heap.size 0 (fun _ => none) :=
  ⟨_, World.ownsMap_made w P k heldR, fun x _ => ⟨rfl, fun v h => by cases h⟩⟩

theorem MapF.mono {w : World} {b n n' : Nat} {f : α → Option β} (h : MapF P k ok lit mkV w b n f) (hn : n ≤ n') : MapF P k ok lit mkV w b n' f := by
  obtain ⟨D, h1, h2⟩ := h
  exact ⟨D, h1.mono hn, h2⟩
theorem MapF.lt {w : World} {b n : Nat} {f : α → Option β} (h : MapF P k ok lit mkV w b n f) : b < w.heap.size := by
  obtain ⟨D, h1, h2⟩ := h
  exact h1.lt
theorem MapF.grow {w w' : World} {b n : Nat} {f : α → Option β} (h : MapF P k ok lit mkV w b n f) (hb : Below w.heap.size w w') : MapF P k ok lit mkV w' b n f := by
  obtain ⟨D, h1, h2⟩ := h
  exact ⟨D, h1.kept (row := none) ⟨hb.os, hb.tape, hb.output, hb.size, fun k hk _ => hb.block k hk⟩ (by simp), h2⟩
theorem MapF.setCell {w : World} {b n : Nat} {f : α → Option β} (h : MapF P k ok lit mkV w b n f) {a : Addr} (ha : b ≠ a.block) (u : Value) : MapF P k ok lit mkV (w.setCell a u) b n f := by
  obtain ⟨D, h1, h2⟩ := h
  exact ⟨D, h1.setCell ha u, h2⟩

variable {ops : Array Oper} {rest : List Oper} {o : Oper} {a : Act} {Q : Exit → Act → World → Prop}

/-- 'v, ok := m[k]', not there -/
theorem wpList_look_none (w : World) (hg : o.guard = none) (m x : Operand) (t : TypeId) (hop : o.op = Op.lookup t m x true) (e : TypeId) (K : KeyIs P k ok mkK lit) (ht : P.underlying t = some (.map k e)) {z : Value} (hz : (zeroValue e).run P w = .ok z w)
    (b n : Nat) (f : α → Option β) (hm : a.eval m = .map (some b)) (hown : MapF P k ok lit mkV w b n f) (y : α) (hx : a.eval x = mkK y) (hy : ok y) (hf : f y = none)
    (hK : wpList P ops Q rest (a.put o.dst (.tuple #[z, .bool false])) w) : wpList P ops Q (o :: rest) a w := by
  obtain ⟨D, h1, h2⟩ := hown
  have hh := (h2 y hy).1
  rw [hf] at hh
  refine wpList_lookup_own_ok w hg m x t hop k e K.keyed ht heldR hz _ _ rfl b n D hm h1 _ _ hx (K.of y hy) fun v ps hv => ?_
  rw [Maps.atKey_of_not_has hh] at hv
  simp only [heldR, Option.some.injEq, Prod.mk.injEq, DataW.held.injEq] at hv
  rw [hv.1, hh]
  exact hK

/-- 'v, ok := m[k]', there -/
theorem wpList_look_some (w : World) (hg : o.guard = none) (m x : Operand) (t : TypeId) (hop : o.op = Op.lookup t m x true) (e : TypeId) (K : KeyIs P k ok mkK lit) (ht : P.underlying t = some (.map k e)) {z : Value} (hz : (zeroValue e).run P w = .ok z w)
    (b n : Nat) (f : α → Option β) (hm : a.eval m = .map (some b)) (hown : MapF P k ok lit mkV w b n f) (y : α) (hx : a.eval x = mkK y) (hy : ok y) (c : β) (hf : f y = some c)
    (hK : wpList P ops Q rest (a.put o.dst (.tuple #[mkV c, .bool true])) w) : wpList P ops Q (o :: rest) a w := by
  obtain ⟨D, h1, h2⟩ := hown
  have hh := (h2 y hy).1
  have ha := (h2 y hy).2 c hf
  rw [hf] at hh
  refine wpList_lookup_own_ok w hg m x t hop k e K.keyed ht heldR hz _ _ rfl b n D hm h1 _ _ hx (K.of y hy) fun v ps hv => ?_
  rw [ha] at hv
  simp only [heldR, Option.some.injEq, Prod.mk.injEq, DataW.held.injEq] at hv
  rw [hv.1, hh]
  exact hK

/-- 'm[k]', not there -/
theorem wpList_get_none (w : World) (hg : o.guard = none) (m x : Operand) (t : TypeId) (hop : o.op = Op.lookup t m x false) (e : TypeId) (K : KeyIs P k ok mkK lit) (ht : P.underlying t = some (.map k e)) {z : Value} (hz : (zeroValue e).run P w = .ok z w)
    (b n : Nat) (f : α → Option β) (hm : a.eval m = .map (some b)) (hown : MapF P k ok lit mkV w b n f) (y : α) (hx : a.eval x = mkK y) (hy : ok y) (hf : f y = none)
    (hK : wpList P ops Q rest (a.put o.dst z) w) : wpList P ops Q (o :: rest) a w := by
  obtain ⟨D, h1, h2⟩ := hown
  have hh := (h2 y hy).1
  rw [hf] at hh
  refine wpList_plain hg fun K' hK' => ?_
  obtain ⟨v, ps, hrun, hv⟩ := h1.lookup K.keyed ht hz (zd := .held z) (zp := []) rfl (K.of y hy)
  rw [Maps.atKey_of_not_has hh] at hv
  simp only [heldR, Option.some.injEq, Prod.mk.injEq, DataW.held.injEq] at hv
  rw [hv.1] at hrun
  unfold Oper.wp
  simp [execOp, hop, hm, hx, hrun, Result.andThen]
  exact hK' _ _ hK

/-- 'm[k]', there -/
theorem wpList_get_some (w : World) (hg : o.guard = none) (m x : Operand) (t : TypeId) (hop : o.op = Op.lookup t m x false) (e : TypeId) (K : KeyIs P k ok mkK lit) (ht : P.underlying t = some (.map k e)) {z : Value} (hz : (zeroValue e).run P w = .ok z w)
    (b n : Nat) (f : α → Option β) (hm : a.eval m = .map (some b)) (hown : MapF P k ok lit mkV w b n f) (y : α) (hx : a.eval x = mkK y) (hy : ok y) (c : β) (hf : f y = some c)
    (hK : wpList P ops Q rest (a.put o.dst (mkV c)) w) : wpList P ops Q (o :: rest) a w := by
  obtain ⟨D, h1, h2⟩ := hown
  have ha := (h2 y hy).2 c hf
  refine wpList_plain hg fun K' hK' => ?_
  obtain ⟨v, ps, hrun, hv⟩ := h1.lookup K.keyed ht hz (zd := .held z) (zp := []) rfl (K.of y hy)
  rw [ha] at hv
  simp only [heldR, Option.some.injEq, Prod.mk.injEq, DataW.held.injEq] at hv
  rw [hv.1] at hrun
  unfold Oper.wp
  simp [execOp, hop, hm, hx, hrun, Result.andThen]
  exact hK' _ _ hK

def upd [DecidableEq α] (f : α → Option β) (y : α) (c : β) : α → Option β := fun x => if x = y then some c else f x

/-- 'm[k] = v' -/
theorem wpList_mput [DecidableEq α] (w : World) (hg : o.guard = none) (m x v : Operand) (t : TypeId) (hop : o.op = Op.mapUpdate t m x v) (e : TypeId) (K : KeyIs P k ok mkK lit) (ht : P.underlying t = some (.map k e))
    (b n : Nat) (f : α → Option β) (hm : a.eval m = .map (some b)) (hown : MapF P k ok lit mkV w b n f) (hn : n < maxLen) (y : α) (hx : a.eval x = mkK y) (hy : ok y) (c : β) (hv : a.eval v = mkV c)
    (hK : ∀ w', MapF P k ok lit mkV w' b (n + 1) (upd f y c) → w.grownBy w' (some b) → wpList P ops Q rest (a.put o.dst undef) w') : wpList P ops Q (o :: rest) a w := by
  obtain ⟨D, h1, h2⟩ := hown
  refine wpList_mapUpdate_own w hg m x v t hop k e K.keyed ht heldR b n D hm h1 hn _ _ _ hx hv (K.of y hy) _ _ rfl fun w' o1 g1 => hK w' ⟨_, o1, fun x' hx' => ?_⟩ g1
  unfold upd
  by_cases e1 : x' = y
  · subst e1
    rw [if_pos rfl]
    exact ⟨Maps.has_put_same h1.isMap (K.isKey hy) _, fun v' hv' zd => by cases hv'; exact Maps.atKey_put_same h1.isMap (K.isKey hy) _ _⟩
  · have ne : lit x' ≠ lit y := fun e2 => e1 (K.lit_inj hx' hy e2)
    rw [if_neg e1, Maps.has_put_other ne]
    exact ⟨(h2 x' hx').1, fun v' hv' zd => by rw [Maps.atKey_put_other ne]; exact (h2 x' hx').2 v' hv' zd⟩

/-- 'for k, v := range m' under way: left: the keys still to come -/
def RangeF (P : Program) (k : TypeId) (ok : α → Prop) (lit : α → Lit) (mkV : β → Value) (w : World) (b r n : Nat) (f : α → Option β) (left : α → Bool) (cnt : Nat) : Prop :=
  ∃ (D : DataW Value) (lf : Lit → Bool), w.ranges P k heldR b r n D lf cnt ∧ (∀ x, ok x → lf (lit x) = left x) ∧ ∀ x, ok x → Maps.has D (lit x) = (f x).isSome ∧ ∀ v, f x = some v → ∀ zd, D.atKey (lit x) zd = .held (mkV v)

theorem RangeF.left_eq {w : World} {b r n : Nat} {f : α → Option β} {left : α → Bool} {cnt : Nat} (h : RangeF P k ok lit mkV w b r n f left cnt) : w.rangeLeft b r = cnt := by
  obtain ⟨D, lf, h1, h2⟩ := h
  exact h1.left_eq
theorem RangeF.lt {w : World} {b r n : Nat} {f : α → Option β} {left : α → Bool} {cnt : Nat} (h : RangeF P k ok lit mkV w b r n f left cnt) : r < w.heap.size ∧ b < w.heap.size := by
  obtain ⟨D, lf, h1, h2⟩ := h
  exact ⟨h1.lt, h1.owns.lt⟩
theorem RangeF.kept {w w' : World} {b r n : Nat} {f : α → Option β} {left : α → Bool} {cnt : Nat} {row : Option Nat} (h : RangeF P k ok lit mkV w b r n f left cnt) (hg : w.grownBy w' row) (hb : some b ≠ row) (hr : some r ≠ row) : RangeF P k ok lit mkV w' b r n f left cnt := by
  obtain ⟨D, lf, h1, h2⟩ := h
  exact ⟨D, lf, h1.kept hg hb hr, h2⟩
theorem RangeF.grow {w w' : World} {b r n : Nat} {f : α → Option β} {left : α → Bool} {cnt : Nat} (h : RangeF P k ok lit mkV w b r n f left cnt) (hb : Below w.heap.size w w') : RangeF P k ok lit mkV w' b r n f left cnt :=
  h.kept (row := none) ⟨hb.os, hb.tape, hb.output, hb.size, fun k hk _ => hb.block k hk⟩ (by simp) (by simp)
theorem RangeF.map {w : World} {b r n : Nat} {f : α → Option β} {left : α → Bool} {cnt : Nat} (h : RangeF P k ok lit mkV w b r n f left cnt) : MapF P k ok lit mkV w b n f := by
  obtain ⟨D, lf, h1, h2, h3⟩ := h
  exact ⟨D, h1.owns, h3⟩

/-- 'range m' -/
theorem wpList_rangeF (w : World) (hg : o.guard = none) (m : Operand) (t : TypeId) (hop : o.op = Op.range t m) (e : TypeId) (K : KeyIs P k ok mkK lit) (ht : P.underlying t = some (.map k e)) (b n : Nat) (f : α → Option β)
    (hm : a.eval m = .map (some b)) (hown : MapF P k ok lit mkV w b n f)
    (hK : ∀ w' cnt, cnt ≤ n → RangeF P k ok lit mkV w' b w.heap.size n f (fun x => (f x).isSome) cnt → w.grownBy w' none → w'.heap.size = w.heap.size + 1 → wpList P ops Q rest (a.put o.dst (.pointer (some ⟨w.heap.size, 0, none⟩))) w') :
    wpList P ops Q (o :: rest) a w := by
  obtain ⟨D, h1, h2⟩ := hown
  refine wpList_range_own w hg m t hop k e K.keyed ht heldR b n D hm h1 fun w' r1 r2 r3 => hK w' _ h1.size_le ⟨D, _, r1, fun x hx => (h2 x hx).1, h2⟩ r2 r3

/-- a round of 'for k, v := range m' -/
theorem wpList_nextF [DecidableEq α] (w : World) (hg : o.guard = none) (it : Operand) (hop : o.op = Op.next it false) (K : KeyIs P k ok mkK lit) (b r n : Nat) (f : α → Option β) (left : α → Bool) (cnt : Nat)
    (hit : a.eval it = .pointer (some ⟨r, 0, none⟩)) (h : RangeF P k ok lit mkV w b r n f left cnt)
    (hDone : (∀ x, ok x → left x = false) → wpList P ops Q rest (a.put o.dst (.tuple #[.bool false])) w)
    (hMore : ∀ (x : α) (c : β) (w' : World) (cnt' : Nat), ok x → left x = true → f x = some c → RangeF P k ok lit mkV w' b r n f (fun z => left z && !decide (z = x)) cnt' → cnt' < cnt →
      w.grownBy w' (some r) → w'.heap.size = w.heap.size → (Instr.entry (.pointer (some ⟨r, 0, none⟩))).run P w' = .ok (.tuple #[mkK x, mkV c]) w' → wpList P ops Q rest (a.put o.dst (.tuple #[.bool true, mkK x, mkV c])) w') :
    wpList P ops Q (o :: rest) a w := by
  obtain ⟨D, lf, h1, h2, h3⟩ := h
  refine wpList_plain hg fun K' hK' => ?_
  unfold Oper.wp
  rcases h1.next K.keyed o.type with ⟨h0, hl, hrun⟩ | ⟨key, v, kl, y, w', cnt', hkey, hlk, hv, hat, hrun, hrg, hlt, hgr, hsz, hen⟩
  · simp [execOp, hop, hit, hrun, Result.andThen]
    exact hK' _ _ (hDone fun x hx => by rw [← h2 x hx]; exact hl _)
  · obtain ⟨x, hx, rfl⟩ := K.inv key kl hkey
    have ek : lit x = kl := Option.some.inj ((K.of x hx).symm.trans hkey)
    subst ek
    cases hf : f x with
    | none =>
      have hh := (h3 x hx).1
      rw [hf] at hh
      have := hat (.held undef)
      have h4 := hat (.nil)
      rw [Maps.atKey_of_not_has hh] at this h4
      rw [← this] at h4
      cases h4
    | some c =>
      have ha := (h3 x hx).2 c hf .nil
      rw [hat] at ha
      simp only [heldR, Option.some.injEq] at hv
      rw [← hv] at ha
      simp only [DataW.held.injEq] at ha
      subst ha
      simp [execOp, hop, hit, hrun, Result.andThen]
      refine hK' _ _ (hMore x c w' cnt' hx (by rw [← h2 x hx]; exact hlk) hf ⟨D, _, hrg, fun z hz => ?_, h3⟩ hlt hgr hsz hen)
      rw [h2 z hz]
      by_cases e1 : z = x
      · subst e1
        rw [WideAt.sameKey_self (K.isKey hx)]; simp
      · rw [Maps.sameKey_ne fun e2 => e1 (K.lit_inj hz hx e2)]; simp [e1]

end
end Go.Proofs.YtogdconliofblaaGreat

namespace Go.Proofs.YtogdconliofblaaGreat
open Go.RowKit

theorem Tryz.laidOut : laidOutB Tryz.prog = true := by kernel_rfl
theorem Tryz.rowPfx : (55 : TypeId) < Tryz.prog.types.size := of_decide_eq_true (by kernel_rfl)
theorem Tryz.keyPfx : Tryz.prog.keyType 55 = true := by kernel_rfl
theorem Tryz.cellsPfx : Tryz.prog.cellsOf 55 = 2 := by kernel_rfl

def pfxOk (p : Ls.Pfx) : Prop := (Lit.int .u32 p.addr).wf = true ∧ (Lit.int .i64 p.len).wf = true
def pfxV (p : Ls.Pfx) : Value := .agg #[.int .u32 p.addr, .int .i64 p.len]
def pfxLit (p : Ls.Pfx) : Lit := .string (keyBytes [.int .u32 p.addr, .int .i64 p.len])

theorem Tryz.cellsAddr : Tryz.prog.cellsOf 45 = 1 := by kernel_rfl
theorem Tryz.cellsInt : Tryz.prog.cellsOf 3 = 1 := by kernel_rfl

theorem addr_lits (v : Value) (l : List Lit) (n : Nat) (h : Tryz.prog.keyLits (n + 1) 45 [v] = some l) : ∃ a, v = .int .u32 a ∧ (Lit.int .u32 a).wf = true ∧ l = [.int .u32 a] := by
  unfold Program.keyLits at h
  simp only [Tryz.underlying45] at h
  cases v <;> simp at h
  obtain ⟨⟨rfl, hw⟩, rfl⟩ := h
  exact ⟨_, rfl, hw, rfl⟩
theorem int_lits (v : Value) (l : List Lit) (n : Nat) (h : Tryz.prog.keyLits (n + 1) 3 [v] = some l) : ∃ a, v = .int .i64 a ∧ (Lit.int .i64 a).wf = true ∧ l = [.int .i64 a] := by
  unfold Program.keyLits at h
  simp only [Tryz.underlying3] at h
  cases v <;> simp at h
  obtain ⟨⟨rfl, hw⟩, rfl⟩ := h
  exact ⟨_, rfl, hw, rfl⟩

theorem pfx_lits (cs : List Value) (l : List Lit) (n : Nat) (h : Tryz.prog.keyLits (n + 2) 55 cs = some l) : ∃ p, pfxOk p ∧ cs = [.int .u32 p.addr, .int .i64 p.len] ∧ l = [.int .u32 p.addr, .int .i64 p.len] := by
  rw [show n + 2 = (n + 1) + 1 from rfl] at h
  unfold Program.keyLits at h
  simp only [Tryz.underlying55, Tryz.cellsPfx] at h
  obtain ⟨a, b, rfl⟩ : ∃ a b, cs = [a, b] := by
    match cs, h with
    | [a, b], _ => exact ⟨a, b, rfl⟩
    | [], h => simp at h
    | [a], h => simp at h
    | a :: b :: c :: r, h => simp at h
  simp [Tryz.cellsAddr, Tryz.cellsInt, List.mapM_cons] at h
  generalize h1 : Tryz.prog.keyLits (n + 1) 45 [a] = o1 at h
  generalize h2 : Tryz.prog.keyLits (n + 1) 3 [b] = o2 at h
  cases o1 with
  | none => simp at h
  | some l1 =>
  cases o2 with
  | none => simp at h
  | some l2 =>
  simp at h
  subst h
  obtain ⟨x, e1, wx, e2⟩ := addr_lits a l1 n h1
  obtain ⟨y, e3, wy, e4⟩ := int_lits b l2 n h2
  subst e1 e2 e3 e4
  exact ⟨⟨x, y⟩, ⟨wx, wy⟩, rfl, rfl⟩

theorem pfx_lits_mk (p : Ls.Pfx) (h : pfxOk p) (n : Nat) : Tryz.prog.keyLits (n + 2) 55 [.int .u32 p.addr, .int .i64 p.len] = some [.int .u32 p.addr, .int .i64 p.len] := by
  have h1 : Tryz.prog.keyLits (n + 1) 45 [.int .u32 p.addr] = some [.int .u32 p.addr] := by
    unfold Program.keyLits; rw [Tryz.underlying45]; simp [h.1]
  have h2 : Tryz.prog.keyLits (n + 1) 3 [.int .i64 p.len] = some [.int .i64 p.len] := by
    unfold Program.keyLits; rw [Tryz.underlying3]; simp [h.2]
  rw [show n + 2 = (n + 1) + 1 from rfl]
  unfold Program.keyLits
  rw [Tryz.underlying55, Tryz.cellsPfx]
  simp [Tryz.cellsAddr, Tryz.cellsInt, List.mapM_cons, h1, h2]

theorem Tryz.typesPos : 0 < Tryz.prog.types.size := of_decide_eq_true (by kernel_rfl)
theorem Tryz.types2 : ∃ n, Tryz.prog.types.size + 1 = n + 2 := by
  have h := Tryz.typesPos
  generalize Tryz.prog.types.size = k at h
  exact ⟨k - 1, by omega⟩

theorem pfx_key_of (p : Ls.Pfx) (h : pfxOk p) : keyOf Tryz.prog 55 (pfxV p) = some (pfxLit p) := by
  obtain ⟨n, hn⟩ := Tryz.types2
  unfold keyOf
  rw [Tryz.underlying55]
  have hf : (pfxV p).formed Tryz.prog 55 = true := by simp [pfxV, Value.formed, Tryz.underlying55, Tryz.cellsPfx]
  simp only [Tryz.keyPfx, hf, Bool.and_self, if_true]
  rw [hn]
  show Option.map _ (Tryz.prog.keyLits (n + 2) 55 [.int .u32 p.addr, .int .i64 p.len]) = _
  rw [pfx_lits_mk p h]
  rfl

theorem pfx_key_inv (v : Value) (l : Lit) (h : keyOf Tryz.prog 55 v = some l) : ∃ p, pfxOk p ∧ v = pfxV p := by
  obtain ⟨n, hn⟩ := Tryz.types2
  unfold keyOf at h
  simp only [Tryz.underlying55] at h
  simp only [Tryz.keyPfx, Bool.true_and] at h
  split at h
  · rename_i hf
    rw [hn] at h
    cases hk : Tryz.prog.keyLits (n + 2) 55 v.cells.toList with
    | none => rw [hk] at h; cases h
    | some ls =>
      obtain ⟨p, hp, hc, _⟩ := pfx_lits _ _ _ hk
      refine ⟨p, hp, ?_⟩
      cases v <;> simp [Value.formed, Tryz.underlying55] at hf
      simp only [Value.cells] at hc
      unfold pfxV
      rw [← hc]
  · cases h

theorem Tryz.kt2 : Tryz.prog.keyTypeAt 2 55 = true := by kernel_rfl
theorem Tryz.pfxKey : KeyIs Tryz.prog 55 pfxOk pfxV pfxLit where
  keyed := Maps.Keyed.of_law (deep_law_laid (P := Tryz.prog) Tryz.laidOut (m := 2) (Nat.le_of_ble_eq_true rfl) Tryz.rowPfx Tryz.kt2 (by simp only [Tryz.underlying55]))
  of := pfx_key_of
  inv := pfx_key_inv
  inj := fun x y h => by
    obtain ⟨a, b⟩ := x; obtain ⟨c, d⟩ := y
    simp [pfxV] at h
    obtain ⟨rfl, rfl⟩ := h
    rfl

end Go.Proofs.YtogdconliofblaaGreat
