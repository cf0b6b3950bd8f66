/-
  The state of a new router: what it holds, how it lies in memory; routingref35.insert.
-/
import Derived.Test.YtombnejipaoinaaGreatClo
import Derived.Test.YtombnejipaoinaaGreatCpu
import Derived.Test.YtombnejipaoinaaGreatSos
import Derived.Maps.AppendAt
namespace Go.Proofs.YtombnejipaoinaaGreat
open Go.RowKit

def ifsE (x : If9) : List Value := [.int .i64 x.kind, .int .u32 x.pa, .int .i64 x.pl, .int .u32 x.ad, .int .u32 x.area, .int .i64 x.cost, .int .i64 x.prio, .int .i64 x.hel, .int .i64 x.dead, .bool false, .int .u32 0, .int .u32 0, .int .i64 0, .int .i64 0, .slice none 0 0]
def arE (x : Int) : List Value := [.int .u32 x, .slice none 0 0]
theorem ifsE_len (l : List If9) : ∀ c ∈ l.map ifsE, c.length = 15 := by
  intro c hc
  obtain ⟨x, -, rfl⟩ := List.mem_map.1 hc
  rfl
theorem arE_len (l : List Int) : ∀ c ∈ l.map arE, c.length = 2 := by
  intro c hc
  obtain ⟨x, -, rfl⟩ := List.mem_map.1 hc
  rfl
theorem arE_one1 (x : Int) : ∀ u ∈ arE x, u.oneCell' = true := by
  intro u hu
  simp only [arE, List.mem_cons, List.not_mem_nil, or_false] at hu
  rcases hu with rfl | rfl <;> rfl

structure LsD where
  r : Int
  ifs : List If9
  rgs : List Arg
  now : Int
  ars : List Int
def LsD.zero : LsD := ⟨0, [], [], 0, []⟩

structure StAt (w : World) (d : LsD) (vi vr vs va : Value) : Prop where
  i : IfsAt w vi d.ifs
  r : RngsAt w vr d.rgs
  s : SlV 15 w vs (d.ifs.map ifsE)
  a : SlV 2 w va (d.ars.map arE)
theorem StAt.below {w w' : World} {d : LsD} {vi vr vs va : Value} (h : StAt w d vi vr vs va) (hb : Below w.heap.size w w') : StAt w' d vi vr vs va := ⟨h.i.below hb, h.r.below hb, h.s.below hb, h.a.below hb⟩
def NwPost (w : World) (d : LsD) (c : Int) (e : Ending) (w' : World) : Prop := ∃ vi vr vs va, e = .returned (.tuple #[.agg #[.int .u32 d.r, vi, vr, .int .i64 d.now, vs, va, .slice none 0 0, .slice none 0 0], .int .i64 c]) ∧ StAt w' d vi vr vs va ∧ Below w.heap.size w w'

theorem SlV.nil (k : Nat) (w : World) : SlV k w (.slice none 0 0) [] := ⟨none, 0, rfl, Nat.le_refl _, by unfold maxLen; omega, fun _ => rfl, fun h => absurd h (by simp)⟩

def iLt (a b : Int) : Bool := decide (a < b)
theorem iLin : Ls.Lin iLt where
  irr := by intro a; simp [iLt]
  tr := by intro a b c h1 h2; simp [iLt] at *; omega
  tot := by intro a b h1 h2; simp [iLt] at *; omega
def areasL (ifs : List If9) : List Int := Ls.compact ((ifs.map If9.area).mergeSort fun x y => decide (x ≤ y))
theorem areas_eq (ifs : List If9) : areasL ifs = Ls.adds iLt [] (ifs.map If9.area) := by
  refine Ls.asc_ext iLin _ _ (Ls.asc_compact iLin _ ?_) (Ls.asc_adds iLin _ _ (by simp [Ls.Asc])) (fun x => ?_)
  · have := List.pairwise_mergeSort (le := fun x y : Int => decide (x ≤ y)) (by intro a b c; simp; omega) (by intro a b; simp; omega) (ifs.map If9.area)
    refine this.imp fun h => ?_
    simp [iLt] at *; omega
  · rw [areasL, Ls.mem_compact, Ls.mem_adds, (List.mergeSort_perm _ _).mem_iff]
    simp
theorem adds_snoc (l : List Int) (x : Int) : Ls.adds iLt [] (l ++ [x]) = Ls.add iLt (Ls.adds iLt [] l) x := by simp [Ls.adds]
theorem compact_len : ∀ l : List Int, (Ls.compact l).length ≤ l.length
  | [] => by simp [Ls.compact]
  | [x] => by simp [Ls.compact]
  | x :: y :: r => by
    unfold Ls.compact
    have := compact_len (y :: r)
    split
    · simp only [List.length_cons] at *; omega
    · simp only [List.length_cons] at *; omega
theorem areas_len (ifs : List If9) : (areasL ifs).length ≤ ifs.length := by
  have := compact_len ((ifs.map If9.area).mergeSort fun x y => decide (x ≤ y))
  rw [List.length_mergeSort, List.length_map] at this
  exact this

theorem own_below {w w' : World} {base : Nat} {e : TypeId} {size : Nat} {v : Value} {n : Nat} {xs : List Value} (h : w.ownsRow base e size v n xs) (hb : Below w.heap.size w w') : w'.ownsRow base e size v n xs :=
  World.ownsRow.kept h (row := none) ⟨hb.os, hb.tape, hb.output, hb.size, fun k hk _ => hb.block k hk⟩ (by
    by_cases c : v.ownBlock = none
    · exact .inl c
    · exact .inr c)

/-- the type of a row: what an append has to know -/
structure RowT (P : Program) (t e : TypeId) (size bytes : Nat) : Prop where
  u : P.underlying t = some (.slice e)
  i : ∃ z : Value, (P.info? e).map (fun i => (i.zero, i.size, i.bytes)) = some (some z, size, bytes) ∧ z.cells.size = size
  s : 0 < size
  b : bytes ≤ 1000

theorem wpList_append_1 {P : Program} {w : World} {ops : Array Oper} {rest : List Oper} {o : Oper} {a : Act} {Q : Exit → Act → World → Prop} (hgd : o.guard = none) (s x : Operand) (t : TypeId)
    (ho : o.op = .call { callee := .builtin .append, args := #[s, x], argTypes := #[t, t] })
    {e : TypeId} {size bytes : Nat} (R : RowT P t e size bytes) (base : Nat) (v : Value) (n : Nat) (xs : List Value) (hs : a.eval s = v) (hown : w.ownsRow base e size v n xs)
    (nb : Nat) (vals : List Value) (te : TypeId) (hx : a.eval x = .slice (some ⟨nb, 0, none⟩) 1 1) (hblk : w.heap[nb]? = some (.cells vals.toArray te (0, 0))) (hl : vals.length = size) (h1 : ∀ u ∈ vals, u.oneCell' = true)
    (hn : n ≤ 100000) (hbase : base ≤ w.heap.size)
    (h : ∀ v' w', w'.ownsRow base e size v' (n + 1) (xs ++ vals) → w.grownBy w' v.ownBlock → (v'.ownBlock = v.ownBlock ∨ v'.ownBlock = some w.heap.size) → wpList P ops Q rest (a.put o.dst v') w') : wpList P ops Q (o :: rest) a w := by
  obtain ⟨z, hi, hz⟩ := R.i
  obtain ⟨i0, hi0, hz0, hz1, hz2⟩ := info_parts hi
  have hb : (n + 1) * bytes ≤ 100001 * 1000 := Nat.mul_le_mul (by omega) R.b
  exact wpList_append_one hgd s x t ho base e i0 z size bytes R.u hi0 hz0 hz1 hz2 hz R.s v n xs hs hown nb vals te hx hblk hl h1 (by unfold maxLen; omega) (by omega) hbase h

theorem rowAr : RowT Tryz.prog 29 50 2 32 := ⟨Tryz.underlying29, ⟨.agg #[.int .u32 0, .slice none 0 0], by kernel_rfl, rfl⟩, by decide, by decide⟩
theorem rowSt : RowT Tryz.prog 28 73 15 120 := ⟨Tryz.underlying28, ⟨.agg (ifsE ⟨0, 0, 0, 0, 0, 0, 0, 0, 0⟩).toArray, by kernel_rfl, rfl⟩, by decide, by decide⟩
theorem rowWd : RowT Tryz.prog 54 22 1 4 := ⟨Tryz.underlying54, ⟨.int .u32 0, by kernel_rfl, rfl⟩, by decide, by decide⟩

def InsPost (w : World) (l : List Int) (e : Ending) (w' : World) : Prop := ∃ v', e = .returned v' ∧ w'.ownsRow w.heap.size 50 2 v' l.length (l.map arE).flatten ∧ Below w.heap.size w w'

structure InR (w : World) (l : List Int) (id : Int) (k : Nat) (d : Bool) (v : Value) (out : List Int) (wr : World) : Prop where
  hk : k ≤ l.length
  own : wr.ownsRow w.heap.size 50 2 v out.length (out.map arE).flatten
  bel : Below w.heap.size w wr
  eq : Ls.add iLt l id = out ++ (if d then l.drop k else Ls.add iLt (l.drop k) id)
  len : out.length ≤ 2 * k + 1

end Go.Proofs.YtombnejipaoinaaGreat
