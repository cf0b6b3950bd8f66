/-
  One element is put behind a row.
-/
import Derived.Test.YtogdconliofblaaGreatMem
import Derived.Maps.AppendAt
namespace Go.Proofs.YtogdconliofblaaGreat
open Go.RowKit

/-- a slice elsewhere stays as it is -/
theorem SlV.kept {k : Nat} {w w' : World} {v : Value} {css : List (List Value)} {row : Option Nat} (h : SlV k w v css) (hg : w.grownBy w' row) (hb : ∀ b off n c, v = .slice (some ⟨b, off, none⟩) n c → row ≠ some b) : SlV k w' v css := by
  obtain ⟨a, cap, e, h1, h2, h3, h4⟩ := h
  refine ⟨a, cap, e, h1, h2, h3, fun h0 => ?_⟩
  obtain ⟨b, off, ea, h5, h6⟩ := h4 h0
  subst ea
  exact ⟨b, off, rfl, Nat.lt_of_lt_of_le h5 hg.size, fun i hi j u hu => (World.cell?_of_block (w := w) (w' := w') (hg.block b h5 (fun z => hb b off _ _ e z.symm))).trans (h6 i hi j u hu)⟩

/-- an element is put behind a row: it is told whether the row has moved -/
theorem wpList_append_one {P : Program} {w : World} {ops : Array Oper} {rest : List Oper} {o : Oper} {a : Act} {Q : Exit → Act → World → Prop} (hgd : o.guard = none) (s x : Operand) (t : TypeId)
    (ho : o.op = .call { callee := .builtin .append, args := #[s, x], argTypes := #[t, t] })
    (base : Nat) (e : TypeId) (i : TypeInfo) (z : Value) (size bytes : Nat) (ht : P.underlying t = some (.slice e)) (hi : P.info? e = some i) (hz : i.zero = some z)
    (hsize : i.size = size) (hby : i.bytes = bytes) (hzs : z.cells.size = size) (hsz : 0 < size)
    (v : Value) (n : Nat) (xs : List Value) (hs : a.eval s = v) (hown : w.ownsRow base e size v n xs)
    (nb : Nat) (vals : List Value) (te : TypeId) (hx : a.eval x = .slice (some ⟨nb, 0, none⟩) 1 1) (hblk : w.heap[nb]? = some (.cells vals.toArray te (0, 0))) (hl : vals.length = size) (h1 : ∀ u ∈ vals, u.oneCell' = true)
    (h63 : n + 1 ≤ maxLen) (hbytes : (n + 1) * bytes ≤ 140737488355328) (hbase : base ≤ w.heap.size)
    (h : ∀ v' w', w'.ownsRow base e size v' (n + 1) (xs ++ vals) → w.grownBy w' v.ownBlock → (v'.ownBlock = v.ownBlock ∨ v'.ownBlock = some w.heap.size) → wpList P ops Q rest (a.put o.dst v') w') : wpList P ops Q (o :: rest) a w := by
  refine wpList_append_own_at w hgd s x t ho base e i z size bytes ht hi hz hsize hby hzs hsz v n xs hs hown ⟨nb, 0, none⟩ 1 1 vals hx (by rw [hl, Nat.one_mul]) ?_ h1 h63 hbytes hbase fun v' w' h2 h3 _ h5 => h v' w' h2 h3 h5
  intro j u hu
  have := blk_cell (i := j) hblk (by simpa using hu)
  have e : (⟨nb, 0, none⟩ : Addr).add j = ⟨nb, j, none⟩ := by
    cases j with
    | zero => rfl
    | succ j => simp [Addr.add]
  rw [e]; exact this

end Go.Proofs.YtogdconliofblaaGreat
