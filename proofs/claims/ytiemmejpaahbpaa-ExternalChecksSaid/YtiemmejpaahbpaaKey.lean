/-
  Prefixes as the keys of a map.
-/
import Derived.Test.YtiemmejpaahbpaaMap
import Derived.Test.YtiemmejpaahbpaaBit
import Derived.DeepKeys4
namespace Go.Proofs.Ytiemmejpaahbpaa
open Go.RowKit

theorem Try.laidOut : laidOutB Try.prog = true := by kernel_rfl
theorem Try.rowPfx : (25 : TypeId) < Try.prog.types.size := of_decide_eq_true (by kernel_rfl)
theorem Try.keyPfx : Try.prog.keyType 25 = true := by kernel_rfl
theorem Try.cellsPfx : Try.prog.cellsOf 25 = 2 := by kernel_rfl

def pfxOk (p : Ls.Pfx) : Prop := (Lit.int .u32 p.addr).wf = true ∧ (Lit.int .i64 p.len).wf = true
def pfxV (p : Ls.Pfx) : Value := .agg #[.int .u32 p.addr, .int .i64 p.len]
def pfxLit (p : Ls.Pfx) : Lit := .string (keyBytes [.int .u32 p.addr, .int .i64 p.len])

theorem Try.cellsAddr : Try.prog.cellsOf 23 = 1 := by kernel_rfl
theorem Try.cellsInt : Try.prog.cellsOf 3 = 1 := by kernel_rfl

theorem addr_lits (v : Value) (l : List Lit) (n : Nat) (h : Try.prog.keyLits (n + 1) 23 [v] = some l) : ∃ a, v = .int .u32 a ∧ (Lit.int .u32 a).wf = true ∧ l = [.int .u32 a] := by
  unfold Program.keyLits at h
  simp only [Try.underlying23] at h
  cases v <;> simp at h
  obtain ⟨⟨rfl, hw⟩, rfl⟩ := h
  exact ⟨_, rfl, hw, rfl⟩
theorem int_lits (v : Value) (l : List Lit) (n : Nat) (h : Try.prog.keyLits (n + 1) 3 [v] = some l) : ∃ a, v = .int .i64 a ∧ (Lit.int .i64 a).wf = true ∧ l = [.int .i64 a] := by
  unfold Program.keyLits at h
  simp only [Try.underlying3] at h
  cases v <;> simp at h
  obtain ⟨⟨rfl, hw⟩, rfl⟩ := h
  exact ⟨_, rfl, hw, rfl⟩

theorem pfx_lits (cs : List Value) (l : List Lit) (n : Nat) (h : Try.prog.keyLits (n + 2) 25 cs = some l) : ∃ p, pfxOk p ∧ cs = [.int .u32 p.addr, .int .i64 p.len] ∧ l = [.int .u32 p.addr, .int .i64 p.len] := by
  rw [show n + 2 = (n + 1) + 1 from rfl] at h
  unfold Program.keyLits at h
  simp only [Try.underlying25, Try.cellsPfx] at h
  obtain ⟨a, b, rfl⟩ : ∃ a b, cs = [a, b] := by
    match cs, h with
    | [a, b], _ => exact ⟨a, b, rfl⟩
    | [], h => simp at h
    | [a], h => simp at h
    | a :: b :: c :: r, h => simp at h
  simp [Try.cellsAddr, Try.cellsInt, List.mapM_cons] at h
  generalize h1 : Try.prog.keyLits (n + 1) 23 [a] = o1 at h
  generalize h2 : Try.prog.keyLits (n + 1) 3 [b] = o2 at h
  cases o1 with
  | none => simp at h
  | some l1 =>
  cases o2 with
  | none => simp at h
  | some l2 =>
  simp at h
  subst h
  obtain ⟨x, e1, wx, e2⟩ := addr_lits a l1 n h1
  obtain ⟨y, e3, wy, e4⟩ := int_lits b l2 n h2
  subst e1 e2 e3 e4
  exact ⟨⟨x, y⟩, ⟨wx, wy⟩, rfl, rfl⟩

theorem pfx_lits_mk (p : Ls.Pfx) (h : pfxOk p) (n : Nat) : Try.prog.keyLits (n + 2) 25 [.int .u32 p.addr, .int .i64 p.len] = some [.int .u32 p.addr, .int .i64 p.len] := by
  have h1 : Try.prog.keyLits (n + 1) 23 [.int .u32 p.addr] = some [.int .u32 p.addr] := by
    unfold Program.keyLits; rw [Try.underlying23]; simp [h.1]
  have h2 : Try.prog.keyLits (n + 1) 3 [.int .i64 p.len] = some [.int .i64 p.len] := by
    unfold Program.keyLits; rw [Try.underlying3]; simp [h.2]
  rw [show n + 2 = (n + 1) + 1 from rfl]
  unfold Program.keyLits
  rw [Try.underlying25, Try.cellsPfx]
  simp [Try.cellsAddr, Try.cellsInt, List.mapM_cons, h1, h2]

theorem Try.typesPos : 0 < Try.prog.types.size := of_decide_eq_true (by kernel_rfl)
theorem Try.types2 : ∃ n, Try.prog.types.size + 1 = n + 2 := by
  have h := Try.typesPos
  generalize Try.prog.types.size = k at h
  exact ⟨k - 1, by omega⟩

theorem pfx_key_of (p : Ls.Pfx) (h : pfxOk p) : keyOf Try.prog 25 (pfxV p) = some (pfxLit p) := by
  obtain ⟨n, hn⟩ := Try.types2
  unfold keyOf
  rw [Try.underlying25]
  have hf : (pfxV p).formed Try.prog 25 = true := by simp [pfxV, Value.formed, Try.underlying25, Try.cellsPfx]
  simp only [Try.keyPfx, hf, Bool.and_self, if_true]
  rw [hn]
  show Option.map _ (Try.prog.keyLits (n + 2) 25 [.int .u32 p.addr, .int .i64 p.len]) = _
  rw [pfx_lits_mk p h]
  rfl

theorem pfx_key_inv (v : Value) (l : Lit) (h : keyOf Try.prog 25 v = some l) : ∃ p, pfxOk p ∧ v = pfxV p := by
  obtain ⟨n, hn⟩ := Try.types2
  unfold keyOf at h
  simp only [Try.underlying25] at h
  simp only [Try.keyPfx, Bool.true_and] at h
  split at h
  · rename_i hf
    rw [hn] at h
    cases hk : Try.prog.keyLits (n + 2) 25 v.cells.toList with
    | none => rw [hk] at h; cases h
    | some ls =>
      obtain ⟨p, hp, hc, _⟩ := pfx_lits _ _ _ hk
      refine ⟨p, hp, ?_⟩
      cases v <;> simp [Value.formed, Try.underlying25] at hf
      simp only [Value.cells] at hc
      unfold pfxV
      rw [← hc]
  · cases h

theorem Try.kt2 : Try.prog.keyTypeAt 2 25 = true := by kernel_rfl
theorem Try.pfxKey : KeyIs Try.prog 25 pfxOk pfxV pfxLit where
  keyed := Maps.Keyed.of_law (deep_law_laid (P := Try.prog) Try.laidOut (m := 2) (Nat.le_of_ble_eq_true rfl) Try.rowPfx Try.kt2 (by simp only [Try.underlying25]))
  of := pfx_key_of
  inv := pfx_key_inv
  inj := fun x y h => by
    obtain ⟨a, b⟩ := x; obtain ⟨c, d⟩ := y
    simp [pfxV] at h
    obtain ⟨rfl, rfl⟩ := h
    rfl

end Go.Proofs.Ytiemmejpaahbpaa
