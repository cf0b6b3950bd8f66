import Derived.Test.YtddageahmgaigaaGreatMap
import Derived.Test.YtddageahmgaigaaGreatRou
namespace Go.Proofs.YtddageahmgaigaaGreat
open Go.RowKit

theorem Tryz.laidOut : laidOutB Tryz.prog = true := by kernel_rfl
theorem Tryz.rowPl : (88 : TypeId) < Tryz.prog.types.size := of_decide_eq_true (by kernel_rfl)
theorem Tryz.keyPl : Tryz.prog.keyType 88 = true := by kernel_rfl
theorem Tryz.cellsPl : Tryz.prog.cellsOf 88 = 3 := by kernel_rfl
theorem Tryz.cellsInt : Tryz.prog.cellsOf 3 = 1 := by kernel_rfl
theorem Tryz.cellsU32 : Tryz.prog.cellsOf 22 = 1 := by kernel_rfl

def plOk (p : Pl) : Prop := (Lit.int .i64 p.kind).wf = true ∧ (Lit.int .u32 p.id).wf = true ∧ (Lit.int .u32 p.data).wf = true
def plV (p : Pl) : Value := .agg #[.int .i64 p.kind, .int .u32 p.id, .int .u32 p.data]
def plLit (p : Pl) : Lit := .string (keyBytes [.int .i64 p.kind, .int .u32 p.id, .int .u32 p.data])
def costV (c : Int) : Value := .int .i64 c
theorem Tryz.zeroInt (w : World) : (zeroValue 3).run Tryz.prog w = .ok (.int .i64 0) w := by kernel_rfl

theorem u32_lits (v : Value) (l : List Lit) (n : Nat) (h : Tryz.prog.keyLits (n + 1) 22 [v] = some l) : ∃ a, v = .int .u32 a ∧ (Lit.int .u32 a).wf = true ∧ l = [.int .u32 a] := by
  unfold Program.keyLits at h
  simp only [Tryz.underlying22] at h
  cases v <;> simp at h
  obtain ⟨⟨rfl, hw⟩, rfl⟩ := h
  exact ⟨_, rfl, hw, rfl⟩
theorem int_lits (v : Value) (l : List Lit) (n : Nat) (h : Tryz.prog.keyLits (n + 1) 3 [v] = some l) : ∃ a, v = .int .i64 a ∧ (Lit.int .i64 a).wf = true ∧ l = [.int .i64 a] := by
  unfold Program.keyLits at h
  simp only [Tryz.underlying3] at h
  cases v <;> simp at h
  obtain ⟨⟨rfl, hw⟩, rfl⟩ := h
  exact ⟨_, rfl, hw, rfl⟩

theorem pl_lits (cs : List Value) (l : List Lit) (n : Nat) (h : Tryz.prog.keyLits (n + 2) 88 cs = some l) : ∃ p, plOk p ∧ cs = [.int .i64 p.kind, .int .u32 p.id, .int .u32 p.data] ∧ l = [.int .i64 p.kind, .int .u32 p.id, .int .u32 p.data] := by
  rw [show n + 2 = (n + 1) + 1 from rfl] at h
  unfold Program.keyLits at h
  simp only [Tryz.underlying88, Tryz.cellsPl] at h
  obtain ⟨a, b, c, rfl⟩ : ∃ a b c, cs = [a, b, c] := by
    match cs, h with
    | [a, b, c], _ => exact ⟨a, b, c, rfl⟩
    | [], h => simp at h
    | [a], h => simp at h
    | [a, b], h => simp at h
    | a :: b :: c :: d :: r, h => simp at h
  simp [Tryz.cellsInt, Tryz.cellsU32, List.mapM_cons] at h
  generalize h1 : Tryz.prog.keyLits (n + 1) 3 [a] = o1 at h
  generalize h2 : Tryz.prog.keyLits (n + 1) 22 [b] = o2 at h
  generalize h3 : Tryz.prog.keyLits (n + 1) 22 [c] = o3 at h
  cases o1 with
  | none => simp at h
  | some l1 =>
  cases o2 with
  | none => simp at h
  | some l2 =>
  cases o3 with
  | none => simp at h
  | some l3 =>
  simp at h
  subst h
  obtain ⟨x, e1, wx, e2⟩ := int_lits a l1 n h1
  obtain ⟨y, e3, wy, e4⟩ := u32_lits b l2 n h2
  obtain ⟨z, e5, wz, e6⟩ := u32_lits c l3 n h3
  subst e1 e2 e3 e4 e5 e6
  exact ⟨⟨x, y, z⟩, ⟨wx, wy, wz⟩, rfl, rfl⟩

theorem pl_lits_mk (p : Pl) (h : plOk p) (n : Nat) : Tryz.prog.keyLits (n + 2) 88 [.int .i64 p.kind, .int .u32 p.id, .int .u32 p.data] = some [.int .i64 p.kind, .int .u32 p.id, .int .u32 p.data] := by
  have h1 : Tryz.prog.keyLits (n + 1) 3 [.int .i64 p.kind] = some [.int .i64 p.kind] := by
    unfold Program.keyLits; rw [Tryz.underlying3]; simp [h.1]
  have h2 : Tryz.prog.keyLits (n + 1) 22 [.int .u32 p.id] = some [.int .u32 p.id] := by
    unfold Program.keyLits; rw [Tryz.underlying22]; simp [h.2.1]
  have h3 : Tryz.prog.keyLits (n + 1) 22 [.int .u32 p.data] = some [.int .u32 p.data] := by
    unfold Program.keyLits; rw [Tryz.underlying22]; simp [h.2.2]
  rw [show n + 2 = (n + 1) + 1 from rfl]
  unfold Program.keyLits
  rw [Tryz.underlying88, Tryz.cellsPl]
  simp [Tryz.cellsInt, Tryz.cellsU32, List.mapM_cons, h1, h2, h3]

theorem Tryz.typesPos : 0 < Tryz.prog.types.size := of_decide_eq_true (by kernel_rfl)
theorem Tryz.types2 : ∃ n, Tryz.prog.types.size + 1 = n + 2 := by
  have h := Tryz.typesPos
  generalize Tryz.prog.types.size = k at h
  exact ⟨k - 1, by omega⟩

theorem pl_key_of (p : Pl) (h : plOk p) : keyOf Tryz.prog 88 (plV p) = some (plLit p) := by
  obtain ⟨n, hn⟩ := Tryz.types2
  unfold keyOf
  rw [Tryz.underlying88]
  have hf : (plV p).formed Tryz.prog 88 = true := by simp [plV, Value.formed, Tryz.underlying88, Tryz.cellsPl]
  simp only [Tryz.keyPl, hf, Bool.and_self, if_true]
  rw [hn]
  show Option.map _ (Tryz.prog.keyLits (n + 2) 88 [.int .i64 p.kind, .int .u32 p.id, .int .u32 p.data]) = _
  rw [pl_lits_mk p h]
  rfl

theorem pl_key_inv (v : Value) (l : Lit) (h : keyOf Tryz.prog 88 v = some l) : ∃ p, plOk p ∧ v = plV p := by
  obtain ⟨n, hn⟩ := Tryz.types2
  unfold keyOf at h
  simp only [Tryz.underlying88] at h
  simp only [Tryz.keyPl, Bool.true_and] at h
  split at h
  · rename_i hf
    rw [hn] at h
    cases hk : Tryz.prog.keyLits (n + 2) 88 v.cells.toList with
    | none => rw [hk] at h; cases h
    | some ls =>
      obtain ⟨p, hp, hc, _⟩ := pl_lits _ _ _ hk
      refine ⟨p, hp, ?_⟩
      cases v <;> simp [Value.formed, Tryz.underlying88] at hf
      simp only [Value.cells] at hc
      unfold plV
      rw [← hc]
  · cases h

theorem Tryz.ktPl : Tryz.prog.keyTypeAt 2 88 = true := by kernel_rfl
theorem Tryz.plKey : KeyIs Tryz.prog 88 plOk plV plLit where
  keyed := Maps.Keyed.of_law (deep_law_laid (P := Tryz.prog) Tryz.laidOut (m := 2) (Nat.le_of_ble_eq_true rfl) Tryz.rowPl Tryz.ktPl (by simp only [Tryz.underlying88]))
  of := pl_key_of
  inv := pl_key_inv
  inj := fun x y h => by
    obtain ⟨a, b, c⟩ := x; obtain ⟨d, e, f⟩ := y
    simp [plV] at h
    obtain ⟨rfl, rfl, rfl⟩ := h
    rfl

abbrev PMap (w : World) (b n : Nat) (f : Pl → Option Int) : Prop := MapF Tryz.prog 88 plOk plLit costV w b n f

end Go.Proofs.YtddageahmgaigaaGreat
