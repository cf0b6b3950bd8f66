import Derived.Test.YtddageahmgaigaaGreatKys
import Derived.Test.YtddageahmgaigaaGreatSel
import Derived.Deep.DeepCutAuto
import Derived.BigQuiet
import Derived.IntWalk
namespace Go.Proofs.YtddageahmgaigaaGreat
open Go.RowKit

theorem eqKk (t id len r t' id' len' r' : Int) (w : World) : (binOp .eql 60 (.agg #[.int .i64 t, .int .u32 id, .int .i64 len, .int .u32 r]) (.agg #[.int .i64 t', .int .u32 id', .int .i64 len', .int .u32 r'])).run Tryz.prog w = .ok (.bool (decide ((⟨t, id, len, r⟩ : Kk) = ⟨t', id', len', r'⟩))) w := by
  have u3 := Tryz.underlying3
  have u22 := Tryz.underlying22
  have a3 := Tryz.isAgg3
  have z3 := Tryz.sizeOf3
  have a22 := Tryz.isAgg22
  have z22 := Tryz.sizeOf22
  have hS : Tryz.prog.underlying 60 = some (.struct (Tryz.prog.fieldsOf 60)) := by kernel_rfl
  have hp : Tryz.prog.stoodInHeld 60 = false := by kernel_rfl
  rw [run_eql_struct, show (10000 : Nat) = 9999 + 1 from rfl, run_equalIn_agg w 9999 60 _ _ hS hp]
  simp only [Program.fieldsOf, Tryz.underlying60]
  go_simp
  by_cases h1 : t = t' <;> by_cases h2 : id = id' <;> by_cases h3 : len = len' <;> by_cases h4 : r = r' <;> simp [h1, h2, h3, h4]

def FindIs (l : List Lsa) (k : Kk) (i : Int) : Prop := (i = -1 ∧ ∀ x ∈ l, lkOf x ≠ k) ∨ ∃ j : Nat, i = (j : Int) ∧ ∃ h : j < l.length, lkOf l[j] = k ∧ ∀ m (hm : m < j), lkOf (l[m]'(by omega)) ≠ k
def FindPost (w : World) (l : List Lsa) (k : Kk) (e : Ending) (w' : World) : Prop := ∃ i : Int, e = .returned (.int .i64 i) ∧ Gr w w' ∧ FindIs l k i

end Go.Proofs.YtddageahmgaigaaGreat

namespace Go.Proofs.YtddageahmgaigaaGreat
open Go.RowKit

def GetIs (l : List Lsa) (k : Kk) (x : Lsa) (b : Bool) : Prop := (b = false ∧ ∀ y ∈ l, lkOf y ≠ k) ∨ (b = true ∧ lkOf x = k ∧ x ∈ l)
def GetPost (w : World) (l : List Lsa) (k : Kk) (e : Ending) (w' : World) : Prop := ∃ x b, e = .returned (.tuple #[.agg (lsaE x).toArray, .bool b]) ∧ Below w.heap.size w w' ∧ GetIs l k x b

end Go.Proofs.YtddageahmgaigaaGreat
