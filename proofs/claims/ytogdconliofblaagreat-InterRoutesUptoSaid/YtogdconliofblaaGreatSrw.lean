/-
  A row of one's own, sorted: from 'ownsRow' to the shelf's words and back.
-/
/-
  slices.SortFunc at no element: nothing turns.
-/
import Derived.Test.YtogdconliofblaaGreatMem
import Derived.Test.YtogdconliofblaaGreatLeaf
import Derived.Shelf.SlSortCmp.WholeK
namespace Go.Proofs.YtogdconliofblaaGreat
open Go.RowKit Go.Sort

section
variable {α : Type} [Inhabited α] {enc : α → List Value} {k : Nat}

theorem flatK_eq (hk : ∀ x, (enc x).length = k) (d : Array α) : (flatK enc k d).toList = (d.toList.map enc).flatten := by
  have hl : ∀ c ∈ d.toList.map enc, c.length = k := by
    intro c hc
    obtain ⟨x, _, rfl⟩ := List.mem_map.1 hc
    exact hk x
  apply List.ext_getElem?
  intro j
  by_cases c : j < d.size * k
  · have k0 : 0 < k := by rcases Nat.eq_zero_or_pos k with e | e; · subst e; simp at c
                          · exact e
    have hi : j / k < d.size := Nat.div_lt_of_lt_mul (by rwa [Nat.mul_comm])
    have hm := Nat.mod_lt j k0
    have hd : j / k * k + j % k = j := Nat.div_add_mod' j k
    have e1 := flat_get (k := k) (d.toList.map enc) hl (j / k) (by simpa using hi) (j % k) ((enc d[j / k]!)[j % k]!) (by
      simp only [List.getElem_map, Array.getElem_toList]
      rw [getElem!_pos d _ hi, getElem!_pos _ _ (by rw [hk]; exact hm)]
      exact List.getElem?_eq_getElem (by rw [hk]; exact hm))
    rw [hd] at e1
    rw [e1, Array.getElem?_toList, Array.getElem?_eq_getElem (by simpa using c)]
    have := get_flatK enc k d j c
    rw [getElem!_pos _ _ (by simpa using c)] at this
    rw [this]
  · rw [List.getElem?_eq_none (by simp; omega), List.getElem?_eq_none (by rw [flat_len _ hl]; simp; omega)]

theorem own_holds (hk : ∀ x, (enc x).length = k) {w : World} {base : Nat} {e : TypeId} {g cap : Nat} {l : List α} (h : w.ownsRow base e k (.slice (some ⟨g, 0, none⟩) l.length cap) l.length (l.map enc).flatten) :
    HoldsK enc k w g 0 l.toArray := by
  rcases own_cases h with ⟨e, _⟩ | ⟨g', cap', cur, e', h1, h2, h3, h4, h5, h6, h7⟩
  · cases e
  · simp only [Value.slice.injEq, Option.some.injEq, Addr.mk.injEq, and_true, true_and] at e'
    obtain ⟨e1, e3⟩ := e'
    subst e1 e3
    intro j hj
    rw [size_flatK] at hj
    have hj' : j < l.length * k := by simpa using hj
    refine ⟨?_, blk_free h3 _⟩
    rw [Nat.zero_add]
    refine blk_cell h3 ?_
    have e2 : (flatK enc k l.toArray).toList[j]? = some (flatK enc k l.toArray)[j]! := by
      rw [Array.getElem?_toList, Array.getElem?_eq_getElem (by simpa using hj'), getElem!_pos _ _ (by simpa using hj')]
    rw [flatK_eq hk] at e2
    simp only at e2
    rw [← h7, List.getElem?_take, if_pos hj'] at e2
    simpa using e2

theorem heap_sort {w : World} {g m : Nat} {d' : Array α} {os : Array Obj} : ∀ i, i < w.heap.size → i ≠ g → (sortWorldK enc k w g 0 m d' os).heap[i]? = w.heap[i]? := by
  intro i hi hne
  show (w.heap.modify g (onCells (putCells id 0 (flatK enc k d'))) ++ os)[i]? = _
  rw [Array.getElem?_append_left (by simpa using hi), Array.getElem?_modify, if_neg (fun h => hne h.symm)]

theorem own_sorted (hk : ∀ x, (enc x).length = k) {w : World} {base : Nat} {e : TypeId} {g cap : Nat} {l : List α} (h : w.ownsRow base e k (.slice (some ⟨g, 0, none⟩) l.length cap) l.length (l.map enc).flatten)
    {m : Nat} {d' : Array α} {os : Array Obj} (hs : d'.size = l.length) :
    (sortWorldK enc k w g 0 m d' os).ownsRow base e k (.slice (some ⟨g, 0, none⟩) l.length cap) l.length (d'.toList.map enc).flatten ∧ w.grownBy (sortWorldK enc k w g 0 m d' os) (some g) := by
  have hl : ∀ c ∈ d'.toList.map enc, c.length = k := by
    intro c hc
    obtain ⟨x, _, rfl⟩ := List.mem_map.1 hc
    exact hk x
  rcases own_cases h with ⟨e, _⟩ | ⟨g', cap', cur, e', h1, h2, h3, h4, h5, h6, h7⟩
  · cases e
  · simp only [Value.slice.injEq, Option.some.injEq, Addr.mk.injEq, and_true, true_and] at e'
    obtain ⟨e1, e3⟩ := e'
    subst e1 e3
    have hb : (sortWorldK enc k w g 0 m d' os).heap[g]? = some (.cells (putCells id 0 (flatK enc k d') cur) e (0, 0)) := by
      show (w.heap.modify g (onCells (putCells id 0 (flatK enc k d'))) ++ os)[g]? = _
      rw [Array.getElem?_append_left (by simpa using h2), Array.getElem?_modify, if_pos rfl, h3]
      rfl
    refine ⟨⟨by rw [flat_len _ hl]; simp [hs], .inr ⟨g, cap, _, rfl, h1, hb, h4, h5, by simpa [putCells] using h6, ?_⟩⟩, rfl, rfl, rfl, ?_, fun i hi hne => heap_sort i hi (fun e => hne (by rw [e]))⟩
    · rw [← flatK_eq hk]
      apply List.ext_getElem?
      intro j
      rw [List.getElem?_take]
      by_cases c : j < l.length * k
      · have cc : j < cur.size := by rw [h6]; exact Nat.lt_of_lt_of_le c (Nat.mul_le_mul_right _ h4)
        rw [if_pos c]
        simp only [putCells, Array.getElem?_toList, Array.getElem?_mapIdx, Array.getElem?_eq_getElem cc, Option.map_some, Nat.zero_le, true_and, Nat.zero_add, size_flatK, hs, Nat.sub_zero, id]
        rw [if_pos c, Array.getElem?_eq_getElem (by rw [size_flatK, hs]; exact c), getElem!_pos _ _ (by rw [size_flatK, hs]; exact c)]
      · rw [if_neg c, List.getElem?_eq_none (by simp [hs]; omega)]
    · show _ ≤ (w.heap.modify g (onCells (putCells id 0 (flatK enc k d'))) ++ os).size
      simp
end

/-- what the sort leaves, in the words of lists -/
theorem sorted_list {α : Type} [Inhabited α] {lt : α → α → Bool} {l : List α} {d' : Array α} (hp : PermIn 0 l.toArray.size l.toArray d') (hs : SortedIn lt 0 l.toArray.size d') :
    d'.size = l.length ∧ d'.toList.Perm l ∧ d'.toList.Pairwise fun a b => lt b a = false := by
  obtain ⟨h1, _, h3⟩ := hp
  have h1 : d'.size = l.length := by simpa using h1
  refine ⟨h1, ?_, ?_⟩
  · have e1 : d'.extract 0 l.toArray.size = d' := by rw [List.size_toArray, ← h1]; exact Array.extract_size
    have e2 : l.toArray.extract 0 l.toArray.size = l.toArray := Array.extract_size
    rw [e1, e2] at h3
    exact h3
  · rw [List.pairwise_iff_getElem]
    intro i j hi hj hij
    have := hs i j (Nat.zero_le _) hij (by simp; simpa [h1] using hj)
    rw [getElem!_pos d' j (by simpa using hj), getElem!_pos d' i (by simpa using hi)] at this
    simpa using this

end Go.Proofs.YtogdconliofblaaGreat

namespace Go.Proofs.YtogdconliofblaaGreat
open Go.RowKit

set_option maxHeartbeats 2000000 in
set_option maxRecDepth 100000 in
theorem bits_len0 (w : World) : Calls Tryz.prog 77 #[.int .u64 0] w fun e w' => (∃ x : Int, e = .returned (.int .i64 x)) ∧ w = w' := by
  go_enter Tryz.func77, Tryz.ntmps77
  go_wp2
  go_ret
  exact ⟨⟨_, rfl⟩, rfl⟩

set_option maxHeartbeats 2000000 in
theorem ins_none_hop (p : Option Addr) (cap : Nat) (fv : Value) (w : World) :
    Calls Tryz.prog 157 #[.slice p 0 cap, .int .i64 0, .int .i64 0, fv] w fun e w' => e = .returned (.tuple #[]) ∧ w = w' := by
  go_enter Tryz.func157, Tryz.ntmps157
  go_wp2_with fail
  refine wp_loop_rounds 1 ?_
  rw [rounds_succ]
  go_wp2_with fail
  go_end0
  exact ⟨rfl, rfl⟩

set_option maxHeartbeats 2000000 in
theorem pdq_none_hop (p : Option Addr) (cap : Nat) (lim : Int) (fv : Value) (w : World) :
    Calls Tryz.prog 137 #[.slice p 0 cap, .int .i64 0, .int .i64 0, .int .i64 lim, fv] w fun e w' => e = .returned (.tuple #[]) ∧ w = w' := by
  go_enter Tryz.func137, Tryz.ntmps137
  go_wp2_with fail
  refine wp_loop_rounds 1 ?_
  rw [rounds_succ]
  go_wp2_with fail
  refine (ins_none_hop p cap fv w).mono ?_
  rintro e w' ⟨rfl, rfl⟩
  go_wp2_with fail
  (try simp only [Exit.inBlock, Exit.then]); refine bodyPost_ret (results_none rfl _ _ _) rfl ?_
  exact ⟨rfl, rfl⟩

set_option maxHeartbeats 2000000 in
theorem sort_none_hop (p : Option Addr) (cap : Nat) (fv : Value) (w : World) :
    Calls Tryz.prog 94 #[.slice p 0 cap, fv] w fun e w' => e = .returned (.tuple #[]) ∧ w = w' := by
  go_enter Tryz.func94, Tryz.ntmps94
  go_wp2_with fail
  have hl : Calls Tryz.prog 77 #[.int .u64 0] w fun e w' => (∃ x : Int, e = .returned (.int .i64 x)) ∧ w = w' := bits_len0 w
  refine hl.mono ?_
  rintro e w' ⟨⟨x, rfl⟩, rfl⟩
  go_wp2_with fail
  refine (pdq_none_hop p cap x fv w).mono ?_
  rintro e w' ⟨rfl, rfl⟩
  go_wp2_with fail
  go_end0
  exact ⟨rfl, rfl⟩

set_option maxHeartbeats 2000000 in
theorem ins_none_rt (p : Option Addr) (cap : Nat) (fv : Value) (w : World) :
    Calls Tryz.prog 127 #[.slice p 0 cap, .int .i64 0, .int .i64 0, fv] w fun e w' => e = .returned (.tuple #[]) ∧ w = w' := by
  go_enter Tryz.func127, Tryz.ntmps127
  go_wp2_with fail
  refine wp_loop_rounds 1 ?_
  rw [rounds_succ]
  go_wp2_with fail
  go_end0
  exact ⟨rfl, rfl⟩

set_option maxHeartbeats 2000000 in
theorem pdq_none_rt (p : Option Addr) (cap : Nat) (lim : Int) (fv : Value) (w : World) :
    Calls Tryz.prog 87 #[.slice p 0 cap, .int .i64 0, .int .i64 0, .int .i64 lim, fv] w fun e w' => e = .returned (.tuple #[]) ∧ w = w' := by
  go_enter Tryz.func87, Tryz.ntmps87
  go_wp2_with fail
  refine wp_loop_rounds 1 ?_
  rw [rounds_succ]
  go_wp2_with fail
  refine (ins_none_rt p cap fv w).mono ?_
  rintro e w' ⟨rfl, rfl⟩
  go_wp2_with fail
  (try simp only [Exit.inBlock, Exit.then]); refine bodyPost_ret (results_none rfl _ _ _) rfl ?_
  exact ⟨rfl, rfl⟩

set_option maxHeartbeats 2000000 in
theorem sort_none_rt (p : Option Addr) (cap : Nat) (fv : Value) (w : World) :
    Calls Tryz.prog 50 #[.slice p 0 cap, fv] w fun e w' => e = .returned (.tuple #[]) ∧ w = w' := by
  go_enter Tryz.func50, Tryz.ntmps50
  go_wp2_with fail
  have hl : Calls Tryz.prog 77 #[.int .u64 0] w fun e w' => (∃ x : Int, e = .returned (.int .i64 x)) ∧ w = w' := bits_len0 w
  refine hl.mono ?_
  rintro e w' ⟨⟨x, rfl⟩, rfl⟩
  go_wp2_with fail
  refine (pdq_none_rt p cap x fv w).mono ?_
  rintro e w' ⟨rfl, rfl⟩
  go_wp2_with fail
  go_end0
  exact ⟨rfl, rfl⟩

set_option maxHeartbeats 2000000 in
theorem ins_none_lsa (p : Option Addr) (cap : Nat) (fv : Value) (w : World) :
    Calls Tryz.prog 106 #[.slice p 0 cap, .int .i64 0, .int .i64 0, fv] w fun e w' => e = .returned (.tuple #[]) ∧ w = w' := by
  go_enter Tryz.func106, Tryz.ntmps106
  go_wp2_with fail
  refine wp_loop_rounds 1 ?_
  rw [rounds_succ]
  go_wp2_with fail
  go_end0
  exact ⟨rfl, rfl⟩

set_option maxHeartbeats 2000000 in
theorem pdq_none_lsa (p : Option Addr) (cap : Nat) (lim : Int) (fv : Value) (w : World) :
    Calls Tryz.prog 76 #[.slice p 0 cap, .int .i64 0, .int .i64 0, .int .i64 lim, fv] w fun e w' => e = .returned (.tuple #[]) ∧ w = w' := by
  go_enter Tryz.func76, Tryz.ntmps76
  go_wp2_with fail
  refine wp_loop_rounds 1 ?_
  rw [rounds_succ]
  go_wp2_with fail
  refine (ins_none_lsa p cap fv w).mono ?_
  rintro e w' ⟨rfl, rfl⟩
  go_wp2_with fail
  (try simp only [Exit.inBlock, Exit.then]); refine bodyPost_ret (results_none rfl _ _ _) rfl ?_
  exact ⟨rfl, rfl⟩

set_option maxHeartbeats 2000000 in
theorem sort_none_lsa (p : Option Addr) (cap : Nat) (fv : Value) (w : World) :
    Calls Tryz.prog 37 #[.slice p 0 cap, fv] w fun e w' => e = .returned (.tuple #[]) ∧ w = w' := by
  go_enter Tryz.func37, Tryz.ntmps37
  go_wp2_with fail
  have hl : Calls Tryz.prog 77 #[.int .u64 0] w fun e w' => (∃ x : Int, e = .returned (.int .i64 x)) ∧ w = w' := bits_len0 w
  refine hl.mono ?_
  rintro e w' ⟨⟨x, rfl⟩, rfl⟩
  go_wp2_with fail
  refine (pdq_none_lsa p cap x fv w).mono ?_
  rintro e w' ⟨rfl, rfl⟩
  go_wp2_with fail
  go_end0
  exact ⟨rfl, rfl⟩

end Go.Proofs.YtogdconliofblaaGreat
