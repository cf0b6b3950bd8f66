import Derived.Test.YtddageahmgaigaaGreatProg
import Derived.Test.YtddageahmgaigaaGreatMem
import Derived.Test.YtddageahmgaigaaGreatLeaf
import Derived.Shelf.SlGeneric
import Derived.Shelf.SlSortCmp.WholeK
import Derived.Ground.SlsfProg
namespace Go.Proofs
open Go.Shelf
def Tryz.sortLnk_ren : Go.Shelf.Ren := ⟨fun | 6 => 40 | 15 => 79 | 14 => 78 | 28 => 112 | 29 => 113 | 20 => 104 | 21 => 105 | 22 => 106 | 23 => 107 | 24 => 108 | 25 => 109 | 26 => 110 | 27 => 111 | 46 => 146 | 47 => 147 | 48 => 148 | 49 => 149 | 50 => 150 | 57 => 172 | n => n, fun | 22 => 38 | 24 => 82 | 25 => 94 | 3 => 3 | 39 => 120 | 0 => 0 | 53 => 22 | 55 => 146 | 4 => 4 | 46 => 139 | 45 => 138 | 50 => 89 | 5 => 5 | 9 => 9 | 66 => 168 | 70 => 172 | 76 => 189 | 77 => 160 | n => n, fun | n => n⟩
theorem Tryz.sortLnk : Go.Proofs.SlLaysF0.n6 Tryz.prog Tryz.sortLnk_ren := {
  mixed := by kernel_rfl
  f6 := ⟨Tryz.f40.name, by decide, Tryz.func40.trans (congrArg some (by kernel_rfl))⟩
  f14 := ⟨Tryz.f78.name, by decide, Tryz.func78.trans (congrArg some (by kernel_rfl))⟩
  f15 := Tryz.func79.trans (congrArg some (by kernel_rfl))
  f20 := ⟨Tryz.f104.name, by decide, Tryz.func104.trans (congrArg some (by kernel_rfl))⟩
  f21 := ⟨Tryz.f105.name, by decide, Tryz.func105.trans (congrArg some (by kernel_rfl))⟩
  f22 := ⟨Tryz.f106.name, by decide, Tryz.func106.trans (congrArg some (by kernel_rfl))⟩
  f23 := ⟨Tryz.f107.name, by decide, Tryz.func107.trans (congrArg some (by kernel_rfl))⟩
  f24 := ⟨Tryz.f108.name, by decide, Tryz.func108.trans (congrArg some (by kernel_rfl))⟩
  f25 := ⟨Tryz.f109.name, by decide, Tryz.func109.trans (congrArg some (by kernel_rfl))⟩
  f26 := ⟨Tryz.f110.name, by decide, Tryz.func110.trans (congrArg some (by kernel_rfl))⟩
  f27 := ⟨Tryz.f111.name, by decide, Tryz.func111.trans (congrArg some (by kernel_rfl))⟩
  f28 := Tryz.func112.trans (congrArg some (by kernel_rfl))
  f29 := Tryz.func113.trans (congrArg some (by kernel_rfl))
  f46 := ⟨Tryz.f146.name, by decide, Tryz.func146.trans (congrArg some (by kernel_rfl))⟩
  f47 := Tryz.func147.trans (congrArg some (by kernel_rfl))
  f48 := Tryz.func148.trans (congrArg some (by kernel_rfl))
  f49 := ⟨Tryz.f149.name, by decide, Tryz.func149.trans (congrArg some (by kernel_rfl))⟩
  f50 := ⟨Tryz.f150.name, by decide, Tryz.func150.trans (congrArg some (by kernel_rfl))⟩
  f57 := ⟨Tryz.f172.name, by decide, Tryz.func172.trans (congrArg some (by kernel_rfl))⟩
  t0 := Tryz.underlying0
  a0 := Tryz.isAgg0
  z0 := Tryz.sizeOf0
  v0 := Tryz.zeroValue0
  t3 := Tryz.underlying3
  a3 := Tryz.isAgg3
  z3 := Tryz.sizeOf3
  v3 := Tryz.zeroValue3
  t4 := Tryz.underlying4
  a4 := Tryz.isAgg4
  z4 := Tryz.sizeOf4
  v4 := Tryz.zeroValue4
  t5 := Tryz.underlying5
  a5 := Tryz.isAgg5
  z5 := Tryz.sizeOf5
  v5 := Tryz.zeroValue5
  t9 := Tryz.underlying9
  a9 := Tryz.isAgg9
  z9 := Tryz.sizeOf9
  v9 := Tryz.zeroValue9
  t22 := Tryz.underlying38
  a22 := Tryz.isAgg38
  z22 := Tryz.sizeOf38
  v22 := Tryz.zeroValue38
  t25 := Tryz.underlying94
  a25 := Tryz.isAgg94
  z25 := Tryz.sizeOf94
  v25 := Tryz.zeroValue94
  t39 := Tryz.underlying120
  a39 := Tryz.isAgg120
  z39 := Tryz.sizeOf120
  v39 := Tryz.zeroValue120
  t45 := Tryz.underlying138
  a45 := Tryz.isAgg138
  z45 := Tryz.sizeOf138
  v45 := Tryz.zeroValue138
  t46 := Tryz.underlying139
  a46 := Tryz.isAgg139
  z46 := Tryz.sizeOf139
  v46 := Tryz.zeroValue139
  t50 := Tryz.underlying89
  a50 := Tryz.isAgg89
  z50 := Tryz.sizeOf89
  v50 := Tryz.zeroValue89
  t53 := Tryz.underlying22
  a53 := Tryz.isAgg22
  z53 := Tryz.sizeOf22
  v53 := Tryz.zeroValue22
  t55 := Tryz.underlying146
  a55 := Tryz.isAgg146
  z55 := Tryz.sizeOf146
  v55 := Tryz.zeroValue146
  t66 := Tryz.underlying168
  a66 := Tryz.isAgg168
  z66 := Tryz.sizeOf168
  v66 := Tryz.zeroValue168
  t70 := Tryz.underlying172
  a70 := Tryz.isAgg172
  z70 := Tryz.sizeOf172
  v70 := Tryz.zeroValue172
  t76 := Tryz.underlying189
  a76 := Tryz.isAgg189
  z76 := Tryz.sizeOf189
  v76 := Tryz.zeroValue189
  t77 := Tryz.underlying160
  a77 := Tryz.isAgg160
  z77 := Tryz.sizeOf160
  v77 := Tryz.zeroValue160 }
def Tryz.sortLsa_ren : Go.Shelf.Ren := ⟨fun | 6 => 59 | 15 => 79 | 14 => 91 | 28 => 112 | 29 => 113 | 20 => 121 | 21 => 122 | 22 => 123 | 23 => 124 | 24 => 125 | 25 => 126 | 26 => 127 | 27 => 128 | 46 => 162 | 47 => 147 | 48 => 148 | 49 => 163 | 50 => 164 | 57 => 180 | n => n, fun | 22 => 29 | 24 => 42 | 25 => 105 | 3 => 3 | 39 => 120 | 0 => 0 | 53 => 22 | 55 => 146 | 4 => 4 | 46 => 139 | 45 => 138 | 50 => 89 | 5 => 5 | 9 => 9 | 66 => 168 | 70 => 172 | 76 => 189 | 77 => 160 | n => n, fun | n => n⟩
end Go.Proofs

namespace Go.Proofs.YtddageahmgaigaaGreat
open Go.RowKit Go.Sort

section
variable {α : Type} [Inhabited α] {enc : α → List Value} {k : Nat}

theorem flatK_eq (hk : ∀ x, (enc x).length = k) (d : Array α) : (flatK enc k d).toList = (d.toList.map enc).flatten := by
  have hl : ∀ c ∈ d.toList.map enc, c.length = k := by
    intro c hc
    obtain ⟨x, _, rfl⟩ := List.mem_map.1 hc
    exact hk x
  apply List.ext_getElem?
  intro j
  by_cases c : j < d.size * k
  · have k0 : 0 < k := by rcases Nat.eq_zero_or_pos k with e | e; · subst e; simp at c
                          · exact e
    have hi : j / k < d.size := Nat.div_lt_of_lt_mul (by rwa [Nat.mul_comm])
    have hm := Nat.mod_lt j k0
    have hd : j / k * k + j % k = j := Nat.div_add_mod' j k
    have e1 := flat_get (k := k) (d.toList.map enc) hl (j / k) (by simpa using hi) (j % k) ((enc d[j / k]!)[j % k]!) (by
      simp only [List.getElem_map, Array.getElem_toList]
      rw [getElem!_pos d _ hi, getElem!_pos _ _ (by rw [hk]; exact hm)]
      exact List.getElem?_eq_getElem (by rw [hk]; exact hm))
    rw [hd] at e1
    rw [e1, Array.getElem?_toList, Array.getElem?_eq_getElem (by simpa using c)]
    have := get_flatK enc k d j c
    rw [getElem!_pos _ _ (by simpa using c)] at this
    rw [this]
  · rw [List.getElem?_eq_none (by simp; omega), List.getElem?_eq_none (by rw [flat_len _ hl]; simp; omega)]

theorem own_holds (hk : ∀ x, (enc x).length = k) {w : World} {base : Nat} {e : TypeId} {g cap : Nat} {l : List α} (h : w.ownsRow base e k (.slice (some ⟨g, 0, none⟩) l.length cap) l.length (l.map enc).flatten) :
    HoldsK enc k w g 0 l.toArray := by
  rcases own_cases h with ⟨e, _⟩ | ⟨g', cap', cur, e', h1, h2, h3, h4, h5, h6, h7⟩
  · cases e
  · simp only [Value.slice.injEq, Option.some.injEq, Addr.mk.injEq, and_true, true_and] at e'
    obtain ⟨e1, e3⟩ := e'
    subst e1 e3
    intro j hj
    rw [size_flatK] at hj
    have hj' : j < l.length * k := by simpa using hj
    refine ⟨?_, blk_free h3 _⟩
    rw [Nat.zero_add]
    refine blk_cell h3 ?_
    have e2 : (flatK enc k l.toArray).toList[j]? = some (flatK enc k l.toArray)[j]! := by
      rw [Array.getElem?_toList, Array.getElem?_eq_getElem (by simpa using hj'), getElem!_pos _ _ (by simpa using hj')]
    rw [flatK_eq hk] at e2
    simp only at e2
    rw [← h7, List.getElem?_take, if_pos hj'] at e2
    simpa using e2

theorem heap_sort {w : World} {g m : Nat} {d' : Array α} {os : Array Obj} : ∀ i, i < w.heap.size → i ≠ g → (sortWorldK enc k w g 0 m d' os).heap[i]? = w.heap[i]? := by
  intro i hi hne
  show (w.heap.modify g (onCells (putCells id 0 (flatK enc k d'))) ++ os)[i]? = _
  rw [Array.getElem?_append_left (by simpa using hi), Array.getElem?_modify, if_neg (fun h => hne h.symm)]

theorem own_sorted (hk : ∀ x, (enc x).length = k) {w : World} {base : Nat} {e : TypeId} {g cap : Nat} {l : List α} (h : w.ownsRow base e k (.slice (some ⟨g, 0, none⟩) l.length cap) l.length (l.map enc).flatten)
    {m : Nat} {d' : Array α} {os : Array Obj} (hs : d'.size = l.length) :
    (sortWorldK enc k w g 0 m d' os).ownsRow base e k (.slice (some ⟨g, 0, none⟩) l.length cap) l.length (d'.toList.map enc).flatten ∧ w.grownBy (sortWorldK enc k w g 0 m d' os) (some g) := by
  have hl : ∀ c ∈ d'.toList.map enc, c.length = k := by
    intro c hc
    obtain ⟨x, _, rfl⟩ := List.mem_map.1 hc
    exact hk x
  rcases own_cases h with ⟨e, _⟩ | ⟨g', cap', cur, e', h1, h2, h3, h4, h5, h6, h7⟩
  · cases e
  · simp only [Value.slice.injEq, Option.some.injEq, Addr.mk.injEq, and_true, true_and] at e'
    obtain ⟨e1, e3⟩ := e'
    subst e1 e3
    have hb : (sortWorldK enc k w g 0 m d' os).heap[g]? = some (.cells (putCells id 0 (flatK enc k d') cur) e (0, 0)) := by
      show (w.heap.modify g (onCells (putCells id 0 (flatK enc k d'))) ++ os)[g]? = _
      rw [Array.getElem?_append_left (by simpa using h2), Array.getElem?_modify, if_pos rfl, h3]
      rfl
    refine ⟨⟨by rw [flat_len _ hl]; simp [hs], .inr ⟨g, cap, _, rfl, h1, hb, h4, h5, by simpa [putCells] using h6, ?_⟩⟩, rfl, rfl, rfl, ?_, fun i hi hne => heap_sort i hi (fun e => hne (by rw [e]))⟩
    · rw [← flatK_eq hk]
      apply List.ext_getElem?
      intro j
      rw [List.getElem?_take]
      by_cases c : j < l.length * k
      · have cc : j < cur.size := by rw [h6]; exact Nat.lt_of_lt_of_le c (Nat.mul_le_mul_right _ h4)
        rw [if_pos c]
        simp only [putCells, Array.getElem?_toList, Array.getElem?_mapIdx, Array.getElem?_eq_getElem cc, Option.map_some, Nat.zero_le, true_and, Nat.zero_add, size_flatK, hs, Nat.sub_zero, id]
        rw [if_pos c, Array.getElem?_eq_getElem (by rw [size_flatK, hs]; exact c), getElem!_pos _ _ (by rw [size_flatK, hs]; exact c)]
      · rw [if_neg c, List.getElem?_eq_none (by simp [hs]; omega)]
    · show _ ≤ (w.heap.modify g (onCells (putCells id 0 (flatK enc k d'))) ++ os).size
      simp
end

theorem sorted_list {α : Type} [Inhabited α] {lt : α → α → Bool} {l : List α} {d' : Array α} (hp : PermIn 0 l.toArray.size l.toArray d') (hs : SortedIn lt 0 l.toArray.size d') :
    d'.size = l.length ∧ d'.toList.Perm l ∧ d'.toList.Pairwise fun a b => lt b a = false := by
  obtain ⟨h1, _, h3⟩ := hp
  have h1 : d'.size = l.length := by simpa using h1
  refine ⟨h1, ?_, ?_⟩
  · have e1 : d'.extract 0 l.toArray.size = d' := by rw [List.size_toArray, ← h1]; exact Array.extract_size
    have e2 : l.toArray.extract 0 l.toArray.size = l.toArray := Array.extract_size
    rw [e1, e2] at h3
    exact h3
  · rw [List.pairwise_iff_getElem]
    intro i j hi hj hij
    have := hs i j (Nat.zero_le _) hij (by simp; simpa [h1] using hj)
    rw [getElem!_pos d' j (by simpa using hj), getElem!_pos d' i (by simpa using hi)] at this
    simpa using this

end Go.Proofs.YtddageahmgaigaaGreat

namespace Go.Proofs.YtddageahmgaigaaGreat
open Go.RowKit

set_option maxHeartbeats 2000000 in
set_option maxRecDepth 100000 in
theorem bits_len0 (w : World) : Calls Tryz.prog 79 #[.int .u64 0] w fun e w' => (∃ x : Int, e = .returned (.int .i64 x)) ∧ w = w' := by
  go_enter Tryz.func79, Tryz.ntmps79
  go_wp2
  go_ret
  exact ⟨⟨_, rfl⟩, rfl⟩

set_option maxHeartbeats 2000000 in
theorem ins_none_lnk (p : Option Addr) (cap : Nat) (fv : Value) (w : World) :
    Calls Tryz.prog 104 #[.slice p 0 cap, .int .i64 0, .int .i64 0, fv] w fun e w' => e = .returned (.tuple #[]) ∧ w = w' := by
  go_enter Tryz.func104, Tryz.ntmps104
  go_wp2_with fail
  refine wp_loop_rounds 1 ?_
  rw [rounds_succ]
  go_wp2_with fail
  go_end0
  exact ⟨rfl, rfl⟩

set_option maxHeartbeats 2000000 in
theorem pdq_none_lnk (p : Option Addr) (cap : Nat) (lim : Int) (fv : Value) (w : World) :
    Calls Tryz.prog 78 #[.slice p 0 cap, .int .i64 0, .int .i64 0, .int .i64 lim, fv] w fun e w' => e = .returned (.tuple #[]) ∧ w = w' := by
  go_enter Tryz.func78, Tryz.ntmps78
  go_wp2_with fail
  refine wp_loop_rounds 1 ?_
  rw [rounds_succ]
  go_wp2_with fail
  refine (ins_none_lnk p cap fv w).mono ?_
  rintro e w' ⟨rfl, rfl⟩
  go_wp2_with fail
  (try simp only [Exit.inBlock, Exit.then]); refine bodyPost_ret (results_none rfl _ _ _) rfl ?_
  exact ⟨rfl, rfl⟩

set_option maxHeartbeats 2000000 in
theorem sort_none_lnk (p : Option Addr) (cap : Nat) (fv : Value) (w : World) :
    Calls Tryz.prog 40 #[.slice p 0 cap, fv] w fun e w' => e = .returned (.tuple #[]) ∧ w = w' := by
  go_enter Tryz.func40, Tryz.ntmps40
  go_wp2_with fail
  have hl : Calls Tryz.prog 79 #[.int .u64 0] w fun e w' => (∃ x : Int, e = .returned (.int .i64 x)) ∧ w = w' := bits_len0 w
  refine hl.mono ?_
  rintro e w' ⟨⟨x, rfl⟩, rfl⟩
  go_wp2_with fail
  refine (pdq_none_lnk p cap x fv w).mono ?_
  rintro e w' ⟨rfl, rfl⟩
  go_wp2_with fail
  go_end0
  exact ⟨rfl, rfl⟩

end Go.Proofs.YtddageahmgaigaaGreat
