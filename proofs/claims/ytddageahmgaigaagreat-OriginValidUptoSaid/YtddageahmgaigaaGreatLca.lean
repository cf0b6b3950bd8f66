import Derived.Test.YtddageahmgaigaaGreatFle
import Derived.Test.YtddageahmgaigaaGreatSla
import Derived.Deep.DeepCutAuto
namespace Go.Proofs.YtddageahmgaigaaGreat
open Go.RowKit

set_option maxHeartbeats 1000000 in
theorem hasPrefix_any (t : Int) (w : World) : Calls Tryz.prog 151 #[.int .i64 t] w fun e w' => e = .returned (.bool (hasPfx t)) ∧ w = w' := by
  by_cases h : hasPfx t = true
  · rw [h]; exact hasPrefix_calls t h w
  · have h' : hasPfx t = false := by simpa using h
    rw [h']
    unfold hasPfx at h'
    simp only [Bool.or_eq_false_iff] at h'
    obtain ⟨⟨h2, h3⟩, h5⟩ := h'
    clear h
    go_enter Tryz.func151, Tryz.ntmps151
    go_wp2_with fail
    go_ret
    exact ⟨rfl, rfl⟩

def IxPost (w : World) (l : List Int) (x : Int) (e : Ending) (w' : World) : Prop := ∃ i : Int, e = .returned (.int .i64 i) ∧ decide (0 ≤ i) = decide (x ∈ l) ∧ w = w'

set_option maxHeartbeats 2000000 in
theorem index_int (l : List Int) (a : Option Addr) (cap : Nat) (x : Int) (w : World) (hl : l.length ≤ 9223372036854775807) (hc : 0 < l.length → ∃ b off, a = some ⟨b, off, none⟩ ∧ ∀ i (h : i < l.length), w.cell? ⟨b, off + i, none⟩ = some (.int .i64 l[i])) :
    Calls Tryz.prog 174 #[.slice a l.length cap, .int .i64 x] w (IxPost w l x) := by
  have HC := Lib.hid hc
  clear hc
  go_enter Tryz.func174, Tryz.ntmps174
  go_wp2_with fail
  go_loop [8] (fun ix => ∃ k : Nat, ix = .int .i64 k ∧ k ≤ l.length ∧ Hid (x ∉ l.take k)) (fun ix => l.length - (intOf ix).toNat)
  case atStart => exact ⟨0, rfl, Nat.zero_le _, Lib.hid (by simp)⟩
  case round =>
    obtain ⟨k, rfl, hk, R⟩ := hrel
    by_cases c : k < l.length
    · obtain ⟨b, off, rfl, hcc⟩ := HC.out (by omega)
      have d := hcc k c
      have i1 : (k : Int) < (l.length : Int) := by omega
      have YES : Hid (x = l[k] → decide ((0 : Int) ≤ (k : Int)) = decide (x ∈ l)) := Lib.hid (fun h => by
        have : x ∈ l := by rw [h]; exact List.getElem_mem c
        simp [this])
      have NO : Hid (¬ x = l[k] → x ∉ l.take (k + 1)) := Lib.hid (fun h hm => by
        rw [List.take_succ_eq_append_getElem c] at hm
        rcases List.mem_append.1 hm with hm | hm
        · exact R.out hm
        · exact h (List.mem_singleton.1 hm))
      clear hcc
      generalize l[k] = z at *
      by_cases q : x = z
      · have q1 : (x == z) = true := by simpa using q
        have FI := Lib.hid (YES.out q)
        clear q YES NO
        go_wp2_with fail
        go_ret
        exact ⟨_, rfl, FI.out, rfl⟩
      · have q1 : (x == z) = false := by simpa using q
        have NX := Lib.hid (NO.out q)
        clear q YES NO
        go_wp2_with fail
        go_round
        case rel => exact ⟨k + 1, by go_num, c, NX⟩
        case measure => simp [intOf]; omega
    · have ek : k = l.length := by omega
      have FI : Hid (decide ((0 : Int) ≤ -1) = decide (x ∈ l)) := Lib.hid (by
        have h := R.out; rw [ek, List.take_length] at h; simp [h])
      clear R
      go_wp2_with fail
      go_ret
      exact ⟨_, rfl, FI.out, rfl⟩

set_option maxHeartbeats 1000000 in
theorem contains_int (l : List Int) (a : Option Addr) (cap : Nat) (x : Int) (w : World) (hl : l.length ≤ 9223372036854775807) (hc : 0 < l.length → ∃ b off, a = some ⟨b, off, none⟩ ∧ ∀ i (h : i < l.length), w.cell? ⟨b, off + i, none⟩ = some (.int .i64 l[i])) :
    Calls Tryz.prog 154 #[.slice a l.length cap, .int .i64 x] w fun e w' => e = .returned (.bool (decide (x ∈ l))) ∧ w = w' := by
  have IC := Lib.hid (index_int l a cap x w hl hc)
  clear hc hl
  unfold IxPost at IC
  generalize decide (x ∈ l) = r at *
  generalize l.length = n at *
  go_enter Tryz.func154, Tryz.ntmps154
  go_wp2_with fail
  refine IC.out.mono ?_
  rintro e w1 ⟨i, rfl, hi, rfl⟩
  have HI := Lib.hid hi
  clear hi IC
  go_wp2_with fail
  go_ret
  exact ⟨by rw [← HI.out]; rfl, rfl⟩

set_option maxHeartbeats 2000000 in
theorem index_u32 (l : List Int) (a : Option Addr) (cap : Nat) (x : Int) (w : World) (hl : l.length ≤ 9223372036854775807) (hc : 0 < l.length → ∃ b off, a = some ⟨b, off, none⟩ ∧ ∀ i (h : i < l.length), w.cell? ⟨b, off + i, none⟩ = some (.int .u32 l[i])) :
    Calls Tryz.prog 145 #[.slice a l.length cap, .int .u32 x] w (IxPost w l x) := by
  have HC := Lib.hid hc
  clear hc
  go_enter Tryz.func145, Tryz.ntmps145
  go_wp2_with fail
  go_loop [8] (fun ix => ∃ k : Nat, ix = .int .i64 k ∧ k ≤ l.length ∧ Hid (x ∉ l.take k)) (fun ix => l.length - (intOf ix).toNat)
  case atStart => exact ⟨0, rfl, Nat.zero_le _, Lib.hid (by simp)⟩
  case round =>
    obtain ⟨k, rfl, hk, R⟩ := hrel
    by_cases c : k < l.length
    · obtain ⟨b, off, rfl, hcc⟩ := HC.out (by omega)
      have d := hcc k c
      have i1 : (k : Int) < (l.length : Int) := by omega
      have YES : Hid (x = l[k] → decide ((0 : Int) ≤ (k : Int)) = decide (x ∈ l)) := Lib.hid (fun h => by
        have : x ∈ l := by rw [h]; exact List.getElem_mem c
        simp [this])
      have NO : Hid (¬ x = l[k] → x ∉ l.take (k + 1)) := Lib.hid (fun h hm => by
        rw [List.take_succ_eq_append_getElem c] at hm
        rcases List.mem_append.1 hm with hm | hm
        · exact R.out hm
        · exact h (List.mem_singleton.1 hm))
      clear hcc
      generalize l[k] = z at *
      by_cases q : x = z
      · have q1 : (x == z) = true := by simpa using q
        have FI := Lib.hid (YES.out q)
        clear q YES NO
        go_wp2_with fail
        go_ret
        exact ⟨_, rfl, FI.out, rfl⟩
      · have q1 : (x == z) = false := by simpa using q
        have NX := Lib.hid (NO.out q)
        clear q YES NO
        go_wp2_with fail
        go_round
        case rel => exact ⟨k + 1, by go_num, c, NX⟩
        case measure => simp [intOf]; omega
    · have ek : k = l.length := by omega
      have FI : Hid (decide ((0 : Int) ≤ -1) = decide (x ∈ l)) := Lib.hid (by
        have h := R.out; rw [ek, List.take_length] at h; simp [h])
      clear R
      go_wp2_with fail
      go_ret
      exact ⟨_, rfl, FI.out, rfl⟩

set_option maxHeartbeats 1000000 in
theorem contains_u32 (l : List Int) (a : Option Addr) (cap : Nat) (x : Int) (w : World) (hl : l.length ≤ 9223372036854775807) (hc : 0 < l.length → ∃ b off, a = some ⟨b, off, none⟩ ∧ ∀ i (h : i < l.length), w.cell? ⟨b, off + i, none⟩ = some (.int .u32 l[i])) :
    Calls Tryz.prog 103 #[.slice a l.length cap, .int .u32 x] w fun e w' => e = .returned (.bool (decide (x ∈ l))) ∧ w = w' := by
  have IC := Lib.hid (index_u32 l a cap x w hl hc)
  clear hc hl
  unfold IxPost at IC
  generalize decide (x ∈ l) = r at *
  generalize l.length = n at *
  go_enter Tryz.func103, Tryz.ntmps103
  go_wp2_with fail
  refine IC.out.mono ?_
  rintro e w1 ⟨i, rfl, hi, rfl⟩
  have HI := Lib.hid hi
  clear hi IC
  go_wp2_with fail
  go_ret
  exact ⟨by rw [← HI.out]; rfl, rfl⟩

set_option maxHeartbeats 1000000 in
theorem own_calls (w : World) (x : Lsa) (bb : Nat) (hb : w.heap[bb]? = some (.cells (lsaE x).toArray 42 (0, 0))) (l : List Int) (hl : l.length ≤ 9223372036854775807) (a : Option Addr) (cap : Nat) (hc : 0 < l.length → ∃ b off, a = some ⟨b, off, none⟩ ∧ ∀ i (h : i < l.length), w.cell? ⟨b, off + i, none⟩ = some (.int .i64 l[i])) :
    Calls Tryz.prog 153 #[.slice a l.length cap, .pointer (some ⟨bb, 0, none⟩)] w fun e w' => e = .returned (.bool (decide (x.typ ∈ l))) ∧ w = w' := by
  have CC := Lib.hid (contains_int l a cap x.typ w hl hc)
  have c0 : w.cell? ⟨bb, 0, none⟩ = some (.int .i64 x.typ) := blk_cell hb rfl
  clear hc hb hl
  generalize decide (x.typ ∈ l) = r at *
  generalize x.typ = t at *
  generalize l.length = n at *
  go_enter Tryz.func153, Tryz.ntmps153
  go_wp2_with fail
  refine CC.out.mono ?_
  rintro e w1 ⟨rfl, rfl⟩
  go_wp2_with fail
  go_ret
  exact ⟨rfl, rfl⟩

end Go.Proofs.YtddageahmgaigaaGreat
