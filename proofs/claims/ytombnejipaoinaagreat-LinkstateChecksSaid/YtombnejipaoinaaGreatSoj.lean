/-
  slices.Sort of []uint32: less, insertion.
-/
/-
  slices.Sort of []uint32: the heap's sift.
-/
/-
  slices.Sort of []uint32: the heap's sort.
-/
/-
  slices.Sort of []uint32: a range turned round.
-/
/-
  slices.Sort of []uint32: the pivot's choice.
-/
/-
  slices.Sort of []uint32: medians, the pivot.
-/
/-
  slices.Sort of []uint32: the pivot's choice.
-/
/-
  slices.Sort of []uint32: the partition of equals.
-/
/-
  slices.Sort of []uint32: the partition of equals, whole.
-/
/-
  slices.Sort of []uint32: the partition of equals, the function.
-/
import Derived.Test.YtombnejipaoinaaGreatLeaf
import Derived.Test.YtombnejipaoinaaGreatBit
import Derived.Sort.WalkA
import Derived.BigQuiet
import Derived.CellFam
import Derived.IntWalk
import Derived.Sort.WalkB2
import Derived.BigRegion
import Derived.Deep.DeepCutAuto
import Derived.Sort.Walk7
import Derived.Sort.LotD4
import Derived.Sort.WalkC
namespace Go.Proofs.YtombnejipaoinaaGreat
open Go.RowKit Go.Sort

set_option maxHeartbeats 1000000 in
theorem isNaN32 (x : Int) (w : World) : Calls Tryz.prog 51 #[.int .u32 x] w fun e w' => e = .returned (.bool false) ∧ w' = w := by
  go_enter Tryz.func51, Tryz.ntmps51
  go_wp2_with fail
  go_ret
  exact ⟨rfl, by first | rfl | trivial⟩

set_option maxHeartbeats 1000000 in
theorem less32 (x y : Int) (w : World) : Calls Tryz.prog 122 #[.int .u32 x, .int .u32 y] w fun e w' => e = .returned (.bool (ltInt x y)) ∧ w' = w := by
  go_enter Tryz.func122, Tryz.ntmps122
  unfold ltInt
  by_cases h : x < y
  · have d : decide (x < y) = true := decide_eq_true h
    go_wp2_with (go_at_call 51; refine (isNaN32 _ _).mono ?_; rintro e w' ⟨rfl, rfl⟩)
    go_ret
    exact ⟨by rw [d]; rfl, by first | rfl | trivial⟩
  · have d : decide (x < y) = false := decide_eq_false h
    go_wp2_with (go_at_call 51; refine (isNaN32 _ _).mono ?_; rintro e w' ⟨rfl, rfl⟩)
    go_ret
    exact ⟨by rw [d]; rfl, by first | rfl | trivial⟩

abbrev eU : Int → Value := Value.int .u32
/-- the row d stands at the place; nothing else was changed -/
def Put (w0 : World) (blk off : Nat) (d : Array Int) (w : World) : Prop := ∃ n, w = putRow eU (Sort.ahead w0 n) blk off d
theorem Put.refl {w : World} {blk off : Nat} {d : Array Int} (h : Holds eU w blk off d) : Put w blk off d w := ⟨0, (putRow_self eU w blk off d h).symm⟩
theorem Put.cell {w0 w : World} {blk off : Nat} {d0 d : Array Int} (h : Put w0 blk off d w) (hH : Holds eU w0 blk off d0) (hs : d.size = d0.size) (j : Nat) (hj : j < d0.size) : w.cell? ⟨blk, off + j, none⟩ = some (.int .u32 d[j]!) := by
  obtain ⟨n, rfl⟩ := h
  exact cell?_putRow eU _ _ _ d0 d (holds_ahead eU _ _ _ _ _ hH) hs j (by omega)
theorem Put.free {w0 w : World} {blk off : Nat} {d0 d : Array Int} (h : Put w0 blk off d w) (hH : Holds eU w0 blk off d0) (j : Nat) (hj : j < d0.size) : w.frozen? ⟨blk, off + j, none⟩ = false := by
  obtain ⟨n, rfl⟩ := h
  rw [frozen?_putRow]
  exact (hH j hj).2
theorem Put.draw {w0 w : World} {blk off : Nat} {d : Array Int} (h : Put w0 blk off d w) (q : Nat) : Put w0 blk off d (w.drewN q) := by
  obtain ⟨n, rfl⟩ := h
  exact ⟨n + q, by rw [← ahead_ahead, putRow_ahead eU _ q]; rfl⟩
theorem Put.set {w0 w : World} {blk off : Nat} {d : Array Int} (h : Put w0 blk off d w) {i : Nat} (hi : i < d.size) (x : Int) : Put w0 blk off (d.setIfInBounds i x) (w.setCell ⟨blk, off + i, none⟩ (.int .u32 x)) := by
  obtain ⟨n, rfl⟩ := h
  exact ⟨n, (putRow_set eU _ blk off d i x hi)⟩
theorem Put.swap {w0 w : World} {blk off : Nat} {d : Array Int} (h : Put w0 blk off d w) {i j : Nat} (hi : i < d.size) (hj : j < d.size) : Put w0 blk off (swp d i j) ((w.setCell ⟨blk, off + i, none⟩ (.int .u32 d[j]!)).setCell ⟨blk, off + j, none⟩ (.int .u32 d[i]!)) :=
  (h.set hi d[j]!).set (by rw [Array.size_setIfInBounds]; exact hj) d[i]!
theorem Put.holds {w0 w : World} {blk off : Nat} {d0 d : Array Int} (h : Put w0 blk off d w) (hH : Holds eU w0 blk off d0) (hs : d.size = d0.size) : Holds eU w blk off d :=
  fun j hj => ⟨h.cell hH hs j (by omega), h.free hH j (by omega)⟩
theorem Put.trans {w0 w1 w2 : World} {blk off : Nat} {d1 d2 : Array Int} (h : Put w0 blk off d1 w1) (k : Put w1 blk off d2 w2) (hs : d2.size = d1.size) : Put w0 blk off d2 w2 := by
  obtain ⟨n, rfl⟩ := h
  obtain ⟨m, rfl⟩ := k
  exact ⟨n + m, putRow_ahead_putRow eU w0 n m blk off d1 d2 hs⟩

def SortsTo (w : World) (blk off : Nat) (d : Array Int) (e : Ending) (w' : World) : Prop := e = .returned (.tuple #[]) ∧ Put w blk off d w'

set_option maxHeartbeats 4000000 in
set_option maxRecDepth 100000 in
theorem insertion32 (blk off cap a b : Nat) (d : Array Int) (w : World) (hH : Holds eU w blk off d) (hab : a ≤ b) (hb : b ≤ d.size) (hsz : d.size < 4611686018427387904) :
    Calls Tryz.prog 116 #[.slice (some ⟨blk, off, none⟩) d.size cap, .int .i64 a, .int .i64 b] w (SortsTo w blk off (Sort.insertionSort ltInt d a b)) := by
  have HH := Lib.hid hH
  obtain ⟨n, hn⟩ : ∃ n, d.size = n := ⟨_, rfl⟩
  have HN := Lib.hid hn
  have LS := Lib.hid less32
  rw [hn] at hb hsz ⊢
  clear hH hn
  go_enter Tryz.func116, Tryz.ntmps116
  go_wp2_with fail
  go_loopw [6] (fun vi wr => ∃ (i : Nat) (di : Array Int), vi = .int .i64 i ∧ a < i ∧ i ≤ b + 1 ∧ Hid (di.size = n ∧ Put w blk off di wr ∧ insOuter ltInt a b i di = insertionSort ltInt d a b)) (fun vi _ => b + 1 - (intOf vi).toNat)
  case atStart => exact ⟨a + 1, d, by go_num, by omega, by omega, Lib.hid ⟨HN.out, Put.refl HH.out, rfl⟩⟩
  case round =>
    obtain ⟨i, di, rfl, hai, hib, R⟩ := hrel
    by_cases c : i < b
    · go_wp2_with fail
      go_loopw [7] (fun vj wr2 => ∃ (j : Nat) (dj : Array Int), vj = .int .i64 j ∧ a ≤ j ∧ j ≤ i ∧ Hid (dj.size = n ∧ Put w blk off dj wr2 ∧ insInner ltInt a j dj = insInner ltInt a i di)) (fun vj _ => (intOf vj).toNat)
      case atStart => exact ⟨i, di, rfl, by omega, Nat.le_refl _, Lib.hid ⟨R.out.1, R.out.2.1, rfl⟩⟩
      case round =>
        obtain ⟨j, dj, rfl, haj, hji, S⟩ := hrel
        obtain ⟨W, eW⟩ : ∃ W, W = wr := ⟨_, rfl⟩
        subst eW
        have END : Hid ((j ≤ a ∨ ltInt dj[j]! dj[j - 1]! = false) → ∀ q, dj.size = n ∧ Put w blk off dj (W.drewN q) ∧ insOuter ltInt a b (i + 1) dj = insertionSort ltInt d a b) := Lib.hid (fun h q => ⟨S.out.1, S.out.2.1.draw q, by rw [← R.out.2.2, insOuter_go _ _ _ _ _ c, ← S.out.2.2, insInner_stop _ _ _ _ h]⟩)
        by_cases hj : a < j
        · have x0 : W.cell? ⟨blk, off + j, none⟩ = some (.int .u32 dj[j]!) := S.out.2.1.cell HH.out (by rw [S.out.1, HN.out]) j (by rw [HN.out]; omega)
          have x1 : W.cell? ⟨blk, off + (j - 1), none⟩ = some (.int .u32 dj[j - 1]!) := S.out.2.1.cell HH.out (by rw [S.out.1, HN.out]) (j - 1) (by rw [HN.out]; omega)
          have f0 : W.frozen? ⟨blk, off + j, none⟩ = false := S.out.2.1.free HH.out j (by rw [HN.out]; omega)
          have f1 : W.frozen? ⟨blk, off + (j - 1), none⟩ = false := S.out.2.1.free HH.out (j - 1) (by rw [HN.out]; omega)
          have SW : Hid (ltInt dj[j]! dj[j - 1]! = true → ∀ q, (swp dj j (j - 1)).size = n ∧ Put w blk off (swp dj j (j - 1)) (((W.drewN q).setCell ⟨blk, off + j, none⟩ (.int .u32 dj[j - 1]!)).setCell ⟨blk, off + (j - 1), none⟩ (.int .u32 dj[j]!)) ∧ insInner ltInt a (j - 1) (swp dj j (j - 1)) = insInner ltInt a i di) := Lib.hid (fun h q => ⟨by rw [size_swp]; exact S.out.1, (S.out.2.1.draw q).swap (by rw [S.out.1]; omega) (by rw [S.out.1]; omega), by rw [← S.out.2.2, insInner_go ltInt a j dj hj h]⟩)
          clear S R
          generalize dj[j]! = p at *
          generalize dj[j - 1]! = r at *
          obtain ⟨k, rfl⟩ : ∃ k, j = k + 1 := ⟨j - 1, by omega⟩
          rw [Nat.add_sub_cancel] at *
          have d1 : decide ((a : Int) < (k : Int) + 1) = true := decide_eq_true (by omega)
          have t1 : ((k : Int) + 1).toNat = k + 1 := by omega
          have t2 : ((k : Int)).toNat = k := by omega
          have s1 : IntKind.i64.wrap ((k : Int) + 1 - 1) = (k : Int) := by rw [IntWalk.i64_in _ (by omega)]; omega
          cases hl : ltInt p r with
          | true =>
            have NX := Lib.hid (SW.out hl)
            have L1 := Lib.hid (fun W => LS.out p r W)
            rw [hl] at L1
            clear SW END LS hl
            go_wp2_with fail
            go_quiet (first | (go_at_call 122; refine Calls.quiet_of_same (L1.out _)))
            go_wp2_with fail
            go_region
            all_goals go_wp2_with fail
            go_roundw
            case rel => exact ⟨k, _, by go_num, by omega, by omega, Lib.hid (NX.out _)⟩
            case measure => simp [intOf]
          | false =>
            have NX := Lib.hid (END.out (.inr hl))
            have L1 := Lib.hid (fun W => LS.out p r W)
            rw [hl] at L1
            clear SW END LS hl
            go_wp2_with fail
            go_quiet (first | (go_at_call 122; refine Calls.quiet_of_same (L1.out _)))
            go_wp2_with fail
            go_roundw
            case rel => exact ⟨i + 1, _, by go_num, by omega, by omega, Lib.hid (NX.out _)⟩
            case measure => simp [intOf]; omega
        · have NX := Lib.hid (END.out (.inl (by omega)))
          have d1 : decide ((a : Int) < (j : Int)) = false := decide_eq_false (by omega)
          clear END
          go_wp2_with fail
          go_quiet (first | (go_at_call 122; refine Calls.quiet_of_same (LS.out _ _ _)))
          go_wp2_with fail
          go_roundw
          case rel => exact ⟨i + 1, _, by go_num, by omega, by omega, Lib.hid (NX.out _)⟩
          case measure => simp [intOf]; omega
    · have FIN : Hid (Put w blk off (insertionSort ltInt d a b) wr) := Lib.hid (by rw [← R.out.2.2, insOuter_stop _ _ _ _ _ c]; exact R.out.2.1)
      go_wp2_with fail
      go_end0
      exact ⟨rfl, FIN.out⟩

end Go.Proofs.YtombnejipaoinaaGreat

namespace Go.Proofs.YtombnejipaoinaaGreat
open Go.RowKit Go.Sort

theorem swp_self_size {d : Array Int} {n i j : Nat} (h : d.size = n) : (swp d i j).size = n := by rw [size_swp]; exact h

/-- the row of n stands at the place -/
def PutN (w : World) (blk off n : Nat) (d : Array Int) (W : World) : Prop := d.size = n ∧ Put w blk off d W
theorem PutN.draw {w W : World} {blk off n : Nat} {d : Array Int} (h : PutN w blk off n d W) (q : Nat) : PutN w blk off n d (W.drewN q) := ⟨h.1, h.2.draw q⟩
theorem PutN.swapG {w W : World} {blk off n : Nat} {d : Array Int} (h : PutN w blk off n d W) {G : Nat → Int} (hG : ∀ t, G t = d[t]!) {i j : Nat} (hi : i < n) (hj : j < n) (q : Nat) : PutN w blk off n (swp d i j) (((W.drewN q).setCell ⟨blk, off + i, none⟩ (.int .u32 (G j))).setCell ⟨blk, off + j, none⟩ (.int .u32 (G i))) :=
  ⟨swp_self_size h.1, by rw [hG, hG]; exact (h.2.draw q).swap (by rw [h.1]; exact hi) (by rw [h.1]; exact hj)⟩

set_option maxHeartbeats 8000000 in
set_option maxRecDepth 100000 in
theorem sift32 (blk off cap lo hi F : Nat) (d : Array Int) (w : World) (hH : Holds eU w blk off d) (hlo : lo ≤ hi) (hb : F + hi ≤ d.size) (hsz : d.size < 4611686018427387904) :
    Calls Tryz.prog 179 #[.slice (some ⟨blk, off, none⟩) d.size cap, .int .i64 lo, .int .i64 hi, .int .i64 F] w (SortsTo w blk off (Sort.siftDown ltInt hi F lo d)) := by
  have HH := Lib.hid hH
  obtain ⟨n, hn⟩ : ∃ n, d.size = n := ⟨_, rfl⟩
  have HN := Lib.hid hn
  have LS := Lib.hid less32
  rw [hn] at hb hsz ⊢
  clear hH hn
  go_enter Tryz.func179, Tryz.ntmps179
  go_wp2_with fail
  go_loopw [8] (fun vi wr => ∃ (r : Nat) (dr : Array Int), vi = .int .i64 r ∧ r ≤ hi ∧ Hid (PutN w blk off n dr wr ∧ Sort.siftDown ltInt hi F r dr = Sort.siftDown ltInt hi F lo d)) (fun vi _ => hi - (intOf vi).toNat)
  case atStart => exact ⟨lo, d, rfl, hlo, Lib.hid ⟨⟨HN.out, Put.refl HH.out⟩, rfl⟩⟩
  case round =>
    obtain ⟨r, dr, rfl, hr, R⟩ := hrel
    obtain ⟨W, eW⟩ : ∃ W, W = wr := ⟨_, rfl⟩
    subst eW
    by_cases c0 : hi ≤ 2 * r + 1
    · have FIN : Hid (Put w blk off (Sort.siftDown ltInt hi F lo d) W) := Lib.hid (by rw [← R.out.2, sd_end ltInt dr c0]; exact R.out.1.2)
      have z0 : (hi : Int) ≤ 2 * (r : Int) + 1 := by omega
      clear R
      go_wp2_with fail
      go_end0
      exact ⟨rfl, FIN.out⟩
    have z0 : ¬ ((hi : Int) ≤ 2 * (r : Int) + 1) := by omega
    have SZ : Hid (dr.size = d.size) := Lib.hid (by rw [R.out.1.1, HN.out])
    obtain ⟨G, hG⟩ : ∃ G : Nat → Int, ∀ t, G t = dr[t]! := ⟨fun t => dr[t]!, fun _ => rfl⟩
    have hcw : ∀ t, t < n → W.cell? ⟨blk, off + t, none⟩ = some (.int .u32 (G t)) := fun t ht => by rw [hG]; exact R.out.1.2.cell HH.out SZ.out t (by rw [HN.out]; exact ht)
    have hfw : ∀ t, t < n → W.frozen? ⟨blk, off + t, none⟩ = false := fun t ht => R.out.1.2.free HH.out t (by rw [HN.out]; exact ht)
    have PS := Lib.hid (fun q => R.out.1.draw q)
    have EQ := Lib.hid R.out.2
    have HG := Lib.hid hG
    clear R hG SZ
    by_cases c1 : 2 * r + 2 < hi
    · have z1 : 2 * (r : Int) + 1 + 1 < (hi : Int) := by omega
      by_cases q1 : ltInt (G (F + 2 * r + 1)) (G (F + 2 * r + 2)) = true
      · --
        go_wp2_with fail
        go_big_quiet (first | (go_at_call 122; refine Calls.quiet_of_same (LS.out _ _ _)))
        go_wp2_with fail
        revert nq; intro nq1
        have hcw2 : ∀ t, t < n → (W.drewN nq1).cell? ⟨blk, off + t, none⟩ = some (.int .u32 (G t)) := hcw
        have hfw2 : ∀ t, t < n → (W.drewN nq1).frozen? ⟨blk, off + t, none⟩ = false := hfw
        have KP1 := Lib.hid (PS.out nq1)
        clear hcw hfw PS
        generalize W.drewN nq1 = W2 at *
        by_cases q2 : ltInt (G (F + r)) (G (F + 2 * r + 2)) = true
        · have EG : Hid (Sort.siftDown ltInt hi F (2 * r + 2) (swp dr (F + r) (F + (2 * r + 2))) = Sort.siftDown ltInt hi F lo d) := Lib.hid (by
            rw [← EQ.out]
            exact (sd_right_go ltInt dr c1 (by rw [← HG.out, ← HG.out, ← Nat.add_assoc, ← Nat.add_assoc]; exact q1) (by rw [← HG.out, ← HG.out, ← Nat.add_assoc]; exact q2)).symm)
          clear EQ
          go_big_quiet (first | (go_at_call 122; refine Calls.quiet_of_same (LS.out _ _ _)))
          go_wp2_with fail
          revert nq; intro nq2
          have hcw3 : ∀ t, t < n → (W2.drewN nq2).cell? ⟨blk, off + t, none⟩ = some (.int .u32 (G t)) := hcw2
          have hfw3 : ∀ t, t < n → (W2.drewN nq2).frozen? ⟨blk, off + t, none⟩ = false := hfw2
          have KP2 := Lib.hid (KP1.out.draw nq2)
          clear hcw2 hfw2 KP1
          generalize W2.drewN nq2 = W3 at *
          have NX := Lib.hid (fun q => KP2.out.swapG HG.out (i := F + r) (j := F + (2 * r + 2)) (by omega) (by omega) q)
          clear KP2
          go_region
          all_goals go_wp2_with fail
          go_roundw
          case rel => exact ⟨2 * r + 2, _, by go_num, by omega, Lib.hid ⟨NX.out 1, EG.out⟩⟩
          case measure => simp [intOf]; omega
        · have FIN : Hid (∀ q, Put w blk off (Sort.siftDown ltInt hi F lo d) (W2.drewN q)) := Lib.hid (fun q => by
            rw [← EQ.out, sd_right_stop ltInt dr c1 (by rw [← HG.out, ← HG.out, ← Nat.add_assoc, ← Nat.add_assoc]; exact q1) (by rw [← HG.out, ← HG.out, ← Nat.add_assoc]; simpa using q2)]
            exact (KP1.out.draw q).2)
          have q3 : ltInt (G (F + r)) (G (F + 2 * r + 2)) = false := by simpa using q2
          clear EQ KP1 q2
          go_big_quiet (first | (go_at_call 122; refine Calls.quiet_of_same (LS.out _ _ _)))
          go_wp2_with fail
          (try simp only [Exit.inBlock, Exit.then]); refine bodyPost_ret (results_none rfl _ _ _) rfl ?_
          exact ⟨rfl, FIN.out _⟩
      · have q4 : ltInt (G (F + 2 * r + 1)) (G (F + 2 * r + 2)) = false := by simpa using q1
        have H1 : Hid (2 * r + 2 < hi → ltInt dr[F + (2 * r + 1)]! dr[F + (2 * r + 2)]! = false) := Lib.hid (fun _ => by rw [← HG.out, ← HG.out, ← Nat.add_assoc, ← Nat.add_assoc]; exact q4)
        clear q1
        go_wp2_with fail
        go_big_quiet (first | (go_at_call 122; refine Calls.quiet_of_same (LS.out _ _ _)))
        go_wp2_with fail
        revert nq; intro nq1
        have hcw2 : ∀ t, t < n → (W.drewN nq1).cell? ⟨blk, off + t, none⟩ = some (.int .u32 (G t)) := hcw
        have hfw2 : ∀ t, t < n → (W.drewN nq1).frozen? ⟨blk, off + t, none⟩ = false := hfw
        have KP1 := Lib.hid (PS.out nq1)
        clear hcw hfw PS
        generalize W.drewN nq1 = W2 at *
        by_cases q2 : ltInt (G (F + r)) (G (F + 2 * r + 1)) = true
        · have EG : Hid (Sort.siftDown ltInt hi F (2 * r + 1) (swp dr (F + r) (F + (2 * r + 1))) = Sort.siftDown ltInt hi F lo d) := Lib.hid (by
            rw [← EQ.out]
            exact (sd_left_go ltInt dr (by omega) H1.out (by rw [← HG.out, ← HG.out, ← Nat.add_assoc]; exact q2)).symm)
          clear EQ
          go_big_quiet (first | (go_at_call 122; refine Calls.quiet_of_same (LS.out _ _ _)))
          go_wp2_with fail
          revert nq; intro nq2
          have hcw3 : ∀ t, t < n → (W2.drewN nq2).cell? ⟨blk, off + t, none⟩ = some (.int .u32 (G t)) := hcw2
          have hfw3 : ∀ t, t < n → (W2.drewN nq2).frozen? ⟨blk, off + t, none⟩ = false := hfw2
          have KP2 := Lib.hid (KP1.out.draw nq2)
          clear hcw2 hfw2 KP1
          generalize W2.drewN nq2 = W3 at *
          have NX := Lib.hid (fun q => KP2.out.swapG HG.out (i := F + r) (j := F + (2 * r + 1)) (by omega) (by omega) q)
          clear KP2
          go_region
          all_goals go_wp2_with fail
          go_roundw
          case rel => exact ⟨2 * r + 1, _, by go_num, by omega, Lib.hid ⟨NX.out 1, EG.out⟩⟩
          case measure => simp [intOf]; omega
        · have FIN : Hid (∀ q, Put w blk off (Sort.siftDown ltInt hi F lo d) (W2.drewN q)) := Lib.hid (fun q => by
            rw [← EQ.out, sd_left_stop ltInt dr (by omega) H1.out (by rw [← HG.out, ← HG.out, ← Nat.add_assoc]; simpa using q2)]
            exact (KP1.out.draw q).2)
          have q3 : ltInt (G (F + r)) (G (F + 2 * r + 1)) = false := by simpa using q2
          clear EQ KP1 q2
          go_big_quiet (first | (go_at_call 122; refine Calls.quiet_of_same (LS.out _ _ _)))
          go_wp2_with fail
          (try simp only [Exit.inBlock, Exit.then]); refine bodyPost_ret (results_none rfl _ _ _) rfl ?_
          exact ⟨rfl, FIN.out _⟩
    · have z1 : decide (2 * (r : Int) + 1 + 1 < (hi : Int)) = false := decide_eq_false (by omega)
      have H1 : Hid (2 * r + 2 < hi → ltInt dr[F + (2 * r + 1)]! dr[F + (2 * r + 2)]! = false) := Lib.hid (fun h => absurd h c1)
      go_wp2_with fail
      go_big_quiet (first | (go_at_call 122; refine Calls.quiet_of_same (LS.out _ _ _)))
      go_wp2_with fail
      revert nq; intro nq1
      have hcw2 : ∀ t, t < n → (W.drewN nq1).cell? ⟨blk, off + t, none⟩ = some (.int .u32 (G t)) := hcw
      have hfw2 : ∀ t, t < n → (W.drewN nq1).frozen? ⟨blk, off + t, none⟩ = false := hfw
      have KP1 := Lib.hid (PS.out nq1)
      clear hcw hfw PS
      generalize W.drewN nq1 = W2 at *
      by_cases q2 : ltInt (G (F + r)) (G (F + 2 * r + 1)) = true
      · have EG : Hid (Sort.siftDown ltInt hi F (2 * r + 1) (swp dr (F + r) (F + (2 * r + 1))) = Sort.siftDown ltInt hi F lo d) := Lib.hid (by
          rw [← EQ.out]
          exact (sd_left_go ltInt dr (by omega) H1.out (by rw [← HG.out, ← HG.out, ← Nat.add_assoc]; exact q2)).symm)
        clear EQ
        go_big_quiet (first | (go_at_call 122; refine Calls.quiet_of_same (LS.out _ _ _)))
        go_wp2_with fail
        revert nq; intro nq2
        have hcw3 : ∀ t, t < n → (W2.drewN nq2).cell? ⟨blk, off + t, none⟩ = some (.int .u32 (G t)) := hcw2
        have hfw3 : ∀ t, t < n → (W2.drewN nq2).frozen? ⟨blk, off + t, none⟩ = false := hfw2
        have KP2 := Lib.hid (KP1.out.draw nq2)
        clear hcw2 hfw2 KP1
        generalize W2.drewN nq2 = W3 at *
        have NX := Lib.hid (fun q => KP2.out.swapG HG.out (i := F + r) (j := F + (2 * r + 1)) (by omega) (by omega) q)
        clear KP2
        go_region
        all_goals go_wp2_with fail
        go_roundw
        case rel => exact ⟨2 * r + 1, _, by go_num, by omega, Lib.hid ⟨NX.out 1, EG.out⟩⟩
        case measure => simp [intOf]; omega
      · have FIN : Hid (∀ q, Put w blk off (Sort.siftDown ltInt hi F lo d) (W2.drewN q)) := Lib.hid (fun q => by
          rw [← EQ.out, sd_left_stop ltInt dr (by omega) H1.out (by rw [← HG.out, ← HG.out, ← Nat.add_assoc]; simpa using q2)]
          exact (KP1.out.draw q).2)
        have q3 : ltInt (G (F + r)) (G (F + 2 * r + 1)) = false := by simpa using q2
        clear EQ KP1 q2
        go_big_quiet (first | (go_at_call 122; refine Calls.quiet_of_same (LS.out _ _ _)))
        go_wp2_with fail
        (try simp only [Exit.inBlock, Exit.then]); refine bodyPost_ret (results_none rfl _ _ _) rfl ?_
        exact ⟨rfl, FIN.out _⟩

end Go.Proofs.YtombnejipaoinaaGreat

namespace Go.Proofs.YtombnejipaoinaaGreat
open Go.RowKit Go.Sort

theorem sift_size (hi F r : Nat) (d : Array Int) : (Sort.siftDown ltInt hi F r d).size = d.size := by
  fun_induction Sort.siftDown ltInt hi F r d <;> simp_all [size_swp]

theorem PutN.holds {w W : World} {blk off n : Nat} {d0 d : Array Int} (h : PutN w blk off n d W) (hH : Holds eU w blk off d0) (hs : d0.size = n) : Holds eU W blk off d := h.2.holds hH (h.1.trans hs.symm)
theorem PutN.trans {w W W' : World} {blk off n : Nat} {d d' : Array Int} (h : PutN w blk off n d W) (k : Put W blk off d' W') (hs : d'.size = d.size) : PutN w blk off n d' W' := ⟨hs.trans h.1, h.2.trans k hs⟩

set_option maxHeartbeats 8000000 in
set_option maxRecDepth 100000 in
theorem heap32 (blk off cap a h : Nat) (d : Array Int) (w : World) (hH : Holds eU w blk off d) (hb : a + h ≤ d.size) (hsz : d.size < 4611686018427387904) :
    Calls Tryz.prog 117 #[.slice (some ⟨blk, off, none⟩) d.size cap, .int .i64 a, .int .i64 ((a : Int) + h)] w (SortsTo w blk off (Sort.heapSort ltInt d a (a + h))) := by
  have HH := Lib.hid hH
  obtain ⟨n, hn⟩ : ∃ n, d.size = n := ⟨_, rfl⟩
  have HN := Lib.hid hn
  have SF := Lib.hid (fun W lo hi (dd : Array Int) (P : PutN w blk off n dd W) (h1 : lo ≤ hi) (h2 : a + hi ≤ n) => (by
    have q := sift32 blk off cap lo hi a dd W (P.holds HH.out HN.out) h1 (by rw [P.1]; exact h2) (by rw [P.1, ← HN.out]; exact hsz)
    rw [P.1] at q
    exact q.mono fun e W' z => (⟨z.1, P.trans z.2 (sift_size _ _ _ _)⟩ : e = .returned (.tuple #[]) ∧ PutN w blk off n (Sort.siftDown ltInt hi a lo dd) W') :
    Calls Tryz.prog 179 #[.slice (some ⟨blk, off, none⟩) n cap, .int .i64 lo, .int .i64 hi, .int .i64 a] W fun e W' => e = .returned (.tuple #[]) ∧ PutN w blk off n (Sort.siftDown ltInt hi a lo dd) W'))
  have e0 : (Sort.heapSort ltInt d a (a + h)) = heapPop ltInt a h (heapBuild ltInt h a ((h - 1) / 2 + 1) d) := by unfold Sort.heapSort; rw [Nat.add_sub_cancel_left]
  rw [e0]
  rw [hn] at hb hsz ⊢
  clear hH hn e0
  have e1 : (a : Int) + (h : Int) - (a : Int) = (h : Int) := by omega
  have e2 : Int.tdiv ((h : Int) - 1) 2 = (((h - 1) / 2 : Nat) : Int) := by
    rcases Nat.eq_zero_or_pos h with z | z
    · subst z; rfl
    · rw [Int.tdiv_eq_ediv_of_nonneg (by omega)]; omega
  obtain ⟨K, hK⟩ : ∃ K, (h - 1) / 2 = K := ⟨_, rfl⟩
  rw [hK] at e2 ⊢
  have KH : K ≤ h := by omega
  clear hK
  go_enter Tryz.func117, Tryz.ntmps117
  go_wp2_with fail
  go_loopw [9] (fun vi wr => ∃ (k : Nat) (dk : Array Int), vi = .int .i64 ((k : Int) - 1) ∧ k ≤ K + 1 ∧ Hid (PutN w blk off n dk wr ∧ heapBuild ltInt h a k dk = heapBuild ltInt h a (K + 1) d)) (fun vi _ => (intOf vi + 1).toNat)
  case atStart => exact ⟨K + 1, d, by go_num, Nat.le_refl _, Lib.hid ⟨⟨HN.out, Put.refl HH.out⟩, rfl⟩⟩
  case round =>
    obtain ⟨k, dk, rfl, hk, R⟩ := hrel
    rcases k with _ | k
    · obtain ⟨dB, hdB⟩ : ∃ dB, heapBuild ltInt h a (K + 1) d = dB := ⟨_, rfl⟩
      have RB : Hid (PutN w blk off n dB wr) := Lib.hid (by have q := R.out; rw [hdB] at q; obtain ⟨q1, q2⟩ := q; rw [← q2]; exact q1)
      have HD := Lib.hid hdB
      clear R hdB hk
      have z1 : ((0 : Nat) : Int) - 1 = -1 := by omega
      rw [z1]
      go_wp2_with fail
      go_loopw [10] (fun vi wr => ∃ (k : Nat) (dk : Array Int), vi = .int .i64 ((k : Int) - 1) ∧ k ≤ h ∧ Hid (PutN w blk off n dk wr ∧ heapPop ltInt a k dk = heapPop ltInt a h dB)) (fun vi _ => (intOf vi + 1).toNat)
      case atStart => exact ⟨h, dB, by go_num, Nat.le_refl _, Lib.hid ⟨RB.out, rfl⟩⟩
      case round =>
        clear RB
        obtain ⟨k, dk, rfl, hk, R⟩ := hrel
        rcases k with _ | k
        · have FIN : Hid (Put w blk off (heapPop ltInt a h (heapBuild ltInt h a (K + 1) d)) wr) := Lib.hid (by rw [HD.out, ← R.out.2]; exact R.out.1.2)
          have z2 : ((0 : Nat) : Int) - 1 = -1 := by omega
          rw [z2]
          clear R
          go_wp2_with fail
          go_end0
          exact ⟨rfl, FIN.out⟩
        · have z2 : ((k + 1 : Nat) : Int) - 1 = (k : Int) := by omega
          rw [z2]
          obtain ⟨W, eW⟩ : ∃ W, W = wr := ⟨_, rfl⟩
          subst eW
          obtain ⟨G, hG⟩ : ∃ G : Nat → Int, ∀ t, G t = dk[t]! := ⟨fun t => dk[t]!, fun _ => rfl⟩
          have SZ : Hid (dk.size = d.size) := Lib.hid (by rw [R.out.1.1, HN.out])
          have hcw : ∀ t, t < n → W.cell? ⟨blk, off + t, none⟩ = some (.int .u32 (G t)) := fun t ht => by rw [hG]; exact R.out.1.2.cell HH.out SZ.out t (by rw [HN.out]; exact ht)
          have hfw : ∀ t, t < n → W.frozen? ⟨blk, off + t, none⟩ = false := fun t ht => R.out.1.2.free HH.out t (by rw [HN.out]; exact ht)
          have NX := Lib.hid (fun q => R.out.1.swapG hG (i := a) (j := a + k) (by omega) (by omega) q)
          have EQ : Hid (heapPop ltInt a k (Sort.siftDown ltInt k a 0 (swp dk a (a + k))) = heapPop ltInt a h dB) := Lib.hid R.out.2
          clear R SZ hG
          rcases Nat.eq_zero_or_pos k with k0 | k0
          · subst k0
            go_wp2_with fail
            go_region
            all_goals go_wp2_with fail
            have PS := Lib.hid (NX.out 1)
            have SF2 := Lib.hid (SF.out _ 0 0 _ PS.out (by omega) (by omega))
            refine SF2.out.mono ?_
            rintro e w5 ⟨rfl, P5⟩
            have N5 := Lib.hid (And.intro P5 EQ.out)
            clear P5 SF2 PS NX EQ
            go_wp2_with fail
            go_roundw
            case rel => exact ⟨0, _, by go_num, by omega, N5⟩
            case measure => simp [intOf]
          · have k1 : ¬ k = 0 := by omega
            go_wp2_with fail
            go_region
            all_goals go_wp2_with fail
            have PS := Lib.hid (NX.out 1)
            have SF2 := Lib.hid (SF.out _ 0 k _ PS.out (by omega) (by omega))
            refine SF2.out.mono ?_
            rintro e w5 ⟨rfl, P5⟩
            have N5 := Lib.hid (And.intro P5 EQ.out)
            clear P5 SF2 PS NX EQ
            go_wp2_with fail
            go_roundw
            case rel => exact ⟨k, _, by go_num, by omega, N5⟩
            case measure => simp [intOf]
    · have z1 : ((k + 1 : Nat) : Int) - 1 = (k : Int) := by omega
      have SF1 := Lib.hid (SF.out wr k h dk R.out.1 (by omega) (by omega))
      rw [z1]
      go_wp2_with fail
      refine SF1.out.mono ?_
      rintro e w2 ⟨rfl, P2⟩
      have NX : Hid (PutN w blk off n (Sort.siftDown ltInt h a k dk) w2 ∧ heapBuild ltInt h a k (Sort.siftDown ltInt h a k dk) = heapBuild ltInt h a (K + 1) d) := Lib.hid ⟨P2, R.out.2⟩
      clear P2 R SF1
      go_wp2_with fail
      go_roundw
      case rel => exact ⟨k, _, by go_num, by omega, NX⟩
      case measure => simp [intOf]

end Go.Proofs.YtombnejipaoinaaGreat

namespace Go.Proofs.YtombnejipaoinaaGreat
open Go.RowKit Go.Sort

theorem rev_go {i j : Nat} (d : Array Int) (h : i < j) : reverseLoop i j d = reverseLoop (i + 1) (j - 1) (swp d i j) := by rw [reverseLoop, if_pos h]
theorem rev_end {i j : Nat} (d : Array Int) (h : ¬ i < j) : reverseLoop i j d = d := by rw [reverseLoop, if_neg h]

set_option maxHeartbeats 8000000 in
set_option maxRecDepth 100000 in
theorem reverse32 (blk off cap a b : Nat) (d : Array Int) (w : World) (hH : Holds eU w blk off d) (hab : a < b) (hb : b ≤ d.size) (hsz : d.size < 4611686018427387904) :
    Calls Tryz.prog 120 #[.slice (some ⟨blk, off, none⟩) d.size cap, .int .i64 a, .int .i64 b] w (SortsTo w blk off (Sort.reverseRange d a b)) := by
  have HH := Lib.hid hH
  obtain ⟨n, hn⟩ : ∃ n, d.size = n := ⟨_, rfl⟩
  have HN := Lib.hid hn
  rw [hn] at hb hsz ⊢
  clear hH hn
  go_enter Tryz.func120, Tryz.ntmps120
  go_wp2_with fail
  go_loopw [6, 7] (fun vi vj wr => ∃ (i j : Nat) (dk : Array Int), vi = .int .i64 i ∧ vj = .int .i64 ((j : Int)) ∧ a ≤ i ∧ i ≤ j + 1 ∧ j < b ∧ Hid (PutN w blk off n dk wr ∧ reverseLoop i j dk = Sort.reverseRange d a b)) (fun vi vj _ => (intOf vj + 1 - intOf vi).toNat)
  case atStart => exact ⟨a, b - 1, d, rfl, by go_num, Nat.le_refl _, by omega, by omega, Lib.hid ⟨⟨HN.out, Put.refl HH.out⟩, rfl⟩⟩
  case round =>
    obtain ⟨i, j, dk, rfl, rfl, hai, hij, hjb, R⟩ := hrel
    by_cases c : i < j
    · obtain ⟨W, eW⟩ : ∃ W, W = wr := ⟨_, rfl⟩
      subst eW
      obtain ⟨G, hG⟩ : ∃ G : Nat → Int, ∀ t, G t = dk[t]! := ⟨fun t => dk[t]!, fun _ => rfl⟩
      have SZ : Hid (dk.size = d.size) := Lib.hid (by rw [R.out.1.1, HN.out])
      have hcw : ∀ t, t < n → W.cell? ⟨blk, off + t, none⟩ = some (.int .u32 (G t)) := fun t ht => by rw [hG]; exact R.out.1.2.cell HH.out SZ.out t (by rw [HN.out]; exact ht)
      have hfw : ∀ t, t < n → W.frozen? ⟨blk, off + t, none⟩ = false := fun t ht => R.out.1.2.free HH.out t (by rw [HN.out]; exact ht)
      have NX := Lib.hid (fun q => R.out.1.swapG hG (i := i) (j := j) (by omega) (by omega) q)
      have EQ : Hid (reverseLoop (i + 1) (j - 1) (swp dk i j) = Sort.reverseRange d a b) := Lib.hid (by rw [← R.out.2, rev_go dk c])
      have ne : ¬ i = j := by omega
      have ne' : ¬ j = i := by omega
      clear R SZ hG
      go_wp2_with fail
      go_region
      all_goals go_wp2_with fail
      go_roundw
      case rel => exact ⟨i + 1, j - 1, _, by go_num, by go_num, by omega, by omega, by omega, Lib.hid ⟨NX.out 1, EQ.out⟩⟩
      case measure => simp [intOf]; omega
    · have FIN : Hid (Put w blk off (Sort.reverseRange d a b) wr) := Lib.hid (by rw [← R.out.2, rev_end dk c]; exact R.out.1.2)
      clear R
      go_wp2_with fail
      go_end0
      exact ⟨rfl, FIN.out⟩

end Go.Proofs.YtombnejipaoinaaGreat

namespace Go.Proofs.YtombnejipaoinaaGreat
open Go.RowKit Go.Sort

/-- one new block behind w0, which holds s -/
def Pv (w0 : World) (s : Nat) (w : World) : Prop := ∃ q, w = grow (Sort.ahead w0 q) #[Obj.cells #[.int .i64 (s : Int)] 3]
theorem Pv.start (w0 : World) : Pv w0 0 (w0.alloc (.cells #[.int .i64 0] 3)) := ⟨0, alloc_eq_grow w0 _⟩
theorem Pv.draw {w0 w : World} {s : Nat} (h : Pv w0 s w) (n : Nat) : Pv w0 s (w.drewN n) := by
  obtain ⟨q, rfl⟩ := h
  exact ⟨q + n, by rw [← ahead_ahead]; rfl⟩
theorem Pv.get {w0 w : World} {s : Nat} (h : Pv w0 s w) : w.cell? ⟨w0.heap.size, 0, none⟩ = some (.int .i64 (s : Int)) := by
  obtain ⟨q, rfl⟩ := h
  exact grow_one_cell (Sort.ahead w0 q) _ _
theorem Pv.free {w0 w : World} {s : Nat} (h : Pv w0 s w) : w.frozen? ⟨w0.heap.size, 0, none⟩ = false := by
  obtain ⟨q, rfl⟩ := h
  exact grow_one_frozen (Sort.ahead w0 q) _ _
theorem Pv.put {w0 w : World} {s : Nat} (h : Pv w0 s w) (t : Nat) : Pv w0 t (w.setCell ⟨w0.heap.size, 0, none⟩ (.int .i64 (t : Int))) := by
  obtain ⟨q, rfl⟩ := h
  exact ⟨q, setCell_grow_one (Sort.ahead w0 q) _ _ _⟩
theorem Pv.row {w0 w : World} {s : Nat} (h : Pv w0 s w) {blk off : Nat} {d : Array Int} (hb : blk < w0.heap.size) (hH : Holds eU w0 blk off d) : Holds eU w blk off d := by
  obtain ⟨q, rfl⟩ := h
  exact holds_grow eU _ _ _ _ _ hb (holds_ahead eU _ _ _ _ _ hH)

set_option maxHeartbeats 4000000 in
theorem order2_32 (w0 : World) (blk off cap a b s : Nat) (d : Array Int) (hbk : blk < w0.heap.size) (hH : Holds eU w0 blk off d) (ha : a < d.size) (hb : b < d.size) (hs : s < 1000) (w : World) (P : Pv w0 s w) :
    Calls Tryz.prog 272 #[.slice (some ⟨blk, off, none⟩) d.size cap, .int .i64 a, .int .i64 b, .pointer (some ⟨w0.heap.size, 0, none⟩)] w
      fun e w' => e = .returned (.tuple #[.int .i64 ((order2 ltInt d a b s).1 : Nat), .int .i64 ((order2 ltInt d a b s).2.1 : Nat)]) ∧ Pv w0 (order2 ltInt d a b s).2.2 w' := by
  have LS := Lib.hid less32
  have HP := Lib.hid P
  obtain ⟨n, hn⟩ : ∃ n, d.size = n := ⟨_, rfl⟩
  obtain ⟨G, hG⟩ : ∃ G : Nat → Int, ∀ t, G t = d[t]! := ⟨fun t => d[t]!, fun _ => rfl⟩
  have hcw : ∀ t, t < n → w.cell? ⟨blk, off + t, none⟩ = some (.int .u32 (G t)) := fun t ht => by rw [hG]; exact (P.row hbk hH t (by omega)).1
  have hp : w.cell? ⟨w0.heap.size, 0, none⟩ = some (.int .i64 (s : Int)) := P.get
  have hf : w.frozen? ⟨w0.heap.size, 0, none⟩ = false := P.free
  unfold order2
  rw [← hG, ← hG]
  rw [hn] at ha hb ⊢
  clear P hG hH hn
  go_enter Tryz.func272, Tryz.ntmps272
  by_cases q : ltInt (G b) (G a) = true
  · rw [if_pos q]
    have L1 := Lib.hid (fun W => LS.out (G b) (G a) W)
    rw [q] at L1
    clear q LS
    go_wp2_with fail
    go_big_quiet (first | (go_at_call 122; refine Calls.quiet_of_same (L1.out _)))
    go_wp2_with fail
    exact bodyPost_ret (v := .tuple #[.int .i64 (b : Int), .int .i64 (a : Int)]) (by simp [results, Tryz.results272, go_sem]) rfl ⟨rfl, (HP.out.draw _).put (s + 1)⟩
  · rw [if_neg q]
    have q' : ltInt (G b) (G a) = false := by simpa using q
    have L1 := Lib.hid (fun W => LS.out (G b) (G a) W)
    rw [q'] at L1
    clear q q' LS
    go_wp2_with fail
    go_big_quiet (first | (go_at_call 122; refine Calls.quiet_of_same (L1.out _)))
    go_wp2_with fail
    exact bodyPost_ret (v := .tuple #[.int .i64 (a : Int), .int .i64 (b : Int)]) (by simp [results, Tryz.results272, go_sem]) rfl ⟨rfl, HP.out.draw _⟩

end Go.Proofs.YtombnejipaoinaaGreat

namespace Go.Proofs.YtombnejipaoinaaGreat
open Go.RowKit Go.Sort

theorem order2_lt {n a b s : Nat} {d : Array Int} (ha : a < n) (hb : b < n) : (order2 ltInt d a b s).1 < n ∧ (order2 ltInt d a b s).2.1 < n := by
  rcases order2_mem ltInt d a b s with ⟨e1, e2⟩ | ⟨e1, e2⟩ <;> rw [e1, e2] <;> exact ⟨by assumption, by assumption⟩

set_option maxHeartbeats 4000000 in
theorem median_32 (w0 : World) (blk off cap a b c s : Nat) (d : Array Int) (hbk : blk < w0.heap.size) (hH : Holds eU w0 blk off d) (ha : a < d.size) (hb : b < d.size) (hc : c < d.size) (hs : s < 900) (w : World) (P : Pv w0 s w) :
    Calls Tryz.prog 183 #[.slice (some ⟨blk, off, none⟩) d.size cap, .int .i64 a, .int .i64 b, .int .i64 c, .pointer (some ⟨w0.heap.size, 0, none⟩)] w
      fun e w' => e = .returned (.int .i64 ((median ltInt d a b c s).1 : Nat)) ∧ Pv w0 (median ltInt d a b c s).2 w' := by
  have O1 := Lib.hid (order2_32 w0 blk off cap a b s d hbk hH ha hb (by omega) w P)
  have l1 := order2_lt (s := s) (d := d) ha hb
  have n1 := order2_count ltInt d a b s
  unfold median
  simp only
  generalize order2 ltInt d a b s = r1 at *
  obtain ⟨x1, y1, s1⟩ := r1
  simp only at l1 n1 O1 ⊢
  have O2 := Lib.hid (fun w P => order2_32 w0 blk off cap y1 c s1 d hbk hH l1.2 hc (by omega) w P)
  have l2 := order2_lt (s := s1) (d := d) l1.2 hc
  have n2 := order2_count ltInt d y1 c s1
  generalize order2 ltInt d y1 c s1 = r2 at *
  obtain ⟨x2, y2, s2⟩ := r2
  simp only at l2 n2 O2 ⊢
  have O3 := Lib.hid (fun w P => order2_32 w0 blk off cap x1 x2 s2 d hbk hH l1.1 l2.1 (by omega) w P)
  generalize order2 ltInt d x1 x2 s2 = r3 at *
  obtain ⟨x3, y3, s3⟩ := r3
  simp only at O3 ⊢
  clear P hH ha hb hc l1 l2 n1 n2
  generalize d.size = n at *
  go_enter Tryz.func183, Tryz.ntmps183
  go_wp2_with fail
  refine O1.out.mono ?_
  rintro e w1 ⟨rfl, P1⟩
  have O2' := Lib.hid (O2.out w1 P1)
  clear O1 O2 P1
  go_wp2_with fail
  refine O2'.out.mono ?_
  rintro e w2 ⟨rfl, P2⟩
  have O3' := Lib.hid (O3.out w2 P2)
  clear O2' O3 P2
  go_wp2_with fail
  refine O3'.out.mono ?_
  rintro e w3 ⟨rfl, P3⟩
  have FIN := Lib.hid P3
  clear P3 O3'
  go_wp2_with fail
  go_ret
  exact ⟨rfl, FIN.out⟩

set_option maxHeartbeats 4000000 in
theorem adjacent_32 (w0 : World) (blk off cap a s : Nat) (d : Array Int) (hbk : blk < w0.heap.size) (hH : Holds eU w0 blk off d) (h1 : 1 ≤ a) (ha : a + 1 < d.size) (hs : s < 900) (hsz : d.size < 4611686018427387904) (w : World) (P : Pv w0 s w) :
    Calls Tryz.prog 182 #[.slice (some ⟨blk, off, none⟩) d.size cap, .int .i64 a, .pointer (some ⟨w0.heap.size, 0, none⟩)] w
      fun e w' => e = .returned (.int .i64 ((medianAdjacent ltInt d a s).1 : Nat)) ∧ Pv w0 (medianAdjacent ltInt d a s).2 w' := by
  obtain ⟨k, rfl⟩ : ∃ k, a = k + 1 := ⟨a - 1, by omega⟩
  have O1 := Lib.hid (median_32 w0 blk off cap k (k + 1) (k + 2) s d hbk hH (by omega) (by omega) (by omega) hs w P)
  have e0 : medianAdjacent ltInt d (k + 1) s = median ltInt d k (k + 1) (k + 2) s := rfl
  rw [e0]
  have e1 : ((k + 1 : Nat) : Int) = (k : Int) + 1 := by omega
  have e2 : ((k + 2 : Nat) : Int) = (k : Int) + 1 + 1 := by omega
  rw [e1, e2] at O1
  rw [e1]
  generalize median ltInt d k (k + 1) (k + 2) s = r at *
  clear P hH e0 e1 e2
  generalize d.size = n at *
  go_enter Tryz.func182, Tryz.ntmps182
  go_wp2_with fail
  refine O1.out.mono ?_
  rintro e w1 ⟨rfl, P1⟩
  have FIN := Lib.hid P1
  clear O1 P1
  go_wp2_with fail
  go_ret
  exact ⟨rfl, FIN.out⟩

end Go.Proofs.YtombnejipaoinaaGreat

namespace Go.Proofs.YtombnejipaoinaaGreat
open Go.RowKit Go.Sort

/-- draws and new blocks -/
def New (w w' : World) : Prop := ∃ q os, w' = grow (Sort.ahead w q) os
theorem Pv.any {w0 w : World} {s : Nat} (h : Pv w0 s w) : New w0 w := by
  obtain ⟨q, rfl⟩ := h
  exact ⟨q, _, rfl⟩

theorem adj_lt {n a s : Nat} {d : Array Int} (h1 : 1 ≤ a) (ha : a + 1 < n) : (medianAdjacent ltInt d a s).1 < n := by
  rcases medianAdjacent_mem ltInt d a s with e | e | e <;> omega

set_option maxHeartbeats 8000000 in
set_option maxRecDepth 100000 in
theorem pivot_32 (blk off cap a l : Nat) (d : Array Int) (w : World) (hbk : blk < w.heap.size) (hH : Holds eU w blk off d) (hl : 0 < l) (hb : a + l ≤ d.size) (hsz : d.size < 4611686018427387904) :
    Calls Tryz.prog 119 #[.slice (some ⟨blk, off, none⟩) d.size cap, .int .i64 a, .int .i64 ((a : Int) + l)] w
      fun e w' => e = .returned (.tuple #[.int .i64 ((choosePivot ltInt d a (a + l)).1 : Nat), .int .i64 (hintCode (choosePivot ltInt d a (a + l)).2)]) ∧ New w w' := by
  rw [choosePivot_eq]
  obtain ⟨m, hm⟩ : ∃ m, l / 4 = m := ⟨_, rfl⟩
  have e4 : Int.tdiv (l : Int) 4 = (m : Int) := by rw [Int.tdiv_eq_ediv_of_nonneg (by omega)]; omega
  have e1 : (a : Int) + (l : Int) - (a : Int) = (l : Int) := by omega
  have c1 : ((a + m * 1 : Nat) : Int) = (a : Int) + (m : Int) := by omega
  have c2 : ((a + m * 2 : Nat) : Int) = (a : Int) + (m : Int) * 2 := by omega
  have c3 : ((a + m * 3 : Nat) : Int) = (a : Int) + (m : Int) * 3 := by omega
  have S0 := Lib.hid (Pv.start w)
  have e5 : rawPivot ltInt d a (a + l) = if l ≥ 8 then (if l ≥ 50 then median ltInt d (medianAdjacent ltInt d (a + m * 1) 0).1 (medianAdjacent ltInt d (a + m * 2) (medianAdjacent ltInt d (a + m * 1) 0).2).1 (medianAdjacent ltInt d (a + m * 3) (medianAdjacent ltInt d (a + m * 2) (medianAdjacent ltInt d (a + m * 1) 0).2).2).1 (medianAdjacent ltInt d (a + m * 3) (medianAdjacent ltInt d (a + m * 2) (medianAdjacent ltInt d (a + m * 1) 0).2).2).2 else median ltInt d (a + m * 1) (a + m * 2) (a + m * 3) 0) else (a + m * 2, 0) := by
    unfold rawPivot
    simp only [Nat.add_sub_cancel_left, hm]
  rw [e5]
  clear e5
  by_cases l8 : 8 ≤ l
  · rw [if_pos l8]
    by_cases l50 : 50 ≤ l
    · rw [if_pos l50]
      have m12 : 12 ≤ m := by omega
      have A1 := Lib.hid (fun W P => adjacent_32 w blk off cap (a + m * 1) 0 d hbk hH (by omega) (by omega) (by omega) hsz W P)
      have i1 := adj_lt (s := 0) (d := d) (a := a + m * 1) (n := d.size) (by omega) (by omega)
      have n1 := medianAdjacent_count ltInt d (a + m * 1) 0
      generalize medianAdjacent ltInt d (a + m * 1) 0 = r1 at *
      obtain ⟨p1, s1⟩ := r1
      simp only at A1 i1 n1 ⊢
      have A2 := Lib.hid (fun W P => adjacent_32 w blk off cap (a + m * 2) s1 d hbk hH (by omega) (by omega) (by omega) hsz W P)
      have i2 := adj_lt (s := s1) (d := d) (a := a + m * 2) (n := d.size) (by omega) (by omega)
      have n2 := medianAdjacent_count ltInt d (a + m * 2) s1
      generalize medianAdjacent ltInt d (a + m * 2) s1 = r2 at *
      obtain ⟨p2, s2⟩ := r2
      simp only at A2 i2 n2 ⊢
      have A3 := Lib.hid (fun W P => adjacent_32 w blk off cap (a + m * 3) s2 d hbk hH (by omega) (by omega) (by omega) hsz W P)
      have i3 := adj_lt (s := s2) (d := d) (a := a + m * 3) (n := d.size) (by omega) (by omega)
      have n3 := medianAdjacent_count ltInt d (a + m * 3) s2
      generalize medianAdjacent ltInt d (a + m * 3) s2 = r3 at *
      obtain ⟨p3, s3⟩ := r3
      simp only at A3 i3 n3 ⊢
      have M1 := Lib.hid (fun W P => median_32 w blk off cap p1 p2 p3 s3 d hbk hH i1 i2 i3 (by omega) W P)
      generalize median ltInt d p1 p2 p3 s3 = r at *
      obtain ⟨p, s⟩ := r
      simp only at M1 ⊢
      rw [c1] at A1
      rw [c2] at A2
      rw [c3] at A3
      clear hH i1 i2 i3 n1 n2 n3
      generalize d.size = n at *
      have d1 : decide ((8 : Int) ≤ (l : Int)) = true := decide_eq_true (by omega)
      have d2 : decide ((50 : Int) ≤ (l : Int)) = true := decide_eq_true (by omega)
      have X1 := Lib.hid (A1.out _ S0.out)
      clear A1 S0
      go_enter Tryz.func119, Tryz.ntmps119
      go_wp2_with fail
      refine X1.out.mono ?_
      rintro e w2 ⟨rfl, P2⟩
      have X2 := Lib.hid (A2.out _ P2)
      clear A2 X1 P2
      go_wp2_with fail
      refine X2.out.mono ?_
      rintro e w3 ⟨rfl, P3⟩
      have X3 := Lib.hid (A3.out _ P3)
      clear A3 X2 P3
      go_wp2_with fail
      refine X3.out.mono ?_
      rintro e w4 ⟨rfl, P4⟩
      have X4 := Lib.hid (M1.out _ P4)
      clear M1 X3 P4
      go_wp2_with fail
      refine X4.out.mono ?_
      rintro e w1 ⟨rfl, P1⟩
      have HP := Lib.hid P1
      clear P1 X4
      have hp := HP.out.get
      have FIN := Lib.hid HP.out.any
      clear HP
      by_cases s0 : s = 0
      · subst s0
        have hp0 : w1.cell? ⟨w.heap.size, 0, none⟩ = some (.int .i64 0) := hp
        clear hp
        go_wp2_with fail
        (try simp only [Exit.inBlock, Exit.then]); exact bodyPost_ret (v := .tuple #[.int .i64 (p : Nat), .int .i64 1]) (by simp [results, Tryz.results119, go_sem]) rfl ⟨rfl, FIN.out⟩
      by_cases s12 : s = 12
      · subst s12
        have hp0 : w1.cell? ⟨w.heap.size, 0, none⟩ = some (.int .i64 12) := hp
        clear hp
        go_wp2_with fail
        (try simp only [Exit.inBlock, Exit.then]); exact bodyPost_ret (v := .tuple #[.int .i64 (p : Nat), .int .i64 2]) (by simp [results, Tryz.results119, go_sem]) rfl ⟨rfl, FIN.out⟩
      have t0 : ((s : Int) == 0) = false := by simpa using s0
      have t1 : ((s : Int) == 12) = false := by simp; omega
      have t2 : decide ((s : Int) = 0) = false := decide_eq_false (by omega)
      have t3 : decide ((s : Int) = 12) = false := decide_eq_false (by omega)
      have h0 : hintOf s = .unknown := by unfold hintOf; rw [if_neg s0, if_neg s12]
      go_wp2_with fail
      (try simp only [Exit.inBlock, Exit.then]); exact bodyPost_ret (v := .tuple #[.int .i64 (p : Nat), .int .i64 0]) (by simp [results, Tryz.results119, go_sem]) rfl ⟨by rw [h0]; rfl, FIN.out⟩
    · rw [if_neg l50]
      have M1 := Lib.hid (fun W P => median_32 w blk off cap (a + m * 1) (a + m * 2) (a + m * 3) 0 d hbk hH (by omega) (by omega) (by omega) (by omega) W P)
      rw [c1, c2, c3] at M1
      generalize median ltInt d (a + m * 1) (a + m * 2) (a + m * 3) 0 = r at *
      obtain ⟨p, s⟩ := r
      simp only at M1 ⊢
      clear hH
      generalize d.size = n at *
      have M2 := Lib.hid (M1.out _ S0.out)
      have d1 : decide ((8 : Int) ≤ (l : Int)) = true := decide_eq_true (by omega)
      have d2 : decide ((50 : Int) ≤ (l : Int)) = false := decide_eq_false (by omega)
      clear M1 S0
      go_enter Tryz.func119, Tryz.ntmps119
      go_wp2_with fail
      refine M2.out.mono ?_
      rintro e w1 ⟨rfl, P1⟩
      have HP := Lib.hid P1
      clear P1 M2
      have hp := HP.out.get
      have FIN := Lib.hid HP.out.any
      clear HP
      by_cases s0 : s = 0
      · subst s0
        have hp0 : w1.cell? ⟨w.heap.size, 0, none⟩ = some (.int .i64 0) := hp
        clear hp
        go_wp2_with fail
        (try simp only [Exit.inBlock, Exit.then]); exact bodyPost_ret (v := .tuple #[.int .i64 (p : Nat), .int .i64 1]) (by simp [results, Tryz.results119, go_sem]) rfl ⟨rfl, FIN.out⟩
      by_cases s12 : s = 12
      · subst s12
        have hp0 : w1.cell? ⟨w.heap.size, 0, none⟩ = some (.int .i64 12) := hp
        clear hp
        go_wp2_with fail
        (try simp only [Exit.inBlock, Exit.then]); exact bodyPost_ret (v := .tuple #[.int .i64 (p : Nat), .int .i64 2]) (by simp [results, Tryz.results119, go_sem]) rfl ⟨rfl, FIN.out⟩
      have t0 : ((s : Int) == 0) = false := by simpa using s0
      have t1 : ((s : Int) == 12) = false := by simp; omega
      have t2 : decide ((s : Int) = 0) = false := decide_eq_false (by omega)
      have t3 : decide ((s : Int) = 12) = false := decide_eq_false (by omega)
      have h0 : hintOf s = .unknown := by unfold hintOf; rw [if_neg s0, if_neg s12]
      go_wp2_with fail
      (try simp only [Exit.inBlock, Exit.then]); exact bodyPost_ret (v := .tuple #[.int .i64 (p : Nat), .int .i64 0]) (by simp [results, Tryz.results119, go_sem]) rfl ⟨by rw [h0]; rfl, FIN.out⟩
  · rw [if_neg l8]
    simp only
    clear hH
    generalize d.size = n at *
    have d1 : decide ((8 : Int) ≤ (l : Int)) = false := decide_eq_false (by omega)
    have FIN := Lib.hid S0.out.any
    clear S0
    go_enter Tryz.func119, Tryz.ntmps119
    go_wp2_with fail
    (try simp only [Exit.inBlock, Exit.then]); exact bodyPost_ret (v := .tuple #[.int .i64 ((a : Int) + (m : Int) * 2), .int .i64 1]) (by simp [results, Tryz.results119, go_sem]) rfl ⟨by rw [c2]; rfl, FIN.out⟩

end Go.Proofs.YtombnejipaoinaaGreat

namespace Go.Proofs.YtombnejipaoinaaGreat
open Go.RowKit Go.Sort

theorem PutN.cells {w W : World} {blk off n : Nat} {d0 d : Array Int} (h : PutN w blk off n d W) (hH : Holds eU w blk off d0) (hs : d0.size = n) {G : Nat → Int} (hG : ∀ t, G t = d[t]!) : ∀ t, t < n → W.cell? ⟨blk, off + t, none⟩ = some (.int .u32 (G t)) :=
  fun t ht => by rw [hG]; exact h.2.cell hH (h.1.trans hs.symm) t (by omega)
theorem PutN.frees {w W : World} {blk off n : Nat} {d0 d : Array Int} (h : PutN w blk off n d W) (hH : Holds eU w blk off d0) (hs : d0.size = n) : ∀ t, t < n → W.frozen? ⟨blk, off + t, none⟩ = false :=
  fun t ht => h.2.free hH t (by omega)

/-- the loops that stand in no other, in their order -/
def outLoopsU : Code → List Code
  | .loop c => [c]
  | .seq a b => outLoopsU a ++ outLoopsU b
  | .block _ c => outLoopsU c
  | .scope c => outLoopsU c
  | .cond _ a b => outLoopsU a ++ outLoopsU b
  | _ => []
noncomputable def peBody (i : Nat) : Code := ((Tryz.f123.body.map outLoopsU).getD []).getD i .skip

noncomputable def peIn (i : Nat) : Code := (outLoopsU (peBody 0)).getD i .skip

set_option maxHeartbeats 16000000 in
set_option maxRecDepth 100000 in
theorem pe_up (Q : Exit → Act → World → Prop) (w WS : World) (blk off cap n a i j : Nat) (d0 dk : Array Int) (hH : Holds eU w blk off d0) (hs : d0.size = n) (hai : a < i) (hij : i ≤ j + 1) (hjn : j < n) (hsz : n < 4611686018427387904) (P : PutN w blk off n dk WS) (u2 u3 u4 u5 u6 u7 u8 u11 u12 u13 u14 u15 u16 u17 u18 u19 u20 u21 u22 u23 u24 u25 u26 u27 u28 u29 u30 u31 u32 u33 u34 u35 u36 u37 u38 u39 u40 u41 u42 u43 u44 u45 u46 u47 u48 u49 u50 u51 u52 u53 u54 u55 u56 u57 u58 u59 u60 u61 u62 u63 u64 u65 u66 u67 u68 u69 u70 u71 u72 u73 u74 u75 u76 u77 u78 u79 u80 u81 u82 u83 : Value)
    (HQ0 : ∀ (v29 v30 v31 v32 v33 v34 v35 v36 v37 v38 v39 v40 v41 v42 v43 v44 v45 : Value) (w' : World), PutN w blk off n dk w' → i ≤ scanUp (fun x => !ltInt dk[a]! x) dk j i → scanUp (fun x => !ltInt dk[a]! x) dk j i ≤ j + 1 → Q (.exit 2) ⟨#[.slice (some ⟨blk, off, none⟩) n cap, .int .i64 (a : Int), u2, u3, u4, u5, u6, u7, u8, .int .i64 ((scanUp (fun x => !ltInt dk[a]! x) dk j i : Nat) : Int), .int .i64 (j : Int), u11, u12, u13, u14, u15, u16, u17, u18, u19, u20, u21, u22, u23, u24, u25, u26, u27, u28, v29, v30, v31, v32, v33, v34, v35, v36, v37, v38, v39, v40, v41, v42, v43, v44, v45, u46, u47, u48, u49, u50, u51, u52, u53, u54, u55, u56, u57, u58, u59, u60, u61, u62, u63, u64, u65, u66, u67, u68, u69, u70, u71, u72, u73, u74, u75, u76, u77, u78, u79, u80, u81, u82, u83], []⟩ w') :
    Code.wp Tryz.prog (.loop (peIn 0)) Q ⟨#[.slice (some ⟨blk, off, none⟩) n cap, .int .i64 (a : Int), u2, u3, u4, u5, u6, u7, u8, .int .i64 (i : Int), .int .i64 (j : Int), u11, u12, u13, u14, u15, u16, u17, u18, u19, u20, u21, u22, u23, u24, u25, u26, u27, u28, u29, u30, u31, u32, u33, u34, u35, u36, u37, u38, u39, u40, u41, u42, u43, u44, u45, u46, u47, u48, u49, u50, u51, u52, u53, u54, u55, u56, u57, u58, u59, u60, u61, u62, u63, u64, u65, u66, u67, u68, u69, u70, u71, u72, u73, u74, u75, u76, u77, u78, u79, u80, u81, u82, u83], []⟩ WS := by
  conv => enter [2, 1]; whnf
  have HQ := Lib.hid HQ0
  have HH := Lib.hid hH
  have HS := Lib.hid hs
  have LS := Lib.hid less32
  have P0 := Lib.hid P
  obtain ⟨G, hG⟩ : ∃ G : Nat → Int, ∀ t, G t = dk[t]! := ⟨fun t => dk[t]!, fun _ => rfl⟩
  have HG := Lib.hid hG
  clear HQ0 hH hs P hG
  dsimp only
  go_loopw [9] (fun vi wr => ∃ i2 : Nat, vi = .int .i64 i2 ∧ i ≤ i2 ∧ i2 ≤ j + 1 ∧ Hid (PutN w blk off n dk wr ∧ scanUp (fun x => !ltInt dk[a]! x) dk j i2 = scanUp (fun x => !ltInt dk[a]! x) dk j i)) (fun vi _ => j + 2 - (intOf vi).toNat)
  case atStart => exact ⟨i, rfl, Nat.le_refl _, hij, Lib.hid ⟨P0.out, rfl⟩⟩
  case round =>
    clear P0
    obtain ⟨i2, rfl, h1, h2, S⟩ := hrel
    obtain ⟨W, eW⟩ : ∃ W, W = wr := ⟨_, rfl⟩
    subst eW
    have hcw := S.out.1.cells HH.out HS.out HG.out
    by_cases c : i2 ≤ j
    · have d1 : decide ((i2 : Int) ≤ (j : Int)) = true := decide_eq_true (by omega)
      cases q : ltInt (G a) (G i2) with
      | false =>
        have NX : Hid (∀ q, PutN w blk off n dk (W.drewN q) ∧ scanUp (fun x => !ltInt dk[a]! x) dk j (i2 + 1) = scanUp (fun x => !ltInt dk[a]! x) dk j i) := Lib.hid (fun _ => ⟨S.out.1.draw _, by rw [← S.out.2]; exact (scanUp_go _ dk j i2 c (by rw [← HG.out, ← HG.out, q]; rfl)).symm⟩)
        have L1 := Lib.hid (fun W => LS.out (G a) (G i2) W)
        rw [q] at L1
        clear S q LS
        go_wp2_with fail
        go_big_quiet (first | (go_at_call 122; refine Calls.quiet_of_same (L1.out _)))
        go_wp2_with fail
        go_roundw
        case rel => exact ⟨i2 + 1, by go_num, by omega, by omega, Lib.hid (NX.out _)⟩
        case measure => simp [intOf]; omega
      | true =>
        have EN : Hid (scanUp (fun x => !ltInt dk[a]! x) dk j i = i2) := Lib.hid (by rw [← S.out.2]; exact scanUp_end _ dk j i2 (.inr (by rw [← HG.out, ← HG.out, q]; rfl)))
        have L1 := Lib.hid (fun W => LS.out (G a) (G i2) W)
        have PN := Lib.hid (fun q => S.out.1.draw q)
        rw [q] at L1
        clear S q LS
        rw [EN.out] at HQ
        go_wp2_with fail
        go_big_quiet (first | (go_at_call 122; refine Calls.quiet_of_same (L1.out _)))
        go_wp2_with fail
        exact HQ.out _ _ _ _ _ _ _ _ _ _ _ _ _ _ _ _ _ _ (PN.out _) (by omega) (by omega)
    · have d1 : decide ((i2 : Int) ≤ (j : Int)) = false := decide_eq_false (by omega)
      have EN : Hid (scanUp (fun x => !ltInt dk[a]! x) dk j i = i2) := Lib.hid (by rw [← S.out.2]; exact scanUp_end _ dk j i2 (.inl c))
      have PN := Lib.hid (fun q => S.out.1.draw q)
      clear S
      rw [EN.out] at HQ
      go_wp2_with fail
      go_big_quiet (first | (go_at_call 122; refine Calls.quiet_of_same (LS.out _ _ _)))
      go_wp2_with fail
      exact HQ.out _ _ _ _ _ _ _ _ _ _ _ _ _ _ _ _ _ _ (PN.out _) (by omega) (by omega)

set_option maxHeartbeats 16000000 in
set_option maxRecDepth 100000 in
theorem pe_down (Q : Exit → Act → World → Prop) (w WS : World) (blk off cap n a i j : Nat) (d0 dk : Array Int) (hH : Holds eU w blk off d0) (hs : d0.size = n) (hai : a < i) (hij : i ≤ j + 1) (hjn : j < n) (hsz : n < 4611686018427387904) (P : PutN w blk off n dk WS) (u2 u3 u4 u5 u6 u7 u8 u11 u12 u13 u14 u15 u16 u17 u18 u19 u20 u21 u22 u23 u24 u25 u26 u27 u28 u29 u30 u31 u32 u33 u34 u35 u36 u37 u38 u39 u40 u41 u42 u43 u44 u45 u46 u47 u48 u49 u50 u51 u52 u53 u54 u55 u56 u57 u58 u59 u60 u61 u62 u63 u64 u65 u66 u67 u68 u69 u70 u71 u72 u73 u74 u75 u76 u77 u78 u79 u80 u81 u82 u83 : Value)
    (HQ0 : ∀ (v46 v47 v48 v49 v50 v51 v52 v53 v54 v55 v56 v57 v58 v59 v60 v61 : Value) (w' : World), PutN w blk off n dk w' → scanDown (fun x => ltInt dk[a]! x) dk i j ≤ j → i ≤ scanDown (fun x => ltInt dk[a]! x) dk i j + 1 → Q (.exit 4) ⟨#[.slice (some ⟨blk, off, none⟩) n cap, .int .i64 (a : Int), u2, u3, u4, u5, u6, u7, u8, .int .i64 (i : Int), .int .i64 ((scanDown (fun x => ltInt dk[a]! x) dk i j : Nat) : Int), u11, u12, u13, u14, u15, u16, u17, u18, u19, u20, u21, u22, u23, u24, u25, u26, u27, u28, u29, u30, u31, u32, u33, u34, u35, u36, u37, u38, u39, u40, u41, u42, u43, u44, u45, v46, v47, v48, v49, v50, v51, v52, v53, v54, v55, v56, v57, v58, v59, v60, v61, u62, u63, u64, u65, u66, u67, u68, u69, u70, u71, u72, u73, u74, u75, u76, u77, u78, u79, u80, u81, u82, u83], []⟩ w') :
    Code.wp Tryz.prog (.loop (peIn 1)) Q ⟨#[.slice (some ⟨blk, off, none⟩) n cap, .int .i64 (a : Int), u2, u3, u4, u5, u6, u7, u8, .int .i64 (i : Int), .int .i64 (j : Int), u11, u12, u13, u14, u15, u16, u17, u18, u19, u20, u21, u22, u23, u24, u25, u26, u27, u28, u29, u30, u31, u32, u33, u34, u35, u36, u37, u38, u39, u40, u41, u42, u43, u44, u45, u46, u47, u48, u49, u50, u51, u52, u53, u54, u55, u56, u57, u58, u59, u60, u61, u62, u63, u64, u65, u66, u67, u68, u69, u70, u71, u72, u73, u74, u75, u76, u77, u78, u79, u80, u81, u82, u83], []⟩ WS := by
  conv => enter [2, 1]; whnf
  have HQ := Lib.hid HQ0
  have HH := Lib.hid hH
  have HS := Lib.hid hs
  have LS := Lib.hid less32
  have P0 := Lib.hid P
  obtain ⟨G, hG⟩ : ∃ G : Nat → Int, ∀ t, G t = dk[t]! := ⟨fun t => dk[t]!, fun _ => rfl⟩
  have HG := Lib.hid hG
  clear HQ0 hH hs P hG
  dsimp only
  go_loopw [10] (fun vi wr => ∃ j2 : Nat, vi = .int .i64 j2 ∧ j2 ≤ j ∧ i ≤ j2 + 1 ∧ Hid (PutN w blk off n dk wr ∧ scanDown (fun x => ltInt dk[a]! x) dk i j2 = scanDown (fun x => ltInt dk[a]! x) dk i j)) (fun vi _ => (intOf vi).toNat)
  case atStart => exact ⟨j, rfl, Nat.le_refl _, hij, Lib.hid ⟨P0.out, rfl⟩⟩
  case round =>
    clear P0
    obtain ⟨j2, rfl, h1, h2, S⟩ := hrel
    obtain ⟨W, eW⟩ : ∃ W, W = wr := ⟨_, rfl⟩
    subst eW
    have hcw := S.out.1.cells HH.out HS.out HG.out
    by_cases c : i ≤ j2
    · have d1 : decide ((i : Int) ≤ (j2 : Int)) = true := decide_eq_true (by omega)
      cases q : ltInt (G a) (G j2) with
      | true =>
        have NX : Hid (∀ q, PutN w blk off n dk (W.drewN q) ∧ scanDown (fun x => ltInt dk[a]! x) dk i (j2 - 1) = scanDown (fun x => ltInt dk[a]! x) dk i j) := Lib.hid (fun _ => ⟨S.out.1.draw _, by rw [← S.out.2]; exact (scanDown_go _ dk i j2 c (by omega) (by rw [← HG.out, ← HG.out, q])).symm⟩)
        have L1 := Lib.hid (fun W => LS.out (G a) (G j2) W)
        rw [q] at L1
        clear S q LS
        go_wp2_with fail
        go_big_quiet (first | (go_at_call 122; refine Calls.quiet_of_same (L1.out _)))
        go_wp2_with fail
        go_roundw
        case rel => exact ⟨j2 - 1, by go_num, by omega, by omega, Lib.hid (NX.out _)⟩
        case measure => simp [intOf]; omega
      | false =>
        have EN : Hid (scanDown (fun x => ltInt dk[a]! x) dk i j = j2) := Lib.hid (by rw [← S.out.2]; exact scanDown_end _ dk i j2 (.inr (by rw [← HG.out, ← HG.out, q])))
        have L1 := Lib.hid (fun W => LS.out (G a) (G j2) W)
        have PN := Lib.hid (fun q => S.out.1.draw q)
        rw [q] at L1
        clear S q LS
        rw [EN.out] at HQ
        go_wp2_with fail
        go_big_quiet (first | (go_at_call 122; refine Calls.quiet_of_same (L1.out _)))
        go_wp2_with fail
        exact HQ.out _ _ _ _ _ _ _ _ _ _ _ _ _ _ _ _ _ (PN.out _) (by omega) (by omega)
    · have d1 : decide ((i : Int) ≤ (j2 : Int)) = false := decide_eq_false (by omega)
      have EN : Hid (scanDown (fun x => ltInt dk[a]! x) dk i j = j2) := Lib.hid (by rw [← S.out.2]; exact scanDown_end _ dk i j2 (.inl c))
      have PN := Lib.hid (fun q => S.out.1.draw q)
      clear S
      rw [EN.out] at HQ
      go_wp2_with fail
      go_big_quiet (first | (go_at_call 122; refine Calls.quiet_of_same (LS.out _ _ _)))
      go_wp2_with fail
      exact HQ.out _ _ _ _ _ _ _ _ _ _ _ _ _ _ _ _ _ (PN.out _) (by omega) (by omega)

end Go.Proofs.YtombnejipaoinaaGreat

namespace Go.Proofs.YtombnejipaoinaaGreat
open Go.RowKit Go.Sort

set_option maxHeartbeats 16000000 in
set_option maxRecDepth 100000 in
theorem pe_loop (KX : Act → World → Prop) (R : Ending → World → Prop) (w WS : World) (blk off cap n a b : Nat) (d0 dS : Array Int) (hH : Holds eU w blk off d0) (hs : d0.size = n) (hab : a < b) (hb : b ≤ n) (hsz : n < 4611686018427387904) (P : PutN w blk off n dS WS) (u2 u3 u4 u5 u6 u7 u8 u11 u12 u13 u14 u15 u16 u17 u18 u19 u20 u21 u22 u23 u24 u25 u26 u27 u28 u29 u30 u31 u32 u33 u34 u35 u36 u37 u38 u39 u40 u41 u42 u43 u44 u45 u46 u47 u48 u49 u50 u51 u52 u53 u54 u55 u56 u57 u58 u59 u60 u61 u62 u63 u64 u65 u66 u67 u68 u69 u70 u71 u72 u73 u74 u75 u76 u77 u78 u79 u80 u81 u82 u83 : Value)
    (HQ0 : ∀ (v10 v29 v30 v31 v32 v33 v34 v35 v36 v37 v38 v39 v40 v41 v42 v43 v44 v45 v46 v47 v48 v49 v50 v51 v52 v53 v54 v55 v56 v57 v58 v59 v60 v61 v62 v63 v64 v65 v66 v67 v68 v69 v70 v71 v72 v73 v74 v75 v76 v77 v78 v79 v80 v81 v82 : Value) (i2 : Nat) (dF : Array Int) (w' : World), PutN w blk off n dF w' → partEqLoop ltInt a (a + 1) (b - 1) dS = (i2, dF) → KX ⟨#[.slice (some ⟨blk, off, none⟩) n cap, .int .i64 (a : Int), u2, u3, u4, u5, u6, u7, u8, .int .i64 (i2 : Int), v10, u11, u12, u13, u14, u15, u16, u17, u18, u19, u20, u21, u22, u23, u24, u25, u26, u27, u28, v29, v30, v31, v32, v33, v34, v35, v36, v37, v38, v39, v40, v41, v42, v43, v44, v45, v46, v47, v48, v49, v50, v51, v52, v53, v54, v55, v56, v57, v58, v59, v60, v61, v62, v63, v64, v65, v66, v67, v68, v69, v70, v71, v72, v73, v74, v75, v76, v77, v78, v79, v80, v81, v82, u83], []⟩ w') :
    Code.wp Tryz.prog (.loop (peBody 0)) (Exit.inBlock 0 (Exit.then KX (bodyPost Tryz.prog Tryz.f123 R))) ⟨#[.slice (some ⟨blk, off, none⟩) n cap, .int .i64 (a : Int), u2, u3, u4, u5, u6, u7, u8, .int .i64 ((a : Int) + 1), .int .i64 ((b : Int) - 1), u11, u12, u13, u14, u15, u16, u17, u18, u19, u20, u21, u22, u23, u24, u25, u26, u27, u28, u29, u30, u31, u32, u33, u34, u35, u36, u37, u38, u39, u40, u41, u42, u43, u44, u45, u46, u47, u48, u49, u50, u51, u52, u53, u54, u55, u56, u57, u58, u59, u60, u61, u62, u63, u64, u65, u66, u67, u68, u69, u70, u71, u72, u73, u74, u75, u76, u77, u78, u79, u80, u81, u82, u83], []⟩ WS := by
  conv => enter [2, 1]; whnf
  have HQ := Lib.hid HQ0
  have HH := Lib.hid hH
  have HS := Lib.hid hs
  have P0 := Lib.hid P
  clear HQ0 hH hs P
  dsimp only
  go_loopw [9, 10] (fun vi vj wr => ∃ (i j : Nat) (dk : Array Int), vi = .int .i64 i ∧ vj = .int .i64 j ∧ a < i ∧ i ≤ j + 1 ∧ j < b ∧ Hid (PutN w blk off n dk wr ∧ partEqLoop ltInt a i j dk = partEqLoop ltInt a (a + 1) (b - 1) dS)) (fun vi vj _ => (intOf vj + 1 - intOf vi).toNat)
  case atStart => exact ⟨a + 1, b - 1, dS, by go_num, by go_num, by omega, by omega, by omega, Lib.hid ⟨P0.out, rfl⟩⟩
  case round =>
    clear P0
    obtain ⟨i, j, dk, rfl, rfl, hai, hij, hjb, RR⟩ := hrel
    obtain ⟨G, hG⟩ : ∃ G : Nat → Int, ∀ t, G t = dk[t]! := ⟨fun t => dk[t]!, fun _ => rfl⟩
    have HG := Lib.hid hG
    have EQ := Lib.hid RR.out.2
    clear hG
    go_wp2_with fail
    rename_i K hK
    refine pe_up _ w _ blk off cap n a i j d0 dk HH.out HS.out hai hij (by omega) hsz RR.out.1 _ _ _ _ _ _ _ _ _ _ _ _ _ _ _ _ _ _ _ _ _ _ _ _ _ _ _ _ _ _ _ _ _ _ _ _ _ _ _ _ _ _ _ _ _ _ _ _ _ _ _ _ _ _ _ _ _ _ _ _ _ _ _ _ _ _ _ _ _ _ _ _ _ _ _ _ _ _ _ _ ?hq1
    case hq1 =>
    intro v29 v30 v31 v32 v33 v34 v35 v36 v37 v38 v39 v40 v41 v42 v43 v44 v45 w1 P1 g1 g2
    have HP1 := Lib.hid P1
    generalize hi2 : scanUp (fun x => !ltInt dk[a]! x) dk j i = i2 at g1 g2 ⊢
    have I2 := Lib.hid hi2
    clear P1 hi2 RR
    refine hK _ _ ?_
    clear hK
    go_wp2_with fail
    rename_i K2 hK2
    refine pe_down _ w _ blk off cap n a i2 j d0 dk HH.out HS.out (by omega) g2 (by omega) hsz HP1.out _ _ _ _ _ _ _ _ _ _ _ _ _ _ _ _ _ _ _ _ _ _ _ _ _ _ _ _ _ _ _ _ _ _ _ _ _ _ _ _ _ _ _ _ _ _ _ _ _ _ _ _ _ _ _ _ _ _ _ _ _ _ _ _ _ _ _ _ _ _ _ _ _ _ _ _ _ _ _ _ ?hq2
    case hq2 =>
    intro v46 v47 v48 v49 v50 v51 v52 v53 v54 v55 v56 v57 v58 v59 v60 v61 w2 P2 g3 g4
    have P3 := Lib.hid P2
    generalize hj2 : scanDown (fun x => ltInt dk[a]! x) dk i2 j = j2 at g3 g4 ⊢
    have J2 := Lib.hid hj2
    clear P2 hj2 HP1
    refine hK2 _ _ ?_
    clear hK2
    by_cases c : j2 < i2
    · have EN := Lib.hid ((EQ.out.symm.trans (partEq_break ltInt a i j dk I2.out.symm J2.out.symm c)))
      have d1 : decide ((j2 : Int) < (i2 : Int)) = true := decide_eq_true (by omega)
      go_wp2_with fail
      exact HQ.out _ _ _ _ _ _ _ _ _ _ _ _ _ _ _ _ _ _ _ _ _ _ _ _ _ _ _ _ _ _ _ _ _ _ _ _ _ _ _ _ _ _ _ _ _ _ _ _ _ _ _ _ _ _ _ i2 dk _ P3.out EN.out
    · have d1 : decide ((j2 : Int) < (i2 : Int)) = false := decide_eq_false (by omega)
      have lt := scans_lt ltInt a i j dk (by omega) I2.out.symm J2.out.symm (by omega)
      have NX := Lib.hid (fun q => P3.out.swapG HG.out (i := i2) (j := j2) (by omega) (by omega) q)
      have EQ2 : Hid (partEqLoop ltInt a (i2 + 1) (j2 - 1) (swp dk i2 j2) = partEqLoop ltInt a (a + 1) (b - 1) dS) := Lib.hid (by rw [← EQ.out, partEq_go ltInt a i j dk I2.out.symm J2.out.symm (by omega)])
      have hcw := P3.out.cells HH.out HS.out HG.out
      have hfw := P3.out.frees HH.out HS.out
      have ne : ¬ i2 = j2 := by omega
      have ne' : ¬ j2 = i2 := by omega
      obtain ⟨W, eW⟩ : ∃ W, W = w2 := ⟨_, rfl⟩
      subst eW
      have bi : i2 < n := by omega
      have bj : j2 < n := by omega
      have FACT : Hid (a < i2 + 1 ∧ i2 + 1 ≤ j2 - 1 + 1 ∧ j2 - 1 < b ∧ i2 < j2 ∧ i ≤ i2 ∧ j2 ≤ j) := Lib.hid (by omega)
      clear EQ P3 I2 J2 HQ
      go_wp2_with fail
      clear g1 g2 g3 g4 hai hij hjb hab hb lt c d1
      go_region
      all_goals go_wp2_with fail
      go_roundw
      case rel => exact ⟨i2 + 1, j2 - 1, _, by go_num, (by have fz := FACT.out; congr 1; omega), FACT.out.1, FACT.out.2.1, FACT.out.2.2.1, Lib.hid ⟨NX.out 1, EQ2.out⟩⟩
      case measure => simp [intOf]; have := FACT.out; omega

end Go.Proofs.YtombnejipaoinaaGreat

namespace Go.Proofs.YtombnejipaoinaaGreat
open Go.RowKit Go.Sort

set_option maxHeartbeats 16000000 in
set_option maxRecDepth 100000 in
theorem parteq32 (blk off cap n a b p : Nat) (d : Array Int) (w : World) (hH : Holds eU w blk off d) (hn : d.size = n) (hap : a ≤ p) (hpb : p < b) (hb : b ≤ n) (hsz : n < 4611686018427387904) :
    Calls Tryz.prog 123 #[.slice (some ⟨blk, off, none⟩) n cap, .int .i64 a, .int .i64 b, .int .i64 p] w fun e w' =>
      e = .returned (.int .i64 ((partitionEqual ltInt d a b p).1 : Nat)) ∧ PutN w blk off n (partitionEqual ltInt d a b p).2 w' := by
  have HH := Lib.hid hH
  have HN := Lib.hid hn
  have P0 : Hid (PutN w blk off n d w) := Lib.hid ⟨hn, Put.refl hH⟩
  clear hH hn
  go_enter Tryz.func123, Tryz.ntmps123
  obtain ⟨G, hG⟩ : ∃ G : Nat → Int, ∀ t, G t = d[t]! := ⟨fun t => d[t]!, fun _ => rfl⟩
  have hcw := P0.out.cells HH.out HN.out hG
  have hfw := P0.out.frees HH.out HN.out
  have NX := Lib.hid (fun q => P0.out.swapG hG (i := a) (j := p) (by omega) (by omega) q)
  clear P0 hG
  rcases Nat.eq_or_lt_of_le hap with ap | ap
  · subst ap
    go_wp2_with fail
    go_region
    all_goals go_wp2_with fail
    rename_i K hK
    refine pe_loop K _ w _ blk off cap n a b d (swp d a a) HH.out HN.out (by omega) hb hsz (NX.out 1) _ _ _ _ _ _ _ _ _ _ _ _ _ _ _ _ _ _ _ _ _ _ _ _ _ _ _ _ _ _ _ _ _ _ _ _ _ _ _ _ _ _ _ _ _ _ _ _ _ _ _ _ _ _ _ _ _ _ _ _ _ _ _ _ _ _ _ _ _ _ _ _ _ _ _ _ _ _ _ _ ?hq
    case hq =>
    intro v10 v29 v30 v31 v32 v33 v34 v35 v36 v37 v38 v39 v40 v41 v42 v43 v44 v45 v46 v47 v48 v49 v50 v51 v52 v53 v54 v55 v56 v57 v58 v59 v60 v61 v62 v63 v64 v65 v66 v67 v68 v69 v70 v71 v72 v73 v74 v75 v76 v77 v78 v79 v80 v81 v82 i2 dF w' PF E
    have FIN : Hid ((partitionEqual ltInt d a b a) = (i2, dF)) := Lib.hid E
    have PW := Lib.hid PF
    clear PF E NX
    refine hK _ _ ?_
    clear hK
    go_wp2_with fail
    go_ret
    rw [FIN.out]
    exact ⟨rfl, PW.out⟩
  · have ap' : ¬ a = p := by omega
    have ap2 : ¬ p = a := by omega
    go_wp2_with fail
    go_region
    all_goals go_wp2_with fail
    rename_i K hK
    refine pe_loop K _ w _ blk off cap n a b d (swp d a p) HH.out HN.out (by omega) hb hsz (NX.out 1) _ _ _ _ _ _ _ _ _ _ _ _ _ _ _ _ _ _ _ _ _ _ _ _ _ _ _ _ _ _ _ _ _ _ _ _ _ _ _ _ _ _ _ _ _ _ _ _ _ _ _ _ _ _ _ _ _ _ _ _ _ _ _ _ _ _ _ _ _ _ _ _ _ _ _ _ _ _ _ _ ?hq
    case hq =>
    intro v10 v29 v30 v31 v32 v33 v34 v35 v36 v37 v38 v39 v40 v41 v42 v43 v44 v45 v46 v47 v48 v49 v50 v51 v52 v53 v54 v55 v56 v57 v58 v59 v60 v61 v62 v63 v64 v65 v66 v67 v68 v69 v70 v71 v72 v73 v74 v75 v76 v77 v78 v79 v80 v81 v82 i2 dF w' PF E
    have FIN : Hid ((partitionEqual ltInt d a b p) = (i2, dF)) := Lib.hid E
    have PW := Lib.hid PF
    clear PF E NX
    refine hK _ _ ?_
    clear hK
    go_wp2_with fail
    go_ret
    rw [FIN.out]
    exact ⟨rfl, PW.out⟩

end Go.Proofs.YtombnejipaoinaaGreat
