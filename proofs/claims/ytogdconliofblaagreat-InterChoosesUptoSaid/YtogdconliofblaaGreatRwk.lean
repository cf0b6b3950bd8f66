/-
  routingref33.Way.
-/
import Derived.Test.YtogdconliofblaaGreatWay
namespace Go.Proofs.YtogdconliofblaaGreat
open Go.RowKit

set_option maxHeartbeats 8000000 in
set_option maxRecDepth 100000 in
theorem rway_calls (w : World) (v : Value) (l : List Rch) (h : ReachAt w v l) (area router : Int) :
    Calls Tryz.prog 17 #[v, .int .u32 area, .int .u32 router] w fun e w' => e = .returned (wayR area router l) ∧ Gr w w' := by
  obtain ⟨a, cap, rfl, hl, hc⟩ := h.get
  have HC := Lib.hid hc
  obtain ⟨W0, hW0⟩ : ∃ W0, w.alloc (.cells #[.int .u32 0, .int .u32 0, .bool false, .bool false, .bool false, .int .i64 0, .slice none 0 0] 50) = W0 := ⟨_, rfl⟩
  have G0 : Gr w W0 := by rw [← hW0]; exact (Gr.refl _).alloc _
  have bz : W0.heap[w.heap.size]? = some (.cells #[.int .u32 0, .int .u32 0, .bool false, .bool false, .bool false, .int .i64 0, .slice none 0 0] 50 (0, 0)) := by rw [← hW0]; exact alloc_new w _
  have HBZ := Lib.hid bz
  have HW0 := Lib.hid hW0
  have HG0 := Lib.hid G0
  clear hW0 bz h hc G0
  go_enter Tryz.func17, Tryz.ntmps17
  go_upto_region 1 with fail
  rw [HW0.out]
  go_wp2_with fail
  go_loop [8] (fun iv => ∃ k : Nat, iv = .int .i64 k ∧ k ≤ l.length ∧ Hid ((l.take k).any (wayM area router) = false)) (fun i => l.length - (intOf i).toNat)
  case atStart => exact ⟨0, rfl, Nat.zero_le _, Lib.hid (by simp)⟩
  case round =>
    obtain ⟨k, rfl, hk, NO⟩ := hrel
    by_cases c : k < l.length
    · obtain ⟨b, off, rfl, hb, hcc⟩ := HC.out (by omega)
      obtain ⟨d0, d1, d2, d3, d4, d5, d6⟩ := hcc k c
      have hne : ¬ b = w.heap.size := by omega
      have hne' : ¬ w.heap.size = b := by omega
      have up : ∀ {o : Nat} {u : Value}, w.cell? ⟨b, o, none⟩ = some u → W0.cell? ⟨b, o, none⟩ = some u := fun {o u} hh => (World.cell?_of_block (w := w) (w' := W0) (a := ⟨b, o, none⟩) (HG0.out.b.block b hb)).trans hh
      replace d0 := up d0
      replace d1 := up d1
      replace d2 := up d2
      replace d3 := up d3
      replace d4 := up d4
      replace d5 := up d5
      replace d6 := up d6
      have YES : Hid (wayM area router l[k] = true → wayR area router l = .tuple #[.agg (rchE l[k]).toArray, .bool true]) := Lib.hid (fun h => by unfold wayR wayF; rw [find_at _ l k c NO.out h])
      have NX : Hid (wayM area router l[k] = false → (l.take (k + 1)).any (wayM area router) = false) := Lib.hid (fun h => by rw [any_take _ l c NO.out]; exact h)
      have KC := Lib.hid c
      have n0 : (0 : Int) ≤ (k : Int) := by omega
      have n1 : (k : Int) < (l.length : Int) := by omega
      have n3 : ((k : Int)).toNat = k := by omega
      clear hcc up NO
      generalize l[k] = x at *
      clear c
      obtain ⟨xr, xa, xinter, xborder, xbound, xc, xha, xhn, xhc, xh⟩ := x
      simp only [rchE] at d0 d1 d2 d3 d4 d5 d6 YES
      by_cases q1 : xr = router
      · have e1 : (xr == router) = true := by simpa using q1
        by_cases q2 : xa = area
        · have e2 : (xa == area) = true := by simpa using q2
          cases xborder with
          | false =>
            have N := Lib.hid (NX.out (by simp [wayM]))
            clear NX YES q1 q2
            go_wp2_with fail
            go_round
            case rel => exact ⟨k + 1, by go_num, KC.out, N⟩
            case measure => simp [intOf]; have := KC.out; omega
          | true =>
            cases xinter with
            | true =>
              have N := Lib.hid (NX.out (by simp [wayM]))
              clear NX YES q1 q2
              go_wp2_with fail
              go_round
              case rel => exact ⟨k + 1, by go_num, KC.out, N⟩
              case measure => simp [intOf]; have := KC.out; omega
            | false =>
              have EW := Lib.hid (YES.out (by simp [wayM, q1, q2]))
              clear NX YES q1 q2
              obtain ⟨W', hW'⟩ : ∃ W', setRch W0 w.heap.size ⟨xr, xa, false, true, xbound, xc, xha, xhn, xhc, xh⟩ = W' := ⟨_, rfl⟩
              have bk' : W'.heap[w.heap.size]? = some (.cells #[.int .u32 xr, .int .u32 xa, .bool false, .bool true, .bool xbound, .int .i64 xc, .slice xha xhn xhc] 50 (0, 0)) := by rw [← hW']; exact setRch_blk HBZ.out _
              have HG2 : Hid (Gr w W') := Lib.hid (by rw [← hW']; exact setRch_gr HG0.out (Nat.le_refl _) _)
              unfold setRch at hW'
              simp only at hW'
              have HW' := Lib.hid hW'
              have z0 := blk_cell (i := 0) HBZ.out rfl
              have z1 := blk_cell (i := 1) HBZ.out rfl
              have z2 := blk_cell (i := 2) HBZ.out rfl
              have z3 := blk_cell (i := 3) HBZ.out rfl
              have z4 := blk_cell (i := 4) HBZ.out rfl
              have z5 := blk_cell (i := 5) HBZ.out rfl
              have z6 := blk_cell (i := 6) HBZ.out rfl
              have f0 := blk_free HBZ.out 0
              have f1 := blk_free HBZ.out 1
              have f2 := blk_free HBZ.out 2
              have f3 := blk_free HBZ.out 3
              have f4 := blk_free HBZ.out 4
              have f5 := blk_free HBZ.out 5
              have f6 := blk_free HBZ.out 6
              have g0 := blk_cell (i := 0) bk' rfl
              have g1 := blk_cell (i := 1) bk' rfl
              have g2 := blk_cell (i := 2) bk' rfl
              have g3 := blk_cell (i := 3) bk' rfl
              have g4 := blk_cell (i := 4) bk' rfl
              have g5 := blk_cell (i := 5) bk' rfl
              have g6 := blk_cell (i := 6) bk' rfl
              have G := Lib.hid (And.intro g0 (And.intro g1 (And.intro g2 (And.intro g3 (And.intro g4 (And.intro g5 g6))))))
              clear hW' bk' g0 g1 g2 g3 g4 g5 g6
              go_wp2_with fail
              rw [HW'.out]
              obtain ⟨g0, g1, g2, g3, g4, g5, g6⟩ := G.out
              exact bodyPost_ret (v := .tuple #[.agg #[.int .u32 xr, .int .u32 xa, .bool false, .bool true, .bool xbound, .int .i64 xc, .slice xha xhn xhc], .bool true]) (by simp [results, Tryz.results17, go_sem, g0, g1, g2, g3, g4, g5, g6]) rfl ⟨by rw [EW.out], HG2.out⟩
        · have e2 : (xa == area) = false := by simpa using q2
          have N := Lib.hid (NX.out (by simp [wayM, q2]))
          clear NX YES q1 q2
          go_wp2_with fail
          go_round
          case rel => exact ⟨k + 1, by go_num, KC.out, N⟩
          case measure => simp [intOf]; have := KC.out; omega
      · have e1 : (xr == router) = false := by simpa using q1
        have N := Lib.hid (NX.out (by simp [wayM, q1]))
        clear NX YES q1
        go_wp2_with fail
        go_round
        case rel => exact ⟨k + 1, by go_num, KC.out, N⟩
        case measure => simp [intOf]; have := KC.out; omega
    · have EW : Hid (wayR area router l = .tuple #[.agg (rchE rchZ).toArray, .bool false]) := Lib.hid (by
        have ek : k = l.length := by omega
        subst ek
        have NO := NO.out
        rw [List.take_length, List.any_eq_false] at NO
        unfold wayR wayF
        rw [List.find?_eq_none.2 NO])
      clear NO
      simp only [rchE, rchZ] at EW
      obtain ⟨W', hW'⟩ : ∃ W', setRch W0 w.heap.size ⟨0, 0, false, false, false, 0, none, 0, 0, []⟩ = W' := ⟨_, rfl⟩
      have bk' : W'.heap[w.heap.size]? = some (.cells #[.int .u32 0, .int .u32 0, .bool false, .bool false, .bool false, .int .i64 0, .slice none 0 0] 50 (0, 0)) := by rw [← hW']; exact setRch_blk HBZ.out _
      have HG2 : Hid (Gr w W') := Lib.hid (by rw [← hW']; exact setRch_gr HG0.out (Nat.le_refl _) _)
      unfold setRch at hW'
      simp only at hW'
      have HW' := Lib.hid hW'
      have z0 := blk_cell (i := 0) HBZ.out rfl
      have z1 := blk_cell (i := 1) HBZ.out rfl
      have z2 := blk_cell (i := 2) HBZ.out rfl
      have z3 := blk_cell (i := 3) HBZ.out rfl
      have z4 := blk_cell (i := 4) HBZ.out rfl
      have z5 := blk_cell (i := 5) HBZ.out rfl
      have z6 := blk_cell (i := 6) HBZ.out rfl
      have f0 := blk_free HBZ.out 0
      have f1 := blk_free HBZ.out 1
      have f2 := blk_free HBZ.out 2
      have f3 := blk_free HBZ.out 3
      have f4 := blk_free HBZ.out 4
      have f5 := blk_free HBZ.out 5
      have f6 := blk_free HBZ.out 6
      have g0 := blk_cell (i := 0) bk' rfl
      have g1 := blk_cell (i := 1) bk' rfl
      have g2 := blk_cell (i := 2) bk' rfl
      have g3 := blk_cell (i := 3) bk' rfl
      have g4 := blk_cell (i := 4) bk' rfl
      have g5 := blk_cell (i := 5) bk' rfl
      have g6 := blk_cell (i := 6) bk' rfl
      have G := Lib.hid (And.intro g0 (And.intro g1 (And.intro g2 (And.intro g3 (And.intro g4 (And.intro g5 g6))))))
      clear hW' bk' g0 g1 g2 g3 g4 g5 g6
      go_wp2_with fail
      rw [HW'.out]
      obtain ⟨g0, g1, g2, g3, g4, g5, g6⟩ := G.out
      exact bodyPost_ret (v := .tuple #[.agg #[.int .u32 0, .int .u32 0, .bool false, .bool false, .bool false, .int .i64 0, .slice none 0 0], .bool false]) (by simp [results, Tryz.results17, go_sem, g0, g1, g2, g3, g4, g5, g6]) rfl ⟨by rw [EW.out], HG2.out⟩

end Go.Proofs.YtogdconliofblaaGreat
