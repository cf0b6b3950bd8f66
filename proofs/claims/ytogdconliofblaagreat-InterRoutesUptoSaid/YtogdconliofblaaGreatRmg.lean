/-
  routingref32.Merge of hops.
-/
import Derived.Test.YtogdconliofblaaGreatAdd
namespace Go.Proofs.YtogdconliofblaaGreat
open Go.RowKit

theorem Ls.adds_len {α : Type} [DecidableEq α] {lt : α → α → Bool} (m : List α) : ∀ l : List α, (Ls.adds lt l m).length ≤ l.length + m.length := by
  have h1 : ∀ (l : List α) (h : α), (Ls.add lt l h).length ≤ l.length + 1 := by
    intro l h
    induction l with
    | nil => simp [Ls.add]
    | cons y l ih =>
      unfold Ls.add
      split
      · simp
      · split
        · simp
        · simp only [List.length_cons]; omega
  unfold Ls.adds
  induction m with
  | nil => intro l; simp
  | cons y m ih => intro l; rw [List.foldl_cons]; have := ih (Ls.add lt l y); have := h1 l y; simp; omega

theorem hop_room {q a b : Nat} (h : q ≤ a + b) (hn : (a + b + 2) * 16 ≤ 140737488355328) : (q + 2) * 16 ≤ 140737488355328 :=
  Nat.le_trans (Nat.mul_le_mul_right 16 (by clear hn; omega)) hn

set_option maxHeartbeats 1000000 in
set_option maxRecDepth 100000 in
theorem rmerge_calls (w : World) (va vb : Value) (la lb : List Ls.Hop) (ha : HopsAt w va la) (hb : HopsAt w vb lb) (hn : (la.length + lb.length + 2) * 16 ≤ 140737488355328) : Calls Tryz.prog 62 #[va, vb] w (MrgPost w (Ls.merge Ls.hopLt la lb)) := by
  obtain ⟨a1, c1, rfl, -, hm1, -, hc1⟩ := ha.get
  obtain ⟨a2, c2, rfl, -, hm2, -, hc2⟩ := hb.get
  have hl1 : la.length ≤ 9223372036854775807 := by omega
  have hl2 : lb.length ≤ 9223372036854775807 := by omega
  have HCA := Lib.hid hc1
  have HCB := Lib.hid hc2
  have HN := Lib.hid hn
  have O0 : Hid (HopsOwn w.heap.size (w.alloc (.cells #[] 60)) (.slice (some ⟨w.heap.size, 0, none⟩) 0 0) []) := Lib.hid (by
    have := World.ownsRow_made (size := 3) (e := 60) (base := w.heap.size) w #[] 0 (by simp) (by unfold maxLen; omega) rfl
    simpa [HopsOwn] using this)
  have B0 : Hid (Below w.heap.size w (w.alloc (.cells #[] 60))) := Lib.hid ((Below.refl _ _).alloc (Nat.le_refl _) _)
  clear ha hb hm1 hm2 hc1 hc2 hn
  go_enter Tryz.func62, Tryz.ntmps62
  go_wp2_with fail
  go_loopw [5, 6] (fun o i wr => ∃ k : Nat, i = .int .i64 k ∧ k ≤ la.length ∧ Hid (HopsOwn w.heap.size wr o (Ls.adds Ls.hopLt [] (la.take k)) ∧ Below w.heap.size w wr)) (fun _ i _ => la.length - (intOf i).toNat)
  case atStart => exact ⟨0, rfl, Nat.zero_le _, Lib.hid ⟨O0.out, B0.out⟩⟩
  case round =>
    obtain ⟨k, rfl, hk, R⟩ := hrel
    by_cases c : k < la.length
    · obtain ⟨b, off, rfl, hb0, hcc⟩ := HCA.out (by omega)
      obtain ⟨d0, d1, d2⟩ := hcc k c
      have d0 := bcell R.out.2 d0
      have d1 := bcell R.out.2 d1
      have d2 := bcell R.out.2 d2
      have TK : Hid (Ls.adds Ls.hopLt [] (la.take (k + 1)) = Ls.add Ls.hopLt (Ls.adds Ls.hopLt [] (la.take k)) la[k]) := Lib.hid (by
        rw [List.take_succ_eq_append_getElem c]; unfold Ls.adds; rw [List.foldl_append]; rfl)
      have HL : Hid ((Ls.adds Ls.hopLt [] (la.take k)).length ≤ la.length + lb.length) := Lib.hid (by
        have h1 := Ls.adds_len (lt := Ls.hopLt) (la.take k) []
        simp only [List.length_nil] at h1
        rw [List.length_take] at h1; omega)
      have HLB : ((Ls.adds Ls.hopLt [] (la.take k)).length + 2) * 16 ≤ 140737488355328 := hop_room HL.out HN.out
      have AC := Lib.hid (add_calls wr u5 (Ls.adds Ls.hopLt [] (la.take k)) la[k] R.out.1.at HLB)
      simp only [hopE] at AC
      have hp : Hid (w.heap.size ≤ wr.heap.size) := Lib.hid R.out.2.size
      have RB := Lib.hid R.out.2
      clear hcc R HL HLB
      generalize la[k] = x at *
      go_wp2_with fail
      refine AC.out.mono ?_
      rintro e w2 ⟨v2, rfl, O2, B2⟩
      have NX : Hid (HopsOwn w.heap.size w2 v2 (Ls.adds Ls.hopLt [] (la.take (k + 1))) ∧ Below w.heap.size w w2) := Lib.hid ⟨by rw [TK.out]; exact hown_base O2 hp.out, RB.out.trans (B2.mono hp.out)⟩
      clear O2 B2 AC d0 d1 d2 TK
      go_wp2_with fail
      go_roundw
      case rel => exact ⟨k + 1, by go_num, c, NX⟩
      case measure => simp [intOf]; omega
    · have RE : Hid (HopsOwn w.heap.size wr u5 (Ls.adds Ls.hopLt [] la) ∧ Below w.heap.size w wr) := Lib.hid (by
        have := R.out; rwa [List.take_of_length_le (by omega)] at this)
      clear R
      go_wp2_with fail
      clear hk c
      go_loopw [5, 7] (fun o i wr => ∃ k : Nat, i = .int .i64 k ∧ k ≤ lb.length ∧ Hid (HopsOwn w.heap.size wr o (Ls.adds Ls.hopLt (Ls.adds Ls.hopLt [] la) (lb.take k)) ∧ Below w.heap.size w wr)) (fun _ i _ => lb.length - (intOf i).toNat)
      case atStart => exact ⟨0, rfl, Nat.zero_le _, by simpa [Ls.adds] using RE⟩
      case round =>
        obtain ⟨k, rfl, hk, R⟩ := hrel
        by_cases c : k < lb.length
        · obtain ⟨b, off, rfl, hb0, hcc⟩ := HCB.out (by omega)
          obtain ⟨d0, d1, d2⟩ := hcc k c
          have d0 := bcell R.out.2 d0
          have d1 := bcell R.out.2 d1
          have d2 := bcell R.out.2 d2
          have TK : Hid (Ls.adds Ls.hopLt (Ls.adds Ls.hopLt [] la) (lb.take (k + 1)) = Ls.add Ls.hopLt (Ls.adds Ls.hopLt (Ls.adds Ls.hopLt [] la) (lb.take k)) lb[k]) := Lib.hid (by
            rw [List.take_succ_eq_append_getElem c]; unfold Ls.adds; rw [List.foldl_append]; rfl)
          have HL : Hid ((Ls.adds Ls.hopLt (Ls.adds Ls.hopLt [] la) (lb.take k)).length ≤ la.length + lb.length) := Lib.hid (by
            have h1 := Ls.adds_len (lt := Ls.hopLt) (lb.take k) (Ls.adds Ls.hopLt [] la)
            have h2 := Ls.adds_len (lt := Ls.hopLt) la []
            simp only [List.length_nil] at h2
            rw [List.length_take] at h1; omega)
          have HLB : ((Ls.adds Ls.hopLt (Ls.adds Ls.hopLt [] la) (lb.take k)).length + 2) * 16 ≤ 140737488355328 := hop_room HL.out HN.out
          have AC := Lib.hid (add_calls wr u5 (Ls.adds Ls.hopLt (Ls.adds Ls.hopLt [] la) (lb.take k)) lb[k] R.out.1.at HLB)
          simp only [hopE] at AC
          have hp : Hid (w.heap.size ≤ wr.heap.size) := Lib.hid R.out.2.size
          have RB := Lib.hid R.out.2
          clear hcc R HL HLB
          generalize lb[k] = x at *
          go_wp2_with fail
          refine AC.out.mono ?_
          rintro e w2 ⟨v2, rfl, O2, B2⟩
          have NX : Hid (HopsOwn w.heap.size w2 v2 (Ls.adds Ls.hopLt (Ls.adds Ls.hopLt [] la) (lb.take (k + 1))) ∧ Below w.heap.size w w2) := Lib.hid ⟨by rw [TK.out]; exact hown_base O2 hp.out, RB.out.trans (B2.mono hp.out)⟩
          clear O2 B2 AC d0 d1 d2 TK
          go_wp2_with fail
          go_roundw
          case rel => exact ⟨k + 1, by go_num, c, NX⟩
          case measure => simp [intOf]; omega
        · have RE : Hid (HopsOwn w.heap.size wr u5 (Ls.adds Ls.hopLt (Ls.adds Ls.hopLt [] la) lb) ∧ Below w.heap.size w wr) := Lib.hid (by
            have := R.out; rwa [List.take_of_length_le (by omega)] at this)
          clear R
          have FIN : Hid (MrgPost w (Ls.merge Ls.hopLt la lb) (.returned u5) wr) := Lib.hid ⟨u5, rfl, RE.out.1, RE.out.2⟩
          go_wp2_with fail
          go_ret
          exact FIN.out

end Go.Proofs.YtogdconliofblaaGreat
