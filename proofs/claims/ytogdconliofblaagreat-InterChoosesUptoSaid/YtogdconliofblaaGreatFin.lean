/-
  routingref33.FineReach, FineRoutes.
-/
import Derived.Test.YtogdconliofblaaGreatRtd
import Derived.Test.YtogdconliofblaaGreatSea
import Derived.Deep.DeepCutAuto
namespace Go.Proofs.YtogdconliofblaaGreat
open Go.RowKit

set_option maxHeartbeats 4000000 in
set_option maxRecDepth 100000 in
theorem finereach_calls (w : World) (v : Value) (l : List Rch) (h : ReachAt w v l) : Calls Tryz.prog 15 #[v] w (FinePost w (∀ y ∈ l, costFine y.cost)) := by
  obtain ⟨ad, cap, rfl, hlen, hc⟩ := h.get
  have HC := Lib.hid hc
  clear h hc
  have NO : Hid (FinePost w (∀ y ∈ l, costFine y.cost) (.returned (.bool false)) w) := Lib.hid ⟨false, rfl, Below.refl _ _, fun h => by cases h⟩
  go_enter Tryz.func15, Tryz.ntmps15
  go_wp2_with fail
  go_loop [3] (fun i => ∃ k : Nat, i = .int .i64 k ∧ k ≤ l.length ∧ Hid (∀ i, i < k → costFine (rchAt l i).cost)) (fun i => l.length - (intOf i).toNat)
  case atStart => exact ⟨0, rfl, Nat.zero_le _, Lib.hid (fun i hi => by omega)⟩
  case round =>
    obtain ⟨k, rfl, hk, R⟩ := hrel
    by_cases c : k < l.length
    · obtain ⟨b, off, rfl, hb0, hcc⟩ := HC.out (by omega)
      obtain ⟨-, -, -, -, -, d5, -⟩ := hcc k c
      rw [← rchAt_eq c] at d5
      have NX := Lib.hid (fun (h : costFine (rchAt l k).cost) i (hi : i < k + 1) => by
        rcases Nat.lt_or_ge i k with h' | h'
        · exact R.out i h'
        · rw [show i = k from by omega]; exact h)
      clear hcc R
      generalize rchAt l k = y at *
      obtain ⟨yr, ya, yi, yb, ybd, cost, yh, yn, yc, yhs⟩ := y
      simp only at d5
      by_cases c0 : cost < 0
      · have g0 : decide (cost < 0) = true := by simpa using c0
        go_wp2_with fail
        go_returns
        exact NO.out
      by_cases c1 : 1099511627776 < cost
      · have g1 : decide (1099511627776 < cost) = true := by simpa using c1
        have g0 : decide (cost < 0) = false := by simpa using c0
        go_wp2_with fail
        go_returns
        exact NO.out
      have N2 := Lib.hid (NX.out ⟨by simp only; omega, by simp only; omega⟩)
      have g0 : decide (cost < 0) = false := by simpa using c0
      have g1 : decide (1099511627776 < cost) = false := by simpa using c1
      go_wp2_with fail
      go_round
      case rel => exact ⟨k + 1, by go_num, c, N2⟩
      case measure => simp [intOf]; omega
    · have E : Hid (FinePost w (∀ y ∈ l, costFine y.cost) (.returned (.bool true)) w) := Lib.hid ⟨true, rfl, Below.refl _ _, fun _ y hy => by
        obtain ⟨i, hi, rfl⟩ := List.getElem_of_mem hy
        rw [← rchAt_eq hi]; exact R.out i (by omega)⟩
      go_wp2_with fail
      go_ret
      exact E.out

structure FrRel (w : World) (l : List RtH) (k : Nat) (wr : World) : Prop where
  hk : k ≤ l.length
  ok : ∀ i, i < k → validP (rthAt l i).rt.pfx = true
  gr : Gr w wr

set_option maxHeartbeats 4000000 in
set_option maxRecDepth 100000 in
theorem fineroutes_calls (w : World) (v : Value) (l : List RtH) (h : RoutesAt w v l) (ok : ∀ y ∈ l, OkP y.rt.pfx) : Calls Tryz.prog 31 #[v] w (FinePost w (∀ y ∈ l, validP y.rt.pfx = true)) := by
  obtain ⟨ad, cap, rfl, hlen, hc⟩ := h.get
  have HC := Lib.hid hc
  have OK := Lib.hid ok
  clear h hc ok
  have NO : Hid (∀ W, Gr w W → FinePost w (∀ y ∈ l, validP y.rt.pfx = true) (.returned (.bool false)) W) := Lib.hid fun W g => ⟨false, rfl, g.b, fun h => by cases h⟩
  have R0 : Hid (FrRel w l 0 w) := Lib.hid ⟨Nat.zero_le _, fun i hi => by omega, Gr.refl _⟩
  go_enter Tryz.func31, Tryz.ntmps31
  go_wp2_with fail
  go_loopw [3] (fun i wr => ∃ k : Nat, i = .int .i64 k ∧ FrRel w l k wr) (fun i _ => l.length - (intOf i).toNat)
  case atStart => exact ⟨0, rfl, R0.out⟩
  case round =>
    clear R0
    obtain ⟨k, rfl, R⟩ := hrel
    have hk := R.hk
    by_cases c : k < l.length
    · obtain ⟨b, off, rfl, hb0, hcc⟩ := HC.out (by omega)
      obtain ⟨d0, d1, -⟩ := (hcc k c).below R.gr.b hb0
      rw [← rthAt_eq c] at d0 d1
      have okk : OkP (rthAt l k).rt.pfx := by rw [rthAt_eq c]; exact OK.out _ (List.getElem_mem c)
      have FC := Lib.hid (fun W => fits_calls (rthAt l k).rt.pfx.addr (rthAt l k).rt.pfx.len okk.a0 okk.a1 W)
      have NX := Lib.hid (fun (h : validP (rthAt l k).rt.pfx = true) (W : World) (g : Gr wr W) => (⟨c, fun i hi => by
        rcases Nat.lt_or_ge i k with h' | h'
        · exact R.ok i h'
        · rw [show i = k from by omega]; exact h, R.gr.trans g⟩ : FrRel w l (k + 1) W))
      have ST := Lib.hid (fun (W : World) (g : Gr wr W) => NO.out W (R.gr.trans g))
      have i0 : (0 : Int) ≤ (k : Int) := by omega
      have i1 : (k : Int) < (l.length : Int) := by omega
      clear hcc R okk
      generalize rthAt l k = y at *
      obtain ⟨⟨⟨pa, pl⟩, proto, area, cost, second, cost2, tag, ha, hn, hcp⟩, hops⟩ := y
      simp only at d0 d1 FC NX
      have EF : Hid (fitsB pa pl = validP ⟨pa, pl⟩) := Lib.hid rfl
      cases hf : fitsB pa pl with
      | false =>
        rw [hf] at FC
        have E := Lib.hid (fun n => ST.out (wr.drewN n) ((Gr.refl _).drewN n))
        go_wp2_with fail
        go_quiet ((go_at_call 70; exact quiet1 FC.out))
        go_wp2_with fail
        go_returns
        exact E.out _
      | true =>
        have N2 := Lib.hid (fun n => NX.out (EF.out ▸ hf) (wr.drewN n) ((Gr.refl _).drewN n))
        rw [hf] at FC
        go_wp2_with fail
        go_quiet ((go_at_call 70; exact quiet1 FC.out))
        clear d0 d1
        go_wp2_with fail
        go_roundw
        case rel => exact ⟨k + 1, by go_num, N2.out _⟩
        case measure => simp [intOf]; omega
    · have E : Hid (FinePost w (∀ y ∈ l, validP y.rt.pfx = true) (.returned (.bool true)) wr) := Lib.hid ⟨true, rfl, R.gr.b, fun _ y hy => by
        obtain ⟨i, hi, rfl⟩ := List.getElem_of_mem hy
        rw [← rthAt_eq hi]; exact R.ok i (by omega)⟩
      clear R
      go_wp2_with fail
      go_ret
      exact E.out


end Go.Proofs.YtogdconliofblaaGreat
