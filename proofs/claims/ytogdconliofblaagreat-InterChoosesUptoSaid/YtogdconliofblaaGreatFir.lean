/-
  routingref32.Less.
-/
/-
  routingref33.Fine: ranges are valid and in order.
-/
import Derived.Test.YtogdconliofblaaGreatSea
import Derived.Test.YtogdconliofblaaGreatCmr
import Derived.Test.YtogdconliofblaaGreatTks
import Derived.Test.YtogdconliofblaaGreatSmz
import Derived.IntWalk
import Derived.Deep.DeepCutAuto
import Derived.BigQuiet
namespace Go.Proofs.YtogdconliofblaaGreat
open Go.RowKit

set_option maxHeartbeats 1000000 in
theorem less_calls (p q : Ls.Pfx) (w : World) : Calls Tryz.prog 71 #[.agg #[.int .u32 p.addr, .int .i64 p.len], .agg #[.int .u32 q.addr, .int .i64 q.len]] w fun e w' => e = .returned (.bool (Ls.pfxLt p q)) ∧ Gr w w' := by
  obtain ⟨pa, pl⟩ := p
  obtain ⟨qa, ql⟩ := q
  simp only
  by_cases h1 : pa < qa
  · rw [show Ls.pfxLt ⟨pa, pl⟩ ⟨qa, ql⟩ = true from by simp [Ls.pfxLt, Ls.lexB, h1]]
    go_enter Tryz.func71, Tryz.ntmps71
    go_wp2_with fail
    go_ret
    exact ⟨rfl, ((Gr.refl _).alloc _).alloc _⟩
  · have d1 : decide (pa < qa) = false := by simpa using h1
    by_cases h2 : pa = qa
    · subst h2
      by_cases h3 : pl < ql
      · rw [show Ls.pfxLt ⟨pa, pl⟩ ⟨pa, ql⟩ = true from by simp [Ls.pfxLt, Ls.lexB, h3]]
        go_enter Tryz.func71, Tryz.ntmps71
        go_wp2_with fail
        go_ret
        exact ⟨rfl, ((Gr.refl _).alloc _).alloc _⟩
      · have d3 : decide (pl < ql) = false := by simpa using h3
        rw [show Ls.pfxLt ⟨pa, pl⟩ ⟨pa, ql⟩ = false from by simp [Ls.pfxLt, Ls.lexB, h3]]
        go_enter Tryz.func71, Tryz.ntmps71
        go_wp2_with fail
        go_ret
        exact ⟨rfl, ((Gr.refl _).alloc _).alloc _⟩
    · rw [show Ls.pfxLt ⟨pa, pl⟩ ⟨qa, ql⟩ = false from by simp [Ls.pfxLt, Ls.lexB, h1, h2]]
      have d2 : (pa == qa) = false := by simpa using h2
      clear h2
      go_enter Tryz.func71, Tryz.ntmps71
      go_wp2_with fail
      go_ret
      exact ⟨rfl, ((Gr.refl _).alloc _).alloc _⟩

end Go.Proofs.YtogdconliofblaaGreat

namespace Go.Proofs.YtogdconliofblaaGreat
open Go.RowKit

def agLt (a b : Arg) : Prop := a.area < b.area ∨ a.area = b.area ∧ Ls.pfxLt a.pfx b.pfx = true
def ArgsFine (l : List Arg) : Prop := (∀ o ∈ l, validP o.pfx = true) ∧ ∀ i, 0 < i → i < l.length → agLt (argAt l (i - 1)) (argAt l i)

structure FnRel (w : World) (l : List Arg) (k : Nat) (wr : World) : Prop where
  hk : k ≤ l.length
  ok : ∀ i, i < k → validP (argAt l i).pfx = true
  od : ∀ i, 0 < i → i < k → agLt (argAt l (i - 1)) (argAt l i)
  gr : Gr w wr
theorem FnRel.step {w : World} {l : List Arg} {k : Nat} {wr W : World} (R : FnRel w l k wr) (c : k < l.length) (h : validP (argAt l k).pfx = true) (h2 : 0 < k → agLt (argAt l (k - 1)) (argAt l k)) (g : Gr wr W) : FnRel w l (k + 1) W :=
  ⟨c, fun i hi => by
    rcases Nat.lt_or_ge i k with h' | h'
    · exact R.ok i h'
    · rw [show i = k from by omega]; exact h, fun i h0 hi => by
    rcases Nat.lt_or_ge i k with h' | h'
    · exact R.od i h0 h'
    · obtain rfl : i = k := by omega
      exact h2 h0, R.gr.trans g⟩

set_option maxHeartbeats 8000000 in
set_option maxRecDepth 100000 in
theorem fineranges_calls (w : World) (v : Value) (l : List Arg) (h : RngsAt w v l) (ok : ∀ o ∈ l, OkP o.pfx) : Calls Tryz.prog 30 #[v] w (FinePost w (ArgsFine l)) := by
  obtain ⟨ad, cap, rfl, hlen, hc⟩ := h.get
  have HC := Lib.hid hc
  have OK := Lib.hid ok
  clear h hc ok
  have mixed : Tryz.prog.follows .mixedOrders = true := by kernel_rfl
  have NO : Hid (∀ W, Gr w W → FinePost w (ArgsFine l) (.returned (.bool false)) W) := Lib.hid fun W g => ⟨false, rfl, g.b, fun h => by cases h⟩
  have R0 : Hid (FnRel w l 0 w) := Lib.hid ⟨Nat.zero_le _, fun i hi => by omega, fun i _ hi => by omega, Gr.refl _⟩
  go_enter Tryz.func30, Tryz.ntmps30
  go_wp2_with fail
  go_loopw [3] (fun i wr => ∃ k : Nat, i = .int .i64 k ∧ FnRel w l k wr) (fun i _ => l.length - (intOf i).toNat)
  case atStart => exact ⟨0, rfl, R0.out⟩
  case round =>
    clear R0
    obtain ⟨k, rfl, R⟩ := hrel
    have hk := R.hk
    by_cases c : k < l.length
    · obtain ⟨b, off, rfl, hb0, hcc⟩ := HC.out (by omega)
      have D0 : Hid (AgCells wr b (off + k * 4) (argAt l k)) := Lib.hid (by rw [argAt_eq c]; exact (hcc k c).below R.gr.b hb0)
      have PV : Hid (0 < k → AgCells wr b (off + (k - 1) * 4) (argAt l (k - 1))) := Lib.hid (fun h0 => by
        have c' : k - 1 < l.length := by omega
        rw [argAt_eq c']; exact (hcc (k - 1) c').below R.gr.b hb0)
      have okk : OkP (argAt l k).pfx := by rw [argAt_eq c]; exact OK.out _ (List.getElem_mem c)
      have FC := Lib.hid (fun W => fits_calls (argAt l k).pfx.addr (argAt l k).pfx.len okk.a0 okk.a1 W)
      have NX := Lib.hid (fun (h : validP (argAt l k).pfx = true) (h2 : 0 < k → agLt (argAt l (k - 1)) (argAt l k)) (W : World) (g : Gr wr W) => R.step c h h2 g)
      have ST := Lib.hid (fun (W : World) (g : Gr wr W) => NO.out W (R.gr.trans g))
      have LC := Lib.hid (fun W => (less_calls (argAt l (k - 1)).pfx (argAt l k).pfx W).mono fun _ _ h => (⟨h.1, h.2.grow⟩ : _ ∧ ∃ q os, _ = Go.Sort.grow (World.drewN W q) os))
      have KC := Lib.hid c
      have i0 : (0 : Int) ≤ (k : Int) := by omega
      have i1 : (k : Int) < (l.length : Int) := by omega
      have s3 : ((k : Int)).toNat = k := by omega
      have hbw : b < wr.heap.size := Nat.lt_of_lt_of_le hb0 R.gr.b.size
      clear hcc R okk c
      generalize hz : argAt l (k - 1) = z at *
      generalize argAt l k = y at *
      obtain ⟨za, ⟨zp, zl⟩, zadv⟩ := z
      obtain ⟨ga, ⟨gp, gl⟩, gadv⟩ := y
      obtain ⟨d0, d1, d2, d3⟩ := D0.out
      simp only at d0 d1 d2 d3 FC LC
      have EF : Hid (fitsB gp gl = validP ⟨gp, gl⟩) := Lib.hid rfl
      clear d3
      cases hf : fitsB gp gl with
      | false =>
        rw [hf] at FC
        have E := Lib.hid (fun n => ST.out (wr.drewN n) ((Gr.refl _).drewN n))
        go_wp2_with fail
        go_quiet ((go_at_call 70; exact quiet1 FC.out))
        clear d0 d1 d2
        go_wp2_with fail
        go_returns
        exact E.out _
      | true =>
        have VP := Lib.hid (EF.out ▸ hf)
        rw [hf] at FC
        go_wp2_with fail
        go_quiet ((go_at_call 70; exact quiet1 FC.out))
        --AFTER
        clear d0 d1 d2
        have GW : Hid (Gr wr (wr.drewN nq)) := Lib.hid ((Gr.refl wr).drewN nq)
        generalize wr.drewN nq = W2 at *
        have GR := Lib.hid (fun n os => GW.out.trans (Gr.of_grow (W := W2) n os))
        go_wp2_with fail
        rcases Nat.eq_zero_or_pos k with h0 | h0
        · subst h0
          have NX2 := Lib.hid (fun n => NX.out VP.out (fun h => absurd h (by omega)) (W2.drewN n) (GW.out.trans ((Gr.refl W2).drewN n)))
          clear PV D0 LC FC
          go_quiet (fail)
          go_wp2_with fail
          go_roundw
          case rel => exact ⟨1, by go_num, NX2.out _⟩
          case measure => simp [intOf]; have := KC.out; omega
        · obtain ⟨z0, z1, z2, -⟩ := (PV.out h0).below GW.out.b hbw
          obtain ⟨d0, d1, d2, -⟩ := D0.out.below GW.out.b hbw
          obtain ⟨j, rfl⟩ : ∃ j, k = j + 1 := ⟨k - 1, by omega⟩
          rw [Nat.add_sub_cancel] at z0 z1 z2
          simp only at z0 z1 z2 d0 d1 d2
          have x0 : ∀ n os, (Go.Sort.grow (W2.drewN n) os).cell? ⟨b, off + j * 4, none⟩ = some (.int .u32 za) := cell_grown (World.block_lt_of_cell? _ _ z0) z0
          have x1 : ∀ n os, (Go.Sort.grow (W2.drewN n) os).cell? ⟨b, off + j * 4 + 1, none⟩ = some (.int .u32 zp) := cell_grown (World.block_lt_of_cell? _ _ z1) z1
          have x2 : ∀ n os, (Go.Sort.grow (W2.drewN n) os).cell? ⟨b, off + j * 4 + 2, none⟩ = some (.int .i64 zl) := cell_grown (World.block_lt_of_cell? _ _ z2) z2
          have y0 : ∀ n os, (Go.Sort.grow (W2.drewN n) os).cell? ⟨b, off + (j + 1) * 4, none⟩ = some (.int .u32 ga) := cell_grown (World.block_lt_of_cell? _ _ d0) d0
          have y1 : ∀ n os, (Go.Sort.grow (W2.drewN n) os).cell? ⟨b, off + (j + 1) * 4 + 1, none⟩ = some (.int .u32 gp) := cell_grown (World.block_lt_of_cell? _ _ d1) d1
          have y2 : ∀ n os, (Go.Sort.grow (W2.drewN n) os).cell? ⟨b, off + (j + 1) * 4 + 2, none⟩ = some (.int .i64 gl) := cell_grown (World.block_lt_of_cell? _ _ d2) d2
          have N2 := Lib.hid (fun h W g => NX.out VP.out (fun _ => h) W g)
          have j0 : (0 : Int) ≤ (j : Int) := by omega
          have j1 : (j : Int) < (l.length : Int) := by omega
          have s1 : IntKind.i64.wrap (((j + 1 : Nat) : Int) - 1) = (j : Int) := by rw [IntWalk.i64_in _ (by omega)]; omega
          have s2 : ((j : Int)).toNat = j := by omega
          have k1 : decide ((0 : Int) < ((j + 1 : Nat) : Int)) = true := decide_eq_true (by omega)
          clear z0 z1 z2 d0 d1 d2 PV D0 NX h0 FC
          by_cases h1 : za < ga
          · have e1 : decide (za < ga) = true := decide_eq_true h1
            have N3 := Lib.hid (N2.out (.inl h1))
            clear N2 LC h1
            refine wp_region_quiet_grown (by assumption) (by kernel_rfl) ?_
            repeat (go_big_quiet_step (fail))
            refine wpQuiet_nil ?_
            intro _ hw'
            obtain ⟨⟨nq2, osq⟩, hw''⟩ := hw'
            subst hw''
            have FI := Lib.hid (N3.out _ (GR.out nq2 osq))
            clear x0 x1 x2 y0 y1 y2
            go_wp2_with fail
            go_roundw
            case rel => exact ⟨j + 1 + 1, by go_num, FI.out⟩
            case measure => simp [intOf]; omega
          · have e1 : decide (za < ga) = false := decide_eq_false h1
            by_cases h2 : za = ga
            · have e2 : (za == ga) = true := by simpa using h2
              cases hp : Ls.pfxLt ⟨zp, zl⟩ ⟨gp, gl⟩ with
              | true =>
                rw [hp] at LC
                have N3 := Lib.hid (N2.out (.inr ⟨h2, hp⟩))
                clear N2 h1 h2 hp
                refine wp_region_quiet_grown (by assumption) (by kernel_rfl) ?_
                repeat (go_big_quiet_step ((go_at_call 71; with_reducible exact Calls.grown_of (LC.out _))))
                refine wpQuiet_nil ?_
                intro _ hw'
                obtain ⟨⟨nq2, osq⟩, hw''⟩ := hw'
                subst hw''
                have FI := Lib.hid (N3.out _ (GR.out nq2 osq))
                clear x0 x1 x2 y0 y1 y2
                go_wp2_with fail
                go_roundw
                case rel => exact ⟨j + 1 + 1, by go_num, FI.out⟩
                case measure => simp [intOf]; omega
              | false =>
                rw [hp] at LC
                clear N2 h1 h2 hp
                refine wp_region_quiet_grown (by assumption) (by kernel_rfl) ?_
                repeat (go_big_quiet_step ((go_at_call 71; with_reducible exact Calls.grown_of (LC.out _))))
                refine wpQuiet_nil ?_
                intro _ hw'
                obtain ⟨⟨nq2, osq⟩, hw''⟩ := hw'
                subst hw''
                have FI := Lib.hid (ST.out _ (GR.out nq2 osq))
                clear x0 x1 x2 y0 y1 y2
                go_wp2_with fail
                go_returns
                exact FI.out
            · have e2 : (za == ga) = false := by simpa using h2
              clear N2 LC h1 h2
              refine wp_region_quiet_grown (by assumption) (by kernel_rfl) ?_
              repeat (go_big_quiet_step (fail))
              refine wpQuiet_nil ?_
              intro _ hw'
              obtain ⟨⟨nq2, osq⟩, hw''⟩ := hw'
              subst hw''
              have FI := Lib.hid (ST.out _ (GR.out nq2 osq))
              clear x0 x1 x2 y0 y1 y2
              go_wp2_with fail
              go_returns
              exact FI.out
    · have E : Hid (FinePost w (ArgsFine l) (.returned (.bool true)) wr) := Lib.hid ⟨true, rfl, R.gr.b, fun _ => ⟨fun y hy => by
        obtain ⟨i, hi, rfl⟩ := List.getElem_of_mem hy
        rw [← argAt_eq hi]; exact R.ok i (by omega), fun i h0 hi => R.od i h0 (by omega)⟩⟩
      clear R
      go_wp2_with fail
      go_ret
      exact E.out

end Go.Proofs.YtogdconliofblaaGreat
