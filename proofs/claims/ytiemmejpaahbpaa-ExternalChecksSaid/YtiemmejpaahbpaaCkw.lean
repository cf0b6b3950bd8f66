/-
  routingref34.Check: the error of a list of announcements.
-/
import Derived.Test.YtiemmejpaahbpaaCkr
namespace Go.Proofs.Ytiemmejpaahbpaa
open Go.RowKit

structure CkrRel (w : World) (l : List Ext) (k : Nat) (wr : World) : Prop where
  hk : k ≤ l.length
  ok : ∀ i, i < k → extErr l i = 0
  gr : Gr w wr

theorem CkrRel.step {w : World} {l : List Ext} {k : Nat} {wr wr' : World} (R : CkrRel w l k wr) (c : k < l.length) (h : extErr l k = 0) (g : Gr wr wr') : CkrRel w l (k + 1) wr' :=
  ⟨c, fun i hi => by rcases Nat.lt_or_ge i k with h' | h'; · exact R.ok i h'
                     · rw [show i = k from by omega]; exact h, R.gr.trans g⟩
theorem CkrRel.stop {w : World} {l : List Ext} {k : Nat} {wr wr' : World} (R : CkrRel w l k wr) (hl : l.length ≤ 64) (c : k < l.length) {e : Int} (h : extErr l k = e) (he : e ≠ 0) (g : Gr wr wr') : CkrPost w l (.returned (.int .i64 e)) wr' :=
  ⟨e, rfl, .inr ⟨hl, .inr ⟨k, c, R.ok, h, he⟩⟩, R.gr.trans g⟩

theorem getD_at {l : List Ext} {k : Nat} (c : k < l.length) : l.getD k default = l[k] := by
  rw [List.getD_eq_getElem?_getD, List.getElem?_eq_getElem c]; rfl

set_option maxHeartbeats 4000000 in
set_option maxRecDepth 100000 in
theorem ckr_calls (w : World) (v : Value) (l : List Ext) (h : ExtsAt w v l) (ok : ∀ x ∈ l, OkP x.pfx) : Calls Try.prog 13 #[v] w (CkrPost w l) := by
  obtain ⟨ad, cap, rfl, hl, hc⟩ := h.get
  have HC := Lib.hid hc
  have OK := Lib.hid ok
  clear h hc ok
  have mixed : Try.prog.follows .mixedOrders = true := by kernel_rfl
  by_cases h64 : 64 < l.length
  · have E : Hid (CkrPost w l (.returned (.int .i64 4)) w) := Lib.hid ⟨4, rfl, .inl ⟨h64, rfl⟩, Gr.refl _⟩
    go_enter Try.func13, Try.ntmps13
    go_wp2_with fail
    go_ret
    exact E.out
  · have R0 : Hid (CkrRel w l 0 w) := Lib.hid ⟨Nat.zero_le _, fun i hi => by omega, Gr.refl _⟩
    have h64' : l.length ≤ 64 := by omega
    clear h64
    go_enter Try.func13, Try.ntmps13
    go_wp2_with fail
    go_loopw [3] (fun i wr => ∃ k : Nat, i = .int .i64 k ∧ CkrRel w l k wr) (fun i _ => l.length - (intOf i).toNat)
    case atStart => exact ⟨0, rfl, R0.out⟩
    case round =>
      clear R0
      obtain ⟨k, rfl, R⟩ := hrel
      have hk := R.hk
      by_cases c : k < l.length
      · obtain ⟨b, off, rfl, hb0, hcc⟩ := HC.out (by omega)
        obtain ⟨d0, d1, d2, d3, d4, d5⟩ := hcc k c
        have d0 := bcell R.gr.b d0
        have d1 := bcell R.gr.b d1
        have d2 := bcell R.gr.b d2
        have d5 := bcell R.gr.b d5
        have PV : Hid (0 < k → ∃ p : Ls.Pfx, wr.cell? ⟨b, off + (k - 1) * 6, none⟩ = some (.int .u32 p.addr) ∧ wr.cell? ⟨b, off + (k - 1) * 6 + 1, none⟩ = some (.int .i64 p.len) ∧ (l.getD (k - 1) default).pfx = p) := Lib.hid (fun h0 => by
          obtain ⟨q0, q1, -⟩ := hcc (k - 1) (by omega)
          exact ⟨_, bcell R.gr.b q0, bcell R.gr.b q1, by rw [getD_at (by omega)]⟩)
        have okk := OK.out l[k] (List.getElem_mem c)
        have FC := Lib.hid (fun W => fits_calls l[k].pfx.addr l[k].pfx.len okk.a0 okk.a1 W)
        have EE : Hid (extErr l k = if fitsB l[k].pfx.addr l[k].pfx.len = false then 1 else if withinB l[k].cost 0 16777216 = false ∨ withinB l[k].tag 0 4294967295 = false then 5 else if 0 < k ∧ Ls.pfxLt (l.getD (k - 1) default).pfx l[k].pfx = false then 16 else 0) := Lib.hid (by
          unfold extErr; rw [getD_at c])
        have RR := Lib.hid R
        have i0 : (0 : Int) ≤ (k : Int) := by omega
        have i1 : (k : Int) < (l.length : Int) := by omega
        clear R hcc okk d3 d4
        generalize l[k] = x at *
        obtain ⟨⟨pa, pl⟩, cost, second, fwd, tag⟩ := x
        simp only at d0 d1 d2 d5 FC EE
        have ST := Lib.hid (fun (e : Int) (h : extErr l k = e) (he : e ≠ 0) (W : World) (g : Gr wr W) => RR.out.stop h64' c h he g)
        have SP := Lib.hid (fun (h : extErr l k = 0) (W : World) (g : Gr wr W) => RR.out.step c h g)
        cases hf : fitsB pa pl with
        | false =>
          rw [hf] at FC EE
          have E := Lib.hid (fun n => ST.out 1 (by rw [EE.out]; rfl) (by decide) (wr.drewN n) ((Gr.refl _).drewN n))
          go_wp2_with fail
          go_quiet ((go_at_call 27; exact quiet1 FC.out))
          go_wp2_with fail
          go_returns
          exact E.out _
        | true =>
          rw [hf] at FC EE
          have WC := Lib.hid (fun W => within34_calls cost 0 16777216 W)
          have WT := Lib.hid (fun W => within34_calls tag 0 4294967295 W)
          generalize withinB cost 0 16777216 = wc at *
          generalize withinB tag 0 4294967295 = wt at *
          go_wp2_with fail
          go_quiet ((go_at_call 27; exact quiet1 FC.out))
          cases wc with
          | false =>
            have E := Lib.hid (fun n => ST.out 5 (by rw [EE.out]; rfl) (by decide) (wr.drewN n) ((Gr.refl _).drewN n))
            go_wp2_with (first | (go_at_call 28; ((with_reducible refine (WC.out _).mono ?_)); rintro e w' ⟨rfl, rfl⟩) | (go_at_call 28; ((with_reducible refine (WT.out _).mono ?_)); rintro e w' ⟨rfl, rfl⟩))
            go_returns
            exact E.out _
          | true =>
            cases wt with
            | false =>
              have E := Lib.hid (fun n => ST.out 5 (by rw [EE.out]; rfl) (by decide) (wr.drewN n) ((Gr.refl _).drewN n))
              go_wp2_with (first | (go_at_call 28; ((with_reducible refine (WC.out _).mono ?_)); rintro e w' ⟨rfl, rfl⟩) | (go_at_call 28; ((with_reducible refine (WT.out _).mono ?_)); rintro e w' ⟨rfl, rfl⟩))
              go_returns
              exact E.out _
            | true =>
              rcases Nat.eq_zero_or_pos k with h0 | h0
              · subst h0
                have E := Lib.hid (fun (W : World) (g : Gr wr W) => SP.out (by rw [EE.out]; rfl) W g)
                go_wp2_with (first | (go_at_call 28; ((with_reducible refine (WC.out _).mono ?_)); rintro e w' ⟨rfl, rfl⟩) | (go_at_call 28; ((with_reducible refine (WT.out _).mono ?_)); rintro e w' ⟨rfl, rfl⟩))
                have GQ : Hid (∀ n, Gr wr (wr.drewN n)) := Lib.hid (fun n => (Gr.refl _).drewN n)
                generalize hW1 : wr.drewN _ = W1
                have G1 : Hid (Gr wr W1) := Lib.hid (hW1 ▸ GQ.out _)
                clear hW1 GQ d0 d1 d2 d5
                go_quiet (fail)
                have NX := Lib.hid (fun n => E.out (W1.drewN n) (G1.out.drewN n))
                go_wp2_with fail
                go_roundw
                case rel => exact ⟨1, by go_num, NX.out _⟩
                case measure => simp [intOf]; omega
              · obtain ⟨p, q0, q1, hp⟩ := PV.out h0
                obtain ⟨j, rfl⟩ : ∃ j, k = j + 1 := ⟨k - 1, by omega⟩
                rw [Nat.add_sub_cancel] at q0 q1
                have LC := Lib.hid (fun W => less_calls p ⟨pa, pl⟩ W)
                rw [Nat.add_sub_cancel] at hp EE
                rw [hp] at EE
                obtain ⟨ra, rl⟩ := p
                simp only at q0 q1 LC
                clear hp PV
                go_wp2_with (first | (go_at_call 28; ((with_reducible refine (WC.out _).mono ?_)); rintro e w' ⟨rfl, rfl⟩) | (go_at_call 28; ((with_reducible refine (WT.out _).mono ?_)); rintro e w' ⟨rfl, rfl⟩))
                have GQ : Hid (∀ n, Gr wr (wr.drewN n)) := Lib.hid (fun n => (Gr.refl _).drewN n)
                generalize hW1 : wr.drewN _ = W1
                have G1 : Hid (Gr wr W1) := Lib.hid (hW1 ▸ GQ.out _)
                have d0 := bcell G1.out.b d0
                have d1 := bcell G1.out.b d1
                have q0 := bcell G1.out.b q0
                have q1 := bcell G1.out.b q1
                have y0 : ∀ n os, (Go.Sort.grow (W1.drewN n) os).cell? ⟨b, off + (j + 1) * 6, none⟩ = some (.int .u32 pa) := cell_grown (World.block_lt_of_cell? _ _ d0) d0
                have y1 : ∀ n os, (Go.Sort.grow (W1.drewN n) os).cell? ⟨b, off + (j + 1) * 6 + 1, none⟩ = some (.int .i64 pl) := cell_grown (World.block_lt_of_cell? _ _ d1) d1
                have y2 : ∀ n os, (Go.Sort.grow (W1.drewN n) os).cell? ⟨b, off + j * 6, none⟩ = some (.int .u32 ra) := cell_grown (World.block_lt_of_cell? _ _ q0) q0
                have y3 : ∀ n os, (Go.Sort.grow (W1.drewN n) os).cell? ⟨b, off + j * 6 + 1, none⟩ = some (.int .i64 rl) := cell_grown (World.block_lt_of_cell? _ _ q1) q1
                have j0 : (0 : Int) ≤ (j : Int) := by omega
                have j1 : (j : Int) < (l.length : Int) := by omega
                have s1 : IntKind.i64.wrap (((j + 1 : Nat) : Int) - 1) = (j : Int) := by rw [IntWalk.i64_in _ (by omega)]; omega
                have s2 : ((j : Int)).toNat = j := by omega
                have s3 : (((j + 1 : Nat) : Int)).toNat = j + 1 := by omega
                clear hW1 GQ
                cases hl2 : Ls.pfxLt ⟨ra, rl⟩ ⟨pa, pl⟩ with
                | true =>
                  rw [hl2] at LC EE
                  have NX := Lib.hid (fun (W : World) (g : Gr wr W) => SP.out (by rw [EE.out]; simp) W g)
                  clear hl2 d0 d1 d2 d5 q0 q1
                  refine wp_region_quiet_grown (by assumption) (by kernel_rfl) ?_
                  repeat (go_big_quiet_step ((go_at_call 11; exact Calls.grown_of ((LC.out _).mono fun _ _ ⟨he, hg⟩ => ⟨he, hg.grow⟩))))
                  refine wpQuiet_nil ?_
                  intro _ hw'
                  obtain ⟨⟨nq, osq⟩, hw''⟩ := hw'
                  subst hw''
                  have RN := Lib.hid (NX.out _ (G1.out.trans (Gr.of_grow nq osq)))
                  clear y0 y1 y2 y3 s1 s2 s3
                  go_wp2_with fail
                  go_roundw
                  case rel => exact ⟨j + 1 + 1, by go_num, RN.out⟩
                  case measure => simp [intOf]; omega
                | false =>
                  rw [hl2] at LC EE
                  have NX := Lib.hid (fun (W : World) (g : Gr wr W) => ST.out 16 (by rw [EE.out]; simp) (by decide) W g)
                  clear hl2 d0 d1 d2 d5 q0 q1
                  refine wp_region_quiet_grown (by assumption) (by kernel_rfl) ?_
                  repeat (go_big_quiet_step ((go_at_call 11; exact Calls.grown_of ((LC.out _).mono fun _ _ ⟨he, hg⟩ => ⟨he, hg.grow⟩))))
                  refine wpQuiet_nil ?_
                  intro _ hw'
                  obtain ⟨⟨nq, osq⟩, hw''⟩ := hw'
                  subst hw''
                  have RN := Lib.hid (NX.out _ (G1.out.trans (Gr.of_grow nq osq)))
                  clear y0 y1 y2 y3 s1 s2 s3
                  go_wp2_with fail
                  go_returns
                  exact RN.out
      · have R1 := R.ok
        have E : Hid (CkrPost w l (.returned (.int .i64 0)) wr) := Lib.hid ⟨0, rfl, .inr ⟨h64', .inl ⟨fun i hi => R1 i (by omega), rfl⟩⟩, R.gr⟩
        clear R R1
        go_wp2_with fail
        go_ret
        exact E.out

end Go.Proofs.Ytiemmejpaahbpaa
