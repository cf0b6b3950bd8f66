/-
  routingref32.Less; routingref34.Check.
-/
/-
  routingref34.Check: the error of a list of announcements.
-/
import Derived.Test.YtiemmejpaahbpaaSea
import Derived.Test.YtiemmejpaahbpaaCmr
import Derived.IntWalk
namespace Go.Proofs.Ytiemmejpaahbpaa
open Go.RowKit

set_option maxHeartbeats 1000000 in
theorem less_calls (p q : Ls.Pfx) (w : World) : Calls Try.prog 11 #[.agg #[.int .u32 p.addr, .int .i64 p.len], .agg #[.int .u32 q.addr, .int .i64 q.len]] w fun e w' => e = .returned (.bool (Ls.pfxLt p q)) ∧ Gr w w' := by
  obtain ⟨pa, pl⟩ := p
  obtain ⟨qa, ql⟩ := q
  simp only
  by_cases h1 : pa < qa
  · rw [show Ls.pfxLt ⟨pa, pl⟩ ⟨qa, ql⟩ = true from by simp [Ls.pfxLt, Ls.lexB, h1]]
    go_enter Try.func11, Try.ntmps11
    go_wp2_with fail
    go_ret
    exact ⟨rfl, ((Gr.refl _).alloc _).alloc _⟩
  · have d1 : decide (pa < qa) = false := by simpa using h1
    by_cases h2 : pa = qa
    · subst h2
      by_cases h3 : pl < ql
      · rw [show Ls.pfxLt ⟨pa, pl⟩ ⟨pa, ql⟩ = true from by simp [Ls.pfxLt, Ls.lexB, h3]]
        go_enter Try.func11, Try.ntmps11
        go_wp2_with fail
        go_ret
        exact ⟨rfl, ((Gr.refl _).alloc _).alloc _⟩
      · have d3 : decide (pl < ql) = false := by simpa using h3
        rw [show Ls.pfxLt ⟨pa, pl⟩ ⟨pa, ql⟩ = false from by simp [Ls.pfxLt, Ls.lexB, h3]]
        go_enter Try.func11, Try.ntmps11
        go_wp2_with fail
        go_ret
        exact ⟨rfl, ((Gr.refl _).alloc _).alloc _⟩
    · rw [show Ls.pfxLt ⟨pa, pl⟩ ⟨qa, ql⟩ = false from by simp [Ls.pfxLt, Ls.lexB, h1, h2]]
      have d2 : (pa == qa) = false := by simpa using h2
      clear h2
      go_enter Try.func11, Try.ntmps11
      go_wp2_with fail
      go_ret
      exact ⟨rfl, ((Gr.refl _).alloc _).alloc _⟩

set_option maxHeartbeats 400000 in
theorem within34_calls (n lo hi : Int) (w : World) : Calls Try.prog 28 #[.int .i64 n, .int .i64 lo, .int .i64 hi] w fun e w' => e = .returned (.bool (withinB n lo hi)) ∧ w = w' := by
  by_cases h1 : lo ≤ n
  · by_cases h2 : n ≤ hi
    · rw [show withinB n lo hi = true from by simp [withinB, h1, h2]]
      go_enter Try.func28, Try.ntmps28
      go_wp2_with fail
      go_ret
      exact ⟨rfl, rfl⟩
    · rw [show withinB n lo hi = false from by simp [withinB, h1, h2]]
      have d2 : decide (n ≤ hi) = false := by simpa using h2
      go_enter Try.func28, Try.ntmps28
      go_wp2_with fail
      go_ret
      exact ⟨rfl, rfl⟩
  · rw [show withinB n lo hi = false from by simp [withinB, h1]]
    have d1 : decide (lo ≤ n) = false := by simpa using h1
    go_enter Try.func28, Try.ntmps28
    go_wp2_with fail
    go_ret
    exact ⟨rfl, rfl⟩

/-- an announcement -/
structure Ext where
  pfx : Ls.Pfx
  cost : Int
  second : Bool
  fwd : Int
  tag : Int
deriving Inhabited

def extE (x : Ext) : List Value := [.int .u32 x.pfx.addr, .int .i64 x.pfx.len, .int .i64 x.cost, .bool x.second, .int .u32 x.fwd, .int .i64 x.tag]
def ExtsAt (w : World) (v : Value) (l : List Ext) : Prop := SlV 6 w v (l.map extE)
theorem ExtsAt.below {w w' : World} {v : Value} {l : List Ext} (h : ExtsAt w v l) (hb : Below w.heap.size w w') : ExtsAt w' v l := SlV.below h hb
theorem ExtsAt.get {w : World} {v : Value} {l : List Ext} (h : ExtsAt w v l) : ∃ a cap, v = .slice a l.length cap ∧ l.length ≤ 9223372036854775807 ∧ (0 < l.length → ∃ b off, a = some ⟨b, off, none⟩ ∧ b < w.heap.size ∧ ∀ i (h : i < l.length),
    w.cell? ⟨b, off + i * 6, none⟩ = some (.int .u32 l[i].pfx.addr) ∧ w.cell? ⟨b, off + i * 6 + 1, none⟩ = some (.int .i64 l[i].pfx.len) ∧ w.cell? ⟨b, off + i * 6 + 2, none⟩ = some (.int .i64 l[i].cost) ∧ w.cell? ⟨b, off + i * 6 + 3, none⟩ = some (.bool l[i].second) ∧ w.cell? ⟨b, off + i * 6 + 4, none⟩ = some (.int .u32 l[i].fwd) ∧ w.cell? ⟨b, off + i * 6 + 5, none⟩ = some (.int .i64 l[i].tag)) := by
  have hl := SlV.len h
  obtain ⟨a, cap, h0, h1, h2, hn, h3⟩ := h
  simp only [List.length_map] at h0 h1 h3 hl
  refine ⟨a, cap, h0, hl, fun hp => ?_⟩
  obtain ⟨b, off, e, h4, h5⟩ := h3 hp
  refine ⟨b, off, e, h4, fun i hi => ?_⟩
  have := h5 i (by simpa using hi)
  simp only [List.getElem_map, extE] at this
  exact ⟨this 0 _ rfl, this 1 _ rfl, this 2 _ rfl, this 3 _ rfl, this 4 _ rfl, this 5 _ rfl⟩

/-- the error of announcement k -/
def extErr (l : List Ext) (k : Nat) : Int :=
  if fitsB (l.getD k default).pfx.addr (l.getD k default).pfx.len = false then 1
  else if withinB (l.getD k default).cost 0 16777216 = false ∨ withinB (l.getD k default).tag 0 4294967295 = false then 5
  else if 0 < k ∧ Ls.pfxLt (l.getD (k - 1) default).pfx (l.getD k default).pfx = false then 16 else 0

/-- c is the error of a list of announcements -/
def ChkIs (l : List Ext) (c : Int) : Prop := (64 < l.length ∧ c = 4) ∨ (l.length ≤ 64 ∧ (((∀ i, i < l.length → extErr l i = 0) ∧ c = 0) ∨ ∃ k, k < l.length ∧ (∀ i, i < k → extErr l i = 0) ∧ extErr l k = c ∧ c ≠ 0))

theorem ChkIs.one {l : List Ext} {c d : Int} (h : ChkIs l c) (k : ChkIs l d) : c = d := by
  rcases h with ⟨h1, rfl⟩ | ⟨h1, ⟨h2, rfl⟩ | ⟨i, h2, h3, h4, h5⟩⟩ <;> rcases k with ⟨k1, rfl⟩ | ⟨k1, ⟨k2, rfl⟩ | ⟨j, k2, k3, k4, k5⟩⟩
  · rfl
  · omega
  · omega
  · omega
  · rfl
  · exact absurd ((h2 j k2).symm.trans k4) (Ne.symm k5)
  · omega
  · exact absurd (k2 i h2 ▸ h4) (Ne.symm h5)
  · rcases Nat.lt_trichotomy i j with e | e | e
    · have := k3 i e; rw [h4] at this; exact absurd this h5
    · subst e; rw [← h4, k4]
    · have := h3 j e; rw [k4] at this; exact absurd this k5

def CkrPost (w : World) (l : List Ext) (e : Ending) (w' : World) : Prop := ∃ c, e = .returned (.int .i64 c) ∧ ChkIs l c ∧ Gr w w'

end Go.Proofs.Ytiemmejpaahbpaa

namespace Go.Proofs.Ytiemmejpaahbpaa
open Go.RowKit

structure CkrRel (w : World) (l : List Ext) (k : Nat) (wr : World) : Prop where
  hk : k ≤ l.length
  ok : ∀ i, i < k → extErr l i = 0
  gr : Gr w wr

theorem CkrRel.step {w : World} {l : List Ext} {k : Nat} {wr wr' : World} (R : CkrRel w l k wr) (c : k < l.length) (h : extErr l k = 0) (g : Gr wr wr') : CkrRel w l (k + 1) wr' :=
  ⟨c, fun i hi => by rcases Nat.lt_or_ge i k with h' | h'; · exact R.ok i h'
                     · rw [show i = k from by omega]; exact h, R.gr.trans g⟩
theorem CkrRel.stop {w : World} {l : List Ext} {k : Nat} {wr wr' : World} (R : CkrRel w l k wr) (hl : l.length ≤ 64) (c : k < l.length) {e : Int} (h : extErr l k = e) (he : e ≠ 0) (g : Gr wr wr') : CkrPost w l (.returned (.int .i64 e)) wr' :=
  ⟨e, rfl, .inr ⟨hl, .inr ⟨k, c, R.ok, h, he⟩⟩, R.gr.trans g⟩

theorem getD_at {l : List Ext} {k : Nat} (c : k < l.length) : l.getD k default = l[k] := by
  rw [List.getD_eq_getElem?_getD, List.getElem?_eq_getElem c]; rfl

set_option maxHeartbeats 4000000 in
set_option maxRecDepth 100000 in
theorem ckr_calls (w : World) (v : Value) (l : List Ext) (h : ExtsAt w v l) (ok : ∀ x ∈ l, OkP x.pfx) : Calls Try.prog 13 #[v] w (CkrPost w l) := by
  obtain ⟨ad, cap, rfl, hl, hc⟩ := h.get
  have HC := Lib.hid hc
  have OK := Lib.hid ok
  clear h hc ok
  have mixed : Try.prog.follows .mixedOrders = true := by kernel_rfl
  by_cases h64 : 64 < l.length
  · have E : Hid (CkrPost w l (.returned (.int .i64 4)) w) := Lib.hid ⟨4, rfl, .inl ⟨h64, rfl⟩, Gr.refl _⟩
    go_enter Try.func13, Try.ntmps13
    go_wp2_with fail
    go_ret
    exact E.out
  · have R0 : Hid (CkrRel w l 0 w) := Lib.hid ⟨Nat.zero_le _, fun i hi => by omega, Gr.refl _⟩
    have h64' : l.length ≤ 64 := by omega
    clear h64
    go_enter Try.func13, Try.ntmps13
    go_wp2_with fail
    go_loopw [3] (fun i wr => ∃ k : Nat, i = .int .i64 k ∧ CkrRel w l k wr) (fun i _ => l.length - (intOf i).toNat)
    case atStart => exact ⟨0, rfl, R0.out⟩
    case round =>
      clear R0
      obtain ⟨k, rfl, R⟩ := hrel
      have hk := R.hk
      by_cases c : k < l.length
      · obtain ⟨b, off, rfl, hb0, hcc⟩ := HC.out (by omega)
        obtain ⟨d0, d1, d2, d3, d4, d5⟩ := hcc k c
        have d0 := bcell R.gr.b d0
        have d1 := bcell R.gr.b d1
        have d2 := bcell R.gr.b d2
        have d5 := bcell R.gr.b d5
        have PV : Hid (0 < k → ∃ p : Ls.Pfx, wr.cell? ⟨b, off + (k - 1) * 6, none⟩ = some (.int .u32 p.addr) ∧ wr.cell? ⟨b, off + (k - 1) * 6 + 1, none⟩ = some (.int .i64 p.len) ∧ (l.getD (k - 1) default).pfx = p) := Lib.hid (fun h0 => by
          obtain ⟨q0, q1, -⟩ := hcc (k - 1) (by omega)
          exact ⟨_, bcell R.gr.b q0, bcell R.gr.b q1, by rw [getD_at (by omega)]⟩)
        have okk := OK.out l[k] (List.getElem_mem c)
        have FC := Lib.hid (fun W => fits_calls l[k].pfx.addr l[k].pfx.len okk.a0 okk.a1 W)
        have EE : Hid (extErr l k = if fitsB l[k].pfx.addr l[k].pfx.len = false then 1 else if withinB l[k].cost 0 16777216 = false ∨ withinB l[k].tag 0 4294967295 = false then 5 else if 0 < k ∧ Ls.pfxLt (l.getD (k - 1) default).pfx l[k].pfx = false then 16 else 0) := Lib.hid (by
          unfold extErr; rw [getD_at c])
        have RR := Lib.hid R
        have i0 : (0 : Int) ≤ (k : Int) := by omega
        have i1 : (k : Int) < (l.length : Int) := by omega
        clear R hcc okk d3 d4
        generalize l[k] = x at *
        obtain ⟨⟨pa, pl⟩, cost, second, fwd, tag⟩ := x
        simp only at d0 d1 d2 d5 FC EE
        have ST := Lib.hid (fun (e : Int) (h : extErr l k = e) (he : e ≠ 0) (W : World) (g : Gr wr W) => RR.out.stop h64' c h he g)
        have SP := Lib.hid (fun (h : extErr l k = 0) (W : World) (g : Gr wr W) => RR.out.step c h g)
        cases hf : fitsB pa pl with
        | false =>
          rw [hf] at FC EE
          have E := Lib.hid (fun n => ST.out 1 (by rw [EE.out]; rfl) (by decide) (wr.drewN n) ((Gr.refl _).drewN n))
          go_wp2_with fail
          go_quiet ((go_at_call 27; exact quiet1 FC.out))
          go_wp2_with fail
          go_returns
          exact E.out _
        | true =>
          rw [hf] at FC EE
          have WC := Lib.hid (fun W => within34_calls cost 0 16777216 W)
          have WT := Lib.hid (fun W => within34_calls tag 0 4294967295 W)
          generalize withinB cost 0 16777216 = wc at *
          generalize withinB tag 0 4294967295 = wt at *
          go_wp2_with fail
          go_quiet ((go_at_call 27; exact quiet1 FC.out))
          cases wc with
          | false =>
            have E := Lib.hid (fun n => ST.out 5 (by rw [EE.out]; rfl) (by decide) (wr.drewN n) ((Gr.refl _).drewN n))
            go_wp2_with (first | (go_at_call 28; ((with_reducible refine (WC.out _).mono ?_)); rintro e w' ⟨rfl, rfl⟩) | (go_at_call 28; ((with_reducible refine (WT.out _).mono ?_)); rintro e w' ⟨rfl, rfl⟩))
            go_returns
            exact E.out _
          | true =>
            cases wt with
            | false =>
              have E := Lib.hid (fun n => ST.out 5 (by rw [EE.out]; rfl) (by decide) (wr.drewN n) ((Gr.refl _).drewN n))
              go_wp2_with (first | (go_at_call 28; ((with_reducible refine (WC.out _).mono ?_)); rintro e w' ⟨rfl, rfl⟩) | (go_at_call 28; ((with_reducible refine (WT.out _).mono ?_)); rintro e w' ⟨rfl, rfl⟩))
              go_returns
              exact E.out _
            | true =>
              rcases Nat.eq_zero_or_pos k with h0 | h0
              · subst h0
                have E := Lib.hid (fun (W : World) (g : Gr wr W) => SP.out (by rw [EE.out]; rfl) W g)
                go_wp2_with (first | (go_at_call 28; ((with_reducible refine (WC.out _).mono ?_)); rintro e w' ⟨rfl, rfl⟩) | (go_at_call 28; ((with_reducible refine (WT.out _).mono ?_)); rintro e w' ⟨rfl, rfl⟩))
                have GQ : Hid (∀ n, Gr wr (wr.drewN n)) := Lib.hid (fun n => (Gr.refl _).drewN n)
                generalize hW1 : wr.drewN _ = W1
                have G1 : Hid (Gr wr W1) := Lib.hid (hW1 ▸ GQ.out _)
                clear hW1 GQ d0 d1 d2 d5
                go_quiet (fail)
                have NX := Lib.hid (fun n => E.out (W1.drewN n) (G1.out.drewN n))
                go_wp2_with fail
                go_roundw
                case rel => exact ⟨1, by go_num, NX.out _⟩
                case measure => simp [intOf]; omega
              · obtain ⟨p, q0, q1, hp⟩ := PV.out h0
                obtain ⟨j, rfl⟩ : ∃ j, k = j + 1 := ⟨k - 1, by omega⟩
                rw [Nat.add_sub_cancel] at q0 q1
                have LC := Lib.hid (fun W => less_calls p ⟨pa, pl⟩ W)
                rw [Nat.add_sub_cancel] at hp EE
                rw [hp] at EE
                obtain ⟨ra, rl⟩ := p
                simp only at q0 q1 LC
                clear hp PV
                go_wp2_with (first | (go_at_call 28; ((with_reducible refine (WC.out _).mono ?_)); rintro e w' ⟨rfl, rfl⟩) | (go_at_call 28; ((with_reducible refine (WT.out _).mono ?_)); rintro e w' ⟨rfl, rfl⟩))
                have GQ : Hid (∀ n, Gr wr (wr.drewN n)) := Lib.hid (fun n => (Gr.refl _).drewN n)
                generalize hW1 : wr.drewN _ = W1
                have G1 : Hid (Gr wr W1) := Lib.hid (hW1 ▸ GQ.out _)
                have d0 := bcell G1.out.b d0
                have d1 := bcell G1.out.b d1
                have q0 := bcell G1.out.b q0
                have q1 := bcell G1.out.b q1
                have y0 : ∀ n os, (Go.Sort.grow (W1.drewN n) os).cell? ⟨b, off + (j + 1) * 6, none⟩ = some (.int .u32 pa) := cell_grown (World.block_lt_of_cell? _ _ d0) d0
                have y1 : ∀ n os, (Go.Sort.grow (W1.drewN n) os).cell? ⟨b, off + (j + 1) * 6 + 1, none⟩ = some (.int .i64 pl) := cell_grown (World.block_lt_of_cell? _ _ d1) d1
                have y2 : ∀ n os, (Go.Sort.grow (W1.drewN n) os).cell? ⟨b, off + j * 6, none⟩ = some (.int .u32 ra) := cell_grown (World.block_lt_of_cell? _ _ q0) q0
                have y3 : ∀ n os, (Go.Sort.grow (W1.drewN n) os).cell? ⟨b, off + j * 6 + 1, none⟩ = some (.int .i64 rl) := cell_grown (World.block_lt_of_cell? _ _ q1) q1
                have j0 : (0 : Int) ≤ (j : Int) := by omega
                have j1 : (j : Int) < (l.length : Int) := by omega
                have s1 : IntKind.i64.wrap (((j + 1 : Nat) : Int) - 1) = (j : Int) := by rw [IntWalk.i64_in _ (by omega)]; omega
                have s2 : ((j : Int)).toNat = j := by omega
                have s3 : (((j + 1 : Nat) : Int)).toNat = j + 1 := by omega
                clear hW1 GQ
                cases hl2 : Ls.pfxLt ⟨ra, rl⟩ ⟨pa, pl⟩ with
                | true =>
                  rw [hl2] at LC EE
                  have NX := Lib.hid (fun (W : World) (g : Gr wr W) => SP.out (by rw [EE.out]; simp) W g)
                  clear hl2 d0 d1 d2 d5 q0 q1
                  refine wp_region_quiet_grown (by assumption) (by kernel_rfl) ?_
                  repeat (go_big_quiet_step ((go_at_call 11; exact Calls.grown_of ((LC.out _).mono fun _ _ ⟨he, hg⟩ => ⟨he, hg.grow⟩))))
                  refine wpQuiet_nil ?_
                  intro _ hw'
                  obtain ⟨⟨nq, osq⟩, hw''⟩ := hw'
                  subst hw''
                  have RN := Lib.hid (NX.out _ (G1.out.trans (Gr.of_grow nq osq)))
                  clear y0 y1 y2 y3 s1 s2 s3
                  go_wp2_with fail
                  go_roundw
                  case rel => exact ⟨j + 1 + 1, by go_num, RN.out⟩
                  case measure => simp [intOf]; omega
                | false =>
                  rw [hl2] at LC EE
                  have NX := Lib.hid (fun (W : World) (g : Gr wr W) => ST.out 16 (by rw [EE.out]; simp) (by decide) W g)
                  clear hl2 d0 d1 d2 d5 q0 q1
                  refine wp_region_quiet_grown (by assumption) (by kernel_rfl) ?_
                  repeat (go_big_quiet_step ((go_at_call 11; exact Calls.grown_of ((LC.out _).mono fun _ _ ⟨he, hg⟩ => ⟨he, hg.grow⟩))))
                  refine wpQuiet_nil ?_
                  intro _ hw'
                  obtain ⟨⟨nq, osq⟩, hw''⟩ := hw'
                  subst hw''
                  have RN := Lib.hid (NX.out _ (G1.out.trans (Gr.of_grow nq osq)))
                  clear y0 y1 y2 y3 s1 s2 s3
                  go_wp2_with fail
                  go_returns
                  exact RN.out
      · have R1 := R.ok
        have E : Hid (CkrPost w l (.returned (.int .i64 0)) wr) := Lib.hid ⟨0, rfl, .inr ⟨h64', .inl ⟨fun i hi => R1 i (by omega), rfl⟩⟩, R.gr⟩
        clear R R1
        go_wp2_with fail
        go_ret
        exact E.out

end Go.Proofs.Ytiemmejpaahbpaa
