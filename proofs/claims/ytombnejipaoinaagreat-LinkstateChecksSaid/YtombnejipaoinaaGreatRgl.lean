/-
  Ranges of areas: how they lie in memory; routingref33.Fine, exactly.
-/
import Derived.Test.YtombnejipaoinaaGreatOvl
namespace Go.Proofs.YtombnejipaoinaaGreat
open Go.RowKit

/-- a range of an area -/
structure Arg where
  area : Int
  pfx : Ls.Pfx
  adv : Bool
deriving Inhabited
def agE (g : Arg) : List Value := [.int .u32 g.area, .int .u32 g.pfx.addr, .int .i64 g.pfx.len, .bool g.adv]

def RngsAt (w : World) (v : Value) (l : List Arg) : Prop := SlV 4 w v (l.map agE)
theorem RngsAt.below {w w' : World} {v : Value} {l : List Arg} (h : RngsAt w v l) (hb : Below w.heap.size w w') : RngsAt w' v l := SlV.below h hb
def AgCells (w : World) (b o : Nat) (g : Arg) : Prop :=
  w.cell? ⟨b, o, none⟩ = some (.int .u32 g.area) ∧ w.cell? ⟨b, o + 1, none⟩ = some (.int .u32 g.pfx.addr) ∧ w.cell? ⟨b, o + 2, none⟩ = some (.int .i64 g.pfx.len) ∧ w.cell? ⟨b, o + 3, none⟩ = some (.bool g.adv)
theorem AgCells.below {w w' : World} {b o : Nat} {g : Arg} (h : AgCells w b o g) {B : Nat} (hb : Below B w w') (hlt : b < B) : AgCells w' b o g := by
  have e := fun k => World.cell?_of_block (w := w) (w' := w') (a := ⟨b, k, none⟩) (hb.block b hlt)
  obtain ⟨h0, h1, h2, h3⟩ := h
  exact ⟨(e _).trans h0, (e _).trans h1, (e _).trans h2, (e _).trans h3⟩
theorem RngsAt.get {w : World} {v : Value} {l : List Arg} (h : RngsAt w v l) : ∃ a cap, v = .slice a l.length cap ∧ l.length ≤ 9223372036854775807 ∧ (0 < l.length → ∃ b off, a = some ⟨b, off, none⟩ ∧ b < w.heap.size ∧ ∀ i (h : i < l.length), AgCells w b (off + i * 4) l[i]) := by
  have hl := SlV.len h
  obtain ⟨a, cap, h0, h1, h2, hn, h3⟩ := h
  simp only [List.length_map] at h0 h1 h3 hl
  refine ⟨a, cap, h0, hl, fun hp => ?_⟩
  obtain ⟨b, off, e, h4, h5⟩ := h3 hp
  refine ⟨b, off, e, h4, fun i hi => ?_⟩
  have := h5 i (by simpa using hi)
  simp only [List.getElem_map, agE] at this
  exact ⟨this 0 _ rfl, this 1 _ rfl, this 2 _ rfl, this 3 _ rfl⟩

def argAt (l : List Arg) (k : Nat) : Arg := if h : k < l.length then l[k] else ⟨0, ⟨0, 0⟩, false⟩
theorem argAt_eq {l : List Arg} {k : Nat} (h : k < l.length) : argAt l k = l[k] := dif_pos h

def agLt (a b : Arg) : Prop := a.area < b.area ∨ a.area = b.area ∧ Ls.pfxLt a.pfx b.pfx = true
def ArgsFine (l : List Arg) : Prop := (∀ o ∈ l, validP o.pfx = true) ∧ ∀ i, 0 < i → i < l.length → agLt (argAt l (i - 1)) (argAt l i)

structure FnRel (w : World) (l : List Arg) (k : Nat) (wr : World) : Prop where
  hk : k ≤ l.length
  ok : ∀ i, i < k → validP (argAt l i).pfx = true
  od : ∀ i, 0 < i → i < k → agLt (argAt l (i - 1)) (argAt l i)
  gr : Gr w wr
theorem FnRel.step {w : World} {l : List Arg} {k : Nat} {wr W : World} (R : FnRel w l k wr) (c : k < l.length) (h : validP (argAt l k).pfx = true) (h2 : 0 < k → agLt (argAt l (k - 1)) (argAt l k)) (g : Gr wr W) : FnRel w l (k + 1) W :=
  ⟨c, fun i hi => by
    rcases Nat.lt_or_ge i k with h' | h'
    · exact R.ok i h'
    · rw [show i = k from by omega]; exact h, fun i h0 hi => by
    rcases Nat.lt_or_ge i k with h' | h'
    · exact R.od i h0 h'
    · obtain rfl : i = k := by omega
      exact h2 h0, R.gr.trans g⟩

def FineX (w : World) (P : Prop) (e : Ending) (w' : World) : Prop := ∃ b : Bool, e = .returned (.bool b) ∧ Gr w w' ∧ (b = true ↔ P)

set_option maxHeartbeats 8000000 in
set_option maxRecDepth 100000 in
theorem fineranges_calls (w : World) (v : Value) (l : List Arg) (h : RngsAt w v l) (ok : ∀ o ∈ l, OkP o.pfx) : Calls Tryz.prog 27 #[v] w (FineX w (ArgsFine l)) := by
  obtain ⟨ad, cap, rfl, hlen, hc⟩ := h.get
  have HC := Lib.hid hc
  have OK := Lib.hid ok
  clear h hc ok
  have mixed : Tryz.prog.follows .mixedOrders = true := by kernel_rfl
  have NO : Hid (¬ ArgsFine l → ∀ W, Gr w W → FineX w (ArgsFine l) (.returned (.bool false)) W) := Lib.hid fun hn W g => ⟨false, rfl, g, fun h => (by cases h), fun h => absurd h hn⟩
  have R0 : Hid (FnRel w l 0 w) := Lib.hid ⟨Nat.zero_le _, fun i hi => by omega, fun i _ hi => by omega, Gr.refl _⟩
  go_enter Tryz.func27, Tryz.ntmps27
  go_wp2_with fail
  go_loopw [3] (fun i wr => ∃ k : Nat, i = .int .i64 k ∧ FnRel w l k wr) (fun i _ => l.length - (intOf i).toNat)
  case atStart => exact ⟨0, rfl, R0.out⟩
  case round =>
    clear R0
    obtain ⟨k, rfl, R⟩ := hrel
    have hk := R.hk
    by_cases c : k < l.length
    · obtain ⟨b, off, rfl, hb0, hcc⟩ := HC.out (by omega)
      have D0 : Hid (AgCells wr b (off + k * 4) (argAt l k)) := Lib.hid (by rw [argAt_eq c]; exact (hcc k c).below R.gr.b hb0)
      have PV : Hid (0 < k → AgCells wr b (off + (k - 1) * 4) (argAt l (k - 1))) := Lib.hid (fun h0 => by
        have c' : k - 1 < l.length := by omega
        rw [argAt_eq c']; exact (hcc (k - 1) c').below R.gr.b hb0)
      have okk : OkP (argAt l k).pfx := by rw [argAt_eq c]; exact OK.out _ (List.getElem_mem c)
      have FC := Lib.hid (fun W => fits_calls (argAt l k).pfx.addr (argAt l k).pfx.len okk.a0 okk.a1 W)
      have NX := Lib.hid (fun (h : validP (argAt l k).pfx = true) (h2 : 0 < k → agLt (argAt l (k - 1)) (argAt l k)) (W : World) (g : Gr wr W) => R.step c h h2 g)
      have ST := Lib.hid (fun (hn : ¬ ArgsFine l) (W : World) (g : Gr wr W) => NO.out hn W (R.gr.trans g))
      have NV : Hid (validP (argAt l k).pfx = false → ¬ ArgsFine l) := Lib.hid (fun (hv : validP (argAt l k).pfx = false) (hf : ArgsFine l) => (by have := hf.1 (argAt l k) (by rw [argAt_eq c]; exact List.getElem_mem c); rw [hv] at this; cases this))
      have NL : Hid (0 < k → ¬ agLt (argAt l (k - 1)) (argAt l k) → ¬ ArgsFine l) := Lib.hid (fun (h0 : 0 < k) (hv : ¬ agLt (argAt l (k - 1)) (argAt l k)) (hf : ArgsFine l) => hv (hf.2 k h0 c))
      have LC := Lib.hid (fun W => (less_calls (argAt l (k - 1)).pfx (argAt l k).pfx W).mono fun _ _ h => (⟨h.1, h.2.grow⟩ : _ ∧ ∃ q os, _ = Go.Sort.grow (World.drewN W q) os))
      have KC := Lib.hid c
      have i0 : (0 : Int) ≤ (k : Int) := by omega
      have i1 : (k : Int) < (l.length : Int) := by omega
      have s3 : ((k : Int)).toNat = k := by omega
      have hbw : b < wr.heap.size := Nat.lt_of_lt_of_le hb0 R.gr.b.size
      clear hcc R okk c
      generalize hz : argAt l (k - 1) = z at *
      generalize argAt l k = y at *
      obtain ⟨za, ⟨zp, zl⟩, zadv⟩ := z
      obtain ⟨ga, ⟨gp, gl⟩, gadv⟩ := y
      obtain ⟨d0, d1, d2, d3⟩ := D0.out
      simp only at d0 d1 d2 d3 FC LC
      have EF : Hid (fitsB gp gl = validP ⟨gp, gl⟩) := Lib.hid rfl
      clear d3
      cases hf : fitsB gp gl with
      | false =>
        rw [hf] at FC
        have E := Lib.hid (fun n => ST.out (NV.out (EF.out ▸ hf)) (wr.drewN n) ((Gr.refl _).drewN n))
        go_wp2_with fail
        go_quiet ((go_at_call 26; exact quiet1 FC.out))
        clear d0 d1 d2
        go_wp2_with fail
        go_returns
        exact E.out _
      | true =>
        have VP := Lib.hid (EF.out ▸ hf)
        clear NV
        rw [hf] at FC
        go_wp2_with fail
        go_quiet ((go_at_call 26; exact quiet1 FC.out))
        --AFTER
        clear d0 d1 d2
        have GW : Hid (Gr wr (wr.drewN nq)) := Lib.hid ((Gr.refl wr).drewN nq)
        generalize wr.drewN nq = W2 at *
        have GR := Lib.hid (fun n os => GW.out.trans (Gr.of_grow (W := W2) n os))
        go_wp2_with fail
        rcases Nat.eq_zero_or_pos k with h0 | h0
        · subst h0
          have NX2 := Lib.hid (fun n => NX.out VP.out (fun h => absurd h (by omega)) (W2.drewN n) (GW.out.trans ((Gr.refl W2).drewN n)))
          clear PV D0 LC FC ST NL
          go_quiet (fail)
          go_wp2_with fail
          go_roundw
          case rel => exact ⟨1, by go_num, NX2.out _⟩
          case measure => simp [intOf]; have := KC.out; omega
        · obtain ⟨z0, z1, z2, -⟩ := (PV.out h0).below GW.out.b hbw
          obtain ⟨d0, d1, d2, -⟩ := D0.out.below GW.out.b hbw
          obtain ⟨j, rfl⟩ : ∃ j, k = j + 1 := ⟨k - 1, by omega⟩
          rw [Nat.add_sub_cancel] at z0 z1 z2
          simp only at z0 z1 z2 d0 d1 d2
          have x0 : ∀ n os, (Go.Sort.grow (W2.drewN n) os).cell? ⟨b, off + j * 4, none⟩ = some (.int .u32 za) := cell_grown (World.block_lt_of_cell? _ _ z0) z0
          have x1 : ∀ n os, (Go.Sort.grow (W2.drewN n) os).cell? ⟨b, off + j * 4 + 1, none⟩ = some (.int .u32 zp) := cell_grown (World.block_lt_of_cell? _ _ z1) z1
          have x2 : ∀ n os, (Go.Sort.grow (W2.drewN n) os).cell? ⟨b, off + j * 4 + 2, none⟩ = some (.int .i64 zl) := cell_grown (World.block_lt_of_cell? _ _ z2) z2
          have y0 : ∀ n os, (Go.Sort.grow (W2.drewN n) os).cell? ⟨b, off + (j + 1) * 4, none⟩ = some (.int .u32 ga) := cell_grown (World.block_lt_of_cell? _ _ d0) d0
          have y1 : ∀ n os, (Go.Sort.grow (W2.drewN n) os).cell? ⟨b, off + (j + 1) * 4 + 1, none⟩ = some (.int .u32 gp) := cell_grown (World.block_lt_of_cell? _ _ d1) d1
          have y2 : ∀ n os, (Go.Sort.grow (W2.drewN n) os).cell? ⟨b, off + (j + 1) * 4 + 2, none⟩ = some (.int .i64 gl) := cell_grown (World.block_lt_of_cell? _ _ d2) d2
          have N2 := Lib.hid (fun h W g => NX.out VP.out (fun _ => h) W g)
          have S2 := Lib.hid (fun hn W g => ST.out (NL.out h0 hn) W g)
          clear ST NL
          have j0 : (0 : Int) ≤ (j : Int) := by omega
          have j1 : (j : Int) < (l.length : Int) := by omega
          have s1 : IntKind.i64.wrap (((j + 1 : Nat) : Int) - 1) = (j : Int) := by rw [IntWalk.i64_in _ (by omega)]; omega
          have s2 : ((j : Int)).toNat = j := by omega
          have k1 : decide ((0 : Int) < ((j + 1 : Nat) : Int)) = true := decide_eq_true (by omega)
          clear z0 z1 z2 d0 d1 d2 PV D0 NX h0 FC
          by_cases h1 : za < ga
          · have e1 : decide (za < ga) = true := decide_eq_true h1
            have N3 := Lib.hid (N2.out (.inl h1))
            clear N2 S2 LC h1
            refine wp_region_quiet_grown (by assumption) (by kernel_rfl) ?_
            repeat (go_big_quiet_step (fail))
            refine wpQuiet_nil ?_
            intro _ hw'
            obtain ⟨⟨nq2, osq⟩, hw''⟩ := hw'
            subst hw''
            have FI := Lib.hid (N3.out _ (GR.out nq2 osq))
            clear x0 x1 x2 y0 y1 y2
            go_wp2_with fail
            go_roundw
            case rel => exact ⟨j + 1 + 1, by go_num, FI.out⟩
            case measure => simp [intOf]; omega
          · have e1 : decide (za < ga) = false := decide_eq_false h1
            by_cases h2 : za = ga
            · have e2 : (za == ga) = true := by simpa using h2
              cases hp : Ls.pfxLt ⟨zp, zl⟩ ⟨gp, gl⟩ with
              | true =>
                rw [hp] at LC
                have N3 := Lib.hid (N2.out (.inr ⟨h2, hp⟩))
                clear N2 S2 h1 h2 hp
                refine wp_region_quiet_grown (by assumption) (by kernel_rfl) ?_
                repeat (go_big_quiet_step ((go_at_call 55; with_reducible exact Calls.grown_of (LC.out _))))
                refine wpQuiet_nil ?_
                intro _ hw'
                obtain ⟨⟨nq2, osq⟩, hw''⟩ := hw'
                subst hw''
                have FI := Lib.hid (N3.out _ (GR.out nq2 osq))
                clear x0 x1 x2 y0 y1 y2
                go_wp2_with fail
                go_roundw
                case rel => exact ⟨j + 1 + 1, by go_num, FI.out⟩
                case measure => simp [intOf]; omega
              | false =>
                rw [hp] at LC
                have S3 := Lib.hid (S2.out (fun hh => by rcases hh with hh | ⟨_, hh⟩; exact h1 hh; rw [hp] at hh; cases hh))
                clear N2 S2 h1 h2 hp
                refine wp_region_quiet_grown (by assumption) (by kernel_rfl) ?_
                repeat (go_big_quiet_step ((go_at_call 55; with_reducible exact Calls.grown_of (LC.out _))))
                refine wpQuiet_nil ?_
                intro _ hw'
                obtain ⟨⟨nq2, osq⟩, hw''⟩ := hw'
                subst hw''
                have FI := Lib.hid (S3.out _ (GR.out nq2 osq))
                clear x0 x1 x2 y0 y1 y2
                go_wp2_with fail
                go_returns
                exact FI.out
            · have e2 : (za == ga) = false := by simpa using h2
              have S3 := Lib.hid (S2.out (fun hh => by rcases hh with hh | ⟨hh, _⟩; exact h1 hh; exact h2 hh))
              clear N2 S2 LC h1 h2
              refine wp_region_quiet_grown (by assumption) (by kernel_rfl) ?_
              repeat (go_big_quiet_step (fail))
              refine wpQuiet_nil ?_
              intro _ hw'
              obtain ⟨⟨nq2, osq⟩, hw''⟩ := hw'
              subst hw''
              have FI := Lib.hid (S3.out _ (GR.out nq2 osq))
              clear x0 x1 x2 y0 y1 y2
              go_wp2_with fail
              go_returns
              exact FI.out
    · have E : Hid (FineX w (ArgsFine l) (.returned (.bool true)) wr) := Lib.hid ⟨true, rfl, R.gr, fun _ => ⟨fun y hy => by
        obtain ⟨i, hi, rfl⟩ := List.getElem_of_mem hy
        rw [← argAt_eq hi]; exact R.ok i (by omega), fun i h0 hi => R.od i h0 (by omega)⟩, fun _ => rfl⟩
      clear R
      go_wp2_with fail
      go_ret
      exact E.out


theorem fine_two (x y : Arg) : ArgsFine [x, y] ↔ validP x.pfx = true ∧ validP y.pfx = true ∧ agLt x y := by
  constructor
  · intro h
    exact ⟨h.1 x (by simp), h.1 y (by simp), h.2 1 (by omega) (by simp)⟩
  · intro h
    refine ⟨fun o ho => ?_, fun i h0 hi => ?_⟩
    · simp only [List.mem_cons, List.not_mem_nil, or_false] at ho
      rcases ho with rfl | rfl
      · exact h.1
      · exact h.2.1
    · simp only [List.length_cons, List.length_nil] at hi
      obtain rfl : i = 1 := by omega
      exact h.2.2

end Go.Proofs.YtombnejipaoinaaGreat
