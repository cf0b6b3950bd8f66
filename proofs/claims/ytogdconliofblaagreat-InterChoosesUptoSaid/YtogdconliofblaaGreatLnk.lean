/-
  routingref23.links: the error of a router advertisement's links.
-/
/-
  routingref23.attached: the error of a network advertisement's routers.
-/
/-
  routingref23.Check, of every advertisement.
-/
import Derived.Test.YtogdconliofblaaGreatBon
import Derived.Test.YtogdconliofblaaGreatLkk
import Derived.Test.YtogdconliofblaaGreatHed
import Derived.IntWalk
import Derived.Deep.DeepCutAuto
namespace Go.Proofs.YtogdconliofblaaGreat
open Go.RowKit

/-- c is the first error of n errors, or 0 -/
def FirstErr (n : Nat) (err : Nat → Int) (c : Int) : Prop := ((∀ i, i < n → err i = 0) ∧ c = 0) ∨ ∃ k, k < n ∧ (∀ i, i < k → err i = 0) ∧ err k = c ∧ c ≠ 0

theorem FirstErr.one {n : Nat} {err : Nat → Int} {c d : Int} (h : FirstErr n err c) (k : FirstErr n err d) : c = d := by
  rcases h with ⟨h2, rfl⟩ | ⟨i, h2, h3, h4, h5⟩ <;> rcases k with ⟨k2, rfl⟩ | ⟨j, k2, k3, k4, k5⟩
  · rfl
  · exact absurd ((h2 j k2).symm.trans k4) (Ne.symm k5)
  · exact absurd (k2 i h2 ▸ h4) (Ne.symm h5)
  · rcases Nat.lt_trichotomy i j with e | e | e
    · have := k3 i e; rw [h4] at this; exact absurd this h5
    · subst e; rw [← h4, k4]
    · have := h3 j e; rw [k4] at this; exact absurd this k5

def lnkCmp (a b : Lnk) : Int := orI [cmpI a.kind b.kind, cmpI a.id b.id, cmpI a.data b.data]
def lnkAt (l : List Lnk) (k : Nat) : Lnk := l.getD k default
/-- the error of link k of router r -/
def lnkErr (l : List Lnk) (r : Int) (k : Nat) : Int :=
  if withinB (lnkAt l k).kind 1 3 = false then 15
  else if withinB (lnkAt l k).cost 1 65535 = false then 5
  else if (lnkAt l k).kind = 1 ∧ ((lnkAt l k).id = 0 ∨ (lnkAt l k).id = r) then 1
  else if (lnkAt l k).kind = 3 ∧ (32 < (lnkAt l k).data ∨ fitsB (lnkAt l k).id (lnkAt l k).data = false) then 1
  else if 0 < k ∧ 0 ≤ lnkCmp (lnkAt l (k - 1)) (lnkAt l k) then 16 else 0

def LnkIs (l : List Lnk) (r c : Int) : Prop := (64 < l.length ∧ c = 4) ∨ (l.length ≤ 64 ∧ FirstErr l.length (lnkErr l r) c)
def LnkPost (w : World) (l : List Lnk) (r : Int) (e : Ending) (w' : World) : Prop := ∃ c, e = .returned (.int .i64 c) ∧ LnkIs l r c ∧ Gr w w'

structure LnkRel (W : World) (l : List Lnk) (r : Int) (k : Nat) (wr : World) : Prop where
  hk : k ≤ l.length
  ok : ∀ i, i < k → lnkErr l r i = 0
  gr : Gr W wr

theorem LnkRel.step {W : World} {l : List Lnk} {r : Int} {k : Nat} {wr wr' : World} (R : LnkRel W l r k wr) (c : k < l.length) (h : lnkErr l r k = 0) (g : Gr wr wr') : LnkRel W l r (k + 1) wr' :=
  ⟨c, fun i hi => by rcases Nat.lt_or_ge i k with h' | h'; · exact R.ok i h'
                     · rw [show i = k from by omega]; exact h, R.gr.trans g⟩
theorem LnkRel.stop {w W : World} {l : List Lnk} {r : Int} {k : Nat} {wr wr' : World} (R : LnkRel W l r k wr) (G0 : Gr w W) (hl : l.length ≤ 64) (c : k < l.length) {e : Int} (h : lnkErr l r k = e) (he : e ≠ 0) (g : Gr wr wr') : LnkPost w l r (.returned (.int .i64 e)) wr' :=
  ⟨e, rfl, .inr ⟨hl, .inr ⟨k, c, R.ok, h, he⟩⟩, G0.trans (R.gr.trans g)⟩

theorem lnkAt_eq {l : List Lnk} {k : Nat} (c : k < l.length) : lnkAt l k = l[k] := by
  rw [lnkAt, List.getD_eq_getElem?_getD, List.getElem?_eq_getElem c]; rfl

/-- the cells of link k -/
def LnkC (w : World) (b o : Nat) (x : Lnk) : Prop := w.cell? ⟨b, o, none⟩ = some (.int .i64 x.kind) ∧ w.cell? ⟨b, o + 1, none⟩ = some (.int .u32 x.id) ∧ w.cell? ⟨b, o + 2, none⟩ = some (.int .u32 x.data) ∧ w.cell? ⟨b, o + 3, none⟩ = some (.int .i64 x.cost)
theorem LnkC.gr {w w' : World} {b o : Nat} {x : Lnk} (h : LnkC w b o x) (g : Gr w w') : LnkC w' b o x := ⟨bcell g.b h.1, bcell g.b h.2.1, bcell g.b h.2.2.1, bcell g.b h.2.2.2⟩

set_option maxHeartbeats 8000000 in
set_option maxRecDepth 100000 in
theorem links_calls (x : Lsa) (l : List Lnk) (w : World) (hl : LnksAt w (.slice x.la x.ln x.lc) l) (hr : ∀ y ∈ l, 0 ≤ y.id ∧ y.id < 4294967296 ∧ 0 ≤ y.data ∧ y.data < 4294967296) : Calls Tryz.prog 119 #[.agg (lsaE x).toArray] w (LnkPost w l x.router) := by
  obtain ⟨typ, id, len, router, seq, age, sum, border, boundary, la, ln, lc, aa, an, ac, cost, second, fwd, tag⟩ := x
  simp only [lsaE] at *
  obtain ⟨a0, c0, e0, hc⟩ := hl.get
  cases e0
  have hlen : l.length ≤ 9223372036854775807 := SlV.len hl |> fun h => by simpa using h
  have HC := Lib.hid hc
  have HR := Lib.hid hr
  clear hl hc hr
  obtain ⟨W, hW⟩ : ∃ W, w.alloc (.cells #[.int .i64 typ, .int .u32 id, .int .i64 len, .int .u32 router, .int .i64 seq, .int .i64 age, .int .i64 sum, .bool border, .bool boundary, .slice la l.length lc, .slice aa an ac, .int .i64 cost, .bool second, .int .u32 fwd, .int .i64 tag] 47) = W := ⟨_, rfl⟩
  have bx : W.heap[w.heap.size]? = some (.cells #[.int .i64 typ, .int .u32 id, .int .i64 len, .int .u32 router, .int .i64 seq, .int .i64 age, .int .i64 sum, .bool border, .bool boundary, .slice la l.length lc, .slice aa an ac, .int .i64 cost, .bool second, .int .u32 fwd, .int .i64 tag] 47 (0, 0)) := by rw [← hW]; exact alloc_new _ _
  have G0 : Hid (Gr w W) := Lib.hid (by rw [← hW]; exact (Gr.refl _).alloc _)
  have E9 : Hid (W.cell? ⟨w.heap.size, 9, none⟩ = some (.slice la l.length lc)) := Lib.hid (blk_cell bx rfl)
  have E3 : Hid (W.cell? ⟨w.heap.size, 3, none⟩ = some (.int .u32 router)) := Lib.hid (blk_cell bx rfl)
  have e9 := E9.out
  have HW := Lib.hid hW
  clear hW bx
  by_cases h64 : 64 < l.length
  · have E : Hid (LnkPost w l router (.returned (.int .i64 4)) W) := Lib.hid ⟨4, rfl, .inl ⟨h64, rfl⟩, G0.out⟩
    go_enter Tryz.func119, Tryz.ntmps119
    go_wp2_with fail
    rw [HW.out]
    go_wp2_with fail
    go_ret
    exact E.out
  · have R0 : Hid (LnkRel W l router 0 W) := Lib.hid ⟨Nat.zero_le _, fun i hi => by omega, Gr.refl _⟩
    have h64' : l.length ≤ 64 := by omega
    clear h64
    have mixed : Tryz.prog.follows .mixedOrders = true := by kernel_rfl
    go_enter Tryz.func119, Tryz.ntmps119
    go_wp2_with fail
    rw [HW.out]
    go_wp2_with fail
    clear e9
    go_loopw [3] (fun i wr => ∃ (k : Nat), i = .int .i64 k ∧ LnkRel W l router k wr) (fun i _ => l.length - (intOf i).toNat)
    case atStart => exact ⟨0, rfl, R0.out⟩
    case round =>
      clear R0
      obtain ⟨k, rfl, R⟩ := hrel
      have hk := R.hk
      have e9 := bcell R.gr.b E9.out
      by_cases c : k < l.length
      · obtain ⟨b, off, rfl, hb0, hcc⟩ := HC.out (by omega)
        have D0 : Hid (LnkC wr b (off + k * 4) (lnkAt l k)) := Lib.hid (by
          rw [lnkAt_eq c]; obtain ⟨q0, q1, q2, q3⟩ := hcc k c
          exact LnkC.gr ⟨q0, q1, q2, q3⟩ (G0.out.trans R.gr))
        have PV : Hid (0 < k → LnkC wr b (off + (k - 1) * 4) (lnkAt l (k - 1))) := Lib.hid (fun h0 => by
          rw [lnkAt_eq (by omega)]; obtain ⟨q0, q1, q2, q3⟩ := hcc (k - 1) (by omega)
          exact LnkC.gr ⟨q0, q1, q2, q3⟩ (G0.out.trans R.gr))
        obtain ⟨z0, z1, z2, z3⟩ : 0 ≤ (lnkAt l k).id ∧ (lnkAt l k).id < 4294967296 ∧ 0 ≤ (lnkAt l k).data ∧ (lnkAt l k).data < 4294967296 := by rw [lnkAt_eq c]; exact HR.out _ (List.getElem_mem c)
        have NXT := Lib.hid (fun (h : lnkErr l router k = 0) (W' : World) (g : Gr wr W') => R.step c h g)
        have STP := Lib.hid (fun (e : Int) (h : lnkErr l router k = e) (he : e ≠ 0) (W' : World) (g : Gr wr W') => R.stop G0.out h64' c h he g)
        have EE : Hid (lnkErr l router k = if withinB (lnkAt l k).kind 1 3 = false then 15 else if withinB (lnkAt l k).cost 1 65535 = false then 5 else if (lnkAt l k).kind = 1 ∧ ((lnkAt l k).id = 0 ∨ (lnkAt l k).id = router) then 1 else if (lnkAt l k).kind = 3 ∧ (32 < (lnkAt l k).data ∨ fitsB (lnkAt l k).id (lnkAt l k).data = false) then 1 else if 0 < k ∧ 0 ≤ lnkCmp (lnkAt l (k - 1)) (lnkAt l k) then 16 else 0) := Lib.hid rfl
        have e3 := bcell R.gr.b E3.out
        have i0 : (0 : Int) ≤ (k : Int) := by omega
        have i1 : (k : Int) < (l.length : Int) := by omega
        have s3 : ((k : Int)).toNat = k := by omega
        clear R hcc
        generalize lnkAt l k = y at *
        obtain ⟨d0, d1, d2, d3⟩ := D0.out
        obtain ⟨kind, yid, data, ycost⟩ := y
        simp only at d0 d1 d2 d3 z0 z1 z2 z3
        simp only at EE
        have e3x : (wr.alloc (.cells #[.int .i64 kind, .int .u32 yid, .int .u32 data, .int .i64 ycost] 161)).cell? ⟨w.heap.size, 3, none⟩ = some (.int .u32 router) := bcell ((Gr.refl wr).alloc _).b e3
        have GA : Hid (Gr wr (wr.alloc (.cells #[.int .i64 kind, .int .u32 yid, .int .u32 data, .int .i64 ycost] 161))) := Lib.hid ((Gr.refl wr).alloc _)
        have FC := Lib.hid (fun W => fits_calls yid data z0 z1 W)
        by_cases k3 : kind = 3
        · subst k3
          by_cases g1 : 32 < data
          · have g2 : decide (32 < data) = true := by simpa using g1
            go_wp2_with (first | (go_at_call 121; refine (within_calls _ _ _ _).mono ?_; rintro e w' ⟨rfl, rfl⟩) | (go_at_call 70; refine (FC.out _).mono ?_; rintro e w' ⟨rfl, rfl⟩))
            · have n1 : ¬ withinB 3 1 3 = false := by decide
              have EL := Lib.hid (STP.out 5 (by rw [EE.out, if_neg n1, if_pos (by simpa using ‹(!withinB ycost 1 65535) = true›)]) (by decide) _ GA.out)
              go_returns
              exact EL.out
            · have n1 : ¬ withinB 3 1 3 = false := by decide
              have n2 : ¬ withinB ycost 1 65535 = false := by rw [show withinB ycost 1 65535 = true from (by simpa using ‹(!withinB ycost 1 65535) = false›)]; simp
              have EL := Lib.hid (STP.out 1 (by rw [EE.out, if_neg n1, if_neg n2]; rw [if_neg (by simp), if_pos (by simp [g1])]) (by decide) _ GA.out)
              go_returns
              exact EL.out
          · have g2 : decide (32 < data) = false := by simpa using g1
            cases hf : fitsB yid data with
            | false =>
              rw [hf] at FC
              go_wp2_with (first | (go_at_call 121; refine (within_calls _ _ _ _).mono ?_; rintro e w' ⟨rfl, rfl⟩) | (go_at_call 70; refine (FC.out _).mono ?_; rintro e w' ⟨rfl, rfl⟩))
              · have n1 : ¬ withinB 3 1 3 = false := by decide
                have EL := Lib.hid (STP.out 5 (by rw [EE.out, if_neg n1, if_pos (by simpa using ‹(!withinB ycost 1 65535) = true›)]) (by decide) _ GA.out)
                go_returns
                exact EL.out
              · have n1 : ¬ withinB 3 1 3 = false := by decide
                have n2 : ¬ withinB ycost 1 65535 = false := by rw [show withinB ycost 1 65535 = true from (by simpa using ‹(!withinB ycost 1 65535) = false›)]; simp
                have EL := Lib.hid (STP.out 1 (by rw [EE.out, if_neg n1, if_neg n2]; rw [if_neg (by simp), if_pos (by simp [hf])]) (by decide) _ GA.out)
                go_returns
                exact EL.out
            | true =>
              rw [hf] at FC
              go_wp2_with (first | (go_at_call 121; refine (within_calls _ _ _ _).mono ?_; rintro e w' ⟨rfl, rfl⟩) | (go_at_call 70; refine (FC.out _).mono ?_; rintro e w' ⟨rfl, rfl⟩))
              · have n1 : ¬ withinB 3 1 3 = false := by decide
                have EL := Lib.hid (STP.out 5 (by rw [EE.out, if_neg n1, if_pos (by simpa using ‹(!withinB ycost 1 65535) = true›)]) (by decide) _ GA.out)
                go_returns
                exact EL.out
              · have n1 : ¬ withinB 3 1 3 = false := by decide
                have n2 : ¬ withinB ycost 1 65535 = false := by rw [show withinB ycost 1 65535 = true from (by simpa using ‹(!withinB ycost 1 65535) = false›)]; simp
                have E2 : Hid (lnkErr l router k = if 0 < k ∧ 0 ≤ lnkCmp (lnkAt l (k - 1)) ⟨3, yid, data, ycost⟩ then 16 else 0) := Lib.hid (by rw [EE.out, if_neg n1, if_neg n2]; rw [if_neg (by simp), if_neg (by simp [hf]; omega)])
                clear EE n1 n2 d0 d1 d2 d3
                generalize hW1 : wr.alloc _ = W1
                have bx1 : W1.heap[wr.heap.size]? = some (.cells #[.int .i64 3, .int .u32 yid, .int .u32 data, .int .i64 ycost] 161 (0, 0)) := by rw [← hW1]; exact alloc_new _ _
                have G1 : Hid (Gr wr W1) := Lib.hid (by rw [← hW1]; exact (Gr.refl _).alloc _)
                have e9 := bcell G1.out.b e9
                clear hW1 e3 e3x
                rcases Nat.eq_zero_or_pos k with h0 | h0
                · subst h0
                  clear PV D0 e9
                  have NX := Lib.hid (fun n => NXT.out (by rw [E2.out]; rfl) (W1.drewN n) (G1.out.drewN n))
                  go_quiet (fail)
                  go_wp2_with fail
                  go_roundw
                  case rel => exact ⟨1, by go_num, NX.out _⟩
                  case measure => simp [intOf]; omega
                · obtain ⟨q0, q1, q2, q3⟩ := (PV.out h0).gr G1.out
                  have p0 := blk_cell (i := 0) bx1 rfl
                  have p1 := blk_cell (i := 1) bx1 rfl
                  have p2 := blk_cell (i := 2) bx1 rfl
                  have p3 := blk_cell (i := 3) bx1 rfl
                  generalize lnkAt l (k - 1) = z at *
                  obtain ⟨zk, zi, zd, zc⟩ := z
                  simp only at q0 q1 q2 q3
                  obtain ⟨j, rfl⟩ : ∃ j, k = j + 1 := ⟨k - 1, by omega⟩
                  rw [Nat.add_sub_cancel] at q0 q1 q2 q3
                  have y9 : ∀ n os, (Go.Sort.grow (W1.drewN n) os).cell? ⟨w.heap.size, 9, none⟩ = some (.slice (some ⟨b, off, none⟩) l.length lc) := cell_grown (World.block_lt_of_cell? _ _ e9) e9
                  have y0 : ∀ n os, (Go.Sort.grow (W1.drewN n) os).cell? ⟨b, off + j * 4, none⟩ = some (.int .i64 zk) := cell_grown (World.block_lt_of_cell? _ _ q0) q0
                  have y1 : ∀ n os, (Go.Sort.grow (W1.drewN n) os).cell? ⟨b, off + j * 4 + 1, none⟩ = some (.int .u32 zi) := cell_grown (World.block_lt_of_cell? _ _ q1) q1
                  have y2 : ∀ n os, (Go.Sort.grow (W1.drewN n) os).cell? ⟨b, off + j * 4 + 2, none⟩ = some (.int .u32 zd) := cell_grown (World.block_lt_of_cell? _ _ q2) q2
                  have y3 : ∀ n os, (Go.Sort.grow (W1.drewN n) os).cell? ⟨b, off + j * 4 + 3, none⟩ = some (.int .i64 zc) := cell_grown (World.block_lt_of_cell? _ _ q3) q3
                  have x0 : ∀ n os, (Go.Sort.grow (W1.drewN n) os).cell? ⟨wr.heap.size, 0, none⟩ = some (.int .i64 3) := cell_grown (World.block_lt_of_cell? _ _ p0) p0
                  have x1 : ∀ n os, (Go.Sort.grow (W1.drewN n) os).cell? ⟨wr.heap.size, 1, none⟩ = some (.int .u32 yid) := cell_grown (World.block_lt_of_cell? _ _ p1) p1
                  have x2 : ∀ n os, (Go.Sort.grow (W1.drewN n) os).cell? ⟨wr.heap.size, 2, none⟩ = some (.int .u32 data) := cell_grown (World.block_lt_of_cell? _ _ p2) p2
                  have x3 : ∀ n os, (Go.Sort.grow (W1.drewN n) os).cell? ⟨wr.heap.size, 3, none⟩ = some (.int .i64 ycost) := cell_grown (World.block_lt_of_cell? _ _ p3) p3
                  have j0 : (0 : Int) ≤ (j : Int) := by omega
                  have j1 : (j : Int) < (l.length : Int) := by omega
                  have s1 : IntKind.i64.wrap (((j + 1 : Nat) : Int) - 1) = (j : Int) := by rw [IntWalk.i64_in _ (by omega)]; omega
                  have s2 : ((j : Int)).toNat = j := by omega
                  have LC := Lib.hid (fun W => links_raw zk 3 zi yid zd data zc ycost W)
                  have E3 : Hid (lnkErr l router (j + 1) = if 0 ≤ orI [cmpI zk 3, cmpI zi yid, cmpI zd data] then 16 else 0) := Lib.hid (by rw [E2.out]; simp [lnkCmp])
                  generalize orI [cmpI zk 3, cmpI zi yid, cmpI zd data] = r at *
                  clear E2 PV D0 q0 q1 q2 q3 p0 p1 p2 p3 e9 bx1
                  by_cases hr : 0 ≤ r
                  · have NX := Lib.hid (fun (W' : World) (g : Gr wr W') => STP.out 16 (by rw [E3.out, if_pos hr]) (by decide) W' g)
                    have dr : decide (0 ≤ r) = true := by simpa using hr
                    refine wp_region_quiet_grown (by assumption) (by kernel_rfl) ?_
                    repeat (go_big_quiet_step ((go_at_call 151; exact Calls.grown_of ((LC.out _).mono fun _ _ ⟨he, hg⟩ => ⟨he, hg.grow⟩))))
                    refine wpQuiet_nil ?_
                    intro _ hw'
                    obtain ⟨⟨nq, osq⟩, hw''⟩ := hw'
                    subst hw''
                    have RN := Lib.hid (NX.out _ (G1.out.trans (Gr.of_grow nq osq)))
                    clear y0 y1 y2 y3 y9 x0 x1 x2 x3 s1 s2 s3
                    go_wp2_with fail
                    go_returns
                    exact RN.out
                  · have NX := Lib.hid (fun (W' : World) (g : Gr wr W') => NXT.out (by rw [E3.out, if_neg hr]) W' g)
                    have dr : decide (0 ≤ r) = false := by simpa using hr
                    refine wp_region_quiet_grown (by assumption) (by kernel_rfl) ?_
                    repeat (go_big_quiet_step ((go_at_call 151; exact Calls.grown_of ((LC.out _).mono fun _ _ ⟨he, hg⟩ => ⟨he, hg.grow⟩))))
                    refine wpQuiet_nil ?_
                    intro _ hw'
                    obtain ⟨⟨nq, osq⟩, hw''⟩ := hw'
                    subst hw''
                    have RN := Lib.hid (NX.out _ (G1.out.trans (Gr.of_grow nq osq)))
                    clear y0 y1 y2 y3 y9 x0 x1 x2 x3 s1 s2 s3
                    go_wp2_with fail
                    go_roundw
                    case rel => exact ⟨j + 1 + 1, by go_num, RN.out⟩
                    case measure => simp [intOf]; omega
        by_cases k1 : kind = 1
        · subst k1
          by_cases g1 : yid = 0
          · subst g1
            go_wp2_with (first | (go_at_call 121; refine (within_calls _ _ _ _).mono ?_; rintro e w' ⟨rfl, rfl⟩) | (go_at_call 70; refine (FC.out _).mono ?_; rintro e w' ⟨rfl, rfl⟩))
            · have n1 : ¬ withinB 1 1 3 = false := by decide
              have EL := Lib.hid (STP.out 5 (by rw [EE.out, if_neg n1, if_pos (by simpa using ‹(!withinB ycost 1 65535) = true›)]) (by decide) _ GA.out)
              go_returns
              exact EL.out
            · have n1 : ¬ withinB 1 1 3 = false := by decide
              have n2 : ¬ withinB ycost 1 65535 = false := by rw [show withinB ycost 1 65535 = true from (by simpa using ‹(!withinB ycost 1 65535) = false›)]; simp
              have EL := Lib.hid (STP.out 1 (by rw [EE.out, if_neg n1, if_neg n2]; rw [if_pos (by simp)]) (by decide) _ GA.out)
              go_returns
              exact EL.out
          have g2 : (yid == 0) = false := by simpa using g1
          by_cases g3 : yid = router
          · subst g3
            go_wp2_with (first | (go_at_call 121; refine (within_calls _ _ _ _).mono ?_; rintro e w' ⟨rfl, rfl⟩) | (go_at_call 70; refine (FC.out _).mono ?_; rintro e w' ⟨rfl, rfl⟩))
            · have n1 : ¬ withinB 1 1 3 = false := by decide
              have EL := Lib.hid (STP.out 5 (by rw [EE.out, if_neg n1, if_pos (by simpa using ‹(!withinB ycost 1 65535) = true›)]) (by decide) _ GA.out)
              go_returns
              exact EL.out
            · have n1 : ¬ withinB 1 1 3 = false := by decide
              have n2 : ¬ withinB ycost 1 65535 = false := by rw [show withinB ycost 1 65535 = true from (by simpa using ‹(!withinB ycost 1 65535) = false›)]; simp
              have EL := Lib.hid (STP.out 1 (by rw [EE.out, if_neg n1, if_neg n2]; rw [if_pos (by simp)]) (by decide) _ GA.out)
              go_returns
              exact EL.out
          have g4 : (yid == router) = false := by simpa using g3
          go_wp2_with (first | (go_at_call 121; refine (within_calls _ _ _ _).mono ?_; rintro e w' ⟨rfl, rfl⟩) | (go_at_call 70; refine (FC.out _).mono ?_; rintro e w' ⟨rfl, rfl⟩))
          · have n1 : ¬ withinB 1 1 3 = false := by decide
            have EL := Lib.hid (STP.out 5 (by rw [EE.out, if_neg n1, if_pos (by simpa using ‹(!withinB ycost 1 65535) = true›)]) (by decide) _ GA.out)
            go_returns
            exact EL.out
          · have n1 : ¬ withinB 1 1 3 = false := by decide
            have n2 : ¬ withinB ycost 1 65535 = false := by rw [show withinB ycost 1 65535 = true from (by simpa using ‹(!withinB ycost 1 65535) = false›)]; simp
            have E2 : Hid (lnkErr l router k = if 0 < k ∧ 0 ≤ lnkCmp (lnkAt l (k - 1)) ⟨1, yid, data, ycost⟩ then 16 else 0) := Lib.hid (by rw [EE.out, if_neg n1, if_neg n2]; rw [if_neg (by simp [g1, g3]), if_neg (by simp)])
            clear EE n1 n2 d0 d1 d2 d3
            generalize hW1 : wr.alloc _ = W1
            have bx1 : W1.heap[wr.heap.size]? = some (.cells #[.int .i64 1, .int .u32 yid, .int .u32 data, .int .i64 ycost] 161 (0, 0)) := by rw [← hW1]; exact alloc_new _ _
            have G1 : Hid (Gr wr W1) := Lib.hid (by rw [← hW1]; exact (Gr.refl _).alloc _)
            have e9 := bcell G1.out.b e9
            clear hW1 e3 e3x
            rcases Nat.eq_zero_or_pos k with h0 | h0
            · subst h0
              clear PV D0 e9
              have NX := Lib.hid (fun n => NXT.out (by rw [E2.out]; rfl) (W1.drewN n) (G1.out.drewN n))
              go_quiet (fail)
              go_wp2_with fail
              go_roundw
              case rel => exact ⟨1, by go_num, NX.out _⟩
              case measure => simp [intOf]; omega
            · obtain ⟨q0, q1, q2, q3⟩ := (PV.out h0).gr G1.out
              have p0 := blk_cell (i := 0) bx1 rfl
              have p1 := blk_cell (i := 1) bx1 rfl
              have p2 := blk_cell (i := 2) bx1 rfl
              have p3 := blk_cell (i := 3) bx1 rfl
              generalize lnkAt l (k - 1) = z at *
              obtain ⟨zk, zi, zd, zc⟩ := z
              simp only at q0 q1 q2 q3
              obtain ⟨j, rfl⟩ : ∃ j, k = j + 1 := ⟨k - 1, by omega⟩
              rw [Nat.add_sub_cancel] at q0 q1 q2 q3
              have y9 : ∀ n os, (Go.Sort.grow (W1.drewN n) os).cell? ⟨w.heap.size, 9, none⟩ = some (.slice (some ⟨b, off, none⟩) l.length lc) := cell_grown (World.block_lt_of_cell? _ _ e9) e9
              have y0 : ∀ n os, (Go.Sort.grow (W1.drewN n) os).cell? ⟨b, off + j * 4, none⟩ = some (.int .i64 zk) := cell_grown (World.block_lt_of_cell? _ _ q0) q0
              have y1 : ∀ n os, (Go.Sort.grow (W1.drewN n) os).cell? ⟨b, off + j * 4 + 1, none⟩ = some (.int .u32 zi) := cell_grown (World.block_lt_of_cell? _ _ q1) q1
              have y2 : ∀ n os, (Go.Sort.grow (W1.drewN n) os).cell? ⟨b, off + j * 4 + 2, none⟩ = some (.int .u32 zd) := cell_grown (World.block_lt_of_cell? _ _ q2) q2
              have y3 : ∀ n os, (Go.Sort.grow (W1.drewN n) os).cell? ⟨b, off + j * 4 + 3, none⟩ = some (.int .i64 zc) := cell_grown (World.block_lt_of_cell? _ _ q3) q3
              have x0 : ∀ n os, (Go.Sort.grow (W1.drewN n) os).cell? ⟨wr.heap.size, 0, none⟩ = some (.int .i64 1) := cell_grown (World.block_lt_of_cell? _ _ p0) p0
              have x1 : ∀ n os, (Go.Sort.grow (W1.drewN n) os).cell? ⟨wr.heap.size, 1, none⟩ = some (.int .u32 yid) := cell_grown (World.block_lt_of_cell? _ _ p1) p1
              have x2 : ∀ n os, (Go.Sort.grow (W1.drewN n) os).cell? ⟨wr.heap.size, 2, none⟩ = some (.int .u32 data) := cell_grown (World.block_lt_of_cell? _ _ p2) p2
              have x3 : ∀ n os, (Go.Sort.grow (W1.drewN n) os).cell? ⟨wr.heap.size, 3, none⟩ = some (.int .i64 ycost) := cell_grown (World.block_lt_of_cell? _ _ p3) p3
              have j0 : (0 : Int) ≤ (j : Int) := by omega
              have j1 : (j : Int) < (l.length : Int) := by omega
              have s1 : IntKind.i64.wrap (((j + 1 : Nat) : Int) - 1) = (j : Int) := by rw [IntWalk.i64_in _ (by omega)]; omega
              have s2 : ((j : Int)).toNat = j := by omega
              have LC := Lib.hid (fun W => links_raw zk 1 zi yid zd data zc ycost W)
              have E3 : Hid (lnkErr l router (j + 1) = if 0 ≤ orI [cmpI zk 1, cmpI zi yid, cmpI zd data] then 16 else 0) := Lib.hid (by rw [E2.out]; simp [lnkCmp])
              generalize orI [cmpI zk 1, cmpI zi yid, cmpI zd data] = r at *
              clear E2 PV D0 q0 q1 q2 q3 p0 p1 p2 p3 e9 bx1
              by_cases hr : 0 ≤ r
              · have NX := Lib.hid (fun (W' : World) (g : Gr wr W') => STP.out 16 (by rw [E3.out, if_pos hr]) (by decide) W' g)
                have dr : decide (0 ≤ r) = true := by simpa using hr
                refine wp_region_quiet_grown (by assumption) (by kernel_rfl) ?_
                repeat (go_big_quiet_step ((go_at_call 151; exact Calls.grown_of ((LC.out _).mono fun _ _ ⟨he, hg⟩ => ⟨he, hg.grow⟩))))
                refine wpQuiet_nil ?_
                intro _ hw'
                obtain ⟨⟨nq, osq⟩, hw''⟩ := hw'
                subst hw''
                have RN := Lib.hid (NX.out _ (G1.out.trans (Gr.of_grow nq osq)))
                clear y0 y1 y2 y3 y9 x0 x1 x2 x3 s1 s2 s3
                go_wp2_with fail
                go_returns
                exact RN.out
              · have NX := Lib.hid (fun (W' : World) (g : Gr wr W') => NXT.out (by rw [E3.out, if_neg hr]) W' g)
                have dr : decide (0 ≤ r) = false := by simpa using hr
                refine wp_region_quiet_grown (by assumption) (by kernel_rfl) ?_
                repeat (go_big_quiet_step ((go_at_call 151; exact Calls.grown_of ((LC.out _).mono fun _ _ ⟨he, hg⟩ => ⟨he, hg.grow⟩))))
                refine wpQuiet_nil ?_
                intro _ hw'
                obtain ⟨⟨nq, osq⟩, hw''⟩ := hw'
                subst hw''
                have RN := Lib.hid (NX.out _ (G1.out.trans (Gr.of_grow nq osq)))
                clear y0 y1 y2 y3 y9 x0 x1 x2 x3 s1 s2 s3
                go_wp2_with fail
                go_roundw
                case rel => exact ⟨j + 1 + 1, by go_num, RN.out⟩
                case measure => simp [intOf]; omega
        have q3 : (kind == 3) = false := by simpa using k3
        have q1 : (kind == 1) = false := by simpa using k1
        go_wp2_with (first | (go_at_call 121; refine (within_calls _ _ _ _).mono ?_; rintro e w' ⟨rfl, rfl⟩) | (go_at_call 70; refine (FC.out _).mono ?_; rintro e w' ⟨rfl, rfl⟩))
        · have E := STP.out 15 (by rw [EE.out, if_pos (by simpa using ‹(!withinB kind 1 3) = true›)]) (by decide) _ GA.out
          have EL := Lib.hid E
          clear E
          go_returns
          exact EL.out
        · have n1 : ¬ withinB kind 1 3 = false := by rw [show withinB kind 1 3 = true from (by simpa using ‹(!withinB kind 1 3) = false›)]; simp
          have EL := Lib.hid (STP.out 5 (by rw [EE.out, if_neg n1, if_pos (by simpa using ‹(!withinB ycost 1 65535) = true›)]) (by decide) _ GA.out)
          go_returns
          exact EL.out
        · have n1 : ¬ withinB kind 1 3 = false := by rw [show withinB kind 1 3 = true from (by simpa using ‹(!withinB kind 1 3) = false›)]; simp
          have n2 : ¬ withinB ycost 1 65535 = false := by rw [show withinB ycost 1 65535 = true from (by simpa using ‹(!withinB ycost 1 65535) = false›)]; simp
          have E2 : Hid (lnkErr l router k = if 0 < k ∧ 0 ≤ lnkCmp (lnkAt l (k - 1)) ⟨kind, yid, data, ycost⟩ then 16 else 0) := Lib.hid (by rw [EE.out, if_neg n1, if_neg n2]; rw [if_neg (by simp [k1]), if_neg (by simp [k3])])
          clear EE n1 n2 d0 d1 d2 d3
          generalize hW1 : wr.alloc _ = W1
          have bx1 : W1.heap[wr.heap.size]? = some (.cells #[.int .i64 kind, .int .u32 yid, .int .u32 data, .int .i64 ycost] 161 (0, 0)) := by rw [← hW1]; exact alloc_new _ _
          have G1 : Hid (Gr wr W1) := Lib.hid (by rw [← hW1]; exact (Gr.refl _).alloc _)
          have e9 := bcell G1.out.b e9
          clear hW1 e3 e3x
          rcases Nat.eq_zero_or_pos k with h0 | h0
          · subst h0
            clear PV D0 e9
            have NX := Lib.hid (fun n => NXT.out (by rw [E2.out]; rfl) (W1.drewN n) (G1.out.drewN n))
            go_quiet (fail)
            go_wp2_with fail
            go_roundw
            case rel => exact ⟨1, by go_num, NX.out _⟩
            case measure => simp [intOf]; omega
          · obtain ⟨q0, q1, q2, q3⟩ := (PV.out h0).gr G1.out
            have p0 := blk_cell (i := 0) bx1 rfl
            have p1 := blk_cell (i := 1) bx1 rfl
            have p2 := blk_cell (i := 2) bx1 rfl
            have p3 := blk_cell (i := 3) bx1 rfl
            generalize lnkAt l (k - 1) = z at *
            obtain ⟨zk, zi, zd, zc⟩ := z
            simp only at q0 q1 q2 q3
            obtain ⟨j, rfl⟩ : ∃ j, k = j + 1 := ⟨k - 1, by omega⟩
            rw [Nat.add_sub_cancel] at q0 q1 q2 q3
            have y9 : ∀ n os, (Go.Sort.grow (W1.drewN n) os).cell? ⟨w.heap.size, 9, none⟩ = some (.slice (some ⟨b, off, none⟩) l.length lc) := cell_grown (World.block_lt_of_cell? _ _ e9) e9
            have y0 : ∀ n os, (Go.Sort.grow (W1.drewN n) os).cell? ⟨b, off + j * 4, none⟩ = some (.int .i64 zk) := cell_grown (World.block_lt_of_cell? _ _ q0) q0
            have y1 : ∀ n os, (Go.Sort.grow (W1.drewN n) os).cell? ⟨b, off + j * 4 + 1, none⟩ = some (.int .u32 zi) := cell_grown (World.block_lt_of_cell? _ _ q1) q1
            have y2 : ∀ n os, (Go.Sort.grow (W1.drewN n) os).cell? ⟨b, off + j * 4 + 2, none⟩ = some (.int .u32 zd) := cell_grown (World.block_lt_of_cell? _ _ q2) q2
            have y3 : ∀ n os, (Go.Sort.grow (W1.drewN n) os).cell? ⟨b, off + j * 4 + 3, none⟩ = some (.int .i64 zc) := cell_grown (World.block_lt_of_cell? _ _ q3) q3
            have x0 : ∀ n os, (Go.Sort.grow (W1.drewN n) os).cell? ⟨wr.heap.size, 0, none⟩ = some (.int .i64 kind) := cell_grown (World.block_lt_of_cell? _ _ p0) p0
            have x1 : ∀ n os, (Go.Sort.grow (W1.drewN n) os).cell? ⟨wr.heap.size, 1, none⟩ = some (.int .u32 yid) := cell_grown (World.block_lt_of_cell? _ _ p1) p1
            have x2 : ∀ n os, (Go.Sort.grow (W1.drewN n) os).cell? ⟨wr.heap.size, 2, none⟩ = some (.int .u32 data) := cell_grown (World.block_lt_of_cell? _ _ p2) p2
            have x3 : ∀ n os, (Go.Sort.grow (W1.drewN n) os).cell? ⟨wr.heap.size, 3, none⟩ = some (.int .i64 ycost) := cell_grown (World.block_lt_of_cell? _ _ p3) p3
            have j0 : (0 : Int) ≤ (j : Int) := by omega
            have j1 : (j : Int) < (l.length : Int) := by omega
            have s1 : IntKind.i64.wrap (((j + 1 : Nat) : Int) - 1) = (j : Int) := by rw [IntWalk.i64_in _ (by omega)]; omega
            have s2 : ((j : Int)).toNat = j := by omega
            have LC := Lib.hid (fun W => links_raw zk kind zi yid zd data zc ycost W)
            have E3 : Hid (lnkErr l router (j + 1) = if 0 ≤ orI [cmpI zk kind, cmpI zi yid, cmpI zd data] then 16 else 0) := Lib.hid (by rw [E2.out]; simp [lnkCmp])
            generalize orI [cmpI zk kind, cmpI zi yid, cmpI zd data] = r at *
            clear E2 PV D0 q0 q1 q2 q3 p0 p1 p2 p3 e9 bx1
            by_cases hr : 0 ≤ r
            · have NX := Lib.hid (fun (W' : World) (g : Gr wr W') => STP.out 16 (by rw [E3.out, if_pos hr]) (by decide) W' g)
              have dr : decide (0 ≤ r) = true := by simpa using hr
              refine wp_region_quiet_grown (by assumption) (by kernel_rfl) ?_
              repeat (go_big_quiet_step ((go_at_call 151; exact Calls.grown_of ((LC.out _).mono fun _ _ ⟨he, hg⟩ => ⟨he, hg.grow⟩))))
              refine wpQuiet_nil ?_
              intro _ hw'
              obtain ⟨⟨nq, osq⟩, hw''⟩ := hw'
              subst hw''
              have RN := Lib.hid (NX.out _ (G1.out.trans (Gr.of_grow nq osq)))
              clear y0 y1 y2 y3 y9 x0 x1 x2 x3 s1 s2 s3
              go_wp2_with fail
              go_returns
              exact RN.out
            · have NX := Lib.hid (fun (W' : World) (g : Gr wr W') => NXT.out (by rw [E3.out, if_neg hr]) W' g)
              have dr : decide (0 ≤ r) = false := by simpa using hr
              refine wp_region_quiet_grown (by assumption) (by kernel_rfl) ?_
              repeat (go_big_quiet_step ((go_at_call 151; exact Calls.grown_of ((LC.out _).mono fun _ _ ⟨he, hg⟩ => ⟨he, hg.grow⟩))))
              refine wpQuiet_nil ?_
              intro _ hw'
              obtain ⟨⟨nq, osq⟩, hw''⟩ := hw'
              subst hw''
              have RN := Lib.hid (NX.out _ (G1.out.trans (Gr.of_grow nq osq)))
              clear y0 y1 y2 y3 y9 x0 x1 x2 x3 s1 s2 s3
              go_wp2_with fail
              go_roundw
              case rel => exact ⟨j + 1 + 1, by go_num, RN.out⟩
              case measure => simp [intOf]; omega
      · have R1 := R.ok
        have E : Hid (LnkPost w l router (.returned (.int .i64 0)) wr) := Lib.hid ⟨0, rfl, .inr ⟨h64', .inl ⟨fun i hi => R1 i (by omega), rfl⟩⟩, G0.out.trans R.gr⟩
        clear R R1
        go_wp2_with fail
        go_ret
        exact E.out

end Go.Proofs.YtogdconliofblaaGreat

namespace Go.Proofs.YtogdconliofblaaGreat
open Go.RowKit

def attBad (l : List Int) (k : Nat) : Bool := decide (l.getD k 0 = 0) || (decide (0 < k) && decide (l.getD k 0 ≤ l.getD (k - 1) 0))
/-- c is the error of the routers l of a network, r being its own -/
def AttIs (l : List Int) (r c : Int) : Prop := (64 < l.length ∧ c = 4) ∨ (l.length ≤ 64 ∧ ((∃ k, k < l.length ∧ attBad l k = true ∧ c = 16) ∨ ((∀ k, k < l.length → attBad l k = false) ∧ c = if r ∈ l then 0 else 14)))
def AttPost (w : World) (l : List Int) (r : Int) (e : Ending) (w' : World) : Prop := ∃ c, e = .returned (.int .i64 c) ∧ AttIs l r c ∧ Gr w w'

structure AttRel (W : World) (l : List Int) (r : Int) (k : Nat) (hb : Bool) (wr : World) : Prop where
  hk : k ≤ l.length
  ok : ∀ i, i < k → attBad l i = false
  has : hb = decide (r ∈ l.take k)
  gr : Gr W wr

theorem getI {l : List Int} {k : Nat} (c : k < l.length) : l.getD k 0 = l[k] := by
  rw [List.getD_eq_getElem?_getD, List.getElem?_eq_getElem c]; rfl

theorem AttRel.step {W : World} {l : List Int} {r : Int} {k : Nat} {hb : Bool} {wr W' : World} (R : AttRel W l r k hb wr) (c : k < l.length) (h : attBad l k = false) (g : Gr W W') (hb' : Bool) (e : hb' = (hb || decide (l[k] = r))) : AttRel W l r (k + 1) hb' W' := by
  refine ⟨c, fun i hi => ?_, ?_, g⟩
  · rcases Nat.lt_or_ge i k with h' | h'
    · exact R.ok i h'
    · rw [show i = k from by omega]; exact h
  · rw [e, R.has, List.take_succ_eq_append_getElem c, Bool.eq_iff_iff]
    simp only [Bool.or_eq_true, decide_eq_true_eq, List.mem_append, List.mem_singleton]
    exact or_congr_right ⟨Eq.symm, Eq.symm⟩

set_option maxHeartbeats 4000000 in
set_option maxRecDepth 100000 in
theorem attached_calls (x : Lsa) (l : List Int) (w : World) (hl : WordsAt w (.slice x.aa x.an x.ac) l) : Calls Tryz.prog 120 #[.agg (lsaE x).toArray] w (AttPost w l x.router) := by
  obtain ⟨typ, id, len, router, seq, age, sum, border, boundary, la, ln, lc, aa, an, ac, cost, second, fwd, tag⟩ := x
  simp only [lsaE] at *
  obtain ⟨a0, c0, e0, hc⟩ := hl.get
  cases e0
  have hlen : l.length ≤ 9223372036854775807 := SlV.len hl |> fun h => by simpa using h
  have HC := Lib.hid hc
  clear hl hc
  obtain ⟨W, hW⟩ : ∃ W, w.alloc (.cells #[.int .i64 typ, .int .u32 id, .int .i64 len, .int .u32 router, .int .i64 seq, .int .i64 age, .int .i64 sum, .bool border, .bool boundary, .slice la ln lc, .slice aa l.length ac, .int .i64 cost, .bool second, .int .u32 fwd, .int .i64 tag] 47) = W := ⟨_, rfl⟩
  have bx : W.heap[w.heap.size]? = some (.cells #[.int .i64 typ, .int .u32 id, .int .i64 len, .int .u32 router, .int .i64 seq, .int .i64 age, .int .i64 sum, .bool border, .bool boundary, .slice la ln lc, .slice aa l.length ac, .int .i64 cost, .bool second, .int .u32 fwd, .int .i64 tag] 47 (0, 0)) := by rw [← hW]; exact alloc_new _ _
  have G0 : Hid (Gr w W) := Lib.hid (by rw [← hW]; exact (Gr.refl _).alloc _)
  have E10 : Hid (W.cell? ⟨w.heap.size, 10, none⟩ = some (.slice aa l.length ac)) := Lib.hid (blk_cell bx rfl)
  have E3 : Hid (W.cell? ⟨w.heap.size, 3, none⟩ = some (.int .u32 router)) := Lib.hid (blk_cell bx rfl)
  have HW := Lib.hid hW
  clear hW bx
  by_cases h64 : 64 < l.length
  · have E : Hid (AttPost w l router (.returned (.int .i64 4)) W) := Lib.hid ⟨4, rfl, .inl ⟨h64, rfl⟩, G0.out⟩
    go_enter Tryz.func120, Tryz.ntmps120
    go_wp2_with fail
    rw [HW.out]
    go_ret
    exact E.out
  · have R0 : Hid (AttRel W l router 0 false W) := Lib.hid ⟨Nat.zero_le _, fun i hi => by omega, by simp, Gr.refl _⟩
    have h64' : l.length ≤ 64 := by omega
    clear h64
    go_enter Tryz.func120, Tryz.ntmps120
    go_wp2_with fail
    rw [HW.out]
    go_loopw [3, 4] (fun h i wr => ∃ (k : Nat) (hb : Bool), h = .bool hb ∧ i = .int .i64 k ∧ AttRel W l router k hb wr) (fun _ i _ => l.length - (intOf i).toNat)
    case atStart => exact ⟨0, false, rfl, rfl, R0.out⟩
    case round =>
      clear R0
      obtain ⟨k, hb, rfl, rfl, R⟩ := hrel
      have hk := R.hk
      have e10 := bcell R.gr.b E10.out
      by_cases c : k < l.length
      · obtain ⟨b, off, rfl, hb0, hcc⟩ := HC.out (by omega)
        have D0 := Lib.hid (bcell G0.out.b (hcc k c))
        have PV : Hid (0 < k → W.cell? ⟨b, off + (k - 1), none⟩ = some (.int .u32 (l.getD (k - 1) 0))) := Lib.hid (fun h0 => by rw [getI (by omega)]; exact bcell G0.out.b (hcc (k - 1) (by omega)))
        have RR := Lib.hid R
        have BD : Hid (attBad l k = (decide (l[k] = 0) || (decide (0 < k) && decide (l[k] ≤ l.getD (k - 1) 0)))) := Lib.hid (by unfold attBad; rw [getI c])
        have NXT := Lib.hid (fun (h : attBad l k = false) (W' : World) (g : Gr W W') (hb' : Bool) (e : hb' = (hb || decide (l[k] = router))) => RR.out.step c h g hb' e)
        have STP := Lib.hid (fun (h : attBad l k = true) (W' : World) (g : Gr W W') => (⟨16, rfl, .inr ⟨h64', .inl ⟨k, c, h, rfl⟩⟩, G0.out.trans g⟩ : AttPost w l router (.returned (.int .i64 16)) W'))
        have d0 := bcell R.gr.b D0.out
        have E10w := Lib.hid e10
        have D0w := Lib.hid d0
        have E3w := Lib.hid (bcell R.gr.b E3.out)
        have GR := Lib.hid R.gr
        have GQ : Hid (∀ n, Gr wr (wr.drewN n)) := Lib.hid (fun n => (Gr.refl _).drewN n)
        have i0 : (0 : Int) ≤ (k : Int) := by omega
        have i1 : (k : Int) < (l.length : Int) := by omega
        clear R hcc
        generalize l[k] = y at *
        by_cases y0 : y = 0
        · have z1 : (y == 0) = true := by simpa using y0
          have E := Lib.hid (fun n => STP.out (by rw [BD.out]; simp [y0]) (wr.drewN n) (GR.out.drewN n))
          clear y0
          go_wp2_with fail
          go_quiet (fail)
          go_wp2_with fail
          go_returns
          exact E.out _
        · have z1 : (y == 0) = false := by simpa using y0
          rcases Nat.eq_zero_or_pos k with h0 | h0
          · have NXT := Lib.hid (NXT.out (by rw [BD.out]; simp [y0]; omega))
            have dk : decide (0 < k) = false := by simp; omega
            clear BD STP PV h0 y0
            go_wp2_with fail
            go_quiet (fail)
            generalize hW1 : wr.drewN _ = W1
            have G1 : Hid (Gr wr W1) := Lib.hid (hW1 ▸ GQ.out _)
            clear hW1 d0 e10 dk
            have e10 := bcell G1.out.b E10w.out
            have e3 := bcell G1.out.b E3w.out
            have d0 := bcell G1.out.b D0w.out
            by_cases yr : y = router
            · have q1 : (y == router) = true := by simpa using yr
              have NX := Lib.hid (fun n => NXT.out (W1.drewN n) (GR.out.trans (G1.out.drewN n)) true (by simp [yr]))
              clear yr
              go_upto_region 9 with fail
              go_quiet (fail)
              clear e10 e3 d0
              go_wp2_with fail
              go_roundw
              case rel => exact ⟨k + 1, true, rfl, by go_num, NX.out _⟩
              case measure => simp [intOf]; omega
            · have q1 : (y == router) = false := by simpa using yr
              have NX := Lib.hid (fun n => NXT.out (W1.drewN n) (GR.out.trans (G1.out.drewN n)) hb (by simp [yr]))
              clear yr
              go_upto_region 9 with fail
              go_quiet (fail)
              clear e10 e3 d0
              go_wp2_with fail
              go_roundw
              case rel => exact ⟨k + 1, hb, rfl, by go_num, NX.out _⟩
              case measure => simp [intOf]; omega
          · obtain ⟨j, rfl⟩ : ∃ j, k = j + 1 := ⟨k - 1, by omega⟩
            have p0 := bcell GR.out.b (PV.out h0)
            rw [Nat.add_sub_cancel] at p0 BD
            have dk : decide (0 < j + 1) = true := by simp
            have s1 : IntKind.i64.wrap (((j + 1 : Nat) : Int) - 1) = (j : Int) := by rw [IntWalk.i64_in _ (by omega)]; omega
            have s2 : ((j : Int)).toNat = j := by omega
            have s3 : (((j + 1 : Nat) : Int)).toNat = j + 1 := by omega
            have j0 : (0 : Int) ≤ (j : Int) := by omega
            have j1 : (j : Int) < (l.length : Int) := by omega
            generalize l.getD j 0 = z at *
            by_cases hz : y ≤ z
            · have dz : decide (y ≤ z) = true := by simpa using hz
              have E := Lib.hid (fun n => STP.out (by rw [BD.out]; simp [hz]) (wr.drewN n) (GR.out.drewN n))
              clear y0 BD hz NXT
              go_wp2_with fail
              go_quiet (fail)
              go_wp2_with fail
              go_returns
              exact E.out _
            · have dz : decide (y ≤ z) = false := by simpa using hz
              have NXT := Lib.hid (NXT.out (by rw [BD.out]; simp [y0]; omega))
              clear y0 BD hz STP
              go_wp2_with fail
              go_quiet (fail)
              generalize hW1 : wr.drewN _ = W1
              have G1 : Hid (Gr wr W1) := Lib.hid (hW1 ▸ GQ.out _)
              clear hW1 d0 e10 dk dz p0 s1
              have e10 := bcell G1.out.b E10w.out
              have e3 := bcell G1.out.b E3w.out
              have d0 := bcell G1.out.b D0w.out
              by_cases yr : y = router
              · have q1 : (y == router) = true := by simpa using yr
                have NX := Lib.hid (fun n => NXT.out (W1.drewN n) (GR.out.trans (G1.out.drewN n)) true (by simp [yr]))
                clear yr
                go_upto_region 9 with fail
                go_quiet (fail)
                clear e10 e3 d0
                go_wp2_with fail
                go_roundw
                case rel => exact ⟨j + 1 + 1, true, rfl, by go_num, NX.out _⟩
                case measure => simp [intOf]; omega
              · have q1 : (y == router) = false := by simpa using yr
                have NX := Lib.hid (fun n => NXT.out (W1.drewN n) (GR.out.trans (G1.out.drewN n)) hb (by simp [yr]))
                clear yr
                go_upto_region 9 with fail
                go_quiet (fail)
                clear e10 e3 d0
                go_wp2_with fail
                go_roundw
                case rel => exact ⟨j + 1 + 1, hb, rfl, by go_num, NX.out _⟩
                case measure => simp [intOf]; omega
      · have R1 := R.ok
        have RH := R.has
        have E : Hid (AttPost w l router (.returned (.int .i64 (if router ∈ l then 0 else 14))) wr) := Lib.hid ⟨_, rfl, .inr ⟨h64', .inr ⟨fun i hi => R1 i (by omega), rfl⟩⟩, G0.out.trans R.gr⟩
        rw [List.take_of_length_le (by omega)] at RH
        subst RH
        by_cases hm : router ∈ l
        · rw [if_pos hm] at E
          have dm : decide (router ∈ l) = true := by simpa using hm
          rw [dm]
          clear hm dm R R1
          go_wp2_with fail
          go_ret
          exact E.out
        · rw [if_neg hm] at E
          have dm : decide (router ∈ l) = false := by simpa using hm
          rw [dm]
          clear hm dm R R1
          go_wp2_with fail
          go_ret
          exact E.out

end Go.Proofs.YtogdconliofblaaGreat

namespace Go.Proofs.YtogdconliofblaaGreat
open Go.RowKit

def headX (x : Lsa) : Int := headP x.typ x.id x.len x.router x.seq x.age x.sum
/-- c is the error of an advertisement with these links and routers -/
def LsaIs (x : Lsa) (lk : List Lnk) (att : List Int) (c : Int) : Prop :=
  (headX x ≠ 0 ∧ c = headX x) ∨ (headX x = 0 ∧ unusedP x = false ∧ c = 1) ∨
  (headX x = 0 ∧ unusedP x = true ∧ ((x.typ = 1 ∧ LnkIs lk x.router c) ∨ (x.typ = 2 ∧ AttIs att x.router c) ∨
    (x.typ ≠ 1 ∧ x.typ ≠ 2 ∧ c = if withinB x.cost 0 16777216 = false ∨ withinB x.tag 0 4294967295 = false then 5 else 0)))
def CkaPost (w : World) (x : Lsa) (lk : List Lnk) (att : List Int) (e : Ending) (w' : World) : Prop := ∃ c, e = .returned (.int .i64 c) ∧ LsaIs x lk att c ∧ Gr w w'

set_option maxHeartbeats 4000000 in
set_option maxRecDepth 100000 in
theorem check_rtr (x : Lsa) (ok : OkL x) (ht : x.typ = 1) (lk : List Lnk) (att : List Int) (w : World) (hl : LnksAt w (.slice x.la x.ln x.lc) lk) (hr : ∀ y ∈ lk, 0 ≤ y.id ∧ y.id < 4294967296 ∧ 0 ≤ y.data ∧ y.data < 4294967296) : Calls Tryz.prog 81 #[.agg (lsaE x).toArray] w (CkaPost w x lk att) := by
  have HC := Lib.hid (fun W => head_calls x.typ x.id x.len x.router x.seq x.age x.sum ok.id0 ok.id1 W)
  have UC := Lib.hid (fun W => unused_calls x W)
  have LC := Lib.hid (fun W (g : Gr w W) => links_calls x lk W (hl.below g.b) hr)
  have FA : Hid (∀ W', headX x ≠ 0 → Gr w W' → CkaPost w x lk att (.returned (.int .i64 (headX x))) W') := Lib.hid (fun W' h g => ⟨_, rfl, .inl ⟨h, rfl⟩, g⟩)
  have FB : Hid (∀ W', headX x = 0 → unusedP x = false → Gr w W' → CkaPost w x lk att (.returned (.int .i64 1)) W') := Lib.hid (fun W' h k g => ⟨_, rfl, .inr (.inl ⟨h, k, rfl⟩), g⟩)
  have FI : Hid (∀ c W', headX x = 0 → unusedP x = true → LnkIs lk x.router c → Gr w W' → CkaPost w x lk att (.returned (.int .i64 c)) W') := Lib.hid (fun c W' h k hL g => ⟨_, rfl, .inr (.inr ⟨h, k, .inl ⟨ht, hL⟩⟩), g⟩)
  unfold headX at FA FB FI
  generalize headP x.typ x.id x.len x.router x.seq x.age x.sum = h at *
  generalize unusedP x = u at *
  clear ok hl hr
  obtain ⟨typ, id, len, router, seq, age, sum, border, boundary, la, ln, lc, aa, an, ac, cost, second, fwd, tag⟩ := x
  simp only [lsaE, hdE] at *
  subst ht
  by_cases hh : h = 0
  · subst hh
    go_enter Tryz.func81, Tryz.ntmps81
    go_wp2_with fail
    refine (HC.out _).mono ?_
    rintro e w1 ⟨rfl, G1⟩
    have b1 := (G1.b.block w.heap.size (by simp)).trans (alloc_new w _)
    obtain ⟨⟨⟨e0, e1, e2, e3, e4⟩, ⟨e5, e6, e7, e8, e9⟩, ⟨e10, e11, e12, e13, e14⟩⟩, -⟩ := blk15 b1
    have BB1 := Lib.hid b1
    have GG1 : Gr w w1 := ((Gr.refl _).alloc _).trans G1
    clear b1 G1 HC
    go_wp2_with fail
    refine (UC.out _).mono ?_
    rintro e w2 ⟨rfl, G2⟩
    have b2 := (G2.b.block w.heap.size (blk_lt BB1.out)).trans BB1.out
    have GG2 := GG1.trans G2
    clear e0 e1 e2 e3 e4 e5 e6 e7 e8 e9 e10 e11 e12 e13 e14 G2 GG1 BB1
    obtain ⟨⟨⟨e0, e1, e2, e3, e4⟩, ⟨e5, e6, e7, e8, e9⟩, ⟨e10, e11, e12, e13, e14⟩⟩, -⟩ := blk15 b2
    clear b2 UC
    have GH := Lib.hid GG2
    clear GG2
    cases u with
    | false =>
      have FE := Lib.hid (FB.out w2 (by simp) (by simp) GH.out)
      go_wp2_with fail
      go_ret
      exact FE.out
    | true =>
      have L2 := Lib.hid (LC.out w2 GH.out)
      clear LC
      go_wp2_with fail
      refine L2.out.mono ?_
      rintro e w3 ⟨c, rfl, hL, G3⟩
      have FE := Lib.hid (FI.out c w3 (by simp) (by simp) hL (GH.out.trans G3))
      clear hL G3 L2
      go_wp2_with fail
      go_ret
      exact FE.out
  · have d1 : (h == 0) = false := by simpa using hh
    have d2 : (h != 0) = true := by simpa using hh
    have FE := Lib.hid (fun W' => FA.out W' hh)
    clear hh
    go_enter Tryz.func81, Tryz.ntmps81
    go_wp2_with fail
    refine (HC.out _).mono ?_
    rintro e w1 ⟨rfl, G1⟩
    have FE := Lib.hid (FE.out w1 (((Gr.refl _).alloc _).trans G1))
    go_wp2_with fail
    go_ret
    exact FE.out

set_option maxHeartbeats 4000000 in
set_option maxRecDepth 100000 in
theorem check_net (x : Lsa) (ok : OkL x) (ht : x.typ = 2) (lk : List Lnk) (att : List Int) (w : World) (hl : WordsAt w (.slice x.aa x.an x.ac) att) : Calls Tryz.prog 81 #[.agg (lsaE x).toArray] w (CkaPost w x lk att) := by
  have HC := Lib.hid (fun W => head_calls x.typ x.id x.len x.router x.seq x.age x.sum ok.id0 ok.id1 W)
  have UC := Lib.hid (fun W => unused_calls x W)
  have LC := Lib.hid (fun W (g : Gr w W) => attached_calls x att W (hl.below g.b))
  have FA : Hid (∀ W', headX x ≠ 0 → Gr w W' → CkaPost w x lk att (.returned (.int .i64 (headX x))) W') := Lib.hid (fun W' h g => ⟨_, rfl, .inl ⟨h, rfl⟩, g⟩)
  have FB : Hid (∀ W', headX x = 0 → unusedP x = false → Gr w W' → CkaPost w x lk att (.returned (.int .i64 1)) W') := Lib.hid (fun W' h k g => ⟨_, rfl, .inr (.inl ⟨h, k, rfl⟩), g⟩)
  have FI : Hid (∀ c W', headX x = 0 → unusedP x = true → AttIs att x.router c → Gr w W' → CkaPost w x lk att (.returned (.int .i64 c)) W') := Lib.hid (fun c W' h k hL g => ⟨_, rfl, .inr (.inr ⟨h, k, .inr (.inl ⟨ht, hL⟩)⟩), g⟩)
  unfold headX at FA FB FI
  generalize headP x.typ x.id x.len x.router x.seq x.age x.sum = h at *
  generalize unusedP x = u at *
  clear ok hl 
  obtain ⟨typ, id, len, router, seq, age, sum, border, boundary, la, ln, lc, aa, an, ac, cost, second, fwd, tag⟩ := x
  simp only [lsaE, hdE] at *
  subst ht
  by_cases hh : h = 0
  · subst hh
    go_enter Tryz.func81, Tryz.ntmps81
    go_wp2_with fail
    refine (HC.out _).mono ?_
    rintro e w1 ⟨rfl, G1⟩
    have b1 := (G1.b.block w.heap.size (by simp)).trans (alloc_new w _)
    obtain ⟨⟨⟨e0, e1, e2, e3, e4⟩, ⟨e5, e6, e7, e8, e9⟩, ⟨e10, e11, e12, e13, e14⟩⟩, -⟩ := blk15 b1
    have BB1 := Lib.hid b1
    have GG1 : Gr w w1 := ((Gr.refl _).alloc _).trans G1
    clear b1 G1 HC
    go_wp2_with fail
    refine (UC.out _).mono ?_
    rintro e w2 ⟨rfl, G2⟩
    have b2 := (G2.b.block w.heap.size (blk_lt BB1.out)).trans BB1.out
    have GG2 := GG1.trans G2
    clear e0 e1 e2 e3 e4 e5 e6 e7 e8 e9 e10 e11 e12 e13 e14 G2 GG1 BB1
    obtain ⟨⟨⟨e0, e1, e2, e3, e4⟩, ⟨e5, e6, e7, e8, e9⟩, ⟨e10, e11, e12, e13, e14⟩⟩, -⟩ := blk15 b2
    clear b2 UC
    have GH := Lib.hid GG2
    clear GG2
    cases u with
    | false =>
      have FE := Lib.hid (FB.out w2 (by simp) (by simp) GH.out)
      go_wp2_with fail
      go_ret
      exact FE.out
    | true =>
      have L2 := Lib.hid (LC.out w2 GH.out)
      clear LC
      go_wp2_with fail
      refine L2.out.mono ?_
      rintro e w3 ⟨c, rfl, hL, G3⟩
      have FE := Lib.hid (FI.out c w3 (by simp) (by simp) hL (GH.out.trans G3))
      clear hL G3 L2
      go_wp2_with fail
      go_ret
      exact FE.out
  · have d1 : (h == 0) = false := by simpa using hh
    have d2 : (h != 0) = true := by simpa using hh
    have FE := Lib.hid (fun W' => FA.out W' hh)
    clear hh
    go_enter Tryz.func81, Tryz.ntmps81
    go_wp2_with fail
    refine (HC.out _).mono ?_
    rintro e w1 ⟨rfl, G1⟩
    have FE := Lib.hid (FE.out w1 (((Gr.refl _).alloc _).trans G1))
    go_wp2_with fail
    go_ret
    exact FE.out

theorem check_any (x : Lsa) (ok : OkL x) (lk : List Lnk) (att : List Int) (w : World) (hl : LnksAt w (.slice x.la x.ln x.lc) lk) (hr : ∀ y ∈ lk, 0 ≤ y.id ∧ y.id < 4294967296 ∧ 0 ≤ y.data ∧ y.data < 4294967296) (ha : WordsAt w (.slice x.aa x.an x.ac) att) : Calls Tryz.prog 81 #[.agg (lsaE x).toArray] w (CkaPost w x lk att) := by
  by_cases h1 : x.typ = 1
  · exact check_rtr x ok h1 lk att w hl hr
  by_cases h2 : x.typ = 2
  · exact check_net x ok h2 lk att w ha
  refine (check_calls x ok h1 h2 w).mono fun e w' ⟨he, g⟩ => ⟨_, he, ?_, g⟩
  unfold LsaIs chkP headX
  by_cases hh : headP x.typ x.id x.len x.router x.seq x.age x.sum = 0
  · rw [if_neg (by simp [hh])]
    by_cases hu : unusedP x = false
    · rw [if_pos hu]; exact .inr (.inl ⟨hh, hu, rfl⟩)
    · rw [if_neg hu]; exact .inr (.inr ⟨hh, by simpa using hu, .inr (.inr ⟨h1, h2, rfl⟩)⟩)
  · rw [if_pos hh]; exact .inl ⟨hh, rfl⟩

end Go.Proofs.YtogdconliofblaaGreat
