/-
  routingref34.Bodies: the advertisements of announcements.
-/
import Derived.Test.YtiemmejpaahbpaaGreatBdp
import Derived.Test.YtiemmejpaahbpaaGreatIns
namespace Go.Proofs.YtiemmejpaahbpaaGreat
open Go.RowKit

theorem insL_end (x : Lsa) (db : List Lsa) (h : ∀ y ∈ db, 0 < kkCmp (lkOf x) (lkOf y)) : insL x db = db ++ [x] := by
  have key : ∀ k, k ≤ db.length → insK x db k = (false, db.take k) := by
    intro k
    induction k with
    | zero => intro _; rfl
    | succ k ih =>
      intro hk
      rw [insK_succ x db (show k < db.length by omega), ih (by omega)]
      have h1 := h _ (List.getElem_mem (show k < db.length by omega))
      unfold insStep
      simp only
      rw [if_neg (by omega), if_neg (by rintro ⟨_, h⟩; omega), List.take_succ_eq_append_getElem (show k < db.length by omega)]
  unfold insL
  rw [key _ (Nat.le_refl _)]
  simp

structure BrR (w : World) (router : Int) (l : List Ext) (k : Nat) (v : Value) (wr : World) : Prop where
  hk : k ≤ l.length
  lat : LsasAt wr v ((l.take k).map (bodL router))
  bel : Below w.heap.size w wr

theorem BrR.next {w : World} {router : Int} {l : List Ext} {k : Nat} {v v' : Value} {wr wr' : World} (_R : BrR w router l k v wr) (hA : ∀ i, i < l.length → extErr l i = 0) (c : k < l.length) (h : LsasAt wr' v' (insL (bodL router (exAt l k)) ((l.take k).map (bodL router)))) (B : Below w.heap.size w wr') :
    BrR w router l (k + 1) v' wr' := by
  refine ⟨c, ?_, B⟩
  have e : insL (bodL router (exAt l k)) ((l.take k).map (bodL router)) = (l.take (k + 1)).map (bodL router) := by
    rw [insL_end, List.take_succ_eq_append_getElem c, List.map_append, List.map_singleton, exAt, getD_at c]
    intro y hy
    obtain ⟨z, hz, rfl⟩ := List.mem_map.1 hy
    obtain ⟨i, hi, rfl⟩ := List.getElem_of_mem hz
    rw [List.length_take] at hi
    rw [List.getElem_take]
    have h1 := ex_asc hA k c i (by omega)
    have h2 := bod_cmp router h1
    have e3 : exAt l i = l[i]'(by omega) := by rw [exAt, getD_at (show i < l.length by omega)]
    rw [e3] at h2
    rw [h2]; decide
  rw [← e]; exact h

set_option maxHeartbeats 8000000 in
set_option maxRecDepth 100000 in
theorem rbodies_calls (w : World) (router : Int) (v : Value) (l : List Ext) (h : ExtsAt w v l) (h64 : l.length ≤ 64) (hA : ∀ i, i < l.length → extErr l i = 0) :
    Calls Tryz.prog 16 #[.int .u32 router, v] w (LsPost w (l.map (bodL router))) := by
  obtain ⟨a, cap, rfl, hl, hc⟩ := h.get
  have HC := Lib.hid hc
  have HA := Lib.hid hA
  have mixed : Tryz.prog.follows .mixedOrders = true := by kernel_rfl
  have ST : Hid (BrR w router l 0 (.slice (some ⟨w.heap.size, 0, none⟩) 0 0) (w.alloc (.cells #[] 44))) := Lib.hid ⟨Nat.zero_le _, (Lg.start w).at, (Lg.start w).bel⟩
  have FIN := Lib.hid (fun (va : Value) (wr : World) (k : Nat) (hk : ¬ k < l.length) (R : BrR w router l k va wr) => (⟨va, rfl, by have h := R.lat; rwa [List.take_of_length_le (by omega)] at h, R.bel⟩ : LsPost w (l.map (bodL router)) (.returned va) wr))
  clear h hc hA
  go_enter Tryz.func16, Tryz.ntmps16
  go_wp2_with fail
  go_loopw [5, 6] (fun va ix wr => ∃ k : Nat, ix = .int .i64 k ∧ Hid (BrR w router l k va wr)) (fun _ ix _ => l.length - (intOf ix).toNat)
  case atStart => exact ⟨0, rfl, ST⟩
  case round =>
    clear ST
    obtain ⟨k, rfl, R⟩ := hrel
    obtain ⟨vA, hvA⟩ : ∃ z, z = u5 := ⟨_, rfl⟩
    subst hvA
    have hk := R.out.hk
    by_cases c : k < l.length
    · obtain ⟨db, off, rfl, hdb, hdc⟩ := HC.out (by omega)
      obtain ⟨h0, h1, h2, h3, h4, h5⟩ := hdc k c
      have up : ∀ {o : Nat} {u : Value}, w.cell? ⟨db, o, none⟩ = some u → wr.cell? ⟨db, o, none⟩ = some u := fun {o u} hh => (World.cell?_of_block (w := w) (w' := wr) (a := ⟨db, o, none⟩) (R.out.bel.block db hdb)).trans hh
      have d0 := up h0
      have d1 := up h1
      have d2 := up h2
      have d3 := up h3
      have d4 := up h4
      have d5 := up h5
      have NXT := Lib.hid (fun v' wr' hh B => R.out.next (v' := v') (wr' := wr') HA.out c hh B)
      have IC := Lib.hid (fun W (g : Below wr.heap.size wr W) => insert_calls W vA ((l.take k).map (bodL router)) (bodL router (exAt l k)) (R.out.lat.below g) (by rw [List.length_map, List.length_take]; omega))
      have HB := Lib.hid R.out.bel
      have i0' : (0 : Int) ≤ (k : Int) := by omega
      have i1' : (k : Int) < (l.length : Int) := by omega
      have s3 : ((k : Int)).toNat = k := by omega
      have ex : exAt l k = l[k] := by rw [exAt, getD_at c]
      rw [ex] at NXT IC
      have KC := Lib.hid c
      clear up h0 h1 h2 h3 h4 h5 hdc R ex
      generalize l[k] = x at *
      clear c
      obtain ⟨⟨pa, pl⟩, cost, second, fwd, tag⟩ := x
      simp only [bodL, lsaE] at d0 d1 d2 d3 d4 d5 NXT IC
      go_upto_region 6 with fail
      generalize hW1 : wr.alloc _ = W1
      have B1 : Below wr.heap.size wr W1 := by rw [← hW1]; exact (Below.refl _ _).alloc (Nat.le_refl _) _
      have bx : W1.heap[wr.heap.size]? = some (.cells #[.int .u32 pa, .int .i64 pl, .int .i64 cost, .bool second, .int .u32 fwd, .int .i64 tag] 82 (0, 0)) := by rw [← hW1]; exact alloc_new _ _
      have IC2 := Lib.hid (IC.out W1 B1)
      have HB1 := Lib.hid B1
      have x0 := blk_cell (i := 0) bx rfl
      have x1 := blk_cell (i := 1) bx rfl
      have x2 := blk_cell (i := 2) bx rfl
      have x3 := blk_cell (i := 3) bx rfl
      have x4 := blk_cell (i := 4) bx rfl
      have x5 := blk_cell (i := 5) bx rfl
      clear hW1 B1 bx IC d0 d1 d2 d3 d4 d5
      go_wp2_with fail
      refine IC2.out.mono ?_
      rintro e W2 ⟨v2, rfl, L2, B2⟩
      have NX := Lib.hid (NXT.out v2 W2 L2 (HB.out.trans ((HB1.out.trans (B2.mono HB1.out.size)).mono HB.out.size)))
      clear L2 B2 IC2 NXT x0 x1 x2 x3 x4 x5
      go_wp2_with fail
      go_roundw
      case rel => exact ⟨k + 1, by go_num, NX⟩
      case measure => simp [intOf]; have := KC.out; omega
    · have FI := Lib.hid (FIN.out vA wr k c R.out)
      clear R FIN
      go_wp2_with fail
      go_ret
      exact FI.out

end Go.Proofs.YtiemmejpaahbpaaGreat
