import Derived.Test.YtddageahmgaigaaGreatSrw
import Derived.Test.YtddageahmgaigaaGreatNxt
import Derived.Test.YtddageahmgaigaaGreatNxp
import Derived.Test.YtddageahmgaigaaGreatIns
import Derived.Deep.DeepCutAuto
namespace Go.Proofs.YtddageahmgaigaaGreat
open Go.RowKit

set_option maxHeartbeats 2000000 in
theorem pckeys_calls (a b : Kk) (w : World) : Calls Tryz.prog 92 #[.agg (keyE a).toArray, .agg (keyE b).toArray] w fun e w' => e = .returned (.int .i64 (kkCmp a b)) ∧ Gr w w' := by
  obtain ⟨a1, a2, a3, a4⟩ := a
  obtain ⟨b1, b2, b3, b4⟩ := b
  unfold keyE kkCmp
  generalize hx1 : cmpI a1 b1 = x1
  generalize hx2 : cmpI a2 b2 = x2
  generalize hx3 : cmpI a3 b3 = x3
  generalize hx4 : cmpI a4 b4 = x4
  have X1 := Lib.hid hx1
  have X2 := Lib.hid hx2
  have X3 := Lib.hid hx3
  have X4 := Lib.hid hx4
  clear hx1 hx2 hx3 hx4
  go_enter Tryz.func92, Tryz.ntmps92
  go_wp2_with fail
  go_region_held3 (fun W' => W'.cell? ⟨w.heap.size, 0, none⟩ = some (.int .i64 a1) ∧ W'.cell? ⟨w.heap.size, 1, none⟩ = some (.int .u32 a2) ∧ W'.cell? ⟨w.heap.size, 2, none⟩ = some (.int .i64 a3) ∧ W'.cell? ⟨w.heap.size, 3, none⟩ = some (.int .u32 a4) ∧ W'.cell? ⟨w.heap.size + 1, 0, none⟩ = some (.int .i64 b1) ∧ W'.cell? ⟨w.heap.size + 1, 1, none⟩ = some (.int .u32 b2) ∧ W'.cell? ⟨w.heap.size + 1, 2, none⟩ = some (.int .i64 b3) ∧ W'.cell? ⟨w.heap.size + 1, 3, none⟩ = some (.int .u32 b4)) (go_keep)
    (first
    | (go_at_call 43; refine (cmp_int _ _ _).mono ?_; rintro e w' ⟨rfl, rfl⟩; first | rw [X1.out] | rw [X3.out])
    | (go_at_call 44; refine (cmp_u32 _ _ _).mono ?_; rintro e w' ⟨rfl, rfl⟩; first | rw [X2.out] | rw [X4.out])
    | (go_at_call 42; refine (or_int [x1, x2, x3, x4] _ _ _ (by simp) ?_).mono ?_; (exact fun _ => ⟨_, 0, rfl, fun i hi => by match i, hi with | 0, _ => exact new_cell (by simp) rfl | 1, _ => exact new_cell (by simp) rfl | 2, _ => exact new_cell (by simp) rfl | 3, _ => exact new_cell (by simp) rfl⟩); rintro e w' ⟨rfl, rfl⟩))
  go_wp2_with fail
  go_ret
  exact ⟨rfl, by repeat (first | exact Gr.refl _ | refine Gr.drew ?_ | refine Gr.alloc ?_ _ | refine Gr.drewN ?_ _)⟩

set_option maxHeartbeats 4000000 in
set_option maxRecDepth 100000 in
theorem porder_calls (x y : Lsa) (w : World) : Calls Tryz.prog 60 #[.agg (lsaE x).toArray, .agg (lsaE y).toArray] w fun e w' => e = .returned (.int .i64 (kkCmp (lkOf x) (lkOf y))) ∧ Gr w w' := by
  have CK := Lib.hid (fun W => (pckeys_calls (lkOf x) (lkOf y) W).mono fun _ _ h => (⟨h.1, h.2.grow⟩ : _ ∧ ∃ q os, _ = Go.Sort.grow (World.drewN W q) os))
  have K1 := Lib.hid (fun W => (pkey_calls x.typ x.id x.len x.router x.seq x.age x.sum W).mono fun _ _ h => (⟨h.1, h.2.grow⟩ : _ ∧ ∃ q os, _ = Go.Sort.grow (World.drewN W q) os))
  have K2 := Lib.hid (fun W => (pkey_calls y.typ y.id y.len y.router y.seq y.age y.sum W).mono fun _ _ h => (⟨h.1, h.2.grow⟩ : _ ∧ ∃ q os, _ = Go.Sort.grow (World.drewN W q) os))
  generalize kkCmp (lkOf x) (lkOf y) = cv at *
  simp only [keyE, lkOf] at CK K1 K2
  have mixed : Tryz.prog.follows .mixedOrders = true := by kernel_rfl
  obtain ⟨W0, hW0⟩ : ∃ W0, (w.alloc (.cells (lsaE x).toArray 42)).alloc (.cells (lsaE y).toArray 42) = W0 := ⟨_, rfl⟩
  have b0 : W0.heap[w.heap.size]? = some (.cells (lsaE x).toArray 42 (0, 0)) := by rw [← hW0]; exact (alloc_get _ _ _ (by simp)).trans (alloc_new w _)
  have b1 : W0.heap[w.heap.size + 1]? = some (.cells (lsaE y).toArray 42 (0, 0)) := by rw [← hW0]; exact blk_new2 w _ _
  have G0 : Hid (Gr w W0) := Lib.hid (by rw [← hW0]; exact ((Gr.refl _).alloc _).alloc _)
  obtain ⟨xtyp, xid, xlen, xrouter, xseq, xage, xsum, xborder, xboundary, xla, xln, xlc, xaa, xan, xac, xcost, xsecond, xfwd, xtag⟩ := x
  obtain ⟨ytyp, yid, ylen, yrouter, yseq, yage, ysum, yborder, yboundary, yla, yln, ylc, yaa, yan, yac, ycost, ysecond, yfwd, ytag⟩ := y
  simp only [lsaE] at *
  obtain ⟨⟨⟨d0, d1, d2, d3, d4⟩, ⟨d5, d6, -, -, -⟩, -⟩, -⟩ := blk15 b0
  obtain ⟨⟨⟨e0, e1, e2, e3, e4⟩, ⟨e5, e6, -, -, -⟩, -⟩, -⟩ := blk15 b1
  have y0 : ∀ n os, (Go.Sort.grow (W0.drewN n) os).cell? ⟨w.heap.size, 0, none⟩ = some (.int .i64 xtyp) := cell_grown (World.block_lt_of_cell? _ _ d0) d0
  have y1 : ∀ n os, (Go.Sort.grow (W0.drewN n) os).cell? ⟨w.heap.size, 1, none⟩ = some (.int .u32 xid) := cell_grown (World.block_lt_of_cell? _ _ d1) d1
  have y2 : ∀ n os, (Go.Sort.grow (W0.drewN n) os).cell? ⟨w.heap.size, 2, none⟩ = some (.int .i64 xlen) := cell_grown (World.block_lt_of_cell? _ _ d2) d2
  have y3 : ∀ n os, (Go.Sort.grow (W0.drewN n) os).cell? ⟨w.heap.size, 3, none⟩ = some (.int .u32 xrouter) := cell_grown (World.block_lt_of_cell? _ _ d3) d3
  have y4 : ∀ n os, (Go.Sort.grow (W0.drewN n) os).cell? ⟨w.heap.size, 4, none⟩ = some (.int .i64 xseq) := cell_grown (World.block_lt_of_cell? _ _ d4) d4
  have y5 : ∀ n os, (Go.Sort.grow (W0.drewN n) os).cell? ⟨w.heap.size, 5, none⟩ = some (.int .i64 xage) := cell_grown (World.block_lt_of_cell? _ _ d5) d5
  have y6 : ∀ n os, (Go.Sort.grow (W0.drewN n) os).cell? ⟨w.heap.size, 6, none⟩ = some (.int .i64 xsum) := cell_grown (World.block_lt_of_cell? _ _ d6) d6
  have z0 : ∀ n os, (Go.Sort.grow (W0.drewN n) os).cell? ⟨w.heap.size + 1, 0, none⟩ = some (.int .i64 ytyp) := cell_grown (World.block_lt_of_cell? _ _ e0) e0
  have z1 : ∀ n os, (Go.Sort.grow (W0.drewN n) os).cell? ⟨w.heap.size + 1, 1, none⟩ = some (.int .u32 yid) := cell_grown (World.block_lt_of_cell? _ _ e1) e1
  have z2 : ∀ n os, (Go.Sort.grow (W0.drewN n) os).cell? ⟨w.heap.size + 1, 2, none⟩ = some (.int .i64 ylen) := cell_grown (World.block_lt_of_cell? _ _ e2) e2
  have z3 : ∀ n os, (Go.Sort.grow (W0.drewN n) os).cell? ⟨w.heap.size + 1, 3, none⟩ = some (.int .u32 yrouter) := cell_grown (World.block_lt_of_cell? _ _ e3) e3
  have z4 : ∀ n os, (Go.Sort.grow (W0.drewN n) os).cell? ⟨w.heap.size + 1, 4, none⟩ = some (.int .i64 yseq) := cell_grown (World.block_lt_of_cell? _ _ e4) e4
  have z5 : ∀ n os, (Go.Sort.grow (W0.drewN n) os).cell? ⟨w.heap.size + 1, 5, none⟩ = some (.int .i64 yage) := cell_grown (World.block_lt_of_cell? _ _ e5) e5
  have z6 : ∀ n os, (Go.Sort.grow (W0.drewN n) os).cell? ⟨w.heap.size + 1, 6, none⟩ = some (.int .i64 ysum) := cell_grown (World.block_lt_of_cell? _ _ e6) e6
  have HW0 := Lib.hid hW0
  clear hW0 b0 b1 d0 e0 d1 e1 d2 e2 d3 e3 d4 e4 d5 e5 d6 e6
  go_enter Tryz.func60, Tryz.ntmps60
  go_upto_region 1 with fail
  rw [HW0.out]
  refine wp_region_quiet_grown (by assumption) (by kernel_rfl) ?_
  repeat (go_big_quiet_step (first | (go_at_call 53; first | with_reducible exact Calls.grown_of (K1.out _) | with_reducible exact Calls.grown_of (K2.out _)) | (go_at_call 92; with_reducible exact Calls.grown_of (CK.out _))))
  refine wpQuiet_nil ?_
  intro _ hw'
  obtain ⟨⟨nq, osq⟩, hw''⟩ := hw'
  subst hw''
  have FIN : Hid (Gr w (Go.Sort.grow (W0.drewN nq) osq)) := Lib.hid (G0.out.trans (Gr.of_grow nq osq))
  clear y0 y1 y2 y3 y4 y5 y6 z0 z1 z2 z3 z4 z5 z6 K1 K2 CK
  go_wp2_with fail
  go_ret
  exact ⟨rfl, FIN.out⟩

def lkC (a b : Lsa) : Int := kkCmp (lkOf a) (lkOf b)

theorem lkC_lt (a b : Lsa) : ltOf lkC a b = decide (kkCmp (lkOf a) (lkOf b) < 0) := rfl

def kkLt (a b : Kk) : Prop := a.typ < b.typ ∨ a.typ = b.typ ∧ (a.id < b.id ∨ a.id = b.id ∧ (a.len < b.len ∨ a.len = b.len ∧ a.router < b.router))
theorem lkC_true (a b : Lsa) : ltOf lkC a b = true ↔ kkLt (lkOf a) (lkOf b) := by rw [lkC_lt, decide_eq_true_iff]; exact kk_neg _ _
theorem lkC_false (a b : Lsa) : ltOf lkC a b = false ↔ ¬ kkLt (lkOf a) (lkOf b) := by
  rw [lkC_lt, decide_eq_false_iff_not]
  exact ⟨fun h z => h ((kk_neg _ _).2 z), fun h z => h ((kk_neg _ _).1 z)⟩

theorem lkSWO : Go.Sort.SWO (ltOf lkC) := by
  refine ⟨fun a => ?_, fun a b c => ?_, fun x y z => ?_⟩
  · rw [lkC_false]; unfold kkLt; omega
  · rw [lkC_true, lkC_true, lkC_true]; unfold kkLt; omega
  · rw [lkC_false, lkC_false, lkC_false]; unfold kkLt; omega

theorem cmpLaysLsa (blk off size : Nat) (w : World) : CmpLays Tryz.prog 60 #[] lsaE 15 lkC blk off size w :=
  fun _ _ _ _ x y => (porder_calls x y _).mono fun _ _ ⟨he, hg⟩ => ⟨he, hg.grow⟩

def LsaRow (base : Nat) (w : World) (v : Value) (l : List Lsa) : Prop := w.ownsRow base 42 15 v l.length (l.map lsaE).flatten

def SortLsaPost (base : Nat) (w : World) (v : Value) (l : List Lsa) (e : Ending) (w' : World) : Prop :=
  e = .returned (.tuple #[]) ∧ ∃ l', l'.Perm l ∧ (l'.Pairwise fun a b => 0 ≤ kkCmp (lkOf b) (lkOf a)) ∧ LsaRow base w' v l' ∧ Below base w w' ∧ w.grownBy w' v.ownBlock

theorem sort_lsas (base : Nat) (w : World) (v : Value) (l : List Lsa) (h : LsaRow base w v l) (hl : l.length < 4611686018427387904) :
    Calls Tryz.prog 59 #[v, .func (.func 60) #[] #[]] w (SortLsaPost base w v l) := by
  rcases own_cases h with ⟨rfl, h0⟩ | ⟨g, cap, cur, rfl, hb, hlt, _⟩
  · refine (sort_none_lsa none 0 (.func (.func 60) #[] #[]) w).mono ?_
    rintro e w' ⟨rfl, rfl⟩
    have : l = [] := List.length_eq_zero_iff.1 h0
    subst this
    exact ⟨rfl, [], List.Perm.refl _, List.Pairwise.nil, h, Below.refl _ _, World.grownBy.refl _ _⟩
  · have eg : ∀ args w, (callFunc 60 args).run Tryz.prog w = .ok (.enter 60 args) w := enters_of Tryz.func60 (by kernel_rfl) rfl
    have hcon := AnyQ.slices_SortFunc Tryz.sortLsa 15 Tryz.isAgg42 Tryz.sizeOf42 lsaE (fun _ => rfl) (fun x v hv => lsaE_one x v hv) lkC lkSWO 60 #[] g 0 cap l.toArray w eg (cmpLaysLsa g 0 _ w) (own_holds (enc := lsaE) (k := 15) (fun _ => rfl) h) hlt (by simpa using hl)
    change Calls Tryz.prog 59 _ _ _ at hcon
    rw [List.size_toArray] at hcon
    refine hcon.mono ?_
    rintro e w' ⟨rfl, d', n, os, hp, hs, rfl⟩
    obtain ⟨e1, e2, e3⟩ := sorted_list (l := l) (by simpa using hp) (by simpa using hs)
    obtain ⟨o1, o2⟩ := own_sorted (enc := lsaE) (k := 15) (fun _ => rfl) h (m := n) (d' := d') (os := os) e1
    refine ⟨rfl, d'.toList, e2, ?_, ?_, ?_, o2⟩
    · refine e3.imp fun {a b} h => ?_
      rw [lkC_lt, decide_eq_false_iff_not] at h
      omega
    · have e4 : d'.toList.length = l.length := by simpa using e1
      unfold LsaRow
      rw [e4]; exact o1
    · refine ⟨o2.os, o2.tape, o2.output, o2.size, fun i hi => o2.block i (by omega) (fun e => by cases e; omega)⟩

set_option maxHeartbeats 4000000 in
set_option maxRecDepth 100000 in
theorem plan1_calls (x : Lsa) (rt : Int) (w : World) (rb : Nat) (hr : w.heap[rb]? = some (.cells #[.int .u32 rt] 22 (0, 0))) :
    Calls Tryz.prog 57 #[.agg (lsaE x).toArray, .pointer (some ⟨rb, 0, none⟩)] w fun e w' => e = .returned (.bool (x.router != rt)) ∧ Gr w w' := by
  have hlt := blk_lt hr
  obtain ⟨W0, hW0⟩ : ∃ W0, w.alloc (.cells (lsaE x).toArray 42) = W0 := ⟨_, rfl⟩
  have b0 : W0.heap[w.heap.size]? = some (.cells (lsaE x).toArray 42 (0, 0)) := by rw [← hW0]; exact alloc_new _ _
  have b1 : W0.heap[rb]? = some (.cells #[.int .u32 rt] 22 (0, 0)) := by rw [← hW0]; exact (alloc_get _ _ _ hlt).trans hr
  have G0 : Hid (Gr w W0) := Lib.hid (by rw [← hW0]; exact (Gr.refl _).alloc _)
  obtain ⟨xtyp, xid, xlen, xrouter, xseq, xage, xsum, xborder, xboundary, xla, xln, xlc, xaa, xan, xac, xcost, xsecond, xfwd, xtag⟩ := x
  simp only [lsaE] at *
  have e3 : W0.cell? ⟨w.heap.size, 3, none⟩ = some (.int .u32 xrouter) := blk_cell b0 rfl
  have r0 : W0.cell? ⟨rb, 0, none⟩ = some (.int .u32 rt) := blk_cell b1 rfl
  have HW0 := Lib.hid hW0
  clear hW0 b0 b1 hr hlt
  go_enter Tryz.func57, Tryz.ntmps57
  go_upto_region 1 with fail
  rw [HW0.out]
  go_wp2_with fail
  go_ret
  exact ⟨rfl, G0.out⟩

set_option maxHeartbeats 4000000 in
set_option maxRecDepth 100000 in
theorem from1_calls (x : Lsa) (rt : Int) (w : World) (rb : Nat) (hr : w.heap[rb]? = some (.cells #[.int .u32 rt] 22 (0, 0))) :
    Calls Tryz.prog 95 #[.agg (lsaE x).toArray, .pointer (some ⟨rb, 0, none⟩)] w fun e w' => e = .returned (.bool (x.router != rt)) ∧ Gr w w' := by
  have hlt := blk_lt hr
  obtain ⟨W0, hW0⟩ : ∃ W0, w.alloc (.cells (lsaE x).toArray 42) = W0 := ⟨_, rfl⟩
  have b0 : W0.heap[w.heap.size]? = some (.cells (lsaE x).toArray 42 (0, 0)) := by rw [← hW0]; exact alloc_new _ _
  have b1 : W0.heap[rb]? = some (.cells #[.int .u32 rt] 22 (0, 0)) := by rw [← hW0]; exact (alloc_get _ _ _ hlt).trans hr
  have G0 : Hid (Gr w W0) := Lib.hid (by rw [← hW0]; exact (Gr.refl _).alloc _)
  obtain ⟨xtyp, xid, xlen, xrouter, xseq, xage, xsum, xborder, xboundary, xla, xln, xlc, xaa, xan, xac, xcost, xsecond, xfwd, xtag⟩ := x
  simp only [lsaE] at *
  have e3 : W0.cell? ⟨w.heap.size, 3, none⟩ = some (.int .u32 xrouter) := blk_cell b0 rfl
  have r0 : W0.cell? ⟨rb, 0, none⟩ = some (.int .u32 rt) := blk_cell b1 rfl
  have HW0 := Lib.hid hW0
  clear hW0 b0 b1 hr hlt
  go_enter Tryz.func95, Tryz.ntmps95
  go_upto_region 1 with fail
  rw [HW0.out]
  go_wp2_with fail
  go_ret
  exact ⟨rfl, G0.out⟩

def FstPost (w : World) (l : List Lsa) (rt : Int) (e : Ending) (w' : World) : Prop := ∃ i : Int, e = .returned (.int .i64 i) ∧ Gr w w' ∧ ((i = -1 ∧ ∀ x ∈ l, x.router = rt) ∨ ∃ j : Nat, i = (j : Int) ∧ ∃ h : j < l.length, l[j].router ≠ rt ∧ ∀ m (hm : m < j), (l[m]'(by omega)).router = rt)

def cloP (rb : Nat) : Value := .func (.func 57) #[] #[.pointer (some ⟨rb, 0, none⟩)]

set_option maxHeartbeats 8000000 in
set_option maxRecDepth 100000 in
theorem plan1_index (w : World) (v : Value) (l : List Lsa) (h : LsasAt w v l) (rt : Int) (rb : Nat) (hr : w.heap[rb]? = some (.cells #[.int .u32 rt] 22 (0, 0))) :
    Calls Tryz.prog 84 #[v, cloP rb] w (FstPost w l rt) := by
  obtain ⟨a1, c1, rfl, hlen, hc1⟩ := h.get
  have HC1 := Lib.hid hc1
  have MC := Lib.hid (fun k (c : k < l.length) W (G : Gr w W) => plan1_calls l[k] rt W rb ((G.b.block rb (blk_lt hr)).trans hr))
  clear h hc1 hr
  unfold cloP
  go_enter Tryz.func84, Tryz.ntmps84
  go_wp2_with fail
  go_loopw [8] (fun i wr => ∃ k : Nat, i = .int .i64 k ∧ k ≤ l.length ∧ Hid (Gr w wr) ∧ Hid (∀ m (hm : m < l.length), m < k → l[m].router = rt)) (fun i _ => l.length - (intOf i).toNat)
  case atStart => exact ⟨0, rfl, Nat.zero_le _, Lib.hid (Gr.refl _), Lib.hid (fun m _ hm => absurd hm (by omega))⟩
  case round =>
    obtain ⟨k, rfl, hk, GG, NO⟩ := hrel
    by_cases c : k < l.length
    · obtain ⟨b1, o1, rfl, hb1, hcc1⟩ := HC1.out (by omega)
      obtain ⟨⟨d0, d1, d2, d3, d4⟩, ⟨d5, d6, d7, d8, d9⟩, ⟨d10, d11, d12, d13, d14⟩⟩ := (hcc1 k c).below GG.out.b hb1
      have KC := Lib.hid c
      have i0 : (0 : Int) ≤ (k : Int) := by omega
      have i1 : (k : Int) < (l.length : Int) := by omega
      have s3 : ((k : Int)).toNat = k := by omega
      have YES : Hid (l[k].router ≠ rt → ∀ W, Gr w W → FstPost w l rt (.returned (.int .i64 (k : Int))) W) := Lib.hid (fun e W g => ⟨_, rfl, g, .inr ⟨k, rfl, c, e, fun m hm => NO.out m (by omega) hm⟩⟩)
      have NXT : Hid (l[k].router = rt → ∀ m (hm : m < l.length), m < k + 1 → l[m].router = rt) := Lib.hid (fun e m hm h => by
        rcases Nat.lt_or_ge m k with h' | h'
        · exact NO.out m hm h'
        · obtain rfl : m = k := by omega
          exact e)
      have MC1 := Lib.hid (MC.out k c wr GG.out)
      clear hcc1 NO
      generalize l[k] = x at *
      clear c
      by_cases he : x.router = rt
      · have N := Lib.hid (NXT.out he)
        have q : (x.router != rt) = false := by simpa using he
        rw [q] at MC1
        clear he YES NXT q
        obtain ⟨xtyp, xid, xlen, xrouter, xseq, xage, xsum, xborder, xboundary, xla, xln, xlc, xaa, xan, xac, xcost, xsecond, xfwd, xtag⟩ := x
        simp only at d0 d1 d2 d3 d4 d5 d6 d7 d8 d9 d10 d11 d12 d13 d14
        simp only [lsaE] at MC1
        go_wp2_with fail
        refine MC1.out.mono ?_
        rintro e w1 ⟨rfl, G1⟩
        have GZ := Lib.hid (GG.out.trans G1)
        clear d0 d1 d2 d3 d4 d5 d6 d7 d8 d9 d10 d11 d12 d13 d14 G1 MC1
        go_wp2_with fail
        go_roundw
        case rel => exact ⟨k + 1, by go_num, KC.out, GZ, N⟩
        case measure => simp [intOf]; have := KC.out; omega
      · have Y := Lib.hid (YES.out he)
        have q : (x.router != rt) = true := by simpa using he
        rw [q] at MC1
        clear he YES NXT q
        obtain ⟨xtyp, xid, xlen, xrouter, xseq, xage, xsum, xborder, xboundary, xla, xln, xlc, xaa, xan, xac, xcost, xsecond, xfwd, xtag⟩ := x
        simp only at d0 d1 d2 d3 d4 d5 d6 d7 d8 d9 d10 d11 d12 d13 d14
        simp only [lsaE] at MC1
        go_wp2_with fail
        refine MC1.out.mono ?_
        rintro e w1 ⟨rfl, G1⟩
        have FI := Lib.hid (Y.out _ (GG.out.trans G1))
        clear d0 d1 d2 d3 d4 d5 d6 d7 d8 d9 d10 d11 d12 d13 d14 G1 MC1
        go_wp2_with fail
        go_ret
        exact FI.out
    · have E : Hid (FstPost w l rt (.returned (.int .i64 (-1))) wr) := Lib.hid ⟨-1, rfl, GG.out, .inl ⟨rfl, fun x hx => by
        obtain ⟨i, hi, rfl⟩ := List.getElem_of_mem hx
        exact NO.out i hi (by omega)⟩⟩
      clear NO
      go_wp2_with fail
      go_ret
      exact E.out

def cloF (rb : Nat) : Value := .func (.func 95) #[] #[.pointer (some ⟨rb, 0, none⟩)]

set_option maxHeartbeats 8000000 in
set_option maxRecDepth 100000 in
theorem from1_index (w : World) (v : Value) (l : List Lsa) (h : LsasAt w v l) (rt : Int) (rb : Nat) (hr : w.heap[rb]? = some (.cells #[.int .u32 rt] 22 (0, 0))) :
    Calls Tryz.prog 84 #[v, cloF rb] w (FstPost w l rt) := by
  obtain ⟨a1, c1, rfl, hlen, hc1⟩ := h.get
  have HC1 := Lib.hid hc1
  have MC := Lib.hid (fun k (c : k < l.length) W (G : Gr w W) => from1_calls l[k] rt W rb ((G.b.block rb (blk_lt hr)).trans hr))
  clear h hc1 hr
  unfold cloF
  go_enter Tryz.func84, Tryz.ntmps84
  go_wp2_with fail
  go_loopw [8] (fun i wr => ∃ k : Nat, i = .int .i64 k ∧ k ≤ l.length ∧ Hid (Gr w wr) ∧ Hid (∀ m (hm : m < l.length), m < k → l[m].router = rt)) (fun i _ => l.length - (intOf i).toNat)
  case atStart => exact ⟨0, rfl, Nat.zero_le _, Lib.hid (Gr.refl _), Lib.hid (fun m _ hm => absurd hm (by omega))⟩
  case round =>
    obtain ⟨k, rfl, hk, GG, NO⟩ := hrel
    by_cases c : k < l.length
    · obtain ⟨b1, o1, rfl, hb1, hcc1⟩ := HC1.out (by omega)
      obtain ⟨⟨d0, d1, d2, d3, d4⟩, ⟨d5, d6, d7, d8, d9⟩, ⟨d10, d11, d12, d13, d14⟩⟩ := (hcc1 k c).below GG.out.b hb1
      have KC := Lib.hid c
      have i0 : (0 : Int) ≤ (k : Int) := by omega
      have i1 : (k : Int) < (l.length : Int) := by omega
      have s3 : ((k : Int)).toNat = k := by omega
      have YES : Hid (l[k].router ≠ rt → ∀ W, Gr w W → FstPost w l rt (.returned (.int .i64 (k : Int))) W) := Lib.hid (fun e W g => ⟨_, rfl, g, .inr ⟨k, rfl, c, e, fun m hm => NO.out m (by omega) hm⟩⟩)
      have NXT : Hid (l[k].router = rt → ∀ m (hm : m < l.length), m < k + 1 → l[m].router = rt) := Lib.hid (fun e m hm h => by
        rcases Nat.lt_or_ge m k with h' | h'
        · exact NO.out m hm h'
        · obtain rfl : m = k := by omega
          exact e)
      have MC1 := Lib.hid (MC.out k c wr GG.out)
      clear hcc1 NO
      generalize l[k] = x at *
      clear c
      by_cases he : x.router = rt
      · have N := Lib.hid (NXT.out he)
        have q : (x.router != rt) = false := by simpa using he
        rw [q] at MC1
        clear he YES NXT q
        obtain ⟨xtyp, xid, xlen, xrouter, xseq, xage, xsum, xborder, xboundary, xla, xln, xlc, xaa, xan, xac, xcost, xsecond, xfwd, xtag⟩ := x
        simp only at d0 d1 d2 d3 d4 d5 d6 d7 d8 d9 d10 d11 d12 d13 d14
        simp only [lsaE] at MC1
        go_wp2_with fail
        refine MC1.out.mono ?_
        rintro e w1 ⟨rfl, G1⟩
        have GZ := Lib.hid (GG.out.trans G1)
        clear d0 d1 d2 d3 d4 d5 d6 d7 d8 d9 d10 d11 d12 d13 d14 G1 MC1
        go_wp2_with fail
        go_roundw
        case rel => exact ⟨k + 1, by go_num, KC.out, GZ, N⟩
        case measure => simp [intOf]; have := KC.out; omega
      · have Y := Lib.hid (YES.out he)
        have q : (x.router != rt) = true := by simpa using he
        rw [q] at MC1
        clear he YES NXT q
        obtain ⟨xtyp, xid, xlen, xrouter, xseq, xage, xsum, xborder, xboundary, xla, xln, xlc, xaa, xan, xac, xcost, xsecond, xfwd, xtag⟩ := x
        simp only at d0 d1 d2 d3 d4 d5 d6 d7 d8 d9 d10 d11 d12 d13 d14
        simp only [lsaE] at MC1
        go_wp2_with fail
        refine MC1.out.mono ?_
        rintro e w1 ⟨rfl, G1⟩
        have FI := Lib.hid (Y.out _ (GG.out.trans G1))
        clear d0 d1 d2 d3 d4 d5 d6 d7 d8 d9 d10 d11 d12 d13 d14 G1 MC1
        go_wp2_with fail
        go_ret
        exact FI.out
    · have E : Hid (FstPost w l rt (.returned (.int .i64 (-1))) wr) := Lib.hid ⟨-1, rfl, GG.out, .inl ⟨rfl, fun x hx => by
        obtain ⟨i, hi, rfl⟩ := List.getElem_of_mem hx
        exact NO.out i hi (by omega)⟩⟩
      clear NO
      go_wp2_with fail
      go_ret
      exact E.out

def forB (l : List Lsa) (rt : Int) : Bool := l.any fun x => x.router != rt

set_option maxHeartbeats 4000000 in
theorem contains_calls (w : World) (v : Value) (l : List Lsa) (h : LsasAt w v l) (rt : Int) (rb : Nat) (hr : w.heap[rb]? = some (.cells #[.int .u32 rt] 22 (0, 0))) :
    Calls Tryz.prog 56 #[v, cloP rb] w fun e w' => e = .returned (.bool (forB l rt)) ∧ Gr w w' := by
  have IC := Lib.hid (plan1_index w v l h rt rb hr)
  obtain ⟨a, cap, rfl, hl, -⟩ := h.get
  clear h hr
  unfold cloP at *
  go_enter Tryz.func56, Tryz.ntmps56
  go_wp2_with fail
  refine IC.out.mono ?_
  rintro e w1 ⟨i, rfl, G1, hi⟩
  have HI : Hid (forB l rt = decide (0 ≤ i)) := Lib.hid (by
    unfold forB
    rcases hi with ⟨rfl, h⟩ | ⟨j, rfl, hj, h1, -⟩
    · rw [decide_eq_false (by decide), List.any_eq_false]
      intro x hx; simp [h x hx]
    · rw [decide_eq_true (by omega), List.any_eq_true]
      exact ⟨l[j], List.getElem_mem hj, by simpa using h1⟩)
  have HG := Lib.hid G1
  clear hi G1 IC
  go_wp2_with fail
  go_ret
  exact ⟨by rw [HI.out]; rfl, HG.out⟩

def ClaPost (w : World) (l : List Lsa) (e : Ending) (w' : World) : Prop := ∃ a c, e = .returned (.slice a l.length c) ∧ LsaRow w.heap.size w' (.slice a l.length c) l ∧ Below w.heap.size w w'

theorem cla_one (l : List Lsa) : ∀ c ∈ l.map lsaE, ∀ u ∈ c, u.oneCell' = true := by
  intro c hc u hu
  obtain ⟨h, _, rfl⟩ := List.mem_map.1 hc
  simp [lsaE] at hu
  rcases hu with rfl | rfl | rfl | rfl | rfl | rfl | rfl | rfl | rfl | rfl | rfl | rfl | rfl | rfl | rfl <;> rfl
theorem cla_len (l : List Lsa) : ∀ c ∈ l.map lsaE, c.length = 15 := by
  intro c hc
  obtain ⟨h, _, rfl⟩ := List.mem_map.1 hc
  rfl
theorem cla_post {w w1 w2 : World} {l : List Lsa} {v v' : Value} (B : Below w.heap.size w w1) (O : w1.ownsRow w.heap.size 42 15 v 0 []) (O2 : w2.ownsRow w.heap.size 42 15 v' (0 + (l.map lsaE).length) ([] ++ (l.map lsaE).flatten)) (G : w1.grownBy w2 v.ownBlock) : ClaPost w l (.returned v') w2 := by
  rw [List.length_map, Nat.zero_add, List.nil_append] at O2
  have S : LsasAt w2 v' l := SlV.of_own (cla_len l) (by simpa using O2)
  obtain ⟨a, c, e, -⟩ := S.get
  subst e
  refine ⟨a, c, rfl, ?_, Below.owned B B.size O G⟩
  unfold LsaRow
  simpa using O2

set_option maxHeartbeats 1048576 in
set_option maxRecDepth 100000 in
theorem cla_calls (w : World) (v : Value) (l : List Lsa) (h : LsasAt w v l) (hn : l.length ≤ 1048576) :
    Calls Tryz.prog 58 #[v] w (ClaPost w l) := by
  obtain ⟨i0, hi, hz0, hz1, hz2⟩ := info_parts Tryz.infoLsa
  have HI := Lib.hid hi
  have HZ0 := Lib.hid hz0
  have HZ1 := Lib.hid hz1
  have HZ2 := Lib.hid hz2
  clear hi hz0 hz1 hz2
  have H := Lib.hid h
  obtain ⟨a, cap, e0, h1, h2, h3, h4⟩ := h
  rw [List.length_map] at e0 h1
  subst e0
  have K1 : Hid (0 + (l.map lsaE).length ≤ maxLen) := Lib.hid (by rw [List.length_map]; unfold maxLen; omega)
  have K2 : Hid ((0 + (l.map lsaE).length) * 136 ≤ 140737488355328) := Lib.hid (by rw [List.length_map]; omega)
  clear hn h2 h4
  cases a with
  | none =>
    have c0 := h3 rfl
    have l0 : l.length = 0 := by omega
    have l1 : l = [] := List.length_eq_zero_iff.1 l0
    subst l1
    subst c0
    have E : Hid (ClaPost w ([] : List Lsa) (.returned (.slice none 0 0)) w) := Lib.hid ⟨none, 0, rfl, World.ownsRow_nil _ _ _ _, Below.refl _ _⟩
    clear h1 h3 l0 H K1 K2
    simp only [List.length_nil]
    have NL := fun W => Lib.run_eql_slice_nil (P := Tryz.prog) W 29 42 none 0 0 0 0 Tryz.underlying29
    go_enter Tryz.func58, Tryz.ntmps58
    go_wp2_with fail
    go_ret
    exact E.out
  | some ad =>
    clear h1 h3
    have NL := fun W => Lib.run_eql_slice_nil (P := Tryz.prog) W 29 42 (some ad) l.length cap 0 0 Tryz.underlying29
    have O0 : Hid ((w.alloc (.cells #[] 42)).ownsRow w.heap.size 42 15 (.slice (some ⟨w.heap.size, 0, none⟩) 0 0) 0 []) := Lib.hid (World.ownsRow_made w #[] 0 (Nat.le_refl _) (by unfold maxLen; omega) rfl)
    have HA := Lib.hid (H.out.below ((Below.refl _ _).alloc (Nat.le_refl _) (.cells #[] 42)))
    have B0 : Hid (Below w.heap.size w (w.alloc (.cells #[] 42))) := Lib.hid ((Below.refl _ _).alloc (Nat.le_refl _) _)
    clear H
    go_enter Tryz.func58, Tryz.ntmps58
    go_wp2_with (at_builtin; refine wpList_append_sl rfl _ _ _ rfl w.heap.size 42 i0 _ 15 136 Tryz.underlying29 HI.out HZ0.out HZ1.out HZ2.out rfl (by decide) _ 0 [] rfl O0.out _ (l.map lsaE) rfl HA.out (cla_len l) (cla_one l) K1.out K2.out (by simp) ?_; intro v' w2 O2 G2; have PO := Lib.hid (cla_post B0.out O0.out O2 G2); clear O2 G2)
    go_ret
    exact PO.out

end Go.Proofs.YtddageahmgaigaaGreat

namespace Go.Proofs.YtddageahmgaigaaGreat
open Go.RowKit

def nrm (d : LsaD) : LsaD := ⟨atL d.x none 0 none 0, d.lk, d.att⟩

def AscD (l : List LsaD) : Prop := l.Pairwise fun a b => kkLt (lkOf a.x) (lkOf b.x)

theorem kkLt_irr (a : Kk) : ¬ kkLt a a := by unfold kkLt; omega
theorem kkLt_trans {a b c : Kk} (h : kkLt a b) (k : kkLt b c) : kkLt a c := by unfold kkLt at *; omega
theorem kkLt_tri (a b : Kk) : kkLt a b ∨ a = b ∨ kkLt b a := by
  obtain ⟨a1, a2, a3, a4⟩ := a
  obtain ⟨b1, b2, b3, b4⟩ := b
  unfold kkLt
  simp only [Kk.mk.injEq]
  omega

theorem ascD_eq : ∀ (a b : List LsaD), AscD a → AscD b → (∀ y, y ∈ a ↔ y ∈ b) → a = b
  | [], [], _, _, _ => rfl
  | [], y :: r, _, _, h => absurd ((h y).2 (List.mem_cons_self ..)) (by simp)
  | x :: r, [], _, _, h => absurd ((h x).1 (List.mem_cons_self ..)) (by simp)
  | x :: r, y :: s, h1, h2, h => by
    obtain ⟨a1, a2⟩ := List.pairwise_cons.1 h1
    obtain ⟨b1, b2⟩ := List.pairwise_cons.1 h2
    have e : x = y := by
      rcases List.mem_cons.1 ((h x).1 (List.mem_cons_self ..)) with e | e
      · exact e
      · rcases List.mem_cons.1 ((h y).2 (List.mem_cons_self ..)) with e' | e'
        · exact e'.symm
        · exact absurd (kkLt_trans (a1 y e') (b1 x e)) (kkLt_irr _)
    subst e
    have : r = s := by
      refine ascD_eq r s a2 b2 fun z => ⟨fun hz => ?_, fun hz => ?_⟩
      · rcases List.mem_cons.1 ((h z).1 (List.mem_cons_of_mem _ hz)) with e | e
        · subst e; exact absurd (a1 _ hz) (kkLt_irr _)
        · exact e
      · rcases List.mem_cons.1 ((h z).2 (List.mem_cons_of_mem _ hz)) with e | e
        · subst e; exact absurd (b1 _ hz) (kkLt_irr _)
        · exact e
    rw [this]

structure Nx where
  y : LsaD
  ok : Bool
  c : Int

def NxIs (db : List LsaD) (d : LsaD) (r : Nx) : Prop :=
  (r.ok = false ∧ r.c = 0 ∧ ∃ d' ∈ db, lkOf d'.x = lkOf d.x ∧ SameB d'.x d.x d'.lk d.lk d'.att d.att ∧ d'.x.age < 1800) ∨
  (r.ok = false ∧ r.c ≠ 0) ∨
  (r.ok = true ∧ r.c = 0 ∧ ∃ s, r.y = ⟨{ d.x with seq := s, age := 0, sum := sumD ⟨{ d.x with seq := s, age := 0, sum := 0 }, d.lk, d.att⟩ }, d.lk, d.att⟩ ∧ LsaIs { d.x with seq := s, age := 0, sum := 0 } d.lk d.att 0 ∧
    ((s = 1 ∧ ∀ d' ∈ db, lkOf d'.x ≠ lkOf d.x) ∨ ∃ d' ∈ db, lkOf d'.x = lkOf d.x ∧ s = d'.x.seq + 1 ∧ d'.x.seq < 2147483647 ∧ ¬ (SameB d'.x d.x d'.lk d.lk d'.att d.att ∧ d'.x.age < 1800)))

def NxRf (w : World) (r : Nx) (e : Ending) (w' : World) : Prop := ∃ la lc aa ac, e = .returned (.tuple #[.agg (lsaE (atL r.y.x la lc aa ac)).toArray, .bool r.ok, .int .i64 r.c]) ∧ LnksAt w' (.slice la r.y.x.ln lc) r.y.lk ∧ WordsAt w' (.slice aa r.y.x.an ac) r.y.att ∧ Below w.heap.size w w' ∧ Fr w.heap.size (.slice la r.y.x.ln lc) ∧ Fr w.heap.size (.slice aa r.y.x.an ac)

theorem fr_nil (B n c : Nat) : Fr B (.slice none n c) := fun _ _ _ _ e => by cases e

theorem nx_ex0 (db : List LsaD) (d : LsaD) (fd : Option LsaD) (hf : FdIs db d.x fd) : ∃ r, NxIs db d r ∧ ∀ w e w', NxPost w fd d.x d.lk d.att e w' → NxRf w r e w' := by
  have hm : ∀ d', fd = some d' → d' ∈ db ∧ lkOf d'.x = lkOf d.x := by
    intro d' h
    rcases hf with ⟨h1, _⟩ | ⟨d2, h1, h2, h3⟩
    · rw [h1] at h; cases h
    · rw [h2] at h; cases h; exact ⟨h1, h3⟩
  have hn : fd = none → ∀ d' ∈ db, lkOf d'.x ≠ lkOf d.x := by
    intro h
    rcases hf with ⟨_, h2⟩ | ⟨d2, h1, h2, h3⟩
    · exact h2
    · rw [h2] at h; cases h
  by_cases h1 : ∃ d', fd = some d' ∧ SameB d'.x d.x d'.lk d.lk d'.att d.att ∧ d'.x.age < 1800
  · refine ⟨⟨⟨lsaZ, [], []⟩, false, 0⟩, .inl ⟨rfl, rfl, ?_⟩, fun w e w' hp => ?_⟩
    · obtain ⟨d', h2, h3, h4⟩ := h1
      exact ⟨d', (hm d' h2).1, (hm d' h2).2, h3, h4⟩
    · rcases hp with ⟨_, he, hb⟩ | ⟨hn, _⟩
      · exact ⟨none, 0, none, 0, he, lnks_zero _, words_zero _, hb, fr_nil _ _ _, fr_nil _ _ _⟩
      · obtain ⟨d, h2, h3⟩ := h1
        exact absurd h3 (hn d h2)
  · by_cases h2 : ∃ d, fd = some d ∧ 2147483647 ≤ d.x.seq
    · refine ⟨⟨⟨lsaZ, [], []⟩, false, 8⟩, .inr (.inl ⟨rfl, by decide⟩), fun w e w' hp => ?_⟩
      rcases hp with ⟨h3, _⟩ | ⟨_, ⟨_, he, hb⟩ | ⟨h3, _⟩⟩
      · exact absurd h3 h1
      · exact ⟨none, 0, none, 0, he, lnks_zero _, words_zero _, hb, fr_nil _ _ _, fr_nil _ _ _⟩
      · obtain ⟨d, h4, h5⟩ := h2
        have := h3 d h4
        omega
    · obtain ⟨s, hs⟩ : ∃ s, (fd.map fun d => d.x.seq + 1).getD 1 = s := ⟨_, rfl⟩
      obtain ⟨Y, hY⟩ : ∃ Y, ({ d.x with seq := s, age := 0, sum := 0 } : Lsa) = Y := ⟨_, rfl⟩
      have HS : (s = 1 ∧ ∀ d' ∈ db, lkOf d'.x ≠ lkOf d.x) ∨ ∃ d' ∈ db, lkOf d'.x = lkOf d.x ∧ s = d'.x.seq + 1 ∧ d'.x.seq < 2147483647 ∧ ¬ (SameB d'.x d.x d'.lk d.lk d'.att d.att ∧ d'.x.age < 1800) := by
        cases fd with
        | none => exact .inl ⟨hs.symm, hn rfl⟩
        | some d' => exact .inr ⟨d', (hm d' rfl).1, (hm d' rfl).2, hs.symm, by
            rcases Int.lt_or_le d'.x.seq 2147483647 with h | h
            · exact h
            · exact absurd ⟨d', rfl, h⟩ h2, fun h => h1 ⟨d', rfl, h⟩⟩
      by_cases hz : LsaIs Y d.lk d.att 0
      · refine ⟨⟨⟨{ Y with sum := sumD ⟨Y, d.lk, d.att⟩ }, d.lk, d.att⟩, true, 0⟩, .inr (.inr ⟨rfl, rfl, s, by rw [← hY], by rw [hY]; exact hz, HS⟩), fun w e w' hp => ?_⟩
        rcases hp with ⟨h3, _⟩ | ⟨_, ⟨h3, _⟩ | ⟨_, h3⟩⟩
        · exact absurd h3 h1
        · exact absurd h3 h2
        · rw [hs, hY] at h3
          obtain ⟨c, h4, ⟨h5, _⟩ | ⟨_, la, lc, aa, ac, he, h6, h7, h8, h9, h10⟩⟩ := h3
          · exact absurd (h4.one hz) h5
          · exact ⟨la, lc, aa, ac, he, h6, h7, h8, h9, h10⟩
      · by_cases hc : ∃ c, LsaIs Y d.lk d.att c
        · obtain ⟨c, hc⟩ := hc
          refine ⟨⟨⟨lsaZ, [], []⟩, false, c⟩, .inr (.inl ⟨rfl, fun h => hz (by subst h; exact hc)⟩), fun w e w' hp => ?_⟩
          rcases hp with ⟨h3, _⟩ | ⟨_, ⟨h3, _⟩ | ⟨_, h3⟩⟩
          · exact absurd h3 h1
          · exact absurd h3 h2
          · rw [hs, hY] at h3
            obtain ⟨c', h4, ⟨_, he, hb⟩ | ⟨h5, _⟩⟩ := h3
            · obtain rfl := h4.one hc
              exact ⟨none, 0, none, 0, he, lnks_zero _, words_zero _, hb, fr_nil _ _ _, fr_nil _ _ _⟩
            · subst h5; exact absurd h4 hz
        · refine ⟨⟨⟨lsaZ, [], []⟩, false, 1⟩, .inr (.inl ⟨rfl, by decide⟩), fun w e w' hp => ?_⟩
          exfalso
          rcases hp with ⟨h3, _⟩ | ⟨_, ⟨h3, _⟩ | ⟨_, h3⟩⟩
          · exact h1 h3
          · exact h2 h3
          · rw [hs, hY] at h3
            obtain ⟨c', h4, _⟩ := h3
            exact hc ⟨c', h4⟩

theorem nx_ex (db : List LsaD) (d : LsaD) : ∃ r, NxIs db d r ∧ ∃ fd, FdIs db d.x fd ∧ ∀ w e w', NxPost w fd d.x d.lk d.att e w' → NxRf w r e w' := by
  obtain ⟨fd, hf⟩ := fd_ex db d.x
  obtain ⟨r, h1, h2⟩ := nx_ex0 db d fd hf
  exact ⟨r, h1, fd, hf, h2⟩
noncomputable def nx (db : List LsaD) (d : LsaD) : Nx := Classical.choose (nx_ex db d)
theorem nx_is (db : List LsaD) (d : LsaD) : NxIs db d (nx db d) := (Classical.choose_spec (nx_ex db d)).1
theorem nx_post (db : List LsaD) (d : LsaD) : ∃ fd, FdIs db d.x fd ∧ ∀ w e w', NxPost w fd d.x d.lk d.att e w' → NxRf w (nx db d) e w' := (Classical.choose_spec (nx_ex db d)).2

structure DbN (w : World) (v : Value) (db : List LsaD) : Prop where
  at' : DbAt w v db
  len : ∀ d ∈ db, d.lk.length ≤ 1048576 ∧ d.att.length ≤ 1048576
  ok : DbOk db
theorem DbN.below {w w' : World} {v : Value} {db : List LsaD} (h : DbN w v db) (hb : Below w.heap.size w w') : DbN w' v db := ⟨h.at'.below hb, h.len, h.ok⟩

theorem next_nx {w : World} {v : Value} {db : List LsaD} (D : DbN w v db) (d : LsaD) (hx : DIn w d) (nl : d.lk.length ≤ 1048576) (na : d.att.length ≤ 1048576) : Calls Tryz.prog 20 #[v, .agg (lsaE d.x).toArray] w (NxRf w (nx db d)) := by
  obtain ⟨fd, hf, hp⟩ := nx_post db d
  exact (next_calls w v db D.at'.1 (fun y hy => ⟨(D.at'.2 y hy).lk, (D.at'.2 y hy).att, (D.len y hy).1, (D.len y hy).2⟩) d.x d.lk d.att hx nl na D.ok.un (fun y hy => (D.ok.at hy).seq) fd hf).mono (hp w)
theorem rnext_nx {w : World} {v : Value} {db : List LsaD} (D : DbN w v db) (d : LsaD) (hx : DIn w d) (nl : d.lk.length ≤ 1048576) (na : d.att.length ≤ 1048576) : Calls Tryz.prog 21 #[v, .agg (lsaE d.x).toArray] w (NxRf w (nx db d)) := by
  obtain ⟨fd, hf, hp⟩ := nx_post db d
  exact (rnext_calls w v db D.at'.1 (fun y hy => ⟨(D.at'.2 y hy).lk, (D.at'.2 y hy).att, (D.len y hy).1, (D.len y hy).2⟩) d.x d.lk d.att hx nl na D.ok.un (fun y hy => (D.ok.at hy).seq) fd hf).mono (hp w)

def flD (d : LsaD) : LsaD := ⟨{ d.x with age := 3600 }, d.lk, d.att⟩
def PlanEl (db : List LsaD) (rt : Int) (wt : List LsaD) (y : LsaD) : Prop :=
  (∃ d ∈ wt, (nx db d).ok = true ∧ y = nrm (nx db d).y) ∨ (∃ d ∈ db, d.x.router = rt ∧ d.x.age < 3600 ∧ (∀ e ∈ wt, lkOf e.x ≠ lkOf d.x) ∧ y = nrm (flD d))
def PlanIs (db : List LsaD) (rt : Int) (wt : List LsaD) (c : Int) (l : List LsaD) : Prop :=
  ((∃ d ∈ wt, d.x.router ≠ rt) ∧ c = 14 ∧ l = []) ∨
  ((∀ d ∈ wt, d.x.router = rt) ∧ ¬ (wt.map fun d => lkOf d.x).Nodup ∧ c = 7 ∧ l = []) ∨
  ((∀ d ∈ wt, d.x.router = rt) ∧ (wt.map fun d => lkOf d.x).Nodup ∧ ∃ s : List LsaD, s.Perm wt ∧ AscD s ∧
    ((∃ i, ∃ h : i < s.length, (∀ j, (hj : j < i) → (nx db (s[j]'(by omega))).c = 0) ∧ (nx db s[i]).c = c ∧ c ≠ 0 ∧ l = []) ∨
     ((∀ d ∈ s, (nx db d).c = 0) ∧ c = 0 ∧ AscD l ∧ ∀ y, y ∈ l ↔ PlanEl db rt wt y)))

theorem PlanIs.one {db : List LsaD} {rt : Int} {wt : List LsaD} {c c' : Int} {l l' : List LsaD} (h : PlanIs db rt wt c l) (k : PlanIs db rt wt c' l') : c = c' ∧ l = l' := by
  rcases h with ⟨⟨d, h1, h2⟩, rfl, rfl⟩ | ⟨h1, h2, rfl, rfl⟩ | ⟨h1, h2, s, hp, ha, h3⟩
  · rcases k with ⟨_, rfl, rfl⟩ | ⟨k1, _⟩ | ⟨k1, _⟩
    · exact ⟨rfl, rfl⟩
    · exact absurd (k1 d h1) h2
    · exact absurd (k1 d h1) h2
  · rcases k with ⟨⟨d, k1, k2⟩, _⟩ | ⟨_, _, rfl, rfl⟩ | ⟨_, k2, _⟩
    · exact absurd (h1 d k1) k2
    · exact ⟨rfl, rfl⟩
    · exact absurd k2 h2
  · rcases k with ⟨⟨d, k1, k2⟩, _⟩ | ⟨_, k2, _⟩ | ⟨_, _, s', hp', ha', k3⟩
    · exact absurd (h1 d k1) k2
    · exact absurd h2 k2
    · have e : s = s' := ascD_eq s s' ha ha' fun y => by rw [hp.mem_iff, hp'.mem_iff]
      subst e
      rcases h3 with ⟨i, hi, q1, q2, q3, rfl⟩ | ⟨q1, rfl, q3, q4⟩
      · rcases k3 with ⟨i', hi', r1, r2, r3, rfl⟩ | ⟨r1, _⟩
        · have : i = i' := by
            rcases Nat.lt_trichotomy i i' with z | z | z
            · exact absurd (q2.symm.trans (r1 i z)) q3
            · exact z
            · exact absurd (r2.symm.trans (q1 i' z)) r3
          subst this
          exact ⟨q2.symm.trans r2, rfl⟩
        · exact absurd (q2.symm.trans (r1 _ (List.getElem_mem hi))) q3
      · rcases k3 with ⟨i', hi', r1, r2, r3, rfl⟩ | ⟨_, rfl, r3, r4⟩
        · exact absurd (r2.symm.trans (q1 _ (List.getElem_mem hi'))) r3
        · exact ⟨rfl, ascD_eq l l' q3 r3 fun y => (q4 y).trans (r4 y).symm⟩

structure DRow (w : World) (v : Value) (xs : List LsaD) : Prop where
  row : LsasAt w v (xs.map LsaD.x)
  deep : ∀ d ∈ xs, LnksAt w (.slice d.x.la d.x.ln d.x.lc) d.lk ∧ WordsAt w (.slice d.x.aa d.x.an d.x.ac) d.att
theorem DRow.below {w w' : World} {v : Value} {xs : List LsaD} (h : DRow w v xs) (hb : Below w.heap.size w w') : DRow w' v xs := ⟨h.row.below hb, fun d hd => ⟨(h.deep d hd).1.below hb, (h.deep d hd).2.below hb⟩⟩

def PlanPost (w : World) (db : List LsaD) (rt : Int) (wt : List LsaD) (e : Ending) (w' : World) : Prop :=
  ∃ c l v xs, PlanIs db rt wt c l ∧ e = .returned (.tuple #[v, .int .i64 c]) ∧ DRow w' v xs ∧ xs.map nrm = l ∧ Below w.heap.size w w'

end Go.Proofs.YtddageahmgaigaaGreat
