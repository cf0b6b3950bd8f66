/-
  external.Check: the error of a list of announcements.
-/
import Derived.Test.YtiemmejpaahbpaaGreatAnn
import Derived.Test.YtiemmejpaahbpaaGreatExd
import Derived.Test.YtiemmejpaahbpaaGreatLsa
namespace Go.Proofs.YtiemmejpaahbpaaGreat
open Go.RowKit Go.Shelf
attribute [local go_sem] Oper.semAt_some

def XkPost (w : World) (l : List Ext) (e : Ending) (w' : World) : Prop := ∃ c, e = .returned (.int .i64 c) ∧ ChkIs l c ∧ Below w.heap.size w w'

theorem extErr_at (l : List Ext) (k : Nat) : extErr l k = if validP (exAt l k).pfx = false then 1 else if withinB (exAt l k).cost 0 16777216 = false ∨ withinB (exAt l k).tag 0 4294967295 = false then 5 else if 0 < k ∧ Ls.pfxLt (exAt l (k - 1)).pfx (exAt l k).pfx = false then 16 else 0 := rfl

def XI (w : World) (R : Nat) (l : List Ext) (pre : List (Fin l.length)) (W : World) : Prop :=
  ((∀ i ∈ pre, extErr l i.val = 0) ∧ W.cell? ⟨R, 0, none⟩ = some (.int .i64 0) ∧ W.frozen? ⟨R, 0, none⟩ = false ∧ w.heap.size + 2 ≤ W.heap.size) ∧ Below w.heap.size w W
def XX (w : World) (R : Nat) (l : List Ext) (c : Code) (pre : List (Fin l.length)) (W : World) : Prop :=
  (c = .ret ∧ ∃ ini last, pre = ini ++ [last] ∧ (∀ i ∈ ini, extErr l i.val = 0) ∧ extErr l last.val ≠ 0 ∧ W.cell? ⟨R, 0, none⟩ = some (.int .i64 (extErr l last.val))) ∧ Below w.heap.size w W
def exC (x : Ext) : Array Value := #[.int .u32 x.pfx.addr, .int .i64 x.pfx.len, .int .i64 x.cost, .bool x.second, .int .u32 x.fwd, .int .i64 x.tag]

theorem XI.own (w : World) (R B : Nat) (l : List Ext) (hB : w.heap.size ≤ B) : OwnFrom B (XI w R l) :=
  OwnFrom.and (Own.from (fun _ _ _ _ hs hg hr => ⟨hs.1, cell_kept hs.2.1 hg hr, (frozen_kept hs.2.1 hg hr).trans hs.2.2.1, Nat.le_trans hs.2.2.2 hg.size⟩) _) (ownFrom_below (Nat.le_refl _) hB)
theorem XX.own (w : World) (R B : Nat) (l : List Ext) (hB : w.heap.size ≤ B) (c : Code) : OwnFrom B (XX w R l c) :=
  OwnFrom.and (Own.from (fun _ _ _ _ hs hg hr => by obtain ⟨hc, ini, last, e1, e2, e3, e4⟩ := hs; exact ⟨hc, ini, last, e1, e2, e3, cell_kept e4 hg hr⟩) _) (ownFrom_below (Nat.le_refl _) hB)

theorem Gr.keeps {w w' : World} (h : Gr w w') : KeepsOthers w w' := ⟨h.b.size, fun k _ hk _ => (h.b.block k (blk_lt hk)).trans hk⟩
theorem exAt_ok {l : List Ext} (ok : ∀ x ∈ l, OkP x.pfx) {k : Nat} (h : k < l.length) : OkP (exAt l k).pfx := by
  rw [exAt, getD_at h]; exact ok _ (List.getElem_mem h)
/-- how a round ends with an error -/
theorem XX.mk {w W w1 : World} {l : List Ext} {pre : List (Fin l.length)} {x : Fin l.length} {e : Int} (hi : XI w w.heap.size l pre W) (G : Gr W w1) (h : extErr l x.val = e) (he : e ≠ 0) :
    XX w w.heap.size l .ret (pre ++ [x]) (w1.setCell ⟨w.heap.size, 0, none⟩ (.int .i64 e)) := by
  obtain ⟨⟨h1, h2, _, _⟩, h5⟩ := hi
  subst h
  exact ⟨⟨rfl, pre, x, rfl, h1, he, World.cell?_setCell_same' _ _ _ (by rw [bcell G.b h2]; rfl)⟩, (h5.trans (G.b.mono h5.size)).setCell (p := ⟨w.heap.size, 0, none⟩) (Nat.le_refl _) _⟩
theorem XI.next {w W w1 : World} {l : List Ext} {pre : List (Fin l.length)} {x : Fin l.length} (hi : XI w w.heap.size l pre W) (G : Gr W w1) (h : extErr l x.val = 0) :
    XI w w.heap.size l (pre ++ [x]) w1 := by
  obtain ⟨⟨h1, h2, h3, h4⟩, h5⟩ := hi
  refine ⟨⟨fun i hi => ?_, bcell G.b h2, ?_, Nat.le_trans h4 G.b.size⟩, h5.trans (G.b.mono h5.size)⟩
  · rcases List.mem_append.1 hi with hi | hi
    · exact h1 i hi
    · rw [List.mem_singleton] at hi; subst hi; exact h
  · rw [G.b.frozen (World.block_lt_of_cell? W _ h2)]; exact h3

theorem pfxCmp_lt {p q : Ls.Pfx} (h : Ls.pfxLt p q = true) : pfxCmp p q = -1 := by simp [pfxCmp, h]
theorem pfxCmp_ge {p q : Ls.Pfx} (h : Ls.pfxLt p q = false) : 0 ≤ pfxCmp p q := by
  unfold pfxCmp; rw [h]; simp only [Bool.false_eq_true, if_false]; split <;> omega

theorem cell_drew' (w : World) (a : Addr) : w.drew.cell? a = w.cell? a := rfl
theorem frozen_drew' (w : World) (a : Addr) : w.drew.frozen? a = w.frozen? a := rfl

set_option maxRecDepth 100000 in
set_option maxHeartbeats 4000000 in
theorem xcheck_calls (w : World) (v : Value) (l : List Ext) (h : ExtsAt w v l) (ok : ∀ x ∈ l, OkP x.pfx) : Calls Tryz.prog 13 #[v] w (XkPost w l) := by
  obtain ⟨a, cap, rfl, hl, hc⟩ := h.get
  obtain ⟨ad, had⟩ : ∃ ad : Addr, 0 < l.length → a = some ad ∧ ad.spot = none ∧ ad.block < w.heap.size ∧ ExC w ad l := by
    by_cases h0 : 0 < l.length
    · obtain ⟨b, off, e, hb, hcc⟩ := hc h0
      refine ⟨⟨b, off, none⟩, fun _ => ⟨e, rfl, hb, fun i hi => ?_⟩⟩
      have := hcc i hi
      rw [exAt, getD_at hi]; exact this
    · exact ⟨default, fun h => absurd h h0⟩
  have HC := Lib.hid had
  have OK := Lib.hid ok
  clear h hc ok had
  by_cases h64 : 64 < l.length
  · have E : ∀ W, Below w.heap.size w W → XkPost w l (.returned (.int .i64 4)) W := fun W hb => ⟨4, rfl, .inl ⟨h64, rfl⟩, hb⟩
    have EE := Lib.hid E
    clear E
    go_enter Tryz.func13, Tryz.ntmps13
    go_wp2_with fail
    exact bodyPost_ret (v := .int .i64 4) (by simp [results, Tryz.results13, go_sem]) rfl (EE.out _ (by repeat (first | exact Below.refl _ _ | refine Below.setCell ?_ (Nat.le_refl _) _ | refine Below.alloc ?_ (Nat.le_refl _) _)))
  · have h64' : l.length ≤ 64 := by omega
    have d64 : decide ((64 : Int) < (l.length : Int)) = false := by simp; omega
    clear h64
    refine (callsIn_wide (n := 5)).1 ?_
    refine callsIn_of_wp_marks Tryz.func13 rfl trivial ?_ rfl
    simp only [Tryz.ntmps13, List.size_toArray, List.length_cons, List.length_nil, Nat.reduceAdd, Nat.reduceSub, Array.replicate_succ, Array.replicate_zero, List.push_toArray, List.append_toArray, List.nil_append, List.cons_append]
    gi_wp2_with (refine ⟨trivial, ?_⟩; gi_at_call 34; refine (ann_in Fence.wide _ trivial rfl _ _ _ _).mono ?_; rintro e w' ⟨rfl, rfl⟩)
    obtain ⟨W0, hW0⟩ : ∃ W0, (w.alloc (.cells #[.int .i64 0] 47)).alloc (.cells #[.slice a l.length cap] 46) = W0 := ⟨_, rfl⟩
    have sz : W0.heap.size = w.heap.size + 2 := by rw [← hW0]; simp
    have B0 : Below w.heap.size w W0 := by rw [← hW0]; exact ((Below.refl _ _).alloc (Nat.le_refl _) _).alloc (by simp) _
    have bR : W0.heap[w.heap.size]? = some (.cells #[.int .i64 0] 47 (0, 0)) := by rw [← hW0]; exact (alloc_get _ _ _ (by simp)).trans (alloc_new _ _)
    have bN : W0.heap[w.heap.size + 1]? = some (.cells #[.slice a l.length cap] 46 (0, 0)) := by rw [← hW0]; exact blk_new2 _ _ _
    rw [hW0]
    have HW := Lib.hid hW0
    clear hW0
    have HC2 : Hid (0 < l.length → a = some ad ∧ ad.spot = none ∧ ad.block < w.heap.size + 2 ∧ ExC W0 ad l) := Lib.hid (fun h => by
      obtain ⟨h1, h2, h3, h4⟩ := HC.out h
      exact ⟨h1, h2, by omega, h4.below B0 h3⟩)
    refine wpIn_rangeFunc_ownH rfl (by omega) (gf := 66) (lb := #[.pointer (some ⟨w.heap.size + 1, 0, none⟩)]) rfl trivial (enters_of Tryz.func66 (by kernel_rfl) rfl)
      (ann_stops Fence.wide _ trivial rfl (by omega) (w.heap.size + 1) (w.heap.size + 2) a ad cap l hl (fun h => ⟨(HC2.out h).1, (HC2.out h).2.1, (HC2.out h).2.2.1⟩) (by omega) W0 (by omega) (blk_cell bN rfl) (fun i hi => (HC2.out (by omega)).2.2.2 i hi)) belowK_t (belowK_b (by omega)) (Below.refl _ _) (fun _ => rfl)
      (XI w w.heap.size l) (XX w w.heap.size l) (XI.own _ _ _ _ (by omega)) (fun c => XX.own _ _ _ _ (by omega) c)
      ⟨⟨by simp, blk_cell bR rfl, blk_free bR 0, by omega⟩, B0⟩
      (fun x a' W => ∃ Bx, w.heap.size + 2 ≤ Bx ∧ W.heap[Bx]? = some (.cells (exC (exAt l x.val)) 82 (0, 0)) ∧ a' = { tmps := #[Value.slice a l.length cap, undef, Value.pointer (some { block := w.heap.size, off := 0 }), Value.pointer (bef ad x.val), Value.pointer (some ⟨Bx, 0, none⟩), Value.slice a l.length cap, Value.int IntKind.i64 ↑l.length, Value.bool false, Value.slice a l.length cap, Value.func (Fn.func 66) #[] #[Value.pointer (some { block := w.heap.size + 1, off := 0 })], Value.pointer (bef ad x.val), exA (exAt l x.val), undef, undef, undef, undef, undef, undef, undef, undef, undef, undef, undef, undef, undef, undef, undef, undef, undef, undef, undef, undef, undef, undef, undef, undef, undef, undef, undef, undef, undef, undef, undef, undef, undef, undef, undef, undef, undef], defers := [] })
      ?hAx ?assign ?body ?done ?stop
    case hAx =>
      rintro x a' _ A B row ⟨Bx, h1, h2, h3⟩ hg hr
      refine ⟨Bx, h1, (hg.block Bx (blk_lt h2) (fun e => ?_)).trans h2, h3⟩
      obtain ⟨o, ho, hc⟩ := (hr Bx e.symm).2
      rw [h2] at ho; cases ho; cases hc
    case assign =>
      rintro l' pre x W K hi hK
      simp only [annE, exA]
      have SZ : w.heap.size + 2 ≤ W.heap.size := hi.1.2.2.2
      gi_wp2
      refine hK _ _ ((KeepsOthers.alloc _ _).from _) ((Below.refl _ W).alloc SZ _) ((XI.own w w.heap.size w.heap.size l (Nat.le_refl _)).alloc _ hi) ⟨W.heap.size, ?_, ?_, ?_⟩
      · exact SZ
      · exact alloc_new _ _
      · rfl
    case body =>
      rintro l' pre x a' W hl' ⟨r, hr⟩ hi ⟨Bx, hBx, bX, rfl⟩ hlt
      have HI := Lib.hid hi
      obtain ⟨⟨hp, hR, hRf, hsz⟩, hB⟩ := hi
      have VC := Lib.hid (fun W => valid_calls (exAt l x.val).pfx (exAt_ok OK.out x.isLt) W)
      have EE := Lib.hid (extErr_at l x.val)
      have Rlt : w.heap.size < W.heap.size := by omega
      have HP := Lib.hid hp
      have HB := Lib.hid hB
      have BX := Lib.hid bX
      simp only [exC] at bX
      have c0 := blk_cell (i := 0) bX rfl
      have c1 := blk_cell (i := 1) bX rfl
      clear hp hB bX hr
      cases hv : validP (exAt l x.val).pfx with
      | false =>
        rw [hv] at VC
        have E : Hid (extErr l x.val = 1) := Lib.hid (by rw [EE.out, hv]; rfl)
        clear hv EE
        generalize exAt l x.val = y at *
        gi_wp2_with (refine ⟨trivial, ?_⟩; gi_at_call 35; refine (CallsIn.inRound l' (callsIn_wide.2 (VC.out _))).mono ?_; rintro e w1 ⟨rfl, G1⟩; (have hR1 := bcell G1.b hR); (have hRf1 := (G1.b.frozen (p := ⟨w.heap.size, 0, none⟩) Rlt).trans hRf); (have GH := Lib.hid G1); clear G1)
        exact ⟨(GH.out.keeps.trans (KeepsOthers.setCell _ _ _)).from _, XX.mk HI.out GH.out E.out (by decide)⟩
      | true =>
        rw [hv] at VC
        rw [hv] at EE
        clear hv
        generalize exAt l x.val = y at *
        have c2 : W.cell? ⟨Bx, 2, none⟩ = some (.int .i64 y.cost) := blk_cell BX.out rfl
        have c5 : W.cell? ⟨Bx, 5, none⟩ = some (.int .i64 y.tag) := blk_cell BX.out rfl
        by_cases k1 : y.cost < 0
        · have E5 : Hid (extErr l x.val = 5) := Lib.hid (by rw [EE.out, if_neg (by simp), if_pos (by simp [withinB]; omega)])
          clear EE
          gi_wp2_with (refine ⟨trivial, ?_⟩; gi_at_call 35; refine (CallsIn.inRound l' (callsIn_wide.2 (VC.out _))).mono ?_; rintro e w1 ⟨rfl, G1⟩; (have hR1 := bcell G1.b hR); (have hRf1 := (G1.b.frozen (p := ⟨w.heap.size, 0, none⟩) Rlt).trans hRf); (have c0 := bcell G1.b c0); (have c1 := bcell G1.b c1); (have c2 := bcell G1.b c2); (have c5 := bcell G1.b c5); (have BX1 := Lib.hid (((G1.b.block Bx (blk_lt BX.out)).trans BX.out))); (have GH := Lib.hid G1); clear G1)
          exact ⟨(GH.out.keeps.trans (KeepsOthers.setCell _ _ _)).from _, XX.mk HI.out GH.out E5.out (by decide)⟩
        by_cases k2 : 16777216 < y.cost
        · have E5 : Hid (extErr l x.val = 5) := Lib.hid (by rw [EE.out, if_neg (by simp), if_pos (by simp [withinB]; omega)])
          clear EE
          gi_wp2_with (refine ⟨trivial, ?_⟩; gi_at_call 35; refine (CallsIn.inRound l' (callsIn_wide.2 (VC.out _))).mono ?_; rintro e w1 ⟨rfl, G1⟩; (have hR1 := bcell G1.b hR); (have hRf1 := (G1.b.frozen (p := ⟨w.heap.size, 0, none⟩) Rlt).trans hRf); (have c0 := bcell G1.b c0); (have c1 := bcell G1.b c1); (have c2 := bcell G1.b c2); (have c5 := bcell G1.b c5); (have BX1 := Lib.hid (((G1.b.block Bx (blk_lt BX.out)).trans BX.out))); (have GH := Lib.hid G1); clear G1)
          exact ⟨(GH.out.keeps.trans (KeepsOthers.setCell _ _ _)).from _, XX.mk HI.out GH.out E5.out (by decide)⟩
        by_cases k3 : y.tag < 0
        · have E5 : Hid (extErr l x.val = 5) := Lib.hid (by rw [EE.out, if_neg (by simp), if_pos (by simp [withinB]; omega)])
          clear EE
          gi_wp2_with (refine ⟨trivial, ?_⟩; gi_at_call 35; refine (CallsIn.inRound l' (callsIn_wide.2 (VC.out _))).mono ?_; rintro e w1 ⟨rfl, G1⟩; (have hR1 := bcell G1.b hR); (have hRf1 := (G1.b.frozen (p := ⟨w.heap.size, 0, none⟩) Rlt).trans hRf); (have c0 := bcell G1.b c0); (have c1 := bcell G1.b c1); (have c2 := bcell G1.b c2); (have c5 := bcell G1.b c5); (have BX1 := Lib.hid (((G1.b.block Bx (blk_lt BX.out)).trans BX.out))); (have GH := Lib.hid G1); clear G1)
          exact ⟨(GH.out.keeps.trans (KeepsOthers.setCell _ _ _)).from _, XX.mk HI.out GH.out E5.out (by decide)⟩
        by_cases k4 : 4294967295 < y.tag
        · have E5 : Hid (extErr l x.val = 5) := Lib.hid (by rw [EE.out, if_neg (by simp), if_pos (by simp [withinB]; omega)])
          clear EE
          gi_wp2_with (refine ⟨trivial, ?_⟩; gi_at_call 35; refine (CallsIn.inRound l' (callsIn_wide.2 (VC.out _))).mono ?_; rintro e w1 ⟨rfl, G1⟩; (have hR1 := bcell G1.b hR); (have hRf1 := (G1.b.frozen (p := ⟨w.heap.size, 0, none⟩) Rlt).trans hRf); (have c0 := bcell G1.b c0); (have c1 := bcell G1.b c1); (have c2 := bcell G1.b c2); (have c5 := bcell G1.b c5); (have BX1 := Lib.hid (((G1.b.block Bx (blk_lt BX.out)).trans BX.out))); (have GH := Lib.hid G1); clear G1)
          exact ⟨(GH.out.keeps.trans (KeepsOthers.setCell _ _ _)).from _, XX.mk HI.out GH.out E5.out (by decide)⟩
        have EE2 := Lib.hid (EE.out.trans ((if_neg (by simp)).trans (if_neg (by simp [withinB]; omega))))
        clear EE
        have mixed : Tryz.prog.follows .mixedOrders = true := by kernel_rfl
        rcases Nat.eq_zero_or_pos x.val with h0 | h0
        · have hbf : bef ad x.val = none := by simp [bef, h0]
          have E0 : Hid (extErr l x.val = 0) := Lib.hid (by rw [EE2.out, if_neg (by omega)])
          rw [hbf]
          clear hbf EE2
          gi_wp2_with (refine ⟨trivial, ?_⟩; gi_at_call 35; refine (CallsIn.inRound l' (callsIn_wide.2 (VC.out _))).mono ?_; rintro e w1 ⟨rfl, G1⟩; (have hR1 := bcell G1.b hR); (have hRf1 := (G1.b.frozen (p := ⟨w.heap.size, 0, none⟩) Rlt).trans hRf); (have c0 := bcell G1.b c0); (have c1 := bcell G1.b c1); (have c2 := bcell G1.b c2); (have c5 := bcell G1.b c5); (have BX1 := Lib.hid (((G1.b.block Bx (blk_lt BX.out)).trans BX.out))); (have GH := Lib.hid G1); clear G1)
          gi_region_with_o (refine ⟨trivial, ?_⟩)
          all_goals gi_wp2
          all_goals exact ⟨(GH.out.drew.keeps).from _, (Below.refl _ W).trans (GH.out.drew.b.mono (by omega)), XI.next HI.out GH.out.drew E0.out⟩
        · have hbf : bef ad x.val = some ⟨ad.block, ad.off + (x.val - 1) * 6, none⟩ := by simp [bef]; omega
          obtain ⟨q0, q1, -⟩ := (HC.out (by omega)).2.2.2.below HB.out (HC.out (by omega)).2.2.1 (x.val - 1) (by omega)
          rw [hbf]
          generalize exAt l (x.val - 1) = z at *
          generalize ad.off + (x.val - 1) * 6 = o at *
          have PC := Lib.hid (fun W => pcompare_calls z.pfx y.pfx W)
          clear hbf
          cases hlt2 : Ls.pfxLt z.pfx y.pfx with
          | true =>
            have E0 : Hid (extErr l x.val = 0) := Lib.hid (by rw [EE2.out, if_neg (by simp [hlt2])])
            rw [pfxCmp_lt hlt2] at PC
            clear hlt2 EE2
            gi_wp2_with (refine ⟨trivial, ?_⟩; gi_at_call 35; refine (CallsIn.inRound l' (callsIn_wide.2 (VC.out _))).mono ?_; rintro e w1 ⟨rfl, G1⟩; (have hR1 := bcell G1.b hR); (have hRf1 := (G1.b.frozen (p := ⟨w.heap.size, 0, none⟩) Rlt).trans hRf); (have q0 := bcell G1.b q0); (have q1 := bcell G1.b q1); (have c0 := bcell G1.b c0); (have c1 := bcell G1.b c1); (have c2 := bcell G1.b c2); (have c5 := bcell G1.b c5); (have BX1 := Lib.hid (((G1.b.block Bx (blk_lt BX.out)).trans BX.out))); (have GH := Lib.hid G1); clear G1)
            have R1lt : Hid (w.heap.size < w1.drew.heap.size) := Lib.hid (by have := GH.out.b.size; show w.heap.size < w1.heap.size; omega)
            gi_region_with_o (refine ⟨trivial, ?_⟩; gi_at_call 27; refine (CallsIn.inRound l' (callsIn_wide.2 (PC.out _))).mono ?_; rintro e w2 ⟨rfl, G2⟩; (have hR2 := bcell G2.b ((cell_drew' _ _).trans hR1)); (have hRf2 := (G2.b.frozen (p := ⟨w.heap.size, 0, none⟩) R1lt.out).trans ((frozen_drew' _ _).trans hRf1)); (have GH2 := Lib.hid (GH.out.drew.trans G2)); clear G2)
            all_goals gi_wp2
            all_goals exact ⟨(GH2.out.keeps).from _, (Below.refl _ W).trans (GH2.out.b.mono (by omega)), XI.next HI.out GH2.out E0.out⟩
          | false =>
            have E0 : Hid (extErr l x.val = 16) := Lib.hid (by rw [EE2.out, if_pos ⟨h0, hlt2⟩])
            have pg := pfxCmp_ge hlt2
            generalize pfxCmp z.pfx y.pfx = c at *
            clear hlt2 EE2
            gi_wp2_with (refine ⟨trivial, ?_⟩; gi_at_call 35; refine (CallsIn.inRound l' (callsIn_wide.2 (VC.out _))).mono ?_; rintro e w1 ⟨rfl, G1⟩; (have hR1 := bcell G1.b hR); (have hRf1 := (G1.b.frozen (p := ⟨w.heap.size, 0, none⟩) Rlt).trans hRf); (have q0 := bcell G1.b q0); (have q1 := bcell G1.b q1); (have c0 := bcell G1.b c0); (have c1 := bcell G1.b c1); (have c2 := bcell G1.b c2); (have c5 := bcell G1.b c5); (have BX1 := Lib.hid (((G1.b.block Bx (blk_lt BX.out)).trans BX.out))); (have GH := Lib.hid G1); clear G1)
            have R1lt : Hid (w.heap.size < w1.drew.heap.size) := Lib.hid (by have := GH.out.b.size; show w.heap.size < w1.heap.size; omega)
            gi_region_with_o (refine ⟨trivial, ?_⟩; gi_at_call 27; refine (CallsIn.inRound l' (callsIn_wide.2 (PC.out _))).mono ?_; rintro e w2 ⟨rfl, G2⟩; (have hR2 := bcell G2.b ((cell_drew' _ _).trans hR1)); (have hRf2 := (G2.b.frozen (p := ⟨w.heap.size, 0, none⟩) R1lt.out).trans ((frozen_drew' _ _).trans hRf1)); (have GH2 := Lib.hid (GH.out.drew.trans G2)); clear G2)
            all_goals gi_wp2
            all_goals exact ⟨(GH2.out.keeps.trans (KeepsOthers.setCell _ _ _)).from _, XX.mk HI.out GH2.out E0.out (by decide)⟩
    case done =>
      rintro D ys W hD hys ⟨⟨hne, hcr, hfr, _⟩, hB⟩ hK
      have hall : ∀ i, i < l.length → extErr l i = 0 := fun i hi => by
        have : i ∈ ys.map Fin.val := by rw [hys]; simp [uptoN, hi]
        obtain ⟨q, hq, rfl⟩ := List.mem_map.1 this
        exact hne q hq
      have HA := Lib.hid hall
      clear hall hne hys
      gi_wp2
      have hK' := (KeepsOthers.setCell W ⟨w.heap.size, 0, none⟩ (.int .i64 0)).same D _ hK rfl
      refine ⟨by simp, .inl ⟨_, _, rfl, run_takeDeferred hK', ?_⟩⟩
      have hc5 := cell_kept (World.cell?_setCell_same' W ⟨w.heap.size, 0, none⟩ (.int .i64 0) (by rw [hcr]; rfl)) (grownBy_putObj' _ D (.deferred none)) (fun r e => by cases e; exact ⟨_, hK', rfl⟩)
      refine ⟨.int .i64 0, ?_, 0, rfl, .inr ⟨h64', .inl ⟨HA.out, rfl⟩⟩, (hB.setCell (p := ⟨w.heap.size, 0, none⟩) (Nat.le_refl _) _).trans (belowK_b (w := w) (Nat.le_refl _) _ D _ _ (by omega) hK' rfl rfl)⟩
      simp [results, Tryz.f13, go_sem, hc5]
    case stop =>
      rintro D c pre W hD ⟨k, hk, hpre⟩ ⟨⟨rfl, ini, last, e1, e2, e3, hcr⟩, hB⟩ hK
      gi_wp2
      refine ⟨by simp, .inl ⟨_, _, rfl, run_takeDeferred hK, ?_⟩⟩
      have hc5 := cell_kept hcr (grownBy_putObj' _ D (.deferred none)) (fun r e => by cases e; exact ⟨_, hK, rfl⟩)
      obtain ⟨k', rfl⟩ : ∃ k', k = k' + 1 := by
        cases k with
        | zero => rw [e1] at hpre; simp [uptoN] at hpre
        | succ k' => exact ⟨k', rfl⟩
      rw [e1, uptoN_succ, List.map_append] at hpre
      obtain ⟨h1, h2⟩ := List.append_inj' hpre rfl
      have h2 : last.val = k' := by simpa using h2
      refine ⟨.int .i64 (extErr l last.val), ?_, _, rfl, .inr ⟨h64', .inr ⟨last.val, last.isLt, fun i hi => ?_, rfl, e3⟩⟩, hB.trans (belowK_b (w := w) (Nat.le_refl _) W D _ _ (by omega) hK rfl rfl)⟩
      · simp [results, Tryz.f13, go_sem, hc5]
      · have : i ∈ ini.map Fin.val := by rw [h1]; simp [uptoN]; omega
        obtain ⟨q, hq, rfl⟩ := List.mem_map.1 this
        exact e2 q hq

end Go.Proofs.YtiemmejpaahbpaaGreat
