import Derived.Test.YtddageahmgaigaaGreatSos
import Derived.Test.YtddageahmgaigaaGreatIfs
import Derived.Test.YtddageahmgaigaaGreatLcl
import Derived.Test.YtddageahmgaigaaGreatLcs
namespace Go.Proofs.YtddageahmgaigaaGreat
open Go.RowKit

def nwL (x : Ifc) (rt : Int) (a : Option Addr) (n c : Nat) : Lsa := ⟨2, x.ad, x.pl, rt, 0, 0, 0, false, false, none, 0, 0, a, n, c, 0, false, 0, 0⟩
def fullsS (nb : List Nb) (rt : Int) : List Int := (fulls nb ++ [rt]).mergeSort fun x y => decide (x ≤ y)
def nwB (x : Ifc) (rt : Int) (nb : List Nb) : Bool := x.up && decide (x.kind = 2) && decide (x.dr = rt) && !(fulls nb).isEmpty
def NwPost (w : World) (ok : Bool) (x : Ifc) (rt : Int) (att : List Int) (e : Ending) (w' : World) : Prop :=
  (ok = false ∧ e = .returned (.tuple #[.agg (lsaE lsaZ).toArray, .bool false]) ∧ Below w.heap.size w w') ∨
  (ok = true ∧ ∃ a c, e = .returned (.tuple #[.agg (lsaE (nwL x rt a att.length c)).toArray, .bool true]) ∧ WordsAt w' (.slice a att.length c) att ∧ Below w.heap.size w w')

structure NwR (W0 : World) (l : List Int) (v : Value) (wr : World) : Prop where
  own : WordsOwn W0.heap.size wr v l
  bel : Below W0.heap.size W0 wr
theorem NwR.sl {W0 wr : World} {l : List Int} {v : Value} (R : NwR W0 l v wr) : ∃ a c, v = .slice a l.length c := by
  rcases own_cases R.own with ⟨rfl, h0⟩ | ⟨g, cap, cur, rfl, _⟩
  · exact ⟨none, 0, by rw [h0]⟩
  · exact ⟨_, _, rfl⟩
theorem NwR.push {W0 wr w2 w9 : World} {l : List Int} {v v' : Value} {x : Int} (R : NwR W0 l v wr) (hb : Below wr.heap.size wr w2)
    (own' : w9.ownsRow W0.heap.size 22 1 v' (l.length + 1) ((l.map u32E).flatten ++ [.int .u32 x])) (hg : w2.grownBy w9 v.ownBlock) : NwR W0 (l ++ [x]) v' w9 := by
  have R3 := R.own.below hb
  refine ⟨?_, (R.bel.trans (hb.mono R.bel.size)).grown hg (Nat.le_trans R.bel.size hb.size) (fun j hj => (World.ownsRow.lt R3 j hj).1)⟩
  unfold WordsOwn
  rw [List.length_append, List.map_append, List.flatten_append]
  simpa [u32E] using own'
theorem NwR.sort {W0 wr w9 : World} {l : List Int} {v : Value} {e : Ending} (R : NwR W0 l v wr) (P : SortWPost W0.heap.size wr v l e w9) : NwR W0 (l.mergeSort fun x y => decide (x ≤ y)) v w9 := by
  have hlen : (l.mergeSort fun x y => decide (x ≤ y)).length = l.length := List.length_mergeSort ..
  refine ⟨?_, R.bel.trans P.2.2.1⟩
  unfold WordsOwn
  rw [hlen]
  exact P.2.1
theorem NwR.below {W0 wr w9 : World} {l : List Int} {v : Value} (R : NwR W0 l v wr) (hb : Below wr.heap.size wr w9) : NwR W0 l v w9 := ⟨R.own.below hb, R.bel.trans (hb.mono R.bel.size)⟩
theorem NwR.far {W0 wr w9 : World} {l : List Int} {v : Value} {r : Nat} (R : NwR W0 l v wr) (hg : wr.grownBy w9 (some r)) (hr : r < W0.heap.size) : WordsOwn W0.heap.size w9 v l :=
  World.ownsRow.kept (row := some r) R.own hg (.inr (fun h => by
    have := (World.ownsRow.lt R.own r h).1
    omega))

set_option maxHeartbeats 16000000 in
set_option maxRecDepth 100000 in
theorem network_calls (x : Ifc) (nb : List Nb) (rt : Int) (w : World) (hn : NbsAt w (.slice x.na x.nn x.nc) nb) (hl : nb.length ≤ 1048576) :
    Calls Tryz.prog 31 #[.agg (ifE x).toArray, .int .u32 rt] w (NwPost w (nwB x rt nb) x rt (fullsS nb rt)) := by
  have FC := Lib.hid (fun W (hb : Below w.heap.size w W) => full_calls x nb W (hn.below hb) hl)
  have FL : Hid ((fulls nb).length ≤ 1048576) := Lib.hid (Nat.le_trans (fulls_len nb) hl)
  obtain ⟨ga, gc, e1, hlen, -⟩ := hn.get
  obtain ⟨kind, pa, pl, ad, area, cost, prio, hel, dead, up, dr, bdr, el, nh, a1, nn, c1⟩ := x
  simp only at e1
  simp only [Value.slice.injEq] at e1
  obtain ⟨rfl, rfl, rfl⟩ := e1
  simp only [ifE] at FC ⊢
  clear hn hl
  have mixed : Tryz.prog.follows .mixedOrders = true := by kernel_rfl
  obtain ⟨ti, HI0, HZ0, HZ1, HZ2⟩ : ∃ i, Hid (Tryz.prog.info? 22 = some i) ∧ Hid (i.zero = some (.int .u32 0)) ∧ Hid (i.size = 1) ∧ Hid (i.bytes = 4) := by
    have h := Tryz.infoU32
    cases e : Tryz.prog.info? 22 with
    | none => rw [e] at h; simp at h
    | some i => rw [e] at h; simp only [Option.map_some, Option.some.injEq, Prod.mk.injEq] at h; exact ⟨i, Lib.hid rfl, Lib.hid h.1, Lib.hid h.2.1, Lib.hid h.2.2⟩
  obtain ⟨W0, hW0⟩ : ∃ W0, (w.alloc (.cells #[.int .i64 kind, .int .u32 pa, .int .i64 pl, .int .u32 ad, .int .u32 area, .int .i64 cost, .int .i64 prio, .int .i64 hel, .int .i64 dead, .bool up, .int .u32 dr, .int .u32 bdr, .int .i64 el, .int .i64 nh, .slice a1 nb.length c1] 69)).alloc (.cells #[.int .i64 0, .int .u32 0, .int .i64 0, .int .u32 0, .int .i64 0, .int .i64 0, .int .i64 0, .bool false, .bool false, .slice none 0 0, .slice none 0 0, .int .i64 0, .bool false, .int .u32 0, .int .i64 0] 42) = W0 := ⟨_, rfl⟩
  have B0 : Hid (Below w.heap.size w W0) := Lib.hid (by rw [← hW0]; exact ((Below.refl _ _).alloc (Nat.le_refl _) _).alloc (by simp) _)
  have X0 : Hid (W0.heap[w.heap.size]? = some (.cells #[.int .i64 kind, .int .u32 pa, .int .i64 pl, .int .u32 ad, .int .u32 area, .int .i64 cost, .int .i64 prio, .int .i64 hel, .int .i64 dead, .bool up, .int .u32 dr, .int .u32 bdr, .int .i64 el, .int .i64 nh, .slice a1 nb.length c1] 69 (0, 0))) := Lib.hid (by rw [← hW0]; exact (alloc_get _ _ _ (by simp)).trans (alloc_new _ _))
  have Z0 : Hid (W0.heap[w.heap.size + 1]? = some (.cells #[.int .i64 0, .int .u32 0, .int .i64 0, .int .u32 0, .int .i64 0, .int .i64 0, .int .i64 0, .bool false, .bool false, .slice none 0 0, .slice none 0 0, .int .i64 0, .bool false, .int .u32 0, .int .i64 0] 42 (0, 0))) := Lib.hid (by rw [← hW0]; exact blk_new2 w _ _)
  have S0 : Hid (w.heap.size + 1 < W0.heap.size) := Lib.hid (by rw [← hW0]; simp)
  have HW0 := Lib.hid hW0
  have FC0 := Lib.hid (FC.out W0 B0.out)
  clear hW0 FC
  generalize hok : nwB ⟨kind, pa, pl, ad, area, cost, prio, hel, dead, up, dr, bdr, el, nh, a1, nb.length, c1⟩ rt nb = ok
  generalize hat : fullsS nb rt = att
  have HOK := Lib.hid hok
  have HAT := Lib.hid hat
  clear hok hat
  obtain ⟨⟨⟨y0, y1, y2, y3, y4⟩, ⟨y5, y6, y7, y8, y9⟩, ⟨y10, y11, y12, y13, y14⟩⟩, -⟩ := blk15 X0.out
  go_enter Tryz.func31, Tryz.ntmps31
  go_upto_region 1 with fail
  rw [HW0.out]
  go_upto_region 2 with (go_at_call 65; refine FC0.out.mono ?_; rintro e w1 ⟨v, rfl, O1, G1⟩)
  have R1 : Hid (NwR W0 (fulls nb) v w1) := Lib.hid ⟨O1, G1⟩
  have B1 : Hid (Below w.heap.size w w1) := Lib.hid (B0.out.trans (G1.mono B0.out.size))
  have X1 : Hid (w1.heap[w.heap.size]? = some (.cells #[.int .i64 kind, .int .u32 pa, .int .i64 pl, .int .u32 ad, .int .u32 area, .int .i64 cost, .int .i64 prio, .int .i64 hel, .int .i64 dead, .bool up, .int .u32 dr, .int .u32 bdr, .int .i64 el, .int .i64 nh, .slice a1 nb.length c1] 69 (0, 0))) := Lib.hid ((G1.block _ (by have := S0.out; omega)).trans X0.out)
  have Z1 : Hid (w1.heap[w.heap.size + 1]? = some (.cells #[.int .i64 0, .int .u32 0, .int .i64 0, .int .u32 0, .int .i64 0, .int .i64 0, .int .i64 0, .bool false, .bool false, .slice none 0 0, .slice none 0 0, .int .i64 0, .bool false, .int .u32 0, .int .i64 0] 42 (0, 0))) := Lib.hid ((G1.block _ S0.out).trans Z0.out)
  obtain ⟨va, vc, rfl⟩ := R1.out.sl
  clear O1 G1 FC0 HW0 y0 y1 y2 y3 y4 y5 y6 y7 y8 y9 y10 y11 y12 y13 y14
  have y0 : w1.cell? ⟨w.heap.size, 0, none⟩ = some (.int .i64 kind) := blk_cell X1.out rfl
  have y9 : w1.cell? ⟨w.heap.size, 9, none⟩ = some (.bool up) := blk_cell X1.out rfl
  have y10 : w1.cell? ⟨w.heap.size, 10, none⟩ = some (.int .u32 dr) := blk_cell X1.out rfl
  cases ok with
  | true =>
    have ok := HOK.out
    simp only [nwB, Bool.and_eq_true, decide_eq_true_eq, Bool.not_eq_true'] at ok
    obtain ⟨⟨⟨rfl, rfl⟩, rfl⟩, hne⟩ := ok
    clear HOK
    have ne : ((fulls nb).length : Int) ≠ 0 := by
      cases h : fulls nb with
      | nil => rw [h] at hne; simp at hne
      | cons a t => simp; omega
    have ne' : (((fulls nb).length : Int) == 0) = false := by simpa using ne
    clear hne
    have FS : Hid (((fulls nb ++ [dr]).mergeSort fun x y => decide (x ≤ y)) = att) := Lib.hid HAT.out
    clear HAT
    generalize fulls nb = L at *
    go_upto_region 4 with fail
    clear ne ne' y0 y9 y10
    obtain ⟨W2, hW2⟩ : ∃ W2, w1.alloc (.cells #[.int .u32 dr] 22) = W2 := ⟨_, rfl⟩
    have B2 : Below w1.heap.size w1 W2 := by rw [← hW2]; exact (Below.refl _ _).alloc (Nat.le_refl _) _
    have BK : Hid (W2.heap[w1.heap.size]? = some (.cells #[.int .u32 dr] 22 (0, 0))) := Lib.hid (by rw [← hW2]; exact alloc_new _ _)
    have HW2 := Lib.hid hW2
    have OW2 := Lib.hid (R1.out.own.below B2)
    have PU2 := Lib.hid (fun v' w4 own' hg => R1.out.push (x := dr) (v' := v') (w2 := W2) (w9 := w4) B2 own' hg)
    have BS : Hid (W0.heap.size ≤ W2.heap.size) := Lib.hid (Nat.le_trans R1.out.bel.size B2.size)
    have K1 : Hid (L.length + 1 ≤ maxLen) := Lib.hid (by have := FL.out; unfold maxLen; omega)
    have K2 : Hid ((L.length + 1) * 4 ≤ 140737488355328) := Lib.hid (by have := FL.out; omega)
    have ONE : Hid (∀ u ∈ ([.int .u32 dr] : List Value), u.oneCell' = true) := Lib.hid (by intro u hu; simp at hu; subst hu; rfl)
    clear hW2 B2
    unfold WordsOwn at OW2
    go_upto_region 5 with (at_builtin; rw [HW2.out]; refine wpList_append_one rfl (.tmp 31) (.tmp 33) 39 rfl W0.heap.size 22 ti (.int .u32 0) 1 4 Tryz.underlying39 ?g1 ?g2 ?g3 ?g4 ?g5 ?g6 (.slice va L.length vc) L.length _ ?g7 OW2.out w1.heap.size [.int .u32 dr] 22 ?g8 BK.out ?g9 ONE.out K1.out K2.out BS.out ?_; (case g1 => exact HI0.out); (case g2 => exact HZ0.out); (case g3 => exact HZ1.out); (case g4 => exact HZ2.out); (case g5 => exact rfl); (case g6 => decide); (case g7 => exact rfl); (case g8 => exact rfl); (case g9 => exact rfl); intro v' w9 own' hg4 d; have NX := Lib.hid (PU2.out v' w9 own' hg4); clear own' hg4 d)
    have SC := Lib.hid (sort_words W0.heap.size w9 v' (L ++ [dr]) NX.out.own (by have := FL.out; simp; omega))
    clear PU2 OW2 BK HW2 K1 K2 ONE BS HI0 HZ0 HZ1 HZ2
    go_upto_region 6 with (go_at_call 66; refine SC.out.mono ?_; rintro e w2 ⟨rfl, P⟩)
    have R2 := Lib.hid (NX.out.sort (e := .returned (.tuple #[])) ⟨rfl, P⟩)
    rw [FS.out] at R2
    clear P SC NX FS R1
    obtain ⟨aa, ac, rfl⟩ := R2.out.sl
    have X2 : Hid (w2.heap[w.heap.size]? = some (.cells #[.int .i64 2, .int .u32 pa, .int .i64 pl, .int .u32 ad, .int .u32 area, .int .i64 cost, .int .i64 prio, .int .i64 hel, .int .i64 dead, .bool true, .int .u32 dr, .int .u32 bdr, .int .i64 el, .int .i64 nh, .slice a1 nb.length c1] 69 (0, 0))) := Lib.hid ((R2.out.bel.block _ (by have := S0.out; omega)).trans X0.out)
    have Z2 : Hid (w2.heap[w.heap.size + 1]? = some (.cells #[.int .i64 0, .int .u32 0, .int .i64 0, .int .u32 0, .int .i64 0, .int .i64 0, .int .i64 0, .bool false, .bool false, .slice none 0 0, .slice none 0 0, .int .i64 0, .bool false, .int .u32 0, .int .i64 0] 42 (0, 0))) := Lib.hid ((R2.out.bel.block _ S0.out).trans Z0.out)
    have y2 : w2.cell? ⟨w.heap.size, 2, none⟩ = some (.int .i64 pl) := blk_cell X2.out rfl
    have y3 : w2.cell? ⟨w.heap.size, 3, none⟩ = some (.int .u32 ad) := blk_cell X2.out rfl
    go_upto_region 7 with fail
    obtain ⟨w3, hw3⟩ : ∃ w3, w2.alloc (.cells #[.int .i64 2, .int .u32 ad, .int .i64 pl, .int .u32 dr, .int .i64 0, .int .i64 0, .int .i64 0] 37) = w3 := ⟨_, rfl⟩
    rw [hw3]
    have H3 : w3.heap[w2.heap.size]? = some (.cells #[.int .i64 2, .int .u32 ad, .int .i64 pl, .int .u32 dr, .int .i64 0, .int .i64 0, .int .i64 0] 37 (0, 0)) := by rw [← hw3]; exact alloc_new _ _
    have C3 : Below w2.heap.size w2 w3 := by rw [← hw3]; exact (Below.refl _ _).alloc (Nat.le_refl _) _
    have R3 := Lib.hid (R2.out.below C3)
    have B3 : Hid (Below w.heap.size w w3) := Lib.hid (B0.out.trans (R3.out.bel.mono B0.out.size))
    have Z3 : Hid (w3.heap[w.heap.size + 1]? = some (.cells #[.int .i64 0, .int .u32 0, .int .i64 0, .int .u32 0, .int .i64 0, .int .i64 0, .int .i64 0, .bool false, .bool false, .slice none 0 0, .slice none 0 0, .int .i64 0, .bool false, .int .u32 0, .int .i64 0] 42 (0, 0))) := Lib.hid ((R3.out.bel.block _ S0.out).trans Z0.out)
    have h0 : w3.cell? ⟨w2.heap.size, 0, none⟩ = some (.int .i64 2) := blk_cell H3 rfl
    have h1 : w3.cell? ⟨w2.heap.size, 1, none⟩ = some (.int .u32 ad) := blk_cell H3 rfl
    have h2 : w3.cell? ⟨w2.heap.size, 2, none⟩ = some (.int .i64 pl) := blk_cell H3 rfl
    have h3 : w3.cell? ⟨w2.heap.size, 3, none⟩ = some (.int .u32 dr) := blk_cell H3 rfl
    have h4 : w3.cell? ⟨w2.heap.size, 4, none⟩ = some (.int .i64 0) := blk_cell H3 rfl
    have h5 : w3.cell? ⟨w2.heap.size, 5, none⟩ = some (.int .i64 0) := blk_cell H3 rfl
    have h6 : w3.cell? ⟨w2.heap.size, 6, none⟩ = some (.int .i64 0) := blk_cell H3 rfl
    have ne8 : ¬ w2.heap.size = w.heap.size + 1 := by have q1 := R2.out.bel.size; have q2 := S0.out; omega
    clear H3 C3 hw3 X2 Z2 R2 y2 y3 X1 Z1 B1
    obtain ⟨W', hW'⟩ : ∃ W', setLsa w3 (w.heap.size + 1) ⟨2, ad, pl, dr, 0, 0, 0, false, false, none, 0, 0, aa, att.length, ac, 0, false, 0, 0⟩ = W' := ⟨_, rfl⟩
    have bk' : W'.heap[w.heap.size + 1]? = some (.cells #[.int .i64 2, .int .u32 ad, .int .i64 pl, .int .u32 dr, .int .i64 0, .int .i64 0, .int .i64 0, .bool false, .bool false, .slice none 0 0, .slice aa att.length ac, .int .i64 0, .bool false, .int .u32 0, .int .i64 0] 42 (0, 0)) := by rw [← hW']; exact setLsa_blk Z3.out _
    have BW' : Below w.heap.size w W' := by rw [← hW']; exact setLsa_below B3.out (Nat.le_add_right _ _) _
    have BN : w3.grownBy W' (some (w.heap.size + 1)) := by rw [← hW']; exact setLsa_grown _ _ _
    have FIN : Hid (NwPost w true ⟨2, pa, pl, ad, area, cost, prio, hel, dead, true, dr, bdr, el, nh, a1, nb.length, c1⟩ dr att (.returned (.tuple #[.agg #[.int .i64 2, .int .u32 ad, .int .i64 pl, .int .u32 dr, .int .i64 0, .int .i64 0, .int .i64 0, .bool false, .bool false, .slice none 0 0, .slice aa att.length ac, .int .i64 0, .bool false, .int .u32 0, .int .i64 0], .bool true])) W') := Lib.hid (.inr ⟨rfl, aa, ac, rfl, (R3.out.far BN S0.out).at, BW'⟩)
    unfold setLsa at hW'
    simp only at hW'
    have HW' := Lib.hid hW'
    obtain ⟨⟨⟨z0, z1, z2, z3, z4⟩, ⟨z5, z6, z7, z8, z9⟩, ⟨z10, z11, z12, z13, z14⟩⟩, hfz⟩ := blk15 Z3.out
    have zf0 := hfz 0
    have zf1 := hfz 1
    have zf2 := hfz 2
    have zf3 := hfz 3
    have zf4 := hfz 4
    have zf5 := hfz 5
    have zf6 := hfz 6
    have zf7 := hfz 7
    have zf8 := hfz 8
    have zf9 := hfz 9
    have zf10 := hfz 10
    have zf11 := hfz 11
    have zf12 := hfz 12
    have zf13 := hfz 13
    have zf14 := hfz 14
    obtain ⟨⟨⟨g0, g1, g2, g3, g4⟩, ⟨g5, g6, g7, g8, g9⟩, ⟨g10, g11, g12, g13, g14⟩⟩, -⟩ := blk15 bk'
    have G := Lib.hid (And.intro g0 (And.intro g1 (And.intro g2 (And.intro g3 (And.intro g4 (And.intro g5 (And.intro g6 (And.intro g7 (And.intro g8 (And.intro g9 (And.intro g10 (And.intro g11 (And.intro g12 (And.intro g13 g14))))))))))))))
    clear hW' bk' BW' BN hfz g0 g1 g2 g3 g4 g5 g6 g7 g8 g9 g10 g11 g12 g13 g14
    go_wp2_with fail
    rw [HW'.out]
    obtain ⟨g0, g1, g2, g3, g4, g5, g6, g7, g8, g9, g10, g11, g12, g13, g14⟩ := G.out
    exact bodyPost_ret (v := .tuple #[.agg #[.int .i64 2, .int .u32 ad, .int .i64 pl, .int .u32 dr, .int .i64 0, .int .i64 0, .int .i64 0, .bool false, .bool false, .slice none 0 0, .slice aa att.length ac, .int .i64 0, .bool false, .int .u32 0, .int .i64 0], .bool true]) (by simp [results, Tryz.results31, go_sem, g0, g1, g2, g3, g4, g5, g6, g7, g8, g9, g10, g11, g12, g13, g14]) rfl FIN.out
  | false =>
    have ok' := HOK.out
    clear R1 X1 X0 Z0 HOK HAT
    cases up with
    | false =>
      obtain ⟨W', hW'⟩ : ∃ W', setLsa w1 (w.heap.size + 1) lsaZ = W' := ⟨_, rfl⟩
      have bk' : W'.heap[w.heap.size + 1]? = some (.cells #[.int .i64 0, .int .u32 0, .int .i64 0, .int .u32 0, .int .i64 0, .int .i64 0, .int .i64 0, .bool false, .bool false, .slice none 0 0, .slice none 0 0, .int .i64 0, .bool false, .int .u32 0, .int .i64 0] 42 (0, 0)) := by rw [← hW']; exact setLsa_blk Z1.out _
      have BW' : Below w.heap.size w W' := by rw [← hW']; exact setLsa_below B1.out (Nat.le_add_right _ _) _
      have BN : w1.grownBy W' (some (w.heap.size + 1)) := by rw [← hW']; exact setLsa_grown _ _ _
      have FIN : Hid (NwPost w false ⟨kind, pa, pl, ad, area, cost, prio, hel, dead, false, dr, bdr, el, nh, a1, nb.length, c1⟩ rt att (.returned (.tuple #[.agg #[.int .i64 0, .int .u32 0, .int .i64 0, .int .u32 0, .int .i64 0, .int .i64 0, .int .i64 0, .bool false, .bool false, .slice none 0 0, .slice none 0 0, .int .i64 0, .bool false, .int .u32 0, .int .i64 0], .bool false])) W') := Lib.hid (.inl ⟨rfl, rfl, BW'⟩)
      unfold setLsa lsaZ at hW'
      simp only at hW'
      have HW' := Lib.hid hW'
      obtain ⟨⟨⟨z0, z1, z2, z3, z4⟩, ⟨z5, z6, z7, z8, z9⟩, ⟨z10, z11, z12, z13, z14⟩⟩, hfz⟩ := blk15 Z1.out
      have zf0 := hfz 0
      have zf1 := hfz 1
      have zf2 := hfz 2
      have zf3 := hfz 3
      have zf4 := hfz 4
      have zf5 := hfz 5
      have zf6 := hfz 6
      have zf7 := hfz 7
      have zf8 := hfz 8
      have zf9 := hfz 9
      have zf10 := hfz 10
      have zf11 := hfz 11
      have zf12 := hfz 12
      have zf13 := hfz 13
      have zf14 := hfz 14
      obtain ⟨⟨⟨g0, g1, g2, g3, g4⟩, ⟨g5, g6, g7, g8, g9⟩, ⟨g10, g11, g12, g13, g14⟩⟩, -⟩ := blk15 bk'
      have G := Lib.hid (And.intro g0 (And.intro g1 (And.intro g2 (And.intro g3 (And.intro g4 (And.intro g5 (And.intro g6 (And.intro g7 (And.intro g8 (And.intro g9 (And.intro g10 (And.intro g11 (And.intro g12 (And.intro g13 g14))))))))))))))
      clear hW' bk' BW' BN hfz g0 g1 g2 g3 g4 g5 g6 g7 g8 g9 g10 g11 g12 g13 g14
      go_wp2_with fail
      rw [HW'.out]
      obtain ⟨g0, g1, g2, g3, g4, g5, g6, g7, g8, g9, g10, g11, g12, g13, g14⟩ := G.out
      exact bodyPost_ret (v := .tuple #[.agg #[.int .i64 0, .int .u32 0, .int .i64 0, .int .u32 0, .int .i64 0, .int .i64 0, .int .i64 0, .bool false, .bool false, .slice none 0 0, .slice none 0 0, .int .i64 0, .bool false, .int .u32 0, .int .i64 0], .bool false]) (by simp [results, Tryz.results31, go_sem, g0, g1, g2, g3, g4, g5, g6, g7, g8, g9, g10, g11, g12, g13, g14]) rfl FIN.out
    | true =>
    by_cases q1 : kind = 2
    · subst q1
      by_cases q2 : dr = rt
      · subst q2
        have e0 : fulls nb = [] := by
          have h := ok'
          simp only [nwB, decide_true, Bool.true_and, Bool.not_eq_false', List.isEmpty_iff] at h
          exact h
        rw [e0]
        have d0 : (([] : List Int).length : Int) = 0 := rfl
        obtain ⟨W', hW'⟩ : ∃ W', setLsa w1 (w.heap.size + 1) lsaZ = W' := ⟨_, rfl⟩
        have bk' : W'.heap[w.heap.size + 1]? = some (.cells #[.int .i64 0, .int .u32 0, .int .i64 0, .int .u32 0, .int .i64 0, .int .i64 0, .int .i64 0, .bool false, .bool false, .slice none 0 0, .slice none 0 0, .int .i64 0, .bool false, .int .u32 0, .int .i64 0] 42 (0, 0)) := by rw [← hW']; exact setLsa_blk Z1.out _
        have BW' : Below w.heap.size w W' := by rw [← hW']; exact setLsa_below B1.out (Nat.le_add_right _ _) _
        have BN : w1.grownBy W' (some (w.heap.size + 1)) := by rw [← hW']; exact setLsa_grown _ _ _
        have FIN : Hid (NwPost w false ⟨2, pa, pl, ad, area, cost, prio, hel, dead, true, dr, bdr, el, nh, a1, nb.length, c1⟩ dr att (.returned (.tuple #[.agg #[.int .i64 0, .int .u32 0, .int .i64 0, .int .u32 0, .int .i64 0, .int .i64 0, .int .i64 0, .bool false, .bool false, .slice none 0 0, .slice none 0 0, .int .i64 0, .bool false, .int .u32 0, .int .i64 0], .bool false])) W') := Lib.hid (.inl ⟨rfl, rfl, BW'⟩)
        unfold setLsa lsaZ at hW'
        simp only at hW'
        have HW' := Lib.hid hW'
        obtain ⟨⟨⟨z0, z1, z2, z3, z4⟩, ⟨z5, z6, z7, z8, z9⟩, ⟨z10, z11, z12, z13, z14⟩⟩, hfz⟩ := blk15 Z1.out
        have zf0 := hfz 0
        have zf1 := hfz 1
        have zf2 := hfz 2
        have zf3 := hfz 3
        have zf4 := hfz 4
        have zf5 := hfz 5
        have zf6 := hfz 6
        have zf7 := hfz 7
        have zf8 := hfz 8
        have zf9 := hfz 9
        have zf10 := hfz 10
        have zf11 := hfz 11
        have zf12 := hfz 12
        have zf13 := hfz 13
        have zf14 := hfz 14
        obtain ⟨⟨⟨g0, g1, g2, g3, g4⟩, ⟨g5, g6, g7, g8, g9⟩, ⟨g10, g11, g12, g13, g14⟩⟩, -⟩ := blk15 bk'
        have G := Lib.hid (And.intro g0 (And.intro g1 (And.intro g2 (And.intro g3 (And.intro g4 (And.intro g5 (And.intro g6 (And.intro g7 (And.intro g8 (And.intro g9 (And.intro g10 (And.intro g11 (And.intro g12 (And.intro g13 g14))))))))))))))
        clear hW' bk' BW' BN hfz g0 g1 g2 g3 g4 g5 g6 g7 g8 g9 g10 g11 g12 g13 g14
        go_wp2_with fail
        rw [HW'.out]
        obtain ⟨g0, g1, g2, g3, g4, g5, g6, g7, g8, g9, g10, g11, g12, g13, g14⟩ := G.out
        exact bodyPost_ret (v := .tuple #[.agg #[.int .i64 0, .int .u32 0, .int .i64 0, .int .u32 0, .int .i64 0, .int .i64 0, .int .i64 0, .bool false, .bool false, .slice none 0 0, .slice none 0 0, .int .i64 0, .bool false, .int .u32 0, .int .i64 0], .bool false]) (by simp [results, Tryz.results31, go_sem, g0, g1, g2, g3, g4, g5, g6, g7, g8, g9, g10, g11, g12, g13, g14]) rfl FIN.out
      · have q2' : (dr == rt) = false := by simpa using q2
        have q3 : ¬ dr = rt := q2
        obtain ⟨W', hW'⟩ : ∃ W', setLsa w1 (w.heap.size + 1) lsaZ = W' := ⟨_, rfl⟩
        have bk' : W'.heap[w.heap.size + 1]? = some (.cells #[.int .i64 0, .int .u32 0, .int .i64 0, .int .u32 0, .int .i64 0, .int .i64 0, .int .i64 0, .bool false, .bool false, .slice none 0 0, .slice none 0 0, .int .i64 0, .bool false, .int .u32 0, .int .i64 0] 42 (0, 0)) := by rw [← hW']; exact setLsa_blk Z1.out _
        have BW' : Below w.heap.size w W' := by rw [← hW']; exact setLsa_below B1.out (Nat.le_add_right _ _) _
        have BN : w1.grownBy W' (some (w.heap.size + 1)) := by rw [← hW']; exact setLsa_grown _ _ _
        have FIN : Hid (NwPost w false ⟨2, pa, pl, ad, area, cost, prio, hel, dead, true, dr, bdr, el, nh, a1, nb.length, c1⟩ rt att (.returned (.tuple #[.agg #[.int .i64 0, .int .u32 0, .int .i64 0, .int .u32 0, .int .i64 0, .int .i64 0, .int .i64 0, .bool false, .bool false, .slice none 0 0, .slice none 0 0, .int .i64 0, .bool false, .int .u32 0, .int .i64 0], .bool false])) W') := Lib.hid (.inl ⟨rfl, rfl, BW'⟩)
        unfold setLsa lsaZ at hW'
        simp only at hW'
        have HW' := Lib.hid hW'
        obtain ⟨⟨⟨z0, z1, z2, z3, z4⟩, ⟨z5, z6, z7, z8, z9⟩, ⟨z10, z11, z12, z13, z14⟩⟩, hfz⟩ := blk15 Z1.out
        have zf0 := hfz 0
        have zf1 := hfz 1
        have zf2 := hfz 2
        have zf3 := hfz 3
        have zf4 := hfz 4
        have zf5 := hfz 5
        have zf6 := hfz 6
        have zf7 := hfz 7
        have zf8 := hfz 8
        have zf9 := hfz 9
        have zf10 := hfz 10
        have zf11 := hfz 11
        have zf12 := hfz 12
        have zf13 := hfz 13
        have zf14 := hfz 14
        obtain ⟨⟨⟨g0, g1, g2, g3, g4⟩, ⟨g5, g6, g7, g8, g9⟩, ⟨g10, g11, g12, g13, g14⟩⟩, -⟩ := blk15 bk'
        have G := Lib.hid (And.intro g0 (And.intro g1 (And.intro g2 (And.intro g3 (And.intro g4 (And.intro g5 (And.intro g6 (And.intro g7 (And.intro g8 (And.intro g9 (And.intro g10 (And.intro g11 (And.intro g12 (And.intro g13 g14))))))))))))))
        clear hW' bk' BW' BN hfz g0 g1 g2 g3 g4 g5 g6 g7 g8 g9 g10 g11 g12 g13 g14
        go_wp2_with fail
        rw [HW'.out]
        obtain ⟨g0, g1, g2, g3, g4, g5, g6, g7, g8, g9, g10, g11, g12, g13, g14⟩ := G.out
        exact bodyPost_ret (v := .tuple #[.agg #[.int .i64 0, .int .u32 0, .int .i64 0, .int .u32 0, .int .i64 0, .int .i64 0, .int .i64 0, .bool false, .bool false, .slice none 0 0, .slice none 0 0, .int .i64 0, .bool false, .int .u32 0, .int .i64 0], .bool false]) (by simp [results, Tryz.results31, go_sem, g0, g1, g2, g3, g4, g5, g6, g7, g8, g9, g10, g11, g12, g13, g14]) rfl FIN.out
    · have q1' : (kind == 2) = false := by simpa using q1
      obtain ⟨W', hW'⟩ : ∃ W', setLsa w1 (w.heap.size + 1) lsaZ = W' := ⟨_, rfl⟩
      have bk' : W'.heap[w.heap.size + 1]? = some (.cells #[.int .i64 0, .int .u32 0, .int .i64 0, .int .u32 0, .int .i64 0, .int .i64 0, .int .i64 0, .bool false, .bool false, .slice none 0 0, .slice none 0 0, .int .i64 0, .bool false, .int .u32 0, .int .i64 0] 42 (0, 0)) := by rw [← hW']; exact setLsa_blk Z1.out _
      have BW' : Below w.heap.size w W' := by rw [← hW']; exact setLsa_below B1.out (Nat.le_add_right _ _) _
      have BN : w1.grownBy W' (some (w.heap.size + 1)) := by rw [← hW']; exact setLsa_grown _ _ _
      have FIN : Hid (NwPost w false ⟨kind, pa, pl, ad, area, cost, prio, hel, dead, true, dr, bdr, el, nh, a1, nb.length, c1⟩ rt att (.returned (.tuple #[.agg #[.int .i64 0, .int .u32 0, .int .i64 0, .int .u32 0, .int .i64 0, .int .i64 0, .int .i64 0, .bool false, .bool false, .slice none 0 0, .slice none 0 0, .int .i64 0, .bool false, .int .u32 0, .int .i64 0], .bool false])) W') := Lib.hid (.inl ⟨rfl, rfl, BW'⟩)
      unfold setLsa lsaZ at hW'
      simp only at hW'
      have HW' := Lib.hid hW'
      obtain ⟨⟨⟨z0, z1, z2, z3, z4⟩, ⟨z5, z6, z7, z8, z9⟩, ⟨z10, z11, z12, z13, z14⟩⟩, hfz⟩ := blk15 Z1.out
      have zf0 := hfz 0
      have zf1 := hfz 1
      have zf2 := hfz 2
      have zf3 := hfz 3
      have zf4 := hfz 4
      have zf5 := hfz 5
      have zf6 := hfz 6
      have zf7 := hfz 7
      have zf8 := hfz 8
      have zf9 := hfz 9
      have zf10 := hfz 10
      have zf11 := hfz 11
      have zf12 := hfz 12
      have zf13 := hfz 13
      have zf14 := hfz 14
      obtain ⟨⟨⟨g0, g1, g2, g3, g4⟩, ⟨g5, g6, g7, g8, g9⟩, ⟨g10, g11, g12, g13, g14⟩⟩, -⟩ := blk15 bk'
      have G := Lib.hid (And.intro g0 (And.intro g1 (And.intro g2 (And.intro g3 (And.intro g4 (And.intro g5 (And.intro g6 (And.intro g7 (And.intro g8 (And.intro g9 (And.intro g10 (And.intro g11 (And.intro g12 (And.intro g13 g14))))))))))))))
      clear hW' bk' BW' BN hfz g0 g1 g2 g3 g4 g5 g6 g7 g8 g9 g10 g11 g12 g13 g14
      go_wp2_with fail
      rw [HW'.out]
      obtain ⟨g0, g1, g2, g3, g4, g5, g6, g7, g8, g9, g10, g11, g12, g13, g14⟩ := G.out
      exact bodyPost_ret (v := .tuple #[.agg #[.int .i64 0, .int .u32 0, .int .i64 0, .int .u32 0, .int .i64 0, .int .i64 0, .int .i64 0, .bool false, .bool false, .slice none 0 0, .slice none 0 0, .int .i64 0, .bool false, .int .u32 0, .int .i64 0], .bool false]) (by simp [results, Tryz.results31, go_sem, g0, g1, g2, g3, g4, g5, g6, g7, g8, g9, g10, g11, g12, g13, g14]) rfl FIN.out

end Go.Proofs.YtddageahmgaigaaGreat
