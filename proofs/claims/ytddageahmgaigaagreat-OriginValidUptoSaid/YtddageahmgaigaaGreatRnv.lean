import Derived.Test.YtddageahmgaigaaGreatNwk
import Derived.Test.YtddageahmgaigaaGreatC26
namespace Go.Proofs.YtddageahmgaigaaGreat
open Go.RowKit

def attK (rt : Int) (L : List Int) : List Int := if (L.any fun r => decide (rt < r)) then (L.filter fun r => decide (r < rt)) ++ rt :: (L.filter fun r => decide (rt < r)) else L
theorem any_snoc (rt x : Int) (L : List Int) : ((L ++ [x]).any fun r => decide (rt < r)) = ((L.any fun r => decide (rt < r)) || decide (rt < x)) := by simp
theorem filter_all {p : Int → Bool} {L : List Int} (h : ∀ r ∈ L, p r = true) : L.filter p = L := List.filter_eq_self.2 h
theorem filter_no {p : Int → Bool} {L : List Int} (h : ∀ r ∈ L, p r = false) : L.filter p = [] := List.filter_eq_nil_iff.2 (fun r hr => by rw [h r hr]; decide)
theorem not_any {rt : Int} {L : List Int} (h : (L.any fun r => decide (rt < r)) = false) (no : ∀ r ∈ L, r ≠ rt) : ∀ r ∈ L, r < rt := by
  intro r hr
  have h1 := List.any_eq_false.1 h r hr
  have h2 := no r hr
  simp at h1
  omega
theorem attK_snoc {rt x : Int} {L : List Int} (ha : (L ++ [x]).Pairwise (· < ·)) (no : ∀ r ∈ L ++ [x], r ≠ rt) :
    attK rt (L ++ [x]) = if (L.any fun r => decide (rt < r)) = false ∧ rt < x then attK rt L ++ [rt] ++ [x] else attK rt L ++ [x] := by
  have hlt : ∀ r ∈ L, r < x := fun r hr => (List.pairwise_append.1 ha).2.2 r hr x (by simp)
  have nx := no x (by simp)
  unfold attK
  rw [any_snoc]
  cases hd : L.any fun r => decide (rt < r) with
  | true =>
    obtain ⟨r, hr, h1⟩ := List.any_eq_true.1 hd
    have h2 := hlt r hr
    have h3 : rt < x := by simp at h1; omega
    simp [List.filter_append, h3, show ¬ x < rt by omega]
  | false =>
    have all := not_any hd (fun r hr => no r (by simp [hr]))
    by_cases c : rt < x
    · have e1 : (L.filter fun r => decide (r < rt)) = L := filter_all (fun r hr => by simpa using all r hr)
      have e2 : (L.filter fun r => decide (rt < r)) = [] := filter_no (fun r hr => by have := all r hr; simp; omega)
      simp [List.filter_append, c, show ¬ x < rt by omega, e1, e2]
    · simp [c]
theorem attK_nil (rt : Int) (L : List Int) : attK rt L = [] ↔ L = [] := by
  unfold attK
  cases hd : L.any fun r => decide (rt < r) with
  | true =>
    obtain ⟨r, hr, _⟩ := List.any_eq_true.1 hd
    constructor
    · intro h; simp at h
    · rintro rfl; cases hr
  | false => simp
theorem attK_len (rt : Int) (L : List Int) : (attK rt L).length ≤ L.length + 1 := by
  unfold attK
  split
  · have h : ∀ L : List Int, (L.filter fun r => decide (r < rt)).length + (L.filter fun r => decide (rt < r)).length ≤ L.length := by
      intro L
      induction L with
      | nil => simp
      | cons x t ih =>
        by_cases c : x < rt
        · simp [c, show ¬ rt < x by omega]; omega
        · by_cases c2 : rt < x
          · simp [c, c2]; omega
          · simp [c, c2]; omega
    have := h L
    simp; omega
  · omega
theorem sort_unique {l l' : List Int} (hp : l'.Perm l) (hs : l'.Pairwise (· ≤ ·)) : l' = l.mergeSort fun x y => decide (x ≤ y) := by
  have h1 : (l.mergeSort fun x y => decide (x ≤ y)).Perm l := List.mergeSort_perm l _
  have h2 : (l.mergeSort fun x y => decide (x ≤ y)).Pairwise (fun a b => decide (a ≤ b) = true) := List.pairwise_mergeSort (fun a b c h1 h2 => by simp at *; omega) (fun a b => by simp; omega) l
  exact (hp.trans h1.symm).eq_of_pairwise (le := fun a b : Int => a ≤ b) (fun a b _ _ h1 h2 => Int.le_antisymm h1 h2) hs (h2.imp fun h => by simpa using h)
theorem perm_split (rt : Int) : ∀ L : List Int, (∀ r ∈ L, r ≠ rt) → ((L.filter fun r => decide (r < rt)) ++ (L.filter fun r => decide (rt < r))).Perm L := by
  intro L
  induction L with
  | nil => intro _; exact List.Perm.refl _
  | cons x t ih =>
    intro no
    have ih' := ih (fun r hr => no r (List.mem_cons_of_mem _ hr))
    have nx := no x (by simp)
    by_cases c : x < rt
    · simp only [List.filter_cons, c, decide_true, if_true, show ¬ rt < x by omega, decide_false, Bool.false_eq_true, if_false, List.cons_append]
      exact ih'.cons x
    · have c2 : rt < x := by omega
      simp only [List.filter_cons, c, decide_false, Bool.false_eq_true, if_false, c2, decide_true, if_true]
      exact List.perm_middle.trans (ih'.cons x)
theorem attK_sort {rt : Int} {L : List Int} (ha : L.Pairwise (· < ·)) (no : ∀ r ∈ L, r ≠ rt) : (if (L.any fun r => decide (rt < r)) then attK rt L else attK rt L ++ [rt]) = (L ++ [rt]).mergeSort fun x y => decide (x ≤ y) := by
  unfold attK
  cases hd : L.any fun r => decide (rt < r) with
  | true =>
    simp only [if_true]
    refine sort_unique ?_ ?_
    · refine List.perm_middle.trans ?_
      refine ((perm_split rt L no).cons rt).trans ?_
      exact (List.perm_append_singleton rt L).symm
    · refine List.pairwise_append.2 ⟨(ha.filter _).imp fun h => Int.le_of_lt h, ?_, ?_⟩
      · refine List.pairwise_cons.2 ⟨fun r hr => ?_, (ha.filter _).imp fun h => Int.le_of_lt h⟩
        have := (List.mem_filter.1 hr).2
        simp at this; omega
      · intro a ha b hb
        have h1 := (List.mem_filter.1 ha).2
        simp at h1
        rcases List.mem_cons.1 hb with rfl | hb
        · omega
        · have h2 := (List.mem_filter.1 hb).2
          simp at h2; omega
  | false =>
    simp only [Bool.false_eq_true, if_false]
    have all := not_any hd no
    refine sort_unique (List.Perm.refl _) (List.pairwise_append.2 ⟨ha.imp fun h => Int.le_of_lt h, by simp, fun a ha b hb => ?_⟩)
    have := all a ha
    simp at hb
    omega

theorem fulls_asc {nb : List Nb} (h : NbOrd nb) : (fulls nb).Pairwise (· < ·) := by
  unfold fulls
  exact List.pairwise_map.2 (h.2.filter _)
theorem fulls_of {nb : List Nb} {r : Int} (h : r ∈ fulls nb) : ∃ n ∈ nb, n.r = r := by
  unfold fulls at h
  obtain ⟨n, hn, rfl⟩ := List.mem_map.1 h
  exact ⟨n, (List.mem_filter.1 hn).1, rfl⟩
theorem fulls_skip {nb : List Nb} {k : Nat} (c : k < nb.length) (h : nb[k].st ≠ 6) : fulls (nb.take (k + 1)) = fulls (nb.take k) := by
  unfold fulls
  rw [List.take_succ_eq_append_getElem c, List.filter_append, List.filter_cons_of_neg (by simp [h]), List.filter_nil, List.append_nil]
theorem fulls_take {nb : List Nb} {k : Nat} (c : k < nb.length) (h : nb[k].st = 6) : fulls (nb.take (k + 1)) = fulls (nb.take k) ++ [nb[k].r] := by
  unfold fulls
  rw [List.take_succ_eq_append_getElem c, List.filter_append, List.filter_cons_of_pos (by simp [h]), List.filter_nil, List.map_append]; rfl

theorem words_sl {w : World} {base : Nat} {v : Value} {n : Nat} {xs : List Value} (h : w.ownsRow base 22 1 v n xs) : ∃ a c, v = .slice a n c := by
  rcases own_cases h with ⟨rfl, h0⟩ | ⟨g, cap, cur, rfl, _⟩
  · exact ⟨none, 0, by rw [h0]⟩
  · exact ⟨_, _, rfl⟩
structure RnR (WL : World) (lb : Nat) (x : Ifc) (rt : Int) (att : List Int) (a : Option Addr) (c : Nat) (wr : World) : Prop where
  own : WordsOwn WL.heap.size wr (.slice a att.length c) att
  gb : WL.grownBy wr (some lb)
  blk : wr.heap[lb]? = some (.cells (lsaE (nwL x rt a att.length c)).toArray 42 (0, 0))
  lt : lb < WL.heap.size
theorem RnR.below {WL wr w2 : World} {lb : Nat} {x : Ifc} {rt : Int} {att : List Int} {a : Option Addr} {c : Nat} (R : RnR WL lb x rt att a c wr) (hb : Below wr.heap.size wr w2) : RnR WL lb x rt att a c w2 :=
  ⟨R.own.below hb, grown_below R.gb hb, (hb.block _ (blk_lt R.blk)).trans R.blk, R.lt⟩
theorem RnR.cell {WL wr w2 w9 : World} {lb : Nat} {x : Ifc} {rt : Int} {att : List Int} {a : Option Addr} {c : Nat} (R : RnR WL lb x rt att a c wr) (hb : Below wr.heap.size wr w2) (hg : w2.grownBy w9 (Value.slice a att.length c).ownBlock) :
    w9.cell? ⟨lb, 10, none⟩ = some (.slice a att.length c) ∧ w9.frozen? ⟨lb, 10, none⟩ = false := by
  have R2 := R.below hb
  have h : w9.heap[lb]? = some (.cells (lsaE (nwL x rt a att.length c)).toArray 42 (0, 0)) := (hg.block _ (blk_lt R2.blk) (fun e => by have := (World.ownsRow.lt R2.own _ e.symm).1; have := R.lt; omega)).trans R2.blk
  exact ⟨blk_cell h rfl, blk_free h _⟩
theorem RnR.push {WL wr w2 w9 : World} {lb : Nat} {x : Ifc} {rt : Int} {att : List Int} {a a' : Option Addr} {c c' : Nat} {y : Int} (R : RnR WL lb x rt att a c wr) (hb : Below wr.heap.size wr w2)
    (own' : w9.ownsRow WL.heap.size 22 1 (.slice a' (att.length + 1) c') (att.length + 1) ((att.map u32E).flatten ++ [.int .u32 y])) (hg : w2.grownBy w9 (Value.slice a att.length c).ownBlock) :
    RnR WL lb x rt (att ++ [y]) a' c' (w9.setCell ⟨lb, 10, none⟩ (.slice a' (att.length + 1) c')) := by
  have R2 := R.below hb
  have h : w9.heap[lb]? = some (.cells (lsaE (nwL x rt a att.length c)).toArray 42 (0, 0)) := (hg.block _ (blk_lt R2.blk) (fun e => by have := (World.ownsRow.lt R2.own _ e.symm).1; have := R.lt; omega)).trans R2.blk
  have G := grown_set w9 lb 10 (.slice a' (att.length + 1) c')
  have g9 : WL.grownBy w9 (some lb) := R2.gb.andThen hg (fun j hj => .inl (World.ownsRow.lt R2.own j hj).1)
  refine ⟨?_, grown_grown g9 G, ?_, R.lt⟩
  · have : WordsOwn WL.heap.size w9 (.slice a' (att ++ [y]).length c') (att ++ [y]) := by
      unfold WordsOwn
      rw [List.length_append, List.map_append, List.flatten_append]
      simpa [u32E] using own'
    have e := World.ownsRow.kept (row := some lb) this G (.inr (fun h => by have := (World.ownsRow.lt own' _ (by simpa using h)).1; have := R.lt; omega))
    exact e
  · have h1 := blk_set h 10 (.slice a' (att.length + 1) c')
    rw [List.length_append]
    exact h1

theorem nb_keep {wr w2 w9 : World} {lb : Nat} {o : Option Nat} (hb : Below wr.heap.size wr w2) (hg : w2.grownBy w9 o) (v : Value)
    (b : Nat) (h2 : b < wr.heap.size) (h3 : ∀ j, o = some j → j ≠ b) (h4 : b ≠ lb) : (w9.setCell ⟨lb, 10, none⟩ v).heap[b]? = wr.heap[b]? := by
  have e1 := (grown_set w9 lb 10 v).block b (Nat.lt_of_lt_of_le (Nat.lt_of_lt_of_le h2 hb.size) hg.size) (fun e => h4 (by simpa using e))
  have e2 := hg.block b (Nat.lt_of_lt_of_le h2 hb.size) (fun e => h3 _ e.symm rfl)
  exact e1.trans (e2.trans (hb.block b h2))
theorem RnR.ob {WL wr : World} {lb : Nat} {x : Ifc} {rt : Int} {att : List Int} {a : Option Addr} {c : Nat} (R : RnR WL lb x rt att a c wr) : ∀ j, (Value.slice a att.length c).ownBlock = some j → j < wr.heap.size := fun j h => (World.ownsRow.lt R.own j h).2
theorem RnR.old {WL wr : World} {lb : Nat} {x : Ifc} {rt : Int} {att : List Int} {a : Option Addr} {c : Nat} (R : RnR WL lb x rt att a c wr) {b : Nat} (hb : b < WL.heap.size) (hne : b ≠ lb) : wr.heap[b]? = WL.heap[b]? := R.gb.block b hb (fun e => hne (by simpa using e))

noncomputable def rnBody : Code := ((Tryz.f32.body.map outLoopsU).getD []).getD 0 .skip

set_option maxHeartbeats 16000000 in
set_option maxRecDepth 100000 in
theorem rn_loop (Q : Exit → Act → World → Prop) (w WL : World) (pa pl ad area cost prio hel dead dr bdr el nh : Int) (a1 : Option Addr) (c1 : Nat) (nb : List Nb) (hSL : WL.heap.size = w.heap.size + 3) (hBWL : Below w.heap.size w WL)
    (hX : WL.heap[w.heap.size]? = some (.cells #[.int .i64 2, .int .u32 pa, .int .i64 pl, .int .u32 ad, .int .u32 area, .int .i64 cost, .int .i64 prio, .int .i64 hel, .int .i64 dead, .bool true, .int .u32 dr, .int .u32 bdr, .int .i64 el, .int .i64 nh, .slice a1 nb.length c1] 69 (0, 0))) (hc1 : 0 < nb.length → ∃ b off, a1 = some ⟨b, off, none⟩ ∧ b < w.heap.size ∧ ∀ i (h : i < nb.length), NbC w b (off + i * 15) nb[i]) (hlen : nb.length ≤ 9223372036854775807) (hl : nb.length ≤ 1048576)
    (hAS : ∀ k, (fulls (nb.take k)).Pairwise (· < ·) ∧ ∀ r ∈ fulls (nb.take k), r ≠ dr) (R00 : RnR WL (w.heap.size + 2) ⟨2, pa, pl, ad, area, cost, prio, hel, dead, true, dr, bdr, el, nh, a1, nb.length, c1⟩ dr (attK dr (fulls (nb.take 0))) none 0 WL) (u0 u3 u4 u5 u9 u10 u11 u12 u13 u14 u15 u16 u17 u18 u19 u20 u21 u22 u23 u24 u25 u26 u27 u28 u29 u30 u31 u32 u33 u34 u35 u36 u37 u38 u39 u40 u41 u42 u43 u44 u45 u46 u47 u48 u49 u50 u51 u52 u53 u54 u55 u56 u57 u58 u59 u60 u61 u62 u63 u64 u65 u66 u67 u68 u69 u70 u71 u72 u73 u74 u75 u76 u77 u78 u79 u80 u81 u82 u83 u84 u85 : Value)
    (HQ0 : ∀ (v9 v36 v37 v38 v39 v40 v41 v42 v43 v44 v45 v46 v47 v48 v49 v50 v51 v52 v53 v54 v55 v56 v57 v58 v59 v60 v61 v62 v63 v64 v65 v66 v67 v68 v69 v70 v71 : Value) (aa : Option Addr) (ac : Nat) (w' : World), RnR WL (w.heap.size + 2) ⟨2, pa, pl, ad, area, cost, prio, hel, dead, true, dr, bdr, el, nh, a1, nb.length, c1⟩ dr (attK dr (fulls nb)) aa ac w' → Q (.exit 0) ⟨#[u0, .int .u32 dr, .pointer (some ⟨w.heap.size, 0, none⟩), u3, u4, u5, .pointer (some ⟨w.heap.size + 2, 0, none⟩), .bool ((fulls nb).any fun r => decide (dr < r)), .int .i64 (nb.length : Int), v9, u10, u11, u12, u13, u14, u15, u16, u17, u18, u19, u20, u21, u22, u23, u24, u25, u26, u27, u28, u29, u30, u31, u32, u33, u34, u35, v36, v37, v38, v39, v40, v41, v42, v43, v44, v45, v46, v47, v48, v49, v50, v51, v52, v53, v54, v55, v56, v57, v58, v59, v60, v61, v62, v63, v64, v65, v66, v67, v68, v69, v70, v71, u72, u73, u74, u75, u76, u77, u78, u79, u80, u81, u82, u83, u84, u85], []⟩ w') :
    Code.wp Tryz.prog (.loop rnBody) Q ⟨#[u0, .int .u32 dr, .pointer (some ⟨w.heap.size, 0, none⟩), u3, u4, u5, .pointer (some ⟨w.heap.size + 2, 0, none⟩), .bool false, .int .i64 (0 : Int), u9, u10, u11, u12, u13, u14, u15, u16, u17, u18, u19, u20, u21, u22, u23, u24, u25, u26, u27, u28, u29, u30, u31, u32, u33, u34, u35, u36, u37, u38, u39, u40, u41, u42, u43, u44, u45, u46, u47, u48, u49, u50, u51, u52, u53, u54, u55, u56, u57, u58, u59, u60, u61, u62, u63, u64, u65, u66, u67, u68, u69, u70, u71, u72, u73, u74, u75, u76, u77, u78, u79, u80, u81, u82, u83, u84, u85], []⟩ WL := by
  conv => enter [2, 1]; whnf
  have HQ := Lib.hid HQ0
  have SL := Lib.hid hSL
  have BWL := Lib.hid hBWL
  have X0L := Lib.hid hX
  have HC1 := Lib.hid hc1
  have NL := Lib.hid hl
  have AS := Lib.hid hAS
  have R0 := Lib.hid R00
  clear HQ0 hSL hBWL hX hc1 hl hAS R00
  have mixed : Tryz.prog.follows .mixedOrders = true := by kernel_rfl
  obtain ⟨ti, HI0, HZ0, HZ1, HZ2⟩ : ∃ i, Hid (Tryz.prog.info? 22 = some i) ∧ Hid (i.zero = some (.int .u32 0)) ∧ Hid (i.size = 1) ∧ Hid (i.bytes = 4) := by
    have h := Tryz.infoU32
    cases e : Tryz.prog.info? 22 with
    | none => rw [e] at h; simp at h
    | some i => rw [e] at h; simp only [Option.map_some, Option.some.injEq, Prod.mk.injEq] at h; exact ⟨i, Lib.hid rfl, Lib.hid h.1, Lib.hid h.2.1, Lib.hid h.2.2⟩
  dsimp only
  go_loopw [7, 8] (fun vd vi wr => ∃ (k : Nat) (aa : Option Addr) (ac : Nat), vi = .int .i64 k ∧ vd = .bool ((fulls (nb.take k)).any fun r => decide (dr < r)) ∧ k ≤ nb.length ∧ Hid (RnR WL (w.heap.size + 2) ⟨2, pa, pl, ad, area, cost, prio, hel, dead, true, dr, bdr, el, nh, a1, nb.length, c1⟩ dr (attK dr (fulls (nb.take k))) aa ac wr)) (fun _ ix _ => nb.length - (intOf ix).toNat)
  case atStart => exact ⟨0, none, 0, rfl, rfl, Nat.zero_le _, R0⟩
  case round =>
    clear R0
    obtain ⟨k, aa, ac, rfl, rfl, hk, R⟩ := hrel
    have y14 : wr.cell? ⟨w.heap.size, 14, none⟩ = some (.slice a1 nb.length c1) := blk_cell ((R.out.old (by have := SL.out; omega) (by omega)).trans X0L.out) rfl
    have BE : Hid (Below w.heap.size w wr) := Lib.hid (BWL.out.grown R.out.gb BWL.out.size (fun j hj => by cases hj; omega))
    by_cases c : k < nb.length
    · obtain ⟨b1, o1, rfl, hb1, hcc1⟩ := HC1.out (by omega)
      obtain ⟨⟨d0, d1, d2, d3, d4⟩, ⟨d5, d6, d7, d8, d9⟩, ⟨d10, d11, d12, d13, d14⟩⟩ := (hcc1 k c).below BE.out hb1
      have KC := Lib.hid c
      have i0 : (0 : Int) ≤ (k : Int) := by omega
      have i1 : (k : Int) < (nb.length : Int) := by omega
      have s3 : ((k : Int)).toNat = k := by omega
      have SKIP := Lib.hid (fun h => fulls_skip (nb := nb) c h)
      have TAKE := Lib.hid (fun h => fulls_take (nb := nb) c h)
      have ASK := Lib.hid (AS.out (k + 1))
      have KL : Hid ((attK dr (fulls (nb.take k))).length ≤ 1048577) := Lib.hid (by have h1 := attK_len dr (fulls (nb.take k)); have h2 := fulls_len (nb.take k); rw [List.length_take] at h2; have := NL.out; omega)
      clear hcc1
      generalize nb[k] = n at *
      generalize hL1 : fulls (nb.take (k + 1)) = L1 at *
      generalize hL : fulls (nb.take k) = L at *
      have HL1 := Lib.hid hL1
      clear hL1 hL
      clear c
      obtain ⟨nr, na, nprio, ndr, nbdr, nst, ntil, nmas, nseq, ⟨v9a, v9n, v9c⟩, ⟨vAa, vAn, vAc⟩, nmore, ⟨vCa, vCn, vCc⟩, ⟨vDa, vDn, vDc⟩, nres⟩ := n
      simp only at d0 d1 d2 d3 d4 d5 d6 d7 d8 d9 d10 d11 d12 d13 d14 SKIP TAKE
      go_upto_region 9 with fail
      generalize hW1 : wr.alloc _ = W1
      have B1 : Below wr.heap.size wr W1 := by rw [← hW1]; exact (Below.refl _ _).alloc (Nat.le_refl _) _
      have b1 : W1.heap[wr.heap.size]? = some (.cells #[.int .u32 nr, .int .u32 na, .int .i64 nprio, .int .u32 ndr, .int .u32 nbdr, .int .i64 nst, .int .i64 ntil, .bool nmas, .int .i64 nseq, .slice v9a v9n v9c, .slice vAa vAn vAc, .bool nmore, .slice vCa vCn vCc, .slice vDa vDn vDc, .int .i64 nres] 72 (0, 0)) := by rw [← hW1]; exact alloc_new _ _
      have s1 : W1.heap.size = wr.heap.size + 1 := by rw [← hW1]; simp
      have x0 : W1.cell? ⟨wr.heap.size, 0, none⟩ = some (.int .u32 nr) := blk_cell b1 rfl
      have x5 : W1.cell? ⟨wr.heap.size, 5, none⟩ = some (.int .i64 nst) := blk_cell b1 rfl
      have HB := Lib.hid b1
      have HS1 := Lib.hid s1
      have R1 := Lib.hid (R.out.below B1)
      have OB := Lib.hid R.out.ob
      have LBK : Hid (w.heap.size + 2 < wr.heap.size) := Lib.hid (by have := R.out.gb.size; have := SL.out; omega)
      clear hW1 B1 b1 s1 R d0 d1 d2 d3 d4 d5 d6 d7 d8 d9 d10 d11 d12 d13 d14 y14
      by_cases q : nst = 6
      · subst q
        have T := TAKE.out rfl
        subst T
        have EQ := attK_snoc ASK.out.1 ASK.out.2
        have ANY := any_snoc dr nr L
        clear SKIP TAKE ASK
        generalize hd : (L.any fun r => decide (dr < r)) = d at *
        have HQ := Lib.hid EQ
        have HANY := Lib.hid ANY
        clear EQ ANY hd
        generalize hatt : attK dr L = att at *
        clear hatt
        by_cases pu : d = false ∧ dr < nr
        · obtain ⟨rfl, pl2⟩ := pu
          have EQ := HQ.out
          rw [if_pos ⟨rfl, pl2⟩] at EQ
          have HEQ := Lib.hid EQ
          have AN : Hid (((L ++ [nr]).any fun r => decide (dr < r)) = true) := Lib.hid (by rw [HANY.out]; simp [pl2])
          have dlt : decide (dr < nr) = true := decide_eq_true pl2
          clear EQ HQ HANY pl2
          go_upto_region 11 with fail
          obtain ⟨W2, hW2⟩ : ∃ W2, W1.alloc (.cells #[.int .u32 dr] 22) = W2 := ⟨_, rfl⟩
          have B2 : Below W1.heap.size W1 W2 := by rw [← hW2]; exact (Below.refl _ _).alloc (Nat.le_refl _) _
          have BK : Hid (W2.heap[W1.heap.size]? = some (.cells #[.int .u32 dr] 22 (0, 0))) := Lib.hid (by rw [← hW2]; exact alloc_new _ _)
          have HWN := Lib.hid hW2
          have OW2 := Lib.hid (R1.out.own.below B2)
          have PU2 := Lib.hid (fun a' c' w4 own' hg => R1.out.push (y := dr) (a' := a') (c' := c') (w2 := W2) (w9 := w4) B2 own' hg)
          have PZ2 := Lib.hid (fun w4 hg => R1.out.cell (w2 := W2) (w9 := w4) B2 hg)
          have PN2 := Lib.hid (fun v w4 hg => (nb_keep (lb := w.heap.size + 2) (w2 := W2) (w9 := w4) B2 hg v wr.heap.size (by have := HS1.out; omega) (fun j h => by have := OB.out j h; omega) (by have := LBK.out; omega)).trans HB.out)
          have BS : Hid (WL.heap.size ≤ W2.heap.size) := Lib.hid (Nat.le_trans R1.out.gb.size B2.size)
          have K1 : Hid ((att).length + 1 ≤ maxLen) := Lib.hid (by have := KL.out; (try simp only [List.length_append, List.length_singleton]); unfold maxLen; omega)
          have K2 : Hid (((att).length + 1) * 4 ≤ 140737488355328) := Lib.hid (by have := KL.out; (try simp only [List.length_append, List.length_singleton]); omega)
          have ONE : Hid (∀ u ∈ ([.int .u32 dr] : List Value), u.oneCell' = true) := Lib.hid (by intro u hu; simp at hu; subst hu; rfl)
          have y10 : W1.cell? ⟨w.heap.size + 2, 10, none⟩ = some (.slice aa (att).length ac) := blk_cell R1.out.blk rfl
          clear hW2 B2
          unfold WordsOwn at OW2
          go_upto_region 12 with (at_builtin; rw [HWN.out]; refine wpList_append_one rfl (.tmp 60) (.tmp 62) 39 rfl WL.heap.size 22 ti (.int .u32 0) 1 4 Tryz.underlying39 ?g1 ?g2 ?g3 ?g4 ?g5 ?g6 (.slice aa (att).length ac) (att).length _ ?g7 OW2.out W1.heap.size [.int .u32 dr] 22 ?g8 BK.out ?g9 ONE.out K1.out K2.out BS.out ?_; (case g1 => exact HI0.out); (case g2 => exact HZ0.out); (case g3 => exact HZ1.out); (case g4 => exact HZ2.out); (case g5 => exact rfl); (case g6 => decide); (case g7 => exact rfl); (case g8 => exact rfl); (case g9 => exact rfl); intro v' w9 own' hg4 d; obtain ⟨a', c', rfl⟩ := words_sl own'; have R2 := Lib.hid (PU2.out a' c' w9 own' hg4); have z10 := (PZ2.out w9 hg4).1; have z10f := (PZ2.out w9 hg4).2; have NB9 := Lib.hid (PN2.out (.slice a' ((att).length + 1) c') w9 hg4); clear own' hg4 d y10)
          clear OW2 PU2 PZ2 PN2 BS K1 K2 ONE BK HWN
          generalize w9.setCell ⟨w.heap.size + 2, 10, none⟩ (.slice a' (att.length + 1) c') = w10 at *
          have R3 := Lib.hid R2.out
          have x1 : w10.cell? ⟨wr.heap.size, 0, none⟩ = some (.int .u32 nr) := blk_cell NB9.out rfl
          have KL2 : Hid ((att ++ [dr]).length ≤ 1048578) := Lib.hid (by have := KL.out; simp only [List.length_append, List.length_singleton]; omega)
          clear R2 NB9 z10 z10f x0 x5 R1 HB HS1 OB LBK KL
          generalize a' = aa2 at *
          generalize c' = ac2 at *
          generalize att ++ [dr] = att2 at *
          go_upto_region 13 with fail
          obtain ⟨W3, hW3⟩ : ∃ W2, w10.alloc (.cells #[.int .u32 nr] 22) = W2 := ⟨_, rfl⟩
          have B2 : Below w10.heap.size w10 W3 := by rw [← hW3]; exact (Below.refl _ _).alloc (Nat.le_refl _) _
          have BK : Hid (W3.heap[w10.heap.size]? = some (.cells #[.int .u32 nr] 22 (0, 0))) := Lib.hid (by rw [← hW3]; exact alloc_new _ _)
          have HWN := Lib.hid hW3
          have OW2 := Lib.hid (R3.out.own.below B2)
          have PU2 := Lib.hid (fun a' c' w4 own' hg => R3.out.push (y := nr) (a' := a') (c' := c') (w2 := W3) (w9 := w4) B2 own' hg)
          have PZ2 := Lib.hid (fun w4 hg => R3.out.cell (w2 := W3) (w9 := w4) B2 hg)
          skip
          have BS : Hid (WL.heap.size ≤ W3.heap.size) := Lib.hid (Nat.le_trans R3.out.gb.size B2.size)
          have K1 : Hid ((att2).length + 1 ≤ maxLen) := Lib.hid (by have := KL2.out; (try simp only [List.length_append, List.length_singleton]); unfold maxLen; omega)
          have K2 : Hid (((att2).length + 1) * 4 ≤ 140737488355328) := Lib.hid (by have := KL2.out; (try simp only [List.length_append, List.length_singleton]); omega)
          have ONE : Hid (∀ u ∈ ([.int .u32 nr] : List Value), u.oneCell' = true) := Lib.hid (by intro u hu; simp at hu; subst hu; rfl)
          have y10 : w10.cell? ⟨w.heap.size + 2, 10, none⟩ = some (.slice aa2 (att2).length ac2) := blk_cell R3.out.blk rfl
          clear hW3 B2
          unfold WordsOwn at OW2
          go_wp2_with (at_builtin; rw [HWN.out]; refine wpList_append_one rfl (.tmp 66) (.tmp 69) 39 rfl WL.heap.size 22 ti (.int .u32 0) 1 4 Tryz.underlying39 ?g1 ?g2 ?g3 ?g4 ?g5 ?g6 (.slice aa2 (att2).length ac2) (att2).length _ ?g7 OW2.out w10.heap.size [.int .u32 nr] 22 ?g8 BK.out ?g9 ONE.out K1.out K2.out BS.out ?_; (case g1 => exact HI0.out); (case g2 => exact HZ0.out); (case g3 => exact HZ1.out); (case g4 => exact HZ2.out); (case g5 => exact rfl); (case g6 => decide); (case g7 => exact rfl); (case g8 => exact rfl); (case g9 => exact rfl); intro v' w9 own' hg4 d; obtain ⟨a', c', rfl⟩ := words_sl own'; have RF := Lib.hid (PU2.out a' c' w9 own' hg4); have z10 := (PZ2.out w9 hg4).1; have z10f := (PZ2.out w9 hg4).2; clear own' hg4 d y10)
          clear OW2 PU2 PZ2 BS K1 K2 ONE BK HWN
          go_roundw
          case rel => exact ⟨k + 1, a', c', by go_num, by rw [HL1.out, AN.out], KC.out, Lib.hid (by rw [HL1.out, HEQ.out]; exact RF.out)⟩
          case measure => simp [intOf]; have := KC.out; omega
        · have AN : Hid (((L ++ [nr]).any fun r => decide (dr < r)) = d) := Lib.hid (by
            rw [HANY.out]
            cases d with
            | true => rfl
            | false =>
              have : ¬ dr < nr := fun h => pu ⟨rfl, h⟩
              simp [this])
          have EQ := HQ.out
          rw [if_neg pu] at EQ
          have HEQ := Lib.hid EQ
          clear EQ HQ HANY HB HS1 OB LBK
          cases d with
          | true =>
            clear pu
            go_upto_region 13 with fail
            obtain ⟨W2, hW2⟩ : ∃ W2, W1.alloc (.cells #[.int .u32 nr] 22) = W2 := ⟨_, rfl⟩
            have B2 : Below W1.heap.size W1 W2 := by rw [← hW2]; exact (Below.refl _ _).alloc (Nat.le_refl _) _
            have BK : Hid (W2.heap[W1.heap.size]? = some (.cells #[.int .u32 nr] 22 (0, 0))) := Lib.hid (by rw [← hW2]; exact alloc_new _ _)
            have HWN := Lib.hid hW2
            have OW2 := Lib.hid (R1.out.own.below B2)
            have PU2 := Lib.hid (fun a' c' w4 own' hg => R1.out.push (y := nr) (a' := a') (c' := c') (w2 := W2) (w9 := w4) B2 own' hg)
            have PZ2 := Lib.hid (fun w4 hg => R1.out.cell (w2 := W2) (w9 := w4) B2 hg)
            skip
            have BS : Hid (WL.heap.size ≤ W2.heap.size) := Lib.hid (Nat.le_trans R1.out.gb.size B2.size)
            have K1 : Hid ((att).length + 1 ≤ maxLen) := Lib.hid (by have := KL.out; (try simp only [List.length_append, List.length_singleton]); unfold maxLen; omega)
            have K2 : Hid (((att).length + 1) * 4 ≤ 140737488355328) := Lib.hid (by have := KL.out; (try simp only [List.length_append, List.length_singleton]); omega)
            have ONE : Hid (∀ u ∈ ([.int .u32 nr] : List Value), u.oneCell' = true) := Lib.hid (by intro u hu; simp at hu; subst hu; rfl)
            have y10 : W1.cell? ⟨w.heap.size + 2, 10, none⟩ = some (.slice aa (att).length ac) := blk_cell R1.out.blk rfl
            clear hW2 B2
            unfold WordsOwn at OW2
            go_wp2_with (at_builtin; rw [HWN.out]; refine wpList_append_one rfl (.tmp 66) (.tmp 69) 39 rfl WL.heap.size 22 ti (.int .u32 0) 1 4 Tryz.underlying39 ?g1 ?g2 ?g3 ?g4 ?g5 ?g6 (.slice aa (att).length ac) (att).length _ ?g7 OW2.out W1.heap.size [.int .u32 nr] 22 ?g8 BK.out ?g9 ONE.out K1.out K2.out BS.out ?_; (case g1 => exact HI0.out); (case g2 => exact HZ0.out); (case g3 => exact HZ1.out); (case g4 => exact HZ2.out); (case g5 => exact rfl); (case g6 => decide); (case g7 => exact rfl); (case g8 => exact rfl); (case g9 => exact rfl); intro v' w9 own' hg4 d; obtain ⟨a', c', rfl⟩ := words_sl own'; have RF := Lib.hid (PU2.out a' c' w9 own' hg4); have z10 := (PZ2.out w9 hg4).1; have z10f := (PZ2.out w9 hg4).2; clear own' hg4 d y10)
            clear OW2 PU2 PZ2 BS K1 K2 ONE BK HWN
            go_roundw
            case rel => exact ⟨k + 1, a', c', by go_num, by rw [HL1.out, AN.out], KC.out, Lib.hid (by rw [HL1.out, HEQ.out]; exact RF.out)⟩
            case measure => simp [intOf]; have := KC.out; omega
          | false =>
            have dlt : decide (dr < nr) = false := decide_eq_false (fun h => pu ⟨rfl, h⟩)
            have dlt2 : ¬ dr < nr := fun h => pu ⟨rfl, h⟩
            clear pu
            go_upto_region 13 with fail
            obtain ⟨W2, hW2⟩ : ∃ W2, W1.alloc (.cells #[.int .u32 nr] 22) = W2 := ⟨_, rfl⟩
            have B2 : Below W1.heap.size W1 W2 := by rw [← hW2]; exact (Below.refl _ _).alloc (Nat.le_refl _) _
            have BK : Hid (W2.heap[W1.heap.size]? = some (.cells #[.int .u32 nr] 22 (0, 0))) := Lib.hid (by rw [← hW2]; exact alloc_new _ _)
            have HWN := Lib.hid hW2
            have OW2 := Lib.hid (R1.out.own.below B2)
            have PU2 := Lib.hid (fun a' c' w4 own' hg => R1.out.push (y := nr) (a' := a') (c' := c') (w2 := W2) (w9 := w4) B2 own' hg)
            have PZ2 := Lib.hid (fun w4 hg => R1.out.cell (w2 := W2) (w9 := w4) B2 hg)
            skip
            have BS : Hid (WL.heap.size ≤ W2.heap.size) := Lib.hid (Nat.le_trans R1.out.gb.size B2.size)
            have K1 : Hid ((att).length + 1 ≤ maxLen) := Lib.hid (by have := KL.out; (try simp only [List.length_append, List.length_singleton]); unfold maxLen; omega)
            have K2 : Hid (((att).length + 1) * 4 ≤ 140737488355328) := Lib.hid (by have := KL.out; (try simp only [List.length_append, List.length_singleton]); omega)
            have ONE : Hid (∀ u ∈ ([.int .u32 nr] : List Value), u.oneCell' = true) := Lib.hid (by intro u hu; simp at hu; subst hu; rfl)
            have y10 : W1.cell? ⟨w.heap.size + 2, 10, none⟩ = some (.slice aa (att).length ac) := blk_cell R1.out.blk rfl
            clear hW2 B2
            unfold WordsOwn at OW2
            go_wp2_with (at_builtin; rw [HWN.out]; refine wpList_append_one rfl (.tmp 66) (.tmp 69) 39 rfl WL.heap.size 22 ti (.int .u32 0) 1 4 Tryz.underlying39 ?g1 ?g2 ?g3 ?g4 ?g5 ?g6 (.slice aa (att).length ac) (att).length _ ?g7 OW2.out W1.heap.size [.int .u32 nr] 22 ?g8 BK.out ?g9 ONE.out K1.out K2.out BS.out ?_; (case g1 => exact HI0.out); (case g2 => exact HZ0.out); (case g3 => exact HZ1.out); (case g4 => exact HZ2.out); (case g5 => exact rfl); (case g6 => decide); (case g7 => exact rfl); (case g8 => exact rfl); (case g9 => exact rfl); intro v' w9 own' hg4 d; obtain ⟨a', c', rfl⟩ := words_sl own'; have RF := Lib.hid (PU2.out a' c' w9 own' hg4); have z10 := (PZ2.out w9 hg4).1; have z10f := (PZ2.out w9 hg4).2; clear own' hg4 d y10)
            clear OW2 PU2 PZ2 BS K1 K2 ONE BK HWN
            go_roundw
            case rel => exact ⟨k + 1, a', c', by go_num, by rw [HL1.out, AN.out], KC.out, Lib.hid (by rw [HL1.out, HEQ.out]; exact RF.out)⟩
            case measure => simp [intOf]; have := KC.out; omega
      · have q' : (nst == 6) = false := by simpa using q
        have E := SKIP.out q
        subst E
        clear SKIP TAKE HB HS1 OB LBK
        go_wp2_with fail
        go_roundw
        case rel => exact ⟨k + 1, aa, ac, by go_num, by rw [HL1.out], KC.out, Lib.hid (by rw [HL1.out]; exact R1.out)⟩
        case measure => simp [intOf]; have := KC.out; omega
    · obtain rfl : k = nb.length := by omega
      have R9 := R.out
      rw [List.take_length] at R9 ⊢
      have RE := Lib.hid R9
      have c' : ¬ ((nb.length : Int) < (nb.length : Int)) := by omega
      clear R R9 AS HC1
      go_wp2_with fail
      exact HQ.out _ _ _ _ _ _ _ _ _ _ _ _ _ _ _ _ _ _ _ _ _ _ _ _ _ _ _ _ _ _ _ _ _ _ _ _ _ aa ac _ RE.out

end Go.Proofs.YtddageahmgaigaaGreat
