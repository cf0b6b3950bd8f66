/-
  inter.Routes: the function that adds an offer.
-/
/-
  inter.offers, for Routes.
-/
import Derived.Test.YtogdconliofblaaGreatTba
import Derived.Test.YtogdconliofblaaGreatBks
import Derived.Test.YtogdconliofblaaGreatIns
import Derived.IntWalk
namespace Go.Proofs.YtogdconliofblaaGreat
open Go.RowKit

theorem keepI_range {x n : Int} (h : 0 ≤ x) : 0 ≤ keepI x n ∧ keepI x n ≤ x := by
  obtain ⟨y, rfl⟩ := Int.eq_ofNat_of_zero_le h
  unfold keepI
  have := Nat.mod_le y (2 ^ (32 - n).toNat)
  generalize 2 ^ (32 - n).toNat = m at *
  omega

theorem pfxOk_of {x : Lsa} (ok : OkL x) (h0 : 0 ≤ x.len) (h1 : x.len ≤ 32) : pfxOk (lsaPfx x) := by
  have h := keepI_range (n := x.len) ok.id0
  have := ok.id1
  exact ⟨WalkArith.wf_u32 (by simp only [lsaPfx]; omega), WalkArith.wf_i64 (by simp only [lsaPfx]; omega)⟩


/-- the method value 't.add' -/
def addV (mb : Nat) : Value := .func (.func 46) #[.agg #[.map (some mb)]] #[]

set_option maxHeartbeats 8000000 in
set_option maxRecDepth 100000 in
theorem rclo_calls (w : World) (mb n : Nat) (g : Ls.Pfx → Option Of) (f : Ls.Pfx → Option OfH) (T : ObAt 55 pfxOk pfxLit w mb n g f) (hn' : n < maxLen) (x : Lsa) (okx : OkL x) (ht : hasPfx x.typ = true) (h0 : 0 ≤ x.len) (h1 : x.len ≤ 32) (o : OfH) (ho : HopsAt w o.hv o.hops)
    (hb : ∀ p old, f p = some old → (old.hops.length + o.hops.length) * 16 ≤ 140737488355328) (ab : Nat) (ha : w.heap[ab]? = some (.cells #[addV mb] 95 (0, 0))) :
    Calls Tryz.prog 48 #[.agg (lsaE x).toArray, .agg (ofE o).toArray, .pointer (some ⟨ab, 0, none⟩)] w (AddPost w mb n g (lsaPfx x) o.pure) := by
  have PX := Lib.hid (fun W => lprefix_calls x okx ht h0 h1 W)
  have OKP := pfxOk_of okx h0 h1
  have AD := Lib.hid (fun W (hbw : Below w.heap.size w W) => add_table W mb n g f (T.grow hbw) hn' (lsaPfx x) OKP o (ho.below hbw) (fun old h => hb _ old h))
  have HA := Lib.hid (fun W (hbw : Below w.heap.size w W) => (hbw.block ab (blk_lt ha)).trans ha)
  clear T hn' okx ht h0 h1 ho hb ha OKP
  generalize lsaPfx x = p at *
  obtain ⟨xtyp, xid, xlen, xrouter, xseq, xage, xsum, xborder, xboundary, xla, xln, xlc, xaa, xan, xac, xcost, xsecond, xfwd, xtag⟩ := x
  obtain ⟨co, oa, on, oc, oh⟩ := o
  obtain ⟨pa, pl⟩ := p
  simp only [lsaE, ofE, OfH.pure, addV] at *
  obtain ⟨W0, hW0⟩ : ∃ W0, (w.alloc (.cells #[.int .i64 xtyp, .int .u32 xid, .int .i64 xlen, .int .u32 xrouter, .int .i64 xseq, .int .i64 xage, .int .i64 xsum, .bool xborder, .bool xboundary, .slice xla xln xlc, .slice xaa xan xac, .int .i64 xcost, .bool xsecond, .int .u32 xfwd, .int .i64 xtag] 47)).alloc (.cells #[.int .i64 co, .slice oa on oc] 98) = W0 := ⟨_, rfl⟩
  have B0 : Below w.heap.size w W0 := by rw [← hW0]; exact ((Below.refl _ _).alloc (Nat.le_refl _) _).alloc (by simp) _
  have b0 : W0.heap[w.heap.size]? = some (.cells #[.int .i64 xtyp, .int .u32 xid, .int .i64 xlen, .int .u32 xrouter, .int .i64 xseq, .int .i64 xage, .int .i64 xsum, .bool xborder, .bool xboundary, .slice xla xln xlc, .slice xaa xan xac, .int .i64 xcost, .bool xsecond, .int .u32 xfwd, .int .i64 xtag] 47 (0, 0)) := by rw [← hW0]; exact (alloc_get _ _ _ (by simp)).trans (alloc_new w _)
  have b1 : W0.heap[w.heap.size + 1]? = some (.cells #[.int .i64 co, .slice oa on oc] 98 (0, 0)) := by rw [← hW0]; exact blk_new2 w _ _
  obtain ⟨⟨⟨d0, d1, d2, d3, d4⟩, ⟨d5, d6, d7, d8, d9⟩, ⟨d10, d11, d12, d13, d14⟩⟩, -⟩ := blk15 b0
  have HB0 := Lib.hid B0
  have X1 := Lib.hid b1
  have HW0 := Lib.hid hW0
  clear hW0 B0 b0 b1
  go_enter Tryz.func48, Tryz.ntmps48
  go_upto_region 1 with fail
  rw [HW0.out]
  go_wp2_with fail
  refine (PX.out _).mono ?_
  rintro e w1 ⟨rfl, G1⟩
  have B1 := HB0.out.trans (G1.b.mono HB0.out.size)
  have x1 := (G1.b.block _ (blk_lt X1.out)).trans X1.out
  obtain ⟨W2, hW2⟩ : ∃ W2, w1.alloc (.cells #[.int .u32 pa, .int .i64 pl] 55) = W2 := ⟨_, rfl⟩
  have B12 : Below w1.heap.size w1 W2 := by rw [← hW2]; exact (Below.refl _ _).alloc (Nat.le_refl _) _
  have B2 := B1.trans (B12.mono B1.size)
  have bp : W2.heap[w1.heap.size]? = some (.cells #[.int .u32 pa, .int .i64 pl] 55 (0, 0)) := by rw [← hW2]; exact alloc_new _ _
  have bo := (B12.block _ (blk_lt x1)).trans x1
  have z0 := blk_cell (i := 0) bp rfl
  have z1 := blk_cell (i := 1) bp rfl
  have o0 := blk_cell (i := 0) bo rfl
  have o1 := blk_cell (i := 1) bo rfl
  have a0 := blk_cell (i := 0) (HA.out W2 B2) rfl
  have AD2 := Lib.hid (AD.out W2 B2)
  have HB2 := Lib.hid B2
  have HW2 := Lib.hid hW2
  clear G1 B1 x1 hW2 B12 B2 bp bo d0 d1 d2 d3 d4 d5 d6 d7 d8 d9 d10 d11 d12 d13 d14 AD HA PX
  go_upto_region 2 with fail
  rw [HW2.out]
  go_wp2_with fail
  refine AD2.out.mono ?_
  rintro e w3 ⟨rfl, ⟨f', T3⟩, G3⟩
  have FIN : Hid (AddPost w mb n g ⟨pa, pl⟩ ⟨co, oh⟩ (.returned (.tuple #[])) w3) := Lib.hid ⟨rfl, ⟨f', T3⟩, grown_below HB2.out G3⟩
  clear T3 G3 AD2
  go_wp2_with fail
  (try simp only [Exit.inBlock, Exit.then])
  first | go_end0 | refine bodyPost_ret (results_none rfl _ _ _) rfl ?_
  exact FIN.out

end Go.Proofs.YtogdconliofblaaGreat

namespace Go.Proofs.YtogdconliofblaaGreat
open Go.RowKit

/-- does an advertisement come into question? -/
def inK (kind router : Int) (x : Lsa) : Bool := (decide (x.typ = kind) && decide (x.age < 3600)) && !decide (x.router = router)
def ofO (x : Lsa) (y : Rch) : Of := ⟨y.cost + x.cost, Ls.merge Ls.hopLt y.hops []⟩
def ofStep (area router : Int) (reach : List Rch) (g : Ls.Pfx → Option Of) (x : Lsa) : Ls.Pfx → Option Of :=
  if inK 3 router x = true then (match wayF area x.router reach with | none => g | some y => tbAdd g (lsaPfx x) (ofO x y)) else g
def ofK (area router : Int) (reach : List Rch) (db : List Lsa) (k : Nat) : Ls.Pfx → Option Of := (db.take k).foldl (ofStep area router reach) (fun _ => none)
theorem ofK_succ (area router : Int) (reach : List Rch) (db : List Lsa) {k : Nat} (c : k < db.length) : ofK area router reach db (k + 1) = ofStep area router reach (ofK area router reach db k) db[k] := by
  unfold ofK; rw [take_fold _ _ _ _ c]

theorem wayF_mem {area router : Int} {l : List Rch} {y : Rch} (h : wayF area router l = some y) : y ∈ l := List.mem_of_find?_eq_some h
theorem hops_le {l : List Rch} {y : Rch} (h : y ∈ l) : y.hops.length ≤ hopSum l := by
  unfold hopSum
  induction l with
  | nil => cases h
  | cons x l ih =>
    rw [List.map_cons, List.sum_cons]
    rcases List.mem_cons.1 h with rfl | h
    · omega
    · have := ih h; omega

theorem tbAdd_len {g : Ls.Pfx → Option Of} {p : Ls.Pfx} {o : Of} {n m : Nat} (hg : ∀ q x, g q = some x → x.hops.length ≤ n) (ho : o.hops.length ≤ m) : ∀ q x, tbAdd g p o q = some x → x.hops.length ≤ n + m := by
  intro q x hx
  have up : ∀ z : Of, z.hops.length ≤ n + m → upd g p z q = some x → x.hops.length ≤ n + m := by
    intro z hz h
    unfold upd at h
    split at h
    · cases h; exact hz
    · have := hg q x h; omega
  have no : g q = some x → x.hops.length ≤ n + m := fun h => by have := hg q x h; omega
  by_cases c : 16777216 < o.cost
  · rw [tbAdd_big c] at hx; exact no hx
  · cases e : g p with
    | none => rw [tbAdd_new c e] at hx; exact up o (by omega) hx
    | some old =>
      rcases Int.lt_trichotomy o.cost old.cost with d | d | d
      · rw [tbAdd_lt c e d] at hx; exact up o (by omega) hx
      · rw [tbAdd_eq c e d] at hx
        refine up _ ?_ hx
        have h1 := Ls.merge_length_le (lt := Ls.hopLt) old.hops o.hops
        have h2 := hg p old e
        simp only
        omega
      · rw [tbAdd_gt c e d] at hx; exact no hx

theorem ofK_len (area router : Int) (reach : List Rch) (db : List Lsa) : ∀ k, k ≤ db.length → ∀ p x, ofK area router reach db k p = some x → x.hops.length ≤ k * hopSum reach
  | 0, _, p, x, h => by cases h
  | k + 1, hk, p, x, h => by
    have ih := ofK_len area router reach db k (by omega)
    rw [ofK_succ area router reach db (show k < db.length by omega)] at h
    rw [Nat.succ_mul]
    unfold ofStep at h
    split at h
    · cases e : wayF area (db[k]'(by omega)).router reach with
      | none => rw [e] at h; have := ih p x h; omega
      | some y =>
        rw [e] at h
        refine tbAdd_len ih ?_ p x h
        have h1 := Ls.merge_length_le (lt := Ls.hopLt) y.hops []
        have h2 := hops_le (wayF_mem e)
        simp only [List.length_nil] at h1
        show (Ls.merge Ls.hopLt y.hops []).length ≤ _
        omega
    · have := ih p x h; omega

end Go.Proofs.YtogdconliofblaaGreat
