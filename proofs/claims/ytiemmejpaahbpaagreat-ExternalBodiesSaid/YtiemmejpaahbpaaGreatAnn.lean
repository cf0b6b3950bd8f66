/-
  external.announcements: the iterator over announcements, each with the one before it.
-/
import Derived.Test.YtiemmejpaahbpaaGreatExd
import Derived.RangeFuncNested
import Derived.RangeFuncBound
import Derived.RangeFuncCalls
import Derived.RangeFuncLeaves
import Derived.Shelf.Abstract
import Derived.Shelf.RegionOpen
import Derived.OwnWalkIn
import Derived.TacticsInMore
import Derived.LoopNIn
import Derived.LoopIn
namespace Go.Proofs.YtiemmejpaahbpaaGreat
open Go.RowKit Go.Shelf
attribute [local go_sem] Oper.semAt_some

def exAt (l : List Ext) (k : Nat) : Ext := l.getD k default
/-- the address ahead of announcement k -/
def bef (ad : Addr) (k : Nat) : Option Addr := if k = 0 then none else some ⟨ad.block, ad.off + (k - 1) * 6, none⟩
def exA (x : Ext) : Value := .agg #[.int .u32 x.pfx.addr, .int .i64 x.pfx.len, .int .i64 x.cost, .bool x.second, .int .u32 x.fwd, .int .i64 x.tag]
def annE (ad : Addr) (l : List Ext) (k : Nat) : Array Value := #[.pointer (bef ad k), exA (exAt l k)]
def uptoN (k : Nat) : List Nat := List.range k
theorem uptoN_succ (k : Nat) : uptoN (k + 1) = uptoN k ++ [k] := by simp [uptoN, List.range_succ]
theorem uptoN_length (k : Nat) : (uptoN k).length = k := by simp [uptoN]

/-- the cells of the announcements -/
def ExC (w : World) (ad : Addr) (l : List Ext) : Prop := ∀ i, i < l.length →
    w.cell? ⟨ad.block, ad.off + i * 6, none⟩ = some (.int .u32 (exAt l i).pfx.addr) ∧ w.cell? ⟨ad.block, ad.off + i * 6 + 1, none⟩ = some (.int .i64 (exAt l i).pfx.len) ∧ w.cell? ⟨ad.block, ad.off + i * 6 + 2, none⟩ = some (.int .i64 (exAt l i).cost) ∧ w.cell? ⟨ad.block, ad.off + i * 6 + 3, none⟩ = some (.bool (exAt l i).second) ∧ w.cell? ⟨ad.block, ad.off + i * 6 + 4, none⟩ = some (.int .u32 (exAt l i).fwd) ∧ w.cell? ⟨ad.block, ad.off + i * 6 + 5, none⟩ = some (.int .i64 (exAt l i).tag)

theorem ExC.below {w w' : World} {ad : Addr} {l : List Ext} {n₀ : Nat} (h : ExC w ad l) (hb : Below n₀ w w') (hlt : ad.block < n₀) : ExC w' ad l := by
  intro i hi
  have e := fun k => World.cell?_of_block (w := w) (w' := w') (a := ⟨ad.block, k, none⟩) (hb.block ad.block hlt)
  obtain ⟨h0, h1, h2, h3, h4, h5⟩ := h i hi
  exact ⟨(e _).trans h0, (e _).trans h1, (e _).trans h2, (e _).trans h3, (e _).trans h4, (e _).trans h5⟩

set_option maxRecDepth 100000 in
set_option maxHeartbeats 4000000 in
theorem ann1_in (F : Fence) (n : Nat) (hf : F.fn 66) (hro : F.round = none) (hn : 1 ≤ n) (lp Bs n₀ : Nat) (a : Option Addr) (ad : Addr) (cap : Nat) (l : List Ext) (hl : l.length ≤ 9223372036854775807) (hb : 0 < l.length → a = some ad ∧ ad.spot = none ∧ ad.block < n₀) (hBn : Bs < n₀) (J Jx : List Nat → World → Prop)
    (hJA : ∀ pre W o, J pre W → J pre (W.alloc o))
    (hY : ∀ pre x W, J pre W → x < l.length → pre.length < l.length → YieldAt F (n - 1) Tryz.prog lp (annE ad l x) W fun e W' =>
      (e = .returned (.bool true) ∧ J (pre ++ [x]) W' ∧ Below n₀ W W') ∨ (e = .returned (.bool false) ∧ Jx (pre ++ [x]) W'))
    (W : World) (hW : n₀ ≤ W.heap.size) (hBs : W.cell? ⟨Bs, 0, none⟩ = some (.slice a l.length cap)) (hc : ExC W ad l) (h0 : J [] W) :
    CallsIn F n Tryz.prog 66 #[.func (.yield lp) #[] #[], .pointer (some ⟨Bs, 0, none⟩)] W fun e W' => (∃ v, e = .returned v) ∧
      ((∃ ys, ys = uptoN l.length ∧ J ys W') ∨ (∃ pre, (∃ k, k ≤ l.length ∧ pre = uptoN k) ∧ Jx pre W')) := by
  have HBB := Lib.hid hb
  clear hb
  have HC := Lib.hid hc
  have HY := Lib.hid hY
  have HJA := Lib.hid hJA
  clear hc hY hJA
  refine callsIn_of_wp Tryz.func66 rfl hf ?_ hro
  simp only [Tryz.ntmps66, List.size_toArray, List.length_cons, List.length_nil, Nat.reduceAdd, Nat.reduceSub, Array.replicate_succ, Array.replicate_zero, List.push_toArray, List.append_toArray, List.nil_append, List.cons_append]
  gi_wp2
  gi_loopw [3, 8] (fun p i wr => ∃ k : Nat, k ≤ l.length ∧ i = .int .i64 k ∧ p = .pointer (bef ad k) ∧ J (uptoN k) wr ∧ Below n₀ W wr)
    (fun _ i _ => l.length - (intOf i).toNat)
  case atStart => exact ⟨0, Nat.zero_le _, rfl, rfl, h0, Below.refl _ _⟩
  case round =>
    obtain ⟨k, hk, rfl, rfl, hJs, hnx⟩ := hrel
    have cB : wr.cell? ⟨Bs, 0, none⟩ = some (.slice a l.length cap) := (World.cell?_of_block (w := W) (w' := wr) (a := ⟨Bs, 0, none⟩) (hnx.block Bs hBn)).trans hBs
    by_cases hlt : k < l.length
    · obtain ⟨ea, es, hbz⟩ := HBB.out (by omega)
      obtain ⟨ab, ao, sp⟩ := ad
      simp only at es hbz
      subst ea es
      obtain ⟨d0, d1, d2, d3, d4, d5⟩ := HC.out.below hnx hbz k hlt
      simp only at d0 d1 d2 d3 d4 d5
      obtain ⟨fn, tmps, assign, body, hy, hR⟩ := HY.out (uptoN k) k (wr.alloc (.cells #[.int .u32 (exAt l k).pfx.addr, .int .i64 (exAt l k).pfx.len, .int .i64 (exAt l k).cost, .bool (exAt l k).second, .int .u32 (exAt l k).fwd, .int .i64 (exAt l k).tag] 82)) (HJA.out _ _ _ hJs) hlt (by rw [uptoN_length]; exact hlt)
      simp only [annE, exA] at hy
      have NX := Lib.hid hnx
      have CB := Lib.hid cB
      have HJ := Lib.hid hJs
      generalize exAt l k = x at *
      obtain ⟨⟨pa, pl⟩, cost, second, fwd, tag⟩ := x
      simp only at d0 d1 d2 d3 d4 d5 hy hR
      have hsz : Hid (n₀ ≤ wr.heap.size) := Lib.hid (Nat.le_trans hW hnx.size)
      clear HY HJA HC hJs hnx HBB hbz
      gi_wp2
      refine hR.mono ?_
      rintro e W3 (⟨rfl, hJ3, hk3⟩ | ⟨rfl, hJx3⟩)
      · have cB3 : W3.cell? ⟨Bs, 0, none⟩ = some (.slice (some ⟨ab, ao, none⟩) l.length cap) := (World.cell?_of_block (a := ⟨Bs, 0, none⟩) ((hk3.block Bs hBn).trans (alloc_get _ _ _ (by have := hsz.out; omega)))).trans CB.out
        have NX3 := Lib.hid ((NX.out.alloc hsz.out _).trans hk3)
        have HJ3 := Lib.hid hJ3
        clear hR hy hJ3 hk3 d0 d1 d2 d3 d4 d5
        gi_wp2
        go_roundw
        case rel => exact ⟨k + 1, by omega, by go_num, by simp [bef], by rw [uptoN_succ]; exact HJ3.out, NX3.out⟩
        case measure => simp [intOf]; omega
      · gi_wp2
        refine bodyPost_ret (results_none rfl _ _ _) rfl ?_
        exact ⟨⟨_, rfl⟩, .inr ⟨_, ⟨k + 1, by omega, (uptoN_succ _).symm⟩, hJx3⟩⟩
    · obtain rfl : k = l.length := by omega
      gi_wp2
      go_end0
      exact ⟨⟨_, rfl⟩, .inl ⟨_, rfl, hJs⟩⟩


set_option maxHeartbeats 1000000 in
theorem ann_in (F : Fence) (n : Nat) (hf : F.fn 34) (hro : F.round = none) (a : Option Addr) (len cap : Nat) (w : World) :
    CallsIn F n Tryz.prog 34 #[.slice a len cap] w fun e w' => e = .returned (.func (.func 66) #[] #[.pointer (some ⟨w.heap.size, 0, none⟩)]) ∧ w' = w.alloc (.cells #[.slice a len cap] 46) := by
  refine callsIn_of_wp Tryz.func34 rfl hf ?_ hro
  simp only [Tryz.ntmps34, List.size_toArray, List.length_cons, List.length_nil, Nat.reduceAdd, Nat.reduceSub, Array.replicate_succ, Array.replicate_zero, List.push_toArray, List.append_toArray, List.nil_append, List.cons_append]
  gi_wp2
  go_ret
  exact ⟨rfl, rfl⟩

theorem ann_stops (F : Fence) (n : Nat) (hf : F.fn 66) (hro : F.round = none) (hn : 1 ≤ n) (Bs n₀ : Nat) (a : Option Addr) (ad : Addr) (cap : Nat) (l : List Ext) (hl : l.length ≤ 9223372036854775807) (hb : 0 < l.length → a = some ad ∧ ad.spot = none ∧ ad.block < n₀) (hBn : Bs < n₀)
    (w : World) (hn₀ : n₀ ≤ w.heap.size) (hBs : w.cell? ⟨Bs, 0, none⟩ = some (.slice a l.length cap)) (hc : ExC w ad l) :
    SeqStopsK F n Tryz.prog 66 #[.pointer (some ⟨Bs, 0, none⟩)] (fun x : Fin l.length => annE ad l x.val) (Below n₀) (fun ys => ys.map Fin.val = uptoN l.length) (fun pre => ∃ k, k ≤ l.length ∧ pre.map Fin.val = uptoN k) l.length w := fun lp J Jx W hW hJ _ hY h0 => by
  refine (ann1_in F n hf hro hn lp Bs n₀ a ad cap l hl hb hBn (fun pre W => ∃ q : List (Fin l.length), q.map Fin.val = pre ∧ J q W) (fun pre W => ∃ q : List (Fin l.length), q.map Fin.val = pre ∧ Jx q W)
    (fun pre W o ⟨q, e, h⟩ => ⟨q, e, hJ q W _ none h (World.grownBy_alloc W o none) (fun r e => by cases e)⟩) ?_ W (Nat.le_trans hn₀ hW.size)
    ((hW.cell (p := ⟨Bs, 0, none⟩) (by simp; omega)).trans hBs) (fun i hi => by
      obtain ⟨_, _, h3⟩ := hb (by omega)
      exact hc.below hW (by omega) i hi) ⟨[], rfl, h0⟩).mono ?_
  · rintro pre x W1 ⟨q, rfl, hq⟩ hx hlen
    refine (hY q ⟨x, hx⟩ W1 hq (by simpa using hlen)).mono ?_
    rintro e W2 (⟨h1, h2, h3⟩ | ⟨h1, h2⟩)
    · exact .inl ⟨h1, ⟨_, by simp, h2⟩, h3⟩
    · exact .inr ⟨h1, ⟨_, by simp, h2⟩⟩
  · rintro e W2 ⟨h1, ⟨ys, rfl, q, e2, h2⟩ | ⟨pre, ⟨k, hk, rfl⟩, q, e2, h2⟩⟩
    · exact ⟨h1, .inl ⟨q, e2, h2⟩⟩
    · exact ⟨h1, .inr ⟨q, ⟨k, hk, e2⟩, h2⟩⟩

end Go.Proofs.YtiemmejpaahbpaaGreat
