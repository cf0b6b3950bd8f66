/-
  external.announcements, for a body that writes: it need only keep the announcements.
-/
import Derived.Test.YtiemmejpaahbpaaGreatAnn
namespace Go.Proofs.YtiemmejpaahbpaaGreat
open Go.RowKit Go.Shelf
attribute [local go_sem] Oper.semAt_some

/-- the blocks P lie as they lay -/
structure KeepP (P : Nat → Prop) (W W' : World) : Prop where
  size : W.heap.size ≤ W'.heap.size
  block : ∀ k, P k → k < W.heap.size → W'.heap[k]? = W.heap[k]?
theorem KeepP.refl (P : Nat → Prop) (W : World) : KeepP P W W := ⟨Nat.le_refl _, fun _ _ _ => rfl⟩
theorem KeepP.trans {P : Nat → Prop} {A B C : World} (h : KeepP P A B) (k : KeepP P B C) : KeepP P A C :=
  ⟨Nat.le_trans h.size k.size, fun j hj hl => (k.block j hj (Nat.lt_of_lt_of_le hl h.size)).trans (h.block j hj hl)⟩
theorem KeepP.alloc {P : Nat → Prop} {A B : World} (h : KeepP P A B) (o : Obj) : KeepP P A (B.alloc o) :=
  h.trans ⟨by simp, fun k _ hl => alloc_get _ _ _ hl⟩
theorem KeepP.of_below {P : Nat → Prop} {A B : World} {n : Nat} (h : Below n A B) (hP : ∀ k, P k → k < n) : KeepP P A B := ⟨h.size, fun k hk _ => h.block k (hP k hk)⟩
theorem keepP_b {P : Nat → Prop} {w : World} (hP : ∀ k, P k → k < w.heap.size) (W : World) (l : Nat) (o o' : Obj) (hl : w.heap.size ≤ l) (_ : W.heap[l]? = some o) (_ : o.isCells = false) (_ : o.isWalk = false) : KeepP P W (W.putObj l o') := by
  refine ⟨?_, fun k hk _ => ?_⟩
  · simp [World.putObj]
  · exact World.putObj_heap_other (by have := hP k hk; omega)
theorem ExC.keep {P : Nat → Prop} {w w' : World} {ad : Addr} {l : List Ext} (h : ExC w ad l) (hb : KeepP P w w') (hp : P ad.block) (hlt : ad.block < w.heap.size) : ExC w' ad l := by
  intro i hi
  have e := fun k => World.cell?_of_block (w := w) (w' := w') (a := ⟨ad.block, k, none⟩) (hb.block ad.block hp hlt)
  obtain ⟨h0, h1, h2, h3, h4, h5⟩ := h i hi
  exact ⟨(e _).trans h0, (e _).trans h1, (e _).trans h2, (e _).trans h3, (e _).trans h4, (e _).trans h5⟩

set_option maxRecDepth 100000 in
set_option maxHeartbeats 4000000 in
theorem ann1_keep (F : Fence) (n : Nat) (hf : F.fn 66) (hro : F.round = none) (hn : 1 ≤ n) (lp Bs n₀ : Nat) (a : Option Addr) (ad : Addr) (cap : Nat) (l : List Ext) (hl : l.length ≤ 9223372036854775807) (hb : 0 < l.length → a = some ad ∧ ad.spot = none ∧ ad.block < n₀) (hBn : Bs < n₀) (J Jx : List Nat → World → Prop)
    (hJA : ∀ pre W o, J pre W → J pre (W.alloc o))
    (hY : ∀ pre x W, J pre W → x < l.length → pre.length < l.length → YieldAt F (n - 1) Tryz.prog lp (annE ad l x) W fun e W' =>
      (e = .returned (.bool true) ∧ J (pre ++ [x]) W' ∧ KeepP (fun k => k = Bs ∨ k = ad.block) W W') ∨ (e = .returned (.bool false) ∧ Jx (pre ++ [x]) W'))
    (W : World) (hW : n₀ ≤ W.heap.size) (hBs : W.cell? ⟨Bs, 0, none⟩ = some (.slice a l.length cap)) (hc : ExC W ad l) (h0 : J [] W) :
    CallsIn F n Tryz.prog 66 #[.func (.yield lp) #[] #[], .pointer (some ⟨Bs, 0, none⟩)] W fun e W' => (∃ v, e = .returned v) ∧
      ((∃ ys, ys = uptoN l.length ∧ J ys W') ∨ (∃ pre, (∃ k, k ≤ l.length ∧ pre = uptoN k) ∧ Jx pre W')) := by
  have HBB := Lib.hid hb
  clear hb
  have HC := Lib.hid hc
  have HY := Lib.hid hY
  have HJA := Lib.hid hJA
  clear hc hY hJA
  refine callsIn_of_wp Tryz.func66 rfl hf ?_ hro
  simp only [Tryz.ntmps66, List.size_toArray, List.length_cons, List.length_nil, Nat.reduceAdd, Nat.reduceSub, Array.replicate_succ, Array.replicate_zero, List.push_toArray, List.append_toArray, List.nil_append, List.cons_append]
  gi_wp2
  gi_loopw [3, 8] (fun p i wr => ∃ k : Nat, k ≤ l.length ∧ i = .int .i64 k ∧ p = .pointer (bef ad k) ∧ J (uptoN k) wr ∧ KeepP (fun k => k = Bs ∨ k = ad.block) W wr)
    (fun _ i _ => l.length - (intOf i).toNat)
  case atStart => exact ⟨0, Nat.zero_le _, rfl, rfl, h0, KeepP.refl _ _⟩
  case round =>
    obtain ⟨k, hk, rfl, rfl, hJs, hnx⟩ := hrel
    have cB : wr.cell? ⟨Bs, 0, none⟩ = some (.slice a l.length cap) := (World.cell?_of_block (w := W) (w' := wr) (a := ⟨Bs, 0, none⟩) (hnx.block Bs (.inl rfl) (by omega))).trans hBs
    by_cases hlt : k < l.length
    · obtain ⟨ea, es, hbz⟩ := HBB.out (by omega)
      obtain ⟨ab, ao, sp⟩ := ad
      simp only at es hbz
      subst ea es
      obtain ⟨d0, d1, d2, d3, d4, d5⟩ := HC.out.keep hnx (.inr rfl) (Nat.lt_of_lt_of_le hbz hW) k hlt
      simp only at d0 d1 d2 d3 d4 d5
      obtain ⟨fn, tmps, assign, body, hy, hR⟩ := HY.out (uptoN k) k (wr.alloc (.cells #[.int .u32 (exAt l k).pfx.addr, .int .i64 (exAt l k).pfx.len, .int .i64 (exAt l k).cost, .bool (exAt l k).second, .int .u32 (exAt l k).fwd, .int .i64 (exAt l k).tag] 82)) (HJA.out _ _ _ hJs) hlt (by rw [uptoN_length]; exact hlt)
      simp only [annE, exA] at hy
      have NX := Lib.hid hnx
      have CB := Lib.hid cB
      have HJ := Lib.hid hJs
      generalize exAt l k = x at *
      obtain ⟨⟨pa, pl⟩, cost, second, fwd, tag⟩ := x
      simp only at d0 d1 d2 d3 d4 d5 hy hR
      have hsz : Hid (n₀ ≤ wr.heap.size) := Lib.hid (Nat.le_trans hW hnx.size)
      clear HY HJA HC hJs hnx HBB hbz
      gi_wp2
      refine hR.mono ?_
      rintro e W3 (⟨rfl, hJ3, hk3⟩ | ⟨rfl, hJx3⟩)
      · have cB3 : W3.cell? ⟨Bs, 0, none⟩ = some (.slice (some ⟨ab, ao, none⟩) l.length cap) := (World.cell?_of_block (a := ⟨Bs, 0, none⟩) ((hk3.block Bs (.inl rfl) (by have := hsz.out; simp; omega)).trans (alloc_get _ _ _ (by have := hsz.out; omega)))).trans CB.out
        have NX3 := Lib.hid ((NX.out.alloc _).trans hk3)
        have HJ3 := Lib.hid hJ3
        clear hR hy hJ3 hk3 d0 d1 d2 d3 d4 d5
        gi_wp2
        go_roundw
        case rel => exact ⟨k + 1, by omega, by go_num, by simp [bef], by rw [uptoN_succ]; exact HJ3.out, NX3.out⟩
        case measure => simp [intOf]; omega
      · gi_wp2
        refine bodyPost_ret (results_none rfl _ _ _) rfl ?_
        exact ⟨⟨_, rfl⟩, .inr ⟨_, ⟨k + 1, by omega, (uptoN_succ _).symm⟩, hJx3⟩⟩
    · obtain rfl : k = l.length := by omega
      gi_wp2
      go_end0
      exact ⟨⟨_, rfl⟩, .inl ⟨_, rfl, hJs⟩⟩


theorem ann_keep (F : Fence) (n : Nat) (hf : F.fn 66) (hro : F.round = none) (hn : 1 ≤ n) (Bs n₀ : Nat) (a : Option Addr) (ad : Addr) (cap : Nat) (l : List Ext) (hl : l.length ≤ 9223372036854775807) (hb : 0 < l.length → a = some ad ∧ ad.spot = none ∧ ad.block < n₀) (hBn : Bs < n₀)
    (w : World) (hn₀ : n₀ ≤ w.heap.size) (hBs : w.cell? ⟨Bs, 0, none⟩ = some (.slice a l.length cap)) (hc : ExC w ad l) :
    SeqStopsK F n Tryz.prog 66 #[.pointer (some ⟨Bs, 0, none⟩)] (fun x : Fin l.length => annE ad l x.val) (KeepP (fun k => k = Bs ∨ k = ad.block)) (fun ys => ys.map Fin.val = uptoN l.length) (fun pre => ∃ k, k ≤ l.length ∧ pre.map Fin.val = uptoN k) l.length w := fun lp J Jx W hW hJ _ hY h0 => by
  refine (ann1_keep F n hf hro hn lp Bs n₀ a ad cap l hl hb hBn (fun pre W => ∃ q : List (Fin l.length), q.map Fin.val = pre ∧ J q W) (fun pre W => ∃ q : List (Fin l.length), q.map Fin.val = pre ∧ Jx q W)
    (fun pre W o ⟨q, e, h⟩ => ⟨q, e, hJ q W _ none h (World.grownBy_alloc W o none) (fun r e => by cases e)⟩) ?_ W (Nat.le_trans hn₀ hW.size)
    ((hW.cell (p := ⟨Bs, 0, none⟩) (by simp; omega)).trans hBs) (fun i hi => by
      obtain ⟨_, _, h3⟩ := hb (by omega)
      exact hc.below hW (by omega) i hi) ⟨[], rfl, h0⟩).mono ?_
  · rintro pre x W1 ⟨q, rfl, hq⟩ hx hlen
    refine (hY q ⟨x, hx⟩ W1 hq (by simpa using hlen)).mono ?_
    rintro e W2 (⟨h1, h2, h3⟩ | ⟨h1, h2⟩)
    · exact .inl ⟨h1, ⟨_, by simp, h2⟩, h3⟩
    · exact .inr ⟨h1, ⟨_, by simp, h2⟩⟩
  · rintro e W2 ⟨h1, ⟨ys, rfl, q, e2, h2⟩ | ⟨pre, ⟨k, hk, rfl⟩, q, e2, h2⟩⟩
    · exact ⟨h1, .inl ⟨q, e2, h2⟩⟩
    · exact ⟨h1, .inr ⟨q, ⟨k, hk, e2⟩, h2⟩⟩

end Go.Proofs.YtiemmejpaahbpaaGreat
