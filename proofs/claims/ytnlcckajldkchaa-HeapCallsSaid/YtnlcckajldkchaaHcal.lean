/- HeapCalls returns true for every input, and its arguments read afterwards as before. No condition. -/
import Derived.Test.YtnlcckajldkchaaActy
import Derived.Test.YtnlcckajldkchaaActs
namespace Go.Proofs.Ytnlcckajldkchaa
open Go.ChangeShapes Go.WideShapes Go.ChangeAt Go.RowKit Go.Deep

set_option maxHeartbeats 400000 in
theorem heapCalls_long (n : Int) (a : Option Addr) (len cap : Nat) (h : 200 < len) (w : World) : Calls Try.prog 4 #[.int .i64 n, .slice a len cap] w fun e w' => e = .returned (.bool true) ∧ Below w.heap.size w w' := by
  go_enter Try.func4, Try.ntmps4
  go_wp2_with fail
  refine (awake_rep w).mono ?_
  rintro e w1 ⟨rfl, bel⟩
  go_wp2_with fail
  go_ret
  exact ⟨rfl, bel⟩

theorem Two.alloc {base : Nat → Prop} {hb pb kb rb ib rk : Nat} {w : World} {t : Hp.Tb} (T : Two base hb pb kb rb ib rk w t) (o : Obj) : Two base hb pb kb rb ib rk (w.alloc o) t :=
  ⟨T.ht.alloc o, T.rt.other fun k hk => alloc_get _ _ _ (by
    rcases hk with rfl | rfl | rfl
    · exact blk_lt T.rt.top
    · exact blk_lt T.rt.ins
    · exact blk_lt T.rt.ky), T.a1, T.a2, T.a3⟩
theorem Fr6.below {base : Nat → Prop} {hb pb kb ib rk : Nat} {w w' : World} (f : Fr6 base hb pb kb ib rk w w') (B : Nat) (h0 : ∀ k, k < B → ¬ base k) (h1 : B ≤ hb) (h2 : B ≤ pb) (h3 : B ≤ kb) (h4 : B ≤ ib) (h5 : B ≤ rk) : Below B w w' :=
  ⟨f.os, f.tape, f.output, f.size, fun k hk => f.block k (h0 k hk) (by omega) (by omega) (by omega) (by omega) (by omega)⟩

set_option maxHeartbeats 2000000 in
theorem heapCalls_short (n : Int) (a : Option Addr) (cap : Nat) (l : List ActV) (h : l.length ≤ 200) (w : World) (hc : Acts w a l) :
    Calls Try.prog 4 #[.int .i64 n, .slice a l.length cap] w fun e w' => e = .returned (.bool true) ∧ Below w.heap.size w w' := by
  have HC := Lib.hid hc
  clear hc
  go_enter Try.func4, Try.ntmps4
  go_wp2_with fail
  refine (new_rep n w).mono ?_
  rintro e w1 ⟨hb, pb, kb, rfl, g1, g2, g3, r, bel⟩
  have sz := bel.size
  have R := Lib.hid r
  clear r
  go_wp2_with fail
  refine (rnew_rep n w1).mono ?_
  rintro e w2 ⟨rb, ib, rk, rfl, q1, q2, q3, t, bel2⟩
  have T0 : Two (fun k => w2.heap.size ≤ k) hb pb kb rb ib rk w2 (tnew (clampN n)) := by
    have r := R.out
    have b1 := blk_lt r.top; have b2 := blk_lt r.pl; have b3 := blk_lt r.ky
    have b4 := blk_lt t.top; have b5 := blk_lt t.ins; have b6 := blk_lt t.ky
    refine ⟨HT.first r fun k hk => bel2.block k ?_, t, ⟨by omega, by omega, by omega, by omega⟩, ⟨by omega, by omega, by omega, by omega⟩, ⟨by omega, by omega, by omega, by omega⟩⟩
    rcases hk with rfl | rfl | rfl <;> assumption
  have bel3 := bel.trans (bel2.mono sz)
  have hsz : w.heap.size ≤ w2.heap.size := bel3.size
  have q1 := Nat.le_trans sz q1
  have q2 := Nat.le_trans sz q2
  have q3 := Nat.le_trans sz q3
  clear R bel bel2 t
  go_wp2_with fail
  go_loopw [21] (fun t wr => ∃ (k : Nat) (tb : Hp.Tb), t = .int .i64 k ∧ k ≤ l.length ∧ Two (fun k => w2.heap.size ≤ k) hb pb kb rb ib rk wr tb ∧ Below w.heap.size w wr) (fun t _ => l.length - (intOf t).toNat)
  case atStart => exact ⟨0, _, rfl, Nat.zero_le _, T0, bel3⟩
  case round =>
    clear T0 bel3
    obtain ⟨k, tb, rfl, hk, T, bel⟩ := hrel
    by_cases c : k < l.length
    · obtain ⟨b, off, rfl, hb0, hc⟩ := HC.out (by omega)
      obtain ⟨d1, d2, d3⟩ := hc k c
      have d1 : wr.cell? ⟨b, off + k * 3, none⟩ = some (.int .i64 l[k].kind) := (World.cell?_of_block (bel.block b hb0)).trans d1
      have d2 : wr.cell? ⟨b, off + k * 3 + 1, none⟩ = some (.int .i64 l[k].item) := (World.cell?_of_block (bel.block b hb0)).trans d2
      have d3 : wr.cell? ⟨b, off + k * 3 + 2, none⟩ = some (.int .i64 l[k].key) := (World.cell?_of_block (bel.block b hb0)).trans d3
      generalize l[k].kind = ki at d1
      generalize l[k].item = it at d2
      generalize l[k].key = ke at d3
      clear hc
      go_wp2_with fail
      refine (act_all (T.alloc _) ki it ke).mono ?_
      rintro e w3 ⟨rfl, ⟨t', T'⟩, f⟩
      have B : Below w.heap.size w w3 := by
        have := f.below w.heap.size (fun k hk h => by omega) g1 g2 g3 q2 q3
        exact (bel.trans ((Below.refl _ _).alloc bel.size _)).trans this
      clear f T bel d1 d2 d3
      go_wp2_with fail
      refine (hlen T'.ht).mono ?_
      rintro e w' ⟨rfl, rfl⟩
      go_wp2_with fail
      refine (rlen T'.rt).mono ?_
      rintro e w' ⟨rfl, rfl⟩
      go_wp2_with fail
      go_roundw
      case rel => exact ⟨k + 1, _, by go_num, c, T', B⟩
      case measure => simp [intOf]; omega
    · go_wp2_with fail
      refine (awake_rep wr).mono ?_
      rintro e w3 ⟨rfl, b3⟩
      have B := bel.trans (b3.mono bel.size)
      clear b3
      go_wp2_with fail
      go_ret
      exact ⟨rfl, B⟩

theorem heapCalls_walk (n : Int) (a : Option Addr) (cap : Nat) (l : List ActV) (w : World) (hc : Acts w a l) :
    Calls Try.prog 4 #[.int .i64 n, .slice a l.length cap] w fun e w' => e = .returned (.bool true) ∧ Below w.heap.size w w' := by
  by_cases h : l.length ≤ 200
  · exact heapCalls_short n a cap l h w hc
  · exact heapCalls_long n a l.length cap (by omega) w

set_option maxRecDepth 100000 in
theorem heapCalls_lifted (os : Os) (started : os.Started) (H : Type) (enc : TypeId × Value → H) :
    ReturnsInHanded {} Try.checked os 4 .any (Rows.heapCallsSpec.pre6 enc Try.prog Try.f4 Rows.heapCallsRow.domain false) (Rows.heapCallsSpec.post enc Try.prog Try.f4 false true false false) := by
  refine returnsInHanded_of_change (C := Try.checked) own5 started (by kernel_rfl) Try.func4
    (ChangeSpec.witness6 (enc := enc) (C := Try.checked) false ⟨#[], #[.int .i64 0, .slice none 0 0], []⟩ 8 (by kernel_rfl) (by kernel_rfl) (by kernel_rfl) (by kernel_rfl)) ?_
  intro W base args ds gs before hval0 hW hcnd _
  have hval : ∀ (j : Nat) t v, Try.f4.params[j]? = some t → args[j]? = some v → Value.okWide Try.prog W .any base t v := hval0
  have hW' := hW
  obtain ⟨p, q, hA0, hV, rfl, hfz, hnd⟩ := hW
  have hA : DataW.TrodAll enc Try.prog W 0 (fun _ => true) true Try.f4.params.toList args.toList ds p := hA0
  rw [Try.params4] at hA hval
  obtain ⟨v0, vs0, d0, ds0, p0, q0, hargs, rfl, rfl, h0, r0⟩ := trodAll_cons hA
  obtain ⟨v1, vs1, d1, ds1, p1, q1, hargs1, rfl, rfl, h1, r1⟩ := trodAll_cons r0
  obtain ⟨rfl, rfl, rfl⟩ := trodAll_nil r1
  obtain rfl : args = #[v0, v1] := by cases args; simp_all
  obtain ⟨rfl, rfl⟩ := trodVars_none hV
  obtain ⟨n, rfl⟩ := okWide_int Try.underlying3 (hval 0 3 v0 rfl rfl)
  obtain ⟨a0, len, cap, rfl⟩ := okWide_slice Try.underlying31 (hval 1 31 v1 rfl rfl)
  obtain ⟨fuel, hf⟩ := h1
  simp only [List.append_nil] at hW'
  obtain ⟨l, rfl, hk⟩ := acts_open hf
  refine (heapCalls_walk n a0 cap l W hk).mono fun e W' ⟨he, hb⟩ => ?_
  subst he
  exact ⟨_, rfl, post_true (by kernel_rfl) rfl (by kernel_rfl) rfl Try.underlying4 ⟨rfl, rfl, rfl⟩ hW' hb⟩

theorem heapCalls_holds : Rows.HeapCallsSaid :=
  OpenClaim.holds_of_wide 4 Try.f4 rfl rfl rfl rfl rfl rfl rfl ⟨rfl, rfl, rfl, rfl, rfl⟩ rfl rfl rfl rfl rfl (by kernel_rfl) Try.func4 (by kernel_rfl)
    (of_decide_eq_true (by kernel_rfl)) (by unfold Func.isWrapper; first | (rw [if_pos (by decide +kernel)]; kernel_rfl) | (rw [if_neg (by decide +kernel)]; exact ⟨rfl, rfl⟩))
    (fun os started H enc _ => heapCalls_lifted os started H enc)
#print axioms heapCalls_holds

end Go.Proofs.Ytnlcckajldkchaa
