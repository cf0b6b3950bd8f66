/- HeapSorts returns true for every input, and its argument reads afterwards as before. No condition. -/
import Derived.Test.YtnlcckajldkchaaSrt
import Derived.Test.YtnlcckajldkchaaStay
import Derived.ChangeSlices
namespace Go.Proofs.Ytnlcckajldkchaa
open Go.ChangeShapes Go.WideShapes Go.ChangeAt Go.RowKit

/-- the cells of the argument -/
def Keys (w : World) (a : Option Addr) (zs : List Int) : Prop := 0 < zs.length → ∃ b off, a = some ⟨b, off, none⟩ ∧ b < w.heap.size ∧ ∀ i, i < zs.length → w.cell? ⟨b, off + i, none⟩ = some (.int .i64 (zs.getD i 0))

set_option maxHeartbeats 400000 in
theorem heapSorts_long (a : Option Addr) (len cap : Nat) (h : 300 < len) (w : World) : Calls Try.prog 3 #[.slice a len cap] w fun e w' => e = .returned (.bool true) ∧ Below w.heap.size w w' := by
  go_enter Try.func3, Try.ntmps3
  go_wp2_with fail
  refine (awake_rep w).mono ?_
  rintro e w1 ⟨rfl, bel⟩
  go_wp2_with fail
  go_ret
  exact ⟨rfl, bel⟩

/-- what holds at the head of the first loop -/
def FillRel (zs : List Int) (w : World) (base hb pb kb : Nat) (k : Nat) (wr : World) : Prop := k ≤ zs.length ∧ HT base hb pb kb wr (filled zs k) ∧ Below w.heap.size w wr

/-- and of the second -/
def PopRel (zs : List Int) (w : World) (base hb pb kb : Nat) (n : Nat) (last least : Int) (wr : World) : Prop := n ≤ zs.length ∧ ∃ t, HT base hb pb kb wr t ∧ Rest zs t n last least ∧ Below w.heap.size w wr

set_option maxHeartbeats 2000000 in
theorem heapSorts_short (a : Option Addr) (cap : Nat) (zs : List Int) (h : zs.length ≤ 300) (w : World) (hc : Keys w a zs) :
    Calls Try.prog 3 #[.slice a zs.length cap] w fun e w' => e = .returned (.bool true) ∧ Below w.heap.size w w' := by
  have HC := Lib.hid hc
  clear hc
  go_enter Try.func3, Try.ntmps3
  go_wp2_with fail
  refine (new_rep (zs.length : Nat) w).mono ?_
  rintro e w1 ⟨hb, pb, kb, rfl, g1, g2, g3, r, bel⟩
  rw [show clampN (zs.length : Nat) = zs.length from by unfold clampN; omega] at r
  have H1 : HT w1.heap.size hb pb kb w1 (filled zs 0) := by rw [filled_zero]; exact HT.first r fun _ _ => rfl
  have sz := bel.size
  generalize w1.heap.size = base at H1 sz
  clear r
  go_wp2_with fail
  go_loopw [26] (fun t wr => ∃ k : Nat, t = .int .i64 k ∧ FillRel zs w base hb pb kb k wr) (fun t _ => zs.length - (intOf t).toNat)
  case atStart => exact ⟨0, rfl, Nat.zero_le _, H1, bel⟩
  case round =>
    clear H1 bel
    obtain ⟨k, rfl, hk, H2, bel⟩ := hrel
    by_cases c : k < zs.length
    · obtain ⟨b, off, rfl, hb0, hc⟩ := HC.out (by omega)
      have cell : wr.cell? ⟨b, off + k, none⟩ = some (.int .i64 (zs.getD k 0)) := (World.cell?_of_block (bel.block b hb0)).trans (hc k c)
      clear hc
      have FS := Lib.hid (filled_succ zs k c)
      have FT := Lib.hid (filled_tin zs k c)
      generalize zs.getD k 0 = z at cell FS
      go_wp2_with fail
      refine (hset H2 _ _).mono ?_
      rintro e w2 ⟨rfl, H3, f3⟩
      rw [FT.out, if_pos rfl, Int.toNat_natCast, FS.out] at H3
      rw [FT.out]
      have REL : FillRel zs w base hb pb kb (k + 1) w2 := ⟨c, H3, bel.trans (f3.below w.heap.size sz g1 g2 g3)⟩
      clear H3 f3 H2 bel
      go_wp2_with fail
      go_roundw
      case rel => exact ⟨k + 1, by go_num, REL⟩
      case measure => simp [intOf]; omega
    · obtain rfl : k = zs.length := by omega
      have R0 : PopRel zs w base hb pb kb zs.length (-1) 0 wr := ⟨Nat.le_refl _, _, H2, rest_start zs, bel⟩
      clear H2 bel
      go_wp2_with fail
      go_loopw [6, 7, 8] (fun a b c wr => ∃ (n : Nat) (last least : Int), a = .int .i64 last ∧ b = .int .i64 least ∧ c = .int .i64 n ∧ PopRel zs w base hb pb kb n last least wr) (fun _ _ c _ => (intOf c).toNat)
      case atStart => exact ⟨zs.length, -1, 0, rfl, rfl, rfl, R0⟩
      case round =>
        clear R0
        obtain ⟨n, last, least, rfl, rfl, rfl, hn, t, H2, R, bel⟩ := hrel
        by_cases c : 0 < n
        · obtain ⟨i, k, S⟩ := R.step c
          have TM : Hid (trip (tmin t) = .tuple #[.int .i64 i, .int .i64 k, .bool true]) := Lib.hid (by rw [S.tm]; rfl)
          have TL := Lib.hid S.len
          have hi := S.hi
          have RN := Lib.hid S.next
          have KY := Lib.hid S.key
          have OK := S.ok
          have lo := R.lo
          have up := R.hi
          clear S R
          obtain ⟨b, off, rfl, hb0, hc0⟩ := HC.out (by omega)
          have HC0 := Lib.hid hc0
          clear hc0
          obtain ⟨m, rfl⟩ : ∃ m, n = m + 1 := ⟨n - 1, by omega⟩
          by_cases q : last < 0
          · clear OK
            go_wp2_with fail
            refine (hpop H2).mono ?_
            rintro e w2 ⟨rfl, H3, f3⟩
            rw [TM.out]
            replace bel := bel.trans (f3.below w.heap.size sz g1 g2 g3)
            have cell : w2.cell? ⟨b, off + i, none⟩ = some (.int .i64 k) := by rw [← KY.out]; exact (World.cell?_of_block (bel.block b hb0)).trans (HC0.out i hi)
            clear f3 H2
            go_wp2_with fail
            refine (hlen H3).mono ?_
            rintro e w' ⟨rfl, rfl⟩
            rw [TL.out]
            have REL : PopRel zs w base hb pb kb m i k w2 := ⟨by omega, _, H3, RN.out, bel⟩
            clear H3 bel
            go_wp2_with fail
            exact ⟨⟨m, i, k, rfl, rfl, rfl, REL⟩, by simp [intOf]⟩
          · have q0 : 0 ≤ last := by omega
            by_cases q1 : least < k
            · have q2 : decide (k < least) = false := by simp; omega
              have q3 : (k == least) = false := by simp; omega
              clear OK q
              go_wp2_with fail
              refine (hpop H2).mono ?_
              rintro e w2 ⟨rfl, H3, f3⟩
              rw [TM.out]
              replace bel := bel.trans (f3.below w.heap.size sz g1 g2 g3)
              have cell : w2.cell? ⟨b, off + i, none⟩ = some (.int .i64 k) := by rw [← KY.out]; exact (World.cell?_of_block (bel.block b hb0)).trans (HC0.out i hi)
              clear f3 H2
              go_wp2_with fail
              refine (hlen H3).mono ?_
              rintro e w' ⟨rfl, rfl⟩
              rw [TL.out]
              have REL : PopRel zs w base hb pb kb m i k w2 := ⟨by omega, _, H3, RN.out, bel⟩
              clear H3 bel
              go_wp2_with fail
              exact ⟨⟨m, i, k, rfl, rfl, rfl, REL⟩, by simp [intOf]⟩
            · obtain rfl : k = least := by omega
              have q2 : last < i := by omega
              have q3 : decide ((i : Int) ≤ last) = false := by simp; omega
              clear OK q q1
              go_wp2_with fail
              refine (hpop H2).mono ?_
              rintro e w2 ⟨rfl, H3, f3⟩
              rw [TM.out]
              replace bel := bel.trans (f3.below w.heap.size sz g1 g2 g3)
              have cell : w2.cell? ⟨b, off + i, none⟩ = some (.int .i64 k) := by rw [← KY.out]; exact (World.cell?_of_block (bel.block b hb0)).trans (HC0.out i hi)
              clear f3 H2
              go_wp2_with fail
              refine (hlen H3).mono ?_
              rintro e w' ⟨rfl, rfl⟩
              rw [TL.out]
              have REL : PopRel zs w base hb pb kb m i k w2 := ⟨by omega, _, H3, RN.out, bel⟩
              clear H3 bel
              go_wp2_with fail
              exact ⟨⟨m, i, k, rfl, rfl, rfl, REL⟩, by simp [intOf]⟩
        · obtain rfl : n = 0 := by omega
          obtain ⟨x, y, tb, TM0⟩ : ∃ x y tb, tmin t = (x, y, tb) := ⟨_, _, _, rfl⟩
          have no := R.none
          rw [TM0] at no
          have no : tb = false := no
          subst no
          have TM : Hid (trip (tmin t) = .tuple #[.int .i64 x, .int .i64 y, .bool false]) := Lib.hid (by rw [TM0]; rfl)
          clear TM0 R
          go_wp2_with fail
          refine (hpop H2).mono ?_
          rintro e w2 ⟨rfl, H3, f3⟩
          rw [TM.out]
          replace bel := bel.trans (f3.below w.heap.size sz g1 g2 g3)
          clear f3 H2 H3
          go_wp2_with fail
          refine (awake_rep w2).mono ?_
          rintro e w3 ⟨rfl, b3⟩
          replace bel := bel.trans (b3.mono (by have := bel.size; omega))
          clear b3
          go_wp2_with fail
          go_ret
          exact ⟨rfl, bel⟩

theorem heapSorts_walk (a : Option Addr) (cap : Nat) (zs : List Int) (w : World) (hc : Keys w a zs) :
    Calls Try.prog 3 #[.slice a zs.length cap] w fun e w' => e = .returned (.bool true) ∧ Below w.heap.size w w' := by
  by_cases h : zs.length ≤ 300
  · exact heapSorts_short a cap zs h w hc
  · exact heapSorts_long a zs.length cap (by omega) w

theorem own3 : ownKnob Try.prog.godebug = none := by kernel_rfl
theorem cells3 : Try.prog.cellsOf 3 = 1 := by kernel_rfl

set_option maxRecDepth 100000 in
theorem heapSorts_lifted (os : Os) (started : os.Started) (H : Type) (enc : TypeId × Value → H) :
    ReturnsInHanded {} Try.checked os 3 .any (Rows.heapSortsSpec.pre6 enc Try.prog Try.f3 Rows.heapSortsRow.domain false) (Rows.heapSortsSpec.post enc Try.prog Try.f3 false true false false) := by
  refine returnsInHanded_of_change (C := Try.checked) own3 started (by kernel_rfl) Try.func3
    (ChangeSpec.witness6 (enc := enc) (C := Try.checked) false ⟨#[], #[.slice none 0 0], []⟩ 8 (by kernel_rfl) (by kernel_rfl) (by kernel_rfl) (by kernel_rfl)) ?_
  intro W base args ds gs before hval0 hW hcnd _
  have hval : ∀ (j : Nat) t v, Try.f3.params[j]? = some t → args[j]? = some v → Value.okWide Try.prog W .any base t v := hval0
  have hW' := hW
  have hlt := fun p hp => hW.lt p hp
  obtain ⟨p, q, hA0, hV, rfl, hfz, hnd⟩ := hW
  have hA : DataW.TrodAll enc Try.prog W 0 (fun _ => true) true Try.f3.params.toList args.toList ds p := hA0
  rw [Try.params3] at hA hval
  obtain ⟨v0, vs0, d0, ds0, p0, q0, hargs, rfl, rfl, h0, r0⟩ := trodAll_cons hA
  obtain ⟨rfl, rfl, rfl⟩ := trodAll_nil r0
  obtain rfl : args = #[v0] := by cases args; simp_all
  obtain ⟨rfl, rfl⟩ := trodVars_none hV
  obtain ⟨a0, len, cap, rfl⟩ := okWide_slice Try.underlying22 (hval 0 22 v0 rfl rfl)
  obtain ⟨fuel, hf⟩ := h0
  simp only [List.append_nil] at hW' hlt
  have KEY : ∃ zs : List Int, len = zs.length ∧ Keys W a0 zs := by
    rcases open_ints Try.underlying22 Try.underlying3 cells3 hf with ⟨hcs, hx⟩ | ⟨a, len', cap', zs, hcs, _, hl, hm, hz, hx, hcell, hwz⟩
    · simp [Value.cells] at hcs
      exact ⟨[], hcs.2.1, fun h => by simp at h⟩
    · simp [Value.cells] at hcs
      obtain ⟨rfl, rfl, rfl⟩ := hcs
      have hz' : zs.length = cap := hz
      refine ⟨zs.take len, by simp; omega, fun hpos => ?_⟩
      have hpos : 0 < len := by simp at hpos; omega
      obtain ⟨b, off, spot⟩ := a
      have hspot : spot = none := by simpa [Addr.add] using World.cell?_spot (hcell 0 (by omega))
      subst hspot
      refine ⟨b, off, rfl, ?_, fun i hi => ?_⟩
      · have c0 := hcell 0 (by omega)
        rcases Nat.lt_or_ge b W.heap.size with h' | h'
        · exact h'
        · simp [World.cell?, Addr.add, Array.getElem?_eq_none h'] at c0
      · have hi' : i < len := by simp at hi; omega
        have := hcell i (by omega)
        rw [add_plain] at this
        rw [this]; simp [List.getD_eq_getElem?_getD, hi']
  obtain ⟨zs, rfl, hk⟩ := KEY
  refine (heapSorts_walk a0 cap zs W hk).mono fun e W' ⟨he, hb⟩ => ?_
  subst he
  exact ⟨_, rfl, post_true (by kernel_rfl) rfl (by kernel_rfl) rfl Try.underlying4 ⟨rfl, rfl, rfl⟩ hW' hb⟩

theorem heapSorts_holds : Rows.HeapSortsSaid :=
  OpenClaim.holds_of_wide 3 Try.f3 rfl rfl rfl rfl rfl rfl rfl ⟨rfl, rfl, rfl, rfl, rfl⟩ rfl rfl rfl rfl rfl (by kernel_rfl) Try.func3 (by kernel_rfl)
    (of_decide_eq_true (by kernel_rfl)) (by unfold Func.isWrapper; first | (rw [if_pos (by decide +kernel)]; kernel_rfl) | (rw [if_neg (by decide +kernel)]; exact ⟨rfl, rfl⟩))
    (fun os started H enc _ => heapSorts_lifted os started H enc)
#print axioms heapSorts_holds

end Go.Proofs.Ytnlcckajldkchaa
