/-
  routingref32.Merge of hops.
-/
/-
  routingref32.Best.
-/
import Derived.Test.YtogdconliofblaaGreatAdd
import Derived.Test.YtogdconliofblaaGreatOf3
namespace Go.Proofs.YtogdconliofblaaGreat
open Go.RowKit

theorem Ls.adds_len {α : Type} [DecidableEq α] {lt : α → α → Bool} (m : List α) : ∀ l : List α, (Ls.adds lt l m).length ≤ l.length + m.length := by
  have h1 : ∀ (l : List α) (h : α), (Ls.add lt l h).length ≤ l.length + 1 := by
    intro l h
    induction l with
    | nil => simp [Ls.add]
    | cons y l ih =>
      unfold Ls.add
      split
      · simp
      · split
        · simp
        · simp only [List.length_cons]; omega
  unfold Ls.adds
  induction m with
  | nil => intro l; simp
  | cons y m ih => intro l; rw [List.foldl_cons]; have := ih (Ls.add lt l y); have := h1 l y; simp; omega

theorem hop_room {q a b : Nat} (h : q ≤ a + b) (hn : (a + b + 2) * 16 ≤ 140737488355328) : (q + 2) * 16 ≤ 140737488355328 :=
  Nat.le_trans (Nat.mul_le_mul_right 16 (by clear hn; omega)) hn

set_option maxHeartbeats 1000000 in
set_option maxRecDepth 100000 in
theorem rmerge_calls (w : World) (va vb : Value) (la lb : List Ls.Hop) (ha : HopsAt w va la) (hb : HopsAt w vb lb) (hn : (la.length + lb.length + 2) * 16 ≤ 140737488355328) : Calls Tryz.prog 62 #[va, vb] w (MrgPost w (Ls.merge Ls.hopLt la lb)) := by
  obtain ⟨a1, c1, rfl, -, hm1, -, hc1⟩ := ha.get
  obtain ⟨a2, c2, rfl, -, hm2, -, hc2⟩ := hb.get
  have hl1 : la.length ≤ 9223372036854775807 := by omega
  have hl2 : lb.length ≤ 9223372036854775807 := by omega
  have HCA := Lib.hid hc1
  have HCB := Lib.hid hc2
  have HN := Lib.hid hn
  have O0 : Hid (HopsOwn w.heap.size (w.alloc (.cells #[] 60)) (.slice (some ⟨w.heap.size, 0, none⟩) 0 0) []) := Lib.hid (by
    have := World.ownsRow_made (size := 3) (e := 60) (base := w.heap.size) w #[] 0 (by simp) (by unfold maxLen; omega) rfl
    simpa [HopsOwn] using this)
  have B0 : Hid (Below w.heap.size w (w.alloc (.cells #[] 60))) := Lib.hid ((Below.refl _ _).alloc (Nat.le_refl _) _)
  clear ha hb hm1 hm2 hc1 hc2 hn
  go_enter Tryz.func62, Tryz.ntmps62
  go_wp2_with fail
  go_loopw [5, 6] (fun o i wr => ∃ k : Nat, i = .int .i64 k ∧ k ≤ la.length ∧ Hid (HopsOwn w.heap.size wr o (Ls.adds Ls.hopLt [] (la.take k)) ∧ Below w.heap.size w wr)) (fun _ i _ => la.length - (intOf i).toNat)
  case atStart => exact ⟨0, rfl, Nat.zero_le _, Lib.hid ⟨O0.out, B0.out⟩⟩
  case round =>
    obtain ⟨k, rfl, hk, R⟩ := hrel
    by_cases c : k < la.length
    · obtain ⟨b, off, rfl, hb0, hcc⟩ := HCA.out (by omega)
      obtain ⟨d0, d1, d2⟩ := hcc k c
      have d0 := bcell R.out.2 d0
      have d1 := bcell R.out.2 d1
      have d2 := bcell R.out.2 d2
      have TK : Hid (Ls.adds Ls.hopLt [] (la.take (k + 1)) = Ls.add Ls.hopLt (Ls.adds Ls.hopLt [] (la.take k)) la[k]) := Lib.hid (by
        rw [List.take_succ_eq_append_getElem c]; unfold Ls.adds; rw [List.foldl_append]; rfl)
      have HL : Hid ((Ls.adds Ls.hopLt [] (la.take k)).length ≤ la.length + lb.length) := Lib.hid (by
        have h1 := Ls.adds_len (lt := Ls.hopLt) (la.take k) []
        simp only [List.length_nil] at h1
        rw [List.length_take] at h1; omega)
      have HLB : ((Ls.adds Ls.hopLt [] (la.take k)).length + 2) * 16 ≤ 140737488355328 := hop_room HL.out HN.out
      have AC := Lib.hid (add_calls wr u5 (Ls.adds Ls.hopLt [] (la.take k)) la[k] R.out.1.at HLB)
      simp only [hopE] at AC
      have hp : Hid (w.heap.size ≤ wr.heap.size) := Lib.hid R.out.2.size
      have RB := Lib.hid R.out.2
      clear hcc R HL HLB
      generalize la[k] = x at *
      go_wp2_with fail
      refine AC.out.mono ?_
      rintro e w2 ⟨v2, rfl, O2, B2⟩
      have NX : Hid (HopsOwn w.heap.size w2 v2 (Ls.adds Ls.hopLt [] (la.take (k + 1))) ∧ Below w.heap.size w w2) := Lib.hid ⟨by rw [TK.out]; exact hown_base O2 hp.out, RB.out.trans (B2.mono hp.out)⟩
      clear O2 B2 AC d0 d1 d2 TK
      go_wp2_with fail
      go_roundw
      case rel => exact ⟨k + 1, by go_num, c, NX⟩
      case measure => simp [intOf]; omega
    · have RE : Hid (HopsOwn w.heap.size wr u5 (Ls.adds Ls.hopLt [] la) ∧ Below w.heap.size w wr) := Lib.hid (by
        have := R.out; rwa [List.take_of_length_le (by omega)] at this)
      clear R
      go_wp2_with fail
      clear hk c
      go_loopw [5, 7] (fun o i wr => ∃ k : Nat, i = .int .i64 k ∧ k ≤ lb.length ∧ Hid (HopsOwn w.heap.size wr o (Ls.adds Ls.hopLt (Ls.adds Ls.hopLt [] la) (lb.take k)) ∧ Below w.heap.size w wr)) (fun _ i _ => lb.length - (intOf i).toNat)
      case atStart => exact ⟨0, rfl, Nat.zero_le _, by simpa [Ls.adds] using RE⟩
      case round =>
        obtain ⟨k, rfl, hk, R⟩ := hrel
        by_cases c : k < lb.length
        · obtain ⟨b, off, rfl, hb0, hcc⟩ := HCB.out (by omega)
          obtain ⟨d0, d1, d2⟩ := hcc k c
          have d0 := bcell R.out.2 d0
          have d1 := bcell R.out.2 d1
          have d2 := bcell R.out.2 d2
          have TK : Hid (Ls.adds Ls.hopLt (Ls.adds Ls.hopLt [] la) (lb.take (k + 1)) = Ls.add Ls.hopLt (Ls.adds Ls.hopLt (Ls.adds Ls.hopLt [] la) (lb.take k)) lb[k]) := Lib.hid (by
            rw [List.take_succ_eq_append_getElem c]; unfold Ls.adds; rw [List.foldl_append]; rfl)
          have HL : Hid ((Ls.adds Ls.hopLt (Ls.adds Ls.hopLt [] la) (lb.take k)).length ≤ la.length + lb.length) := Lib.hid (by
            have h1 := Ls.adds_len (lt := Ls.hopLt) (lb.take k) (Ls.adds Ls.hopLt [] la)
            have h2 := Ls.adds_len (lt := Ls.hopLt) la []
            simp only [List.length_nil] at h2
            rw [List.length_take] at h1; omega)
          have HLB : ((Ls.adds Ls.hopLt (Ls.adds Ls.hopLt [] la) (lb.take k)).length + 2) * 16 ≤ 140737488355328 := hop_room HL.out HN.out
          have AC := Lib.hid (add_calls wr u5 (Ls.adds Ls.hopLt (Ls.adds Ls.hopLt [] la) (lb.take k)) lb[k] R.out.1.at HLB)
          simp only [hopE] at AC
          have hp : Hid (w.heap.size ≤ wr.heap.size) := Lib.hid R.out.2.size
          have RB := Lib.hid R.out.2
          clear hcc R HL HLB
          generalize lb[k] = x at *
          go_wp2_with fail
          refine AC.out.mono ?_
          rintro e w2 ⟨v2, rfl, O2, B2⟩
          have NX : Hid (HopsOwn w.heap.size w2 v2 (Ls.adds Ls.hopLt (Ls.adds Ls.hopLt [] la) (lb.take (k + 1))) ∧ Below w.heap.size w w2) := Lib.hid ⟨by rw [TK.out]; exact hown_base O2 hp.out, RB.out.trans (B2.mono hp.out)⟩
          clear O2 B2 AC d0 d1 d2 TK
          go_wp2_with fail
          go_roundw
          case rel => exact ⟨k + 1, by go_num, c, NX⟩
          case measure => simp [intOf]; omega
        · have RE : Hid (HopsOwn w.heap.size wr u5 (Ls.adds Ls.hopLt (Ls.adds Ls.hopLt [] la) lb) ∧ Below w.heap.size w wr) := Lib.hid (by
            have := R.out; rwa [List.take_of_length_le (by omega)] at this)
          clear R
          have FIN : Hid (MrgPost w (Ls.merge Ls.hopLt la lb) (.returned u5) wr) := Lib.hid ⟨u5, rfl, RE.out.1, RE.out.2⟩
          go_wp2_with fail
          go_ret
          exact FIN.out

end Go.Proofs.YtogdconliofblaaGreat

namespace Go.Proofs.YtogdconliofblaaGreat
open Go.RowKit

theorem nePfx (x y : Ls.Pfx) (w : World) : (binOp .neq 55 (.agg #[.int .u32 x.addr, .int .i64 x.len]) (.agg #[.int .u32 y.addr, .int .i64 y.len])).run Tryz.prog w = .ok (.bool (!decide (x = y))) w := by
  have h := eqPfx x y w
  generalize decide (x = y) = b at *
  simp only [binOp] at h ⊢
  revert h
  simp only [Sem.run_bind, Sem.run_pure]
  cases (Op.equal 55 (.agg #[.int .u32 x.addr, .int .i64 x.len]) (.agg #[.int .u32 y.addr, .int .i64 y.len])).run Tryz.prog w <;> simp <;> (intros; subst_vars; first | done | rfl | trivial)

def bsO (p : Ls.Pfx) (s : Option Of) (o : OfP) : Option Of :=
  if o.pfx = p ∧ o.cost ≤ 16777216 then (match s with
    | none => some ⟨o.cost, Ls.merge Ls.hopLt [] o.hops⟩
    | some z => if o.cost < z.cost then some ⟨o.cost, Ls.merge Ls.hopLt [] o.hops⟩ else if o.cost = z.cost then some ⟨z.cost, Ls.merge Ls.hopLt z.hops o.hops⟩ else some z) else s
def bsK (l : List OfP) (p : Ls.Pfx) (k : Nat) : Option Of := (l.take k).foldl (bsO p) none
theorem bsK_succ (l : List OfP) (p : Ls.Pfx) {k : Nat} (c : k < l.length) : bsK l p (k + 1) = bsO p (bsK l p k) l[k] := by
  unfold bsK; rw [take_fold _ _ _ _ c]
def bsC : Option Of → Int
  | none => -1
  | some z => z.cost
def bsH : Option Of → List Ls.Hop
  | none => []
  | some z => z.hops
theorem bsO_off {p : Ls.Pfx} {s : Option Of} {o : OfP} (h : ¬ (o.pfx = p ∧ o.cost ≤ 16777216)) : bsO p s o = s := if_neg h
theorem bsO_none {p : Ls.Pfx} {o : OfP} (h : o.pfx = p ∧ o.cost ≤ 16777216) : bsO p none o = some ⟨o.cost, Ls.merge Ls.hopLt [] o.hops⟩ := if_pos h
theorem bsO_lt {p : Ls.Pfx} {z : Of} {o : OfP} (h : o.pfx = p ∧ o.cost ≤ 16777216) (c : o.cost < z.cost) : bsO p (some z) o = some ⟨o.cost, Ls.merge Ls.hopLt [] o.hops⟩ := (if_pos h).trans (if_pos c)
theorem bsO_eq {p : Ls.Pfx} {z : Of} {o : OfP} (h : o.pfx = p ∧ o.cost ≤ 16777216) (c : o.cost = z.cost) : bsO p (some z) o = some ⟨z.cost, Ls.merge Ls.hopLt z.hops o.hops⟩ := (if_pos h).trans ((if_neg (by omega)).trans (if_pos c))
theorem bsO_gt {p : Ls.Pfx} {z : Of} {o : OfP} (h : o.pfx = p ∧ o.cost ≤ 16777216) (c : z.cost < o.cost) : bsO p (some z) o = some z := (if_pos h).trans ((if_neg (by omega)).trans (if_neg (by omega)))

theorem bsK_inv {l : List OfP} (p : Ls.Pfx) {M : Nat} (hc : ∀ o ∈ l, 0 ≤ o.cost) (hM : ∀ o ∈ l, o.hops.length ≤ M) : ∀ k, k ≤ l.length → ∀ z, bsK l p k = some z → 0 ≤ z.cost ∧ z.hops.length ≤ k * M
  | 0, _, z, h => by cases h
  | k + 1, hk, z, h => by
    have c : k < l.length := by omega
    have ih := bsK_inv p hc hM k (by omega)
    rw [bsK_succ l p c] at h
    have h0 := hc _ (List.getElem_mem c)
    have hm := hM _ (List.getElem_mem c)
    have hl1 := Ls.merge_length_le (lt := Ls.hopLt) [] l[k].hops
    rw [Nat.succ_mul]
    by_cases q : l[k].pfx = p ∧ l[k].cost ≤ 16777216
    · cases e : bsK l p k with
      | none =>
        rw [e, bsO_none q] at h
        cases h
        simp only [List.length_nil, Nat.zero_add] at hl1
        exact ⟨h0, by simp only; omega⟩
      | some y =>
        rw [e] at h
        obtain ⟨i1, i2⟩ := ih y e
        have hl2 := Ls.merge_length_le (lt := Ls.hopLt) y.hops l[k].hops
        rcases Int.lt_trichotomy l[k].cost y.cost with d | d | d
        · rw [bsO_lt q d] at h
          cases h
          simp only [List.length_nil, Nat.zero_add] at hl1
          exact ⟨h0, by simp only; omega⟩
        · rw [bsO_eq q d] at h
          cases h
          exact ⟨i1, by simp only; omega⟩
        · rw [bsO_gt q d] at h
          cases h
          exact ⟨i1, by omega⟩
    · rw [bsO_off q] at h
      obtain ⟨i1, i2⟩ := ih z h
      exact ⟨i1, by omega⟩

def BsPost (w : World) (s : Option Of) (e : Ending) (w' : World) : Prop := ∃ v, e = .returned (.tuple #[.int .i64 (bsC s), v]) ∧ HopsAt w' v (bsH s) ∧ Below w.heap.size w w' ∧ ∀ b, v.ownBlock = some b → w.heap.size ≤ b ∧ b < w'.heap.size

set_option maxHeartbeats 8000000 in
set_option maxRecDepth 100000 in
theorem best32_calls (w : World) (v : Value) (l : List OfP) (h : OfrAt w v l) (p : Ls.Pfx) (n1 : l.length ≤ 200) (hc : ∀ o ∈ l, 0 ≤ o.cost) (hM : ∀ o ∈ l, o.hops.length ≤ 1048576) :
    Calls Tryz.prog 64 #[v, .agg #[.int .u32 p.addr, .int .i64 p.len]] w (BsPost w (bsK l p l.length)) := by
  obtain ⟨ad, cap, e0, hcap, hmax, hn0, hcc0⟩ := h.sl
  simp only [List.length_map] at e0 hcap hcc0
  have hlen : l.length ≤ 9223372036854775807 := by omega
  subst e0
  have HCC : Hid (0 < l.length → ∃ b off, ad = some ⟨b, off, none⟩ ∧ b < w.heap.size ∧ ∀ i (hi : i < l.length), w.cell? ⟨b, off + i * 4, none⟩ = some (.int .u32 l[i].pfx.addr) ∧ w.cell? ⟨b, off + i * 4 + 1, none⟩ = some (.int .i64 l[i].pfx.len) ∧ w.cell? ⟨b, off + i * 4 + 2, none⟩ = some (.int .i64 l[i].cost) ∧ w.cell? ⟨b, off + i * 4 + 3, none⟩ = some (.slice l[i].ha l[i].hn l[i].hc)) := Lib.hid (fun hp => by
    obtain ⟨b, off, e, h4, h5⟩ := hcc0 hp
    refine ⟨b, off, e, h4, fun i hi => ?_⟩
    have := h5 i (by simpa using hi)
    simp only [List.getElem_map, ofrE] at this
    exact ⟨this 0 _ rfl, this 1 _ rfl, this 2 _ rfl, this 3 _ rfl⟩)
  have HHO := Lib.hid h.hops
  have N1 := Lib.hid n1
  have INV := Lib.hid (fun k (hk : k ≤ l.length) => bsK_inv p hc hM k hk)
  have HC0 := Lib.hid hc
  have HMM := Lib.hid hM
  clear h hcc0 n1 hc hM hcap hmax hn0
  obtain ⟨pa, pl⟩ := p
  simp only
  obtain ⟨WA, hWA⟩ : ∃ WA, w.alloc (.cells #[.int .u32 pa, .int .i64 pl] 55) = WA := ⟨_, rfl⟩
  have BA : Below w.heap.size w WA := by rw [← hWA]; exact (Below.refl _ _).alloc (Nat.le_refl _) _
  have bA : WA.heap[w.heap.size]? = some (.cells #[.int .u32 pa, .int .i64 pl] 55 (0, 0)) := by rw [← hWA]; exact alloc_new w _
  obtain ⟨W2, hW2⟩ : ∃ W2, WA.alloc (.cells #[] 60) = W2 := ⟨_, rfl⟩
  have B2 : Below WA.heap.size WA W2 := by rw [← hW2]; exact (Below.refl _ _).alloc (Nat.le_refl _) _
  have H0 : Hid (HopsAt W2 (.slice (some ⟨WA.heap.size, 0, none⟩) 0 0) []) := Lib.hid ⟨_, 0, rfl, Nat.le_refl _, (by unfold maxLen; omega), (fun h => by cases h), fun h => by cases h⟩
  have HB2 := Lib.hid (BA.trans (B2.mono BA.size))
  have HX2 := Lib.hid ((B2.block _ (blk_lt bA)).trans bA)
  have FR0 : Hid (∀ b, (Value.slice (some ⟨WA.heap.size, 0, none⟩) 0 0).ownBlock = some b → w.heap.size ≤ b ∧ b < W2.heap.size) := Lib.hid (fun b hb => by
    have hb : WA.heap.size = b := by simpa [Value.ownBlock] using hb
    have h1 : W2.heap.size = WA.heap.size + 1 := by rw [← hW2]; simp
    have h2 := BA.size
    omega)
  have HWA := Lib.hid hWA
  have HW2 := Lib.hid hW2
  have R0 : Hid (Below W2.heap.size W2 W2) := Lib.hid (Below.refl _ _)
  clear hWA BA bA hW2 B2
  go_enter Tryz.func64, Tryz.ntmps64
  go_upto_region 1 with fail
  rw [HWA.out]
  go_upto_region 3 with fail
  rw [HW2.out]
  clear HWA HW2
  go_wp2_with fail
  go_loopw [6, 7, 8] (fun cv hv iv wr => ∃ k : Nat, iv = .int .i64 k ∧ cv = .int .i64 (bsC (bsK l ⟨pa, pl⟩ k)) ∧ Hid (HopsAt wr hv (bsH (bsK l ⟨pa, pl⟩ k))) ∧ k ≤ l.length ∧ Hid (Below W2.heap.size W2 wr) ∧ Hid (∀ b, hv.ownBlock = some b → w.heap.size ≤ b ∧ b < wr.heap.size)) (fun _ _ i _ => l.length - (intOf i).toNat)
  case atStart => exact ⟨0, rfl, rfl, H0, Nat.zero_le _, R0, FR0⟩
  case round =>
    clear H0 R0 FR0
    obtain ⟨k, rfl, rfl, HO, hk, GG, FR⟩ := hrel
    obtain ⟨vH, hvH⟩ : ∃ z, z = u7 := ⟨_, rfl⟩
    subst hvH
    by_cases c : k < l.length
    · obtain ⟨b, off, rfl, hb0, hcc⟩ := HCC.out (by omega)
      have BW := HB2.out.trans (GG.out.mono HB2.out.size)
      obtain ⟨d0, d1, d2, d3⟩ := hcc k c
      have up : ∀ {o : Nat} {u : Value}, w.cell? ⟨b, o, none⟩ = some u → wr.cell? ⟨b, o, none⟩ = some u := fun {o u} hh => (World.cell?_of_block (w := w) (w' := wr) (a := ⟨b, o, none⟩) (BW.block b hb0)).trans hh
      have d0 := up d0
      have d1 := up d1
      have d2 := up d2
      have d3 := up d3
      have ST : Hid (bsK l ⟨pa, pl⟩ (k + 1) = bsO ⟨pa, pl⟩ (bsK l ⟨pa, pl⟩ k) l[k]) := Lib.hid (bsK_succ l _ c)
      have hXX := HHO.out _ (List.getElem_mem c)
      have HXL : Hid (l[k].hops.length ≤ 1048576) := Lib.hid (HMM.out _ (List.getElem_mem c))
      have hin := INV.out k hk
      have hk2 : k * 1048576 ≤ 200 * 1048576 := Nat.mul_le_mul_right _ (by have := N1.out; omega)
      have IZ : Hid (∀ z, bsK l ⟨pa, pl⟩ k = some z → 0 ≤ z.cost ∧ z.hops.length ≤ 200 * 1048576) := Lib.hid (fun z hz => ⟨(hin z hz).1, Nat.le_trans (hin z hz).2 hk2⟩)
      obtain ⟨W3, hW3⟩ : ∃ W3, wr.alloc (.cells (ofrE l[k]).toArray 113) = W3 := ⟨_, rfl⟩
      have B3 : Below wr.heap.size wr W3 := by rw [← hW3]; exact (Below.refl _ _).alloc (Nat.le_refl _) _
      have b3 : W3.heap[wr.heap.size]? = some (.cells (ofrE l[k]).toArray 113 (0, 0)) := by rw [← hW3]; exact alloc_new _ _
      have HX3 := Lib.hid (hXX.below (BW.trans (B3.mono BW.size)))
      have HO3 := Lib.hid (HO.out.below B3)
      have HB3 := Lib.hid (GG.out.trans (B3.mono GG.out.size))
      have FR3 : Hid (∀ b, vH.ownBlock = some b → w.heap.size ≤ b ∧ b < W3.heap.size) := Lib.hid (fun b hb => ⟨(FR.out b hb).1, Nat.lt_of_lt_of_le (FR.out b hb).2 B3.size⟩)
      have WS := Lib.hid (Nat.le_trans BW.size B3.size)
      have bx := (B3.block _ (blk_lt ((GG.out.block _ (blk_lt HX2.out)).trans HX2.out))).trans ((GG.out.block _ (blk_lt HX2.out)).trans HX2.out)
      have y0 := blk_cell (i := 0) bx rfl
      have y1 := blk_cell (i := 1) bx rfl
      have KC := Lib.hid c
      have n0 : (0 : Int) ≤ (k : Int) := by omega
      have n1 : (k : Int) < (l.length : Int) := by omega
      have n3 : ((k : Int)).toNat = k := by omega
      have HW3 := Lib.hid hW3
      have HB3' := Lib.hid b3
      clear hcc up hXX hin hk2 hW3 B3 b3 BW bx GG HO FR
      generalize l[k] = x at *
      generalize bsK l ⟨pa, pl⟩ k = s at *
      clear c
      obtain ⟨⟨xa, xl⟩, xc, xha, xhn, xhc, xh⟩ := x
      simp only [ofrE] at d0 d1 d2 d3 HW3 HB3' HX3 HXL
      go_upto_region 7 with fail
      rw [HW3.out]
      clear d0 d1 d2 d3 HW3
      have t0 := blk_cell (i := 0) HB3'.out rfl
      have t1 := blk_cell (i := 1) HB3'.out rfl
      have t2 := blk_cell (i := 2) HB3'.out rfl
      have t3 := blk_cell (i := 3) HB3'.out rfl
      have EQ := fun W => nePfx ⟨xa, xl⟩ ⟨pa, pl⟩ W
      by_cases he : (⟨xa, xl⟩ : Ls.Pfx) = ⟨pa, pl⟩
      · simp only [decide_eq_true he, Bool.not_true] at EQ
        by_cases q1 : 16777216 < xc
        · have c1 : decide (16777216 < xc) = true := decide_eq_true q1
          have EQS := Lib.hid (ST.out.trans (bsO_off (fun h => by have := h.2; simp only at this; omega)))
          clear ST he q1 IZ HX3 HXL HB3'
          go_wp2_with fail
          go_roundw
          case rel => exact ⟨k + 1, by go_num, by rw [EQS.out], by rw [EQS.out]; exact HO3, KC.out, HB3, FR3⟩
          case measure => simp [intOf]; have := KC.out; omega
        · have c1 : decide (16777216 < xc) = false := decide_eq_false q1
          have OK : Hid (((⟨⟨xa, xl⟩, xc, xha, xhn, xhc, xh⟩ : OfP).pfx = ⟨pa, pl⟩) ∧ xc ≤ 16777216) := Lib.hid ⟨he, by omega⟩
          clear he q1
          cases s with
          | none =>
            simp only [bsC, bsH] at HO3 ⊢
            have EQS := Lib.hid (ST.out.trans (bsO_none OK.out))
            have MC := Lib.hid (rmerge_calls W3 (.slice none 0 0) (.slice xha xhn xhc) [] xh (hopsNone _) HX3.out (by have := HXL.out; simp only [List.length_nil]; omega))
            clear ST OK IZ HX3 HXL HO3 HB3'
            go_wp2_with fail
            refine MC.out.mono ?_
            rintro e w5 ⟨v5, rfl, O5, B5⟩
            have HO5 := Lib.hid O5.at
            have HB5 := Lib.hid (HB3.out.trans (B5.mono HB3.out.size))
            have FR5 : Hid (∀ b, v5.ownBlock = some b → w.heap.size ≤ b ∧ b < w5.heap.size) := Lib.hid (fun b hb => ⟨Nat.le_trans WS.out (World.ownsRow.lt O5 b hb).1, (World.ownsRow.lt O5 b hb).2⟩)
            clear MC O5 B5 t0 t1 t2 t3 y0 y1
            go_wp2_with fail
            go_roundw
            case rel => exact ⟨k + 1, by go_num, by rw [EQS.out] <;> rfl, by rw [EQS.out]; exact HO5, KC.out, HB5, FR5⟩
            case measure => simp [intOf]; have := KC.out; omega
          | some z =>
            obtain ⟨hz0, hz1⟩ := IZ.out z rfl
            obtain ⟨zc, zh⟩ := z
            simp only [bsC, bsH] at HO3 hz0 hz1 ⊢
            have HZL := Lib.hid hz1
            have g0 : decide (0 ≤ zc) = true := decide_eq_true hz0
            have g1 : decide (zc < 0) = false := decide_eq_false (by omega)
            clear hz1
            rcases Int.lt_trichotomy xc zc with d | d | d
            · have c2 : decide (zc < xc) = false := decide_eq_false (by omega)
              have c3 : decide (xc < zc) = true := decide_eq_true d
              have EQS := Lib.hid (ST.out.trans (bsO_lt OK.out d))
              have MC := Lib.hid (rmerge_calls W3 (.slice none 0 0) (.slice xha xhn xhc) [] xh (hopsNone _) HX3.out (by have := HXL.out; simp only [List.length_nil]; omega))
              clear ST OK IZ HX3 HXL HO3 HB3' d HZL hz0
              go_wp2_with fail
              refine MC.out.mono ?_
              rintro e w5 ⟨v5, rfl, O5, B5⟩
              have HO5 := Lib.hid O5.at
              have HB5 := Lib.hid (HB3.out.trans (B5.mono HB3.out.size))
              have FR5 : Hid (∀ b, v5.ownBlock = some b → w.heap.size ≤ b ∧ b < w5.heap.size) := Lib.hid (fun b hb => ⟨Nat.le_trans WS.out (World.ownsRow.lt O5 b hb).1, (World.ownsRow.lt O5 b hb).2⟩)
              clear MC O5 B5 t0 t1 t2 t3 y0 y1
              go_wp2_with fail
              go_roundw
              case rel => exact ⟨k + 1, by go_num, by rw [EQS.out] <;> rfl, by rw [EQS.out]; exact HO5, KC.out, HB5, FR5⟩
              case measure => simp [intOf]; have := KC.out; omega
            · have c2 : decide (zc < xc) = false := decide_eq_false (by omega)
              have c3 : decide (xc < zc) = false := decide_eq_false (by omega)
              have EQS := Lib.hid (ST.out.trans (bsO_eq OK.out d))
              have MC := Lib.hid (rmerge_calls W3 vH (.slice xha xhn xhc) zh xh HO3.out HX3.out (by have := HXL.out; have := HZL.out; omega))
              clear ST OK IZ HX3 HXL HO3 HB3' d HZL hz0
              go_wp2_with fail
              refine MC.out.mono ?_
              rintro e w5 ⟨v5, rfl, O5, B5⟩
              have HO5 := Lib.hid O5.at
              have HB5 := Lib.hid (HB3.out.trans (B5.mono HB3.out.size))
              have FR5 : Hid (∀ b, v5.ownBlock = some b → w.heap.size ≤ b ∧ b < w5.heap.size) := Lib.hid (fun b hb => ⟨Nat.le_trans WS.out (World.ownsRow.lt O5 b hb).1, (World.ownsRow.lt O5 b hb).2⟩)
              clear MC O5 B5 t0 t1 t2 t3 y0 y1
              go_wp2_with fail
              go_roundw
              case rel => exact ⟨k + 1, by go_num, by rw [EQS.out] <;> rfl, by rw [EQS.out]; exact HO5, KC.out, HB5, FR5⟩
              case measure => simp [intOf]; have := KC.out; omega
            · have c2 : decide (zc < xc) = true := decide_eq_true d
              have EQS := Lib.hid (ST.out.trans (bsO_gt OK.out d))
              clear ST OK IZ HX3 HXL HB3' d HZL hz0
              go_wp2_with fail
              go_roundw
              case rel => exact ⟨k + 1, by go_num, by rw [EQS.out] <;> rfl, by rw [EQS.out]; exact HO3, KC.out, HB3, FR3⟩
              case measure => simp [intOf]; have := KC.out; omega
      · simp only [decide_eq_false he, Bool.not_false] at EQ
        have EQS := Lib.hid (ST.out.trans (bsO_off (fun h => he h.1)))
        clear ST he IZ HX3 HXL HB3'
        go_wp2_with fail
        go_roundw
        case rel => exact ⟨k + 1, by go_num, by rw [EQS.out], by rw [EQS.out]; exact HO3, KC.out, HB3, FR3⟩
        case measure => simp [intOf]; have := KC.out; omega
    · obtain rfl : k = l.length := by omega
      have FI : Hid (BsPost w (bsK l ⟨pa, pl⟩ l.length) (.returned (.tuple #[.int .i64 (bsC (bsK l ⟨pa, pl⟩ l.length)), vH])) wr) := Lib.hid ⟨vH, rfl, HO.out, HB2.out.trans (GG.out.mono HB2.out.size), FR.out⟩
      clear HO GG FR
      generalize bsC (bsK l ⟨pa, pl⟩ l.length) = cc at *
      go_wp2_with fail
      first | go_ret2 | go_ret
      exact FI.out

end Go.Proofs.YtogdconliofblaaGreat
