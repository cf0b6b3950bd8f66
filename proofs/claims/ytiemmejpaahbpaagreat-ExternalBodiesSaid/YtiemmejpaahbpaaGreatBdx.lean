/-
  external.Bodies: the advertisements of announcements.
-/
import Derived.Test.YtiemmejpaahbpaaGreatBdp
import Derived.Test.YtiemmejpaahbpaaGreatAn2
import Derived.Test.YtiemmejpaahbpaaGreatIns
import Derived.RangeFuncBox
namespace Go.Proofs.YtiemmejpaahbpaaGreat
open Go.RowKit Go.Shelf
attribute [local go_sem] Oper.semAt_some

theorem wpListIn_append_one {F : Fence} {n : Nat} {P : Program} {w : World} {ops : Array Oper} {rest : List Oper} {o : Oper} {a : Act} {Q : Exit → Act → World → Prop} (hgd : o.guard = none) (s x : Operand) (t : TypeId)
    (ho : o.op = .call { callee := .builtin .append, args := #[s, x], argTypes := #[t, t] })
    (base : Nat) (e : TypeId) (i : TypeInfo) (z : Value) (size bytes : Nat) (ht : P.underlying t = some (.slice e)) (hi : P.info? e = some i) (hz : i.zero = some z)
    (hsize : i.size = size) (hby : i.bytes = bytes) (hzs : z.cells.size = size) (hsz : 0 < size)
    (v : Value) (k : Nat) (xs : List Value) (hs : a.eval s = v) (hown : w.ownsRow base e size v k xs)
    (nb : Nat) (vals : List Value) (te : TypeId) (hx : a.eval x = .slice (some ⟨nb, 0, none⟩) 1 1) (hblk : w.heap[nb]? = some (.cells vals.toArray te (0, 0))) (hl : vals.length = size) (h1 : ∀ u ∈ vals, u.oneCell' = true)
    (h63 : k + 1 ≤ maxLen) (hbytes : (k + 1) * bytes ≤ 140737488355328) (hbase : base ≤ w.heap.size)
    (h : ∀ v' w', w'.ownsRow base e size v' (k + 1) (xs ++ vals) → w.grownBy w' v.ownBlock → wpListIn F n P ops Q rest (a.put o.dst v') w') : wpListIn F n P ops Q (o :: rest) a w := by
  refine wpListIn_append_own w hgd s x t ho base e i z size bytes ht hi hz hsize hby hzs hsz v k xs hs hown ⟨nb, 0, none⟩ 1 1 vals hx (by rw [hl, Nat.one_mul]) ?_ h1 h63 hbytes hbase fun v' w' h2 h3 _ => h v' w' h2 h3
  intro j u hu
  have := blk_cell (i := j) hblk (by simpa using hu)
  have e : (⟨nb, 0, none⟩ : Addr).add j = ⟨nb, j, none⟩ := by
    cases j with
    | zero => rfl
    | succ j => simp [Addr.add]
  rw [e]; exact this

theorem ownsRow_base {w : World} {b b' : Nat} {e : TypeId} {size : Nat} {v : Value} {k : Nat} {xs : List Value} (h : w.ownsRow b e size v k xs) (hb : b' ≤ b) : w.ownsRow b' e size v k xs := by
  refine ⟨h.1, ?_⟩
  rcases h.2 with h | ⟨g, cap, cur, h1, h2, h3⟩
  · exact .inl h
  · exact .inr ⟨g, cap, cur, h1, Nat.le_trans hb h2, h3⟩

/-- an element is put behind the row that a box holds -/
theorem boxed_app {W w1 : World} {n₀ n B : Nat} {t e : TypeId} {size : Nat} {v v' : Value} {k m : Nat} {xs ys : List Value} {tmp : Obj}
    (hv : Boxed W B t v) (hte : t ≠ e) (hrow : W.ownsRow n₀ e size v k xs) (hn : n ≤ n₀) (hn₀ : n₀ ≤ W.heap.size) (hB : n ≤ B)
    (hown' : w1.ownsRow n₀ e size v' m ys) (hgrow : (W.alloc tmp).grownBy w1 v.ownBlock) :
    Boxed w1 B t v ∧ Boxed (w1.setCell ⟨B, 0, none⟩ v') B t v' ∧ (w1.setCell ⟨B, 0, none⟩ v').ownsRow n₀ e size v' m ys ∧ KeepsOthers W (w1.setCell ⟨B, 0, none⟩ v') ∧ Below n W (w1.setCell ⟨B, 0, none⟩ v') ∧ KeepP (fun j => j < n₀ ∧ j ≠ B) W (w1.setCell ⟨B, 0, none⟩ v') := by
  obtain ⟨h1, h2, -, h4, h5⟩ := hv.appended hte (ownsRow_base hrow hn) (Nat.le_trans hn hn₀) hB (ownsRow_base hown' hn) hgrow
  refine ⟨h1, h2, hown'.kept (grownBy_setCell' w1 B v') (.inr (h1.not_row hte hown').symm), h4, h5, h5.size, fun j hj hl => ?_⟩
  have e1 : (w1.setCell ⟨B, 0, none⟩ v').heap[j]? = w1.heap[j]? := (grownBy_setCell' w1 B v').block j (by have := hgrow.size; simp at this; omega) (by simp; exact hj.2)
  have e2 : w1.heap[j]? = (W.alloc tmp).heap[j]? := hgrow.block j (by simp; omega) (fun z => by have := (hrow.lt j z.symm).1; omega)
  exact e1.trans (e2.trans (alloc_get _ _ _ hl))

def BJ (w W0 : World) (router : Int) (l : List Ext) (pre : List (Fin l.length)) (W : World) : Prop :=
  (∃ v, Boxed W (w.heap.size + 1) 22 v ∧ W.ownsRow (w.heap.size + 3) 44 15 v pre.length ((pre.map fun x => lsaE (bodL router (exAt l x.val))).flatten) ∧ True) ∧ Below (w.heap.size + 1) W0 W
def BJx (l : List Ext) (_ : Code) (_ : List (Fin l.length)) (_ : World) : Prop := False
theorem BJ.own (w W0 : World) (router : Int) (l : List Ext) (B : Nat) (hn : w.heap.size + 1 ≤ W0.heap.size) (hB : w.heap.size + 1 ≤ B) : OwnFrom B (BJ w W0 router l) :=
  OwnFrom.and (Own.from (holdsRow_own _ _ _ _ _ _ _ (fun _ _ => True)) _) (ownFrom_below hn hB)
def exC2 (x : Ext) : Array Value := #[.int .u32 x.pfx.addr, .int .i64 x.pfx.len, .int .i64 x.cost, .bool x.second, .int .u32 x.fwd, .int .i64 x.tag]

set_option maxRecDepth 100000 in
set_option maxHeartbeats 4000000 in
theorem bodies_calls (w : World) (router : Int) (v : Value) (l : List Ext) (h : ExtsAt w v l) (h64 : l.length ≤ 64) (hA : ∀ i, i < l.length → extErr l i = 0) :
    Calls Tryz.prog 14 #[.int .u32 router, v] w (LsPost w (l.map (bodL router))) := by
  obtain ⟨i0, hi0, hz0, hz1, hz2⟩ := info_parts Tryz.infoLsa
  have HI0 := Lib.hid hi0
  have HZ0 := Lib.hid hz0
  have HZ1 := Lib.hid hz1
  have HZ2 := Lib.hid hz2
  obtain ⟨a, cap, rfl, hl, hc⟩ := h.get
  obtain ⟨ad, hadb, had⟩ : ∃ ad : Addr, ad.block ≤ w.heap.size ∧ (0 < l.length → a = some ad ∧ ad.spot = none ∧ ad.block < w.heap.size ∧ ExC w ad l) := by
    by_cases h0 : 0 < l.length
    · obtain ⟨b, off, e, hb, hcc⟩ := hc h0
      refine ⟨⟨b, off, none⟩, Nat.le_of_lt hb, fun _ => ⟨e, rfl, hb, fun i hi => ?_⟩⟩
      have := hcc i hi
      rw [exAt, getD_at hi]; exact this
    · exact ⟨⟨0, 0, none⟩, Nat.zero_le _, fun h => absurd h h0⟩
  have HC := Lib.hid had
  have HA := Lib.hid hA
  clear h hc had hA hi0 hz0 hz1 hz2
  refine (callsIn_wide (n := 5)).1 ?_
  refine callsIn_of_wp_marks Tryz.func14 rfl trivial ?_ rfl
  simp only [Tryz.ntmps14, List.size_toArray, List.length_cons, List.length_nil, Nat.reduceAdd, Nat.reduceSub, Array.replicate_succ, Array.replicate_zero, List.push_toArray, List.append_toArray, List.nil_append, List.cons_append]
  gi_wp2_with (refine ⟨trivial, ?_⟩; gi_at_call 34; refine (ann_in Fence.wide _ trivial rfl _ _ _ _).mono ?_; rintro e w' ⟨rfl, rfl⟩)
  obtain ⟨W0, hW0⟩ : ∃ W0, ((w.alloc (.cells #[.int .u32 router] 23)).alloc (.cells #[.slice none 0 0] 22)).alloc (.cells #[.slice a l.length cap] 46) = W0 := ⟨_, rfl⟩
  have sz : W0.heap.size = w.heap.size + 3 := by rw [← hW0]; simp
  have B0 : Below w.heap.size w W0 := by rw [← hW0]; exact (((Below.refl _ _).alloc (Nat.le_refl _) _).alloc (by simp) _).alloc (by simp; omega) _
  have bN : W0.heap[w.heap.size + 2]? = some (.cells #[.slice a l.length cap] 46 (0, 0)) := by
    rw [← hW0]; have := alloc_new ((w.alloc (.cells #[.int .u32 router] 23)).alloc (.cells #[.slice none 0 0] 22)) (.cells #[.slice a l.length cap] 46); simpa using this
  have bO : Boxed W0 (w.heap.size + 1) 22 (.slice none 0 0) := by
    rw [← hW0]; have := (Boxed.new (w.alloc (.cells #[.int .u32 router] 23)) 22 (.slice none 0 0)).alloc (.cells #[.slice a l.length cap] 46); simpa using this
  have bR : W0.heap[w.heap.size]? = some (.cells #[.int .u32 router] 23 (0, 0)) := by
    rw [← hW0]; exact (alloc_get _ _ _ (by simp; omega)).trans ((alloc_get _ _ _ (by simp)).trans (alloc_new _ _))
  rw [hW0]
  have HW := Lib.hid hW0
  clear hW0
  have HC2 : Hid (0 < l.length → a = some ad ∧ ad.spot = none ∧ ad.block < w.heap.size + 3 ∧ ExC W0 ad l) := Lib.hid (fun h => by
    obtain ⟨h1, h2, h3, h4⟩ := HC.out h
    exact ⟨h1, h2, by omega, h4.below B0 h3⟩)
  have HPK : Hid (∀ k, (k = w.heap.size + 2 ∨ k = ad.block) → k < W0.heap.size) := Lib.hid (fun k hk => by rcases hk with rfl | rfl <;> omega)
  refine wpIn_rangeFunc_ownH rfl (by omega) (gf := 66) (lb := #[.pointer (some ⟨w.heap.size + 2, 0, none⟩)]) rfl trivial (enters_of Tryz.func66 (by kernel_rfl) rfl)
    (ann_keep Fence.wide _ trivial rfl (by omega) (w.heap.size + 2) (w.heap.size + 3) a ad cap l hl (fun h => ⟨(HC2.out h).1, (HC2.out h).2.1, (HC2.out h).2.2.1⟩) (by omega) W0 (by omega) (blk_cell bN rfl) (fun i hi => (HC2.out (by omega)).2.2.2 i hi)) KeepP.trans (keepP_b HPK.out) (Below.refl _ _) (fun _ => rfl)
    (BJ w W0 router l) (BJx l) (BJ.own _ _ _ _ _ (by omega) (by omega)) (fun c => fun _ _ _ _ h => h.elim)
    ⟨⟨_, bO, World.ownsRow_nil _ _ _ _, trivial⟩, Below.refl _ _⟩
    (fun x a' W => ∃ Bx, w.heap.size + 3 ≤ Bx ∧ W.heap[Bx]? = some (.cells (exC2 (exAt l x.val)) 82 (0, 0)) ∧ a' = { tmps := #[Value.int IntKind.u32 router, Value.slice a l.length cap, Value.pointer (some ⟨w.heap.size, 0, none⟩), undef, Value.slice none 0 0, Value.pointer (some ⟨w.heap.size + 1, 0, none⟩), undef, Value.pointer (some ⟨Bx, 0, none⟩), undef, Value.slice a l.length cap, Value.func (Fn.func 66) #[] #[Value.pointer (some ⟨w.heap.size + 2, 0, none⟩)], Value.pointer (bef ad x.val), exA (exAt l x.val), undef, undef, undef, undef, undef, undef, undef, undef, undef, undef, undef, undef, undef, undef, undef, undef, undef, undef, undef, undef, undef, undef, undef, undef], defers := [] })
    ?hAx ?assign ?body ?done ?stop
  case hAx =>
    rintro x a' _ A B row ⟨Bx, h1, h2, h3⟩ hg hr
    refine ⟨Bx, h1, (hg.block Bx (blk_lt h2) (fun e => ?_)).trans h2, h3⟩
    obtain ⟨o, ho, hc⟩ := (hr Bx e.symm).2
    rw [h2] at ho; cases ho; cases hc
  case assign =>
    rintro l' pre x W K hi hK
    simp only [annE, exA]
    have SZ : w.heap.size + 3 ≤ W.heap.size := by have := hi.2.size; omega
    gi_wp2
    refine hK _ _ ((KeepsOthers.alloc _ _).from _) ((KeepP.refl _ W).alloc _) ((BJ.own w W0 router l (w.heap.size + 3) (by omega) (by omega)).alloc _ hi) ⟨W.heap.size, ?_, ?_, ?_⟩
    · exact SZ
    · exact alloc_new _ _
    · rfl
  case body =>
    rintro l' pre x a' W hl' ⟨r, hr⟩ hi ⟨Bx, hBx, bX, rfl⟩ hlt
    obtain ⟨⟨v, hv, hrow, -⟩, hB⟩ := hi
    have SZ : w.heap.size + 3 ≤ W.heap.size := by have := hB.size; omega
    have cR : W.cell? ⟨w.heap.size, 0, none⟩ = some (.int .u32 router) := blk_cell ((hB.block w.heap.size (by omega)).trans bR) rfl
    have cV := hv.cell
    have NXJ : Hid (∀ (W' : World) (v' : Value), Boxed W' (w.heap.size + 1) 22 v' → W'.ownsRow (w.heap.size + 3) 44 15 v' (pre.length + 1) ((pre.map fun x => lsaE (bodL router (exAt l x.val))).flatten ++ lsaE (bodL router (exAt l x.val))) → Below (w.heap.size + 1) W W' → BJ w W0 router l (pre ++ [x]) W') := Lib.hid (fun W' v' h1 h2 h3 => by
      refine ⟨⟨v', h1, ?_, trivial⟩, hB.trans h3⟩
      rw [List.length_append, List.map_append, List.flatten_append, List.length_singleton]
      simpa using h2)
    simp only [exC2] at bX
    generalize exAt l x.val = y at *
    have c0 := blk_cell (i := 0) bX rfl
    have c1 := blk_cell (i := 1) bX rfl
    have c2 := blk_cell (i := 2) bX rfl
    have c3 := blk_cell (i := 3) bX rfl
    have c4 := blk_cell (i := 4) bX rfl
    have c5 := blk_cell (i := 5) bX rfl
    have Xlt := blk_lt bX
    have HV := Lib.hid hv
    have HR := Lib.hid hrow
    have K1 : Hid (pre.length + 1 ≤ maxLen) := Lib.hid (by unfold maxLen; omega)
    have K2 : Hid ((pre.length + 1) * 136 ≤ 140737488355328) := Lib.hid (by omega)
    have HSZ := Lib.hid SZ
    have ONE : Hid (∀ u ∈ ([.int .i64 5, .int .u32 y.pfx.addr, .int .i64 y.pfx.len, .int .u32 router, .int .i64 0, .int .i64 0, .int .i64 0, .bool false, .bool false, .slice none 0 0, .slice none 0 0, .int .i64 y.cost, .bool y.second, .int .u32 y.fwd, .int .i64 y.tag] : List Value), u.oneCell' = true) := Lib.hid (lsaE_one (bodL router y))
    have BS : Hid (w.heap.size + 3 ≤ ((W.alloc (.cells #[.int .i64 5, .int .u32 y.pfx.addr, .int .i64 y.pfx.len, .int .u32 router, .int .i64 0, .int .i64 0, .int .i64 0] 40)).alloc (.cells #[.int .i64 5, .int .u32 y.pfx.addr, .int .i64 y.pfx.len, .int .u32 router, .int .i64 0, .int .i64 0, .int .i64 0, .bool false, .bool false, .slice none 0 0, .slice none 0 0, .int .i64 y.cost, .bool y.second, .int .u32 y.fwd, .int .i64 y.tag] 44)).heap.size) := Lib.hid (by simp; omega)
    have OW := Lib.hid ((hrow.alloc (.cells #[.int .i64 5, .int .u32 y.pfx.addr, .int .i64 y.pfx.len, .int .u32 router, .int .i64 0, .int .i64 0, .int .i64 0] 40)).alloc (.cells #[.int .i64 5, .int .u32 y.pfx.addr, .int .i64 y.pfx.len, .int .u32 router, .int .i64 0, .int .i64 0, .int .i64 0, .bool false, .bool false, .slice none 0 0, .slice none 0 0, .int .i64 y.cost, .bool y.second, .int .u32 y.fwd, .int .i64 y.tag] 44))
    have BK : Hid (((W.alloc (.cells #[.int .i64 5, .int .u32 y.pfx.addr, .int .i64 y.pfx.len, .int .u32 router, .int .i64 0, .int .i64 0, .int .i64 0] 40)).alloc (.cells #[.int .i64 5, .int .u32 y.pfx.addr, .int .i64 y.pfx.len, .int .u32 router, .int .i64 0, .int .i64 0, .int .i64 0, .bool false, .bool false, .slice none 0 0, .slice none 0 0, .int .i64 y.cost, .bool y.second, .int .u32 y.fwd, .int .i64 y.tag] 44)).heap[W.heap.size + 1]? = some (.cells (List.toArray [.int .i64 5, .int .u32 y.pfx.addr, .int .i64 y.pfx.len, .int .u32 router, .int .i64 0, .int .i64 0, .int .i64 0, .bool false, .bool false, .slice none 0 0, .slice none 0 0, .int .i64 y.cost, .bool y.second, .int .u32 y.fwd, .int .i64 y.tag]) 44 (0, 0))) := Lib.hid (blk_new2 W _ _)
    have APP := Lib.hid (fun v' w1 hown' hgrow => boxed_app (W := W.alloc (.cells #[.int .i64 5, .int .u32 y.pfx.addr, .int .i64 y.pfx.len, .int .u32 router, .int .i64 0, .int .i64 0, .int .i64 0] 40)) (w1 := w1) (n₀ := w.heap.size + 3) (n := w.heap.size + 1) (B := w.heap.size + 1) (t := 22) (e := 44) (size := 15) (v := v) (v' := v') (k := pre.length) (m := pre.length + 1) (ys := (pre.map fun x => lsaE (bodL router (exAt l x.val))).flatten ++ [.int .i64 5, .int .u32 y.pfx.addr, .int .i64 y.pfx.len, .int .u32 router, .int .i64 0, .int .i64 0, .int .i64 0, .bool false, .bool false, .slice none 0 0, .slice none 0 0, .int .i64 y.cost, .bool y.second, .int .u32 y.fwd, .int .i64 y.tag]) (tmp := .cells #[.int .i64 5, .int .u32 y.pfx.addr, .int .i64 y.pfx.len, .int .u32 router, .int .i64 0, .int .i64 0, .int .i64 0, .bool false, .bool false, .slice none 0 0, .slice none 0 0, .int .i64 y.cost, .bool y.second, .int .u32 y.fwd, .int .i64 y.tag] 44) (hv.alloc _) (by decide) (hrow.alloc _) (by omega) (by simp; omega) (Nat.le_refl _) hown' hgrow)
    have BAH : Below W.heap.size W (W.alloc (.cells #[.int .i64 5, .int .u32 y.pfx.addr, .int .i64 y.pfx.len, .int .u32 router, .int .i64 0, .int .i64 0, .int .i64 0] 40)) := (Below.refl _ _).alloc (Nat.le_refl _) _
    have cV1 := bcell BAH cV
    have d2 := bcell BAH c2
    have d3 := bcell BAH c3
    have d4 := bcell BAH c4
    have d5 := bcell BAH c5
    have HN : (W.alloc (.cells #[.int .i64 5, .int .u32 y.pfx.addr, .int .i64 y.pfx.len, .int .u32 router, .int .i64 0, .int .i64 0, .int .i64 0] 40)).heap[W.heap.size]? = some (.cells #[.int .i64 5, .int .u32 y.pfx.addr, .int .i64 y.pfx.len, .int .u32 router, .int .i64 0, .int .i64 0, .int .i64 0] 40 (0, 0)) := alloc_new W _
    have h0 := blk_cell (i := 0) HN rfl
    have h1 := blk_cell (i := 1) HN rfl
    have h2 := blk_cell (i := 2) HN rfl
    have h3 := blk_cell (i := 3) HN rfl
    have h4 := blk_cell (i := 4) HN rfl
    have h5 := blk_cell (i := 5) HN rfl
    have h6 := blk_cell (i := 6) HN rfl
    clear hv hrow hB bX SZ BAH HN
    gi_wp2_with (gi_at_builtin; refine wpListIn_append_one rfl (.tmp 21) (.tmp 32) 22 rfl (w.heap.size + 3) 44 i0 (.agg #[.int .i64 0, .int .u32 0, .int .i64 0, .int .u32 0, .int .i64 0, .int .i64 0, .int .i64 0, .bool false, .bool false, .slice none 0 0, .slice none 0 0, .int .i64 0, .bool false, .int .u32 0, .int .i64 0]) 15 136 Tryz.underlying22 HI0.out HZ0.out HZ1.out HZ2.out rfl (by decide) v pre.length _ rfl OW.out (W.heap.size + 1) [.int .i64 5, .int .u32 y.pfx.addr, .int .i64 y.pfx.len, .int .u32 router, .int .i64 0, .int .i64 0, .int .i64 0, .bool false, .bool false, .slice none 0 0, .slice none 0 0, .int .i64 y.cost, .bool y.second, .int .u32 y.fwd, .int .i64 y.tag] 44 rfl BK.out rfl ONE.out K1.out K2.out BS.out ?_; intro v' w1 hown' hgrow; obtain ⟨g', cap', rfl⟩ := ownsRow_succ hown'; obtain ⟨hv1, hv2, hr2, hk2, hb2, hp2⟩ := APP.out _ w1 hown' hgrow; have hc1 := hv1.cell; have hf1 := hv1.frozen; (have KO := Lib.hid ((KeepsOthers.alloc W _).trans hk2)); (have KP := Lib.hid ((KeepP.refl (fun j => j < w.heap.size + 3 ∧ j ≠ w.heap.size + 1) W).alloc _ |>.trans hp2)); (have KB := Lib.hid (((Below.refl (w.heap.size + 1) W).alloc (by have := HSZ.out; omega) _).trans hb2)); (have NX := Lib.hid (NXJ.out _ _ hv2 hr2 KB.out)); clear hv2 hr2 hk2 hb2 hp2 hown' hgrow)
    exact ⟨KO.out.from _, ⟨KP.out.size, fun k hk hl => KP.out.block k (by rcases hk with rfl | rfl <;> omega) hl⟩, NX.out⟩
  case done =>
    rintro D ys W hD hys ⟨⟨v, hv, hrow, -⟩, hB⟩ hK
    have EL : ys.map (fun x => lsaE (bodL router (exAt l x.val))) = (l.map (bodL router)).map lsaE := by
      have e1 : ys.map (fun x => lsaE (bodL router (exAt l x.val))) = (ys.map Fin.val).map (fun i => lsaE (bodL router (exAt l i))) := by rw [List.map_map]; rfl
      rw [e1, hys]
      refine List.ext_getElem (by simp [uptoN]) fun i h1 h2 => ?_
      have hi : i < l.length := by simpa using h2
      simp only [List.getElem_map, uptoN, List.getElem_range, exAt]
      rw [getD_at hi]
    have LL : ys.length = ((l.map (bodL router)).map lsaE).length := by rw [← EL, List.length_map]
    rw [EL, LL] at hrow
    have AT : LsasAt W v (l.map (bodL router)) := SlV.of_own (lsaE_len _) hrow
    have SC := Lib.hid (sortstable_calls W v (l.map (bodL router)) AT (bod_kasc router HA.out) (by rw [List.length_map]; omega))
    have NE : ∀ b off n c, v = .slice (some ⟨b, off, none⟩) n c → b ≠ D := by
      rintro b off n c rfl
      rcases hrow.2 with ⟨h, _⟩ | ⟨g, cap', cur, h, _, hgb, _⟩
      · cases h
      · cases h
        rintro rfl
        rw [hK] at hgb; cases hgb
    have HNE := Lib.hid NE
    have HAT := Lib.hid AT
    have HBW : Hid (Below w.heap.size w W) := Lib.hid (B0.trans (hB.mono (by omega)))
    have cV := hv.cell
    have HD : Hid (w.heap.size ≤ D) := Lib.hid (by omega)
    have HK := Lib.hid hK
    clear hv hrow hB hys EL LL AT NE hK
    gi_wp2_with (refine ⟨trivial, ?_⟩; gi_at_call 36; refine (callsIn_wide.2 SC.out).mono ?_; rintro e w1 ⟨rfl, G1⟩; (have cV2 := bcell G1.b cV); (have HG1 := Lib.hid G1); clear G1 cV)
    have hK' := (HG1.out.b.block D (Array.getElem?_eq_some_iff.1 HK.out).1).trans HK.out
    refine ⟨by simp, .inl ⟨_, _, rfl, run_takeDeferred hK', ?_⟩⟩
    refine ⟨_, results_tmp rfl _ _ _, v, rfl, SlV.kept (HAT.out.below HG1.out.b) (grownBy_putObj' _ D (.deferred none)) (fun b off n c e z => HNE.out b off n c e (by cases z; rfl)), ?_⟩
    exact (HBW.out.trans (HG1.out.b.mono HBW.out.size)).trans (belowK_b (w := w) (Nat.le_refl _) _ D _ _ HD.out hK' rfl rfl)
  case stop =>
    rintro D c pre W hD _ h _
    exact h.elim

end Go.Proofs.YtiemmejpaahbpaaGreat
