import Derived.Test.YtddageahmgaigaaGreatFle
import Derived.Test.YtddageahmgaigaaGreatIfs
import Derived.OwnWalk
namespace Go.Proofs.YtddageahmgaigaaGreat
open Go.RowKit

set_option maxHeartbeats 2000000 in
set_option maxRecDepth 100000 in
theorem number_calls (w : World) (n : Nat) (x : Int) (hn : n ≤ 8) (_x0 : 0 ≤ x) (_x1 : x < 18446744073709551616) :
    Calls Tryz.prog 178 #[.int .i64 n, .int .u64 x] w (PutPost w.heap.size w (putB n x)) := by
  obtain ⟨i0, hi0, hz0, hz1, hz2⟩ := info_parts Tryz.infoU8
  have HI0 := Lib.hid hi0
  have HZ0 := Lib.hid hz0
  have HZ1 := Lib.hid hz1
  have HZ2 := Lib.hid hz2
  clear hi0 hz0 hz1 hz2
  have R0 : Hid (PutRel w.heap.size w [] n x n (.slice none 0 0) [] w) := Lib.hid ⟨World.ownsRow_nil _ _ _ _, Below.refl _ _, rfl, rfl⟩
  go_enter Tryz.func178, Tryz.ntmps178
  go_wp2_with fail
  go_loopw [5, 6] (fun v i wr => ∃ (L : List Int) (rem : Nat), PutRel w.heap.size w [] n x rem v L wr ∧ rem ≤ n ∧ ((i = .int .i64 (-1) ∧ rem = 0) ∨ ∃ j : Nat, i = .int .i64 j ∧ rem = j + 1)) (fun _ i _ => (intOf i + 1).toNat)
  case atStart =>
    refine ⟨[], n, R0.out, Nat.le_refl _, ?_⟩
    cases n with
    | zero => exact .inl ⟨rfl, rfl⟩
    | succ n => exact .inr ⟨n, by go_num, rfl⟩
  case round =>
    clear R0
    obtain ⟨L, rem, R, hr, ⟨rfl, rfl⟩ | ⟨j, rfl, rfl⟩⟩ := hrel
    · have RR := Lib.hid R
      clear R
      go_wp2_with fail
      go_ret
      refine ⟨_, rfl, ?_, RR.out.bel⟩
      have e := RR.out.eq
      rw [show putB 0 x = [] from rfl, List.append_nil, List.nil_append] at e
      rw [← e]; exact RR.out.own
    · have RR := Lib.hid R
      clear R
      have hj : j < 8 := by omega
      have B3 : Below wr.heap.size wr (wr.alloc (.cells #[.int .u8 (x / 2 ^ (8 * j) % 256)] 5)) := (Below.refl _ _).alloc (Nat.le_refl _) _
      have OW := Lib.hid (RR.out.own.below B3)
      have SL : Hid (SlV 1 (wr.alloc (.cells #[.int .u8 (x / 2 ^ (8 * j) % 256)] 5)) (.slice (some ⟨wr.heap.size, 0, none⟩) 1 1) [byE (x / 2 ^ (8 * j) % 256)]) := Lib.hid (sl_one (vals := byE (x / 2 ^ (8 * j) % 256)))
      have K1 : Hid (L.length + [byE (x / 2 ^ (8 * j) % 256)].length ≤ maxLen) := Lib.hid (by have := RR.out.len; simp only [List.length_singleton, List.length_nil] at *; unfold maxLen; omega)
      have K2 : Hid ((L.length + [byE (x / 2 ^ (8 * j) % 256)].length) * 1 ≤ 140737488355328) := Lib.hid (by have := RR.out.len; simp only [List.length_singleton, List.length_nil] at *; omega)
      have BS : Hid (w.heap.size ≤ (wr.alloc (.cells #[.int .u8 (x / 2 ^ (8 * j) % 256)] 5)).heap.size) := Lib.hid (Nat.le_trans RR.out.bel.size B3.size)
      have STEP := Lib.hid (fun v' w4 own' hg4 => RR.out.step (v' := v') (w4 := w4) (Nat.le_refl _) B3 own' hg4)
      clear B3
      go_wp2_with (at_builtin; refine wpList_append_sl rfl _ _ _ rfl w.heap.size 5 i0 _ 1 1 Tryz.underlying134 HI0.out HZ0.out HZ1.out HZ2.out rfl (by decide) _ L.length _ rfl OW.out _ [byE (x / 2 ^ (8 * j) % 256)] rfl SL.out (byE_len [_]) (byE_one [_]) K1.out K2.out BS.out ?_; intro v' w4 own' hg4; have NX := Lib.hid (STEP.out v' w4 own' hg4); clear own' hg4)
      cases j with
      | zero =>
        go_roundw
        case rel => exact ⟨_, 0, NX.out, by omega, .inl ⟨by go_num, rfl⟩⟩
        case measure => simp [intOf]
      | succ j =>
        go_roundw
        case rel => exact ⟨_, j + 1, NX.out, by omega, .inr ⟨j, by go_num, rfl⟩⟩
        case measure => simp [intOf]; omega

abbrev Part := Value × List Int
def cat (ps : List Part) : List Int := (ps.map Prod.snd).flatten
theorem cat_take (ps : List Part) (k : Nat) (h : k < ps.length) : cat (ps.take (k + 1)) = cat (ps.take k) ++ ps[k].2 := by
  unfold cat; rw [List.take_succ_eq_append_getElem h, List.map_append, List.flatten_append]; simp
theorem cat_app (p q : List Part) : cat (p ++ q) = cat p ++ cat q := by unfold cat; rw [List.map_append, List.flatten_append]
theorem cat_le (ps : List Part) (k : Nat) : (cat (ps.take k)).length ≤ (cat ps).length := by
  conv => rhs; rw [← List.take_append_drop k ps, cat_app, List.length_append]
  omega

structure JoR (w : World) (ps : List Part) (k : Nat) (v : Value) (wr : World) : Prop where
  own : BytesOwn w.heap.size wr v (cat (ps.take k))
  bel : Below w.heap.size w wr
theorem JoR.step {w : World} {ps : List Part} {k : Nat} {v v' : Value} {wr w4 : World} (R : JoR w ps k v wr) (c : k < ps.length)
    (own' : w4.ownsRow w.heap.size 5 1 v' ((cat (ps.take k)).length + (ps[k].2.map byE).length) (((cat (ps.take k)).map byE).flatten ++ (ps[k].2.map byE).flatten)) (hg : wr.grownBy w4 v.ownBlock) : JoR w ps (k + 1) v' w4 := by
  refine ⟨?_, R.bel.grown hg R.bel.size (fun j hj => (R.own.lt j hj).1)⟩
  unfold BytesOwn
  rw [cat_take ps k c, List.length_append, List.map_append, List.flatten_append]
  simpa using own'

set_option maxHeartbeats 4000000 in
set_option maxRecDepth 100000 in
theorem join_calls (w : World) (ps : List Part) (pb po cap : Nat) (hp : pb < w.heap.size) (hc : ∀ i (h : i < ps.length), w.cell? ⟨pb, po + i, none⟩ = some ps[i].1) (hb : ∀ p ∈ ps, BytesAt w p.1 p.2) (hl : (cat ps).length ≤ 2000000) (hn : ps.length ≤ 1000) :
    Calls Tryz.prog 177 #[.slice (some ⟨pb, po, none⟩) ps.length cap] w (PutPost w.heap.size w (cat ps)) := by
  obtain ⟨i0, hi0, hz0, hz1, hz2⟩ := info_parts Tryz.infoU8
  have HI0 := Lib.hid hi0
  have HZ0 := Lib.hid hz0
  have HZ1 := Lib.hid hz1
  have HZ2 := Lib.hid hz2
  have HC := Lib.hid hc
  have HB := Lib.hid hb
  have HL := Lib.hid hl
  have HP := Lib.hid hp
  clear hi0 hz0 hz1 hz2 hc hb hl hp
  go_enter Tryz.func177, Tryz.ntmps177
  go_wp2_with fail
  go_loop [3, 11] (fun n i => ∃ k : Nat, n = .int .i64 ((cat (ps.take k)).length : Nat) ∧ i = .int .i64 k ∧ k ≤ ps.length) (fun _ i => ps.length - (intOf i).toNat)
  case atStart => exact ⟨0, rfl, rfl, Nat.zero_le _⟩
  case round =>
    obtain ⟨k, rfl, rfl, hk⟩ := hrel
    by_cases c : k < ps.length
    · have d0 := HC.out k c
      obtain ⟨a, cp, eV, -⟩ := (HB.out ps[k] (List.getElem_mem c)).get
      have NE : Hid ((cat (ps.take (k + 1))).length = (cat (ps.take k)).length + ps[k].2.length) := Lib.hid (by rw [cat_take ps k c, List.length_append])
      have b1 := cat_le ps k
      have b2 : (cat (ps.take k)).length + ps[k].2.length ≤ 2000000 := by have := cat_le ps (k + 1); have := NE.out; have := HL.out; omega
      rw [eV] at d0
      clear eV
      generalize ps[k].2.length = m at *
      generalize (cat (ps.take k)).length = q at *
      clear b1
      go_wp2_with fail
      go_round
      case rel => exact ⟨k + 1, by rw [NE.out]; go_num, by go_num, c⟩
      case measure => simp [intOf]; omega
    · have ek : k = ps.length := by omega
      subst ek
      rw [List.take_length]
      have L0 : (cat ps).length ≤ 2000000 := HL.out
      generalize hN : (cat ps).length = N at *
      go_wp2_with (refine wpList_make_own _ rfl (.const (.int .i64 0)) (.tmp 20) 134 rfl w.heap.size 5 i0 (.int .u8 0) 1 Tryz.underlying134 HI0.out HZ0.out HZ1.out .i64 .i64 _ N rfl rfl rfl (by rw [HZ2.out]; omega) (by unfold maxLen; omega) (Nat.le_refl _) ?_; intro w1 O1 G1; have ST : Hid (JoR w ps 0 (.slice (some ⟨w.heap.size, 0, none⟩) 0 N) w1) := Lib.hid ⟨O1, ⟨G1.os, G1.tape, G1.output, G1.size, fun k hk => G1.block k hk (by simp)⟩⟩; clear O1 G1)
      go_loopw [6, 24] (fun v i wr => ∃ k : Nat, i = .int .i64 k ∧ k ≤ ps.length ∧ Hid (JoR w ps k v wr)) (fun _ i _ => ps.length - (intOf i).toNat)
      case atStart => exact ⟨0, rfl, Nat.zero_le _, ST⟩
      case round =>
        clear ST
        obtain ⟨k, rfl, hk, R⟩ := hrel
        by_cases c : k < ps.length
        · have d0 := (World.cell?_of_block (w := w) (w' := wr) (a := ⟨pb, po + k, none⟩) (R.out.bel.block pb HP.out)).trans (HC.out k c)
          have SB := Lib.hid ((HB.out ps[k] (List.getElem_mem c)).below R.out.bel)
          obtain ⟨a, cp, eV, -⟩ := (HB.out ps[k] (List.getElem_mem c)).get
          have K0 : (cat (ps.take k)).length + ps[k].2.length ≤ 2000000 := by have h1 := cat_le ps (k + 1); rw [cat_take ps k c, List.length_append] at h1; omega
          have K1 : Hid ((cat (ps.take k)).length + (ps[k].2.map byE).length ≤ maxLen) := Lib.hid (by rw [List.length_map]; unfold maxLen; omega)
          have K2 : Hid (((cat (ps.take k)).length + (ps[k].2.map byE).length) * 1 ≤ 140737488355328) := Lib.hid (by rw [List.length_map]; omega)
          have OW := Lib.hid R.out.own
          have BS := Lib.hid R.out.bel.size
          have STEP := Lib.hid (fun v' w4 own' hg4 => R.out.step (v' := v') (w4 := w4) c own' hg4)
          rw [eV] at d0 SB
          clear eV R K0
          generalize ps[k].2 = M at *
          go_wp2_with (at_builtin; refine wpList_append_sl rfl _ _ _ rfl w.heap.size 5 i0 _ 1 1 Tryz.underlying134 HI0.out HZ0.out HZ1.out HZ2.out rfl (by decide) _ (cat (ps.take k)).length _ rfl OW.out _ (M.map byE) rfl SB.out (byE_len M) (byE_one M) K1.out K2.out BS.out ?_; intro v' w4 own' hg4; have NX := Lib.hid (STEP.out v' w4 own' hg4); clear own' hg4)
          go_roundw
          case rel => exact ⟨k + 1, by go_num, c, NX⟩
          case measure => simp [intOf]; omega
        · have ek : k = ps.length := by omega
          subst ek
          have FI : Hid (PutPost w.heap.size w (cat ps) (.returned u6) wr) := Lib.hid ⟨_, rfl, by have := R.out.own; rwa [List.take_length] at this, R.out.bel⟩
          clear R
          go_wp2_with fail
          go_ret
          exact FI.out

set_option maxHeartbeats 2000000 in
set_option maxRecDepth 100000 in
theorem fput_calls (w : World) (v : Value) (l : List Int) (n : Nat) (x : Int) (h : BytesAt w v l) (hn : n ≤ 8) (x0 : 0 ≤ x) (x1 : x < 18446744073709551616) (hl : l.length ≤ 1000000) :
    Calls Tryz.prog 160 #[v, .int .i64 n, .int .u64 x] w (PutPost w.heap.size w (l ++ putB n x)) := by
  have NC := Lib.hid (number_calls w n x hn x0 x1)
  have HA := Lib.hid h
  obtain ⟨a, cap, rfl, -⟩ := h.get
  clear h
  go_enter Tryz.func160, Tryz.ntmps160
  go_wp2_with fail
  refine NC.out.mono ?_
  rintro e w1 ⟨v1, rfl, O1, B1⟩
  obtain ⟨a1, c1, e1, -⟩ := O1.at.get
  have HO := Lib.hid O1
  have HB1 := Lib.hid B1
  subst e1
  obtain ⟨W2, hW2⟩ : ∃ W2, w1.alloc (.cells #[.slice a l.length cap, .slice a1 (putB n x).length c1] 134) = W2 := ⟨_, rfl⟩
  have B2 : Below w1.heap.size w1 W2 := by rw [← hW2]; exact (Below.refl _ _).alloc (Nat.le_refl _) _
  have b2 : W2.heap[w1.heap.size]? = some (.cells #[.slice a l.length cap, .slice a1 (putB n x).length c1] 134 (0, 0)) := by rw [← hW2]; exact alloc_new _ _
  have JC := Lib.hid (join_calls W2 [(.slice a l.length cap, l), (.slice a1 (putB n x).length c1, putB n x)] w1.heap.size 0 2 (blk_lt b2) (fun i hi => by
      match i, hi with
      | 0, _ => exact blk_cell b2 rfl
      | 1, _ => exact blk_cell b2 rfl) (fun p hp => by
      rcases List.mem_cons.1 hp with rfl | hp
      · exact (HA.out.below B1).below B2
      · rw [List.mem_singleton.1 hp]; exact HO.out.at.below B2) (by simp [cat, putB_len]; omega) (by simp))
  have B02 := Lib.hid (B1.trans (B2.mono B1.size))
  have HW2 := Lib.hid hW2
  clear O1 B1 hW2 B2 b2 NC
  go_wp2_with fail
  rw [HW2.out]
  refine JC.out.mono ?_
  rintro e w3 ⟨v3, rfl, O3, B3⟩
  have FI : Hid (PutPost w.heap.size w (l ++ putB n x) (.returned v3) w3) := Lib.hid ⟨v3, rfl, by
    have : cat [(Value.slice a l.length cap, l), (Value.slice a1 (putB n x).length c1, putB n x)] = l ++ putB n x := by simp [cat]
    rw [this] at O3
    exact own_base O3 B02.out.size, B02.out.trans (B3.mono B02.out.size)⟩
  clear O3 B3 JC
  go_wp2_with fail
  go_ret
  exact FI.out

end Go.Proofs.YtddageahmgaigaaGreat

namespace Go.Proofs.YtddageahmgaigaaGreat
open Go.RowKit

theorem grown_set (w : World) (b o : Nat) (u : Value) : w.grownBy (w.setCell ⟨b, o, none⟩ u) (some b) :=
  have h := (Below.refl 0 w).setCell (p := ⟨b, o, none⟩) (Nat.zero_le _) u
  ⟨h.os, h.tape, h.output, h.size, fun k _ hne => blk_other w _ u k (fun e => hne (by rw [e]))⟩

structure PutBox (pb : Nat) (w : World) (v : Value) (l : List Int) : Prop where
  blk : w.heap[pb]? = some (.cells #[v] 134 (0, 0))
  row : BytesAt w v l
def PutC (pb : Nat) (w : World) (l : List Int) (e : Ending) (w' : World) : Prop := e = .returned (.tuple #[]) ∧ (∃ v', PutBox pb w' v' l) ∧ w.grownBy w' (some pb)

theorem PutC.mk' {pb : Nat} {w w1 : World} {v v1 : Value} {l : List Int} (hb : w.heap[pb]? = some (.cells #[v] 134 (0, 0))) (O1 : BytesOwn w.heap.size w1 v1 l) (B1 : Below w.heap.size w w1) : PutC pb w l (.returned (.tuple #[])) (w1.setCell ⟨pb, 0, none⟩ v1) := by
  have lt := blk_lt hb
  have b1 := (B1.block _ lt).trans hb
  refine ⟨rfl, ⟨v1, ?_, ?_⟩, (grown_of_below B1 _).andThen (grown_set w1 pb 0 v1) (fun j hj => .inr hj.symm.symm)⟩
  · have := blk_set b1 0 v1
    simpa using this
  · refine SlV.kept O1.at (grown_set w1 pb 0 v1) fun b off n c e1 e2 => ?_
    cases e2
    rcases own_cases O1 with ⟨e, _⟩ | ⟨g, cap, cur, e, h1, _⟩
    · rw [e] at e1; cases e1
    · rw [e] at e1; cases e1; omega

theorem PutBox.grow {pb : Nat} {w w' : World} {v : Value} {l : List Int} (h : PutBox pb w v l) (b : Below w.heap.size w w') : PutBox pb w' v l := ⟨(b.block _ (blk_lt h.blk)).trans h.blk, h.row.below b⟩
theorem below_box {B pb : Nat} {w w1 w2 : World} (h : Below B w w1) (hB : B ≤ w1.heap.size) (g : w1.grownBy w2 (some pb)) (hp : B ≤ pb) : Below B w w2 := h.grown g hB (fun j hj => by cases hj; exact hp)

set_option maxHeartbeats 2000000 in
set_option maxRecDepth 100000 in
theorem hput_calls (w : World) (pb : Nat) (v : Value) (l : List Int) (n : Nat) (x : Int) (h : PutBox pb w v l) (hn : n ≤ 8) (x0 : 0 ≤ x) (x1 : x < 18446744073709551616) (hl : l.length ≤ 1000000) :
    Calls Tryz.prog 179 #[.int .i64 n, .int .u64 x, .pointer (some ⟨pb, 0, none⟩)] w (PutC pb w (l ++ putB n x)) := by
  have FC := Lib.hid (fput_calls w v l n x h.row hn x0 x1 hl)
  have c0 : w.cell? ⟨pb, 0, none⟩ = some v := blk_cell h.blk rfl
  have HB := Lib.hid h.blk
  have FI : Hid (∀ v1 w1, BytesOwn w.heap.size w1 v1 (l ++ putB n x) → Below w.heap.size w w1 → w1.cell? ⟨pb, 0, none⟩ = some v ∧ w1.frozen? ⟨pb, 0, none⟩ = false ∧ Hid (PutC pb w (l ++ putB n x) (.returned (.tuple #[])) (w1.setCell ⟨pb, 0, none⟩ v1))) := Lib.hid (fun v1 w1 O1 B1 => ⟨blk_cell ((B1.block _ (blk_lt HB.out)).trans HB.out) rfl, blk_free ((B1.block _ (blk_lt HB.out)).trans HB.out) 0, Lib.hid (PutC.mk' HB.out O1 B1)⟩)
  clear h
  go_enter Tryz.func179, Tryz.ntmps179
  go_wp2_with fail
  refine FC.out.mono ?_
  rintro e w1 ⟨v1, rfl, O1, B1⟩
  obtain ⟨c1, f1, PO⟩ := FI.out v1 w1 O1 B1
  obtain ⟨a1, cp1, rfl, -⟩ := O1.at.get
  generalize (l ++ putB n x).length = m at *
  clear O1 B1 FI FC c0
  go_wp2_with fail
  (try simp only [Exit.inBlock, Exit.then])
  first | go_end0 | refine bodyPost_ret (results_none rfl _ _ _) rfl ?_
  exact PO.out

set_option maxHeartbeats 2000000 in
set_option maxRecDepth 100000 in
theorem bput_calls (w : World) (pb : Nat) (v : Value) (l : List Int) (n : Nat) (x : Int) (h : PutBox pb w v l) (hn : n ≤ 8) (x0 : 0 ≤ x) (x1 : x < 18446744073709551616) (hl : l.length ≤ 1000000) :
    Calls Tryz.prog 175 #[.int .i64 n, .int .u64 x, .pointer (some ⟨pb, 0, none⟩)] w (PutC pb w (l ++ putB n x)) := by
  have FC := Lib.hid (fput_calls w v l n x h.row hn x0 x1 hl)
  have c0 : w.cell? ⟨pb, 0, none⟩ = some v := blk_cell h.blk rfl
  have HB := Lib.hid h.blk
  have FI : Hid (∀ v1 w1, BytesOwn w.heap.size w1 v1 (l ++ putB n x) → Below w.heap.size w w1 → w1.cell? ⟨pb, 0, none⟩ = some v ∧ w1.frozen? ⟨pb, 0, none⟩ = false ∧ Hid (PutC pb w (l ++ putB n x) (.returned (.tuple #[])) (w1.setCell ⟨pb, 0, none⟩ v1))) := Lib.hid (fun v1 w1 O1 B1 => ⟨blk_cell ((B1.block _ (blk_lt HB.out)).trans HB.out) rfl, blk_free ((B1.block _ (blk_lt HB.out)).trans HB.out) 0, Lib.hid (PutC.mk' HB.out O1 B1)⟩)
  clear h
  go_enter Tryz.func175, Tryz.ntmps175
  go_wp2_with fail
  refine FC.out.mono ?_
  rintro e w1 ⟨v1, rfl, O1, B1⟩
  obtain ⟨c1, f1, PO⟩ := FI.out v1 w1 O1 B1
  obtain ⟨a1, cp1, rfl, -⟩ := O1.at.get
  generalize (l ++ putB n x).length = m at *
  clear O1 B1 FI FC c0
  go_wp2_with fail
  (try simp only [Exit.inBlock, Exit.then])
  first | go_end0 | refine bodyPost_ret (results_none rfl _ _ _) rfl ?_
  exact PO.out

set_option maxHeartbeats 4000000 in
set_option maxRecDepth 100000 in
theorem lheader_calls (x : Lsa) (ok : OkL x) (oh : OkH x) (w : World) : Calls Tryz.prog 161 #[.agg (hdE x.typ x.id x.len x.router x.seq x.age x.sum).toArray] w fun e w' => ∃ v, e = .returned v ∧ BytesAt w' v (hdrB x) ∧ Below w.heap.size w w' := by
  obtain ⟨i0, i1, r0, r1, -, -⟩ := ok
  obtain ⟨t0, t1, l0, l1, s0, s1, a0, a1, u0, u1, -, -, -, -⟩ := oh
  unfold hdrB
  obtain ⟨typ, id, len, router, seq, age, sum, border, boundary, la, ln, lc, aa, an, ac, cost, second, fwd, tag⟩ := x
  simp only [hdE] at *
  obtain ⟨W, hW⟩ : ∃ W, (w.alloc (.cells #[.int .i64 typ, .int .u32 id, .int .i64 len, .int .u32 router, .int .i64 seq, .int .i64 age, .int .i64 sum] 37)).alloc (.cells #[.slice none 0 0] 134) = W := ⟨_, rfl⟩
  have B0 : Below w.heap.size w W := by rw [← hW]; exact ((Below.refl _ _).alloc (Nat.le_refl _) _).alloc (by simp) _
  have bx : W.heap[w.heap.size]? = some (.cells #[.int .i64 typ, .int .u32 id, .int .i64 len, .int .u32 router, .int .i64 seq, .int .i64 age, .int .i64 sum] 37 (0, 0)) := by rw [← hW]; exact (alloc_get _ _ _ (by simp)).trans (alloc_new _ _)
  have by' : W.heap[w.heap.size + 1]? = some (.cells #[.slice none 0 0] 134 (0, 0)) := by rw [← hW]; exact blk_new2 _ _ _
  have P0 : Hid (PutBox (w.heap.size + 1) W (.slice none 0 0) []) := Lib.hid ⟨by', ⟨none, 0, rfl, by simp, by simp, fun _ => rfl, fun h => by simp at h⟩⟩
  have HW := Lib.hid hW
  have K0 := Lib.hid B0
  have X0 := Lib.hid bx
  have c0 : W.cell? ⟨w.heap.size, 5, none⟩ = some (.int .i64 age) := blk_cell bx rfl
  clear hW B0 bx by'
  go_enter Tryz.func161, Tryz.ntmps161
  go_upto_region 3 with fail
  rw [HW.out]
  have C0 := Lib.hid (hput_calls W (w.heap.size + 1) (.slice none 0 0) (([] : List Int)) 2 age P0.out (by omega) (by omega) (by omega) (by simp))
  go_wp2_with fail
  refine C0.out.mono ?_
  rintro e w1 ⟨rfl, ⟨v1, Q1⟩, G1⟩
  have P1 := Lib.hid Q1
  have K1 := Lib.hid (below_box K0.out K0.out.size G1 (Nat.le_succ _))
  have X1 := Lib.hid ((G1.block _ (blk_lt X0.out) (by simp)).trans X0.out)
  have c1 : w1.cell? ⟨w.heap.size, 0, none⟩ = some (.int .i64 typ) := blk_cell X1.out rfl
  clear Q1 G1 C0 c0 X0 K0 P0
  have C1 := Lib.hid (hput_calls w1 (w.heap.size + 1) v1 (([] : List Int) ++ putB 2 age) 1 typ P1.out (by omega) (by omega) (by omega) (by simp [putB_len]))
  go_wp2_with fail
  refine C1.out.mono ?_
  rintro e w2 ⟨rfl, ⟨v2, Q2⟩, G2⟩
  have P2 := Lib.hid Q2
  have K2 := Lib.hid (below_box K1.out K1.out.size G2 (Nat.le_succ _))
  have X2 := Lib.hid ((G2.block _ (blk_lt X1.out) (by simp)).trans X1.out)
  have c2 : w2.cell? ⟨w.heap.size, 2, none⟩ = some (.int .i64 len) := blk_cell X2.out rfl
  clear Q2 G2 C1 c1 X1 K1 P1
  have C2 := Lib.hid (hput_calls w2 (w.heap.size + 1) v2 (([] : List Int) ++ putB 2 age ++ putB 1 typ) 1 len P2.out (by omega) (by omega) (by omega) (by simp [putB_len]))
  go_wp2_with fail
  refine C2.out.mono ?_
  rintro e w3 ⟨rfl, ⟨v3, Q3⟩, G3⟩
  have P3 := Lib.hid Q3
  have K3 := Lib.hid (below_box K2.out K2.out.size G3 (Nat.le_succ _))
  have X3 := Lib.hid ((G3.block _ (blk_lt X2.out) (by simp)).trans X2.out)
  have c3 : w3.cell? ⟨w.heap.size, 1, none⟩ = some (.int .u32 id) := blk_cell X3.out rfl
  clear Q3 G3 C2 c2 X2 K2 P2
  have C3 := Lib.hid (hput_calls w3 (w.heap.size + 1) v3 (([] : List Int) ++ putB 2 age ++ putB 1 typ ++ putB 1 len) 4 id P3.out (by omega) (by omega) (by omega) (by simp [putB_len]))
  go_wp2_with fail
  refine C3.out.mono ?_
  rintro e w4 ⟨rfl, ⟨v4, Q4⟩, G4⟩
  have P4 := Lib.hid Q4
  have K4 := Lib.hid (below_box K3.out K3.out.size G4 (Nat.le_succ _))
  have X4 := Lib.hid ((G4.block _ (blk_lt X3.out) (by simp)).trans X3.out)
  have c4 : w4.cell? ⟨w.heap.size, 3, none⟩ = some (.int .u32 router) := blk_cell X4.out rfl
  clear Q4 G4 C3 c3 X3 K3 P3
  have C4 := Lib.hid (hput_calls w4 (w.heap.size + 1) v4 (([] : List Int) ++ putB 2 age ++ putB 1 typ ++ putB 1 len ++ putB 4 id) 4 router P4.out (by omega) (by omega) (by omega) (by simp [putB_len]))
  go_wp2_with fail
  refine C4.out.mono ?_
  rintro e w5 ⟨rfl, ⟨v5, Q5⟩, G5⟩
  have P5 := Lib.hid Q5
  have K5 := Lib.hid (below_box K4.out K4.out.size G5 (Nat.le_succ _))
  have X5 := Lib.hid ((G5.block _ (blk_lt X4.out) (by simp)).trans X4.out)
  have c5 : w5.cell? ⟨w.heap.size, 4, none⟩ = some (.int .i64 seq) := blk_cell X5.out rfl
  clear Q5 G5 C4 c4 X4 K4 P4
  have C5 := Lib.hid (hput_calls w5 (w.heap.size + 1) v5 (([] : List Int) ++ putB 2 age ++ putB 1 typ ++ putB 1 len ++ putB 4 id ++ putB 4 router) 4 seq P5.out (by omega) (by omega) (by omega) (by simp [putB_len]))
  go_wp2_with fail
  refine C5.out.mono ?_
  rintro e w6 ⟨rfl, ⟨v6, Q6⟩, G6⟩
  have P6 := Lib.hid Q6
  have K6 := Lib.hid (below_box K5.out K5.out.size G6 (Nat.le_succ _))
  have X6 := Lib.hid ((G6.block _ (blk_lt X5.out) (by simp)).trans X5.out)
  have c6 : w6.cell? ⟨w.heap.size, 6, none⟩ = some (.int .i64 sum) := blk_cell X6.out rfl
  clear Q6 G6 C5 c5 X5 K5 P5
  have C6 := Lib.hid (hput_calls w6 (w.heap.size + 1) v6 (([] : List Int) ++ putB 2 age ++ putB 1 typ ++ putB 1 len ++ putB 4 id ++ putB 4 router ++ putB 4 seq) 2 sum P6.out (by omega) (by omega) (by omega) (by simp [putB_len]))
  go_wp2_with fail
  refine C6.out.mono ?_
  rintro e w7 ⟨rfl, ⟨v7, Q7⟩, G7⟩
  have P7 := Lib.hid Q7
  have K7 := Lib.hid (below_box K6.out K6.out.size G7 (Nat.le_succ _))
  have X7 := Lib.hid ((G7.block _ (blk_lt X6.out) (by simp)).trans X6.out)
  have c7 : w7.cell? ⟨w.heap.size + 1, 0, none⟩ = some v7 := blk_cell P7.out.blk rfl
  clear Q7 G7 C6 c6 X6 K6 P6
  go_wp2_with fail
  go_ret
  exact ⟨_, rfl, by have := P7.out.row; simpa using this, K7.out⟩

end Go.Proofs.YtddageahmgaigaaGreat
