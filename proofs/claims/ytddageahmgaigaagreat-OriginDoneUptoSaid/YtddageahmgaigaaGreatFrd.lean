import Derived.Test.YtddageahmgaigaaGreatPlp
import Derived.Test.YtddageahmgaigaaGreatLhd
import Derived.Test.YtddageahmgaigaaGreatRtp
import Derived.Laws.OwnMore
import Derived.Laws.IdiomCopy
import Derived.Lib.EndianMore
import Derived.Deep.DeepCutAuto
namespace Go.Proofs.YtddageahmgaigaaGreat
open Go.RowKit

def setsAt (xs : List Value) (o : Nat) : List Value → List Value
  | [] => xs
  | v :: r => setsAt (xs.set o v) (o + 1) r
theorem setsAt_mid : ∀ (c d p r : List Value), c.length = d.length → setsAt (p ++ (d ++ r)) p.length c = p ++ (c ++ r)
  | [], [], p, r, _ => rfl
  | [], _ :: _, _, _, h => by simp at h
  | _ :: _, [], _, _, h => by simp at h
  | v :: c, u :: d, p, r, h => by
    have e : (p ++ (u :: d ++ r)).set p.length v = (p ++ [v]) ++ (d ++ r) := by
      rw [List.set_append, if_neg (Nat.lt_irrefl _), Nat.sub_self]
      simp
    have ih := setsAt_mid c d (p ++ [v]) r (by simpa using h)
    rw [List.length_append, List.length_singleton] at ih
    show setsAt ((p ++ (u :: d ++ r)).set p.length v) (p.length + 1) c = _
    rw [e, ih]
    simp
theorem setsAt_flat {k : Nat} (css : List (List Value)) (hk : ∀ c ∈ css, c.length = k) (i : Nat) (hi : i < css.length) (c : List Value) (hc : c.length = k) : setsAt css.flatten (i * k) c = (css.set i c).flatten := by
  have e : css = css.take i ++ css[i] :: css.drop (i + 1) := by rw [← List.drop_eq_getElem_cons hi, List.take_append_drop]
  have hl : (css.take i).flatten.length = i * k := by
    rw [flat_len (css.take i) (fun c h => hk c (List.mem_of_mem_take h)), List.length_take, Nat.min_eq_left (Nat.le_of_lt hi)]
  have h1 := setsAt_mid c css[i] (css.take i).flatten (css.drop (i + 1)).flatten (by rw [hc, hk _ (List.getElem_mem hi)])
  rw [hl] at h1
  rw [List.set_eq_take_append_cons_drop, if_pos hi, List.flatten_append, List.flatten_cons, ← h1]
  congr 1
  conv => lhs; rw [e]
  rw [List.flatten_append, List.flatten_cons]

def setLsaAt (W : World) (b o : Nat) (x : Lsa) : World := ((((((((((((((W.setCell ⟨b, o, none⟩ (.int .i64 x.typ)).setCell ⟨b, o + 1, none⟩ (.int .u32 x.id)).setCell ⟨b, o + 2, none⟩ (.int .i64 x.len)).setCell ⟨b, o + 3, none⟩ (.int .u32 x.router)).setCell ⟨b, o + 4, none⟩ (.int .i64 x.seq)).setCell ⟨b, o + 5, none⟩ (.int .i64 x.age)).setCell ⟨b, o + 6, none⟩ (.int .i64 x.sum)).setCell ⟨b, o + 7, none⟩ (.bool x.border)).setCell ⟨b, o + 8, none⟩ (.bool x.boundary)).setCell ⟨b, o + 9, none⟩ (.slice x.la x.ln x.lc)).setCell ⟨b, o + 10, none⟩ (.slice x.aa x.an x.ac)).setCell ⟨b, o + 11, none⟩ (.int .i64 x.cost)).setCell ⟨b, o + 12, none⟩ (.bool x.second)).setCell ⟨b, o + 13, none⟩ (.int .u32 x.fwd)).setCell ⟨b, o + 14, none⟩ (.int .i64 x.tag)
theorem setLsaAt_grown (W : World) (b o : Nat) (x : Lsa) : W.grownBy (setLsaAt W b o x) (some b) := by
  have h := fun W o u => grown_set W b o u
  have q : ∀ j : Nat, some b = some j → W.heap.size ≤ j ∨ some b = some j := fun j hj => .inr hj
  unfold setLsaAt
  exact (((((((((((((((h _ (o) (.int .i64 x.typ)).andThen (h _ (o + 1) (.int .u32 x.id)) q).andThen (h _ (o + 2) (.int .i64 x.len)) q).andThen (h _ (o + 3) (.int .u32 x.router)) q).andThen (h _ (o + 4) (.int .i64 x.seq)) q).andThen (h _ (o + 5) (.int .i64 x.age)) q).andThen (h _ (o + 6) (.int .i64 x.sum)) q).andThen (h _ (o + 7) (.bool x.border)) q).andThen (h _ (o + 8) (.bool x.boundary)) q).andThen (h _ (o + 9) (.slice x.la x.ln x.lc)) q).andThen (h _ (o + 10) (.slice x.aa x.an x.ac)) q).andThen (h _ (o + 11) (.int .i64 x.cost)) q).andThen (h _ (o + 12) (.bool x.second)) q).andThen (h _ (o + 13) (.int .u32 x.fwd)) q).andThen (h _ (o + 14) (.int .i64 x.tag)) q)
theorem LsaRow.set {base : Nat} {w : World} {g cap n i : Nat} {ys : List Lsa} {y : Lsa} (h : LsaRow base w (.slice (some ⟨g, 0, none⟩) n cap) ys) (hn : ys.length = n) (hi : i < n) :
    LsaRow base (setLsaAt w g (i * 15) y) (.slice (some ⟨g, 0, none⟩) n cap) (ys.set i y) := by
  subst hn
  unfold LsaRow at h ⊢
  have h0 := h.stored (i * 15) (.int .i64 y.typ)
  have h1 := h0.1.stored (i * 15 + 1) (.int .u32 y.id)
  have h2 := h1.1.stored (i * 15 + 2) (.int .i64 y.len)
  have h3 := h2.1.stored (i * 15 + 3) (.int .u32 y.router)
  have h4 := h3.1.stored (i * 15 + 4) (.int .i64 y.seq)
  have h5 := h4.1.stored (i * 15 + 5) (.int .i64 y.age)
  have h6 := h5.1.stored (i * 15 + 6) (.int .i64 y.sum)
  have h7 := h6.1.stored (i * 15 + 7) (.bool y.border)
  have h8 := h7.1.stored (i * 15 + 8) (.bool y.boundary)
  have h9 := h8.1.stored (i * 15 + 9) (.slice y.la y.ln y.lc)
  have h10 := h9.1.stored (i * 15 + 10) (.slice y.aa y.an y.ac)
  have h11 := h10.1.stored (i * 15 + 11) (.int .i64 y.cost)
  have h12 := h11.1.stored (i * 15 + 12) (.bool y.second)
  have h13 := h12.1.stored (i * 15 + 13) (.int .u32 y.fwd)
  have h14 := h13.1.stored (i * 15 + 14) (.int .i64 y.tag)
  have e := setsAt_flat (k := 15) (ys.map lsaE) (lsaE_len ys) i (by simpa using hi) (lsaE y) rfl
  rw [List.length_set, List.map_set, ← e]
  exact h14.1

theorem LsaRow.gr {base : Nat} {w w' : World} {v : Value} {ys : List Lsa} (h : LsaRow base w v ys) (hb : Below w.heap.size w w') : LsaRow base w' v ys :=
  World.ownsRow.kept (row := none) h (grown_of_below hb none) (by cases v.ownBlock <;> simp)
theorem LsaRow.at {base : Nat} {w : World} {v : Value} {ys : List Lsa} (h : LsaRow base w v ys) : LsasAt w v ys := by
  unfold LsasAt
  refine SlV.of_own (base := base) (e := 42) (lsaE_len ys) ?_
  rw [List.length_map]; exact h
theorem LsaRow.cells {base : Nat} {w : World} {g n cap i : Nat} {ys : List Lsa} (h : LsaRow base w (.slice (some ⟨g, 0, none⟩) n cap) ys) (hn : ys.length = n) (hi : i < ys.length) : LsaCells w g (i * 15) ys[i] ∧ ∀ j, w.frozen? ⟨g, j, none⟩ = false := by
  subst hn
  obtain ⟨a, c, e, -, hc⟩ := (LsaRow.at h).get
  obtain ⟨b, off, e2, hb, hcc⟩ := hc (by omega)
  simp only [Value.slice.injEq] at e
  obtain ⟨e, -, -⟩ := e
  rw [e2] at e
  cases e
  have := hcc i hi
  rw [Nat.zero_add] at this
  exact ⟨this, fun j => World.ownsRow.frozenAt h j⟩

theorem LsaRow.frozen {base : Nat} {w : World} {g n cap : Nat} {ys : List Lsa} (h : LsaRow base w (.slice (some ⟨g, 0, none⟩) n cap) ys) (hn : ys.length = n) (j : Nat) : w.frozen? ⟨g, j, none⟩ = false := by
  subst hn
  exact World.ownsRow.frozenAt h j

theorem made_lsa (n : Nat) : (madeCells (lsaE lsaZ).toArray (n * 15)).toList = ((List.replicate n lsaZ).map lsaE).flatten := by
  have hk : ∀ c ∈ (List.replicate n lsaZ).map lsaE, c.length = 15 := lsaE_len _
  have hfl := flat_len _ hk
  rw [List.length_map, List.length_replicate] at hfl
  apply List.ext_getElem?
  intro j
  by_cases c : j < n * 15
  · have h1 : ((List.replicate n lsaZ).map lsaE).flatten[j / 15 * 15 + j % 15]? = (lsaE lsaZ)[j % 15]? := by
      have hl : j % 15 < (lsaE lsaZ).length := Nat.mod_lt _ (by decide)
      rw [List.getElem?_eq_getElem hl]
      refine flat_get _ hk (j / 15) (by rw [List.length_map, List.length_replicate]; omega) (j % 15) _ ?_
      simp only [List.getElem_map, List.getElem_replicate]
      rw [List.getElem?_eq_getElem hl]
    rw [show j / 15 * 15 + j % 15 = j from by omega] at h1
    rw [h1]
    have hl : j % 15 < (lsaE lsaZ).length := Nat.mod_lt _ (by decide)
    have hz : (lsaE lsaZ).toArray.size = 15 := rfl
    simp only [madeCells, Array.toList_map, Array.toList_range, List.getElem?_map, List.getElem?_range c, Option.map_some]
    rw [hz, List.getElem?_eq_getElem hl, getElem!_pos _ _ (by rw [hz]; exact Nat.mod_lt _ (by decide))]
    simp
  · rw [List.getElem?_eq_none (by simp [madeCells]; omega), List.getElem?_eq_none (by rw [hfl]; omega)]

theorem run_madeLsa (W : World) (n : Nat) (hn : n ≤ 1048576) : (Instr.makeSlice 29 (.int .i64 (n : Int)) (.int .i64 (n : Int))).run Tryz.prog W = .ok (.slice (some ⟨W.heap.size, 0, none⟩) n n) (W.alloc (.cells (madeCells (lsaE lsaZ).toArray (n * 15)) 42)) := by
  obtain ⟨i, hi, hz0, hz1, hz2⟩ := info_parts Tryz.infoLsa
  have h := run_make (P := Tryz.prog) W 29 42 i _ Tryz.underlying29 hi hz0 .i64 .i64 (n : Int) (n : Int) (by omega) (Int.le_refl _) (by rw [hz2]; omega) (by omega)
  rw [hz1] at h
  simp only [Int.toNat_natCast] at h
  exact h

def CopPost (w : World) (db : List LsaD) (e : Ending) (w' : World) : Prop :=
  ∃ (g : Nat) (xs : List LsaD), e = .returned (.slice (some ⟨g, 0, none⟩) db.length db.length) ∧ w.heap.size ≤ g ∧ LsaRow w.heap.size w' (.slice (some ⟨g, 0, none⟩) db.length db.length) (xs.map LsaD.x) ∧ xs.map nrm = db.map nrm ∧
    (∀ d ∈ xs, (LnksAt w' (.slice d.x.la d.x.ln d.x.lc) d.lk ∧ WordsAt w' (.slice d.x.aa d.x.an d.x.ac) d.att) ∧ Fr (g + 1) (.slice d.x.la d.x.ln d.x.lc) ∧ Fr (g + 1) (.slice d.x.aa d.x.an d.x.ac)) ∧ Below w.heap.size w w'

structure CoR (w : World) (db : List LsaD) (g i : Nat) (xs : List LsaD) (wr : World) : Prop where
  hi : i ≤ db.length
  ln : xs.length = i
  row : LsaRow w.heap.size wr (.slice (some ⟨g, 0, none⟩) db.length db.length) (xs.map LsaD.x ++ List.replicate (db.length - i) lsaZ)
  eq : xs.map nrm = (db.take i).map nrm
  deep : ∀ d ∈ xs, (LnksAt wr (.slice d.x.la d.x.ln d.x.lc) d.lk ∧ WordsAt wr (.slice d.x.aa d.x.an d.x.ac) d.att) ∧ Fr (g + 1) (.slice d.x.la d.x.ln d.x.lc) ∧ Fr (g + 1) (.slice d.x.aa d.x.an d.x.ac)
  bel : Below w.heap.size w wr
  hg : w.heap.size ≤ g
  gl : g < wr.heap.size
theorem CoR.rl {w : World} {db : List LsaD} {g i : Nat} {xs : List LsaD} {wr : World} (R : CoR w db g i xs wr) : (xs.map LsaD.x ++ List.replicate (db.length - i) lsaZ).length = db.length := by
  have := R.ln; have := R.hi
  rw [List.length_append, List.length_map, List.length_replicate]; omega
theorem CoR.grow {w : World} {db : List LsaD} {g i : Nat} {xs : List LsaD} {wr w' : World} (R : CoR w db g i xs wr) (hb : Below wr.heap.size wr w') : CoR w db g i xs w' :=
  ⟨R.hi, R.ln, R.row.gr hb, R.eq, fun d hd => ⟨⟨(R.deep d hd).1.1.below hb, (R.deep d hd).1.2.below hb⟩, (R.deep d hd).2⟩, R.bel.trans (hb.mono R.bel.size), R.hg, Nat.lt_of_lt_of_le R.gl hb.size⟩
theorem CoR.step {w : World} {db : List LsaD} {g i : Nat} {xs : List LsaD} {wr : World} (R : CoR w db g i xs wr) (c : i < db.length) {y : LsaD} (hy : nrm y = nrm db[i]) (h1 : LnksAt wr (.slice y.x.la y.x.ln y.x.lc) y.lk) (h2 : WordsAt wr (.slice y.x.aa y.x.an y.x.ac) y.att) (f1 : Fr (g + 1) (.slice y.x.la y.x.ln y.x.lc)) (f2 : Fr (g + 1) (.slice y.x.aa y.x.an y.x.ac)) :
    CoR w db g (i + 1) (xs ++ [y]) (setLsaAt wr g (i * 15) y.x) := by
  have gs := setLsaAt_grown wr g (i * 15) y.x
  refine ⟨c, by rw [List.length_append, R.ln]; rfl, ?_, ?_, ?_, R.bel.grown gs R.bel.size (fun j hj => by cases hj; exact R.hg), R.hg, Nat.lt_of_lt_of_le R.gl gs.size⟩
  · have h := LsaRow.set (y := y.x) R.row R.rl c
    have e : (xs.map LsaD.x ++ List.replicate (db.length - i) lsaZ).set i y.x = (xs ++ [y]).map LsaD.x ++ List.replicate (db.length - (i + 1)) lsaZ := by
      rw [List.set_append, if_neg (by rw [List.length_map, R.ln]; exact Nat.lt_irrefl _), List.length_map, R.ln, Nat.sub_self, show db.length - i = (db.length - (i + 1)) + 1 from by omega, List.replicate_succ, List.set_cons_zero, List.map_append]
      simp
    rw [e] at h; exact h
  · rw [List.map_append, R.eq, List.take_succ_eq_append_getElem c, List.map_append]
    simp [hy]
  · intro d hd
    rcases List.mem_append.1 hd with hd | hd
    · have := R.deep d hd
      exact ⟨⟨this.1.1.far this.2.1 (Nat.lt_succ_self g) gs, this.1.2.far this.2.2 (Nat.lt_succ_self g) gs⟩, this.2⟩
    · obtain rfl := List.mem_singleton.1 hd
      exact ⟨⟨h1.far f1 (Nat.lt_succ_self g) gs, h2.far f2 (Nat.lt_succ_self g) gs⟩, f1, f2⟩

set_option maxHeartbeats 16000000 in
set_option maxRecDepth 100000 in
theorem copied_calls (w : World) (v : Value) (db : List LsaD) (R : DRow w v db) (hl : ∀ d ∈ db, d.lk.length ≤ 1048576 ∧ d.att.length ≤ 1048576) (hn : db.length ≤ 1048576) : Calls Tryz.prog 94 #[v] w (CopPost w db) := by
  obtain ⟨a1, c1, rfl, hlen, hc1⟩ := R.row.get
  have CL := Lib.hid (fun k (c : k < db.length) W (hb : Below w.heap.size w W) => lclone_calls db[k].x db[k].lk db[k].att W ⟨(R.deep _ (List.getElem_mem c)).1.below hb, (R.deep _ (List.getElem_mem c)).2.below hb, (hl _ (List.getElem_mem c)).1, (hl _ (List.getElem_mem c)).2⟩)
  have MK := fun W => run_madeLsa W db.length hn
  have ST : Hid (CoR w db w.heap.size 0 [] (w.alloc (.cells (madeCells (lsaE lsaZ).toArray (db.length * 15)) 42))) := Lib.hid ⟨Nat.zero_le _, rfl, by
    have h := World.ownsRow_lit (base := w.heap.size) (e := 42) (size := 15) w (madeCells (lsaE lsaZ).toArray (db.length * 15)) db.length (Nat.le_refl _) (by unfold maxLen; omega) (by simp [madeCells])
    rw [made_lsa] at h
    unfold LsaRow
    simpa using h, by simp, (fun d h => by cases h), (Below.refl _ _).alloc (Nat.le_refl _) _, Nat.le_refl _, by simp⟩
  have FIN := Lib.hid (fun (xs : List LsaD) (wr : World) (r : CoR w db w.heap.size db.length xs wr) => (⟨w.heap.size, xs, rfl, Nat.le_refl _, by
    have h := r.row
    rw [Nat.sub_self, List.replicate_zero, List.append_nil] at h
    exact h, by have h := r.eq; rwa [List.take_length] at h, r.deep, r.bel⟩ : CopPost w db (.returned (.slice (some ⟨w.heap.size, 0, none⟩) db.length db.length)) wr))
  have HCC := Lib.hid (fun k (ck : k < db.length) => (by
    obtain ⟨b, off, ea, hb, hcc⟩ := hc1 (by rw [List.length_map]; omega)
    have h := hcc k (by rw [List.length_map]; exact ck)
    rw [List.getElem_map] at h
    exact ⟨b, off, ea, hb, h⟩ : ∃ b off, a1 = some ⟨b, off, none⟩ ∧ b < w.heap.size ∧ LsaCells w b (off + k * 15) db[k].x))
  rw [List.length_map] at hlen ⊢
  obtain ⟨C0, hC0⟩ : ∃ C0, madeCells (lsaE lsaZ).toArray (db.length * 15) = C0 := ⟨_, rfl⟩
  rw [hC0] at ST
  simp only [hC0] at MK
  clear R hl hc1 hC0
  go_enter Tryz.func94, Tryz.ntmps94
  go_wp2_with fail
  clear MK
  go_loopw [11] (fun ix wr => ∃ (k : Nat) (xs : List LsaD), ix = .int .i64 k ∧ Hid (CoR w db w.heap.size k xs wr)) (fun ix _ => db.length - (intOf ix).toNat)
  case atStart => exact ⟨0, [], rfl, ST⟩
  case round =>
    clear ST
    obtain ⟨k, xs, rfl, R⟩ := hrel
    have hk := R.out.hi
    by_cases ck : k < db.length
    · obtain ⟨b1, o1, rfl, hb1, hcc1⟩ := HCC.out k ck
      obtain ⟨WO, eWO⟩ : ∃ x, x = wr := ⟨_, rfl⟩
      subst eWO
      have hcc2 := hcc1.below R.out.bel hb1
      obtain ⟨⟨d0, d1, d2, d3, d4⟩, ⟨d5, d6, d7, d8, d9⟩, ⟨d10, d11, d12, d13, d14⟩⟩ := hcc2
      have CLk := Lib.hid (CL.out k ck)
      have STEP := Lib.hid (fun (W : World) (R' : CoR w db w.heap.size k xs W) (y : LsaD) hy h1 h2 f1 f2 => R'.step ck (y := y) hy h1 h2 f1 f2)
      have KC := Lib.hid ck
      have i0 : (0 : Int) ≤ (k : Int) := by omega
      have i1 : (k : Int) < (db.length : Int) := by omega
      have s3 : ((k : Int)).toNat = k := by omega
      clear hcc1
      generalize db[k] = d at *
      clear ck
      obtain ⟨⟨xtyp, xid, xlen, xrouter, xseq, xage, xsum, xborder, xboundary, xla, xln, xlc, xaa, xan, xac, xcost, xsecond, xfwd, xtag⟩, lk, att⟩ := d
      simp only at d0 d1 d2 d3 d4 d5 d6 d7 d8 d9 d10 d11 d12 d13 d14
      simp only [lsaE] at CLk
      go_upto_region 5 with fail
      generalize hW5 : WO.alloc _ = W5
      have B5 : Below WO.heap.size WO W5 := by rw [← hW5]; exact (Below.refl _ _).alloc (Nat.le_refl _) _
      have b5 : W5.heap[WO.heap.size]? = some (.cells #[.int .i64 xtyp, .int .u32 xid, .int .i64 xlen, .int .u32 xrouter, .int .i64 xseq, .int .i64 xage, .int .i64 xsum, .bool xborder, .bool xboundary, .slice xla xln xlc, .slice xaa xan xac, .int .i64 xcost, .bool xsecond, .int .u32 xfwd, .int .i64 xtag] 42 (0, 0)) := by rw [← hW5]; exact alloc_new _ _
      have R5 := Lib.hid (R.out.grow B5)
      have CL5 := Lib.hid (CLk.out W5 R5.out.bel)
      obtain ⟨⟨⟨e0, e1, e2, e3, e4⟩, ⟨e5, e6, e7, e8, e9⟩, ⟨e10, e11, e12, e13, e14⟩⟩, -⟩ := blk15 b5
      clear hW5 B5 b5 d0 d1 d2 d3 d4 d5 d6 d7 d8 d9 d10 d11 d12 d13 d14 R CLk
      go_wp2_with fail
      refine CL5.out.mono ?_
      rintro e w8 ⟨la, lc, aa, ac, rfl, LA, WA, B8, FL, FA⟩
      have R8 := R5.out.grow B8
      obtain ⟨⟨⟨z0, z1, z2, z3, z4⟩, ⟨z5, z6, z7, z8, z9⟩, ⟨z10, z11, z12, z13, z14⟩⟩, zf⟩ := LsaRow.cells R8.row R8.rl (i := k) (by rw [R8.rl]; exact KC.out)
      obtain ⟨W', hW'⟩ : ∃ W', setLsaAt w8 w.heap.size (k * 15) (atL ⟨xtyp, xid, xlen, xrouter, xseq, xage, xsum, xborder, xboundary, xla, xln, xlc, xaa, xan, xac, xcost, xsecond, xfwd, xtag⟩ la lc aa ac) = W' := ⟨_, rfl⟩
      have NX : Hid (CoR w db w.heap.size (k + 1) (xs ++ [⟨atL ⟨xtyp, xid, xlen, xrouter, xseq, xage, xsum, xborder, xboundary, xla, xln, xlc, xaa, xan, xac, xcost, xsecond, xfwd, xtag⟩ la lc aa ac, lk, att⟩]) W') := Lib.hid (by rw [← hW']; exact STEP.out w8 R8 ⟨atL ⟨xtyp, xid, xlen, xrouter, xseq, xage, xsum, xborder, xboundary, xla, xln, xlc, xaa, xan, xac, xcost, xsecond, xfwd, xtag⟩ la lc aa ac, lk, att⟩ rfl LA WA (FL.mono R5.out.gl) (FA.mono R5.out.gl))
      unfold setLsaAt at hW'
      simp only [atL] at hW'
      have HW' := Lib.hid hW'
      have zf0 := zf (k * 15)
      have zf1 := zf (k * 15 + 1)
      have zf2 := zf (k * 15 + 2)
      have zf3 := zf (k * 15 + 3)
      have zf4 := zf (k * 15 + 4)
      have zf5 := zf (k * 15 + 5)
      have zf6 := zf (k * 15 + 6)
      have zf7 := zf (k * 15 + 7)
      have zf8 := zf (k * 15 + 8)
      have zf9 := zf (k * 15 + 9)
      have zf10 := zf (k * 15 + 10)
      have zf11 := zf (k * 15 + 11)
      have zf12 := zf (k * 15 + 12)
      have zf13 := zf (k * 15 + 13)
      have zf14 := zf (k * 15 + 14)
      simp only [lsaE, atL]
      clear hW' LA WA B8 FL FA R5 CL5 STEP zf e0 e1 e2 e3 e4 e5 e6 e7 e8 e9 e10 e11 e12 e13 e14
      go_wp2_with fail
      rw [HW'.out]
      go_roundw
      case rel => exact ⟨k + 1, _, by go_num, NX⟩
      case measure => simp [intOf]; have := KC.out; omega
    · obtain rfl : k = db.length := by omega
      have FI := Lib.hid (FIN.out xs wr R.out)
      clear R FIN
      go_wp2_with fail
      go_ret
      exact FI.out

end Go.Proofs.YtddageahmgaigaaGreat

namespace Go.Proofs.YtddageahmgaigaaGreat
open Go.RowKit

theorem setCells_grown (g : Nat) : ∀ (vs : List Value) (o : Nat) (w : World), w.grownBy (w.setCells g o vs) (some g)
  | [], _, w => World.grownBy.refl w _
  | v :: r, o, w => World.grownBy.trans (grown_set w g o v) (setCells_grown g r (o + 1) _)

theorem run_clear_lsa (W : World) (ty : TypeId) (g o n c : Nat) (hn : 0 < n) (hc : ∀ j, j < n * 15 → (W.cell? ⟨g, o + j, none⟩).isSome = true) (hf : ∀ j, W.frozen? ⟨g, j, none⟩ = false) :
    ∃ W', (Builtin.clear_ #[29] ty #[.slice (some ⟨g, o, none⟩) n c]).run Tryz.prog W = .ok (.tuple #[]) W' ∧ W.grownBy W' (some g) ∧ ∀ j, j < o → W'.cell? ⟨g, j, none⟩ = W.cell? ⟨g, j, none⟩ := by
  obtain ⟨vs, hvs⟩ : ∃ vs, (Builtin.zeroCells (lsaE lsaZ).toArray n).toList = vs := ⟨_, rfl⟩
  have hlen : vs.length = n * 15 := by rw [← hvs]; simp [Builtin.zeroCells, lsaE]
  have h1 : ∀ v ∈ vs, v.oneCell' = true := by
    intro v hv
    rw [← hvs] at hv
    simp only [Builtin.zeroCells, Array.toList_map, Array.toList_range, List.mem_map, List.mem_range] at hv
    obtain ⟨i, -, rfl⟩ := hv
    have hl : i % (lsaE lsaZ).toArray.size < (lsaE lsaZ).toArray.size := Nat.mod_lt _ (by decide)
    rw [getElem!_pos (lsaE lsaZ).toArray _ hl]
    exact lsaE_one lsaZ _ (by simp)
  have hst := run_storeCells_cells (P := Tryz.prog) g o vs 0 W (by rw [hlen]; simpa using hc) (fun j _ => hf _) h1
  rw [Nat.add_zero] at hst
  have hz : ∀ w, (zeroValue 42).run Tryz.prog w = .ok (.agg (lsaE lsaZ).toArray) w := by
    intro w
    obtain ⟨i, hi, hz0, -, -⟩ := info_parts Tryz.infoLsa
    simp [zeroValue, typeInfo, hi, hz0]
    rfl
  refine ⟨W.setCells g o vs, ?_, setCells_grown g vs o W, fun j hj => World.cell?_setCells_out g vs o W _ (fun _ _ => .inl hj)⟩
  obtain ⟨m, rfl⟩ : ∃ m, n = m + 1 := ⟨n - 1, by omega⟩
  have hcs : (Value.agg (lsaE lsaZ).toArray).cells = (lsaE lsaZ).toArray := rfl
  simp only [Builtin.clear_]
  simp [run_underlying Tryz.underlying29, hz, hcs, hvs, hst]

def ownD (rt : Int) (d : LsaD) : Bool := decide (d.x.router = rt)

structure DelR (base : Nat) (w : World) (g n : Nat) (xs : List LsaD) (rt : Int) (i j : Nat) (wr : World) : Prop where
  rows : ∃ rows : List Lsa, rows.length = n ∧ LsaRow base wr (.slice (some ⟨g, 0, none⟩) n n) rows ∧ rows.take i = ((xs.take j).filter (ownD rt)).map LsaD.x ∧ rows.drop j = (xs.drop j).map LsaD.x
  hij : i < j
  hj : j ≤ n
  hi : i = ((xs.take j).filter (ownD rt)).length
  gr : w.grownBy wr (some g)

theorem DelR.get {base : Nat} {w : World} {g n : Nat} {xs : List LsaD} {rt : Int} {i j : Nat} {wr : World} (R : DelR base w g n xs rt i j wr) (hx : xs.length = n) (c : j < n) : LsaCells wr g (j * 15) xs[j].x ∧ ∀ k, wr.frozen? ⟨g, k, none⟩ = false := by
  obtain ⟨rows, h1, h2, -, h4⟩ := R.rows
  have h := LsaRow.cells (i := j) h2 h1 (by omega)
  have e : rows[j]'(by omega) = xs[j].x := by
    rw [List.drop_eq_getElem_cons (by omega : j < rows.length), List.drop_eq_getElem_cons (by omega : j < xs.length), List.map_cons] at h4
    exact (List.cons.inj h4).1
  rw [e] at h
  exact h
theorem DelR.getw {base : Nat} {w : World} {g n : Nat} {xs : List LsaD} {rt : Int} {i j : Nat} {wr : World} (R : DelR base w g n xs rt i j wr) (c : i < n) : ∃ y : Lsa, LsaCells wr g (i * 15) y := by
  obtain ⟨rows, h1, h2, -, -⟩ := R.rows
  exact ⟨_, (LsaRow.cells (i := i) h2 h1 (by omega)).1⟩
theorem DelR.grow {base : Nat} {w : World} {g n : Nat} {xs : List LsaD} {rt : Int} {i j : Nat} {wr w' : World} (R : DelR base w g n xs rt i j wr) (hb : Below wr.heap.size wr w') : DelR base w g n xs rt i j w' := by
  obtain ⟨rows, h1, h2, h3, h4⟩ := R.rows
  exact ⟨⟨rows, h1, h2.gr hb, h3, h4⟩, R.hij, R.hj, R.hi, grown_below R.gr hb⟩
theorem DelR.drop {base : Nat} {w : World} {g n : Nat} {xs : List LsaD} {rt : Int} {i j : Nat} {wr : World} (R : DelR base w g n xs rt i j wr) (hx : xs.length = n) (c : j < n) (h : xs[j].x.router ≠ rt) : DelR base w g n xs rt i (j + 1) wr := by
  obtain ⟨rows, h1, h2, h3, h4⟩ := R.rows
  have e : (xs.take (j + 1)).filter (ownD rt) = (xs.take j).filter (ownD rt) := by
    rw [List.take_succ_eq_append_getElem (by omega), List.filter_append, List.filter_cons_of_neg (by simp [ownD, h]), List.filter_nil, List.append_nil]
  refine ⟨⟨rows, h1, h2, by rw [e]; exact h3, ?_⟩, Nat.lt_succ_of_lt R.hij, c, by rw [e]; exact R.hi, R.gr⟩
  rw [List.drop_eq_getElem_cons (by omega : j < rows.length), List.drop_eq_getElem_cons (by omega : j < xs.length), List.map_cons] at h4
  exact (List.cons.inj h4).2
theorem DelR.keep {base : Nat} {w : World} {g n : Nat} {xs : List LsaD} {rt : Int} {i j : Nat} {wr : World} (R : DelR base w g n xs rt i j wr) (hx : xs.length = n) (c : j < n) (h : xs[j].x.router = rt) : DelR base w g n xs rt (i + 1) (j + 1) (setLsaAt wr g (i * 15) xs[j].x) := by
  obtain ⟨rows, h1, h2, h3, h4⟩ := R.rows
  have hij := R.hij
  have e : (xs.take (j + 1)).filter (ownD rt) = (xs.take j).filter (ownD rt) ++ [xs[j]] := by
    rw [List.take_succ_eq_append_getElem (by omega), List.filter_append, List.filter_cons_of_pos (by simp [ownD, h]), List.filter_nil]
  refine ⟨⟨rows.set i xs[j].x, by simpa using h1, LsaRow.set h2 h1 (by omega), ?_, ?_⟩, by omega, c, by rw [e, List.length_append, ← R.hi]; rfl, World.grownBy.trans R.gr (setLsaAt_grown _ _ _ _)⟩
  · rw [e, List.map_append, ← h3, List.take_succ_eq_append_getElem (by rw [List.length_set]; omega), List.getElem_set_self, List.take_set_of_le (Nat.le_refl i)]
    rfl
  · rw [List.drop_set_of_lt (by omega)]
    rw [List.drop_eq_getElem_cons (by omega : j < rows.length), List.drop_eq_getElem_cons (by omega : j < xs.length), List.map_cons] at h4
    exact (List.cons.inj h4).2

def DelPost (w : World) (g n : Nat) (xs : List LsaD) (rt : Int) (e : Ending) (w' : World) : Prop :=
  e = .returned (.slice (some ⟨g, 0, none⟩) (xs.filter (ownD rt)).length n) ∧ LsasAt w' (.slice (some ⟨g, 0, none⟩) (xs.filter (ownD rt)).length n) ((xs.filter (ownD rt)).map LsaD.x) ∧ w.grownBy w' (some g)

theorem DelR.fin {base : Nat} {w : World} {g n : Nat} {xs : List LsaD} {rt : Int} {i : Nat} {wr : World} (R : DelR base w g n xs rt i n wr) (hx : xs.length = n) : ∃ W', (∀ ty, (Builtin.clear_ #[29] ty #[.slice (some ⟨g, i * 15, none⟩) (n - i) (n - i)]).run Tryz.prog wr = .ok (.tuple #[]) W') ∧ i ≤ n ∧ DelPost w g n xs rt (.returned (.slice (some ⟨g, 0, none⟩) i n)) W' := by
  obtain ⟨rows, h1, h2, h3, -⟩ := R.rows
  have hij := R.hij
  have hi := R.hi
  rw [List.take_of_length_le (show xs.length ≤ n by omega)] at h3 hi
  have hat := LsaRow.at h2
  obtain ⟨a, cap, ev, k1, k2, k3, k4⟩ := hat
  rw [List.length_map, h1] at ev
  simp only [Value.slice.injEq] at ev
  obtain ⟨rfl, -, rfl⟩ := ev
  obtain ⟨b, off, eb, k5, k6⟩ := k4 (by rw [List.length_map, h1]; omega)
  cases eb
  have cell : ∀ j, j < n * 15 → (wr.cell? ⟨g, j, none⟩).isSome = true := by
    intro j hj
    have hl : j % 15 < (lsaE (rows[j / 15]'(by omega))).length := Nat.mod_lt _ (by decide)
    have := k6 (j / 15) (by rw [List.length_map, h1]; omega) (j % 15) _ (by rw [List.getElem_map]; exact List.getElem?_eq_getElem hl)
    rw [Nat.zero_add, show j / 15 * 15 + j % 15 = j from by omega] at this
    rw [this]; rfl
  have H : ∀ ty, ∃ W', (Builtin.clear_ #[29] ty #[.slice (some ⟨g, i * 15, none⟩) (n - i) (n - i)]).run Tryz.prog wr = .ok (.tuple #[]) W' ∧ wr.grownBy W' (some g) ∧ ∀ j, j < i * 15 → W'.cell? ⟨g, j, none⟩ = wr.cell? ⟨g, j, none⟩ := fun ty => run_clear_lsa wr ty g (i * 15) (n - i) (n - i) (by omega) (fun j hj => cell _ (by omega)) (fun j => LsaRow.frozen h2 h1 j)
  obtain ⟨W', q1, q2, q3⟩ := H 0
  refine ⟨W', fun ty => q1, Nat.le_of_lt hij, by rw [hi], ?_, World.grownBy.trans R.gr q2⟩
  rw [← hi]
  refine ⟨some ⟨g, 0, none⟩, n, by rw [List.length_map, List.length_map, ← hi], by rw [List.length_map, List.length_map, ← hi]; omega, k2, k3, fun _ => ⟨g, 0, rfl, Nat.lt_of_lt_of_le k5 q2.size, fun m hm j u hu => ?_⟩⟩
  rw [List.length_map, List.length_map, ← hi] at hm
  have hj : j < 15 := by
    rcases Nat.lt_or_ge j 15 with h | h
    · exact h
    · rw [List.getElem?_eq_none (by rw [lsaE_len _ _ (List.getElem_mem _)]; exact h)] at hu; cases hu
  rw [q3 _ (by omega)]
  refine k6 m (by rw [List.length_map, h1]; omega) j u ?_
  have e : (((xs.filter (ownD rt)).map LsaD.x).map lsaE)[m]'(by rw [List.length_map, List.length_map, ← hi]; exact hm) = (rows.map lsaE)[m]'(by rw [List.length_map, h1]; omega) := by
    simp only [← h3, List.getElem_map, List.getElem_take]
  rw [← e]; exact hu

set_option maxHeartbeats 16000000 in
set_option maxRecDepth 100000 in
theorem delete_calls (base : Nat) (w : World) (g n : Nat) (xs : List LsaD) (hx : xs.length = n) (row : LsaRow base w (.slice (some ⟨g, 0, none⟩) n n) (xs.map LsaD.x)) (hn : n ≤ 1048576) (rt : Int) (rb : Nat) (hr : w.heap[rb]? = some (.cells #[.int .u32 rt] 22 (0, 0))) (hne : rb ≠ g) :
    Calls Tryz.prog 93 #[.slice (some ⟨g, 0, none⟩) n n, cloF rb] w (DelPost w g n xs rt) := by
  have IX := Lib.hid (from1_index w _ (xs.map LsaD.x) (LsaRow.at row) rt rb hr)
  have RB := Lib.hid (fun W (G : w.grownBy W (some g)) => (G.block rb (blk_lt hr) (by intro e; cases e; exact hne rfl)).trans hr)
  have GL : Hid (g < w.heap.size) := Lib.hid (World.ownsRow.lt row g rfl).2
  -- nothing is of another router
  have ALL := Lib.hid (fun (h : ∀ x ∈ xs.map LsaD.x, x.router = rt) (W : World) (G : Gr w W) => (by
    have e : xs.filter (ownD rt) = xs := List.filter_eq_self.2 fun d hd => by
      have := h d.x (List.mem_map_of_mem hd)
      simpa [ownD] using this
    refine ⟨by rw [e, hx], ?_, grown_of_below G.b _⟩
    rw [e, hx]
    exact (LsaRow.at row).below G.b : DelPost w g n xs rt (.returned (.slice (some ⟨g, 0, none⟩) n n)) W))
  -- the first of another router
  have ONE := Lib.hid (fun (j : Nat) (h : j < n) (h1 : xs[j].x.router ≠ rt) (h2 : ∀ m, (hm : m < j) → (xs[m]'(by omega)).x.router = rt) (W : World) (G : Gr w W) => (by
    have e : (xs.take (j + 1)).filter (ownD rt) = xs.take j := by
      rw [List.take_succ_eq_append_getElem (by omega), List.filter_append, List.filter_cons_of_neg (by simp [ownD, h1]), List.filter_nil, List.append_nil]
      refine List.filter_eq_self.2 fun d hd => ?_
      obtain ⟨m, hm, rfl⟩ := List.getElem_of_mem hd
      rw [List.length_take] at hm
      simp only [List.getElem_take]
      simpa [ownD] using h2 m (by omega)
    refine ⟨⟨xs.map LsaD.x, by rw [List.length_map, hx], row.gr G.b, by rw [e, List.map_take], by rw [List.map_drop]⟩, Nat.lt_succ_self j, h, ?_, grown_of_below G.b _⟩
    rw [e, List.length_take]; omega : DelR base w g n xs rt j (j + 1) W))
  have FR := Lib.hid (fun x W rb' h => from1_calls x rt W rb' h)
  have HN := Lib.hid hn
  have HX := Lib.hid hx
  clear row hr hne hn
  unfold cloF at *
  go_enter Tryz.func93, Tryz.ntmps93
  go_wp2_with fail
  refine IX.out.mono ?_
  rintro e w1 ⟨i, rfl, G1, hi⟩
  rcases hi with ⟨rfl, h⟩ | ⟨j, rfl, hj, h1, h2⟩
  · have FI := Lib.hid (ALL.out h w1 G1)
    clear ALL ONE FR RB IX h hx
    go_wp2_with fail
    go_ret
    exact FI.out
  · have hj' : j < n := by rw [List.length_map, hx] at hj; exact hj
    simp only [List.getElem_map] at h1 h2
    have D0 := Lib.hid (ONE.out j hj' h1 h2 w1 G1)
    have hjn : ((j : Int) == -1) = false := by first | (simp; done) | (simp; omega)
    have hn2 := HN.out
    have hj2 : (j : Int) < (n : Int) := by omega
    clear ALL ONE IX h1 h2 hj G1 hx
    go_wp2_with fail
    clear hj2
    clear hjn
    go_loopw [5, 6] (fun ix jx wr => ∃ (i j : Nat), ix = .int .i64 i ∧ jx = .int .i64 j ∧ Hid (DelR base w g n xs rt i j wr)) (fun _ jx _ => n - (intOf jx).toNat)
    case atStart => exact ⟨j, j + 1, rfl, by go_num, D0⟩
    case round =>
      clear D0 hj'
      obtain ⟨i, j, rfl, rfl, R⟩ := hrel
      have hj := R.out.hj
      by_cases cj : j < n
      · have hij := R.out.hij
        obtain ⟨dd, -⟩ := R.out.get HX.out cj
        obtain ⟨WO, eWO⟩ : ∃ x, x = wr := ⟨_, rfl⟩
        subst eWO
        obtain ⟨⟨d0, d1, d2, d3, d4⟩, ⟨d5, d6, d7, d8, d9⟩, ⟨d10, d11, d12, d13, d14⟩⟩ := dd
        have KEEP := Lib.hid (fun (W : World) (R' : DelR base w g n xs rt i j W) h => R'.keep HX.out cj h)
        have DROP := Lib.hid (fun (W : World) (R' : DelR base w g n xs rt i j W) h => R'.drop HX.out cj h)
        have cx : j < xs.length := by rw [HX.out]; exact cj
        have FRd := Lib.hid (fun W rb' h => FR.out xs[j].x W rb' h)
        have KC := Lib.hid cj
        have IJ := Lib.hid hij
        have i0 : (0 : Int) ≤ (j : Int) := by omega
        have i1 : (j : Int) < (n : Int) := by omega
        have s3 : ((j : Int)).toNat = j := by omega
        have j0 : (0 : Int) ≤ (i : Int) := by omega
        have j1 : (i : Int) < (n : Int) := by omega
        have t3 : ((i : Int)).toNat = i := by omega
        generalize xs[j].x = d at *
        clear cj hij hj cx
        obtain ⟨xtyp, xid, xlen, xrouter, xseq, xage, xsum, xborder, xboundary, xla, xln, xlc, xaa, xan, xac, xcost, xsecond, xfwd, xtag⟩ := d
        simp only at d0 d1 d2 d3 d4 d5 d6 d7 d8 d9 d10 d11 d12 d13 d14
        simp only [lsaE] at FRd
        go_upto_region 8 with fail
        generalize hW5 : WO.alloc _ = W5
        have B5 : Below WO.heap.size WO W5 := by rw [← hW5]; exact (Below.refl _ _).alloc (Nat.le_refl _) _
        have b5 := Lib.hid (show W5.heap[WO.heap.size]? = some (.cells #[.int .i64 xtyp, .int .u32 xid, .int .i64 xlen, .int .u32 xrouter, .int .i64 xseq, .int .i64 xage, .int .i64 xsum, .bool xborder, .bool xboundary, .slice xla xln xlc, .slice xaa xan xac, .int .i64 xcost, .bool xsecond, .int .u32 xfwd, .int .i64 xtag] 42 (0, 0)) by rw [← hW5]; exact alloc_new _ _)
        have R5 := Lib.hid (R.out.grow B5)
        have F5 := Lib.hid (FRd.out W5 rb (RB.out W5 R5.out.gr))
        obtain ⟨⟨⟨e0, e1, e2, e3, e4⟩, ⟨e5, e6, e7, e8, e9⟩, ⟨e10, e11, e12, e13, e14⟩⟩, -⟩ := blk15 b5.out
        clear hW5 B5 d0 d1 d2 d3 d4 d5 d6 d7 d8 d9 d10 d11 d12 d13 d14 R FRd
        go_wp2_with fail
        refine F5.out.mono ?_
        rintro e w8 ⟨rfl, G8⟩
        have R8 := Lib.hid (R5.out.grow G8.b)
        have b8 := (G8.b.block _ (blk_lt b5.out)).trans b5.out
        clear e0 e1 e2 e3 e4 e5 e6 e7 e8 e9 e10 e11 e12 e13 e14 F5 G8 R5 b5
        by_cases q : xrouter = rt
        · have q' : (xrouter != rt) = false := by simpa using q
          obtain ⟨W', hW'⟩ : ∃ W', setLsaAt w8 g (i * 15) ⟨xtyp, xid, xlen, xrouter, xseq, xage, xsum, xborder, xboundary, xla, xln, xlc, xaa, xan, xac, xcost, xsecond, xfwd, xtag⟩ = W' := ⟨_, rfl⟩
          have NX : Hid (DelR base w g n xs rt (i + 1) (j + 1) W') := Lib.hid (by rw [← hW']; exact KEEP.out w8 R8.out q)
          obtain ⟨yy, ⟨⟨z0, z1, z2, z3, z4⟩, ⟨z5, z6, z7, z8, z9⟩, ⟨z10, z11, z12, z13, z14⟩⟩⟩ := R8.out.getw (by omega)
          obtain ⟨rows, hr1, hr2, -, -⟩ := R8.out.rows
          have zf := fun j => LsaRow.frozen hr2 hr1 j
          have zf0 := zf (i * 15)
          have zf1 := zf (i * 15 + 1)
          have zf2 := zf (i * 15 + 2)
          have zf3 := zf (i * 15 + 3)
          have zf4 := zf (i * 15 + 4)
          have zf5 := zf (i * 15 + 5)
          have zf6 := zf (i * 15 + 6)
          have zf7 := zf (i * 15 + 7)
          have zf8 := zf (i * 15 + 8)
          have zf9 := zf (i * 15 + 9)
          have zf10 := zf (i * 15 + 10)
          have zf11 := zf (i * 15 + 11)
          have zf12 := zf (i * 15 + 12)
          have zf13 := zf (i * 15 + 13)
          have zf14 := zf (i * 15 + 14)
          obtain ⟨⟨⟨f0, f1, f2, f3, f4⟩, ⟨f5, f6, f7, f8, f9⟩, ⟨f10, f11, f12, f13, f14⟩⟩, -⟩ := blk15 b8
          unfold setLsaAt at hW'
          simp only at hW'
          have HW' := Lib.hid hW'
          clear hW' KEEP DROP R8 b8 zf hr1 hr2 q
          go_wp2_with fail
          rw [HW'.out]
          go_roundw
          case rel => exact ⟨i + 1, j + 1, by go_num, by go_num, NX⟩
          case measure => simp [intOf]; have := KC.out; omega
        · have q' : (xrouter != rt) = true := by simpa using q
          have NX := Lib.hid (DROP.out w8 R8.out q)
          clear KEEP DROP R8 b8 q
          go_wp2_with fail
          go_roundw
          case rel => exact ⟨i, j + 1, by go_num, by go_num, NX⟩
          case measure => simp [intOf]; have := KC.out; omega
      · obtain rfl : j = n := by omega
        obtain ⟨W', hcl, hin, hp⟩ := R.out.fin HX.out
        have FI := Lib.hid hp
        have hlt := R.out.hij
        have j0 : (0 : Int) ≤ (i : Int) := by omega
        have j1 : (i : Int) ≤ (j : Int) := by omega
        have t3 : ((i : Int)).toNat = i := by omega
        clear R hp RB FR
        go_wp2_with fail
        go_ret
        exact FI.out

def FromPost (w : World) (db : List LsaD) (rt : Int) (e : Ending) (w' : World) : Prop :=
  ∃ (g : Nat) (xs : List LsaD), e = .returned (.slice (some ⟨g, 0, none⟩) xs.length db.length) ∧ DRow w' (.slice (some ⟨g, 0, none⟩) xs.length db.length) xs ∧ xs.map nrm = (db.filter (ownD rt)).map nrm ∧ w.heap.size ≤ g ∧
    (∀ d ∈ xs, Fr (g + 1) (.slice d.x.la d.x.ln d.x.lc) ∧ Fr (g + 1) (.slice d.x.aa d.x.an d.x.ac)) ∧ Below w.heap.size w w'

theorem filter_nrm (rt : Int) : ∀ {xs ys : List LsaD}, xs.map nrm = ys.map nrm → (xs.filter (ownD rt)).map nrm = (ys.filter (ownD rt)).map nrm
  | [], [], _ => rfl
  | [], _ :: _, h => by simp at h
  | _ :: _, [], h => by simp at h
  | x :: xs, y :: ys, h => by
    rw [List.map_cons, List.map_cons] at h
    obtain ⟨h1, h2⟩ := List.cons.inj h
    have ih := filter_nrm rt h2
    have e : ownD rt x = ownD rt y := (congrArg (ownD rt) h1 : ownD rt (nrm x) = ownD rt (nrm y))
    cases hx : ownD rt x with
    | true => rw [List.filter_cons_of_pos hx, List.filter_cons_of_pos (by rw [← e]; exact hx), List.map_cons, List.map_cons, h1, ih]
    | false => rw [List.filter_cons_of_neg (by simp [hx]), List.filter_cons_of_neg (by simp [← e, hx]), ih]

set_option maxHeartbeats 16000000 in
set_option maxRecDepth 100000 in
theorem from_calls (w : World) (v : Value) (db : List LsaD) (R : DRow w v db) (hl : ∀ d ∈ db, d.lk.length ≤ 1048576 ∧ d.att.length ≤ 1048576) (hn : db.length ≤ 1048576) (rt : Int) : Calls Tryz.prog 61 #[v, .int .u32 rt] w (FromPost w db rt) := by
  obtain ⟨W0, hW0⟩ : ∃ W0, w.alloc (.cells #[.int .u32 rt] 22) = W0 := ⟨_, rfl⟩
  have B0 : Hid (Below w.heap.size w W0) := Lib.hid (by rw [← hW0]; exact (Below.refl _ _).alloc (Nat.le_refl _) _)
  have S0 : Hid (W0.heap.size = w.heap.size + 1) := Lib.hid (by rw [← hW0]; simp)
  have X0 : Hid (W0.heap[w.heap.size]? = some (.cells #[.int .u32 rt] 22 (0, 0))) := Lib.hid (by rw [← hW0]; exact alloc_new _ _)
  have CP := Lib.hid (copied_calls W0 v db (R.below B0.out) hl hn)
  have DL := Lib.hid (fun base W g n xs hx row hn rb hr hne => delete_calls base W g n xs hx row hn rt rb hr hne)
  have HN := Lib.hid hn
  have HW0 := Lib.hid hW0
  obtain ⟨a1, c1, rfl, -, -⟩ := R.row.get
  obtain ⟨nv, hnv⟩ : ∃ nv, (db.map LsaD.x).length = nv := ⟨_, rfl⟩
  rw [hnv] at CP ⊢
  clear R hl hn hW0 hnv
  unfold cloF at DL
  go_enter Tryz.func61, Tryz.ntmps61
  go_upto_region 1 with fail
  rw [HW0.out]
  go_wp2_with fail
  refine CP.out.mono ?_
  rintro e w1 ⟨g, xs, rfl, hg, row, eq, deep, B1⟩
  have hx : xs.length = db.length := by have := congrArg List.length eq; simpa using this
  have X1 := (B1.block _ (blk_lt X0.out)).trans X0.out
  have D1 := Lib.hid (DL.out _ w1 g db.length xs hx row HN.out w.heap.size X1 (by have := S0.out; omega))
  have FIN := Lib.hid (fun (w2 : World) (hp : DelPost w1 g db.length xs rt (.returned (.slice (some ⟨g, 0, none⟩) (xs.filter (ownD rt)).length db.length)) w2) => (by
    obtain ⟨-, h2, h3⟩ := hp
    refine ⟨g, xs.filter (ownD rt), rfl, ⟨h2, fun d hd => ?_⟩, filter_nrm rt eq, by have := S0.out; omega, fun d hd => (deep d (List.mem_filter.1 hd).1).2, ?_⟩
    · have := deep d (List.mem_filter.1 hd).1
      exact ⟨this.1.1.far this.2.1 (Nat.lt_succ_self g) h3, this.1.2.far this.2.2 (Nat.lt_succ_self g) h3⟩
    · have B01 := B0.out.trans (B1.mono B0.out.size)
      exact B01.grown h3 B01.size (fun j hj => by cases hj; have := S0.out; omega) : FromPost w db rt (.returned (.slice (some ⟨g, 0, none⟩) (xs.filter (ownD rt)).length db.length)) w2))
  clear CP DL row eq deep B1 X1 hx hg
  go_wp2_with fail
  refine D1.out.mono ?_
  intro e w2 hp
  obtain ⟨rfl, -⟩ := id hp
  have FI := Lib.hid (FIN.out w2 hp)
  clear FIN hp D1
  go_wp2_with fail
  go_ret
  exact FI.out

end Go.Proofs.YtddageahmgaigaaGreat
