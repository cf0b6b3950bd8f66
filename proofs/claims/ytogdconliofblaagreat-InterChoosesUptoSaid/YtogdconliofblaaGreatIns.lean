/-
  routingref25.Insert.
-/
import Derived.Test.YtogdconliofblaaGreatLkk
import Derived.Test.YtogdconliofblaaGreatApo
import Derived.Test.YtogdconliofblaaGreatHed
import Derived.Test.YtogdconliofblaaGreatCmr
import Derived.Deep.DeepCutAuto
namespace Go.Proofs.YtogdconliofblaaGreat
open Go.RowKit

theorem Tryz.infoLsa : (Tryz.prog.info? 47).map (fun i => (i.zero, i.size, i.bytes)) = some (some (.agg #[.int .i64 0, .int .u32 0, .int .i64 0, .int .u32 0, .int .i64 0, .int .i64 0, .int .i64 0, .bool false, .bool false, .slice none 0 0, .slice none 0 0, .int .i64 0, .bool false, .int .u32 0, .int .i64 0]), 15, 136) := by kernel_rfl

def insStep (x : Lsa) (s : Bool × List Lsa) (y : Lsa) : Bool × List Lsa :=
  let c := kkCmp (lkOf x) (lkOf y)
  let s1 := if s.1 = false ∧ c ≤ 0 then (true, s.2 ++ [x]) else s
  if c = 0 then s1 else (s1.1, s1.2 ++ [y])
def insK (x : Lsa) (db : List Lsa) (k : Nat) : Bool × List Lsa := (db.take k).foldl (insStep x) (false, [])
/-- what Insert puts out -/
def insL (x : Lsa) (db : List Lsa) : List Lsa := if (insK x db db.length).1 = true then (insK x db db.length).2 else (insK x db db.length).2 ++ [x]

theorem insK_succ (x : Lsa) (db : List Lsa) {k : Nat} (c : k < db.length) : insK x db (k + 1) = insStep x (insK x db k) db[k] := by
  unfold insK
  rw [List.take_succ_eq_append_getElem c, List.foldl_append]; rfl
theorem insK_len (x : Lsa) (db : List Lsa) : ∀ k, k ≤ db.length → (insK x db k).2.length ≤ k + (if (insK x db k).1 = true then 1 else 0)
  | 0, _ => by simp [insK]
  | k + 1, h => by
    have ih := insK_len x db k (by omega)
    rw [insK_succ x db (show k < db.length by omega)]
    generalize insK x db k = s at *
    obtain ⟨b, o⟩ := s
    unfold insStep
    simp only at *
    generalize kkCmp (lkOf x) (lkOf db[k]) = cv
    cases b with
    | false =>
      simp only [Bool.false_eq_true, if_false] at ih
      by_cases c1 : cv ≤ 0
      · by_cases c2 : cv = 0
        · simp [c2]; omega
        · simp [c1, c2]; omega
      · have c2 : ¬ cv = 0 := by omega
        simp [c1, c2]; omega
    | true =>
      simp only [if_true] at ih
      by_cases c2 : cv = 0
      · simp [c2]; omega
      · simp [c2]; omega

/-- a row of advertisements that grows -/
structure Lg (base : Nat) (W0 : World) (out : List Lsa) (v : Value) (wr : World) : Prop where
  own : wr.ownsRow base 47 15 v out.length (out.map lsaE).flatten
  bel : Below base W0 wr
  hb : base ≤ W0.heap.size
theorem Lg.below {base : Nat} {W0 wr W' : World} {out : List Lsa} {v : Value} (R : Lg base W0 out v wr) (hb : Below wr.heap.size wr W') : Lg base W0 out v W' :=
  ⟨World.ownsRow.kept (row := none) R.own ⟨hb.os, hb.tape, hb.output, hb.size, fun k hk _ => hb.block k hk⟩ (by cases v.ownBlock <;> simp), R.bel.trans (hb.mono (Nat.le_trans R.hb R.bel.size)), R.hb⟩
theorem Lg.push {base : Nat} {W0 W W' : World} {out : List Lsa} {v v' : Value} (R : Lg base W0 out v W) {y : Lsa} (own' : W'.ownsRow base 47 15 v' (out.length + 1) ((out.map lsaE).flatten ++ lsaE y)) (hg : W.grownBy W' v.ownBlock) :
    Lg base W0 (out ++ [y]) v' W' := by
  refine ⟨?_, R.bel.grown hg (Nat.le_trans R.hb R.bel.size) fun j hj => (R.own.lt j hj).1, R.hb⟩
  have e : (out ++ [y]).length = out.length + 1 := by simp
  have e2 : ((out ++ [y]).map lsaE).flatten = (out.map lsaE).flatten ++ lsaE y := by simp
  rw [e, e2]; exact own'
theorem Lg.start (W0 : World) : Lg W0.heap.size W0 [] (.slice (some ⟨W0.heap.size, 0, none⟩) 0 0) (W0.alloc (.cells #[] 47)) := by
  refine ⟨?_, (Below.refl _ _).alloc (Nat.le_refl _) _, Nat.le_refl _⟩
  have := World.ownsRow_made (size := 15) (e := 47) (base := W0.heap.size) W0 #[] 0 (by simp) (by unfold maxLen; omega) rfl
  simpa using this
theorem lsaE_len (l : List Lsa) : ∀ c ∈ l.map lsaE, c.length = 15 := by
  intro c hc
  obtain ⟨h, _, rfl⟩ := List.mem_map.1 hc
  rfl
theorem Lg.at {base : Nat} {W0 wr : World} {out : List Lsa} {v : Value} (R : Lg base W0 out v wr) : LsasAt wr v out := by
  unfold LsasAt
  refine SlV.of_own (base := base) (e := 47) (lsaE_len out) ?_
  rw [List.length_map]; exact R.own
theorem lsaE_one (x : Lsa) : ∀ u ∈ lsaE x, u.oneCell' = true := by
  intro u hu
  simp [lsaE] at hu
  rcases hu with rfl | rfl | rfl | rfl | rfl | rfl | rfl | rfl | rfl | rfl | rfl | rfl | rfl | rfl | rfl <;> rfl

structure IR (w : World) (x : Lsa) (db : List Lsa) (k : Nat) (done : Bool) (out : List Lsa) (v : Value) (wr : World) : Prop where
  hk : k ≤ db.length
  eq : insK x db k = (done, out)
  r : Lg (w.heap.size + 1) (w.alloc (.cells (lsaE x).toArray 47)) out v wr
theorem IR.len {w : World} {x : Lsa} {db : List Lsa} {k : Nat} {done : Bool} {out : List Lsa} {v : Value} {wr : World} (R : IR w x db k done out v wr) : out.length ≤ k + 1 ∧ (done = false → out.length ≤ k) := by
  have h := insK_len x db k R.hk
  rw [R.eq] at h
  simp only at h
  cases done <;> simp_all <;> omega

theorem Lg.toW {w : World} {o : Obj} {out : List Lsa} {v : Value} {wr : World} (R : Lg (w.heap.size + 1) (w.alloc o) out v wr) : Below w.heap.size w wr :=
  ((Below.refl w.heap.size w).alloc (Nat.le_refl _) o).trans (R.bel.mono (by omega))
theorem Lg.box {w : World} {o : Obj} {out : List Lsa} {v : Value} {wr : World} (R : Lg (w.heap.size + 1) (w.alloc o) out v wr) : wr.heap[w.heap.size]? = some o :=
  (R.bel.block w.heap.size (by omega)).trans (alloc_new w o)

theorem len_max {out : List Lsa} {x : Lsa} {n : Nat} (h : out.length + 2 ≤ n + 3) (hn : (n + 3) * 136 ≤ 140737488355328) : (out ++ [x]).length + 1 ≤ maxLen := by
  have e : (out ++ [x]).length = out.length + 1 := by simp
  unfold maxLen
  omega
theorem len_byt {out : List Lsa} {x : Lsa} {n : Nat} (h : out.length + 2 ≤ n + 3) (hn : (n + 3) * 136 ≤ 140737488355328) : ((out ++ [x]).length + 1) * 136 ≤ 140737488355328 := by
  have e : (out ++ [x]).length = out.length + 1 := by simp
  omega

def LsPost (w : World) (l : List Lsa) (e : Ending) (w' : World) : Prop := ∃ v, e = .returned v ∧ LsasAt w' v l ∧ Below w.heap.size w w'

set_option maxHeartbeats 16000000 in
set_option maxRecDepth 100000 in
theorem insert_calls (w : World) (v : Value) (db : List Lsa) (x : Lsa) (hd : LsasAt w v db) (hn : (db.length + 3) * 136 ≤ 140737488355328) : Calls Tryz.prog 80 #[v, .agg (lsaE x).toArray] w (LsPost w (insL x db)) := by
  obtain ⟨i0, hi0, hz0, hz1, hz2⟩ := info_parts Tryz.infoLsa
  have HI0 := Lib.hid hi0
  have HZ0 := Lib.hid hz0
  have HZ1 := Lib.hid hz1
  have HZ2 := Lib.hid hz2
  obtain ⟨a1, c1, rfl, hl1, hcd⟩ := hd.get
  have HCD := Lib.hid hcd
  have HN := Lib.hid hn
  have mixed : Tryz.prog.follows .mixedOrders = true := by kernel_rfl
  have ST : Hid (IR w x db 0 false [] (.slice (some ⟨w.heap.size + 1, 0, none⟩) 0 0) ((w.alloc (.cells (lsaE x).toArray 47)).alloc (.cells #[] 47))) := Lib.hid ⟨Nat.zero_le _, rfl, by
    have h := Lg.start (w.alloc (.cells (lsaE x).toArray 47))
    have e : (w.alloc (.cells (lsaE x).toArray 47)).heap.size = w.heap.size + 1 := by simp
    rw [e] at h; exact h⟩
  have ONE := Lib.hid (lsaE_one x)
  have FINL := Lib.hid (fun (k : Nat) (out : List Lsa) (va : Value) (wr : World) (hk : ¬ k < db.length) (R : IR w x db k true out va wr) => (⟨va, rfl, by
    have ek : k = db.length := by have := R.hk; omega
    have h := R.r.at
    have e := R.eq
    rw [ek] at e
    unfold insL
    rw [e]; exact h, R.r.toW⟩ : LsPost w (insL x db) (.returned va) wr))
  have FINP := Lib.hid (fun (k : Nat) (out : List Lsa) (va va' : Value) (wr wr' : World) (hk : ¬ k < db.length) (R : IR w x db k false out va wr) (r : Lg (w.heap.size + 1) (w.alloc (.cells (lsaE x).toArray 47)) (out ++ [x]) va' wr') => (⟨va', rfl, by
    have ek : k = db.length := by have := R.hk; omega
    have h := r.at
    have e := R.eq
    rw [ek] at e
    unfold insL
    rw [e]; exact h, r.toW⟩ : LsPost w (insL x db) (.returned va') wr'))
  clear hi0 hz0 hz1 hz2 hd hcd hn
  obtain ⟨xtyp, xid, xlen, xrouter, xseq, xage, xsum, xborder, xboundary, xla, xln, xlc, xaa, xan, xac, xcost, xsecond, xfwd, xtag⟩ := x
  simp only [lsaE] at ST ONE FINP FINL ⊢
  obtain ⟨WA, hWA⟩ : ∃ WA, (w.alloc (.cells #[.int .i64 xtyp, .int .u32 xid, .int .i64 xlen, .int .u32 xrouter, .int .i64 xseq, .int .i64 xage, .int .i64 xsum, .bool xborder, .bool xboundary, .slice xla xln xlc, .slice xaa xan xac, .int .i64 xcost, .bool xsecond, .int .u32 xfwd, .int .i64 xtag] 47)).alloc (.cells #[] 47) = WA := ⟨_, rfl⟩
  rw [hWA] at ST
  have HWA := Lib.hid hWA
  clear hWA
  go_enter Tryz.func80, Tryz.ntmps80
  go_wp2_with fail
  rw [HWA.out]
  clear HWA
  go_loopw [5, 6, 7] (fun va dn ix wr => ∃ (k : Nat) (done : Bool) (out : List Lsa), ix = .int .i64 k ∧ dn = .bool done ∧ Hid (IR w ⟨xtyp, xid, xlen, xrouter, xseq, xage, xsum, xborder, xboundary, xla, xln, xlc, xaa, xan, xac, xcost, xsecond, xfwd, xtag⟩ db k done out va wr)) (fun _ _ ix _ => db.length - (intOf ix).toNat)
  case atStart => exact ⟨0, false, [], rfl, rfl, ST⟩
  case round =>
    clear ST
    obtain ⟨k, done, out, rfl, rfl, R⟩ := hrel
    obtain ⟨vA, hvA⟩ : ∃ z, z = u5 := ⟨_, rfl⟩
    subst hvA
    have hk := R.out.hk
    have bx := R.out.r.box
    simp only [lsaE] at bx
    obtain ⟨⟨⟨e0, e1, e2, e3, e4⟩, ⟨e5, e6, e7, e8, e9⟩, ⟨e10, e11, e12, e13, e14⟩⟩, -⟩ := blk15 bx
    clear bx
    by_cases c : k < db.length
    · obtain ⟨dbb, doff, rfl, hdb, hdc⟩ := HCD.out (by omega)
      have dc := (hdc k c).below R.out.r.toW hdb
      obtain ⟨⟨d0, d1, d2, d3, d4⟩, ⟨d5, d6, d7, d8, d9⟩, ⟨d10, d11, d12, d13, d14⟩⟩ := dc
      have EQ : Hid (insK ⟨xtyp, xid, xlen, xrouter, xseq, xage, xsum, xborder, xboundary, xla, xln, xlc, xaa, xan, xac, xcost, xsecond, xfwd, xtag⟩ db (k + 1) = insStep ⟨xtyp, xid, xlen, xrouter, xseq, xage, xsum, xborder, xboundary, xla, xln, xlc, xaa, xan, xac, xcost, xsecond, xfwd, xtag⟩ (done, out) db[k]) := Lib.hid (by rw [insK_succ _ _ c, R.out.eq])
      have LEN := Lib.hid R.out.len
      have YC := Lib.hid (fun (out' : List Lsa) (v' : Value) (W' : World) (R' : Lg (w.heap.size + 1) (w.alloc (.cells (lsaE ⟨xtyp, xid, xlen, xrouter, xseq, xage, xsum, xborder, xboundary, xla, xln, xlc, xaa, xan, xac, xcost, xsecond, xfwd, xtag⟩).toArray 47)) out' v' W') => (hdc k c).below R'.toW hdb)
      have RG := Lib.hid (fun (W' : World) (g : Below wr.heap.size wr W') => R.out.r.below g)
      have NXT : Hid (∀ (done' : Bool) (out' : List Lsa) (v' : Value) (W' : World), insStep ⟨xtyp, xid, xlen, xrouter, xseq, xage, xsum, xborder, xboundary, xla, xln, xlc, xaa, xan, xac, xcost, xsecond, xfwd, xtag⟩ (done, out) db[k] = (done', out') → Lg (w.heap.size + 1) (w.alloc (.cells (lsaE ⟨xtyp, xid, xlen, xrouter, xseq, xage, xsum, xborder, xboundary, xla, xln, xlc, xaa, xan, xac, xcost, xsecond, xfwd, xtag⟩).toArray 47)) out' v' W' → IR w ⟨xtyp, xid, xlen, xrouter, xseq, xage, xsum, xborder, xboundary, xla, xln, xlc, xaa, xan, xac, xcost, xsecond, xfwd, xtag⟩ db (k + 1) done' out' v' W') := Lib.hid (fun done' out' v' W' h r => ⟨c, EQ.out.trans h, r⟩)
      have KC : Hid (k < db.length) := Lib.hid c
      have i0' : (0 : Int) ≤ (k : Int) := by omega
      have i1' : (k : Int) < (db.length : Int) := by omega
      have s3 : ((k : Int)).toNat = k := by omega
      clear hdc R EQ
      have STEP : Hid (insStep ⟨xtyp, xid, xlen, xrouter, xseq, xage, xsum, xborder, xboundary, xla, xln, xlc, xaa, xan, xac, xcost, xsecond, xfwd, xtag⟩ (done, out) db[k] = if kkCmp (lkOf ⟨xtyp, xid, xlen, xrouter, xseq, xage, xsum, xborder, xboundary, xla, xln, xlc, xaa, xan, xac, xcost, xsecond, xfwd, xtag⟩) (lkOf db[k]) = 0 then (if done = false ∧ kkCmp (lkOf ⟨xtyp, xid, xlen, xrouter, xseq, xage, xsum, xborder, xboundary, xla, xln, xlc, xaa, xan, xac, xcost, xsecond, xfwd, xtag⟩) (lkOf db[k]) ≤ 0 then (true, out ++ [⟨xtyp, xid, xlen, xrouter, xseq, xage, xsum, xborder, xboundary, xla, xln, xlc, xaa, xan, xac, xcost, xsecond, xfwd, xtag⟩]) else (done, out)) else ((if done = false ∧ kkCmp (lkOf ⟨xtyp, xid, xlen, xrouter, xseq, xage, xsum, xborder, xboundary, xla, xln, xlc, xaa, xan, xac, xcost, xsecond, xfwd, xtag⟩) (lkOf db[k]) ≤ 0 then (true, out ++ [⟨xtyp, xid, xlen, xrouter, xseq, xage, xsum, xborder, xboundary, xla, xln, xlc, xaa, xan, xac, xcost, xsecond, xfwd, xtag⟩]) else (done, out)).1, (if done = false ∧ kkCmp (lkOf ⟨xtyp, xid, xlen, xrouter, xseq, xage, xsum, xborder, xboundary, xla, xln, xlc, xaa, xan, xac, xcost, xsecond, xfwd, xtag⟩) (lkOf db[k]) ≤ 0 then (true, out ++ [⟨xtyp, xid, xlen, xrouter, xseq, xage, xsum, xborder, xboundary, xla, xln, xlc, xaa, xan, xac, xcost, xsecond, xfwd, xtag⟩]) else (done, out)).2 ++ [db[k]])) := Lib.hid rfl
      generalize db[k] = y at *
      clear c
      have ONEY := Lib.hid (lsaE_one y)
      obtain ⟨ytyp, yid, ylen, yrouter, yseq, yage, ysum, yborder, yboundary, yla, yln, ylc, yaa, yan, yac, ycost, ysecond, yfwd, ytag⟩ := y
      simp only [lsaE] at d0 d1 d2 d3 d4 d5 d6 d7 d8 d9 d10 d11 d12 d13 d14 ONEY YC RG NXT
      have CK := Lib.hid (fun W => (ckeys_calls (lkOf ⟨xtyp, xid, xlen, xrouter, xseq, xage, xsum, xborder, xboundary, xla, xln, xlc, xaa, xan, xac, xcost, xsecond, xfwd, xtag⟩) (lkOf ⟨ytyp, yid, ylen, yrouter, yseq, yage, ysum, yborder, yboundary, yla, yln, ylc, yaa, yan, yac, ycost, ysecond, yfwd, ytag⟩) W).mono fun _ _ h => (⟨h.1, h.2.grow⟩ : _ ∧ ∃ q os, _ = Go.Sort.grow (World.drewN W q) os))
      have K1 := Lib.hid (fun W => (key_calls xtyp xid xlen xrouter xseq xage xsum W).mono fun _ _ h => (⟨h.1, h.2.grow⟩ : _ ∧ ∃ q os, _ = Go.Sort.grow (World.drewN W q) os))
      have K2 := Lib.hid (fun W => (key_calls ytyp yid ylen yrouter yseq yage ysum W).mono fun _ _ h => (⟨h.1, h.2.grow⟩ : _ ∧ ∃ q os, _ = Go.Sort.grow (World.drewN W q) os))
      generalize kkCmp (lkOf ⟨xtyp, xid, xlen, xrouter, xseq, xage, xsum, xborder, xboundary, xla, xln, xlc, xaa, xan, xac, xcost, xsecond, xfwd, xtag⟩) (lkOf ⟨ytyp, yid, ylen, yrouter, yseq, yage, ysum, yborder, yboundary, yla, yln, ylc, yaa, yan, yac, ycost, ysecond, yfwd, ytag⟩) = cv at *
      simp only [keyE, lkOf] at CK K1 K2
      have p0 : ∀ n os, (Go.Sort.grow (wr.drewN n) os).cell? ⟨w.heap.size, 0, none⟩ = some (.int .i64 xtyp) := cell_grown (World.block_lt_of_cell? _ _ e0) e0
      have p1 : ∀ n os, (Go.Sort.grow (wr.drewN n) os).cell? ⟨w.heap.size, 1, none⟩ = some (.int .u32 xid) := cell_grown (World.block_lt_of_cell? _ _ e1) e1
      have p2 : ∀ n os, (Go.Sort.grow (wr.drewN n) os).cell? ⟨w.heap.size, 2, none⟩ = some (.int .i64 xlen) := cell_grown (World.block_lt_of_cell? _ _ e2) e2
      have p3 : ∀ n os, (Go.Sort.grow (wr.drewN n) os).cell? ⟨w.heap.size, 3, none⟩ = some (.int .u32 xrouter) := cell_grown (World.block_lt_of_cell? _ _ e3) e3
      have p4 : ∀ n os, (Go.Sort.grow (wr.drewN n) os).cell? ⟨w.heap.size, 4, none⟩ = some (.int .i64 xseq) := cell_grown (World.block_lt_of_cell? _ _ e4) e4
      have p5 : ∀ n os, (Go.Sort.grow (wr.drewN n) os).cell? ⟨w.heap.size, 5, none⟩ = some (.int .i64 xage) := cell_grown (World.block_lt_of_cell? _ _ e5) e5
      have p6 : ∀ n os, (Go.Sort.grow (wr.drewN n) os).cell? ⟨w.heap.size, 6, none⟩ = some (.int .i64 xsum) := cell_grown (World.block_lt_of_cell? _ _ e6) e6
      have q0 : ∀ n os, (Go.Sort.grow (wr.drewN n) os).cell? ⟨dbb, doff + k * 15, none⟩ = some (.int .i64 ytyp) := cell_grown (World.block_lt_of_cell? _ _ d0) d0
      have q1 : ∀ n os, (Go.Sort.grow (wr.drewN n) os).cell? ⟨dbb, doff + k * 15 + 1, none⟩ = some (.int .u32 yid) := cell_grown (World.block_lt_of_cell? _ _ d1) d1
      have q2 : ∀ n os, (Go.Sort.grow (wr.drewN n) os).cell? ⟨dbb, doff + k * 15 + 2, none⟩ = some (.int .i64 ylen) := cell_grown (World.block_lt_of_cell? _ _ d2) d2
      have q3 : ∀ n os, (Go.Sort.grow (wr.drewN n) os).cell? ⟨dbb, doff + k * 15 + 3, none⟩ = some (.int .u32 yrouter) := cell_grown (World.block_lt_of_cell? _ _ d3) d3
      have q4 : ∀ n os, (Go.Sort.grow (wr.drewN n) os).cell? ⟨dbb, doff + k * 15 + 4, none⟩ = some (.int .i64 yseq) := cell_grown (World.block_lt_of_cell? _ _ d4) d4
      have q5 : ∀ n os, (Go.Sort.grow (wr.drewN n) os).cell? ⟨dbb, doff + k * 15 + 5, none⟩ = some (.int .i64 yage) := cell_grown (World.block_lt_of_cell? _ _ d5) d5
      have q6 : ∀ n os, (Go.Sort.grow (wr.drewN n) os).cell? ⟨dbb, doff + k * 15 + 6, none⟩ = some (.int .i64 ysum) := cell_grown (World.block_lt_of_cell? _ _ d6) d6
      clear d0 d1 d2 d3 d4 d5 d6 d7 d8 d9 d10 d11 d12 d13 d14 e0 e1 e2 e3 e4 e5 e6 e7 e8 e9 e10 e11 e12 e13 e14
      --REG6
      go_upto_region 6 with fail
      refine wp_region_quiet_grown (by assumption) (by kernel_rfl) ?_
      repeat (go_big_quiet_step (first | (go_at_call 79; first | with_reducible exact Calls.grown_of (K1.out _) | with_reducible exact Calls.grown_of (K2.out _)) | (go_at_call 83; with_reducible exact Calls.grown_of (CK.out _))))
      refine wpQuiet_nil ?_
      intro _ hw'
      obtain ⟨⟨nq, osq⟩, hw''⟩ := hw'
      subst hw''
      clear p0 p1 p2 p3 p4 p5 p6 q0 q1 q2 q3 q4 q5 q6 CK K1 K2
      generalize hW5 : Go.Sort.grow (wr.drewN nq) osq = W5
      have R5 := Lib.hid (RG.out W5 (by rw [← hW5]; exact (Gr.of_grow nq osq).b))
      clear hW5 RG
      have LX := Lib.hid (show out.length + 2 ≤ db.length + 3 by have := LEN.out.1; have := KC.out; omega)
      have M1 : Hid (out.length + 1 ≤ maxLen) := Lib.hid (by have := LX.out; have := HN.out; unfold maxLen; omega)
      have M2 : Hid ((out.length + 1) * 136 ≤ 140737488355328) := Lib.hid (by have := LX.out; have := HN.out; omega)
      cases done with
      | false =>
        --DFALSE
        by_cases g : cv ≤ 0
        · have g1 : decide (cv ≤ 0) = true := by simpa using g
          --DF01
          have bx := R5.out.box
          obtain ⟨⟨⟨e0, e1, e2, e3, e4⟩, ⟨e5, e6, e7, e8, e9⟩, ⟨e10, e11, e12, e13, e14⟩⟩, -⟩ := blk15 bx
          have BA : Below W5.heap.size W5 (W5.alloc (.cells #[.int .i64 xtyp, .int .u32 xid, .int .i64 xlen, .int .u32 xrouter, .int .i64 xseq, .int .i64 xage, .int .i64 xsum, .bool xborder, .bool xboundary, .slice xla xln xlc, .slice xaa xan xac, .int .i64 xcost, .bool xsecond, .int .u32 xfwd, .int .i64 xtag] 47)) := (Below.refl _ _).alloc (Nat.le_refl _) _
          have R6 := Lib.hid (R5.out.below BA)
          have STA := Lib.hid (fun v' W' own' hg => R6.out.push (y := ⟨xtyp, xid, xlen, xrouter, xseq, xage, xsum, xborder, xboundary, xla, xln, xlc, xaa, xan, xac, xcost, xsecond, xfwd, xtag⟩) (v' := v') (W' := W') own' hg)
          have BSR6 : Hid (w.heap.size + 1 ≤ (W5.alloc (.cells #[.int .i64 xtyp, .int .u32 xid, .int .i64 xlen, .int .u32 xrouter, .int .i64 xseq, .int .i64 xage, .int .i64 xsum, .bool xborder, .bool xboundary, .slice xla xln xlc, .slice xaa xan xac, .int .i64 xcost, .bool xsecond, .int .u32 xfwd, .int .i64 xtag] 47)).heap.size) := Lib.hid (Nat.le_trans R6.out.hb R6.out.bel.size)
          have BKR6 : Hid ((W5.alloc (.cells #[.int .i64 xtyp, .int .u32 xid, .int .i64 xlen, .int .u32 xrouter, .int .i64 xseq, .int .i64 xage, .int .i64 xsum, .bool xborder, .bool xboundary, .slice xla xln xlc, .slice xaa xan xac, .int .i64 xcost, .bool xsecond, .int .u32 xfwd, .int .i64 xtag] 47)).heap[W5.heap.size]? = some (.cells (List.toArray [.int .i64 xtyp, .int .u32 xid, .int .i64 xlen, .int .u32 xrouter, .int .i64 xseq, .int .i64 xage, .int .i64 xsum, .bool xborder, .bool xboundary, .slice xla xln xlc, .slice xaa xan xac, .int .i64 xcost, .bool xsecond, .int .u32 xfwd, .int .i64 xtag]) 47 (0, 0))) := Lib.hid (alloc_new W5 _)
          clear BA
          --DFR
          go_upto_region 8 with fail
          go_upto_region 9 with (at_builtin; refine wpList_append_one rfl (.tmp 32) (.tmp 34) 32 rfl (w.heap.size + 1) 47 i0 (.agg #[.int .i64 0, .int .u32 0, .int .i64 0, .int .u32 0, .int .i64 0, .int .i64 0, .int .i64 0, .bool false, .bool false, .slice none 0 0, .slice none 0 0, .int .i64 0, .bool false, .int .u32 0, .int .i64 0]) 15 136 Tryz.underlying32 HI0.out HZ0.out HZ1.out HZ2.out rfl (by decide) vA out.length _ rfl R6.out.own W5.heap.size [.int .i64 xtyp, .int .u32 xid, .int .i64 xlen, .int .u32 xrouter, .int .i64 xseq, .int .i64 xage, .int .i64 xsum, .bool xborder, .bool xboundary, .slice xla xln xlc, .slice xaa xan xac, .int .i64 xcost, .bool xsecond, .int .u32 xfwd, .int .i64 xtag] 47 rfl BKR6.out rfl ONE.out M1.out M2.out BSR6.out ?_; intro vX W7 own' hg d; have R7 := Lib.hid (STA.out vX W7 own' hg); clear own' hg d STA R6 BSR6 BKR6 g1 bx e0 e1 e2 e3 e4 e5 e6 e7 e8 e9 e10 e11 e12 e13 e14)
          by_cases z : cv = 0
          · have z1 : (cv != 0) = false := by simpa using z
            --DF0
            have NX := Lib.hid (NXT.out true _ vX W7 (by rw [STEP.out, if_pos z]; simp [g]) R7.out)
            clear STEP NXT
            go_wp2_with fail
            go_roundw
            case rel => exact ⟨k + 1, true, _, by go_num, rfl, NX⟩
            case measure => simp [intOf]; omega
          · have z1 : (cv != 0) = true := by simpa using z
            --DF1
            have GZ := Lib.hid (And.intro g z)
            clear g z
            go_upto_region 10 with fail
            obtain ⟨⟨d0, d1, d2, d3, d4⟩, ⟨d5, d6, d7, d8, d9⟩, ⟨d10, d11, d12, d13, d14⟩⟩ := YC.out _ _ _ R7.out
            have M3 : Hid ((out ++ [(⟨xtyp, xid, xlen, xrouter, xseq, xage, xsum, xborder, xboundary, xla, xln, xlc, xaa, xan, xac, xcost, xsecond, xfwd, xtag⟩ : Lsa)]).length + 1 ≤ maxLen) := Lib.hid (len_max LX.out HN.out)
            have M4 : Hid (((out ++ [(⟨xtyp, xid, xlen, xrouter, xseq, xage, xsum, xborder, xboundary, xla, xln, xlc, xaa, xan, xac, xcost, xsecond, xfwd, xtag⟩ : Lsa)]).length + 1) * 136 ≤ 140737488355328) := Lib.hid (len_byt LX.out HN.out)
            have BA : Below W7.heap.size W7 (W7.alloc (.cells #[.int .i64 ytyp, .int .u32 yid, .int .i64 ylen, .int .u32 yrouter, .int .i64 yseq, .int .i64 yage, .int .i64 ysum, .bool yborder, .bool yboundary, .slice yla yln ylc, .slice yaa yan yac, .int .i64 ycost, .bool ysecond, .int .u32 yfwd, .int .i64 ytag] 47)) := (Below.refl _ _).alloc (Nat.le_refl _) _
            have R8 := Lib.hid (R7.out.below BA)
            have STB := Lib.hid (fun v' W' own' hg => R8.out.push (y := ⟨ytyp, yid, ylen, yrouter, yseq, yage, ysum, yborder, yboundary, yla, yln, ylc, yaa, yan, yac, ycost, ysecond, yfwd, ytag⟩) (v' := v') (W' := W') own' hg)
            have BSR8 : Hid (w.heap.size + 1 ≤ (W7.alloc (.cells #[.int .i64 ytyp, .int .u32 yid, .int .i64 ylen, .int .u32 yrouter, .int .i64 yseq, .int .i64 yage, .int .i64 ysum, .bool yborder, .bool yboundary, .slice yla yln ylc, .slice yaa yan yac, .int .i64 ycost, .bool ysecond, .int .u32 yfwd, .int .i64 ytag] 47)).heap.size) := Lib.hid (Nat.le_trans R8.out.hb R8.out.bel.size)
            have BKR8 : Hid ((W7.alloc (.cells #[.int .i64 ytyp, .int .u32 yid, .int .i64 ylen, .int .u32 yrouter, .int .i64 yseq, .int .i64 yage, .int .i64 ysum, .bool yborder, .bool yboundary, .slice yla yln ylc, .slice yaa yan yac, .int .i64 ycost, .bool ysecond, .int .u32 yfwd, .int .i64 ytag] 47)).heap[W7.heap.size]? = some (.cells (List.toArray [.int .i64 ytyp, .int .u32 yid, .int .i64 ylen, .int .u32 yrouter, .int .i64 yseq, .int .i64 yage, .int .i64 ysum, .bool yborder, .bool yboundary, .slice yla yln ylc, .slice yaa yan yac, .int .i64 ycost, .bool ysecond, .int .u32 yfwd, .int .i64 ytag]) 47 (0, 0))) := Lib.hid (alloc_new W7 _)
            clear BA
            go_wp2_with (at_builtin; refine wpList_append_one rfl (.tmp 38) (.tmp 43) 32 rfl (w.heap.size + 1) 47 i0 (.agg #[.int .i64 0, .int .u32 0, .int .i64 0, .int .u32 0, .int .i64 0, .int .i64 0, .int .i64 0, .bool false, .bool false, .slice none 0 0, .slice none 0 0, .int .i64 0, .bool false, .int .u32 0, .int .i64 0]) 15 136 Tryz.underlying32 HI0.out HZ0.out HZ1.out HZ2.out rfl (by decide) vX (out ++ [(⟨xtyp, xid, xlen, xrouter, xseq, xage, xsum, xborder, xboundary, xla, xln, xlc, xaa, xan, xac, xcost, xsecond, xfwd, xtag⟩ : Lsa)]).length _ rfl R8.out.own W7.heap.size [.int .i64 ytyp, .int .u32 yid, .int .i64 ylen, .int .u32 yrouter, .int .i64 yseq, .int .i64 yage, .int .i64 ysum, .bool yborder, .bool yboundary, .slice yla yln ylc, .slice yaa yan yac, .int .i64 ycost, .bool ysecond, .int .u32 yfwd, .int .i64 ytag] 47 rfl BKR8.out rfl ONEY.out M3.out M4.out BSR8.out ?_; intro vY W9 own' hg d; have R9 := Lib.hid (STB.out vY W9 own' hg); clear own' hg d STB R8 BSR8 BKR8 z1 d0 d1 d2 d3 d4 d5 d6 d7 d8 d9 d10 d11 d12 d13 d14)
            have NX := Lib.hid (NXT.out true _ vY W9 (by rw [STEP.out, if_neg GZ.out.2]; simp [GZ.out.1]) R9.out)
            clear STEP NXT
            go_roundw
            case rel => exact ⟨k + 1, true, _, by go_num, rfl, NX⟩
            case measure => simp [intOf]; omega
        · have g1 : decide (cv ≤ 0) = false := by simpa using g
          have z1 : (cv != 0) = true := by simp; omega
          --DF2
          obtain ⟨⟨d0, d1, d2, d3, d4⟩, ⟨d5, d6, d7, d8, d9⟩, ⟨d10, d11, d12, d13, d14⟩⟩ := YC.out _ _ _ R5.out
          have BA : Below W5.heap.size W5 (W5.alloc (.cells #[.int .i64 ytyp, .int .u32 yid, .int .i64 ylen, .int .u32 yrouter, .int .i64 yseq, .int .i64 yage, .int .i64 ysum, .bool yborder, .bool yboundary, .slice yla yln ylc, .slice yaa yan yac, .int .i64 ycost, .bool ysecond, .int .u32 yfwd, .int .i64 ytag] 47)) := (Below.refl _ _).alloc (Nat.le_refl _) _
          have R8 := Lib.hid (R5.out.below BA)
          have STB := Lib.hid (fun v' W' own' hg => R8.out.push (y := ⟨ytyp, yid, ylen, yrouter, yseq, yage, ysum, yborder, yboundary, yla, yln, ylc, yaa, yan, yac, ycost, ysecond, yfwd, ytag⟩) (v' := v') (W' := W') own' hg)
          have BSR8 : Hid (w.heap.size + 1 ≤ (W5.alloc (.cells #[.int .i64 ytyp, .int .u32 yid, .int .i64 ylen, .int .u32 yrouter, .int .i64 yseq, .int .i64 yage, .int .i64 ysum, .bool yborder, .bool yboundary, .slice yla yln ylc, .slice yaa yan yac, .int .i64 ycost, .bool ysecond, .int .u32 yfwd, .int .i64 ytag] 47)).heap.size) := Lib.hid (Nat.le_trans R8.out.hb R8.out.bel.size)
          have BKR8 : Hid ((W5.alloc (.cells #[.int .i64 ytyp, .int .u32 yid, .int .i64 ylen, .int .u32 yrouter, .int .i64 yseq, .int .i64 yage, .int .i64 ysum, .bool yborder, .bool yboundary, .slice yla yln ylc, .slice yaa yan yac, .int .i64 ycost, .bool ysecond, .int .u32 yfwd, .int .i64 ytag] 47)).heap[W5.heap.size]? = some (.cells (List.toArray [.int .i64 ytyp, .int .u32 yid, .int .i64 ylen, .int .u32 yrouter, .int .i64 yseq, .int .i64 yage, .int .i64 ysum, .bool yborder, .bool yboundary, .slice yla yln ylc, .slice yaa yan yac, .int .i64 ycost, .bool ysecond, .int .u32 yfwd, .int .i64 ytag]) 47 (0, 0))) := Lib.hid (alloc_new W5 _)
          clear BA
          go_wp2_with (at_builtin; refine wpList_append_one rfl (.tmp 38) (.tmp 43) 32 rfl (w.heap.size + 1) 47 i0 (.agg #[.int .i64 0, .int .u32 0, .int .i64 0, .int .u32 0, .int .i64 0, .int .i64 0, .int .i64 0, .bool false, .bool false, .slice none 0 0, .slice none 0 0, .int .i64 0, .bool false, .int .u32 0, .int .i64 0]) 15 136 Tryz.underlying32 HI0.out HZ0.out HZ1.out HZ2.out rfl (by decide) vA out.length _ rfl R8.out.own W5.heap.size [.int .i64 ytyp, .int .u32 yid, .int .i64 ylen, .int .u32 yrouter, .int .i64 yseq, .int .i64 yage, .int .i64 ysum, .bool yborder, .bool yboundary, .slice yla yln ylc, .slice yaa yan yac, .int .i64 ycost, .bool ysecond, .int .u32 yfwd, .int .i64 ytag] 47 rfl BKR8.out rfl ONEY.out M1.out M2.out BSR8.out ?_; intro vY W9 own' hg d; have R9 := Lib.hid (STB.out vY W9 own' hg); clear own' hg d STB R8 BSR8 BKR8 g1 z1 d0 d1 d2 d3 d4 d5 d6 d7 d8 d9 d10 d11 d12 d13 d14)
          have NX := Lib.hid (NXT.out false _ vY W9 (by rw [STEP.out, if_neg (by omega)]; simp [g]) R9.out)
          clear STEP NXT
          go_roundw
          case rel => exact ⟨k + 1, false, _, by go_num, rfl, NX⟩
          case measure => simp [intOf]; omega
      | true =>
        by_cases z : cv = 0
        · have z1 : (cv != 0) = false := by simpa using z
          --TZERO
          have NX := Lib.hid (NXT.out true _ vA W5 (by rw [STEP.out, if_pos z]; simp) R5.out)
          clear STEP NXT
          go_wp2_with fail
          go_roundw
          case rel => exact ⟨k + 1, true, _, by go_num, rfl, NX⟩
          case measure => simp [intOf]; omega
        · have z1 : (cv != 0) = true := by simpa using z
          --TNZ
          obtain ⟨⟨d0, d1, d2, d3, d4⟩, ⟨d5, d6, d7, d8, d9⟩, ⟨d10, d11, d12, d13, d14⟩⟩ := YC.out _ _ _ R5.out
          have BA : Below W5.heap.size W5 (W5.alloc (.cells #[.int .i64 ytyp, .int .u32 yid, .int .i64 ylen, .int .u32 yrouter, .int .i64 yseq, .int .i64 yage, .int .i64 ysum, .bool yborder, .bool yboundary, .slice yla yln ylc, .slice yaa yan yac, .int .i64 ycost, .bool ysecond, .int .u32 yfwd, .int .i64 ytag] 47)) := (Below.refl _ _).alloc (Nat.le_refl _) _
          have R8 := Lib.hid (R5.out.below BA)
          have STB := Lib.hid (fun v' W' own' hg => R8.out.push (y := ⟨ytyp, yid, ylen, yrouter, yseq, yage, ysum, yborder, yboundary, yla, yln, ylc, yaa, yan, yac, ycost, ysecond, yfwd, ytag⟩) (v' := v') (W' := W') own' hg)
          have BSR8 : Hid (w.heap.size + 1 ≤ (W5.alloc (.cells #[.int .i64 ytyp, .int .u32 yid, .int .i64 ylen, .int .u32 yrouter, .int .i64 yseq, .int .i64 yage, .int .i64 ysum, .bool yborder, .bool yboundary, .slice yla yln ylc, .slice yaa yan yac, .int .i64 ycost, .bool ysecond, .int .u32 yfwd, .int .i64 ytag] 47)).heap.size) := Lib.hid (Nat.le_trans R8.out.hb R8.out.bel.size)
          have BKR8 : Hid ((W5.alloc (.cells #[.int .i64 ytyp, .int .u32 yid, .int .i64 ylen, .int .u32 yrouter, .int .i64 yseq, .int .i64 yage, .int .i64 ysum, .bool yborder, .bool yboundary, .slice yla yln ylc, .slice yaa yan yac, .int .i64 ycost, .bool ysecond, .int .u32 yfwd, .int .i64 ytag] 47)).heap[W5.heap.size]? = some (.cells (List.toArray [.int .i64 ytyp, .int .u32 yid, .int .i64 ylen, .int .u32 yrouter, .int .i64 yseq, .int .i64 yage, .int .i64 ysum, .bool yborder, .bool yboundary, .slice yla yln ylc, .slice yaa yan yac, .int .i64 ycost, .bool ysecond, .int .u32 yfwd, .int .i64 ytag]) 47 (0, 0))) := Lib.hid (alloc_new W5 _)
          clear BA
          go_wp2_with (at_builtin; refine wpList_append_one rfl (.tmp 38) (.tmp 43) 32 rfl (w.heap.size + 1) 47 i0 (.agg #[.int .i64 0, .int .u32 0, .int .i64 0, .int .u32 0, .int .i64 0, .int .i64 0, .int .i64 0, .bool false, .bool false, .slice none 0 0, .slice none 0 0, .int .i64 0, .bool false, .int .u32 0, .int .i64 0]) 15 136 Tryz.underlying32 HI0.out HZ0.out HZ1.out HZ2.out rfl (by decide) vA out.length _ rfl R8.out.own W5.heap.size [.int .i64 ytyp, .int .u32 yid, .int .i64 ylen, .int .u32 yrouter, .int .i64 yseq, .int .i64 yage, .int .i64 ysum, .bool yborder, .bool yboundary, .slice yla yln ylc, .slice yaa yan yac, .int .i64 ycost, .bool ysecond, .int .u32 yfwd, .int .i64 ytag] 47 rfl BKR8.out rfl ONEY.out M1.out M2.out BSR8.out ?_; intro vY W9 own' hg d; have R9 := Lib.hid (STB.out vY W9 own' hg); clear own' hg d STB R8 BSR8 BKR8 z1 d0 d1 d2 d3 d4 d5 d6 d7 d8 d9 d10 d11 d12 d13 d14)
          have NX := Lib.hid (NXT.out true _ vY W9 (by rw [STEP.out, if_neg z]; simp) R9.out)
          clear STEP NXT
          go_roundw
          case rel => exact ⟨k + 1, true, _, by go_num, rfl, NX⟩
          case measure => simp [intOf]; omega
    · cases done with
      | true =>
        --XTRUE
        have FIN := Lib.hid (FINL.out k out vA wr c R.out)
        clear R
        go_wp2_with fail
        go_ret
        exact FIN.out
      | false =>
        --XFALSE
        have FIN := Lib.hid (fun va' wr' r => FINP.out k out vA va' wr wr' c R.out r)
        have LEN := Lib.hid R.out.len
        have M1 : Hid (out.length + 1 ≤ maxLen) := Lib.hid (by have := LEN.out.1; have := HN.out; unfold maxLen; omega)
        have M2 : Hid ((out.length + 1) * 136 ≤ 140737488355328) := Lib.hid (by have := LEN.out.1; have := HN.out; omega)
        have R5 := Lib.hid R.out.r
        clear R
        have BA : Below wr.heap.size wr (wr.alloc (.cells #[.int .i64 xtyp, .int .u32 xid, .int .i64 xlen, .int .u32 xrouter, .int .i64 xseq, .int .i64 xage, .int .i64 xsum, .bool xborder, .bool xboundary, .slice xla xln xlc, .slice xaa xan xac, .int .i64 xcost, .bool xsecond, .int .u32 xfwd, .int .i64 xtag] 47)) := (Below.refl _ _).alloc (Nat.le_refl _) _
        have R6 := Lib.hid (R5.out.below BA)
        have STA := Lib.hid (fun v' W' own' hg => R6.out.push (y := ⟨xtyp, xid, xlen, xrouter, xseq, xage, xsum, xborder, xboundary, xla, xln, xlc, xaa, xan, xac, xcost, xsecond, xfwd, xtag⟩) (v' := v') (W' := W') own' hg)
        have BSR6 : Hid (w.heap.size + 1 ≤ (wr.alloc (.cells #[.int .i64 xtyp, .int .u32 xid, .int .i64 xlen, .int .u32 xrouter, .int .i64 xseq, .int .i64 xage, .int .i64 xsum, .bool xborder, .bool xboundary, .slice xla xln xlc, .slice xaa xan xac, .int .i64 xcost, .bool xsecond, .int .u32 xfwd, .int .i64 xtag] 47)).heap.size) := Lib.hid (Nat.le_trans R6.out.hb R6.out.bel.size)
        have BKR6 : Hid ((wr.alloc (.cells #[.int .i64 xtyp, .int .u32 xid, .int .i64 xlen, .int .u32 xrouter, .int .i64 xseq, .int .i64 xage, .int .i64 xsum, .bool xborder, .bool xboundary, .slice xla xln xlc, .slice xaa xan xac, .int .i64 xcost, .bool xsecond, .int .u32 xfwd, .int .i64 xtag] 47)).heap[wr.heap.size]? = some (.cells (List.toArray [.int .i64 xtyp, .int .u32 xid, .int .i64 xlen, .int .u32 xrouter, .int .i64 xseq, .int .i64 xage, .int .i64 xsum, .bool xborder, .bool xboundary, .slice xla xln xlc, .slice xaa xan xac, .int .i64 xcost, .bool xsecond, .int .u32 xfwd, .int .i64 xtag]) 47 (0, 0))) := Lib.hid (alloc_new wr _)
        clear BA
        go_wp2_with (at_builtin; refine wpList_append_one rfl (.tmp 47) (.tmp 49) 32 rfl (w.heap.size + 1) 47 i0 (.agg #[.int .i64 0, .int .u32 0, .int .i64 0, .int .u32 0, .int .i64 0, .int .i64 0, .int .i64 0, .bool false, .bool false, .slice none 0 0, .slice none 0 0, .int .i64 0, .bool false, .int .u32 0, .int .i64 0]) 15 136 Tryz.underlying32 HI0.out HZ0.out HZ1.out HZ2.out rfl (by decide) vA out.length _ rfl R6.out.own wr.heap.size [.int .i64 xtyp, .int .u32 xid, .int .i64 xlen, .int .u32 xrouter, .int .i64 xseq, .int .i64 xage, .int .i64 xsum, .bool xborder, .bool xboundary, .slice xla xln xlc, .slice xaa xan xac, .int .i64 xcost, .bool xsecond, .int .u32 xfwd, .int .i64 xtag] 47 rfl BKR6.out rfl ONE.out M1.out M2.out BSR6.out ?_; intro vX W7 own' hg d; have R7 := Lib.hid (STA.out vX W7 own' hg); clear own' hg d STA R6 BSR6 BKR6 e0 e1 e2 e3 e4 e5 e6 e7 e8 e9 e10 e11 e12 e13 e14)
        have FI := Lib.hid (FIN.out vX W7 R7.out)
        clear FIN
        go_ret
        exact FI.out

end Go.Proofs.YtogdconliofblaaGreat
