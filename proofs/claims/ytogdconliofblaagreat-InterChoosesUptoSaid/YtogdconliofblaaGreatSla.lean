/-
  routingref23.Sealed, of every valid advertisement: some truth is returned. Advertisements with their lists.
-/
/-
  routingref24.Rows, routingref25.Check: what a valid database is.
-/
import Derived.Test.YtogdconliofblaaGreatLnk
import Derived.Test.YtogdconliofblaaGreatSmg
import Derived.Test.YtogdconliofblaaGreatLkk
import Derived.IntWalk
namespace Go.Proofs.YtogdconliofblaaGreat
open Go.RowKit

/-- an advertisement with its links and routers -/
structure LsaD where
  x : Lsa
  lk : List Lnk
  att : List Int
deriving Inhabited

structure DIn (w : World) (d : LsaD) : Prop where
  ok : OkL d.x
  lk : LnksAt w (.slice d.x.la d.x.ln d.x.lc) d.lk
  lr : ∀ y ∈ d.lk, 0 ≤ y.id ∧ y.id < 4294967296 ∧ 0 ≤ y.data ∧ y.data < 4294967296
  att : WordsAt w (.slice d.x.aa d.x.an d.x.ac) d.att
  ar : ∀ y ∈ d.att, 0 ≤ y ∧ y < 4294967296

theorem DIn.below {w w' : World} {d : LsaD} (h : DIn w d) (hb : Below w.heap.size w w') : DIn w' d := ⟨h.ok, h.lk.below hb, h.lr, h.att.below hb, h.ar⟩

/-- valid -/
def LsaOk (d : LsaD) : Prop := LsaIs d.x d.lk d.att 0

theorem AttIs.zero {l : List Int} {r : Int} (h : AttIs l r 0) : l.length ≤ 64 ∧ (∀ k, k < l.length → attBad l k = false) ∧ r ∈ l := by
  rcases h with ⟨_, h⟩ | ⟨h1, ⟨k, h2, h3, h4⟩ | ⟨h2, h3⟩⟩
  · cases h
  · cases h4
  · refine ⟨h1, h2, ?_⟩
    by_cases c : r ∈ l
    · exact c
    · rw [if_neg c] at h3; cases h3

theorem LnkIs.zero {l : List Lnk} {r : Int} (h : LnkIs l r 0) : l.length ≤ 64 ∧ ∀ k, k < l.length → lnkErr l r k = 0 := by
  rcases h with ⟨_, h⟩ | ⟨h1, ⟨h2, _⟩ | ⟨k, h2, h3, h4, h5⟩⟩
  · cases h
  · exact ⟨h1, h2⟩
  · exact absurd rfl h5

theorem withinB_iff {n lo hi : Int} : withinB n lo hi = true ↔ lo ≤ n ∧ n ≤ hi := by simp [withinB]

theorem lnkErr_ok {l : List Lnk} {r : Int} {k : Nat} (h : lnkErr l r k = 0) : withinB (lnkAt l k).kind 1 3 = true ∧ withinB (lnkAt l k).cost 1 65535 = true ∧ ¬((lnkAt l k).kind = 1 ∧ ((lnkAt l k).id = 0 ∨ (lnkAt l k).id = r)) ∧
    ¬((lnkAt l k).kind = 3 ∧ (32 < (lnkAt l k).data ∨ fitsB (lnkAt l k).id (lnkAt l k).data = false)) ∧ ¬(0 < k ∧ 0 ≤ lnkCmp (lnkAt l (k - 1)) (lnkAt l k)) := by
  unfold lnkErr at h
  split at h
  · cases h
  · split at h
    · cases h
    · split at h
      · cases h
      · split at h
        · cases h
        · split at h
          · cases h
          · rename_i a b c d e
            exact ⟨by simpa using a, by simpa using b, c, d, e⟩

theorem lnks_okK {l : List Lnk} {r : Int} (h : LnkIs l r 0) (hr : ∀ y ∈ l, 0 ≤ y.id ∧ y.id < 4294967296 ∧ 0 ≤ y.data ∧ y.data < 4294967296) : ∀ y ∈ l, OkK y := by
  intro y hy
  obtain ⟨k, hk, rfl⟩ := List.getElem_of_mem hy
  obtain ⟨h1, h2, _⟩ := lnkErr_ok (h.zero.2 k hk)
  rw [lnkAt_eq hk] at h1 h2
  obtain ⟨a, b, c, d⟩ := hr _ hy
  rw [withinB_iff] at h1 h2
  exact ⟨by omega, by omega, a, b, c, d, by omega, by omega⟩

theorem headP_zero {t id len r seq age sum : Int} (h : headP t id len r seq age sum = 0) : 1 ≤ t ∧ t ≤ 5 ∧ r ≠ 0 ∧ 1 ≤ seq ∧ seq ≤ 2147483647 ∧ 0 ≤ age ∧ age ≤ 3600 ∧ 0 ≤ sum ∧ sum ≤ 65535 ∧ 0 ≤ len ∧ len ≤ 32 ∧ ((t = 1 ∨ t = 4) → len = 0) ∧ (t = 1 → id = r) ∧ ((t = 3 ∨ t = 5) → fitsB id len = true) ∧ ((t = 2 ∨ t = 4) → id ≠ 0) := by
  unfold headP at h
  split at h
  · cases h
  rename_i h1
  split at h
  · cases h
  rename_i h2
  split at h
  · cases h
  rename_i h3
  split at h
  · cases h
  rename_i h4
  split at h
  · cases h
  rename_i h5
  split at h
  · cases h
  rename_i h6
  have h1 : withinB t 1 5 = true := by simpa using h1
  simp only [not_or, Bool.not_eq_false] at h2 h3
  obtain ⟨r0, s0, a0, u0⟩ := h2
  rw [withinB_iff] at h1 s0 a0 u0
  have hl : 0 ≤ len ∧ len ≤ 32 := by
    by_cases c : t = 1 ∨ t = 4
    · have := h3.1; simp only [c, true_and, ne_eq, Decidable.not_not] at this; omega
    · cases hw : withinB len 0 32 with
      | true => exact withinB_iff.1 hw
      | false => exact absurd (by simp only [hw, and_true]; omega) h3.2
  refine ⟨h1.1, h1.2, r0, s0.1, s0.2, a0.1, a0.2, u0.1, u0.2, hl.1, hl.2, fun c => ?_, fun c => ?_, fun c => ?_, fun c => ?_⟩
  · have := h3.1; simp only [c, true_and, ne_eq, Decidable.not_not] at this; exact this
  · have := h4; simp only [c, true_and, ne_eq, Decidable.not_not] at this; exact this
  · have := h5; simp only [c, true_and, Bool.not_eq_false] at this; exact this
  · have := h6; simp only [c, true_and] at this; exact this

theorem unusedP_true {x : Lsa} (h : unusedP x = true) : (x.typ ≠ 1 → x.border = false ∧ x.boundary = false ∧ x.ln = 0) ∧ (x.typ ≠ 2 → x.an = 0) ∧ (x.typ < 3 → x.cost = 0) ∧ (x.typ ≠ 5 → x.second = false ∧ x.fwd = 0 ∧ x.tag = 0) := by
  unfold unusedP at h
  simp only [Bool.and_eq_true, Bool.or_eq_true, Bool.not_eq_true', Bool.and_eq_false_imp, decide_eq_true_eq, Bool.or_eq_false_iff, decide_eq_false_iff_not, Bool.not_eq_false'] at h
  obtain ⟨⟨⟨h1, h2⟩, h3⟩, h4⟩ := h
  refine ⟨fun c => ?_, fun c => ?_, fun c => ?_, fun c => ?_⟩
  · obtain ⟨⟨a, b⟩, d⟩ := h1 c; exact ⟨a, b, by omega⟩
  · have := h2 c; omega
  · exact h3 c
  · rcases h4 with h4 | h4
    · exact absurd h4 c
    · exact ⟨h4.1.1, h4.1.2, h4.2⟩

/-- what a valid advertisement is -/
structure OkD (d : LsaD) : Prop where
  t0 : 1 ≤ d.x.typ
  t1 : d.x.typ ≤ 5
  r0 : d.x.router ≠ 0
  s0 : 1 ≤ d.x.seq
  s1 : d.x.seq ≤ 2147483647
  a0 : 0 ≤ d.x.age
  a1 : d.x.age ≤ 3600
  u0 : 0 ≤ d.x.sum
  u1 : d.x.sum ≤ 65535
  l0 : 0 ≤ d.x.len
  l1 : d.x.len ≤ 32
  l14 : (d.x.typ = 1 ∨ d.x.typ = 4) → d.x.len = 0
  i1 : d.x.typ = 1 → d.x.id = d.x.router
  fit : (d.x.typ = 3 ∨ d.x.typ = 5) → fitsB d.x.id d.x.len = true
  i24 : (d.x.typ = 2 ∨ d.x.typ = 4) → d.x.id ≠ 0
  n1 : d.x.typ ≠ 1 → d.x.border = false ∧ d.x.boundary = false ∧ d.x.ln = 0
  n2 : d.x.typ ≠ 2 → d.x.an = 0
  n3 : d.x.typ < 3 → d.x.cost = 0
  n5 : d.x.typ ≠ 5 → d.x.second = false ∧ d.x.fwd = 0 ∧ d.x.tag = 0
  c0 : 0 ≤ d.x.cost
  c1 : d.x.cost ≤ 16777216
  g0 : 0 ≤ d.x.tag
  g1 : d.x.tag ≤ 4294967295
  k1 : d.x.typ = 1 → LnkIs d.lk d.x.router 0
  k2 : d.x.typ = 2 → AttIs d.att d.x.router 0

theorem LsaOk.ok {d : LsaD} (h : LsaOk d) : OkD d := by
  rcases h with ⟨h1, h2⟩ | ⟨_, _, h⟩ | ⟨h1, h2, h3⟩
  · exact absurd h2.symm h1
  · cases h
  · obtain ⟨t0, t1, r0, s0, s1, a0, a1, u0, u1, l0, l1, l14, i1, fit, i24⟩ := headP_zero h1
    obtain ⟨n1, n2, n3, n5⟩ := unusedP_true h2
    have cg : 0 ≤ d.x.cost ∧ d.x.cost ≤ 16777216 ∧ 0 ≤ d.x.tag ∧ d.x.tag ≤ 4294967295 := by
      by_cases c : d.x.typ < 3
      · have := n3 c; have := (n5 (by omega)).2.2; omega
      · rcases h3 with ⟨e, _⟩ | ⟨e, _⟩ | ⟨_, _, e⟩
        · omega
        · omega
        · split at e
          · cases e
          · rename_i h
            simp only [not_or, Bool.not_eq_false] at h
            obtain ⟨ha, hb⟩ := h
            rw [withinB_iff] at ha hb
            omega
    refine ⟨t0, t1, r0, s0, s1, a0, a1, u0, u1, l0, l1, l14, i1, fit, i24, n1, n2, n3, n5, cg.1, cg.2.1, cg.2.2.1, cg.2.2.2, fun e => ?_, fun e => ?_⟩
    · rcases h3 with ⟨_, h⟩ | ⟨e', _⟩ | ⟨e', _⟩
      · exact h
      · omega
      · exact absurd e e'
    · rcases h3 with ⟨e', _⟩ | ⟨_, h⟩ | ⟨_, e', _⟩
      · omega
      · exact h
      · exact absurd e e'

theorem OkD.oh {d : LsaD} (h : OkD d) : OkH d.x := ⟨by have := h.t0; omega, h.t1, h.l0, h.l1, by have := h.s0; omega, h.s1, h.a0, h.a1, h.u0, h.u1, h.c0, h.c1, h.g0, h.g1⟩

theorem sum_any (d : LsaD) (w : World) (hd : DIn w d) (h : LsaOk d) : Calls Tryz.prog 101 #[.agg (lsaE d.x).toArray] w (SumPost w) := by
  have o := h.ok
  by_cases h1 : d.x.typ = 1
  · have hk := o.k1 h1
    refine sum_gen d.x hd.ok o.oh (bodyR d.x.border d.x.boundary d.lk) ?_ ?_ w fun W hb => body_rtr d.x h1 d.lk W (hd.lk.below hb) (lnks_okK hk hd.lr) hk.zero.1
    · have := hk.zero.1
      unfold bodyR
      simp only [List.length_append, putB_len, lnksB_len]; omega
    · unfold bodyR lnksB
      simp only [List.forall_mem_append]
      refine ⟨⟨putB_range _ _, putB_range _ _⟩, fun b hb => ?_⟩
      obtain ⟨y, hy, hb⟩ := List.mem_flatten.1 hb
      obtain ⟨z, _, rfl⟩ := List.mem_map.1 hy
      unfold lnkB at hb
      simp only [List.mem_append] at hb
      rcases hb with ((hb | hb) | hb) | hb <;> exact putB_range _ _ b hb
  by_cases h2 : d.x.typ = 2
  · have hk := o.k2 h2
    refine sum_gen d.x hd.ok o.oh (bodyN d.att) ?_ ?_ w fun W hb => body_net d.x h2 d.att W (hd.att.below hb) hd.ar hk.zero.1
    · have := hk.zero.1
      unfold bodyN
      simp only [List.length_append, putB_len, attB_len]; omega
    · unfold bodyN attB
      simp only [List.forall_mem_append]
      refine ⟨putB_range _ _, fun b hb => ?_⟩
      obtain ⟨y, hy, hb⟩ := List.mem_flatten.1 hb
      obtain ⟨z, _, rfl⟩ := List.mem_map.1 hy
      exact putB_range _ _ b hb
  exact sum_calls d.x hd.ok o.oh (by have := o.t0; have := o.t1; omega) w

theorem sealed_any (d : LsaD) (w : World) (hd : DIn w d) (h : LsaOk d) : Calls Tryz.prog 82 #[.agg (lsaE d.x).toArray] w (SldPost w) :=
  sealed_gen d.x w fun W hb => sum_any d W (hd.below hb) h

end Go.Proofs.YtogdconliofblaaGreat

namespace Go.Proofs.YtogdconliofblaaGreat
open Go.RowKit

def keyOf (x : Lsa) : Kk := ⟨x.typ, x.id, x.len, x.router⟩
def dAt (db : List LsaD) (k : Nat) : LsaD := db.getD k default
theorem dAt_eq {db : List LsaD} {k : Nat} (c : k < db.length) : dAt db k = db[k] := by
  rw [dAt, List.getD_eq_getElem?_getD, List.getElem?_eq_getElem c]; rfl
/-- what a valid database is -/
def DbOk (db : List LsaD) : Prop := ∀ i, i < db.length → LsaOk (dAt db i) ∧ (0 < i → kkCmp (keyOf (dAt db (i - 1)).x) (keyOf (dAt db i).x) < 0)
def RowPost (w : World) (db : List LsaD) (e : Ending) (w' : World) : Prop := ∃ c, e = .returned (.int .i64 c) ∧ Below w.heap.size w w' ∧ (c = 0 → DbOk db)

def ChkDb (w : World) (db : List LsaD) (e : Ending) (w' : World) : Prop := ∃ c, e = .returned (.int .i64 c) ∧ Below w.heap.size w w' ∧ (c = 0 → db.length ≤ 2000 ∧ DbOk db)

structure RowRel (w : World) (db : List LsaD) (k : Nat) (wr : World) : Prop where
  hk : k ≤ db.length
  ok : ∀ i, i < k → LsaOk (dAt db i) ∧ (0 < i → kkCmp (keyOf (dAt db (i - 1)).x) (keyOf (dAt db i).x) < 0)
  bel : Below w.heap.size w wr

theorem RowRel.step {w : World} {db : List LsaD} {k : Nat} {wr wr' : World} (R : RowRel w db k wr) (c : k < db.length) (h : LsaOk (dAt db k)) (h2 : 0 < k → kkCmp (keyOf (dAt db (k - 1)).x) (keyOf (dAt db k).x) < 0) (g : Below wr.heap.size wr wr') : RowRel w db (k + 1) wr' :=
  ⟨c, fun i hi => by rcases Nat.lt_or_ge i k with h' | h'; · exact R.ok i h'
                     · rw [show i = k from by omega]; exact ⟨h, h2⟩, R.bel.trans (g.mono R.bel.size)⟩
theorem RowRel.stop {w : World} {db : List LsaD} {k : Nat} {wr wr' : World} (R : RowRel w db k wr) {e : Int} (he : e ≠ 0) (g : Below wr.heap.size wr wr') : RowPost w db (.returned (.int .i64 e)) wr' :=
  ⟨e, rfl, R.bel.trans (g.mono R.bel.size), fun h => absurd h he⟩

def DbAt (w : World) (v : Value) (db : List LsaD) : Prop := LsasAt w v (db.map LsaD.x) ∧ ∀ d ∈ db, DIn w d
theorem DbAt.below {w w' : World} {v : Value} {db : List LsaD} (h : DbAt w v db) (hb : Below w.heap.size w w') : DbAt w' v db := ⟨h.1.below hb, fun d hd => (h.2 d hd).below hb⟩

set_option maxHeartbeats 8000000 in
set_option maxRecDepth 100000 in
theorem rows_calls (w : World) (v : Value) (db : List LsaD) (h : DbAt w v db) : Calls Tryz.prog 45 #[v] w (RowPost w db) := by
  obtain ⟨hl, hd⟩ := h
  obtain ⟨ad, cap, e0, hlen, hc⟩ := hl.get
  simp only [List.length_map] at e0 hlen hc
  subst e0
  have HC := Lib.hid hc
  have HD := Lib.hid hd
  clear hl hc hd
  have mixed : Tryz.prog.follows .mixedOrders = true := by kernel_rfl
  have R0 : Hid (RowRel w db 0 w) := Lib.hid ⟨Nat.zero_le _, fun i hi => by omega, Below.refl _ _⟩
  go_enter Tryz.func45, Tryz.ntmps45
  go_wp2_with fail
  go_loopw [3] (fun i wr => ∃ k : Nat, i = .int .i64 k ∧ RowRel w db k wr) (fun i _ => db.length - (intOf i).toNat)
  case atStart => exact ⟨0, rfl, R0.out⟩
  case round =>
    clear R0
    obtain ⟨k, rfl, R⟩ := hrel
    have hk := R.hk
    by_cases c : k < db.length
    · obtain ⟨b, off, rfl, hb0, hcc⟩ := HC.out (by omega)
      have D0 : Hid (LsaCells wr b (off + k * 15) (dAt db k).x) := Lib.hid (by
        rw [dAt_eq c]; have := hcc k c; simp only [List.getElem_map] at this; exact this.below R.bel hb0)
      have PV : Hid (0 < k → LsaCells wr b (off + (k - 1) * 15) (dAt db (k - 1)).x) := Lib.hid (fun h0 => by
        have c' : k - 1 < db.length := by omega
        rw [dAt_eq c']; have := hcc (k - 1) c'; simp only [List.getElem_map] at this; exact this.below R.bel hb0)
      have HI : Hid (DIn wr (dAt db k)) := Lib.hid (by rw [dAt_eq c]; exact (HD.out _ (List.getElem_mem c)).below R.bel)
      have NXT := Lib.hid (fun (h : LsaOk (dAt db k)) (h2 : 0 < k → kkCmp (keyOf (dAt db (k - 1)).x) (keyOf (dAt db k).x) < 0) (W' : World) (g : Below wr.heap.size wr W') => R.step c h h2 g)
      have STP := Lib.hid (fun (e : Int) (he : e ≠ 0) (W' : World) (g : Below wr.heap.size wr W') => R.stop he g)
      have hbw : b < wr.heap.size := Nat.lt_of_lt_of_le hb0 R.bel.size
      have i0 : (0 : Int) ≤ (k : Int) := by omega
      have i1 : (k : Int) < (db.length : Int) := by omega
      have s3 : ((k : Int)).toNat = k := by omega
      clear R hcc
      generalize dAt db k = d at *
      obtain ⟨⟨e0, e1, e2, e3, e4⟩, ⟨e5, e6, e7, e8, e9⟩, ⟨e10, e11, e12, e13, e14⟩⟩ := D0.out
      have CC := Lib.hid (check_any d.x HI.out.ok d.lk d.att wr HI.out.lk HI.out.lr HI.out.att)
      have SC := Lib.hid (fun (hv : LsaOk d) W (hb : Below wr.heap.size wr W) => sealed_any d W (HI.out.below hb) hv)
      obtain ⟨⟨typ, id, len, router, seq, age, sum, border, boundary, la, ln, lc, aa, an, ac, cost, second, fwd, tag⟩, lk, att⟩ := d
      simp only [lsaE] at e0 e1 e2 e3 e4 e5 e6 e7 e8 e9 e10 e11 e12 e13 e14 CC SC
      go_wp2_with fail
      refine CC.out.mono ?_
      rintro e w1 ⟨c, rfl, hI, G1⟩
      by_cases hc0 : c = 0
      · subst hc0
        have OK : Hid (LsaOk ⟨⟨typ, id, len, router, seq, age, sum, border, boundary, la, ln, lc, aa, an, ac, cost, second, fwd, tag⟩, lk, att⟩) := Lib.hid hI
        have q0 : ((0 : Int) != 0) = false := by simp
        have S1 := Lib.hid (SC.out OK.out w1 G1.b)
        have HB1 := Lib.hid G1.b
        clear e0 e1 e2 e3 e4 e5 e6 e7 e8 e9 e10 e11 e12 e13 e14 CC SC hI G1
        obtain ⟨⟨e0, e1, e2, e3, e4⟩, ⟨e5, e6, e7, e8, e9⟩, ⟨e10, e11, e12, e13, e14⟩⟩ := D0.out.below HB1.out hbw
        simp only at e0 e1 e2 e3 e4 e5 e6 e7 e8 e9 e10 e11 e12 e13 e14
        go_wp2_with fail
        refine S1.out.mono ?_
        rintro e w2 ⟨b', rfl, B2⟩
        have HB2 := Lib.hid (HB1.out.trans (B2.mono HB1.out.size))
        clear e0 e1 e2 e3 e4 e5 e6 e7 e8 e9 e10 e11 e12 e13 e14 S1 B2
        cases b' with
        | false =>
          have EL := Lib.hid (STP.out 13 (by decide) w2 HB2.out)
          go_wp2_with fail
          go_returns
          exact EL.out
        | true =>
          go_wp2_with fail
          obtain ⟨W2, rfl⟩ : ∃ W2, W2 = w2 := ⟨_, rfl⟩
          rcases Nat.eq_zero_or_pos k with h0 | h0
          · subst h0
            have NX := Lib.hid (fun n => NXT.out OK.out (fun h => absurd h (by omega)) (W2.drewN n) ⟨HB2.out.os, HB2.out.tape, HB2.out.output, HB2.out.size, HB2.out.block⟩)
            clear PV D0 HI
            go_quiet (fail)
            go_wp2_with fail
            go_roundw
            case rel => exact ⟨1, by go_num, NX.out _⟩
            case measure => simp [intOf]; omega
          · have P0 := (PV.out h0).below HB2.out hbw
            have D2 := D0.out.below HB2.out hbw
            generalize dAt db (k - 1) = z at *
            obtain ⟨⟨ztyp, zid, zlen, zrouter, zseq, zage, zsum, zborder, zboundary, zla, zln, zlc, zaa, zan, zac, zcost, zsecond, zfwd, ztag⟩, zlk, zatt⟩ := z
            obtain ⟨j, rfl⟩ : ∃ j, k = j + 1 := ⟨k - 1, by omega⟩
            rw [Nat.add_sub_cancel] at P0
            obtain ⟨⟨z0, z1, z2, z3, z4⟩, ⟨z5, z6, z7, z8, z9⟩, ⟨z10, z11, z12, z13, z14⟩⟩ := P0
            obtain ⟨⟨e0, e1, e2, e3, e4⟩, ⟨e5, e6, e7, e8, e9⟩, ⟨e10, e11, e12, e13, e14⟩⟩ := D2
            simp only at z0 z1 z2 z3 z4 z5 z6 e0 e1 e2 e3 e4 e5 e6
            have y0 : ∀ n os, (Go.Sort.grow (W2.drewN n) os).cell? ⟨b, off + j * 15, none⟩ = some (.int .i64 ztyp) := cell_grown (World.block_lt_of_cell? _ _ z0) z0
            have y1 : ∀ n os, (Go.Sort.grow (W2.drewN n) os).cell? ⟨b, off + j * 15 + 1, none⟩ = some (.int .u32 zid) := cell_grown (World.block_lt_of_cell? _ _ z1) z1
            have y2 : ∀ n os, (Go.Sort.grow (W2.drewN n) os).cell? ⟨b, off + j * 15 + 2, none⟩ = some (.int .i64 zlen) := cell_grown (World.block_lt_of_cell? _ _ z2) z2
            have y3 : ∀ n os, (Go.Sort.grow (W2.drewN n) os).cell? ⟨b, off + j * 15 + 3, none⟩ = some (.int .u32 zrouter) := cell_grown (World.block_lt_of_cell? _ _ z3) z3
            have y4 : ∀ n os, (Go.Sort.grow (W2.drewN n) os).cell? ⟨b, off + j * 15 + 4, none⟩ = some (.int .i64 zseq) := cell_grown (World.block_lt_of_cell? _ _ z4) z4
            have y5 : ∀ n os, (Go.Sort.grow (W2.drewN n) os).cell? ⟨b, off + j * 15 + 5, none⟩ = some (.int .i64 zage) := cell_grown (World.block_lt_of_cell? _ _ z5) z5
            have y6 : ∀ n os, (Go.Sort.grow (W2.drewN n) os).cell? ⟨b, off + j * 15 + 6, none⟩ = some (.int .i64 zsum) := cell_grown (World.block_lt_of_cell? _ _ z6) z6
            have x0 : ∀ n os, (Go.Sort.grow (W2.drewN n) os).cell? ⟨b, off + (j + 1) * 15, none⟩ = some (.int .i64 typ) := cell_grown (World.block_lt_of_cell? _ _ e0) e0
            have x1 : ∀ n os, (Go.Sort.grow (W2.drewN n) os).cell? ⟨b, off + (j + 1) * 15 + 1, none⟩ = some (.int .u32 id) := cell_grown (World.block_lt_of_cell? _ _ e1) e1
            have x2 : ∀ n os, (Go.Sort.grow (W2.drewN n) os).cell? ⟨b, off + (j + 1) * 15 + 2, none⟩ = some (.int .i64 len) := cell_grown (World.block_lt_of_cell? _ _ e2) e2
            have x3 : ∀ n os, (Go.Sort.grow (W2.drewN n) os).cell? ⟨b, off + (j + 1) * 15 + 3, none⟩ = some (.int .u32 router) := cell_grown (World.block_lt_of_cell? _ _ e3) e3
            have x4 : ∀ n os, (Go.Sort.grow (W2.drewN n) os).cell? ⟨b, off + (j + 1) * 15 + 4, none⟩ = some (.int .i64 seq) := cell_grown (World.block_lt_of_cell? _ _ e4) e4
            have x5 : ∀ n os, (Go.Sort.grow (W2.drewN n) os).cell? ⟨b, off + (j + 1) * 15 + 5, none⟩ = some (.int .i64 age) := cell_grown (World.block_lt_of_cell? _ _ e5) e5
            have x6 : ∀ n os, (Go.Sort.grow (W2.drewN n) os).cell? ⟨b, off + (j + 1) * 15 + 6, none⟩ = some (.int .i64 sum) := cell_grown (World.block_lt_of_cell? _ _ e6) e6
            have KC1 := Lib.hid (fun W => (key_calls ztyp zid zlen zrouter zseq zage zsum W).mono fun _ _ h => (⟨h.1, h.2.grow⟩ : _ ∧ ∃ q os, _ = Go.Sort.grow (World.drewN W q) os))
            have KC2 := Lib.hid (fun W => (key_calls typ id len router seq age sum W).mono fun _ _ h => (⟨h.1, h.2.grow⟩ : _ ∧ ∃ q os, _ = Go.Sort.grow (World.drewN W q) os))
            have CC := Lib.hid (fun W => (ckeys_calls ⟨ztyp, zid, zlen, zrouter⟩ ⟨typ, id, len, router⟩ W).mono fun _ _ h => (⟨h.1, h.2.grow⟩ : _ ∧ ∃ q os, _ = Go.Sort.grow (World.drewN W q) os))
            have KE : Hid (kkCmp (keyOf (⟨⟨ztyp, zid, zlen, zrouter, zseq, zage, zsum, zborder, zboundary, zla, zln, zlc, zaa, zan, zac, zcost, zsecond, zfwd, ztag⟩, zlk, zatt⟩ : LsaD).x) (keyOf (⟨⟨typ, id, len, router, seq, age, sum, border, boundary, la, ln, lc, aa, an, ac, cost, second, fwd, tag⟩, lk, att⟩ : LsaD).x) = kkCmp ⟨ztyp, zid, zlen, zrouter⟩ ⟨typ, id, len, router⟩) := Lib.hid rfl
            generalize kkCmp ⟨ztyp, zid, zlen, zrouter⟩ ⟨typ, id, len, router⟩ = r at *
            generalize hk1 : (keyE ⟨ztyp, zid, zlen, zrouter⟩).toArray = K1 at *
            generalize hk2 : (keyE ⟨typ, id, len, router⟩).toArray = K2 at *
            have j0 : (0 : Int) ≤ (j : Int) := by omega
            have j1 : (j : Int) < (db.length : Int) := by omega
            have s1 : IntKind.i64.wrap (((j + 1 : Nat) : Int) - 1) = (j : Int) := by rw [IntWalk.i64_in _ (by omega)]; omega
            have s2 : ((j : Int)).toNat = j := by omega
            have SU : Hid (∀ n os, Below wr.heap.size wr (Go.Sort.grow (W2.drewN n) os)) := Lib.hid (fun n os => HB2.out.trans ((Gr.of_grow n os).b.mono HB2.out.size))
            clear hk1 hk2 PV D0 HI z0 z1 z2 z3 z4 z5 z6 z7 z8 z9 z10 z11 z12 z13 z14 e0 e1 e2 e3 e4 e5 e6 e7 e8 e9 e10 e11 e12 e13 e14
            by_cases hr : 0 ≤ r
            · have dr : decide (0 ≤ r) = true := by simpa using hr
              refine wp_region_quiet_grown (by assumption) (by kernel_rfl) ?_
              repeat (go_big_quiet_step (first | (go_at_call 79; first | with_reducible exact Calls.grown_of (KC1.out _) | with_reducible exact Calls.grown_of (KC2.out _)) | (go_at_call 83; with_reducible exact Calls.grown_of (CC.out _))))
              refine wpQuiet_nil ?_
              intro _ hw'
              obtain ⟨⟨nq, osq⟩, hw''⟩ := hw'
              subst hw''
              have EL := Lib.hid (STP.out 16 (by decide) _ (SU.out nq osq))
              clear y0 y1 y2 y3 y4 y5 y6 x0 x1 x2 x3 x4 x5 x6 s1 s2 s3
              go_wp2_with fail
              go_returns
              exact EL.out
            · have dr : decide (0 ≤ r) = false := by simpa using hr
              refine wp_region_quiet_grown (by assumption) (by kernel_rfl) ?_
              repeat (go_big_quiet_step (first | (go_at_call 79; first | with_reducible exact Calls.grown_of (KC1.out _) | with_reducible exact Calls.grown_of (KC2.out _)) | (go_at_call 83; with_reducible exact Calls.grown_of (CC.out _))))
              refine wpQuiet_nil ?_
              intro _ hw'
              obtain ⟨⟨nq, osq⟩, hw''⟩ := hw'
              subst hw''
              have EL := Lib.hid (NXT.out OK.out (fun _ => Int.lt_of_le_of_lt (Int.le_of_eq KE.out) (by omega)) _ (SU.out nq osq))
              clear y0 y1 y2 y3 y4 y5 y6 x0 x1 x2 x3 x4 x5 x6 s1 s2 s3
              go_wp2_with fail
              go_roundw
              case rel => exact ⟨j + 1 + 1, by go_num, EL.out⟩
              case measure => simp [intOf]; omega
      · have d1 : (c == 0) = false := by simpa using hc0
        have d2 : (c != 0) = true := by simpa using hc0
        have EL := Lib.hid (STP.out c hc0 w1 G1.b)
        clear hc0 hI G1
        go_wp2_with fail
        go_returns
        exact EL.out
    · have R1 := R.ok
      have E : Hid (RowPost w db (.returned (.int .i64 0)) wr) := Lib.hid ⟨0, rfl, R.bel, fun _ i hi => R1 i (by omega)⟩
      clear R R1
      go_wp2_with fail
      go_ret
      exact E.out

theorem dbcheck_calls (w : World) (v : Value) (db : List LsaD) (h : DbAt w v db) : Calls Tryz.prog 14 #[v] w (ChkDb w db) := by
  have RC := Lib.hid (rows_calls w v db h)
  obtain ⟨ad, cap, e0, hlen, -⟩ := h.1.get
  simp only [List.length_map] at e0 hlen
  subst e0
  clear h
  by_cases h2 : 2000 < db.length
  · have E : Hid (ChkDb w db (.returned (.int .i64 4)) w) := Lib.hid ⟨4, rfl, Below.refl _ _, fun h => by cases h⟩
    go_enter Tryz.func14, Tryz.ntmps14
    go_wp2_with fail
    go_ret
    exact E.out
  · have h3 : db.length ≤ 2000 := by omega
    clear h2
    go_enter Tryz.func14, Tryz.ntmps14
    go_wp2_with fail
    refine RC.out.mono ?_
    rintro e w1 ⟨c, rfl, B, K⟩
    have E : Hid (ChkDb w db (.returned (.int .i64 c)) w1) := Lib.hid ⟨c, rfl, B, fun e => ⟨h3, K e⟩⟩
    clear B K
    go_wp2_with fail
    go_ret
    exact E.out

end Go.Proofs.YtogdconliofblaaGreat
