import Derived.Test.YtddageahmgaigaaGreatLnk
import Derived.Test.YtddageahmgaigaaGreatSmg
import Derived.Test.YtddageahmgaigaaGreatKys
import Derived.IntWalk
namespace Go.Proofs.YtddageahmgaigaaGreat
open Go.RowKit

structure LsaD where
  x : Lsa
  lk : List Lnk
  att : List Int
deriving Inhabited

structure DIn (w : World) (d : LsaD) : Prop where
  ok : OkL d.x
  lk : LnksAt w (.slice d.x.la d.x.ln d.x.lc) d.lk
  lr : ∀ y ∈ d.lk, 0 ≤ y.id ∧ y.id < 4294967296 ∧ 0 ≤ y.data ∧ y.data < 4294967296
  att : WordsAt w (.slice d.x.aa d.x.an d.x.ac) d.att
  ar : ∀ y ∈ d.att, 0 ≤ y ∧ y < 4294967296

theorem DIn.below {w w' : World} {d : LsaD} (h : DIn w d) (hb : Below w.heap.size w w') : DIn w' d := ⟨h.ok, h.lk.below hb, h.lr, h.att.below hb, h.ar⟩

def LsaOk (d : LsaD) : Prop := LsaIs d.x d.lk d.att 0

theorem AttIs.zero {l : List Int} {r : Int} (h : AttIs l r 0) : l.length ≤ 64 ∧ (∀ k, k < l.length → attBad l k = false) ∧ r ∈ l := by
  rcases h with ⟨_, h⟩ | ⟨h1, ⟨k, h2, h3, h4⟩ | ⟨h2, h3⟩⟩
  · cases h
  · cases h4
  · refine ⟨h1, h2, ?_⟩
    by_cases c : r ∈ l
    · exact c
    · rw [if_neg c] at h3; cases h3

theorem LnkIs.zero {l : List Lnk} {r : Int} (h : LnkIs l r 0) : l.length ≤ 64 ∧ ∀ k, k < l.length → lnkErr l r k = 0 := by
  rcases h with ⟨_, h⟩ | ⟨h1, ⟨h2, _⟩ | ⟨k, h2, h3, h4, h5⟩⟩
  · cases h
  · exact ⟨h1, h2⟩
  · exact absurd rfl h5

theorem withinB_iff {n lo hi : Int} : withinB n lo hi = true ↔ lo ≤ n ∧ n ≤ hi := by simp [withinB]

theorem lnkErr_ok {l : List Lnk} {r : Int} {k : Nat} (h : lnkErr l r k = 0) : withinB (lnkAt l k).kind 1 3 = true ∧ withinB (lnkAt l k).cost 1 65535 = true ∧ ¬((lnkAt l k).kind = 1 ∧ ((lnkAt l k).id = 0 ∨ (lnkAt l k).id = r)) ∧
    ¬((lnkAt l k).kind = 3 ∧ (32 < (lnkAt l k).data ∨ fitsB (lnkAt l k).id (lnkAt l k).data = false)) ∧ ¬(0 < k ∧ 0 ≤ lnkCmp (lnkAt l (k - 1)) (lnkAt l k)) := by
  unfold lnkErr at h
  split at h
  · cases h
  · split at h
    · cases h
    · split at h
      · cases h
      · split at h
        · cases h
        · split at h
          · cases h
          · rename_i a b c d e
            exact ⟨by simpa using a, by simpa using b, c, d, e⟩

theorem lnks_okK {l : List Lnk} {r : Int} (h : LnkIs l r 0) (hr : ∀ y ∈ l, 0 ≤ y.id ∧ y.id < 4294967296 ∧ 0 ≤ y.data ∧ y.data < 4294967296) : ∀ y ∈ l, OkK y := by
  intro y hy
  obtain ⟨k, hk, rfl⟩ := List.getElem_of_mem hy
  obtain ⟨h1, h2, _⟩ := lnkErr_ok (h.zero.2 k hk)
  rw [lnkAt_eq hk] at h1 h2
  obtain ⟨a, b, c, d⟩ := hr _ hy
  rw [withinB_iff] at h1 h2
  exact ⟨by omega, by omega, a, b, c, d, by omega, by omega⟩

theorem headP_zero {t id len r seq age sum : Int} (h : headP t id len r seq age sum = 0) : 1 ≤ t ∧ t ≤ 5 ∧ r ≠ 0 ∧ 1 ≤ seq ∧ seq ≤ 2147483647 ∧ 0 ≤ age ∧ age ≤ 3600 ∧ 0 ≤ sum ∧ sum ≤ 65535 ∧ 0 ≤ len ∧ len ≤ 32 ∧ ((t = 1 ∨ t = 4) → len = 0) ∧ (t = 1 → id = r) ∧ ((t = 3 ∨ t = 5) → fitsB id len = true) ∧ ((t = 2 ∨ t = 4) → id ≠ 0) := by
  unfold headP at h
  split at h
  · cases h
  rename_i h1
  split at h
  · cases h
  rename_i h2
  split at h
  · cases h
  rename_i h3
  split at h
  · cases h
  rename_i h4
  split at h
  · cases h
  rename_i h5
  split at h
  · cases h
  rename_i h6
  have h1 : withinB t 1 5 = true := by simpa using h1
  simp only [not_or, Bool.not_eq_false] at h2 h3
  obtain ⟨r0, s0, a0, u0⟩ := h2
  rw [withinB_iff] at h1 s0 a0 u0
  have hl : 0 ≤ len ∧ len ≤ 32 := by
    by_cases c : t = 1 ∨ t = 4
    · have := h3.1; simp only [c, true_and, ne_eq, Decidable.not_not] at this; omega
    · cases hw : withinB len 0 32 with
      | true => exact withinB_iff.1 hw
      | false => exact absurd (by simp only [hw, and_true]; omega) h3.2
  refine ⟨h1.1, h1.2, r0, s0.1, s0.2, a0.1, a0.2, u0.1, u0.2, hl.1, hl.2, fun c => ?_, fun c => ?_, fun c => ?_, fun c => ?_⟩
  · have := h3.1; simp only [c, true_and, ne_eq, Decidable.not_not] at this; exact this
  · have := h4; simp only [c, true_and, ne_eq, Decidable.not_not] at this; exact this
  · have := h5; simp only [c, true_and, Bool.not_eq_false] at this; exact this
  · have := h6; simp only [c, true_and] at this; exact this

theorem unusedP_true {x : Lsa} (h : unusedP x = true) : (x.typ ≠ 1 → x.border = false ∧ x.boundary = false ∧ x.ln = 0) ∧ (x.typ ≠ 2 → x.an = 0) ∧ (x.typ < 3 → x.cost = 0) ∧ (x.typ ≠ 5 → x.second = false ∧ x.fwd = 0 ∧ x.tag = 0) := by
  unfold unusedP at h
  simp only [Bool.and_eq_true, Bool.or_eq_true, Bool.not_eq_true', Bool.and_eq_false_imp, decide_eq_true_eq, Bool.or_eq_false_iff, decide_eq_false_iff_not, Bool.not_eq_false'] at h
  obtain ⟨⟨⟨h1, h2⟩, h3⟩, h4⟩ := h
  refine ⟨fun c => ?_, fun c => ?_, fun c => ?_, fun c => ?_⟩
  · obtain ⟨⟨a, b⟩, d⟩ := h1 c; exact ⟨a, b, by omega⟩
  · have := h2 c; omega
  · exact h3 c
  · rcases h4 with h4 | h4
    · exact absurd h4 c
    · exact ⟨h4.1.1, h4.1.2, h4.2⟩

structure OkD (d : LsaD) : Prop where
  t0 : 1 ≤ d.x.typ
  t1 : d.x.typ ≤ 5
  r0 : d.x.router ≠ 0
  s0 : 1 ≤ d.x.seq
  s1 : d.x.seq ≤ 2147483647
  a0 : 0 ≤ d.x.age
  a1 : d.x.age ≤ 3600
  u0 : 0 ≤ d.x.sum
  u1 : d.x.sum ≤ 65535
  l0 : 0 ≤ d.x.len
  l1 : d.x.len ≤ 32
  l14 : (d.x.typ = 1 ∨ d.x.typ = 4) → d.x.len = 0
  i1 : d.x.typ = 1 → d.x.id = d.x.router
  fit : (d.x.typ = 3 ∨ d.x.typ = 5) → fitsB d.x.id d.x.len = true
  i24 : (d.x.typ = 2 ∨ d.x.typ = 4) → d.x.id ≠ 0
  n1 : d.x.typ ≠ 1 → d.x.border = false ∧ d.x.boundary = false ∧ d.x.ln = 0
  n2 : d.x.typ ≠ 2 → d.x.an = 0
  n3 : d.x.typ < 3 → d.x.cost = 0
  n5 : d.x.typ ≠ 5 → d.x.second = false ∧ d.x.fwd = 0 ∧ d.x.tag = 0
  c0 : 0 ≤ d.x.cost
  c1 : d.x.cost ≤ 16777216
  g0 : 0 ≤ d.x.tag
  g1 : d.x.tag ≤ 4294967295
  k1 : d.x.typ = 1 → LnkIs d.lk d.x.router 0
  k2 : d.x.typ = 2 → AttIs d.att d.x.router 0

theorem LsaOk.ok {d : LsaD} (h : LsaOk d) : OkD d := by
  rcases h with ⟨h1, h2⟩ | ⟨_, _, h⟩ | ⟨h1, h2, h3⟩
  · exact absurd h2.symm h1
  · cases h
  · obtain ⟨t0, t1, r0, s0, s1, a0, a1, u0, u1, l0, l1, l14, i1, fit, i24⟩ := headP_zero h1
    obtain ⟨n1, n2, n3, n5⟩ := unusedP_true h2
    have cg : 0 ≤ d.x.cost ∧ d.x.cost ≤ 16777216 ∧ 0 ≤ d.x.tag ∧ d.x.tag ≤ 4294967295 := by
      by_cases c : d.x.typ < 3
      · have := n3 c; have := (n5 (by omega)).2.2; omega
      · rcases h3 with ⟨e, _⟩ | ⟨e, _⟩ | ⟨_, _, e⟩
        · omega
        · omega
        · split at e
          · cases e
          · rename_i h
            simp only [not_or, Bool.not_eq_false] at h
            obtain ⟨ha, hb⟩ := h
            rw [withinB_iff] at ha hb
            omega
    refine ⟨t0, t1, r0, s0, s1, a0, a1, u0, u1, l0, l1, l14, i1, fit, i24, n1, n2, n3, n5, cg.1, cg.2.1, cg.2.2.1, cg.2.2.2, fun e => ?_, fun e => ?_⟩
    · rcases h3 with ⟨_, h⟩ | ⟨e', _⟩ | ⟨e', _⟩
      · exact h
      · omega
      · exact absurd e e'
    · rcases h3 with ⟨e', _⟩ | ⟨_, h⟩ | ⟨_, e', _⟩
      · omega
      · exact h
      · exact absurd e e'

theorem OkD.oh {d : LsaD} (h : OkD d) : OkH d.x := ⟨by have := h.t0; omega, h.t1, h.l0, h.l1, by have := h.s0; omega, h.s1, h.a0, h.a1, h.u0, h.u1, h.c0, h.c1, h.g0, h.g1⟩

end Go.Proofs.YtddageahmgaigaaGreat

namespace Go.Proofs.YtddageahmgaigaaGreat
open Go.RowKit

def keyOf (x : Lsa) : Kk := ⟨x.typ, x.id, x.len, x.router⟩
def dAt (db : List LsaD) (k : Nat) : LsaD := db.getD k default
def DbOk (db : List LsaD) : Prop := ∀ i, i < db.length → LsaOk (dAt db i) ∧ (0 < i → kkCmp (keyOf (dAt db (i - 1)).x) (keyOf (dAt db i).x) < 0)
def RowPost (w : World) (db : List LsaD) (e : Ending) (w' : World) : Prop := ∃ c, e = .returned (.int .i64 c) ∧ Below w.heap.size w w' ∧ (c = 0 → DbOk db)

def ChkDb (w : World) (db : List LsaD) (e : Ending) (w' : World) : Prop := ∃ c, e = .returned (.int .i64 c) ∧ Below w.heap.size w w' ∧ (c = 0 → db.length ≤ 2000 ∧ DbOk db)

structure RowRel (w : World) (db : List LsaD) (k : Nat) (wr : World) : Prop where
  hk : k ≤ db.length
  ok : ∀ i, i < k → LsaOk (dAt db i) ∧ (0 < i → kkCmp (keyOf (dAt db (i - 1)).x) (keyOf (dAt db i).x) < 0)
  bel : Below w.heap.size w wr

theorem RowRel.step {w : World} {db : List LsaD} {k : Nat} {wr wr' : World} (R : RowRel w db k wr) (c : k < db.length) (h : LsaOk (dAt db k)) (h2 : 0 < k → kkCmp (keyOf (dAt db (k - 1)).x) (keyOf (dAt db k).x) < 0) (g : Below wr.heap.size wr wr') : RowRel w db (k + 1) wr' :=
  ⟨c, fun i hi => by rcases Nat.lt_or_ge i k with h' | h'; · exact R.ok i h'
                     · rw [show i = k from by omega]; exact ⟨h, h2⟩, R.bel.trans (g.mono R.bel.size)⟩
theorem RowRel.stop {w : World} {db : List LsaD} {k : Nat} {wr wr' : World} (R : RowRel w db k wr) {e : Int} (he : e ≠ 0) (g : Below wr.heap.size wr wr') : RowPost w db (.returned (.int .i64 e)) wr' :=
  ⟨e, rfl, R.bel.trans (g.mono R.bel.size), fun h => absurd h he⟩

def DbAt (w : World) (v : Value) (db : List LsaD) : Prop := LsasAt w v (db.map LsaD.x) ∧ ∀ d ∈ db, DIn w d
theorem DbAt.below {w w' : World} {v : Value} {db : List LsaD} (h : DbAt w v db) (hb : Below w.heap.size w w') : DbAt w' v db := ⟨h.1.below hb, fun d hd => (h.2 d hd).below hb⟩

end Go.Proofs.YtddageahmgaigaaGreat
