import Derived.Test.YtddageahmgaigaaGreatPln
import Derived.Test.YtddageahmgaigaaGreatLiv
namespace Go.Proofs.YtddageahmgaigaaGreat
open Go.RowKit

theorem i64_wf {n : Int} (h0 : -9223372036854775808 ≤ n) (h1 : n ≤ 9223372036854775807) : (Lit.int .i64 n).wf = true := by
  have m0 : IntKind.i64.min = -9223372036854775808 := by decide
  have m1 : IntKind.i64.max = 9223372036854775807 := by decide
  simp [Lit.wf, m0, m1]
  omega
theorem w32_wf {n : Int} (h0 : 0 ≤ n) (h1 : n < 4294967296) : (Lit.int .u32 n).wf = true := by
  have m0 : IntKind.u32.min = 0 := by decide
  have m1 : IntKind.u32.max = 4294967295 := by decide
  simp [Lit.wf, m0, m1]
  omega
theorem DbOk.keys {w : World} {v : Value} {db : List LsaD} (h : DbOk db) (hd : DbAt w v db) : ∀ d ∈ db, lkOk (keyD d) := by
  intro d hm
  have o := (h.at hm).ok
  have l := (hd.2 d hm).ok
  exact ⟨i64_wf (by show -9223372036854775808 ≤ d.x.typ; have := o.t0; omega) (by show d.x.typ ≤ 9223372036854775807; have := o.t1; omega), w32_wf l.id0 l.id1, i64_wf (by show -9223372036854775808 ≤ d.x.len; have := o.l0; omega) (by show d.x.len ≤ 9223372036854775807; have := o.l1; omega), w32_wf l.r0 l.r1⟩

structure PlHy (w : World) (v v2 : Value) (db wt : List LsaD) : Prop where
  hdb : DbAt w v db
  hl : ∀ d ∈ db, d.lk.length ≤ 1048576 ∧ d.att.length ≤ 1048576
  hwt : DbAt w v2 wt
  wl : ∀ d ∈ wt, d.lk.length ≤ 1048576 ∧ d.att.length ≤ 1048576
  wk : ∀ d ∈ wt, lkOk (keyD d)
  wn : wt.length ≤ 1048576

theorem nrm_atL {a b : LsaD} (h : nrm a = nrm b) : b.x = atL a.x b.x.la b.x.lc b.x.aa b.x.ac ∧ b.lk = a.lk ∧ b.att = a.att := by
  have h1 : atL a.x none 0 none 0 = atL b.x none 0 none 0 := congrArg (fun z : LsaD => z.x) h
  have h2 : a.lk = b.lk := (congrArg LsaD.lk h : (nrm a).lk = (nrm b).lk)
  have h3 : a.att = b.att := (congrArg LsaD.att h : (nrm a).att = (nrm b).att)
  refine ⟨?_, h2.symm, h3.symm⟩
  obtain ⟨⟨xtyp, xid, xlen, xrouter, xseq, xage, xsum, xborder, xboundary, xla, xln, xlc, xaa, xan, xac, xcost, xsecond, xfwd, xtag⟩, lk, att⟩ := a
  obtain ⟨⟨ytyp, yid, ylen, yrouter, yseq, yage, ysum, yborder, yboundary, yla, yln, ylc, yaa, yan, yac, ycost, ysecond, yfwd, ytag⟩, lk', att'⟩ := b
  simp only [atL, Lsa.mk.injEq] at h1 ⊢
  obtain ⟨h0, h1, h2, h3, h4, h5, h6, h7, h8, -, h10, -, -, h13, -, h15, h16, h17, h18⟩ := h1
  exact ⟨h0.symm, h1.symm, h2.symm, h3.symm, h4.symm, h5.symm, h6.symm, h7.symm, h8.symm, trivial, h10.symm, trivial, trivial, h13.symm, trivial, h15.symm, h16.symm, h17.symm, h18.symm⟩

theorem DbOk.one {db : List LsaD} (h : DbOk db) {a b : LsaD} (ha : a ∈ db) (hb : b ∈ db) (e : lkOf a.x = lkOf b.x) : a = b := by
  obtain ⟨i, hi, rfl⟩ := List.getElem_of_mem ha
  obtain ⟨j, hj, rfl⟩ := List.getElem_of_mem hb
  have p := List.pairwise_iff_getElem.1 (List.pairwise_map.1 h.nd)
  rcases Nat.lt_trichotomy i j with c | c | c
  · exact absurd e (p i j hi hj c)
  · subst c; rfl
  · exact absurd e.symm (p j i hj hi c)

end Go.Proofs.YtddageahmgaigaaGreat
