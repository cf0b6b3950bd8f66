/-
  routinglaw33.summary: a sealed summary.
-/
/-
  The document's examples of routes between areas, in plain words.
-/
/-
  routinglaw33.lives: the document's examples hold.
-/
import Derived.Test.YtogdconliofblaaGreatSel
import Derived.Test.YtogdconliofblaaGreatRty
import Derived.Test.YtogdconliofblaaGreatSmx
import Derived.Deep.DeepCutAuto
namespace Go.Proofs.YtogdconliofblaaGreat
open Go.RowKit

def smL (router cost : Int) : Lsa := ⟨3, 167903232, 16, router, 1, 0, 0, false, false, none, 0, 0, none, 0, 0, cost, false, 0, 0⟩
/-- sealed -/
def smS (router cost : Int) (s : Int) (la : Option Addr) (lc : Nat) (aa : Option Addr) (ac : Nat) : Lsa := { smL router cost with sum := s, la := la, ln := 0, lc := lc, aa := aa, an := 0, ac := ac }
theorem smL_none (router cost : Int) (w : World) : NoLists w (smL router cost) := ⟨⟨none, 0, rfl, Nat.le_refl _, (by unfold maxLen; omega), fun _ => rfl, fun h => by cases h⟩, ⟨none, 0, rfl, Nat.le_refl _, (by unfold maxLen; omega), fun _ => rfl, fun h => by cases h⟩⟩

def SmPost (w : World) (router cost : Int) (e : Ending) (w' : World) : Prop := ∃ s la lc aa ac, e = .returned (.agg (lsaE (smS router cost s la lc aa ac)).toArray) ∧ Below w.heap.size w w'

set_option maxHeartbeats 4000000 in
set_option maxRecDepth 100000 in
theorem summary_calls (router cost : Int) (ok : OkL (smL router cost)) (oh : OkH (smL router cost)) (hc : chkP (smL router cost) = 0) (w : World) :
    Calls Tryz.prog 32 #[.int .u32 router, .int .i64 cost] w (SmPost w router cost) := by
  have S1 := Lib.hid (fun W => seal_calls (smL router cost) ok oh (.inl rfl) hc W (smL_none _ _ W))
  clear ok oh hc
  simp only [smL, lsaE] at S1
  obtain ⟨W0, hW0⟩ : ∃ W0, w.alloc (.cells #[.int .i64 0, .int .u32 0, .int .i64 0, .int .u32 0, .int .i64 0, .int .i64 0, .int .i64 0, .bool false, .bool false, .slice none 0 0, .slice none 0 0, .int .i64 0, .bool false, .int .u32 0, .int .i64 0] 47) = W0 := ⟨_, rfl⟩
  have bz : W0.heap[w.heap.size]? = some (.cells #[.int .i64 0, .int .u32 0, .int .i64 0, .int .u32 0, .int .i64 0, .int .i64 0, .int .i64 0, .bool false, .bool false, .slice none 0 0, .slice none 0 0, .int .i64 0, .bool false, .int .u32 0, .int .i64 0] 47 (0, 0)) := by rw [← hW0]; exact alloc_new w _
  have B0 : Below w.heap.size w W0 := by rw [← hW0]; exact (Below.refl _ _).alloc (Nat.le_refl _) _
  have HB0 := Lib.hid B0
  have HBZ := Lib.hid bz
  have HW0 := Lib.hid hW0
  clear hW0 bz B0
  go_enter Tryz.func32, Tryz.ntmps32
  go_upto_region 1 with fail
  rw [HW0.out]
  go_wp2_with fail
  refine (S1.out _).mono ?_
  rintro e w1 ⟨s1, la, lc, aa, ac, rfl, B1⟩
  simp only [lsaE]
  obtain ⟨W1, hW1⟩ : ∃ W1, w1.alloc (.cells #[.int .i64 3, .int .u32 167903232, .int .i64 16, .int .u32 router, .int .i64 1, .int .i64 0, .int .i64 s1, .bool false, .bool false, .slice la 0 lc, .slice aa 0 ac, .int .i64 cost, .bool false, .int .u32 0, .int .i64 0] 47) = W1 := ⟨_, rfl⟩
  have b1 : W1.heap[w1.heap.size]? = some (.cells #[.int .i64 3, .int .u32 167903232, .int .i64 16, .int .u32 router, .int .i64 1, .int .i64 0, .int .i64 s1, .bool false, .bool false, .slice la 0 lc, .slice aa 0 ac, .int .i64 cost, .bool false, .int .u32 0, .int .i64 0] 47 (0, 0)) := by rw [← hW1]; exact alloc_new _ _
  have B11 : Below w1.heap.size w1 W1 := by rw [← hW1]; exact (Below.refl _ _).alloc (Nat.le_refl _) _
  have HB1 := Lib.hid (HB0.out.trans (((B1.trans (B11.mono B1.size))).mono HB0.out.size))
  have bz1 := (B11.block _ (blk_lt ((B1.block _ (blk_lt HBZ.out)).trans HBZ.out))).trans ((B1.block _ (blk_lt HBZ.out)).trans HBZ.out)
  have HZ1 := Lib.hid bz1
  obtain ⟨⟨⟨e0, e1, e2, e3, e4⟩, ⟨e5, e6, e7, e8, e9⟩, ⟨e10, e11, e12, e13, e14⟩⟩, -⟩ := blk15 b1
  obtain ⟨W', hW'⟩ : ∃ W', setLsa W1 w.heap.size ⟨3, 167903232, 16, router, 1, 0, s1, false, false, la, 0, lc, aa, 0, ac, cost, false, 0, 0⟩ = W' := ⟨_, rfl⟩
  have bk' : W'.heap[w.heap.size]? = some (.cells #[.int .i64 3, .int .u32 167903232, .int .i64 16, .int .u32 router, .int .i64 1, .int .i64 0, .int .i64 s1, .bool false, .bool false, .slice la 0 lc, .slice aa 0 ac, .int .i64 cost, .bool false, .int .u32 0, .int .i64 0] 47 (0, 0)) := by rw [← hW']; exact setLsa_blk HZ1.out _
  have BW' : Below w.heap.size w W' := by rw [← hW']; exact setLsa_below HB1.out (Nat.le_refl _) _
  have FIN : Hid (SmPost w router cost (.returned (.agg #[.int .i64 3, .int .u32 167903232, .int .i64 16, .int .u32 router, .int .i64 1, .int .i64 0, .int .i64 s1, .bool false, .bool false, .slice la 0 lc, .slice aa 0 ac, .int .i64 cost, .bool false, .int .u32 0, .int .i64 0])) W') := Lib.hid ⟨s1, la, lc, aa, ac, rfl, BW'⟩
  unfold setLsa at hW'
  simp only at hW'
  have HW' := Lib.hid hW'
  obtain ⟨⟨⟨z0, z1, z2, z3, z4⟩, ⟨z5, z6, z7, z8, z9⟩, ⟨z10, z11, z12, z13, z14⟩⟩, hfz⟩ := blk15 HZ1.out
  have zf0 := hfz 0
  have zf1 := hfz 1
  have zf2 := hfz 2
  have zf3 := hfz 3
  have zf4 := hfz 4
  have zf5 := hfz 5
  have zf6 := hfz 6
  have zf7 := hfz 7
  have zf8 := hfz 8
  have zf9 := hfz 9
  have zf10 := hfz 10
  have zf11 := hfz 11
  have zf12 := hfz 12
  have zf13 := hfz 13
  have zf14 := hfz 14
  obtain ⟨⟨⟨g0, g1, g2, g3, g4⟩, ⟨g5, g6, g7, g8, g9⟩, ⟨g10, g11, g12, g13, g14⟩⟩, -⟩ := blk15 bk'
  have G := Lib.hid (And.intro g0 (And.intro g1 (And.intro g2 (And.intro g3 (And.intro g4 (And.intro g5 (And.intro g6 (And.intro g7 (And.intro g8 (And.intro g9 (And.intro g10 (And.intro g11 (And.intro g12 (And.intro g13 g14))))))))))))))
  have HW1 := Lib.hid hW1
  have ne1 : ¬ w1.heap.size = w.heap.size := by have := B1.size; have := blk_lt HBZ.out; omega
  clear hW' bk' BW' hfz g0 g1 g2 g3 g4 g5 g6 g7 g8 g9 g10 g11 g12 g13 g14 S1 B1 B11 b1 bz1 hW1
  go_upto_region 2 with fail
  rw [HW1.out]
  go_wp2_with fail
  rw [HW'.out]
  obtain ⟨g0, g1, g2, g3, g4, g5, g6, g7, g8, g9, g10, g11, g12, g13, g14⟩ := G.out
  exact bodyPost_ret (v := .agg #[.int .i64 3, .int .u32 167903232, .int .i64 16, .int .u32 router, .int .i64 1, .int .i64 0, .int .i64 s1, .bool false, .bool false, .slice la 0 lc, .slice aa 0 ac, .int .i64 cost, .bool false, .int .u32 0, .int .i64 0]) (by simp [results, Tryz.results32, go_sem, g0, g1, g2, g3, g4, g5, g6, g7, g8, g9, g10, g11, g12, g13, g14]) rfl FIN.out

end Go.Proofs.YtogdconliofblaaGreat

namespace Go.Proofs.YtogdconliofblaaGreat
open Go.RowKit

theorem one_of_mem {α : Type} {R : α → α → Prop} {L : List α} {a : α} (irr : ¬ R a a) (h : L.Pairwise R) (m : ∀ x, x ∈ L ↔ x = a) : L = [a] := by
  match L, h, m with
  | [], _, m => exact absurd ((m a).2 rfl) (by simp)
  | [x], _, m => rw [(m x).1 (by simp)]
  | x :: y :: L, h, m =>
    have h1 := (m x).1 (by simp)
    have h2 := (m y).1 (by simp)
    have := (List.pairwise_cons.1 h).1 y (by simp)
    rw [h1, h2] at this
    exact absurd this irr

/-- two rows side by side -/
theorem sl_two {w : World} {a b : List Value} {n : Nat} {t : TypeId} (ha : a.length = n) : SlV n (w.alloc (.cells (a ++ b).toArray t)) (.slice (some ⟨w.heap.size, 0, none⟩) 2 2) [a, b] := by
  have hk := alloc_new w (.cells (a ++ b).toArray t)
  refine ⟨_, 2, rfl, Nat.le_refl _, by unfold maxLen; simp, (fun h => by cases h), fun _ => ⟨_, 0, rfl, blk_lt hk, fun i hi j u hu => ?_⟩⟩
  have : i = 0 ∨ i = 1 := by simp at hi; omega
  rcases this with rfl | rfl
  · have hj : j < a.length := by
      rw [List.getElem_cons_zero] at hu
      exact (List.getElem?_eq_some_iff.1 hu).1
    refine blk_cell hk ?_
    rw [List.getElem_cons_zero] at hu
    simp only [Nat.zero_mul, Nat.zero_add, List.getElem?_toArray]
    rw [List.getElem?_append_left hj]; exact hu
  · refine blk_cell hk ?_
    simp only [List.getElem_cons_succ, List.getElem_cons_zero] at hu
    simp only [Nat.one_mul, Nat.zero_add, List.getElem?_toArray]
    rw [List.getElem?_append_right (by omega), ha, Nat.add_sub_cancel_left]; exact hu

def exP : Ls.Pfx := ⟨167903232, 16⟩
def exW (b c : Nat) : List Rch := [⟨2, 0, false, true, false, 10, some ⟨b, 0, none⟩, 1, 1, [⟨1, 0, 0⟩]⟩, ⟨3, 0, false, true, false, 5, some ⟨c, 0, none⟩, 1, 1, [⟨2, 0, 0⟩]⟩]

theorem smL_ok : OkL (smL 2 7) ∧ OkL (smL 3 20) := ⟨by constructor <;> decide, by constructor <;> decide⟩
theorem smL_oh : OkH (smL 2 7) ∧ OkH (smL 3 20) := ⟨by constructor <;> decide, by constructor <;> decide⟩
theorem smL_chk : chkP (smL 2 7) = 0 ∧ chkP (smL 3 20) = 0 := ⟨by decide, by decide⟩

theorem ex_ofK (b c : Nat) (s : Int) (la : Option Addr) (lc : Nat) (aa : Option Addr) (ac : Nat) (s' : Int) (la' : Option Addr) (lc' : Nat) (aa' : Option Addr) (ac' : Nat) :
    ofK 0 1 (exW b c) [smS 2 7 s la lc aa ac, smS 3 20 s' la' lc' aa' ac'] 2 = upd (fun _ => none) exP ⟨17, [⟨1, 0, 0⟩]⟩ := by
  unfold ofK
  rw [List.take_of_length_le (by simp), List.foldl_cons, List.foldl_cons, List.foldl_nil]
  have w1 : wayF 0 2 (exW b c) = some ⟨2, 0, false, true, false, 10, some ⟨b, 0, none⟩, 1, 1, [⟨1, 0, 0⟩]⟩ := by rfl
  have w2 : wayF 0 3 (exW b c) = some ⟨3, 0, false, true, false, 5, some ⟨c, 0, none⟩, 1, 1, [⟨2, 0, 0⟩]⟩ := by rfl
  have k1 : keepI 167903232 16 = 167903232 := by decide
  have m1 : Ls.merge Ls.hopLt [(⟨1, 0, 0⟩ : Ls.Hop)] [] = [⟨1, 0, 0⟩] := by decide
  have m2 : Ls.merge Ls.hopLt [(⟨2, 0, 0⟩ : Ls.Hop)] [] = [⟨2, 0, 0⟩] := by decide
  have e1 : ofStep 0 1 (exW b c) (fun _ => none) (smS 2 7 s la lc aa ac) = upd (fun _ => none) exP ⟨17, [⟨1, 0, 0⟩]⟩ := by
    unfold ofStep
    rw [if_pos (by rfl : inK 3 1 (smS 2 7 s la lc aa ac) = true), show (smS 2 7 s la lc aa ac).router = 2 from rfl, w1]
    show tbAdd _ (⟨keepI 167903232 16, 16⟩ : Ls.Pfx) (⟨10 + 7, Ls.merge Ls.hopLt [(⟨1, 0, 0⟩ : Ls.Hop)] []⟩ : Of) = _
    rw [k1, m1]
    exact tbAdd_new (by decide) rfl
  rw [e1]
  have e2 : ofStep 0 1 (exW b c) (upd (fun _ => none) exP ⟨17, [⟨1, 0, 0⟩]⟩) (smS 3 20 s' la' lc' aa' ac') = tbAdd (upd (fun _ => none) exP ⟨17, [⟨1, 0, 0⟩]⟩) exP ⟨25, [⟨2, 0, 0⟩]⟩ := by
    unfold ofStep
    rw [if_pos (by rfl : inK 3 1 (smS 3 20 s' la' lc' aa' ac') = true), show (smS 3 20 s' la' lc' aa' ac').router = 3 from rfl, w2]
    show tbAdd _ (⟨keepI 167903232 16, 16⟩ : Ls.Pfx) (⟨5 + 20, Ls.merge Ls.hopLt [(⟨2, 0, 0⟩ : Ls.Hop)] []⟩ : Of) = _
    rw [k1, m2]; rfl
  rw [e2]
  exact tbAdd_gt (old := ⟨17, [⟨1, 0, 0⟩]⟩) (by decide) (by simp [upd]) (by decide)

def exA : Arg := ⟨1, ⟨167837696, 16⟩, true⟩
def exRt1 : RtH := ⟨⟨⟨167837952, 24⟩, 3, 1, 3, false, 0, 0, none, 0, 0⟩, []⟩
def exRt2 : RtH := ⟨⟨⟨167838208, 24⟩, 3, 1, 8, false, 0, 0, none, 0, 0⟩, []⟩

theorem ex_sumK : sumK [exA] 0 [exRt1, exRt2] 2 = (fun _ => none, upd (upd (fun _ => none) 0 3) 0 8) := by
  unfold sumK
  rw [show ((([exRt1, exRt2] : List RtH).map RtH.rt).take 2) = [exRt1.rt, exRt2.rt] from rfl, List.foldl_cons, List.foldl_cons, List.foldl_nil]
  have t1 : takB [exA] exA exRt1.rt = true := by decide
  have t2 : takB [exA] exA exRt2.rt = true := by decide
  have u1 : useB 0 exRt1.rt = true := by decide
  have u2 : useB 0 exRt2.rt = true := by decide
  have k1 : rngK [exA] exRt1.rt (fun _ => none) 1 = (true, upd (fun _ => none) 0 3) := by
    unfold rngK
    rw [if_pos (show takB [exA] (argAt [exA] 0) exRt1.rt = true from t1)]
    rfl
  have k2 : rngK [exA] exRt2.rt (upd (fun _ => none) 0 3) 1 = (true, upd (upd (fun _ => none) 0 3) 0 8) := by
    unfold rngK
    rw [if_pos (show takB [exA] (argAt [exA] 0) exRt2.rt = true from t2)]
    have : maxF (rngK [exA] exRt2.rt (upd (fun _ => none) 0 3) 0).2 ((0 : Nat) : Int) exRt2.rt.cost = upd (upd (fun _ => none) 0 3) 0 8 := maxF_lt (old := 3) (by rfl) (by decide)
    rw [this]
  have s1 : sumOne [exA] 0 (fun _ => none, fun _ => none) exRt1.rt = (fun _ => none, upd (fun _ => none) 0 3) := by
    unfold sumOne
    rw [if_pos u1, show ([exA] : List Arg).length = 1 from rfl, k1]
    rfl
  have s2 : sumOne [exA] 0 (fun _ => none, upd (fun _ => none) 0 3) exRt2.rt = (fun _ => none, upd (upd (fun _ => none) 0 3) 0 8) := by
    unfold sumOne
    rw [if_pos u2, show ([exA] : List Arg).length = 1 from rfl, k2]
    rfl
  rw [s1, s2]

theorem ex_sumS : MinF (SumS [exA] 0 [exRt1, exRt2]) (upd (fun _ => none) exA.pfx 8) := by
  refine (MinF.self _).congr fun p c => ?_
  unfold SumS
  rw [show ([exRt1, exRt2] : List RtH).length = 2 from rfl, ex_sumK]
  simp only
  constructor
  · intro h
    unfold upd at h
    split at h
    · rename_i e
      refine .inr ⟨0, by decide, rfl, by decide, e.symm, ?_⟩
      cases h; rfl
    · cases h
  · rintro (h | ⟨i, hi, _, _, hp, hc⟩)
    · cases h
    · have : i = 0 := by simpa using hi
      subst this
      have hp : exA.pfx = p := hp
      subst hp
      have : (8 : Int) = c := by simpa [upd] using hc
      subst this
      simp [upd]

theorem ex_bnd : bndK 1 0 [] 0 = fun _ => none := rfl

theorem ex_sum {C : Cfg} (hC : C.router = 1) {L : List Lsa} (h : SuIs C [exA] 0 [exRt1, exRt2] [] L) : L = [sumL 1 exA.pfx 8] := by
  obtain ⟨asc, g, hg, hm⟩ := h
  obtain rfl := hg.one ex_sumS
  refine one_of_mem (R := fun a b => kkCmp (lkOf a) (lkOf b) < 0) (by rw [kk_neg]; omega) asc fun x => ?_
  rw [hm, hC]
  constructor
  · rintro (⟨p, c, _, h, rfl⟩ | ⟨r, c, _, h, rfl⟩)
    · unfold upd at h
      split at h
      · rename_i e; subst e; cases h; rfl
      · cases h
    · cases h
  · rintro rfl
    exact .inl ⟨_, _, ⟨by decide, by decide⟩, by simp [upd], rfl⟩

theorem ex_rts {area : Int} {g : Ls.Pfx → Option Of} {l : List RtH} {p : Ls.Pfx} {o : Of} (hg : g = upd (fun _ => none) p o) (hp : pfxOk p) (asc : (l.map RtH.pure).Pairwise fun a b => Ls.pfxLt a.pfx b.pfx = true) (hm : ∀ r, r ∈ l.map RtH.pure ↔ pfxOk r.pfx ∧ ∃ o, g r.pfx = some o ∧ r = orP area r.pfx o) : ∃ x, l = [x] ∧ x.pure = orP area p o := by
  have : l.map RtH.pure = [orP area p o] := by
    refine one_of_mem (R := fun a b : Rp => Ls.pfxLt a.pfx b.pfx = true) (by rw [Ls.pfxLin.irr]; simp) asc fun r => ?_
    rw [hm]
    subst hg
    constructor
    · rintro ⟨_, o', h, e⟩
      unfold upd at h
      split at h
      · rename_i e2; cases h; rw [e2] at e; exact e
      · cases h
    · rintro rfl
      exact ⟨hp, o, by simp [upd, orP], rfl⟩
  clear asc hm hg hp
  match l, this with
  | [], h => cases h
  | [x], h => exact ⟨x, rfl, by simpa using h⟩
  | _ :: _ :: _, h => simp at h

theorem ex_one {w : World} {area : Int} {g : Ls.Pfx → Option Of} {e : Ending} {w' : World} {p : Ls.Pfx} {o : Of} (h : OrPost w area g e w') (hg : g = upd (fun _ => none) p o) (hp : pfxOk p) :
    ∃ (b off cap : Nat) (x : RtH), e = .returned (.slice (some ⟨b, off, none⟩) 1 cap) ∧ b < w'.heap.size ∧ RtCells w' b off x.rt ∧ HopsAt w' x.rt.hv x.hops ∧ x.pure = orP area p o ∧ Below w.heap.size w w' := by
  obtain ⟨v, l, rfl, hR, hb, asc, hm⟩ := h
  obtain ⟨x, rfl, hx⟩ := ex_rts hg hp asc hm
  have hh := hR.hops x (by simp)
  obtain ⟨a, cap, rfl, -, hc⟩ := hR.get
  obtain ⟨b, off, rfl, hlt, hcc⟩ := hc (by simp)
  have := hcc 0 (by simp)
  rw [Nat.zero_mul, Nat.add_zero] at this
  exact ⟨b, off, cap, x, rfl, hlt, this, hh, hx, hb⟩

theorem ex_two {w : World} {C : Cfg} (hC : C.router = 1) {e : Ending} {w' : World} (h : SuPost w C [exA] 0 [exRt1, exRt2] [] e w') :
    ∃ (b off cap : Nat), e = .returned (.slice (some ⟨b, off, none⟩) 1 cap) ∧ b < w'.heap.size ∧ LsaCells w' b off (sumL 1 exA.pfx 8) ∧ Below w.heap.size w w' := by
  obtain ⟨v, L, rfl, hR, hs, hb⟩ := h
  obtain rfl := ex_sum hC hs
  obtain ⟨a, cap, rfl, -, hc⟩ := hR.get
  obtain ⟨b, off, rfl, hlt, hcc⟩ := hc (by simp)
  have := hcc 0 (by simp)
  rw [Nat.zero_mul, Nat.add_zero] at this
  exact ⟨b, off, cap, rfl, hlt, this, hb⟩

end Go.Proofs.YtogdconliofblaaGreat

namespace Go.Proofs.YtogdconliofblaaGreat
open Go.RowKit

theorem reachNil (w : World) : ReachAt w (.slice none 0 0) [] := ⟨⟨none, 0, rfl, Nat.le_refl _, (by unfold maxLen; omega), fun _ => rfl, fun h => by cases h⟩, fun x hx => by cases hx⟩
theorem hopsNone (w : World) : HopsAt w (.slice none 0 0) [] := ⟨none, 0, rfl, Nat.le_refl _, (by unfold maxLen; omega), fun _ => rfl, fun h => by cases h⟩
def LivPost (w : World) (e : Ending) (w' : World) : Prop := e = .returned (.bool true) ∧ Below w.heap.size w w'

theorem ex_okl {s : Int} {la : Option Addr} {lc : Nat} {aa : Option Addr} {ac : Nat} {s' : Int} {la' : Option Addr} {lc' : Nat} {aa' : Option Addr} {ac' : Nat} : ∀ x ∈ [smS 2 7 s la lc aa ac, smS 3 20 s' la' lc' aa' ac'], OkL x ∧ (0 ≤ x.len ∧ x.len ≤ 32) ∧ 0 ≤ x.cost ∧ x.cost ≤ 16777216 := by
  intro x hx
  simp only [List.mem_cons, List.not_mem_nil, or_false] at hx
  rcases hx with rfl | rfl
  · have h := smL_ok.1
    exact ⟨⟨h.id0, h.id1, h.r0, h.r1, h.f0, h.f1⟩, ⟨(by decide : (0 : Int) ≤ 16), (by decide : (16 : Int) ≤ 32)⟩, (by decide : (0 : Int) ≤ 7), (by decide : (7 : Int) ≤ 16777216)⟩
  · have h := smL_ok.2
    exact ⟨⟨h.id0, h.id1, h.r0, h.r1, h.f0, h.f1⟩, ⟨(by decide : (0 : Int) ≤ 16), (by decide : (16 : Int) ≤ 32)⟩, (by decide : (0 : Int) ≤ 20), (by decide : (20 : Int) ≤ 16777216)⟩
theorem ex_costs (b c : Nat) : ∀ y ∈ exW b c, costFine y.cost := by
  intro y hy
  simp only [exW, List.mem_cons, List.not_mem_nil, or_false] at hy
  rcases hy with rfl | rfl
  · exact ⟨(by decide : (0 : Int) ≤ 10), (by decide : (10 : Int) ≤ 1099511627776)⟩
  · exact ⟨(by decide : (0 : Int) ≤ 5), (by decide : (5 : Int) ≤ 1099511627776)⟩
theorem exRt_ok : ∀ y ∈ [exRt1, exRt2], OkP y.rt.pfx ∧ pfxOk y.rt.pfx := by
  intro y hy
  simp only [List.mem_cons, List.not_mem_nil, or_false] at hy
  rcases hy with rfl | rfl
  · exact ⟨⟨by decide, by decide⟩, ⟨by decide, by decide⟩⟩
  · exact ⟨⟨by decide, by decide⟩, ⟨by decide, by decide⟩⟩
theorem exA_ok : ∀ o ∈ [exA], OkP o.pfx ∧ pfxOk o.pfx := by
  intro y hy
  simp only [List.mem_cons, List.not_mem_nil, or_false] at hy
  subst hy
  exact ⟨⟨by decide, by decide⟩, ⟨by decide, by decide⟩⟩

theorem HopsAt.one {w : World} {a : Option Addr} {n c : Nat} {x : Ls.Hop} (h : HopsAt w (.slice a n c) [x]) : n = 1 ∧ ∃ b o, a = some ⟨b, o, none⟩ ∧ b < w.heap.size ∧ w.cell? ⟨b, o, none⟩ = some (.int .i64 x.iface) := by
  obtain ⟨a', cap, e, h1, h2, h3, h4⟩ := h
  simp only [Value.slice.injEq, List.map_cons, List.map_nil, List.length_cons, List.length_nil, Nat.zero_add] at e
  obtain ⟨rfl, rfl, rfl⟩ := e
  obtain ⟨b, o, rfl, hlt, hcc⟩ := h4 (by simp)
  refine ⟨rfl, b, o, rfl, hlt, ?_⟩
  have := hcc 0 (by simp) 0 (.int .i64 x.iface) rfl
  simpa using this

set_option maxHeartbeats 4000000 in
set_option maxRecDepth 100000 in
theorem lives_calls (w : World) : Calls Tryz.prog 10 #[] w (LivPost w) := by
  have S1 := Lib.hid (fun W => summary_calls 2 7 smL_ok.1 smL_oh.1 smL_chk.1 W)
  have S2 := Lib.hid (fun W => summary_calls 3 20 smL_ok.2 smL_oh.2 smL_chk.2 W)
  obtain ⟨WR, hWR⟩ : ∃ WR, ((w.alloc (.cells #[.int .i64 1, .int .u32 0, .int .u32 0] 60)).alloc (.cells #[.int .i64 2, .int .u32 0, .int .u32 0] 60)).alloc (.cells #[.int .u32 2, .int .u32 0, .bool false, .bool true, .bool false, .int .i64 10, .slice (some ⟨w.heap.size, 0, none⟩) 1 1, .int .u32 3, .int .u32 0, .bool false, .bool true, .bool false, .int .i64 5, .slice (some ⟨w.heap.size + 1, 0, none⟩) 1 1] 50) = WR := ⟨_, rfl⟩
  have BR : Below w.heap.size w WR := by rw [← hWR]; exact (((Below.refl _ _).alloc (Nat.le_refl _) _).alloc (by simp) _).alloc (by simp; omega) _
  have HR0 : ReachAt WR (.slice (some ⟨w.heap.size + 2, 0, none⟩) 2 2) (exW w.heap.size (w.heap.size + 1)) := by
    refine ⟨?_, fun x hx => ?_⟩
    · have e : w.heap.size + 2 = ((w.alloc (.cells #[.int .i64 1, .int .u32 0, .int .u32 0] 60)).alloc (.cells #[.int .i64 2, .int .u32 0, .int .u32 0] 60)).heap.size := by simp
      rw [e, ← hWR]
      exact sl_two (a := [.int .u32 2, .int .u32 0, .bool false, .bool true, .bool false, .int .i64 10, .slice (some ⟨w.heap.size, 0, none⟩) 1 1]) (b := [.int .u32 3, .int .u32 0, .bool false, .bool true, .bool false, .int .i64 5, .slice (some ⟨w.heap.size + 1, 0, none⟩) 1 1]) rfl
    · simp only [exW, List.mem_cons, List.not_mem_nil, or_false] at hx
      rw [← hWR]
      rcases hx with rfl | rfl
      · have h := sl_one (w := w) (vals := hopE ⟨1, 0, 0⟩) (t := 60)
        exact SlV.below h (((Below.refl _ _).alloc (Nat.le_refl _) _).alloc (by simp) _)
      · have h := sl_one (w := w.alloc (.cells #[.int .i64 1, .int .u32 0, .int .u32 0] 60)) (vals := hopE ⟨2, 0, 0⟩) (t := 60)
        have e : w.heap.size + 1 = (w.alloc (.cells #[.int .i64 1, .int .u32 0, .int .u32 0] 60)).heap.size := by simp
        simp only
        rw [e]
        exact SlV.below h ((Below.refl _ _).alloc (Nat.le_refl _) _)
  have HWR := Lib.hid hWR
  have HBR := Lib.hid BR
  have HRC := Lib.hid HR0
  clear hWR BR HR0
  go_enter Tryz.func10, Tryz.ntmps10
  go_upto_region 2 with fail
  rw [HWR.out]
  go_wp2_with fail
  refine (S1.out _).mono ?_
  rintro e w1 ⟨s1, la1, lc1, aa1, ac1, rfl, B1⟩
  have HB1 := Lib.hid B1
  clear B1 S1
  simp only [smS, smL, lsaE]
  go_wp2_with fail
  refine (S2.out _).mono ?_
  rintro e w2 ⟨s2, la2, lc2, aa2, ac2, rfl, B2⟩
  have HB2 := Lib.hid (HB1.out.trans (B2.mono HB1.out.size))
  clear B2 S2
  simp only [smS, smL, lsaE]
  obtain ⟨WD, hWD⟩ : ∃ WD, w2.alloc (.cells #[.int .i64 3, .int .u32 167903232, .int .i64 16, .int .u32 2, .int .i64 1, .int .i64 0, .int .i64 s1, .bool false, .bool false, .slice la1 0 lc1, .slice aa1 0 ac1, .int .i64 7, .bool false, .int .u32 0, .int .i64 0, .int .i64 3, .int .u32 167903232, .int .i64 16, .int .u32 3, .int .i64 1, .int .i64 0, .int .i64 s2, .bool false, .bool false, .slice la2 0 lc2, .slice aa2 0 ac2, .int .i64 20, .bool false, .int .u32 0, .int .i64 0] 47) = WD := ⟨_, rfl⟩
  have BD : Below w2.heap.size w2 WD := by rw [← hWD]; exact (Below.refl _ _).alloc (Nat.le_refl _) _
  have HD : LsasAt WD (.slice (some ⟨w2.heap.size, 0, none⟩) 2 2) [smS 2 7 s1 la1 lc1 aa1 ac1, smS 3 20 s2 la2 lc2 aa2 ac2] := by
    rw [← hWD]
    exact sl_two (a := [.int .i64 3, .int .u32 167903232, .int .i64 16, .int .u32 2, .int .i64 1, .int .i64 0, .int .i64 s1, .bool false, .bool false, .slice la1 0 lc1, .slice aa1 0 ac1, .int .i64 7, .bool false, .int .u32 0, .int .i64 0]) (b := [.int .i64 3, .int .u32 167903232, .int .i64 16, .int .u32 3, .int .i64 1, .int .i64 0, .int .i64 s2, .bool false, .bool false, .slice la2 0 lc2, .slice aa2 0 ac2, .int .i64 20, .bool false, .int .u32 0, .int .i64 0]) rfl
  have BRD := HB2.out.trans (BD.mono HB2.out.size)
  have RC := Lib.hid ((routes_calls WD 0 1 (exW w.heap.size (w.heap.size + 1)) [smS 2 7 s1 la1 lc1 aa1 ac1, smS 3 20 s2 la2 lc2 aa2 ac2] _ _ HD (HRC.out.below BRD) (fun x hx => (ex_okl x hx).1) (fun x hx _ => (ex_okl x hx).2.1) (fun x hx _ => (ex_okl x hx).2.2) (ex_costs _ _) (by simp [hopSum, exW]) (by simp)).mono fun _ _ h => ex_one (p := exP) (o := ⟨17, [⟨1, 0, 0⟩]⟩) h (ex_ofK _ _ _ _ _ _ _ _ _ _ _ _) ⟨by decide, by decide⟩)
  have HWD := Lib.hid hWD
  have HBD := Lib.hid (HBR.out.trans (BRD.mono HBR.out.size))
  clear hWD BD HD BRD HB1 HB2 HRC
  go_wp2_with fail
  rw [HWD.out]
  refine RC.out.mono ?_
  rintro e w3 ⟨ba, oa, ca, xa, rfl, hba, hca, hha, hxa, hb3⟩
  have HB3 := Lib.hid (HBD.out.trans (hb3.mono HBD.out.size))
  have HBA := Lib.hid hba
  have HCA := Lib.hid hca
  have HHA := Lib.hid hha
  have HXA := Lib.hid hxa
  obtain ⟨WC, hWC⟩ : ∃ WC, (w3.alloc (.cells #[.int .u32 1, .int .u32 167837696, .int .i64 16, .bool true] 77)).alloc (.cells #[.int .u32 1, .slice none 0 0, .slice (some ⟨w3.heap.size, 0, none⟩) 1 1] 26) = WC := ⟨_, rfl⟩
  have BC : Below w3.heap.size w3 WC := by rw [← hWC]; exact ((Below.refl _ _).alloc (Nat.le_refl _) _).alloc (by simp) _
  have bc : WC.heap[w3.heap.size + 1]? = some (.cells #[.int .u32 1, .slice none 0 0, .slice (some ⟨w3.heap.size, 0, none⟩) 1 1] 26 (0, 0)) := by rw [← hWC]; exact blk_new2 w3 _ _
  have HG : RngsAt WC (.slice (some ⟨w3.heap.size, 0, none⟩) 1 1) [exA] := by
    rw [← hWC]
    exact SlV.below (sl_one (w := w3) (vals := agE exA) (t := 77)) ((Below.refl _ _).alloc (Nat.le_refl _) _)
  obtain ⟨WQ, hWQ⟩ : ∃ WQ, WC.alloc (.cells #[.int .u32 167837952, .int .i64 24, .int .i64 3, .int .u32 1, .int .i64 3, .bool false, .int .i64 0, .int .i64 0, .slice none 0 0, .int .u32 167838208, .int .i64 24, .int .i64 3, .int .u32 1, .int .i64 8, .bool false, .int .i64 0, .int .i64 0, .slice none 0 0] 57) = WQ := ⟨_, rfl⟩
  have BQ : Below WC.heap.size WC WQ := by rw [← hWQ]; exact (Below.refl _ _).alloc (Nat.le_refl _) _
  have HQ : RoutesAt WQ (.slice (some ⟨WC.heap.size, 0, none⟩) 2 2) [exRt1, exRt2] := by
    refine ⟨?_, fun x hx => ?_⟩
    · rw [← hWQ]; exact sl_two (a := [.int .u32 167837952, .int .i64 24, .int .i64 3, .int .u32 1, .int .i64 3, .bool false, .int .i64 0, .int .i64 0, .slice none 0 0]) (b := [.int .u32 167838208, .int .i64 24, .int .i64 3, .int .u32 1, .int .i64 8, .bool false, .int .i64 0, .int .i64 0, .slice none 0 0]) rfl
    · simp only [List.mem_cons, List.not_mem_nil, or_false] at hx
      rcases hx with rfl | rfl <;> exact hopsNone _
  have SC := Lib.hid ((summaries_calls WQ ⟨1, none, 0, 0, some ⟨w3.heap.size, 0, none⟩, 1, 1⟩ [exA] (RngsAt.below HG BQ) exA_ok 0 _ [exRt1, exRt2] HQ exRt_ok (by simp) (by simp) (.slice none 0 0) [] (reachNil _) (fun x hx => by cases hx) (by simp)).mono fun _ _ h => ex_two rfl h)
  have bq := (BQ.block _ (blk_lt bc)).trans bc
  have y0 := blk_cell (i := 0) bq rfl
  have y1 := blk_cell (i := 1) bq rfl
  have y2 := blk_cell (i := 2) bq rfl
  have HW3 := Lib.hid hWC
  have HW4 := Lib.hid hWQ
  have B3Q := BC.trans (BQ.mono BC.size)
  have HB3Q := Lib.hid B3Q
  simp only [cfgE] at SC
  clear hba hca hha hxa hb3 hWC BC bc HG hWQ BQ HQ bq B3Q RC HWD HWR
  go_upto_region 4 with fail
  rw [HW3.out]
  go_upto_region 5 with fail
  rw [HW4.out]
  go_wp2_with fail
  refine SC.out.mono ?_
  rintro e w4 ⟨bs, os, cs, rfl, hbs, hcs, hb4⟩
  have B34 := HB3Q.out.trans (hb4.mono HB3Q.out.size)
  have FIN := Lib.hid (HB3.out.trans (B34.mono HB3.out.size))
  obtain ⟨-, -, -, -, ka4, -, -, -, ka8⟩ := HCA.out.below B34 HBA.out
  obtain ⟨⟨-, l1, l2, -, -⟩, -, ⟨-, l11, -⟩⟩ := hcs
  obtain ⟨⟨pa, o2, o3, o4, o5, o6, o7, qa, qn, qc⟩, oh⟩ := xa
  have hx := HXA.out
  simp only [RtH.pure, orP, Rp.mk.injEq] at hx
  obtain ⟨rfl, rfl, rfl, rfl, rfl, rfl, rfl, rfl⟩ := hx
  obtain ⟨rfl, bh, oh, rfl, hbh, hh0⟩ := HopsAt.one HHA.out
  have h0 := bcell B34 hh0
  simp only [sumL, exA] at ka4 ka8 l1 l2 l11 h0
  clear y0 y1 y2 hb4 B34 HXA HHA HCA HBA SC HW3 HW4 HB3Q hh0
  go_wp2_with fail
  go_ret
  exact ⟨rfl, FIN.out⟩

end Go.Proofs.YtogdconliofblaaGreat
