/-
  linkstate.New.
-/
import Derived.Test.YtombnejipaoinaaGreatNwk
import Derived.Deep.DeepCutAuto
import Derived.Deep.RegionLaw
namespace Go.Proofs.YtombnejipaoinaaGreat
open Go.RowKit

theorem IfCells.of_block {w w' : World} {b o : Nat} {x : If9} (h : IfCells w b o x) (hb : w'.heap[b]? = w.heap[b]?) : IfCells w' b o x := by
  have e := fun k => World.cell?_of_block (w := w) (w' := w') (a := ⟨b, k, none⟩) hb
  obtain ⟨⟨h0, h1, h2, h3⟩, h4, h5, h6, h7, h8⟩ := h
  exact ⟨⟨(e _).trans h0, (e _).trans h1, (e _).trans h2, (e _).trans h3⟩, (e _).trans h4, (e _).trans h5, (e _).trans h6, (e _).trans h7, (e _).trans h8⟩
theorem own_slice {w : World} {B : Nat} {e : TypeId} {k : Nat} {v : Value} {n : Nat} {xs : List Value} (h : w.ownsRow B e k v n xs) : ∃ a m c, v = .slice a m c := by
  rcases own_cases h with ⟨rfl, _⟩ | ⟨g, cap, cur, rfl, _⟩
  · exact ⟨_, _, _, rfl⟩
  · exact ⟨_, _, _, rfl⟩
theorem u32E_one1 (x : Int) : ∀ u ∈ u32E x, u.oneCell' = true := by
  intro u hu
  simp only [u32E, List.mem_cons, List.not_mem_nil, or_false] at hu
  subst hu; rfl
theorem ifsE_one1 (x : If9) : ∀ u ∈ ifsE x, u.oneCell' = true := by
  intro u hu
  simp only [ifsE, List.mem_cons, List.not_mem_nil, or_false] at hu
  rcases hu with rfl | rfl | rfl | rfl | rfl | rfl | rfl | rfl | rfl | rfl | rfl | rfl | rfl | rfl | rfl <;> rfl

/-- a copy has been made -/
structure Cp (k : Nat) (B : Nat) (css : List (List Value)) (v : Value) (w : World) : Prop where
  s : SlV k w v css
  f : ∀ b off n c, v = .slice (some ⟨b, off, none⟩) n c → B ≤ b
theorem Cp.of {k B : Nat} {e : TypeId} {css : List (List Value)} {v : Value} {W w : World} (hc : ∀ c ∈ css, c.length = k) (h : w.ownsRow W.heap.size e k v css.length css.flatten) (hB : B ≤ W.heap.size) : Cp k B css v w :=
  ⟨SlV.of_own hc h, fun b off n c e => by
    have := World.ownsRow.lt h b (by rw [e]; rfl)
    omega⟩
theorem Cp.below {k B : Nat} {css : List (List Value)} {v : Value} {w w' : World} (h : Cp k B css v w) (hb : Below w.heap.size w w') : Cp k B css v w' := ⟨h.s.below hb, h.f⟩
theorem Cp.set {k B : Nat} {css : List (List Value)} {v : Value} {w : World} (h : Cp k B css v w) (b i : Nat) (u : Value) (hb : b < B) : Cp k B css v (w.setCell ⟨b, i, none⟩ u) :=
  ⟨h.s.kept (grown_one w b i u) (fun b' off n c e => by have := h.f b' off n c e; intro h'; cases h'; omega), h.f⟩
theorem Cp.le {k B C : Nat} {css : List (List Value)} {v : Value} {w : World} (h : Cp k B css v w) (hc : C ≤ B) : Cp k C css v w := ⟨h.s, fun b off n c e => Nat.le_trans hc (h.f b off n c e)⟩
theorem Cp.of_block {k B : Nat} {css : List (List Value)} {v : Value} {w w' : World} (h : Cp k B css v w) (hb : ∀ b, B ≤ b → b < w.heap.size → w'.heap[b]? = w.heap[b]?) (hs : w.heap.size ≤ w'.heap.size) : Cp k B css v w' := by
  refine ⟨?_, h.f⟩
  obtain ⟨a, cap, e, h1, h2, h3, h4⟩ := h.s
  refine ⟨a, cap, e, h1, h2, h3, fun h0 => ?_⟩
  obtain ⟨b, off, ea, h5, h6⟩ := h4 h0
  subst ea
  exact ⟨b, off, rfl, Nat.lt_of_lt_of_le h5 hs, fun i hi j u hu => (World.cell?_of_block (w := w) (w' := w') (hb b (h.f b off _ _ e) h5)).trans (h6 i hi j u hu)⟩
theorem wds_at {B : Nat} {w : World} {v : Value} {l : List Int} (h : WdsOwn B w v l) : WordsAt w v l := SlV.of_own (u32E_len l) (by rw [List.length_map]; exact h)
theorem below_set {B : Nat} {w w' : World} (h : Below B w w') {b : Nat} (hb : B ≤ b) (i : Nat) (u : Value) : Below B w (w'.setCell ⟨b, i, none⟩ u) := h.setCell hb u

/-- behind the copies -/
def Mid6 (w : World) (r : Int) (ifs : List If9) (rgs : List Arg) (wx : World) : Prop :=
  Below w.heap.size w wx ∧ w.heap.size + 2 ≤ wx.heap.size ∧ wx.heap[w.heap.size + 1]? = some (.cells #[.int .u32 0, .slice none 0 0, .slice none 0 0, .int .i64 0, .slice none 0 0, .slice none 0 0, .slice none 0 0, .slice none 0 0] 33 (0, 0)) ∧
  ∃ a5 c5 a6 c6, wx.heap[w.heap.size]? = some (.cells #[.int .u32 r, .slice a5 ifs.length c5, .slice a6 rgs.length c6] 26 (0, 0)) ∧ Cp 9 (w.heap.size + 2) (ifs.map if9E) (.slice a5 ifs.length c5) wx ∧ Cp 4 (w.heap.size + 2) (rgs.map agE) (.slice a6 rgs.length c6) wx

/-- both copies are stored -/
theorem mid6 {w w1 W : World} {r : Int} {ifs : List If9} {rgs : List Arg} {va vb v5 v6 : Value} (hb : Below w.heap.size w w1) (hs : w.heap.size + 2 ≤ w1.heap.size)
    (hx : w1.heap[w.heap.size]? = some (.cells #[.int .u32 r, va, vb] 26 (0, 0))) (hz : w1.heap[w.heap.size + 1]? = some (.cells #[.int .u32 0, .slice none 0 0, .slice none 0 0, .int .i64 0, .slice none 0 0, .slice none 0 0, .slice none 0 0, .slice none 0 0] 33 (0, 0)))
    (h1 : Below w1.heap.size w1 W) (h5 : Cp 9 w1.heap.size (ifs.map if9E) v5 W) (h6 : Cp 4 w1.heap.size (rgs.map agE) v6 W) : Mid6 w r ifs rgs ((W.setCell ⟨w.heap.size, 1, none⟩ v5).setCell ⟨w.heap.size, 2, none⟩ v6) ∧ Mid6 w r ifs rgs ((W.setCell ⟨w.heap.size, 2, none⟩ v6).setCell ⟨w.heap.size, 1, none⟩ v5) := by
  obtain ⟨a5, c5, e5, -⟩ := h5.s
  obtain ⟨a6, c6, e6, -⟩ := h6.s
  simp only [List.length_map] at e5 e6
  have bw := hb.trans (h1.mono hb.size)
  have x := (h1.block _ (blk_lt hx)).trans hx
  have z := (h1.block _ (blk_lt hz)).trans hz
  have z' := fun (W' : World) (i : Nat) (u : Value) (h : W'.heap[w.heap.size + 1]? = some (.cells #[.int .u32 0, .slice none 0 0, .slice none 0 0, .int .i64 0, .slice none 0 0, .slice none 0 0, .slice none 0 0, .slice none 0 0] 33 (0, 0))) => (blk_other W' ⟨w.heap.size, i, none⟩ u (w.heap.size + 1) (by simp)).trans h
  have s1 := h1.size
  refine ⟨⟨below_set (below_set bw (Nat.le_refl _) _ _) (Nat.le_refl _) _ _, by simp [World.setCell]; omega, z' _ _ _ (z' _ _ _ z), a5, c5, a6, c6, ?_, ?_, ?_⟩, ⟨below_set (below_set bw (Nat.le_refl _) _ _) (Nat.le_refl _) _ _, by simp [World.setCell]; omega, z' _ _ _ (z' _ _ _ z), a5, c5, a6, c6, ?_, ?_, ?_⟩⟩
  · have h := blk_set (blk_set x 1 v5) 2 v6
    simp only [List.setIfInBounds_toArray, List.set_cons_zero, List.set_cons_succ] at h
    rw [e5, e6] at h ⊢
    exact h
  · rw [← e5]; exact ((h5.set _ 1 v5 (by omega)).set _ 2 v6 (by omega)).le hs
  · rw [← e6]; exact ((h6.set _ 1 v5 (by omega)).set _ 2 v6 (by omega)).le hs
  · have h := blk_set (blk_set x 2 v6) 1 v5
    simp only [List.setIfInBounds_toArray, List.set_cons_zero, List.set_cons_succ] at h
    rw [e5, e6] at h ⊢
    exact h
  · rw [← e5]; exact ((h5.set _ 2 v6 (by omega)).set _ 1 v5 (by omega)).le hs
  · rw [← e6]; exact ((h6.set _ 2 v6 (by omega)).set _ 1 v5 (by omega)).le hs

set_option maxHeartbeats 16000000 in
set_option maxRecDepth 100000 in
theorem lnew_calls (w : World) (r : Int) (vi vr : Value) (ifs : List If9) (rgs : List Arg) (now : Int) (hi : IfsAt w vi ifs) (hr : RngsAt w vr rgs) (oki : ∀ x ∈ ifs, OkI x) (okr : ∀ o ∈ rgs, OkP o.pfx) :
    Calls Tryz.prog 5 #[.agg #[.int .u32 r, vi, vr], .int .i64 now] w (NwPost w (newD r ifs rgs now) (newC r ifs rgs now)) := by
  have CK := Lib.hid (fun W (g : Below w.heap.size w W) => lkcheck_calls W r vi vr ifs rgs (hi.below g) (hr.below g) oki okr)
  have HI := Lib.hid hi
  have HR := Lib.hid hr
  obtain ⟨ia, ic, rfl, hil, -, -⟩ := hi.get
  obtain ⟨ra, cp, rfl, hrl, -⟩ := hr.get
  clear hi hr oki okr
  obtain ⟨W0, hW0⟩ : ∃ W0, (w.alloc (.cells #[.int .u32 r, .slice ia ifs.length ic, .slice ra rgs.length cp] 26)).alloc (.cells #[.int .u32 0, .slice none 0 0, .slice none 0 0, .int .i64 0, .slice none 0 0, .slice none 0 0, .slice none 0 0, .slice none 0 0] 33) = W0 := ⟨_, rfl⟩
  have B0 : Hid (Below w.heap.size w W0) := Lib.hid (by rw [← hW0]; exact ((Below.refl _ _).alloc (Nat.le_refl _) _).alloc (by simp) _)
  have X0 : Hid (W0.heap[w.heap.size]? = some (.cells #[.int .u32 r, .slice ia ifs.length ic, .slice ra rgs.length cp] 26 (0, 0))) := Lib.hid (by rw [← hW0]; exact (alloc_get _ _ _ (by simp)).trans (alloc_new _ _))
  have Z0 : Hid (W0.heap[w.heap.size + 1]? = some (.cells #[.int .u32 0, .slice none 0 0, .slice none 0 0, .int .i64 0, .slice none 0 0, .slice none 0 0, .slice none 0 0, .slice none 0 0] 33 (0, 0))) := Lib.hid (by rw [← hW0]; have := alloc_new (w.alloc (.cells #[.int .u32 r, .slice ia ifs.length ic, .slice ra rgs.length cp] 26)) (.cells #[.int .u32 0, .slice none 0 0, .slice none 0 0, .int .i64 0, .slice none 0 0, .slice none 0 0, .slice none 0 0, .slice none 0 0] 33); simpa using this)
  have HW0 := Lib.hid hW0
  clear hW0
  have m0 : W0.cell? ⟨w.heap.size, 0, none⟩ = some (.int .u32 r) := blk_cell X0.out rfl
  have m1 : W0.cell? ⟨w.heap.size, 1, none⟩ = some (.slice ia ifs.length ic) := blk_cell X0.out rfl
  have m2 : W0.cell? ⟨w.heap.size, 2, none⟩ = some (.slice ra rgs.length cp) := blk_cell X0.out rfl
  have CK0 := Lib.hid (CK.out W0 B0.out)
  clear CK
  have NC : Hid (newC r ifs rgs now = if cfC r ifs rgs = 0 then (if now < 0 ∨ 1099511627776 < now then 5 else 0) else cfC r ifs rgs) := Lib.hid rfl
  have ND : Hid (newD r ifs rgs now = if newC r ifs rgs now = 0 then ⟨r, ifs, rgs, now, areasL ifs⟩ else LsD.zero) := Lib.hid rfl
  have CL := Lib.hid (fun h : cfC r ifs rgs = 0 => cfC_len h)
  generalize newD r ifs rgs now = nd at *
  generalize newC r ifs rgs now = nc at *
  generalize cfC r ifs rgs = cc at *
  by_cases q : ¬ cc = 0
  · have Q := Lib.hid q
    have q' : (cc != 0) = true := by simpa using q
    have E1 : nc = cc := by rw [NC.out, if_neg q]
    have E2 : nd = LsD.zero := by rw [ND.out, E1, if_neg q]
    subst E1 E2
    clear q NC ND CL
    go_enter Tryz.func5, Tryz.ntmps5
    go_upto_region 1 with fail
    rw [HW0.out]
    go_wp2_with fail
    refine CK0.out.mono ?_
    rintro e w1 ⟨rfl, G1⟩
    have Z1 := (G1.b.block _ (blk_lt Z0.out)).trans Z0.out
    have B1 := Lib.hid (B0.out.trans (G1.b.mono B0.out.size))
    obtain ⟨W', hW'⟩ : ∃ W', put8 w1 (w.heap.size + 1) (.int .u32 0) (.slice none 0 0) (.slice none 0 0) (.int .i64 0) (.slice none 0 0) (.slice none 0 0) (.slice none 0 0) (.slice none 0 0) = W' := ⟨_, rfl⟩
    have bk' := put8_blk Z1 (.int .u32 0) (.slice none 0 0) (.slice none 0 0) (.int .i64 0) (.slice none 0 0) (.slice none 0 0) (.slice none 0 0) (.slice none 0 0)
    rw [hW'] at bk'
    have gk' := put8_grown w1 (w.heap.size + 1) (.int .u32 0) (.slice none 0 0) (.slice none 0 0) (.int .i64 0) (.slice none 0 0) (.slice none 0 0) (.slice none 0 0) (.slice none 0 0)
    rw [hW'] at gk'
    have FIN := Lib.hid (zero_post (c := nc) (B1.out.grown gk' B1.out.size (fun j hj => by cases hj; omega)))
    unfold put8 at hW'
    have HW' := Lib.hid hW'
    have g0 : W'.cell? ⟨w.heap.size + 1, 0, none⟩ = some (.int .u32 0) := blk_cell bk' rfl
    have g1 : W'.cell? ⟨w.heap.size + 1, 1, none⟩ = some (.slice none 0 0) := blk_cell bk' rfl
    have g2 : W'.cell? ⟨w.heap.size + 1, 2, none⟩ = some (.slice none 0 0) := blk_cell bk' rfl
    have g3 : W'.cell? ⟨w.heap.size + 1, 3, none⟩ = some (.int .i64 0) := blk_cell bk' rfl
    have g4 : W'.cell? ⟨w.heap.size + 1, 4, none⟩ = some (.slice none 0 0) := blk_cell bk' rfl
    have g5 : W'.cell? ⟨w.heap.size + 1, 5, none⟩ = some (.slice none 0 0) := blk_cell bk' rfl
    have g6 : W'.cell? ⟨w.heap.size + 1, 6, none⟩ = some (.slice none 0 0) := blk_cell bk' rfl
    have g7 : W'.cell? ⟨w.heap.size + 1, 7, none⟩ = some (.slice none 0 0) := blk_cell bk' rfl
    have G := Lib.hid (And.intro g0 (And.intro g1 (And.intro g2 (And.intro g3 (And.intro g4 (And.intro g5 (And.intro g6 g7)))))))
    have z0 : w1.cell? ⟨w.heap.size + 1, 0, none⟩ = some (.int .u32 0) := blk_cell Z1 rfl
    have zf0 := blk_free Z1 0
    have z1 : w1.cell? ⟨w.heap.size + 1, 1, none⟩ = some (.slice none 0 0) := blk_cell Z1 rfl
    have zf1 := blk_free Z1 1
    have z2 : w1.cell? ⟨w.heap.size + 1, 2, none⟩ = some (.slice none 0 0) := blk_cell Z1 rfl
    have zf2 := blk_free Z1 2
    have z3 : w1.cell? ⟨w.heap.size + 1, 3, none⟩ = some (.int .i64 0) := blk_cell Z1 rfl
    have zf3 := blk_free Z1 3
    have z4 : w1.cell? ⟨w.heap.size + 1, 4, none⟩ = some (.slice none 0 0) := blk_cell Z1 rfl
    have zf4 := blk_free Z1 4
    have z5 : w1.cell? ⟨w.heap.size + 1, 5, none⟩ = some (.slice none 0 0) := blk_cell Z1 rfl
    have zf5 := blk_free Z1 5
    have z6 : w1.cell? ⟨w.heap.size + 1, 6, none⟩ = some (.slice none 0 0) := blk_cell Z1 rfl
    have zf6 := blk_free Z1 6
    have z7 : w1.cell? ⟨w.heap.size + 1, 7, none⟩ = some (.slice none 0 0) := blk_cell Z1 rfl
    have zf7 := blk_free Z1 7
    clear hW' bk' gk' g0 g1 g2 g3 g4 g5 g6 g7
    clear G1 Z1 m0 m1 m2 CK0
    go_wp2_with fail
    rw [HW'.out]
    obtain ⟨g0, g1, g2, g3, g4, g5, g6, g7⟩ := G.out
    exact bodyPost_ret (v := .tuple #[.agg #[.int .u32 0, .slice none 0 0, .slice none 0 0, .int .i64 0, .slice none 0 0, .slice none 0 0, .slice none 0 0, .slice none 0 0], .int .i64 nc]) (by simp [results, Tryz.results5, go_sem, g0, g1, g2, g3, g4, g5, g6, g7]) rfl FIN.out
  have q0 : cc = 0 := by omega
  clear q
  subst q0
  have CL2 := Lib.hid (CL.out rfl)
  by_cases q : now < 0 ∨ 1099511627776 < now
  · have E1 : nc = 5 := by rw [NC.out, if_pos rfl, if_pos q]
    have E2 : nd = LsD.zero := by rw [ND.out, E1]; rfl
    subst E1 E2
    clear NC ND CL
    by_cases q1 : now < 0
    · have q' : decide (now < 0) = true := decide_eq_true q1
      clear q q1
      go_enter Tryz.func5, Tryz.ntmps5
      go_upto_region 1 with fail
      rw [HW0.out]
      go_wp2_with fail
      refine CK0.out.mono ?_
      rintro e w1 ⟨rfl, G1⟩
      have Z1 := (G1.b.block _ (blk_lt Z0.out)).trans Z0.out
      have B1 := Lib.hid (B0.out.trans (G1.b.mono B0.out.size))
      obtain ⟨W', hW'⟩ : ∃ W', put8 w1 (w.heap.size + 1) (.int .u32 0) (.slice none 0 0) (.slice none 0 0) (.int .i64 0) (.slice none 0 0) (.slice none 0 0) (.slice none 0 0) (.slice none 0 0) = W' := ⟨_, rfl⟩
      have bk' := put8_blk Z1 (.int .u32 0) (.slice none 0 0) (.slice none 0 0) (.int .i64 0) (.slice none 0 0) (.slice none 0 0) (.slice none 0 0) (.slice none 0 0)
      rw [hW'] at bk'
      have gk' := put8_grown w1 (w.heap.size + 1) (.int .u32 0) (.slice none 0 0) (.slice none 0 0) (.int .i64 0) (.slice none 0 0) (.slice none 0 0) (.slice none 0 0) (.slice none 0 0)
      rw [hW'] at gk'
      have FIN := Lib.hid (zero_post (c := 5) (B1.out.grown gk' B1.out.size (fun j hj => by cases hj; omega)))
      unfold put8 at hW'
      have HW' := Lib.hid hW'
      have g0 : W'.cell? ⟨w.heap.size + 1, 0, none⟩ = some (.int .u32 0) := blk_cell bk' rfl
      have g1 : W'.cell? ⟨w.heap.size + 1, 1, none⟩ = some (.slice none 0 0) := blk_cell bk' rfl
      have g2 : W'.cell? ⟨w.heap.size + 1, 2, none⟩ = some (.slice none 0 0) := blk_cell bk' rfl
      have g3 : W'.cell? ⟨w.heap.size + 1, 3, none⟩ = some (.int .i64 0) := blk_cell bk' rfl
      have g4 : W'.cell? ⟨w.heap.size + 1, 4, none⟩ = some (.slice none 0 0) := blk_cell bk' rfl
      have g5 : W'.cell? ⟨w.heap.size + 1, 5, none⟩ = some (.slice none 0 0) := blk_cell bk' rfl
      have g6 : W'.cell? ⟨w.heap.size + 1, 6, none⟩ = some (.slice none 0 0) := blk_cell bk' rfl
      have g7 : W'.cell? ⟨w.heap.size + 1, 7, none⟩ = some (.slice none 0 0) := blk_cell bk' rfl
      have G := Lib.hid (And.intro g0 (And.intro g1 (And.intro g2 (And.intro g3 (And.intro g4 (And.intro g5 (And.intro g6 g7)))))))
      have z0 : w1.cell? ⟨w.heap.size + 1, 0, none⟩ = some (.int .u32 0) := blk_cell Z1 rfl
      have zf0 := blk_free Z1 0
      have z1 : w1.cell? ⟨w.heap.size + 1, 1, none⟩ = some (.slice none 0 0) := blk_cell Z1 rfl
      have zf1 := blk_free Z1 1
      have z2 : w1.cell? ⟨w.heap.size + 1, 2, none⟩ = some (.slice none 0 0) := blk_cell Z1 rfl
      have zf2 := blk_free Z1 2
      have z3 : w1.cell? ⟨w.heap.size + 1, 3, none⟩ = some (.int .i64 0) := blk_cell Z1 rfl
      have zf3 := blk_free Z1 3
      have z4 : w1.cell? ⟨w.heap.size + 1, 4, none⟩ = some (.slice none 0 0) := blk_cell Z1 rfl
      have zf4 := blk_free Z1 4
      have z5 : w1.cell? ⟨w.heap.size + 1, 5, none⟩ = some (.slice none 0 0) := blk_cell Z1 rfl
      have zf5 := blk_free Z1 5
      have z6 : w1.cell? ⟨w.heap.size + 1, 6, none⟩ = some (.slice none 0 0) := blk_cell Z1 rfl
      have zf6 := blk_free Z1 6
      have z7 : w1.cell? ⟨w.heap.size + 1, 7, none⟩ = some (.slice none 0 0) := blk_cell Z1 rfl
      have zf7 := blk_free Z1 7
      clear hW' bk' gk' g0 g1 g2 g3 g4 g5 g6 g7
      clear G1 Z1 m0 m1 m2 CK0
      go_wp2_with fail
      rw [HW'.out]
      obtain ⟨g0, g1, g2, g3, g4, g5, g6, g7⟩ := G.out
      exact bodyPost_ret (v := .tuple #[.agg #[.int .u32 0, .slice none 0 0, .slice none 0 0, .int .i64 0, .slice none 0 0, .slice none 0 0, .slice none 0 0, .slice none 0 0], .int .i64 5]) (by simp [results, Tryz.results5, go_sem, g0, g1, g2, g3, g4, g5, g6, g7]) rfl FIN.out
    · have q2 : 1099511627776 < now := by omega
      have q' : decide (now < 0) = false := decide_eq_false q1
      have q'' : decide (1099511627776 < now) = true := decide_eq_true q2
      clear q q1 q2
      go_enter Tryz.func5, Tryz.ntmps5
      go_upto_region 1 with fail
      rw [HW0.out]
      go_wp2_with fail
      refine CK0.out.mono ?_
      rintro e w1 ⟨rfl, G1⟩
      have Z1 := (G1.b.block _ (blk_lt Z0.out)).trans Z0.out
      have B1 := Lib.hid (B0.out.trans (G1.b.mono B0.out.size))
      obtain ⟨W', hW'⟩ : ∃ W', put8 w1 (w.heap.size + 1) (.int .u32 0) (.slice none 0 0) (.slice none 0 0) (.int .i64 0) (.slice none 0 0) (.slice none 0 0) (.slice none 0 0) (.slice none 0 0) = W' := ⟨_, rfl⟩
      have bk' := put8_blk Z1 (.int .u32 0) (.slice none 0 0) (.slice none 0 0) (.int .i64 0) (.slice none 0 0) (.slice none 0 0) (.slice none 0 0) (.slice none 0 0)
      rw [hW'] at bk'
      have gk' := put8_grown w1 (w.heap.size + 1) (.int .u32 0) (.slice none 0 0) (.slice none 0 0) (.int .i64 0) (.slice none 0 0) (.slice none 0 0) (.slice none 0 0) (.slice none 0 0)
      rw [hW'] at gk'
      have FIN := Lib.hid (zero_post (c := 5) (B1.out.grown gk' B1.out.size (fun j hj => by cases hj; omega)))
      unfold put8 at hW'
      have HW' := Lib.hid hW'
      have g0 : W'.cell? ⟨w.heap.size + 1, 0, none⟩ = some (.int .u32 0) := blk_cell bk' rfl
      have g1 : W'.cell? ⟨w.heap.size + 1, 1, none⟩ = some (.slice none 0 0) := blk_cell bk' rfl
      have g2 : W'.cell? ⟨w.heap.size + 1, 2, none⟩ = some (.slice none 0 0) := blk_cell bk' rfl
      have g3 : W'.cell? ⟨w.heap.size + 1, 3, none⟩ = some (.int .i64 0) := blk_cell bk' rfl
      have g4 : W'.cell? ⟨w.heap.size + 1, 4, none⟩ = some (.slice none 0 0) := blk_cell bk' rfl
      have g5 : W'.cell? ⟨w.heap.size + 1, 5, none⟩ = some (.slice none 0 0) := blk_cell bk' rfl
      have g6 : W'.cell? ⟨w.heap.size + 1, 6, none⟩ = some (.slice none 0 0) := blk_cell bk' rfl
      have g7 : W'.cell? ⟨w.heap.size + 1, 7, none⟩ = some (.slice none 0 0) := blk_cell bk' rfl
      have G := Lib.hid (And.intro g0 (And.intro g1 (And.intro g2 (And.intro g3 (And.intro g4 (And.intro g5 (And.intro g6 g7)))))))
      have z0 : w1.cell? ⟨w.heap.size + 1, 0, none⟩ = some (.int .u32 0) := blk_cell Z1 rfl
      have zf0 := blk_free Z1 0
      have z1 : w1.cell? ⟨w.heap.size + 1, 1, none⟩ = some (.slice none 0 0) := blk_cell Z1 rfl
      have zf1 := blk_free Z1 1
      have z2 : w1.cell? ⟨w.heap.size + 1, 2, none⟩ = some (.slice none 0 0) := blk_cell Z1 rfl
      have zf2 := blk_free Z1 2
      have z3 : w1.cell? ⟨w.heap.size + 1, 3, none⟩ = some (.int .i64 0) := blk_cell Z1 rfl
      have zf3 := blk_free Z1 3
      have z4 : w1.cell? ⟨w.heap.size + 1, 4, none⟩ = some (.slice none 0 0) := blk_cell Z1 rfl
      have zf4 := blk_free Z1 4
      have z5 : w1.cell? ⟨w.heap.size + 1, 5, none⟩ = some (.slice none 0 0) := blk_cell Z1 rfl
      have zf5 := blk_free Z1 5
      have z6 : w1.cell? ⟨w.heap.size + 1, 6, none⟩ = some (.slice none 0 0) := blk_cell Z1 rfl
      have zf6 := blk_free Z1 6
      have z7 : w1.cell? ⟨w.heap.size + 1, 7, none⟩ = some (.slice none 0 0) := blk_cell Z1 rfl
      have zf7 := blk_free Z1 7
      clear hW' bk' gk' g0 g1 g2 g3 g4 g5 g6 g7
      clear G1 Z1 m0 m1 m2 CK0
      go_wp2_with fail
      rw [HW'.out]
      obtain ⟨g0, g1, g2, g3, g4, g5, g6, g7⟩ := G.out
      exact bodyPost_ret (v := .tuple #[.agg #[.int .u32 0, .slice none 0 0, .slice none 0 0, .int .i64 0, .slice none 0 0, .slice none 0 0, .slice none 0 0, .slice none 0 0], .int .i64 5]) (by simp [results, Tryz.results5, go_sem, g0, g1, g2, g3, g4, g5, g6, g7]) rfl FIN.out
  have q1 : decide (now < 0) = false := decide_eq_false (by omega)
  have q2 : decide (1099511627776 < now) = false := decide_eq_false (by omega)
  have E1 : nc = 0 := by rw [NC.out, if_pos rfl, if_neg q]
  have E2 : nd = ⟨r, ifs, rgs, now, areasL ifs⟩ := by rw [ND.out, E1]; rfl
  subst E1 E2
  clear NC ND CL q
  go_enter Tryz.func5, Tryz.ntmps5
  go_upto_region 1 with fail
  rw [HW0.out]
  go_wp2_with fail
  refine CK0.out.mono ?_
  rintro e w1 ⟨rfl, G1⟩
  have X1 : Hid (w1.heap[w.heap.size]? = some (.cells #[.int .u32 r, .slice ia ifs.length ic, .slice ra rgs.length cp] 26 (0, 0))) := Lib.hid ((G1.b.block _ (blk_lt X0.out)).trans X0.out)
  have Z1 : Hid (w1.heap[w.heap.size + 1]? = some (.cells #[.int .u32 0, .slice none 0 0, .slice none 0 0, .int .i64 0, .slice none 0 0, .slice none 0 0, .slice none 0 0, .slice none 0 0] 33 (0, 0))) := Lib.hid ((G1.b.block _ (blk_lt Z0.out)).trans Z0.out)
  have B1 := Lib.hid (B0.out.trans (G1.b.mono B0.out.size))
  clear G1 m0 m1 m2 CK0 X0 Z0 B0 HW0
  have m1 : w1.cell? ⟨w.heap.size, 1, none⟩ = some (.slice ia ifs.length ic) := blk_cell X1.out rfl
  have m2 : w1.cell? ⟨w.heap.size, 2, none⟩ = some (.slice ra rgs.length cp) := blk_cell X1.out rfl
  have CI := Lib.hid (fun W (g : Below w1.heap.size w1 W) => cloneIfc W _ ifs (HI.out.below (B1.out.trans (g.mono B1.out.size))) (by have := CL2.out; omega))
  have CR := Lib.hid (fun W (g : Below w1.heap.size w1 W) => cloneArg W _ rgs (HR.out.below (B1.out.trans (g.mono B1.out.size))) (by have := CL2.out; omega))
  have S1 : Hid (w.heap.size + 2 ≤ w1.heap.size) := Lib.hid (by have := blk_lt Z1.out; omega)
  go_upto_region 6 with fail
  go_cut [] (fun wx => Mid6 w r ifs rgs wx)
  case first =>
    go_region_law
      (first
      | (go_simp; go_at_call 14; (with_reducible refine (CI.out _ (by first | exact GR.out | exact GR.out.drew | exact Below.refl _ _ | exact (Below.refl _ _).drew)).mono ?_); rintro e w5 ⟨v5, rfl, O5, B5⟩; have GI : Hid (Below w1.heap.size w1 w5) := Lib.hid (by first | exact GR.out.trans (B5.mono GR.out.size) | exact GR.out.drew.trans (B5.mono GR.out.size) | exact B5 | exact ((Below.refl _ _).drew).trans B5); obtain ⟨a5, n5, c5, e5⟩ : ∃ a n c, v5 = .slice a n c := (by obtain ⟨a, c, e, -⟩ := SlV.of_own (if9E_len ifs) O5; exact ⟨a, _, c, e⟩); subst e5; have KI := Lib.hid (Cp.of (B := w1.heap.size) (if9E_len ifs) O5 (by first | exact GR.out.size | exact GR.out.drew.size | exact Nat.le_refl _)); (try (have KR := Lib.hid (KR.out.below (by first | exact B5 | exact ((Below.refl _ _).drew).trans B5)))); have X5 := (GI.out.block _ (blk_lt X1.out)).trans X1.out; have m1 := blk_cell (i := 1) X5 rfl; have m2 := blk_cell (i := 2) X5 rfl; have mf1 := blk_free X5 1; have mf2 := blk_free X5 2; clear O5 B5 X5)
      | (go_simp; go_at_call 15; (with_reducible refine (CR.out _ (by first | exact GI.out | exact GI.out.drew | exact Below.refl _ _ | exact (Below.refl _ _).drew)).mono ?_); rintro e w5 ⟨v5, rfl, O5, B5⟩; have GR : Hid (Below w1.heap.size w1 w5) := Lib.hid (by first | exact GI.out.trans (B5.mono GI.out.size) | exact GI.out.drew.trans (B5.mono GI.out.size) | exact B5 | exact ((Below.refl _ _).drew).trans B5); obtain ⟨a5, n5, c5, e5⟩ : ∃ a n c, v5 = .slice a n c := (by obtain ⟨a, c, e, -⟩ := SlV.of_own (agE_len rgs) O5; exact ⟨a, _, c, e⟩); subst e5; have KR := Lib.hid (Cp.of (B := w1.heap.size) (agE_len rgs) O5 (by first | exact GI.out.size | exact GI.out.drew.size | exact Nat.le_refl _)); (try (have KI := Lib.hid (KI.out.below (by first | exact B5 | exact ((Below.refl _ _).drew).trans B5)))); have X5 := (GR.out.block _ (blk_lt X1.out)).trans X1.out; have m1 := blk_cell (i := 1) X5 rfl; have m2 := blk_cell (i := 2) X5 rfl; have mf1 := blk_free X5 1; have mf2 := blk_free X5 2; clear O5 B5 X5))
    all_goals
      go_wp2_with fail
      go_meet
      first
      | exact (mid6 B1.out S1.out X1.out Z1.out GI.out KI.out KR.out).1
      | exact (mid6 B1.out S1.out X1.out Z1.out GR.out KI.out KR.out).1
      | exact (mid6 B1.out S1.out X1.out Z1.out GI.out KI.out KR.out).2
      | exact (mid6 B1.out S1.out X1.out Z1.out GR.out KI.out KR.out).2
      | trace_state
  case rest =>
    clear CI CR S1 m1 m2 X1 Z1 B1
    obtain ⟨BM, SM, ZM, a5, c5, a6, c6, XM, IM, RM⟩ := hcut
    have BM := Lib.hid BM
    have SM := Lib.hid SM
    have ZM := Lib.hid ZM
    have IM2 := Lib.hid IM
    have IM : IfsAt wc _ ifs := IM.s
    have RM := Lib.hid RM
    obtain ⟨_, _, e, hil2, -, hcc⟩ := IM.get
    cases e
    clear IM
    have HC := Lib.hid hcc
    clear hcc
    have x0 : wc.cell? ⟨w.heap.size, 0, none⟩ = some (.int .u32 r) := blk_cell XM rfl
    have x1 : wc.cell? ⟨w.heap.size, 1, none⟩ = some (.slice a5 ifs.length c5) := blk_cell XM rfl
    have x2 : wc.cell? ⟨w.heap.size, 2, none⟩ = some (.slice a6 rgs.length c6) := blk_cell XM rfl
    obtain ⟨W8, hW8⟩ : ∃ W8, wc.alloc (.cells #[.int .u32 r, .slice a5 ifs.length c5, .slice a6 rgs.length c6, .int .i64 now, .slice none 0 0, .slice none 0 0, .slice none 0 0, .slice none 0 0] 33) = W8 := ⟨_, rfl⟩
    have K8 : W8.heap[wc.heap.size]? = some (.cells (lsE r now (.slice a5 ifs.length c5) (.slice a6 rgs.length c6) (.slice none 0 0) (.slice none 0 0)).toArray 33 (0, 0)) := by rw [← hW8]; exact alloc_new _ _
    have S7 : W8.heap.size = wc.heap.size + 1 := by rw [← hW8]; simp
    have KB : Hid (∀ (b : Nat) (wr : World), b < wc.heap.size → W8.grownBy wr (some wc.heap.size) → wr.heap[b]? = wc.heap[b]?) := Lib.hid (fun b wr hb g => by
      have h1 := g.block b (by omega) (fun e => by cases e; omega)
      have h2 : W8.heap[b]? = wc.heap[b]? := by rw [← hW8]; exact alloc_get _ _ _ hb
      exact h1.trans h2)
    have S8 : Hid (wc.heap.size < W8.heap.size) := Lib.hid (by omega)
    have BW : Below wc.heap.size wc W8 := by rw [← hW8]; exact (Below.refl _ _).alloc (Nat.le_refl _) _
    have B8 : Hid (Below w.heap.size w W8) := Lib.hid (BM.out.trans (BW.mono (by have := SM.out; omega)))
    have X8 : W8.heap[w.heap.size]? = some (.cells #[.int .u32 r, .slice a5 ifs.length c5, .slice a6 rgs.length c6] 26 (0, 0)) := (BW.block _ (blk_lt XM)).trans XM
    have y1 : W8.cell? ⟨w.heap.size, 1, none⟩ = some (.slice a5 ifs.length c5) := blk_cell X8 rfl
    have R0 : Hid (L1 W8 wc.heap.size r now (.slice a5 ifs.length c5) (.slice a6 rgs.length c6) ifs 0 (.slice none 0 0) (.slice none 0 0) W8) :=
      Lib.hid ⟨Nat.zero_le _, K8, World.ownsRow_nil _ _ _ _, World.ownsRow_nil _ _ _ _, .inl rfl, grown_refl _ _⟩
    have HW8 := Lib.hid hW8
    clear hW8 K8 S7 BW X8
    go_upto_region 9 with fail
    rw [HW8.out]
    clear x0 x1 x2 XM
    go_wp2_with fail
    go_loopw [8, 40] (fun aw i wr => ∃ (k : Nat) (vs : Value), i = .int .i64 k ∧ L1 W8 wc.heap.size r now (.slice a5 ifs.length c5) (.slice a6 rgs.length c6) ifs k vs aw wr) (fun _ i _ => ifs.length - (intOf i).toNat)
    case atStart => exact ⟨0, _, rfl, R0.out⟩
    case round =>
      clear R0 HW8 y1
      obtain ⟨k, vs, rfl, R⟩ := hrel
      have RR := Lib.hid R
      have hk := R.hk
      clear R
      by_cases c : k < ifs.length
      · have KC := Lib.hid c
        obtain ⟨b, off, rfl, hb0, hcc⟩ := HC.out (by omega)
        obtain ⟨⟨d0, d1, d2, d3⟩, d4, d5, d6, d7, d8⟩ : IfCells wr b (off + k * 9) ifs[k] := (hcc k c).of_block (KB.out b wr hb0 RR.out.g)
        have CUT := Lib.hid (fun W2 W3 vs' hb o g d => RR.out.put S8.out c (W2 := W2) (W3 := W3) (vs' := vs') hb o g d)
        have NXT := Lib.hid (fun wr vs h1 h2 h3 h4 h5 W4 W5 vw' hb o g d => L1.next (Wb := W8) (sb := wc.heap.size) (r := r) (now := now) (vi := .slice (some ⟨b, off, none⟩) ifs.length c5) (vr := .slice a6 rgs.length c6) (ifs := ifs) (k := k) (vs := vs) (vw := u8) (wr := wr) S8.out c h1 h2 h3 h4 h5 (W4 := W4) (W5 := W5) (vw' := vw') hb o g d)
        generalize hx : ifs[k] = x at *
        obtain ⟨kind, pa, pl, ad, area, cost, prio, hel, dead⟩ := x
        simp only at d0 d1 d2 d3 d4 d5 d6 d7 d8
        have i0 : (0 : Int) ≤ (k : Int) := by omega
        have i1 : (k : Int) < (ifs.length : Int) := by omega
        have s3 : ((k : Int)).toNat = k := by omega
        have g4 : wr.cell? ⟨wc.heap.size, 4, none⟩ = some vs := blk_cell RR.out.blk rfl
        clear hcc
        obtain ⟨VA, hVA⟩ : ∃ V, wr.alloc (.cells #[.int .i64 kind, .int .u32 pa, .int .i64 pl, .int .u32 ad, .int .u32 area, .int .i64 cost, .int .i64 prio, .int .i64 hel, .int .i64 dead] 70) = V := ⟨_, rfl⟩
        obtain ⟨VB, hVB⟩ : ∃ V, VA.alloc (.cells #[.int .i64 kind, .int .u32 pa, .int .i64 pl, .int .u32 ad, .int .u32 area, .int .i64 cost, .int .i64 prio, .int .i64 hel, .int .i64 dead, .bool false, .int .u32 0, .int .u32 0, .int .i64 0, .int .i64 0, .slice none 0 0] 73) = V := ⟨_, rfl⟩
        have SA : VA.heap.size = wr.heap.size + 1 := by rw [← hVA]; simp
        have BVA : VA.heap[wr.heap.size]? = some (.cells #[.int .i64 kind, .int .u32 pa, .int .i64 pl, .int .u32 ad, .int .u32 area, .int .i64 cost, .int .i64 prio, .int .i64 hel, .int .i64 dead] 70 (0, 0)) := by rw [← hVA]; exact alloc_new _ _
        have BVB : Hid (Below wr.heap.size wr VB) := Lib.hid (by rw [← hVB, ← hVA]; exact ((Below.refl _ _).alloc (Nat.le_refl _) _).alloc (by simp) _)
        have BKI : Hid (VB.heap[wr.heap.size]? = some (.cells #[.int .i64 kind, .int .u32 pa, .int .i64 pl, .int .u32 ad, .int .u32 area, .int .i64 cost, .int .i64 prio, .int .i64 hel, .int .i64 dead] 70 (0, 0))) := Lib.hid (by rw [← hVB]; exact (alloc_get _ _ _ (by omega)).trans BVA)
        have BKS : Hid (VB.heap[wr.heap.size + 1]? = some (.cells #[.int .i64 kind, .int .u32 pa, .int .i64 pl, .int .u32 ad, .int .u32 area, .int .i64 cost, .int .i64 prio, .int .i64 hel, .int .i64 dead, .bool false, .int .u32 0, .int .u32 0, .int .i64 0, .int .i64 0, .slice none 0 0] 73 (0, 0))) := Lib.hid (by rw [← hVB, ← SA]; exact alloc_new _ _)
        have OW1 := Lib.hid (own_below RR.out.st BVB.out)
        have BS1 : Hid (W8.heap.size ≤ VB.heap.size) := Lib.hid (Nat.le_trans RR.out.g.size BVB.out.size)
        have NB : Hid ((Value.slice (some ⟨VA.heap.size, 0, none⟩) 1 1) = .slice (some ⟨wr.heap.size + 1, 0, none⟩) 1 1) := Lib.hid (by rw [SA])
        have KN : Hid (k ≤ 100000) := Lib.hid (by have := CL2.out; omega)
        have HVA := Lib.hid hVA
        have HVB := Lib.hid hVB
        have h4 : VA.cell? ⟨wc.heap.size, 4, none⟩ = some vs := by rw [← hVA]; exact blk_cell ((alloc_get _ _ _ (blk_lt RR.out.blk)).trans RR.out.blk) rfl
        have e0 : VA.cell? ⟨wr.heap.size, 0, none⟩ = some (.int .i64 kind) := blk_cell BVA rfl
        have e1 : VA.cell? ⟨wr.heap.size, 1, none⟩ = some (.int .u32 pa) := blk_cell BVA rfl
        have e2 : VA.cell? ⟨wr.heap.size, 2, none⟩ = some (.int .i64 pl) := blk_cell BVA rfl
        have e3 : VA.cell? ⟨wr.heap.size, 3, none⟩ = some (.int .u32 ad) := blk_cell BVA rfl
        have e4 : VA.cell? ⟨wr.heap.size, 4, none⟩ = some (.int .u32 area) := blk_cell BVA rfl
        have e5 : VA.cell? ⟨wr.heap.size, 5, none⟩ = some (.int .i64 cost) := blk_cell BVA rfl
        have e6 : VA.cell? ⟨wr.heap.size, 6, none⟩ = some (.int .i64 prio) := blk_cell BVA rfl
        have e7 : VA.cell? ⟨wr.heap.size, 7, none⟩ = some (.int .i64 hel) := blk_cell BVA rfl
        have e8 : VA.cell? ⟨wr.heap.size, 8, none⟩ = some (.int .i64 dead) := blk_cell BVA rfl
        clear hVA hVB SA BVA g4
        go_upto_region 12 with fail
        rw [HVA.out]
        clear d0 d1 d2 d3 d4 d5 d6 d7 d8 HVA
        go_upto_region 13 with (at_builtin; rw [HVB.out]; refine wpList_append_1 rfl (.tmp 45) (.tmp 48) 28 rfl rowSt W8.heap.size vs k _ ?g7 OW1.out (wr.heap.size + 1) (ifsE ⟨kind, pa, pl, ad, area, cost, prio, hel, dead⟩) 73 ?g8 BKS.out rfl (ifsE_one1 _) KN.out BS1.out ?_; (case g7 => exact rfl); (case g8 => exact NB.out); intro v1 w3 own' hg4 dj; obtain ⟨a1, n1, k1, e1⟩ := own_slice own'; subst e1; obtain ⟨p1, p2, p3, p4, p5, p6, p7, p8⟩ := CUT.out VB w3 _ BVB.out own' hg4 dj; have h4 := blk_cell (i := 4) p1 rfl; have hf4 := blk_free p1 4; have P7 := p7 _ _ (Nat.le_refl _) BKI.out (by have := S8.out; have := RR.out.g.size; omega); obtain ⟨W4, hW4⟩ : ∃ W4, w3.setCell ⟨wc.heap.size, 4, none⟩ (.slice a1 n1 k1) = W4 := ⟨_, rfl⟩; rw [hW4] at p2 p3 p4 p6 p8 P7; have HW4 := Lib.hid hW4; have P2 := Lib.hid p2; have P3 := Lib.hid p3; have P4 := Lib.hid p4; have P5 := Lib.hid p5; have P6 := Lib.hid p6; have P8 := Lib.hid p8; have P7 := Lib.hid P7; clear own' hg4 dj p1 p2 p3 p4 p5 p6 p7 p8 hW4 CUT e0 e1 e2 e3 e4 e5 e6 e7 e8 HVB)
        rw [HW4.out]
        have q4 : W4.cell? ⟨wr.heap.size, 4, none⟩ = some (.int .u32 area) := blk_cell P7.out rfl
        clear h4 hf4 HW4
        obtain ⟨VC, hVC⟩ : ∃ V, W4.alloc (.cells #[.int .u32 area] 22) = V := ⟨_, rfl⟩
        have BVC : Hid (Below W4.heap.size W4 VC) := Lib.hid (by rw [← hVC]; exact (Below.refl _ _).alloc (Nat.le_refl _) _)
        have BKW : Hid (VC.heap[W4.heap.size]? = some (.cells (u32E area).toArray 22 (0, 0))) := Lib.hid (by rw [← hVC]; exact alloc_new _ _)
        have OW2 := Lib.hid (own_below P4.out BVC.out)
        have BS2 : Hid (W8.heap.size ≤ VC.heap.size) := Lib.hid (Nat.le_trans P8.out BVC.out.size)
        have HVC := Lib.hid hVC
        clear hVC
        go_wp2_with (at_builtin; rw [HVC.out]; refine wpList_append_1 rfl (.tmp 51) (.tmp 54) 54 rfl rowWd W8.heap.size u8 k _ ?g7 OW2.out W4.heap.size (u32E area) 22 ?g8 BKW.out rfl (u32E_one1 _) KN.out BS2.out ?_; (case g7 => exact rfl); (case g8 => exact rfl); intro v2 w5 own' hg4 dj; have NX := Lib.hid (NXT.out W4 _ P2.out P3.out P4.out P5.out P6.out VC w5 v2 BVC.out own' hg4 dj); clear own' hg4 dj)
        go_roundw
        case rel => exact ⟨k + 1, _, by go_num, NX.out⟩
        case measure => simp [intOf]; have := KC.out; omega
      · obtain rfl : k = ifs.length := by omega
        have wd := RR.out.wd
        rw [List.take_length] at wd
        have WD : Hid (WdsOwn W8.heap.size wr u8 (ifs.map If9.area)) := Lib.hid (by unfold WdsOwn; rw [List.length_map]; exact wd)
        have SO := Lib.hid (sort_words W8.heap.size wr u8 (ifs.map If9.area) WD.out (by rw [List.length_map]; have := CL2.out; omega))
        clear wd c
        go_upto_region 16 with (go_at_call 16; refine SO.out.mono ?_; rintro e w2 ⟨rfl, O2, B2, G2⟩)
        have O3 : Hid (WdsOwn W8.heap.size w2 u8 ((ifs.map If9.area).mergeSort fun x y => decide (x ≤ y))) := Lib.hid (by unfold WdsOwn; rw [List.length_mergeSort]; exact O2)
        have GG : Hid (W8.grownBy w2 (some wc.heap.size)) := Lib.hid (grown_new RR.out.g G2 (fun j hj => (World.ownsRow.lt RR.out.wd j hj).1))
        have K2 : Hid (w2.heap[wc.heap.size]? = some (.cells (lsE r now (.slice a5 ifs.length c5) (.slice a6 rgs.length c6) vs (.slice none 0 0)).toArray 33 (0, 0))) := Lib.hid ((B2.block _ S8.out).trans RR.out.blk)
        have ST2 : Hid (w2.ownsRow W8.heap.size 73 15 vs ifs.length ((ifs.map ifsE).flatten)) := Lib.hid (by
          have := RR.out.st
          rw [List.take_length] at this
          exact World.ownsRow.kept this G2 RR.out.dj)
        have DJ := Lib.hid RR.out.dj
        clear SO WD O2 B2 G2
        have UB : Hid (∀ j, u8.ownBlock = some j → W8.heap.size ≤ j) := Lib.hid (fun j hj => (World.ownsRow.lt RR.out.wd j hj).1)
        clear RR
        have CO := Lib.hid (compact_any W8.heap.size w2 u8 _ O3.out)
        go_wp2_with (go_at_call 17; refine CO.out.mono ?_; rintro e w3 ⟨v3, rfl, O4, B4, G4⟩; have O5 : WdsOwn W8.heap.size w3 v3 (areasL ifs) := O4; obtain ⟨a7, c7, e7, w7⟩ := (wds_at O5).get; subst e7; have W7 := Lib.hid w7; have O5 := Lib.hid O5; have B4 := Lib.hid B4; have G4 := Lib.hid G4; clear O4 w7)
        have AL : Hid ((areasL ifs).length ≤ 16) := Lib.hid (Nat.le_trans (areas_len ifs) CL2.out.1)
        have K3 : Hid (w3.heap[wc.heap.size]? = some (.cells (lsE r now (.slice a5 ifs.length c5) (.slice a6 rgs.length c6) vs (.slice none 0 0)).toArray 33 (0, 0))) := Lib.hid ((B4.out.block _ S8.out).trans K2.out)
        have ST3 : Hid (w3.ownsRow W8.heap.size 73 15 vs ifs.length ((ifs.map ifsE).flatten)) := Lib.hid (World.ownsRow.kept ST2.out G4.out DJ.out)
        have G3 : Hid (W8.grownBy w3 (some wc.heap.size)) := Lib.hid (grown_new GG.out G4.out UB.out)
        have HX : Hid (∀ wr : World, w3.grownBy wr (some wc.heap.size) → 0 < (areasL ifs).length → ∃ b off, a7 = some ⟨b, off, none⟩ ∧ ∀ i (h : i < (areasL ifs).length), wr.cell? ⟨b, off + i, none⟩ = some (.int .u32 (areasL ifs)[i])) := Lib.hid (fun wr g h0 => by
          obtain ⟨b, off, rfl, hb, hc⟩ := W7.out h0
          refine ⟨b, off, rfl, fun i hi => (World.cell?_of_block (w := w3) (w' := wr) (g.block b hb (fun e => ?_))).trans (hc i hi)⟩
          cases e
          have := (World.ownsRow.lt O5.out wc.heap.size rfl).1
          have := S8.out
          omega)
        have KF : Hid (∀ (b : Nat) (wr : World), b < wc.heap.size → w3.grownBy wr (some wc.heap.size) → wr.heap[b]? = wc.heap[b]?) := Lib.hid (fun b wr hb g => (g.block b (by have := G3.out.size; have := S8.out; omega) (fun e => by cases e; omega)).trans (KB.out b w3 hb G3.out))
        clear CO W7 O5 K2 ST2 GG UB DJ B4 G4 O3
        have R0 : Hid (L2 w3 wc.heap.size r now (.slice a5 ifs.length c5) (.slice a6 rgs.length c6) vs (areasL ifs) 0 (.slice none 0 0) w3) := Lib.hid ⟨Nat.zero_le _, K3.out, World.ownsRow_nil _ _ _ _, grown_refl _ _⟩
        have NDF : Hid (∀ x, x = areasL ifs → NwPost w ⟨r, ifs, rgs, now, x⟩ 0 = NwPost w ⟨r, ifs, rgs, now, areasL ifs⟩ 0) := Lib.hid (fun x e => by rw [e])
        generalize hla : areasL ifs = la at *
        have HLA := Lib.hid hla
        clear hla
        go_loopw [62] (fun i wr => ∃ (k : Nat) (va : Value), i = .int .i64 k ∧ L2 w3 wc.heap.size r now (.slice a5 ifs.length c5) (.slice a6 rgs.length c6) vs la k va wr) (fun i _ => la.length - (intOf i).toNat)
        case atStart => exact ⟨0, _, rfl, R0.out⟩
        case round =>
          clear R0
          obtain ⟨k, va, rfl, R⟩ := hrel
          have RR := Lib.hid R
          have hk := R.hk
          clear R
          by_cases c : k < la.length
          · have KC := Lib.hid c
            obtain ⟨b, off, rfl, hcc⟩ := HX.out wr RR.out.g (by omega)
            have hl16 := AL.out
            have d0 := hcc k c
            have CUT := Lib.hid (fun W3 W4 va' hb o g => RR.out.put (by have := G3.out.size; have := S8.out; omega : wc.heap.size < w3.heap.size) c (W3 := W3) (W4 := W4) (va' := va') hb o g)
            generalize la[k] = x at *
            have i0 : (0 : Int) ≤ (k : Int) := by omega
            have i1 : (k : Int) < (la.length : Int) := by omega
            have s3 : ((k : Int)).toNat = k := by omega
            have g5 : wr.cell? ⟨wc.heap.size, 5, none⟩ = some va := blk_cell RR.out.blk rfl
            clear hcc
            obtain ⟨VA, hVA⟩ : ∃ V, wr.alloc (.cells #[.int .u32 x, .slice none 0 0] 50) = V := ⟨_, rfl⟩
            have BVA : Hid (Below wr.heap.size wr VA) := Lib.hid (by rw [← hVA]; exact (Below.refl _ _).alloc (Nat.le_refl _) _)
            have BKA : Hid (VA.heap[wr.heap.size]? = some (.cells (arE x).toArray 50 (0, 0))) := Lib.hid (by rw [← hVA]; exact alloc_new _ _)
            have OW := Lib.hid (own_below RR.out.ar BVA.out)
            have BS : Hid (w3.heap.size ≤ VA.heap.size) := Lib.hid (Nat.le_trans RR.out.g.size BVA.out.size)
            have KN : Hid (k ≤ 100000) := Lib.hid (by have := AL.out; omega)
            have HVA := Lib.hid hVA
            clear hVA
            go_wp2_with (at_builtin; rw [HVA.out]; refine wpList_append_1 rfl (.tmp 67) (.tmp 70) 29 rfl rowAr w3.heap.size va k _ ?g7 OW.out wr.heap.size (arE x) 50 ?g8 BKA.out rfl (arE_one1 _) KN.out BS.out ?_; (case g7 => exact rfl); (case g8 => exact rfl); intro v1 w4 own' hg4 dj; obtain ⟨a1, n1, k1, e1⟩ := own_slice own'; subst e1; obtain ⟨p1, p2⟩ := CUT.out VA w4 _ BVA.out own' hg4; have h5 := blk_cell (i := 5) p1 rfl; have hf5 := blk_free p1 5; have P2 := Lib.hid p2; clear own' hg4 dj p1 p2 CUT g5 d0 HVA)
            go_roundw
            case rel => exact ⟨k + 1, _, by go_num, P2.out⟩
            case measure => simp [intOf]; have := KC.out; omega
          · obtain rfl : k = la.length := by omega
            clear c hk
            have Z1 := (KF.out _ wr (by have := SM.out; omega) RR.out.g).trans ZM.out
            have AR := RR.out.ar
            rw [List.take_length] at AR
            have STW := World.ownsRow.kept ST3.out RR.out.g (by
              by_cases n : vs.ownBlock = none
              · exact .inl n
              · exact .inr (fun e => by have := (World.ownsRow.lt ST3.out wc.heap.size e).1; have := S8.out; omega))
            have x0 : wr.cell? ⟨wc.heap.size, 0, none⟩ = some (.int .u32 r) := blk_cell RR.out.blk rfl
            have x1 : wr.cell? ⟨wc.heap.size, 1, none⟩ = some (.slice a5 ifs.length c5) := blk_cell RR.out.blk rfl
            have x2 : wr.cell? ⟨wc.heap.size, 2, none⟩ = some (.slice a6 rgs.length c6) := blk_cell RR.out.blk rfl
            have x3 : wr.cell? ⟨wc.heap.size, 3, none⟩ = some (.int .i64 now) := blk_cell RR.out.blk rfl
            obtain ⟨a8, n8, k8, e8⟩ := own_slice STW
            subst e8
            obtain ⟨aa, na, ca, ea⟩ := own_slice AR
            subst ea
            have x4 : wr.cell? ⟨wc.heap.size, 4, none⟩ = some (.slice a8 n8 k8) := blk_cell RR.out.blk rfl
            have x5 : wr.cell? ⟨wc.heap.size, 5, none⟩ = some (.slice aa na ca) := blk_cell RR.out.blk rfl
            have x6 : wr.cell? ⟨wc.heap.size, 6, none⟩ = some (.slice none 0 0) := blk_cell RR.out.blk rfl
            have x7 : wr.cell? ⟨wc.heap.size, 7, none⟩ = some (.slice none 0 0) := blk_cell RR.out.blk rfl
            have BR : Below w.heap.size w wr := ((B8.out.grown G3.out (by have := BM.out.size; have := S8.out; omega) (fun j hj => by cases hj; have := SM.out; omega)).grown RR.out.g (by have := SM.out; have := S8.out; have := G3.out.size; omega) (fun j hj => by cases hj; have := SM.out; omega))
            obtain ⟨W', hW'⟩ : ∃ W', put8 wr (w.heap.size + 1) (.int .u32 r) (.slice a5 ifs.length c5) (.slice a6 rgs.length c6) (.int .i64 now) (.slice a8 n8 k8) (.slice aa na ca) (.slice none 0 0) (.slice none 0 0) = W' := ⟨_, rfl⟩
            have bk' := put8_blk Z1 (.int .u32 r) (.slice a5 ifs.length c5) (.slice a6 rgs.length c6) (.int .i64 now) (.slice a8 n8 k8) (.slice aa na ca) (.slice none 0 0) (.slice none 0 0)
            rw [hW'] at bk'
            have gk' := put8_grown wr (w.heap.size + 1) (.int .u32 r) (.slice a5 ifs.length c5) (.slice a6 rgs.length c6) (.int .i64 now) (.slice a8 n8 k8) (.slice aa na ca) (.slice none 0 0) (.slice none 0 0)
            rw [hW'] at gk'
            have FIN := Lib.hid (by
              have TB := fun b (h1 : w.heap.size + 2 ≤ b) (h2 : b < wc.heap.size) => (gk'.block b (by have := BR.size; have := SM.out; have := RR.out.g.size; have := G3.out.size; have := S8.out; omega) (fun e => by cases e; omega)).trans (KF.out b wr h2 RR.out.g)
              have TS : wc.heap.size ≤ W'.heap.size := by have := gk'.size; have := RR.out.g.size; have := G3.out.size; have := S8.out; omega
              have NE : ∀ (v : Value) (e : TypeId) (B k n : Nat) (xs : List Value), w.heap.size + 2 ≤ B → wr.ownsRow B e k v n xs → W'.ownsRow B e k v n xs := fun v e B k n xs hB h => World.ownsRow.kept h gk' (by
                by_cases q : v.ownBlock = none
                · exact .inl q
                · exact .inr (fun e => by have := (World.ownsRow.lt h _ e).1; omega))
              refine (⟨_, _, _, _, rfl, ⟨(IM2.out.of_block TB TS).s, (RM.out.of_block TB TS).s, SlV.of_own (ifsE_len ifs) (by rw [List.length_map]; exact NE _ _ _ _ _ _ (by have := SM.out; have := S8.out; omega) STW), SlV.of_own (arE_len la) (by rw [List.length_map]; exact NE _ _ _ _ _ _ (by have := SM.out; have := S8.out; have := G3.out.size; omega) AR)⟩, BR.grown gk' BR.size (fun j hj => by cases hj; omega)⟩ : NwPost w ⟨r, ifs, rgs, now, la⟩ 0 (.returned (.tuple #[.agg #[.int .u32 r, .slice a5 ifs.length c5, .slice a6 rgs.length c6, .int .i64 now, .slice a8 n8 k8, .slice aa na ca, .slice none 0 0, .slice none 0 0], .int .i64 0])) W'))
            unfold put8 at hW'
            have HW' := Lib.hid hW'
            have g0 : W'.cell? ⟨w.heap.size + 1, 0, none⟩ = some (.int .u32 r) := blk_cell bk' rfl
            have g1 : W'.cell? ⟨w.heap.size + 1, 1, none⟩ = some (.slice a5 ifs.length c5) := blk_cell bk' rfl
            have g2 : W'.cell? ⟨w.heap.size + 1, 2, none⟩ = some (.slice a6 rgs.length c6) := blk_cell bk' rfl
            have g3 : W'.cell? ⟨w.heap.size + 1, 3, none⟩ = some (.int .i64 now) := blk_cell bk' rfl
            have g4 : W'.cell? ⟨w.heap.size + 1, 4, none⟩ = some (.slice a8 n8 k8) := blk_cell bk' rfl
            have g5 : W'.cell? ⟨w.heap.size + 1, 5, none⟩ = some (.slice aa na ca) := blk_cell bk' rfl
            have g6 : W'.cell? ⟨w.heap.size + 1, 6, none⟩ = some (.slice none 0 0) := blk_cell bk' rfl
            have g7 : W'.cell? ⟨w.heap.size + 1, 7, none⟩ = some (.slice none 0 0) := blk_cell bk' rfl
            have G := Lib.hid (And.intro g0 (And.intro g1 (And.intro g2 (And.intro g3 (And.intro g4 (And.intro g5 (And.intro g6 g7)))))))
            have z0 : wr.cell? ⟨w.heap.size + 1, 0, none⟩ = some (.int .u32 0) := blk_cell Z1 rfl
            have zf0 := blk_free Z1 0
            have z1 : wr.cell? ⟨w.heap.size + 1, 1, none⟩ = some (.slice none 0 0) := blk_cell Z1 rfl
            have zf1 := blk_free Z1 1
            have z2 : wr.cell? ⟨w.heap.size + 1, 2, none⟩ = some (.slice none 0 0) := blk_cell Z1 rfl
            have zf2 := blk_free Z1 2
            have z3 : wr.cell? ⟨w.heap.size + 1, 3, none⟩ = some (.int .i64 0) := blk_cell Z1 rfl
            have zf3 := blk_free Z1 3
            have z4 : wr.cell? ⟨w.heap.size + 1, 4, none⟩ = some (.slice none 0 0) := blk_cell Z1 rfl
            have zf4 := blk_free Z1 4
            have z5 : wr.cell? ⟨w.heap.size + 1, 5, none⟩ = some (.slice none 0 0) := blk_cell Z1 rfl
            have zf5 := blk_free Z1 5
            have z6 : wr.cell? ⟨w.heap.size + 1, 6, none⟩ = some (.slice none 0 0) := blk_cell Z1 rfl
            have zf6 := blk_free Z1 6
            have z7 : wr.cell? ⟨w.heap.size + 1, 7, none⟩ = some (.slice none 0 0) := blk_cell Z1 rfl
            have zf7 := blk_free Z1 7
            clear hW' bk' gk' g0 g1 g2 g3 g4 g5 g6 g7
            clear RR
            go_wp2_with fail
            rw [HW'.out]
            obtain ⟨g0, g1, g2, g3, g4, g5, g6, g7⟩ := G.out
            exact bodyPost_ret (v := .tuple #[.agg #[.int .u32 r, .slice a5 ifs.length c5, .slice a6 rgs.length c6, .int .i64 now, .slice a8 n8 k8, .slice aa na ca, .slice none 0 0, .slice none 0 0], .int .i64 0]) (by simp [results, Tryz.results5, go_sem, g0, g1, g2, g3, g4, g5, g6, g7]) rfl FIN.out

end Go.Proofs.YtombnejipaoinaaGreat
