/-
  routingref35.New.
-/
import Derived.Test.YtombnejipaoinaaGreatNwl
import Derived.Deep.AppendLies
namespace Go.Proofs.YtombnejipaoinaaGreat
open Go.RowKit

def areasK (ifs : List If9) (k : Nat) : List Int := Ls.adds iLt [] ((ifs.take k).map If9.area)
theorem areasK_succ {ifs : List If9} {k : Nat} (c : k < ifs.length) : areasK ifs (k + 1) = Ls.add iLt (areasK ifs k) ifs[k].area := by
  unfold areasK
  rw [List.take_succ_eq_append_getElem c, List.map_append]
  exact adds_snoc _ _
theorem add_len (l : List Int) (x : Int) : (Ls.add iLt l x).length ≤ l.length + 1 := by
  induction l with
  | nil => simp [Ls.add]
  | cons y r ih =>
    unfold Ls.add
    split
    · simp
    · split
      · simp
      · simp only [List.length_cons]; omega
theorem areasK_len (ifs : List If9) : ∀ k, k ≤ ifs.length → (areasK ifs k).length ≤ k
  | 0, _ => by simp [areasK, Ls.adds]
  | k + 1, h => by
    rw [areasK_succ (by omega)]
    have := add_len (areasK ifs k) ifs[k].area
    have := areasK_len ifs k (by omega)
    omega

theorem step_append_1 {P : Program} {w : World} {ops : Array Oper} {o : Oper} {a : Act} {K : Act → World → Prop} {Q : Exit → Act → World → Prop} {E : Prop} (hgd : o.guard = none) (s x : Operand) (t : TypeId)
    (ho : o.op = .call { callee := .builtin .append, args := #[s, x], argTypes := #[t, t] })
    {e : TypeId} {size bytes : Nat} (R : RowT P t e size bytes) (base : Nat) (v : Value) (n : Nat) (xs : List Value) (hs : a.eval s = v) (hown : w.ownsRow base e size v n xs)
    (nb : Nat) (vals : List Value) (te : TypeId) (hx : a.eval x = .slice (some ⟨nb, 0, none⟩) 1 1) (hblk : w.heap[nb]? = some (.cells vals.toArray te (0, 0))) (hl : vals.length = size) (h1 : ∀ u ∈ vals, u.oneCell' = true)
    (hn : n ≤ 100000) (hbase : base ≤ w.heap.size)
    (h : ∀ g cap w', w'.ownsRow base e size (.slice (some ⟨g, 0, none⟩) (n + 1) cap) (n + 1) (xs ++ vals) → w.grownBy w' v.ownBlock → (v.ownBlock = some g ∨ g = w.heap.size) → K (a.put o.dst (.slice (some ⟨g, 0, none⟩) (n + 1) cap)) w') :
    if Region.wanted o (yielded ops a.tmps) = true then Oper.wp P o a w K Q else E := by
  obtain ⟨z, hi, hz⟩ := R.i
  obtain ⟨i0, hi0, hz0, hz1, hz2⟩ := info_parts hi
  have hb : (n + 1) * bytes ≤ 100001 * 1000 := Nat.mul_le_mul (by omega) R.b
  refine step_append_lies w hgd s x t ho base e i0 z size bytes R.u hi0 hz0 hz1 hz2 hz R.s v n xs hs hown ⟨nb, 0, none⟩ 1 1 vals hx (by omega) (fun j u hu => ?_) h1 (by decide) (by unfold maxLen; omega) (by omega) hbase w.heap.size rfl (fun g cap w' q1 q2 q3 _ => h g cap w' q1 q2 q3)
  rw [show (⟨nb, 0, none⟩ : Addr).add j = ⟨nb, j, none⟩ from by simp [Addr.add]; exact fun h => h.symm]
  exact blk_cell hblk (by simpa using hu)

/-- the head of the loop -/
structure L3 (Wb : World) (sb : Nat) (r now : Int) (vi vr : Value) (ifs : List If9) (k j : Nat) (vs va : Value) (wr : World) : Prop where
  hk : k ≤ ifs.length
  blk : wr.heap[sb]? = some (.cells (lsE r now vi vr vs va).toArray 33 (0, 0))
  st : wr.ownsRow Wb.heap.size 73 15 vs k (((ifs.take k).map ifsE).flatten)
  ar : Cp 2 Wb.heap.size ((areasK ifs j).map arE) va wr
  dj : ∀ b off n c, va = .slice (some ⟨b, off, none⟩) n c → vs.ownBlock ≠ some b
  g : Wb.grownBy wr (some sb)
  vl : ∀ b off n c, va = .slice (some ⟨b, off, none⟩) n c → b < wr.heap.size

theorem Cp.kept {k B : Nat} {css : List (List Value)} {v : Value} {w w' : World} {row : Option Nat} (h : Cp k B css v w) (hg : w.grownBy w' row) (hb : ∀ b off n c, v = .slice (some ⟨b, off, none⟩) n c → row ≠ some b) : Cp k B css v w' := ⟨h.s.kept hg hb, h.f⟩
theorem Cp.lt {k B : Nat} {css : List (List Value)} {v : Value} {w : World} (h : Cp k B css v w) (hp : 0 < css.length) : ∀ b off n c, v = .slice (some ⟨b, off, none⟩) n c → b < w.heap.size := by
  intro b off n c e
  obtain ⟨a, cap, e1, -, -, -, h4⟩ := h.s
  obtain ⟨b', off', ea, h5, -⟩ := h4 hp
  rw [e1] at e
  cases e
  cases ea
  exact h5

theorem L3.put {Wb : World} {sb : Nat} {r now : Int} {vi vr : Value} {ifs : List If9} {k : Nat} {vs va : Value} {wr : World} (R : L3 Wb sb r now vi vr ifs k k vs va wr) (hs : sb < Wb.heap.size) (c : k < ifs.length) {W2 W3 : World} {vs' : Value} (hb : Below wr.heap.size wr W2)
    (own' : W3.ownsRow Wb.heap.size 73 15 vs' (k + 1) (((ifs.take k).map ifsE).flatten ++ ifsE ifs[k])) (hg : W2.grownBy W3 vs.ownBlock) (dj : vs'.ownBlock = vs.ownBlock ∨ vs'.ownBlock = some W2.heap.size) :
    W3.heap[sb]? = some (.cells (lsE r now vi vr vs va).toArray 33 (0, 0)) ∧ L3 Wb sb r now vi vr ifs (k + 1) k vs' va (W3.setCell ⟨sb, 4, none⟩ vs') := by
  have gs := R.g.size
  have hsw : sb < wr.heap.size := Nat.lt_of_lt_of_le hs gs
  have h2 : W2.heap[sb]? = some (.cells (lsE r now vi vr vs va).toArray 33 (0, 0)) := (hb.block _ hsw).trans R.blk
  have nsb : ∀ j, vs.ownBlock = some j → Wb.heap.size ≤ j ∧ j < wr.heap.size := fun j hj => World.ownsRow.lt R.st j hj
  have h3 : W3.heap[sb]? = some (.cells (lsE r now vi vr vs va).toArray 33 (0, 0)) := (hg.block _ (blk_lt h2) (fun e => by have := (nsb sb e.symm).1; omega)).trans h2
  have g3 : Wb.grownBy W3 (some sb) := grown_new (grown_new R.g (grown_below hb none) (fun j hj => by cases hj)) hg (fun j hj => (nsb j hj).1)
  refine ⟨h3, c, ?_, ?_, (((R.ar.below hb).kept hg R.dj).set sb 4 vs' hs), fun b off n c e => ?_, grown_same g3 (grown_one W3 sb 4 vs'), fun b off n c e => by have := R.vl b off n c e; have := hb.size; have := hg.size; simp only [World.setCell, Array.size_modify]; omega⟩
  · have h1 := blk_set h3 4 vs'
    simp only [lsE, List.setIfInBounds_toArray, List.set_cons_zero, List.set_cons_succ] at h1
    exact h1
  · have o2 : W3.ownsRow Wb.heap.size 73 15 vs' (k + 1) (((ifs.take (k + 1)).map ifsE).flatten) := by
      rw [List.take_succ_eq_append_getElem c, List.map_append, List.flatten_append]
      simpa using own'
    exact World.ownsRow.kept o2 (grown_one W3 sb 4 vs') (.inr (fun e => by have := (World.ownsRow.lt o2 sb e).1; omega))
  · rcases dj with q | q
    · rw [q]; exact R.dj b off n c e
    · rw [q]; intro h; cases h
      have := R.vl _ off n c e
      have := hb.size
      omega

theorem L3.next {Wb : World} {sb : Nat} {r now : Int} {vi vr : Value} {ifs : List If9} {k : Nat} {vs va : Value} {wr : World} (R : L3 Wb sb r now vi vr ifs (k + 1) k vs va wr) (hs : sb < Wb.heap.size) (c : k < ifs.length) {W2 W3 : World} {va' : Value} (hb : Below wr.heap.size wr W2)
    (own' : W3.ownsRow W2.heap.size 50 2 va' (Ls.add iLt (areasK ifs k) ifs[k].area).length (((Ls.add iLt (areasK ifs k) ifs[k].area)).map arE).flatten) (hb3 : Below W2.heap.size W2 W3) :
    W3.heap[sb]? = some (.cells (lsE r now vi vr vs va).toArray 33 (0, 0)) ∧ L3 Wb sb r now vi vr ifs (k + 1) (k + 1) vs va' (W3.setCell ⟨sb, 5, none⟩ va') := by
  have gs := R.g.size
  have hsw : sb < wr.heap.size := Nat.lt_of_lt_of_le hs gs
  have bb : Below wr.heap.size wr W3 := hb.trans (hb3.mono hb.size)
  have h3 : W3.heap[sb]? = some (.cells (lsE r now vi vr vs va).toArray 33 (0, 0)) := (bb.block _ hsw).trans R.blk
  have st3 := own_below R.st bb
  refine ⟨h3, R.hk, ?_, World.ownsRow.kept st3 (grown_one W3 sb 5 va') (.inr (fun e => by have := (World.ownsRow.lt st3 sb e).1; omega)), ?_, fun b off n c e h => ?_, grown_same (grown_new R.g (grown_below bb none) (fun j hj => by cases hj)) (grown_one W3 sb 5 va'), fun b off n c e => by have := (World.ownsRow.lt own' b (by rw [e]; rfl)).2; simp only [World.setCell, Array.size_modify]; omega⟩
  · have h1 := blk_set h3 5 va'
    simp only [lsE, List.setIfInBounds_toArray, List.set_cons_zero, List.set_cons_succ] at h1
    exact h1
  · rw [areasK_succ c]
    exact ((Cp.of (arE_len _) (by rw [List.length_map]; exact own') (Nat.le_trans gs hb.size) : Cp 2 Wb.heap.size _ va' W3)).set sb 5 va' hs
  · have h1 := (World.ownsRow.lt R.st b h).2
    have h2 := (World.ownsRow.lt own' b (by rw [e]; rfl)).1
    have := hb.size
    omega

set_option maxHeartbeats 16000000 in
set_option maxRecDepth 100000 in
theorem rnew_calls (w : World) (r : Int) (vi vr : Value) (ifs : List If9) (rgs : List Arg) (now : Int) (hi : IfsAt w vi ifs) (hr : RngsAt w vr rgs) (oki : ∀ x ∈ ifs, OkI x) (okr : ∀ o ∈ rgs, OkP o.pfx) :
    Calls Tryz.prog 6 #[.agg #[.int .u32 r, vi, vr], .int .i64 now] w (NwPost w (newD r ifs rgs now) (newC r ifs rgs now)) := by
  have CK := Lib.hid (fun W (g : Below w.heap.size w W) => rkcheck_calls W r vi vr ifs rgs (hi.below g) (hr.below g) oki okr)
  have HI := Lib.hid hi
  have HR := Lib.hid hr
  obtain ⟨ia, ic, rfl, hil, -, -⟩ := hi.get
  obtain ⟨ra, cp, rfl, hrl, -⟩ := hr.get
  clear hi hr oki okr
  obtain ⟨W0, hW0⟩ : ∃ W0, (w.alloc (.cells #[.int .u32 r, .slice ia ifs.length ic, .slice ra rgs.length cp] 26)).alloc (.cells #[.int .u32 0, .slice none 0 0, .slice none 0 0, .int .i64 0, .slice none 0 0, .slice none 0 0, .slice none 0 0, .slice none 0 0] 33) = W0 := ⟨_, rfl⟩
  have B0 : Hid (Below w.heap.size w W0) := Lib.hid (by rw [← hW0]; exact ((Below.refl _ _).alloc (Nat.le_refl _) _).alloc (by simp) _)
  have X0 : Hid (W0.heap[w.heap.size]? = some (.cells #[.int .u32 r, .slice ia ifs.length ic, .slice ra rgs.length cp] 26 (0, 0))) := Lib.hid (by rw [← hW0]; exact (alloc_get _ _ _ (by simp)).trans (alloc_new _ _))
  have Z0 : Hid (W0.heap[w.heap.size + 1]? = some (.cells #[.int .u32 0, .slice none 0 0, .slice none 0 0, .int .i64 0, .slice none 0 0, .slice none 0 0, .slice none 0 0, .slice none 0 0] 33 (0, 0))) := Lib.hid (by rw [← hW0]; have := alloc_new (w.alloc (.cells #[.int .u32 r, .slice ia ifs.length ic, .slice ra rgs.length cp] 26)) (.cells #[.int .u32 0, .slice none 0 0, .slice none 0 0, .int .i64 0, .slice none 0 0, .slice none 0 0, .slice none 0 0, .slice none 0 0] 33); simpa using this)
  have HW0 := Lib.hid hW0
  clear hW0
  have m0 : W0.cell? ⟨w.heap.size, 0, none⟩ = some (.int .u32 r) := blk_cell X0.out rfl
  have m1 : W0.cell? ⟨w.heap.size, 1, none⟩ = some (.slice ia ifs.length ic) := blk_cell X0.out rfl
  have m2 : W0.cell? ⟨w.heap.size, 2, none⟩ = some (.slice ra rgs.length cp) := blk_cell X0.out rfl
  have CK0 := Lib.hid (CK.out W0 B0.out)
  clear CK
  have NC : Hid (newC r ifs rgs now = if cfC r ifs rgs = 0 then (if now < 0 ∨ 1099511627776 < now then 5 else 0) else cfC r ifs rgs) := Lib.hid rfl
  have ND : Hid (newD r ifs rgs now = if newC r ifs rgs now = 0 then ⟨r, ifs, rgs, now, areasL ifs⟩ else LsD.zero) := Lib.hid rfl
  have CL := Lib.hid (fun h : cfC r ifs rgs = 0 => cfC_len h)
  generalize newD r ifs rgs now = nd at *
  generalize newC r ifs rgs now = nc at *
  generalize cfC r ifs rgs = cc at *
  by_cases q : ¬ cc = 0
  · have Q := Lib.hid q
    have q' : (cc != 0) = true := by simpa using q
    have E1 : nc = cc := by rw [NC.out, if_neg q]
    have E2 : nd = LsD.zero := by rw [ND.out, E1, if_neg q]
    subst E1 E2
    clear q NC ND CL
    go_enter Tryz.func6, Tryz.ntmps6
    go_upto_region 1 with fail
    rw [HW0.out]
    go_wp2_with fail
    refine CK0.out.mono ?_
    rintro e w1 ⟨rfl, G1⟩
    have Z1 := (G1.b.block _ (blk_lt Z0.out)).trans Z0.out
    have B1 := Lib.hid (B0.out.trans (G1.b.mono B0.out.size))
    obtain ⟨W', hW'⟩ : ∃ W', put8 w1 (w.heap.size + 1) (.int .u32 0) (.slice none 0 0) (.slice none 0 0) (.int .i64 0) (.slice none 0 0) (.slice none 0 0) (.slice none 0 0) (.slice none 0 0) = W' := ⟨_, rfl⟩
    have bk' := put8_blk Z1 (.int .u32 0) (.slice none 0 0) (.slice none 0 0) (.int .i64 0) (.slice none 0 0) (.slice none 0 0) (.slice none 0 0) (.slice none 0 0)
    rw [hW'] at bk'
    have gk' := put8_grown w1 (w.heap.size + 1) (.int .u32 0) (.slice none 0 0) (.slice none 0 0) (.int .i64 0) (.slice none 0 0) (.slice none 0 0) (.slice none 0 0) (.slice none 0 0)
    rw [hW'] at gk'
    have FIN := Lib.hid (zero_post (c := nc) (B1.out.grown gk' B1.out.size (fun j hj => by cases hj; omega)))
    unfold put8 at hW'
    have HW' := Lib.hid hW'
    have g0 : W'.cell? ⟨w.heap.size + 1, 0, none⟩ = some (.int .u32 0) := blk_cell bk' rfl
    have g1 : W'.cell? ⟨w.heap.size + 1, 1, none⟩ = some (.slice none 0 0) := blk_cell bk' rfl
    have g2 : W'.cell? ⟨w.heap.size + 1, 2, none⟩ = some (.slice none 0 0) := blk_cell bk' rfl
    have g3 : W'.cell? ⟨w.heap.size + 1, 3, none⟩ = some (.int .i64 0) := blk_cell bk' rfl
    have g4 : W'.cell? ⟨w.heap.size + 1, 4, none⟩ = some (.slice none 0 0) := blk_cell bk' rfl
    have g5 : W'.cell? ⟨w.heap.size + 1, 5, none⟩ = some (.slice none 0 0) := blk_cell bk' rfl
    have g6 : W'.cell? ⟨w.heap.size + 1, 6, none⟩ = some (.slice none 0 0) := blk_cell bk' rfl
    have g7 : W'.cell? ⟨w.heap.size + 1, 7, none⟩ = some (.slice none 0 0) := blk_cell bk' rfl
    have G := Lib.hid (And.intro g0 (And.intro g1 (And.intro g2 (And.intro g3 (And.intro g4 (And.intro g5 (And.intro g6 g7)))))))
    have z0 : w1.cell? ⟨w.heap.size + 1, 0, none⟩ = some (.int .u32 0) := blk_cell Z1 rfl
    have zf0 := blk_free Z1 0
    have z1 : w1.cell? ⟨w.heap.size + 1, 1, none⟩ = some (.slice none 0 0) := blk_cell Z1 rfl
    have zf1 := blk_free Z1 1
    have z2 : w1.cell? ⟨w.heap.size + 1, 2, none⟩ = some (.slice none 0 0) := blk_cell Z1 rfl
    have zf2 := blk_free Z1 2
    have z3 : w1.cell? ⟨w.heap.size + 1, 3, none⟩ = some (.int .i64 0) := blk_cell Z1 rfl
    have zf3 := blk_free Z1 3
    have z4 : w1.cell? ⟨w.heap.size + 1, 4, none⟩ = some (.slice none 0 0) := blk_cell Z1 rfl
    have zf4 := blk_free Z1 4
    have z5 : w1.cell? ⟨w.heap.size + 1, 5, none⟩ = some (.slice none 0 0) := blk_cell Z1 rfl
    have zf5 := blk_free Z1 5
    have z6 : w1.cell? ⟨w.heap.size + 1, 6, none⟩ = some (.slice none 0 0) := blk_cell Z1 rfl
    have zf6 := blk_free Z1 6
    have z7 : w1.cell? ⟨w.heap.size + 1, 7, none⟩ = some (.slice none 0 0) := blk_cell Z1 rfl
    have zf7 := blk_free Z1 7
    clear hW' bk' gk' g0 g1 g2 g3 g4 g5 g6 g7
    clear G1 Z1 m0 m1 m2 CK0
    go_wp2_with fail
    rw [HW'.out]
    obtain ⟨g0, g1, g2, g3, g4, g5, g6, g7⟩ := G.out
    exact bodyPost_ret (v := .tuple #[.agg #[.int .u32 0, .slice none 0 0, .slice none 0 0, .int .i64 0, .slice none 0 0, .slice none 0 0, .slice none 0 0, .slice none 0 0], .int .i64 nc]) (by simp [results, Tryz.results6, go_sem, g0, g1, g2, g3, g4, g5, g6, g7]) rfl FIN.out
  have q0 : cc = 0 := by omega
  clear q
  subst q0
  have CL2 := Lib.hid (CL.out rfl)
  by_cases q : now < 0 ∨ 1099511627776 < now
  · have E1 : nc = 5 := by rw [NC.out, if_pos rfl, if_pos q]
    have E2 : nd = LsD.zero := by rw [ND.out, E1]; rfl
    subst E1 E2
    clear NC ND CL
    by_cases q1 : now < 0
    · have q' : decide (now < 0) = true := decide_eq_true q1
      clear q q1
      go_enter Tryz.func6, Tryz.ntmps6
      go_upto_region 1 with fail
      rw [HW0.out]
      go_wp2_with fail
      refine CK0.out.mono ?_
      rintro e w1 ⟨rfl, G1⟩
      have Z1 := (G1.b.block _ (blk_lt Z0.out)).trans Z0.out
      have B1 := Lib.hid (B0.out.trans (G1.b.mono B0.out.size))
      obtain ⟨W', hW'⟩ : ∃ W', put8 w1 (w.heap.size + 1) (.int .u32 0) (.slice none 0 0) (.slice none 0 0) (.int .i64 0) (.slice none 0 0) (.slice none 0 0) (.slice none 0 0) (.slice none 0 0) = W' := ⟨_, rfl⟩
      have bk' := put8_blk Z1 (.int .u32 0) (.slice none 0 0) (.slice none 0 0) (.int .i64 0) (.slice none 0 0) (.slice none 0 0) (.slice none 0 0) (.slice none 0 0)
      rw [hW'] at bk'
      have gk' := put8_grown w1 (w.heap.size + 1) (.int .u32 0) (.slice none 0 0) (.slice none 0 0) (.int .i64 0) (.slice none 0 0) (.slice none 0 0) (.slice none 0 0) (.slice none 0 0)
      rw [hW'] at gk'
      have FIN := Lib.hid (zero_post (c := 5) (B1.out.grown gk' B1.out.size (fun j hj => by cases hj; omega)))
      unfold put8 at hW'
      have HW' := Lib.hid hW'
      have g0 : W'.cell? ⟨w.heap.size + 1, 0, none⟩ = some (.int .u32 0) := blk_cell bk' rfl
      have g1 : W'.cell? ⟨w.heap.size + 1, 1, none⟩ = some (.slice none 0 0) := blk_cell bk' rfl
      have g2 : W'.cell? ⟨w.heap.size + 1, 2, none⟩ = some (.slice none 0 0) := blk_cell bk' rfl
      have g3 : W'.cell? ⟨w.heap.size + 1, 3, none⟩ = some (.int .i64 0) := blk_cell bk' rfl
      have g4 : W'.cell? ⟨w.heap.size + 1, 4, none⟩ = some (.slice none 0 0) := blk_cell bk' rfl
      have g5 : W'.cell? ⟨w.heap.size + 1, 5, none⟩ = some (.slice none 0 0) := blk_cell bk' rfl
      have g6 : W'.cell? ⟨w.heap.size + 1, 6, none⟩ = some (.slice none 0 0) := blk_cell bk' rfl
      have g7 : W'.cell? ⟨w.heap.size + 1, 7, none⟩ = some (.slice none 0 0) := blk_cell bk' rfl
      have G := Lib.hid (And.intro g0 (And.intro g1 (And.intro g2 (And.intro g3 (And.intro g4 (And.intro g5 (And.intro g6 g7)))))))
      have z0 : w1.cell? ⟨w.heap.size + 1, 0, none⟩ = some (.int .u32 0) := blk_cell Z1 rfl
      have zf0 := blk_free Z1 0
      have z1 : w1.cell? ⟨w.heap.size + 1, 1, none⟩ = some (.slice none 0 0) := blk_cell Z1 rfl
      have zf1 := blk_free Z1 1
      have z2 : w1.cell? ⟨w.heap.size + 1, 2, none⟩ = some (.slice none 0 0) := blk_cell Z1 rfl
      have zf2 := blk_free Z1 2
      have z3 : w1.cell? ⟨w.heap.size + 1, 3, none⟩ = some (.int .i64 0) := blk_cell Z1 rfl
      have zf3 := blk_free Z1 3
      have z4 : w1.cell? ⟨w.heap.size + 1, 4, none⟩ = some (.slice none 0 0) := blk_cell Z1 rfl
      have zf4 := blk_free Z1 4
      have z5 : w1.cell? ⟨w.heap.size + 1, 5, none⟩ = some (.slice none 0 0) := blk_cell Z1 rfl
      have zf5 := blk_free Z1 5
      have z6 : w1.cell? ⟨w.heap.size + 1, 6, none⟩ = some (.slice none 0 0) := blk_cell Z1 rfl
      have zf6 := blk_free Z1 6
      have z7 : w1.cell? ⟨w.heap.size + 1, 7, none⟩ = some (.slice none 0 0) := blk_cell Z1 rfl
      have zf7 := blk_free Z1 7
      clear hW' bk' gk' g0 g1 g2 g3 g4 g5 g6 g7
      clear G1 Z1 m0 m1 m2 CK0
      go_wp2_with fail
      rw [HW'.out]
      obtain ⟨g0, g1, g2, g3, g4, g5, g6, g7⟩ := G.out
      exact bodyPost_ret (v := .tuple #[.agg #[.int .u32 0, .slice none 0 0, .slice none 0 0, .int .i64 0, .slice none 0 0, .slice none 0 0, .slice none 0 0, .slice none 0 0], .int .i64 5]) (by simp [results, Tryz.results6, go_sem, g0, g1, g2, g3, g4, g5, g6, g7]) rfl FIN.out
    · have q2 : 1099511627776 < now := by omega
      have q' : decide (now < 0) = false := decide_eq_false q1
      have q'' : decide (1099511627776 < now) = true := decide_eq_true q2
      clear q q1 q2
      go_enter Tryz.func6, Tryz.ntmps6
      go_upto_region 1 with fail
      rw [HW0.out]
      go_wp2_with fail
      refine CK0.out.mono ?_
      rintro e w1 ⟨rfl, G1⟩
      have Z1 := (G1.b.block _ (blk_lt Z0.out)).trans Z0.out
      have B1 := Lib.hid (B0.out.trans (G1.b.mono B0.out.size))
      obtain ⟨W', hW'⟩ : ∃ W', put8 w1 (w.heap.size + 1) (.int .u32 0) (.slice none 0 0) (.slice none 0 0) (.int .i64 0) (.slice none 0 0) (.slice none 0 0) (.slice none 0 0) (.slice none 0 0) = W' := ⟨_, rfl⟩
      have bk' := put8_blk Z1 (.int .u32 0) (.slice none 0 0) (.slice none 0 0) (.int .i64 0) (.slice none 0 0) (.slice none 0 0) (.slice none 0 0) (.slice none 0 0)
      rw [hW'] at bk'
      have gk' := put8_grown w1 (w.heap.size + 1) (.int .u32 0) (.slice none 0 0) (.slice none 0 0) (.int .i64 0) (.slice none 0 0) (.slice none 0 0) (.slice none 0 0) (.slice none 0 0)
      rw [hW'] at gk'
      have FIN := Lib.hid (zero_post (c := 5) (B1.out.grown gk' B1.out.size (fun j hj => by cases hj; omega)))
      unfold put8 at hW'
      have HW' := Lib.hid hW'
      have g0 : W'.cell? ⟨w.heap.size + 1, 0, none⟩ = some (.int .u32 0) := blk_cell bk' rfl
      have g1 : W'.cell? ⟨w.heap.size + 1, 1, none⟩ = some (.slice none 0 0) := blk_cell bk' rfl
      have g2 : W'.cell? ⟨w.heap.size + 1, 2, none⟩ = some (.slice none 0 0) := blk_cell bk' rfl
      have g3 : W'.cell? ⟨w.heap.size + 1, 3, none⟩ = some (.int .i64 0) := blk_cell bk' rfl
      have g4 : W'.cell? ⟨w.heap.size + 1, 4, none⟩ = some (.slice none 0 0) := blk_cell bk' rfl
      have g5 : W'.cell? ⟨w.heap.size + 1, 5, none⟩ = some (.slice none 0 0) := blk_cell bk' rfl
      have g6 : W'.cell? ⟨w.heap.size + 1, 6, none⟩ = some (.slice none 0 0) := blk_cell bk' rfl
      have g7 : W'.cell? ⟨w.heap.size + 1, 7, none⟩ = some (.slice none 0 0) := blk_cell bk' rfl
      have G := Lib.hid (And.intro g0 (And.intro g1 (And.intro g2 (And.intro g3 (And.intro g4 (And.intro g5 (And.intro g6 g7)))))))
      have z0 : w1.cell? ⟨w.heap.size + 1, 0, none⟩ = some (.int .u32 0) := blk_cell Z1 rfl
      have zf0 := blk_free Z1 0
      have z1 : w1.cell? ⟨w.heap.size + 1, 1, none⟩ = some (.slice none 0 0) := blk_cell Z1 rfl
      have zf1 := blk_free Z1 1
      have z2 : w1.cell? ⟨w.heap.size + 1, 2, none⟩ = some (.slice none 0 0) := blk_cell Z1 rfl
      have zf2 := blk_free Z1 2
      have z3 : w1.cell? ⟨w.heap.size + 1, 3, none⟩ = some (.int .i64 0) := blk_cell Z1 rfl
      have zf3 := blk_free Z1 3
      have z4 : w1.cell? ⟨w.heap.size + 1, 4, none⟩ = some (.slice none 0 0) := blk_cell Z1 rfl
      have zf4 := blk_free Z1 4
      have z5 : w1.cell? ⟨w.heap.size + 1, 5, none⟩ = some (.slice none 0 0) := blk_cell Z1 rfl
      have zf5 := blk_free Z1 5
      have z6 : w1.cell? ⟨w.heap.size + 1, 6, none⟩ = some (.slice none 0 0) := blk_cell Z1 rfl
      have zf6 := blk_free Z1 6
      have z7 : w1.cell? ⟨w.heap.size + 1, 7, none⟩ = some (.slice none 0 0) := blk_cell Z1 rfl
      have zf7 := blk_free Z1 7
      clear hW' bk' gk' g0 g1 g2 g3 g4 g5 g6 g7
      clear G1 Z1 m0 m1 m2 CK0
      go_wp2_with fail
      rw [HW'.out]
      obtain ⟨g0, g1, g2, g3, g4, g5, g6, g7⟩ := G.out
      exact bodyPost_ret (v := .tuple #[.agg #[.int .u32 0, .slice none 0 0, .slice none 0 0, .int .i64 0, .slice none 0 0, .slice none 0 0, .slice none 0 0, .slice none 0 0], .int .i64 5]) (by simp [results, Tryz.results6, go_sem, g0, g1, g2, g3, g4, g5, g6, g7]) rfl FIN.out
  have q1 : decide (now < 0) = false := decide_eq_false (by omega)
  have q2 : decide (1099511627776 < now) = false := decide_eq_false (by omega)
  have E1 : nc = 0 := by rw [NC.out, if_pos rfl, if_neg q]
  have E2 : nd = ⟨r, ifs, rgs, now, areasL ifs⟩ := by rw [ND.out, E1]; rfl
  subst E1 E2
  clear NC ND CL q
  go_enter Tryz.func6, Tryz.ntmps6
  go_upto_region 1 with fail
  rw [HW0.out]
  go_wp2_with fail
  refine CK0.out.mono ?_
  rintro e w1 ⟨rfl, G1⟩
  have X1 : Hid (w1.heap[w.heap.size]? = some (.cells #[.int .u32 r, .slice ia ifs.length ic, .slice ra rgs.length cp] 26 (0, 0))) := Lib.hid ((G1.b.block _ (blk_lt X0.out)).trans X0.out)
  have Z1 : Hid (w1.heap[w.heap.size + 1]? = some (.cells #[.int .u32 0, .slice none 0 0, .slice none 0 0, .int .i64 0, .slice none 0 0, .slice none 0 0, .slice none 0 0, .slice none 0 0] 33 (0, 0))) := Lib.hid ((G1.b.block _ (blk_lt Z0.out)).trans Z0.out)
  have B1 := Lib.hid (B0.out.trans (G1.b.mono B0.out.size))
  clear G1 m0 m1 m2 CK0 X0 Z0 B0 HW0
  have S1 : Hid (w.heap.size + 2 ≤ w1.heap.size) := Lib.hid (by have := blk_lt Z1.out; omega)
  have mixed : Tryz.prog.follows .mixedOrders = true := by kernel_rfl
  have x0 : w1.cell? ⟨w.heap.size, 0, none⟩ = some (.int .u32 r) := blk_cell X1.out rfl
  have x1 : w1.cell? ⟨w.heap.size, 1, none⟩ = some (.slice ia ifs.length ic) := blk_cell X1.out rfl
  have x2 : w1.cell? ⟨w.heap.size, 2, none⟩ = some (.slice ra rgs.length cp) := blk_cell X1.out rfl
  obtain ⟨W8, hW8⟩ : ∃ W8, w1.alloc (.cells #[.int .u32 r, .slice ia ifs.length ic, .slice ra rgs.length cp, .int .i64 now, .slice none 0 0, .slice none 0 0, .slice none 0 0, .slice none 0 0] 33) = W8 := ⟨_, rfl⟩
  have K8 : W8.heap[w1.heap.size]? = some (.cells (lsE r now (.slice ia ifs.length ic) (.slice ra rgs.length cp) (.slice none 0 0) (.slice none 0 0)).toArray 33 (0, 0)) := by rw [← hW8]; exact alloc_new _ _
  have S7 : W8.heap.size = w1.heap.size + 1 := by rw [← hW8]; simp
  have BW : Below w1.heap.size w1 W8 := by rw [← hW8]; exact (Below.refl _ _).alloc (Nat.le_refl _) _
  have S8 : Hid (w1.heap.size < W8.heap.size) := Lib.hid (by omega)
  have B8 : Hid (Below w.heap.size w W8) := Lib.hid (B1.out.trans (BW.mono B1.out.size))
  have KB : Hid (∀ (b : Nat) (wr : World), b < w1.heap.size → W8.grownBy wr (some w1.heap.size) → wr.heap[b]? = w1.heap[b]?) := Lib.hid (fun b wr hb g => (g.block b (by omega) (fun e => by cases e; omega)).trans (BW.block b hb))
  obtain ⟨_, _, e, hil2, -, hcc⟩ := HI.out.get
  cases e
  have HC : Hid (0 < ifs.length → ∃ b off, ia = some ⟨b, off, none⟩ ∧ ∀ wr : World, W8.grownBy wr (some w1.heap.size) → ∀ i (h : i < ifs.length), IfCells wr b (off + i * 9) ifs[i]) := Lib.hid (fun h0 => by
    obtain ⟨b, off, e, hb, hc⟩ := hcc h0
    exact ⟨b, off, e, fun wr g i hi => (hc i hi).of_block ((KB.out b wr (by have := S1.out; omega) g).trans (B1.out.block b hb))⟩)
  clear hcc
  have R0 : Hid (L3 W8 w1.heap.size r now (.slice ia ifs.length ic) (.slice ra rgs.length cp) ifs 0 0 (.slice none 0 0) (.slice none 0 0) W8) :=
    Lib.hid ⟨Nat.zero_le _, K8, World.ownsRow_nil _ _ _ _, ⟨SlV.nil 2 W8, fun b off n c e => by cases e⟩, fun b off n c e => (by cases e), grown_refl _ _, fun b off n c e => (by cases e)⟩
  have HW8 := Lib.hid hW8
  clear hW8 K8 S7 BW
  go_upto_region 7 with fail
  rw [HW8.out]
  clear x0 x1 x2
  go_wp2_with fail
  go_loopw [8] (fun i wr => ∃ (k : Nat) (vs va : Value), i = .int .i64 k ∧ L3 W8 w1.heap.size r now (.slice ia ifs.length ic) (.slice ra rgs.length cp) ifs k k vs va wr) (fun i _ => ifs.length - (intOf i).toNat)
  case atStart => exact ⟨0, _, _, rfl, R0.out⟩
  case round =>
    clear R0 HW8
    obtain ⟨k, vs, va, rfl, R⟩ := hrel
    have RR := Lib.hid R
    have hk := R.hk
    clear R
    have XW := (KB.out w.heap.size wr (by have := S1.out; omega) RR.out.g).trans X1.out
    have x1 : wr.cell? ⟨w.heap.size, 1, none⟩ = some (.slice ia ifs.length ic) := blk_cell XW rfl
    clear XW
    by_cases c : k < ifs.length
    · have KC := Lib.hid c
      obtain ⟨b, off, rfl, hcc⟩ := HC.out (by omega)
      obtain ⟨⟨d0, d1, d2, d3⟩, d4, d5, d6, d7, d8⟩ : IfCells wr b (off + k * 9) ifs[k] := hcc wr RR.out.g k c
      have HC4 := Lib.hid (fun wr g => (hcc wr g k c).2.1)
      have CUT := Lib.hid (fun W2 W3 vs' hb o g d => RR.out.put S8.out c (W2 := W2) (W3 := W3) (vs' := vs') hb o g d)
      have NXT := Lib.hid (fun wr vs (R : L3 W8 w1.heap.size r now (.slice (some ⟨b, off, none⟩) ifs.length ic) (.slice ra rgs.length cp) ifs (k + 1) k vs va wr) W2 W3 va' hb o h3 => R.next S8.out c (W2 := W2) (W3 := W3) (va' := va') hb o h3)
      generalize hx : ifs[k] = x at *
      obtain ⟨kind, pa, pl, ad, area, cost, prio, hel, dead⟩ := x
      simp only at d0 d1 d2 d3 d4 d5 d6 d7 d8 HC4 NXT
      have i0 : (0 : Int) ≤ (k : Int) := by omega
      have i1 : (k : Int) < (ifs.length : Int) := by omega
      have s3 : ((k : Int)).toNat = k := by omega
      have g4 : wr.cell? ⟨w1.heap.size, 4, none⟩ = some vs := blk_cell RR.out.blk rfl
      have g4a : ∀ o, (wr.alloc o).cell? ⟨w1.heap.size, 4, none⟩ = some vs := fun o => blk_cell ((alloc_get _ o _ (blk_lt RR.out.blk)).trans RR.out.blk) rfl
      clear hcc
      obtain ⟨VB, hVB⟩ : ∃ V, (wr.alloc (.cells #[.int .i64 kind, .int .u32 pa, .int .i64 pl, .int .u32 ad, .int .u32 area, .int .i64 cost, .int .i64 prio, .int .i64 hel, .int .i64 dead, .bool false, .int .u32 0, .int .u32 0, .int .i64 0, .int .i64 0, .slice none 0 0] 73)).drew = V := ⟨_, rfl⟩
      have BVB : Hid (Below wr.heap.size wr VB) := Lib.hid (by rw [← hVB]; exact ((Below.refl _ _).alloc (Nat.le_refl _) _).drew)
      have BKS : Hid (VB.heap[wr.heap.size]? = some (.cells (ifsE ⟨kind, pa, pl, ad, area, cost, prio, hel, dead⟩).toArray 73 (0, 0))) := Lib.hid (by rw [← hVB]; exact alloc_new wr _)
      have OW1 := Lib.hid (own_below RR.out.st BVB.out)
      have BS1 : Hid (W8.heap.size ≤ VB.heap.size) := Lib.hid (Nat.le_trans RR.out.g.size BVB.out.size)
      have KN : Hid (k ≤ 100000) := Lib.hid (by have := CL2.out; have := KC.out; omega)
      have HVB := Lib.hid hVB
      clear hVB
      go_upto_region 10 with fail
      go_cut [] (fun wx => ∃ vs' : Value, L3 W8 w1.heap.size r now (.slice (some ⟨b, off, none⟩) ifs.length ic) (.slice ra rgs.length cp) ifs (k + 1) k vs' va wx)
      case first =>
        go_region_law
          (first
          | (rw [HVB.out]; refine step_append_1 rfl (.tmp 33) (.tmp 40) 28 rfl rowSt W8.heap.size vs k _ ?g7 OW1.out wr.heap.size (ifsE ⟨kind, pa, pl, ad, area, cost, prio, hel, dead⟩) 73 ?g8 BKS.out rfl (ifsE_one1 _) KN.out BS1.out ?_; (case g7 => exact rfl); (case g8 => exact rfl); intro g1 cap1 w3 own' hg4 dj; obtain ⟨p1, p2⟩ := CUT.out VB w3 _ BVB.out own' hg4 (dj.elim (fun e => .inl e.symm) (fun e => .inr (by rw [e]; rfl))); have h4 := blk_cell (i := 4) p1 rfl; have hf4 := blk_free p1 4; have P2 := Lib.hid p2; clear own' hg4 dj p1 p2))
        all_goals
          go_wp2_with fail
          go_meet
          exact ⟨_, P2.out⟩
      case rest =>
        clear CUT x1 d0 d1 d2 d3 d4 d5 d6 d7 d8 g4 g4a BVB BKS OW1 BS1 KN HVB
        obtain ⟨vs', R⟩ := hcut
        have RK := Lib.hid R
        clear R
        have XW := (KB.out w.heap.size wc (by have := S1.out; omega) RK.out.g).trans X1.out
        have x1 : wc.cell? ⟨w.heap.size, 1, none⟩ = some (.slice (some ⟨b, off, none⟩) ifs.length ic) := blk_cell XW rfl
        clear XW
        have g5 : wc.cell? ⟨w1.heap.size, 5, none⟩ = some va := blk_cell RK.out.blk rfl
        have d4 := HC4.out wc RK.out.g
        have INS := Lib.hid (fun W (g : Below wc.heap.size wc W) => insert_calls W va (areasK ifs k) area (RK.out.ar.s.below g) (by have := areasK_len ifs k (by have := KC.out; omega); have := CL2.out; have := KC.out; omega))
        go_upto_region 11 with fail
        go_region_law
          (first
          | (go_simp; go_at_call 18; (with_reducible refine (INS.out _ (by first | exact (Below.refl _ _).drew | exact Below.refl _ _)).mono ?_); rintro e w5 ⟨v5, rfl, O5, B5⟩; obtain ⟨a1, n1, k1, e1⟩ := own_slice O5; subst e1; obtain ⟨p1, p2⟩ := NXT.out wc vs' RK.out _ w5 _ (by first | exact (Below.refl _ _).drew | exact Below.refl _ _) O5 B5; have h5 := blk_cell (i := 5) p1 rfl; have hf5 := blk_free p1 5; have P2 := Lib.hid p2; clear O5 B5 p1 p2))
        all_goals
          clear INS NXT x1 g5 d4 h5 hf5
          go_wp2_with fail
          go_roundw
          case rel => exact ⟨k + 1, _, _, by go_num, P2.out⟩
          case measure => simp [intOf]; have := KC.out; omega
    · go_upto_region 12 with fail
      obtain rfl : k = ifs.length := by omega
      clear c hk x1
      have Z1' := (KB.out (w.heap.size + 1) wr (by have := S1.out; omega) RR.out.g).trans Z1.out
      have STW := RR.out.st
      rw [List.take_length] at STW
      have x0 : wr.cell? ⟨w1.heap.size, 0, none⟩ = some (.int .u32 r) := blk_cell RR.out.blk rfl
      have x1 : wr.cell? ⟨w1.heap.size, 1, none⟩ = some (.slice ia ifs.length ic) := blk_cell RR.out.blk rfl
      have x2 : wr.cell? ⟨w1.heap.size, 2, none⟩ = some (.slice ra rgs.length cp) := blk_cell RR.out.blk rfl
      have x3 : wr.cell? ⟨w1.heap.size, 3, none⟩ = some (.int .i64 now) := blk_cell RR.out.blk rfl
      obtain ⟨a8, n8, k8, e8⟩ := own_slice STW
      subst e8
      obtain ⟨aa, ca, ea, -⟩ := RR.out.ar.s
      obtain ⟨na, hna⟩ : ∃ na, ((areasK ifs ifs.length).map arE).length = na := ⟨_, rfl⟩
      rw [hna] at ea
      clear hna
      subst ea
      have x4 : wr.cell? ⟨w1.heap.size, 4, none⟩ = some (.slice a8 n8 k8) := blk_cell RR.out.blk rfl
      have x5 : wr.cell? ⟨w1.heap.size, 5, none⟩ = some (.slice aa na ca) := blk_cell RR.out.blk rfl
      have x6 : wr.cell? ⟨w1.heap.size, 6, none⟩ = some (.slice none 0 0) := blk_cell RR.out.blk rfl
      have x7 : wr.cell? ⟨w1.heap.size, 7, none⟩ = some (.slice none 0 0) := blk_cell RR.out.blk rfl
      have BR : Below w.heap.size w wr := B8.out.grown RR.out.g (by have := B1.out.size; have := S8.out; omega) (fun j hj => by cases hj; have := S1.out; omega)
      obtain ⟨W', hW'⟩ : ∃ W', put8 wr (w.heap.size + 1) (.int .u32 r) (.slice ia ifs.length ic) (.slice ra rgs.length cp) (.int .i64 now) (.slice a8 n8 k8) (.slice aa na ca) (.slice none 0 0) (.slice none 0 0) = W' := ⟨_, rfl⟩
      have bk' := put8_blk Z1' (.int .u32 r) (.slice ia ifs.length ic) (.slice ra rgs.length cp) (.int .i64 now) (.slice a8 n8 k8) (.slice aa na ca) (.slice none 0 0) (.slice none 0 0)
      rw [hW'] at bk'
      have gk' := put8_grown wr (w.heap.size + 1) (.int .u32 r) (.slice ia ifs.length ic) (.slice ra rgs.length cp) (.int .i64 now) (.slice a8 n8 k8) (.slice aa na ca) (.slice none 0 0) (.slice none 0 0)
      rw [hW'] at gk'
      have FIN := Lib.hid (by
        have NE : ∀ (v : Value) (e : TypeId) (B k n : Nat) (xs : List Value), w.heap.size + 2 ≤ B → wr.ownsRow B e k v n xs → W'.ownsRow B e k v n xs := fun v e B k n xs hB h => World.ownsRow.kept h gk' (by
          by_cases q : v.ownBlock = none
          · exact .inl q
          · exact .inr (fun e => by have := (World.ownsRow.lt h _ e).1; omega))
        have BF : Below w.heap.size w W' := BR.grown gk' BR.size (fun j hj => by cases hj; omega)
        have CA := RR.out.ar.kept gk' (fun b off n c e h => by cases h; have := RR.out.ar.f _ off n c e; have := S8.out; have := S1.out; omega)
        have AE : areasK ifs ifs.length = areasL ifs := by unfold areasK; rw [List.take_length, areas_eq]
        rw [AE] at CA
        refine (⟨_, _, _, _, rfl, ⟨HI.out.below BF, HR.out.below BF, SlV.of_own (ifsE_len ifs) (by rw [List.length_map]; exact NE _ _ _ _ _ _ (by have := S8.out; have := S1.out; omega) STW), CA.s⟩, BF⟩ : NwPost w ⟨r, ifs, rgs, now, areasL ifs⟩ 0 (.returned (.tuple #[.agg #[.int .u32 r, .slice ia ifs.length ic, .slice ra rgs.length cp, .int .i64 now, .slice a8 n8 k8, .slice aa na ca, .slice none 0 0, .slice none 0 0], .int .i64 0])) W'))
      unfold put8 at hW'
      have HW' := Lib.hid hW'
      have g0 : W'.cell? ⟨w.heap.size + 1, 0, none⟩ = some (.int .u32 r) := blk_cell bk' rfl
      have g1 : W'.cell? ⟨w.heap.size + 1, 1, none⟩ = some (.slice ia ifs.length ic) := blk_cell bk' rfl
      have g2 : W'.cell? ⟨w.heap.size + 1, 2, none⟩ = some (.slice ra rgs.length cp) := blk_cell bk' rfl
      have g3 : W'.cell? ⟨w.heap.size + 1, 3, none⟩ = some (.int .i64 now) := blk_cell bk' rfl
      have g4 : W'.cell? ⟨w.heap.size + 1, 4, none⟩ = some (.slice a8 n8 k8) := blk_cell bk' rfl
      have g5 : W'.cell? ⟨w.heap.size + 1, 5, none⟩ = some (.slice aa na ca) := blk_cell bk' rfl
      have g6 : W'.cell? ⟨w.heap.size + 1, 6, none⟩ = some (.slice none 0 0) := blk_cell bk' rfl
      have g7 : W'.cell? ⟨w.heap.size + 1, 7, none⟩ = some (.slice none 0 0) := blk_cell bk' rfl
      have G := Lib.hid (And.intro g0 (And.intro g1 (And.intro g2 (And.intro g3 (And.intro g4 (And.intro g5 (And.intro g6 g7)))))))
      have z0 : wr.cell? ⟨w.heap.size + 1, 0, none⟩ = some (.int .u32 0) := blk_cell Z1' rfl
      have zf0 := blk_free Z1' 0
      have z1 : wr.cell? ⟨w.heap.size + 1, 1, none⟩ = some (.slice none 0 0) := blk_cell Z1' rfl
      have zf1 := blk_free Z1' 1
      have z2 : wr.cell? ⟨w.heap.size + 1, 2, none⟩ = some (.slice none 0 0) := blk_cell Z1' rfl
      have zf2 := blk_free Z1' 2
      have z3 : wr.cell? ⟨w.heap.size + 1, 3, none⟩ = some (.int .i64 0) := blk_cell Z1' rfl
      have zf3 := blk_free Z1' 3
      have z4 : wr.cell? ⟨w.heap.size + 1, 4, none⟩ = some (.slice none 0 0) := blk_cell Z1' rfl
      have zf4 := blk_free Z1' 4
      have z5 : wr.cell? ⟨w.heap.size + 1, 5, none⟩ = some (.slice none 0 0) := blk_cell Z1' rfl
      have zf5 := blk_free Z1' 5
      have z6 : wr.cell? ⟨w.heap.size + 1, 6, none⟩ = some (.slice none 0 0) := blk_cell Z1' rfl
      have zf6 := blk_free Z1' 6
      have z7 : wr.cell? ⟨w.heap.size + 1, 7, none⟩ = some (.slice none 0 0) := blk_cell Z1' rfl
      have zf7 := blk_free Z1' 7
      clear hW' bk' gk' g0 g1 g2 g3 g4 g5 g6 g7
      clear RR
      go_wp2_with fail
      rw [HW'.out]
      obtain ⟨g0, g1, g2, g3, g4, g5, g6, g7⟩ := G.out
      exact bodyPost_ret (v := .tuple #[.agg #[.int .u32 r, .slice ia ifs.length ic, .slice ra rgs.length cp, .int .i64 now, .slice a8 n8 k8, .slice aa na ca, .slice none 0 0, .slice none 0 0], .int .i64 0]) (by simp [results, Tryz.results6, go_sem, g0, g1, g2, g3, g4, g5, g6, g7]) rfl FIN.out

end Go.Proofs.YtombnejipaoinaaGreat
