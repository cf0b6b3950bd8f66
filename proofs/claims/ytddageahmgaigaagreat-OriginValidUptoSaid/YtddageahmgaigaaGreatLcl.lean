import Derived.Test.YtddageahmgaigaaGreatLsu
import Derived.Deep.DeepCutAuto
import Derived.Deep.RegionWith
import Derived.BigQuiet
import Derived.IntWalk
namespace Go.Proofs.YtddageahmgaigaaGreat
open Go.RowKit

def Fr (B : Nat) (v : Value) : Prop := ∀ b off n c, v = .slice (some ⟨b, off, none⟩) n c → B ≤ b
theorem Fr.mono {B B' : Nat} {v : Value} (h : Fr B v) (hb : B' ≤ B) : Fr B' v := fun b off n c e => Nat.le_trans hb (h b off n c e)
theorem Fr.own {w : World} {base : Nat} {e : TypeId} {k n : Nat} {v : Value} {xs : List Value} (h : w.ownsRow base e k v n xs) : Fr base v := by
  intro b off n' c ev
  rcases own_cases h with ⟨rfl, _⟩ | ⟨g, cap, cur, rfl, h1, _⟩
  · cases ev
  · cases ev; exact h1
theorem SlV.far {k : Nat} {w w' : World} {v : Value} {css : List (List Value)} {B r : Nat} (h : SlV k w v css) (f : Fr B v) (hr : r < B) (hg : w.grownBy w' (some r)) : SlV k w' v css :=
  SlV.kept h hg fun b off n c e h => by cases h; have := f _ _ _ _ e; omega
theorem setLsa_grown (W : World) (bb : Nat) (x : Lsa) : W.grownBy (setLsa W bb x) (some bb) := by
  have h := fun W o u => grown_set W bb o u
  have q : ∀ j, some bb = some j → W.heap.size ≤ j ∨ some j = some bb := fun j hj => .inr hj.symm
  have q : ∀ j : Nat, some bb = some j → W.heap.size ≤ j ∨ some bb = some j := fun j hj => .inr hj
  unfold setLsa
  exact (((((((((((((((h _ 0 (.int .i64 x.typ)).andThen (h _ 1 (.int .u32 x.id)) q).andThen (h _ 2 (.int .i64 x.len)) q).andThen (h _ 3 (.int .u32 x.router)) q).andThen (h _ 4 (.int .i64 x.seq)) q).andThen (h _ 5 (.int .i64 x.age)) q).andThen (h _ 6 (.int .i64 x.sum)) q).andThen (h _ 7 (.bool x.border)) q).andThen (h _ 8 (.bool x.boundary)) q).andThen (h _ 9 (.slice x.la x.ln x.lc)) q).andThen (h _ 10 (.slice x.aa x.an x.ac)) q).andThen (h _ 11 (.int .i64 x.cost)) q).andThen (h _ 12 (.bool x.second)) q).andThen (h _ 13 (.int .u32 x.fwd)) q).andThen (h _ 14 (.int .i64 x.tag)) q)

def ClkPost (w : World) (l : List Lnk) (e : Ending) (w' : World) : Prop := ∃ a c, e = .returned (.slice a l.length c) ∧ LnksAt w' (.slice a l.length c) l ∧ Fr w.heap.size (.slice a l.length c) ∧ Below w.heap.size w w'

theorem clk_one (l : List Lnk) : ∀ c ∈ l.map lnkE, ∀ u ∈ c, u.oneCell' = true := by
  intro c hc u hu
  obtain ⟨h, _, rfl⟩ := List.mem_map.1 hc
  simp [lnkE] at hu
  rcases hu with rfl | rfl | rfl | rfl <;> rfl
theorem clk_len (l : List Lnk) : ∀ c ∈ l.map lnkE, c.length = 4 := by
  intro c hc
  obtain ⟨h, _, rfl⟩ := List.mem_map.1 hc
  rfl
theorem clk_post {w w1 w2 : World} {l : List Lnk} {v v' : Value} (B : Below w.heap.size w w1) (O : w1.ownsRow w.heap.size 82 4 v 0 []) (O2 : w2.ownsRow w.heap.size 82 4 v' (0 + (l.map lnkE).length) ([] ++ (l.map lnkE).flatten)) (G : w1.grownBy w2 v.ownBlock) : ClkPost w l (.returned v') w2 := by
  rw [List.length_map, Nat.zero_add, List.nil_append] at O2
  have S : LnksAt w2 v' l := SlV.of_own (clk_len l) (by simpa using O2)
  obtain ⟨a, c, e, -⟩ := S.get
  subst e
  exact ⟨a, c, rfl, S, Fr.own O2, Below.owned B B.size O G⟩

set_option maxHeartbeats 1048576 in
set_option maxRecDepth 100000 in
theorem clk_calls (w : World) (v : Value) (l : List Lnk) (h : LnksAt w v l) (hn : l.length ≤ 1048576) :
    Calls Tryz.prog 49 #[v] w (ClkPost w l) := by
  obtain ⟨i0, hi, hz0, hz1, hz2⟩ := info_parts Tryz.infoLink
  have HI := Lib.hid hi
  have HZ0 := Lib.hid hz0
  have HZ1 := Lib.hid hz1
  have HZ2 := Lib.hid hz2
  clear hi hz0 hz1 hz2
  have H := Lib.hid h
  obtain ⟨a, cap, e0, h1, h2, h3, h4⟩ := h
  rw [List.length_map] at e0 h1
  subst e0
  have K1 : Hid (0 + (l.map lnkE).length ≤ maxLen) := Lib.hid (by rw [List.length_map]; unfold maxLen; omega)
  have K2 : Hid ((0 + (l.map lnkE).length) * 24 ≤ 140737488355328) := Lib.hid (by rw [List.length_map]; omega)
  clear hn h2 h4
  cases a with
  | none =>
    have c0 := h3 rfl
    have l0 : l.length = 0 := by omega
    have l1 : l = [] := List.length_eq_zero_iff.1 l0
    subst l1
    subst c0
    have E : Hid (ClkPost w ([] : List Lnk) (.returned (.slice none 0 0)) w) := Lib.hid ⟨none, 0, rfl, H.out, (fun b off n c e => by cases e), Below.refl _ _⟩
    clear h1 h3 l0 H K1 K2
    simp only [List.length_nil]
    have NL := fun W => Lib.run_eql_slice_nil (P := Tryz.prog) W 38 82 none 0 0 0 0 Tryz.underlying38
    go_enter Tryz.func49, Tryz.ntmps49
    go_wp2_with fail
    go_ret
    exact E.out
  | some ad =>
    clear h1 h3
    have NL := fun W => Lib.run_eql_slice_nil (P := Tryz.prog) W 38 82 (some ad) l.length cap 0 0 Tryz.underlying38
    have O0 : Hid ((w.alloc (.cells #[] 82)).ownsRow w.heap.size 82 4 (.slice (some ⟨w.heap.size, 0, none⟩) 0 0) 0 []) := Lib.hid (World.ownsRow_made w #[] 0 (Nat.le_refl _) (by unfold maxLen; omega) rfl)
    have HA := Lib.hid (H.out.below ((Below.refl _ _).alloc (Nat.le_refl _) (.cells #[] 82)))
    have B0 : Hid (Below w.heap.size w (w.alloc (.cells #[] 82))) := Lib.hid ((Below.refl _ _).alloc (Nat.le_refl _) _)
    clear H
    go_enter Tryz.func49, Tryz.ntmps49
    go_wp2_with (at_builtin; refine wpList_append_sl rfl _ _ _ rfl w.heap.size 82 i0 _ 4 24 Tryz.underlying38 HI.out HZ0.out HZ1.out HZ2.out rfl (by decide) _ 0 [] rfl O0.out _ (l.map lnkE) rfl HA.out (clk_len l) (clk_one l) K1.out K2.out (by simp) ?_; intro v' w2 O2 G2; have PO := Lib.hid (clk_post B0.out O0.out O2 G2); clear O2 G2)
    go_ret
    exact PO.out

def CwdPost (w : World) (l : List Int) (e : Ending) (w' : World) : Prop := ∃ a c, e = .returned (.slice a l.length c) ∧ WordsAt w' (.slice a l.length c) l ∧ Fr w.heap.size (.slice a l.length c) ∧ Below w.heap.size w w'

theorem cwd_one (l : List Int) : ∀ c ∈ l.map u32E, ∀ u ∈ c, u.oneCell' = true := by
  intro c hc u hu
  obtain ⟨h, _, rfl⟩ := List.mem_map.1 hc
  simp [u32E] at hu
  rcases hu with rfl <;> rfl
theorem cwd_len (l : List Int) : ∀ c ∈ l.map u32E, c.length = 1 := by
  intro c hc
  obtain ⟨h, _, rfl⟩ := List.mem_map.1 hc
  rfl
theorem cwd_post {w w1 w2 : World} {l : List Int} {v v' : Value} (B : Below w.heap.size w w1) (O : w1.ownsRow w.heap.size 22 1 v 0 []) (O2 : w2.ownsRow w.heap.size 22 1 v' (0 + (l.map u32E).length) ([] ++ (l.map u32E).flatten)) (G : w1.grownBy w2 v.ownBlock) : CwdPost w l (.returned v') w2 := by
  rw [List.length_map, Nat.zero_add, List.nil_append] at O2
  have S : WordsAt w2 v' l := SlV.of_own (cwd_len l) (by simpa using O2)
  obtain ⟨a, c, e, -⟩ := S.get
  subst e
  exact ⟨a, c, rfl, S, Fr.own O2, Below.owned B B.size O G⟩

set_option maxHeartbeats 1048576 in
set_option maxRecDepth 100000 in
theorem cwd_calls (w : World) (v : Value) (l : List Int) (h : WordsAt w v l) (hn : l.length ≤ 1048576) :
    Calls Tryz.prog 50 #[v] w (CwdPost w l) := by
  obtain ⟨i0, hi, hz0, hz1, hz2⟩ := info_parts Tryz.infoU32
  have HI := Lib.hid hi
  have HZ0 := Lib.hid hz0
  have HZ1 := Lib.hid hz1
  have HZ2 := Lib.hid hz2
  clear hi hz0 hz1 hz2
  have H := Lib.hid h
  obtain ⟨a, cap, e0, h1, h2, h3, h4⟩ := h
  rw [List.length_map] at e0 h1
  subst e0
  have K1 : Hid (0 + (l.map u32E).length ≤ maxLen) := Lib.hid (by rw [List.length_map]; unfold maxLen; omega)
  have K2 : Hid ((0 + (l.map u32E).length) * 4 ≤ 140737488355328) := Lib.hid (by rw [List.length_map]; omega)
  clear hn h2 h4
  cases a with
  | none =>
    have c0 := h3 rfl
    have l0 : l.length = 0 := by omega
    have l1 : l = [] := List.length_eq_zero_iff.1 l0
    subst l1
    subst c0
    have E : Hid (CwdPost w ([] : List Int) (.returned (.slice none 0 0)) w) := Lib.hid ⟨none, 0, rfl, H.out, (fun b off n c e => by cases e), Below.refl _ _⟩
    clear h1 h3 l0 H K1 K2
    simp only [List.length_nil]
    have NL := fun W => Lib.run_eql_slice_nil (P := Tryz.prog) W 39 22 none 0 0 0 0 Tryz.underlying39
    go_enter Tryz.func50, Tryz.ntmps50
    go_wp2_with fail
    go_ret
    exact E.out
  | some ad =>
    clear h1 h3
    have NL := fun W => Lib.run_eql_slice_nil (P := Tryz.prog) W 39 22 (some ad) l.length cap 0 0 Tryz.underlying39
    have O0 : Hid ((w.alloc (.cells #[] 22)).ownsRow w.heap.size 22 1 (.slice (some ⟨w.heap.size, 0, none⟩) 0 0) 0 []) := Lib.hid (World.ownsRow_made w #[] 0 (Nat.le_refl _) (by unfold maxLen; omega) rfl)
    have HA := Lib.hid (H.out.below ((Below.refl _ _).alloc (Nat.le_refl _) (.cells #[] 22)))
    have B0 : Hid (Below w.heap.size w (w.alloc (.cells #[] 22))) := Lib.hid ((Below.refl _ _).alloc (Nat.le_refl _) _)
    clear H
    go_enter Tryz.func50, Tryz.ntmps50
    go_wp2_with (at_builtin; refine wpList_append_sl rfl _ _ _ rfl w.heap.size 22 i0 _ 1 4 Tryz.underlying39 HI.out HZ0.out HZ1.out HZ2.out rfl (by decide) _ 0 [] rfl O0.out _ (l.map u32E) rfl HA.out (cwd_len l) (cwd_one l) K1.out K2.out (by simp) ?_; intro v' w2 O2 G2; have PO := Lib.hid (cwd_post B0.out O0.out O2 G2); clear O2 G2)
    go_ret
    exact PO.out

def atL (x : Lsa) (la : Option Addr) (lc : Nat) (aa : Option Addr) (ac : Nat) : Lsa := { x with la := la, lc := lc, aa := aa, ac := ac }
def ClPost (w : World) (x : Lsa) (lk : List Lnk) (att : List Int) (e : Ending) (w' : World) : Prop := ∃ la lc aa ac, e = .returned (.agg (lsaE (atL x la lc aa ac)).toArray) ∧ LnksAt w' (.slice la x.ln lc) lk ∧ WordsAt w' (.slice aa x.an ac) att ∧ Below w.heap.size w w' ∧ Fr w.heap.size (.slice la x.ln lc) ∧ Fr w.heap.size (.slice aa x.an ac)
structure LL (w : World) (x : Lsa) (lk : List Lnk) (att : List Int) : Prop where
  l : LnksAt w (.slice x.la x.ln x.lc) lk
  a : WordsAt w (.slice x.aa x.an x.ac) att
  nl : lk.length ≤ 1048576
  na : att.length ≤ 1048576
theorem LL.below {w w' : World} {x : Lsa} {lk : List Lnk} {att : List Int} (h : LL w x lk att) (hb : Below w.heap.size w w') : LL w' x lk att := ⟨h.l.below hb, h.a.below hb, h.nl, h.na⟩
theorem LnksAt.ln {w : World} {a : Option Addr} {n c : Nat} {l : List Lnk} (h : LnksAt w (.slice a n c) l) : n = l.length := by obtain ⟨_, _, e, -⟩ := h.get; cases e; rfl
theorem WordsAt.ln {w : World} {a : Option Addr} {n c : Nat} {l : List Int} (h : WordsAt w (.slice a n c) l) : n = l.length := by obtain ⟨_, _, e, -⟩ := h.get; cases e; rfl

end Go.Proofs.YtddageahmgaigaaGreat

namespace Go.Proofs.YtddageahmgaigaaGreat
open Go.RowKit

set_option maxHeartbeats 8000000 in
set_option maxRecDepth 100000 in
theorem lclone_calls (x : Lsa) (lk : List Lnk) (att : List Int) (w : World) (h : LL w x lk att) : Calls Tryz.prog 86 #[.agg (lsaE x).toArray] w (ClPost w x lk att) := by
  obtain ⟨hl, ha, nl, na⟩ := h
  obtain ⟨typ, id, len, router, seq, age, sum, border, boundary, la, ln, lc, aa, an, ac, cost, second, fwd, tag⟩ := x
  simp only at hl ha
  obtain rfl := hl.ln
  obtain rfl := ha.ln
  simp only [lsaE]
  obtain ⟨WB, hWB⟩ : ∃ WB, (w.alloc (.cells #[.int .i64 typ, .int .u32 id, .int .i64 len, .int .u32 router, .int .i64 seq, .int .i64 age, .int .i64 sum, .bool border, .bool boundary, .slice la lk.length lc, .slice aa att.length ac, .int .i64 cost, .bool second, .int .u32 fwd, .int .i64 tag] 42)).alloc (.cells #[.int .i64 0, .int .u32 0, .int .i64 0, .int .u32 0, .int .i64 0, .int .i64 0, .int .i64 0, .bool false, .bool false, .slice none 0 0, .slice none 0 0, .int .i64 0, .bool false, .int .u32 0, .int .i64 0] 42) = WB := ⟨_, rfl⟩
  have B0 : Below w.heap.size w WB := by rw [← hWB]; exact ((Below.refl _ _).alloc (Nat.le_refl _) _).alloc (by simp) _
  have XB : Hid (WB.heap[w.heap.size]? = some (.cells #[.int .i64 typ, .int .u32 id, .int .i64 len, .int .u32 router, .int .i64 seq, .int .i64 age, .int .i64 sum, .bool border, .bool boundary, .slice la lk.length lc, .slice aa att.length ac, .int .i64 cost, .bool second, .int .u32 fwd, .int .i64 tag] 42 (0, 0))) := Lib.hid (by rw [← hWB]; exact (alloc_get _ _ _ (by simp)).trans (alloc_new _ _))
  have XZ : Hid (WB.heap[w.heap.size + 1]? = some (.cells #[.int .i64 0, .int .u32 0, .int .i64 0, .int .u32 0, .int .i64 0, .int .i64 0, .int .i64 0, .bool false, .bool false, .slice none 0 0, .slice none 0 0, .int .i64 0, .bool false, .int .u32 0, .int .i64 0] 42 (0, 0))) := Lib.hid (by rw [← hWB]; exact blk_new2 w _ _)
  have KC : Hid (∀ W, Below WB.heap.size WB W → Calls Tryz.prog 49 #[.slice la lk.length lc] W (ClkPost W lk)) := Lib.hid (fun W g => clk_calls W _ lk (hl.below (B0.trans (g.mono B0.size))) nl)
  have AC : Hid (∀ W, Below WB.heap.size WB W → Calls Tryz.prog 50 #[.slice aa att.length ac] W (CwdPost W att)) := Lib.hid (fun W g => cwd_calls W _ att (ha.below (B0.trans (g.mono B0.size))) na)
  have HB0 := Lib.hid B0
  have HWB := Lib.hid hWB
  have m9 : WB.cell? ⟨w.heap.size, 9, none⟩ = some (.slice la lk.length lc) := blk_cell XB.out rfl
  have m10 : WB.cell? ⟨w.heap.size, 10, none⟩ = some (.slice aa att.length ac) := blk_cell XB.out rfl
  clear B0 hWB hl ha nl na
  go_enter Tryz.func86, Tryz.ntmps86
  go_upto_region 1 with fail
  rw [HWB.out]
  go_region_with (first
    | (go_at_call 49; ((with_reducible refine (KC.out _ (by first | exact Below.refl _ _ | exact (Below.refl _ _).drew | exact R2.out)).mono ?_)); rintro e w1 ⟨a1, c1, rfl, L1, FR1, B1⟩; have R1 : Hid (Below WB.heap.size WB w1) := Lib.hid (by first | exact R2.out.trans (B1.mono R2.out.size) | exact B1 | exact (Below.refl _ WB).drew.trans B1); have HL1 := Lib.hid L1; have HB1 := Lib.hid B1; have HF1 : Hid (Fr WB.heap.size (.slice a1 lk.length c1)) := Lib.hid (by first | exact FR1 | exact FR1.mono R2.out.size); have b1 := (R1.out.block _ (blk_lt XB.out)).trans XB.out; have p9 : w1.cell? ⟨w.heap.size, 9, none⟩ = some (.slice la lk.length lc) := blk_cell b1 rfl; have p10 : w1.cell? ⟨w.heap.size, 10, none⟩ = some (.slice aa att.length ac) := blk_cell b1 rfl; have pf9 := blk_free b1 9; have pf10 := blk_free b1 10; clear L1 B1 b1 FR1)
    | (go_at_call 50; ((with_reducible refine (AC.out _ (by first | exact Below.refl _ _ | exact (Below.refl _ _).drew | exact R1.out)).mono ?_)); rintro e w2 ⟨a2, c2, rfl, A2, FR2, B2⟩; have R2 : Hid (Below WB.heap.size WB w2) := Lib.hid (by first | exact R1.out.trans (B2.mono R1.out.size) | exact B2 | exact (Below.refl _ WB).drew.trans B2); have HA2 := Lib.hid A2; have HB2 := Lib.hid B2; have HF2 : Hid (Fr WB.heap.size (.slice a2 att.length c2)) := Lib.hid (by first | exact FR2 | exact FR2.mono R1.out.size); have b2 := (R2.out.block _ (blk_lt XB.out)).trans XB.out; have q9 : w2.cell? ⟨w.heap.size, 9, none⟩ = some (.slice la lk.length lc) := blk_cell b2 rfl; have q10 : w2.cell? ⟨w.heap.size, 10, none⟩ = some (.slice aa att.length ac) := blk_cell b2 rfl; have qf9 := blk_free b2 9; have qf10 := blk_free b2 10; have QB2 := Lib.hid b2; clear A2 B2 b2 FR2))
  all_goals
    obtain ⟨wE, hWE⟩ : ∃ wE, (w2.setCell ⟨w.heap.size, 9, none⟩ (.slice a1 lk.length c1)).setCell ⟨w.heap.size, 10, none⟩ (.slice a2 att.length c2) = wE := ⟨_, rfl⟩
    have gS : w2.grownBy wE (some w.heap.size) := by rw [← hWE]; exact (grown_set w2 w.heap.size 9 _).andThen (grown_set _ w.heap.size 10 _) (fun j hj => .inr hj.symm.symm)
    have EB : wE.heap[w.heap.size]? = some (.cells #[.int .i64 typ, .int .u32 id, .int .i64 len, .int .u32 router, .int .i64 seq, .int .i64 age, .int .i64 sum, .bool border, .bool boundary, .slice a1 lk.length c1, .slice a2 att.length c2, .int .i64 cost, .bool second, .int .u32 fwd, .int .i64 tag] 42 (0, 0)) := by
      rw [← hWE]
      have h1 := blk_set (blk_set QB2.out 9 (.slice a1 lk.length c1)) 10 (.slice a2 att.length c2)
      simp only [List.setIfInBounds_toArray, List.set_cons_zero, List.set_cons_succ] at h1
      exact h1
    have EZ : wE.heap[w.heap.size + 1]? = some (.cells #[.int .i64 0, .int .u32 0, .int .i64 0, .int .u32 0, .int .i64 0, .int .i64 0, .int .i64 0, .bool false, .bool false, .slice none 0 0, .slice none 0 0, .int .i64 0, .bool false, .int .u32 0, .int .i64 0] 42 (0, 0)) := (gS.block _ (Nat.lt_of_lt_of_le (blk_lt XZ.out) R2.out.size) (by simp)).trans ((R2.out.block _ (blk_lt XZ.out)).trans XZ.out)
    have BE : Below w.heap.size w wE := (HB0.out.trans (R2.out.mono HB0.out.size)).grown gS (Nat.le_trans HB0.out.size R2.out.size) (fun j hj => by cases hj; exact Nat.le_refl _)
    have bs := blk_lt XZ.out
    have HWE := Lib.hid hWE
    obtain ⟨W', hW'⟩ : ∃ W', setLsa wE (w.heap.size + 1) ⟨typ, id, len, router, seq, age, sum, border, boundary, a1, lk.length, c1, a2, att.length, c2, cost, second, fwd, tag⟩ = W' := ⟨_, rfl⟩
    have bk' : W'.heap[w.heap.size + 1]? = some (.cells #[.int .i64 typ, .int .u32 id, .int .i64 len, .int .u32 router, .int .i64 seq, .int .i64 age, .int .i64 sum, .bool border, .bool boundary, .slice a1 lk.length c1, .slice a2 att.length c2, .int .i64 cost, .bool second, .int .u32 fwd, .int .i64 tag] 42 (0, 0)) := by rw [← hW']; exact setLsa_blk EZ _
    have BW' : Below w.heap.size w W' := by rw [← hW']; exact setLsa_below BE (Nat.le_succ _) _
    have BN : wE.grownBy W' (some (w.heap.size + 1)) := by rw [← hW']; exact setLsa_grown _ _ _
    have SL : LnksAt W' (.slice a1 lk.length c1) lk := ((HL1.out.below HB2.out).far HF1.out (by omega) gS).far HF1.out bs BN
    have SA : WordsAt W' (.slice a2 att.length c2) att := (HA2.out.far HF2.out (by omega) gS).far HF2.out bs BN
    have FIN : Hid (ClPost w ⟨typ, id, len, router, seq, age, sum, border, boundary, la, lk.length, lc, aa, att.length, ac, cost, second, fwd, tag⟩ lk att (.returned (.agg #[.int .i64 typ, .int .u32 id, .int .i64 len, .int .u32 router, .int .i64 seq, .int .i64 age, .int .i64 sum, .bool border, .bool boundary, .slice a1 lk.length c1, .slice a2 att.length c2, .int .i64 cost, .bool second, .int .u32 fwd, .int .i64 tag])) W') := Lib.hid ⟨a1, c1, a2, c2, rfl, SL, SA, BW', HF1.out.mono (by omega), HF2.out.mono (by omega)⟩
    unfold setLsa at hW'
    simp only at hW'
    have HW' := Lib.hid hW'
    obtain ⟨⟨⟨e0, e1, e2, e3, e4⟩, ⟨e5, e6, e7, e8, e9⟩, ⟨e10, e11, e12, e13, e14⟩⟩, -⟩ := blk15 EB
    obtain ⟨⟨⟨z0, z1, z2, z3, z4⟩, ⟨z5, z6, z7, z8, z9⟩, ⟨z10, z11, z12, z13, z14⟩⟩, hfz⟩ := blk15 EZ
    have zf0 := hfz 0
    have zf1 := hfz 1
    have zf2 := hfz 2
    have zf3 := hfz 3
    have zf4 := hfz 4
    have zf5 := hfz 5
    have zf6 := hfz 6
    have zf7 := hfz 7
    have zf8 := hfz 8
    have zf9 := hfz 9
    have zf10 := hfz 10
    have zf11 := hfz 11
    have zf12 := hfz 12
    have zf13 := hfz 13
    have zf14 := hfz 14
    obtain ⟨⟨⟨g0, g1, g2, g3, g4⟩, ⟨g5, g6, g7, g8, g9⟩, ⟨g10, g11, g12, g13, g14⟩⟩, -⟩ := blk15 bk'
    have G := Lib.hid (And.intro g0 (And.intro g1 (And.intro g2 (And.intro g3 (And.intro g4 (And.intro g5 (And.intro g6 (And.intro g7 (And.intro g8 (And.intro g9 (And.intro g10 (And.intro g11 (And.intro g12 (And.intro g13 g14))))))))))))))
    clear hWE gS EB EZ BE bs hW' bk' BW' BN SL SA hfz g0 g1 g2 g3 g4 g5 g6 g7 g8 g9 g10 g11 g12 g13 g14 p9 p10 pf9 pf10 q9 q10 qf9 qf10
    rw [HWE.out]
    go_wp2_with fail
    rw [HW'.out]
    obtain ⟨g0, g1, g2, g3, g4, g5, g6, g7, g8, g9, g10, g11, g12, g13, g14⟩ := G.out
    exact bodyPost_ret (v := .agg #[.int .i64 typ, .int .u32 id, .int .i64 len, .int .u32 router, .int .i64 seq, .int .i64 age, .int .i64 sum, .bool border, .bool boundary, .slice a1 lk.length c1, .slice a2 att.length c2, .int .i64 cost, .bool second, .int .u32 fwd, .int .i64 tag]) (by simp [results, Tryz.results86, go_sem, g0, g1, g2, g3, g4, g5, g6, g7, g8, g9, g10, g11, g12, g13, g14]) rfl FIN.out

end Go.Proofs.YtddageahmgaigaaGreat

namespace Go.Proofs.YtddageahmgaigaaGreat
open Go.RowKit

def EqPost (w : World) (b : Bool) (e : Ending) (w' : World) : Prop := e = .returned (.bool b) ∧ Gr w w'

theorem neLnk (x y : Lnk) (w : World) : (binOp .neq 82 (.agg (lnkE x).toArray) (.agg (lnkE y).toArray)).run Tryz.prog w = .ok (.bool (decide (x ≠ y))) w := by
  have u3 := Tryz.underlying3
  have u22 := Tryz.underlying22
  have a3 := Tryz.isAgg3
  have z3 := Tryz.sizeOf3
  have a22 := Tryz.isAgg22
  have z22 := Tryz.sizeOf22
  have hS : Tryz.prog.underlying 82 = some (.struct (Tryz.prog.fieldsOf 82)) := by kernel_rfl
  have hp : Tryz.prog.stoodInHeld 82 = false := by kernel_rfl
  obtain ⟨x1, x2, x3, x4⟩ := x
  obtain ⟨y1, y2, y3, y4⟩ := y
  simp only [lnkE]
  have h : (binOp .eql 82 (.agg #[.int .i64 x1, .int .u32 x2, .int .u32 x3, .int .i64 x4]) (.agg #[.int .i64 y1, .int .u32 y2, .int .u32 y3, .int .i64 y4])).run Tryz.prog w = .ok (.bool (decide ((⟨x1, x2, x3, x4⟩ : Lnk) = ⟨y1, y2, y3, y4⟩))) w := by
    rw [run_eql_struct, show (10000 : Nat) = 9999 + 1 from rfl, run_equalIn_agg w 9999 82 _ _ hS hp]
    simp only [Program.fieldsOf, Tryz.underlying82]
    go_simp
    by_cases h1 : x1 = y1 <;> by_cases h2 : x2 = y2 <;> by_cases h3 : x3 = y3 <;> by_cases h4 : x4 = y4 <;> simp [h1, h2, h3, h4]
  simp only [binOp] at h ⊢
  revert h
  simp only [Sem.run_bind, Sem.run_pure]
  cases (Op.equal 82 (.agg #[.int .i64 x1, .int .u32 x2, .int .u32 x3, .int .i64 x4]) (.agg #[.int .i64 y1, .int .u32 y2, .int .u32 y3, .int .i64 y4])).run Tryz.prog w <;> simp

set_option maxHeartbeats 4000000 in
set_option maxRecDepth 100000 in
theorem eqw_calls (w : World) (v1 v2 : Value) (l1 l2 : List Int) (h1 : WordsAt w v1 l1) (h2 : WordsAt w v2 l2) : Calls Tryz.prog 88 #[v1, v2] w (EqPost w (decide (l1 = l2))) := by
  obtain ⟨a1, c1, rfl, hc1⟩ := h1.get
  obtain ⟨a2, c2, rfl, hc2⟩ := h2.get
  have hlen1 : l1.length ≤ 9223372036854775807 := SlV.len h1 |> fun h => by simpa using h
  have hlen2 : l2.length ≤ 9223372036854775807 := SlV.len h2 |> fun h => by simpa using h
  have HC1 := Lib.hid hc1
  have HC2 := Lib.hid hc2
  clear h1 h2 hc1 hc2
  by_cases hL : l1.length = l2.length
  · have mixed : Tryz.prog.follows .mixedOrders = true := by kernel_rfl
    have HL := Lib.hid hL
    clear hL hlen2
    have b0 : ((l1.length : Int) != (l2.length : Int)) = false := by rw [HL.out]; simp
    go_enter Tryz.func88, Tryz.ntmps88
    go_wp2_with fail
    go_loopw [13] (fun ix wr => ∃ k : Nat, ix = .int .i64 k ∧ k ≤ l1.length ∧ Hid (Gr w wr) ∧ Hid (∀ i (h1 : i < l1.length) (h2 : i < l2.length), i < k → l1[i] = l2[i])) (fun ix _ => l1.length - (intOf ix).toNat)
    case atStart => exact ⟨0, rfl, Nat.zero_le _, Lib.hid (Gr.refl _), Lib.hid (fun i _ _ h => absurd h (Nat.not_lt_zero _))⟩
    case round =>
      obtain ⟨k, rfl, hk, R, ALL⟩ := hrel
      by_cases c : k < l1.length
      · have c2' : k < l2.length := by have := HL.out; omega
        obtain ⟨g1, o1, rfl, hb1, hcc1⟩ := HC1.out (by omega)
        obtain ⟨g2, o2, rfl, hb2, hcc2⟩ := HC2.out (by omega)
        have d := (R.out.b.cell hb1).trans (hcc1 k c)
        have e := (R.out.b.cell hb2).trans (hcc2 k c2')
        have i1 : (k : Int) < (l1.length : Int) := by omega
        have i2 : (k : Int) < (l2.length : Int) := by omega
        have i0 : (0 : Int) ≤ (k : Int) := by omega
        have s3 : ((k : Int)).toNat = k := by omega
        have YES : Hid (l1[k] = l2[k] → ∀ i (h1 : i < l1.length) (h2 : i < l2.length), i < k + 1 → l1[i] = l2[i]) := Lib.hid (fun h i h1 h2 hi => by
          rcases Nat.lt_or_ge i k with h' | h'
          · exact ALL.out i h1 h2 h'
          · obtain rfl : i = k := by omega
            exact h)
        have NO : Hid (l1[k] ≠ l2[k] → false = decide (l1 = l2)) := Lib.hid (fun h => by
          rw [eq_comm, decide_eq_false_iff_not]; intro he; subst he; exact h rfl)
        have NXD : Hid (∀ n os, Gr w (Go.Sort.grow (wr.drewN n) os)) := Lib.hid (fun n os => R.out.trans (Gr.of_grow n os))
        clear hcc1 hcc2 ALL
        generalize l1[k] = z1 at *
        generalize l2[k] = z2 at *
        clear HC1 HC2
        by_cases q : z1 = z2
        · have NX := Lib.hid (YES.out q)
          subst q
          clear YES NO
          have q1 : (z1 != z1) = false := by simp
          have p0 := fun n os => cell_grown (World.block_lt_of_cell? _ _ d) d n os
          have q0 := fun n os => cell_grown (World.block_lt_of_cell? _ _ e) e n os
          clear d e
          go_wp2_with fail
          refine wp_region_quiet_grown (by assumption) (by kernel_rfl) ?_
          repeat (go_big_quiet_step (fail))
          refine wpQuiet_nil ?_
          intro _ hw'
          obtain ⟨⟨nq, osq⟩, hw''⟩ := hw'
          subst hw''
          have NXG := Lib.hid (NXD.out nq osq)
          clear p0 q0
          go_wp2_with fail
          go_roundw
          case rel => exact ⟨k + 1, by go_num, c, NXG, NX⟩
          case measure => simp [intOf]; omega
        · have FI := Lib.hid (NO.out q)
          have q1 : (z1 != z2) = true := by simpa using q
          have p0 := fun n os => cell_grown (World.block_lt_of_cell? _ _ d) d n os
          have q0 := fun n os => cell_grown (World.block_lt_of_cell? _ _ e) e n os
          clear d e
          clear YES NO q
          go_wp2_with fail
          refine wp_region_quiet_grown (by assumption) (by kernel_rfl) ?_
          repeat (go_big_quiet_step (fail))
          refine wpQuiet_nil ?_
          intro _ hw'
          obtain ⟨⟨nq, osq⟩, hw''⟩ := hw'
          subst hw''
          have NXG := Lib.hid (NXD.out nq osq)
          clear p0 q0
          go_wp2_with fail
          go_ret
          exact ⟨by rw [← FI.out]; rfl, NXG.out⟩
      · have ek : k = l1.length := by omega
        have FI : Hid (true = decide (l1 = l2)) := Lib.hid (by
          rw [eq_comm, decide_eq_true_eq]
          exact List.ext_getElem HL.out (fun i h1 h2 => ALL.out i h1 h2 (by omega)))
        have RR := R
        clear R ALL HC1 HC2
        go_wp2_with fail
        go_ret
        exact ⟨by rw [← FI.out]; rfl, RR.out⟩
  · have b0 : ((l1.length : Int) != (l2.length : Int)) = true := by simp; omega
    have FI : Hid (false = decide (l1 = l2)) := Lib.hid (by
      rw [eq_comm, decide_eq_false_iff_not]; intro he; exact hL (by rw [he]))
    clear hL HC1 HC2
    generalize l1.length = n1 at *
    generalize l2.length = n2 at *
    go_enter Tryz.func88, Tryz.ntmps88
    go_wp2_with fail
    go_ret
    exact ⟨by rw [← FI.out]; rfl, Gr.refl _⟩

set_option maxHeartbeats 4000000 in
set_option maxRecDepth 100000 in
theorem eql_calls (w : World) (v1 v2 : Value) (l1 l2 : List Lnk) (h1 : LnksAt w v1 l1) (h2 : LnksAt w v2 l2) : Calls Tryz.prog 87 #[v1, v2] w (EqPost w (decide (l1 = l2))) := by
  obtain ⟨a1, c1, rfl, hc1⟩ := h1.get
  obtain ⟨a2, c2, rfl, hc2⟩ := h2.get
  have hlen1 : l1.length ≤ 9223372036854775807 := SlV.len h1 |> fun h => by simpa using h
  have hlen2 : l2.length ≤ 9223372036854775807 := SlV.len h2 |> fun h => by simpa using h
  have HC1 := Lib.hid hc1
  have HC2 := Lib.hid hc2
  clear h1 h2 hc1 hc2
  by_cases hL : l1.length = l2.length
  · have mixed : Tryz.prog.follows .mixedOrders = true := by kernel_rfl
    have HL := Lib.hid hL
    clear hL hlen2
    have b0 : ((l1.length : Int) != (l2.length : Int)) = false := by rw [HL.out]; simp
    go_enter Tryz.func87, Tryz.ntmps87
    go_wp2_with fail
    go_loopw [13] (fun ix wr => ∃ k : Nat, ix = .int .i64 k ∧ k ≤ l1.length ∧ Hid (Gr w wr) ∧ Hid (∀ i (h1 : i < l1.length) (h2 : i < l2.length), i < k → l1[i] = l2[i])) (fun ix _ => l1.length - (intOf ix).toNat)
    case atStart => exact ⟨0, rfl, Nat.zero_le _, Lib.hid (Gr.refl _), Lib.hid (fun i _ _ h => absurd h (Nat.not_lt_zero _))⟩
    case round =>
      obtain ⟨k, rfl, hk, R, ALL⟩ := hrel
      by_cases c : k < l1.length
      · have c2' : k < l2.length := by have := HL.out; omega
        obtain ⟨g1, o1, rfl, hb1, hcc1⟩ := HC1.out (by omega)
        obtain ⟨g2, o2, rfl, hb2, hcc2⟩ := HC2.out (by omega)
        obtain ⟨d0, d1, d2, d3⟩ := hcc1 k c
        obtain ⟨e0, e1, e2, e3⟩ := hcc2 k c2'
        replace d0 := (R.out.b.cell hb1).trans d0
        replace d1 := (R.out.b.cell hb1).trans d1
        replace d2 := (R.out.b.cell hb1).trans d2
        replace d3 := (R.out.b.cell hb1).trans d3
        replace e0 := (R.out.b.cell hb2).trans e0
        replace e1 := (R.out.b.cell hb2).trans e1
        replace e2 := (R.out.b.cell hb2).trans e2
        replace e3 := (R.out.b.cell hb2).trans e3
        have i1 : (k : Int) < (l1.length : Int) := by omega
        have i2 : (k : Int) < (l2.length : Int) := by omega
        have i0 : (0 : Int) ≤ (k : Int) := by omega
        have s3 : ((k : Int)).toNat = k := by omega
        have YES : Hid (l1[k] = l2[k] → ∀ i (h1 : i < l1.length) (h2 : i < l2.length), i < k + 1 → l1[i] = l2[i]) := Lib.hid (fun h i h1 h2 hi => by
          rcases Nat.lt_or_ge i k with h' | h'
          · exact ALL.out i h1 h2 h'
          · obtain rfl : i = k := by omega
            exact h)
        have NO : Hid (l1[k] ≠ l2[k] → false = decide (l1 = l2)) := Lib.hid (fun h => by
          rw [eq_comm, decide_eq_false_iff_not]; intro he; subst he; exact h rfl)
        have NXD : Hid (∀ n os, Gr w (Go.Sort.grow (wr.drewN n) os)) := Lib.hid (fun n os => R.out.trans (Gr.of_grow n os))
        clear hcc1 hcc2 ALL
        generalize l1[k] = z1 at *
        generalize l2[k] = z2 at *
        clear HC1 HC2
        by_cases q : z1 = z2
        · have NX := Lib.hid (YES.out q)
          subst q
          clear YES NO
          have NL := neLnk z1 z1
          rw [show decide (z1 ≠ z1) = false by simp] at NL
          obtain ⟨m1, m2, m3, m4⟩ := z1
          simp only [lnkE] at NL d0 d1 d2 d3 e0 e1 e2 e3
          have p0 := fun n os => cell_grown (World.block_lt_of_cell? _ _ d0) d0 n os
          have q0 := fun n os => cell_grown (World.block_lt_of_cell? _ _ e0) e0 n os
          have p1 := fun n os => cell_grown (World.block_lt_of_cell? _ _ d1) d1 n os
          have q1 := fun n os => cell_grown (World.block_lt_of_cell? _ _ e1) e1 n os
          have p2 := fun n os => cell_grown (World.block_lt_of_cell? _ _ d2) d2 n os
          have q2 := fun n os => cell_grown (World.block_lt_of_cell? _ _ e2) e2 n os
          have p3 := fun n os => cell_grown (World.block_lt_of_cell? _ _ d3) d3 n os
          have q3 := fun n os => cell_grown (World.block_lt_of_cell? _ _ e3) e3 n os
          clear d0 e0 d1 e1 d2 e2 d3 e3
          go_wp2_with fail
          refine wp_region_quiet_grown (by assumption) (by kernel_rfl) ?_
          repeat (go_big_quiet_step (fail))
          refine wpQuiet_nil ?_
          intro _ hw'
          obtain ⟨⟨nq, osq⟩, hw''⟩ := hw'
          subst hw''
          have NXG := Lib.hid (NXD.out nq osq)
          clear p0 q0 p1 q1 p2 q2 p3 q3
          go_wp2_with fail
          go_roundw
          case rel => exact ⟨k + 1, by go_num, c, NXG, NX⟩
          case measure => simp [intOf]; omega
        · have FI := Lib.hid (NO.out q)
          have NL := neLnk z1 z2
          rw [show decide (z1 ≠ z2) = true by simpa using q] at NL
          clear q
          obtain ⟨m1, m2, m3, m4⟩ := z1
          obtain ⟨n1, n2', n3, n4⟩ := z2
          simp only [lnkE] at NL d0 d1 d2 d3 e0 e1 e2 e3
          have p0 := fun n os => cell_grown (World.block_lt_of_cell? _ _ d0) d0 n os
          have q0 := fun n os => cell_grown (World.block_lt_of_cell? _ _ e0) e0 n os
          have p1 := fun n os => cell_grown (World.block_lt_of_cell? _ _ d1) d1 n os
          have q1 := fun n os => cell_grown (World.block_lt_of_cell? _ _ e1) e1 n os
          have p2 := fun n os => cell_grown (World.block_lt_of_cell? _ _ d2) d2 n os
          have q2 := fun n os => cell_grown (World.block_lt_of_cell? _ _ e2) e2 n os
          have p3 := fun n os => cell_grown (World.block_lt_of_cell? _ _ d3) d3 n os
          have q3 := fun n os => cell_grown (World.block_lt_of_cell? _ _ e3) e3 n os
          clear d0 e0 d1 e1 d2 e2 d3 e3
          clear YES NO
          go_wp2_with fail
          refine wp_region_quiet_grown (by assumption) (by kernel_rfl) ?_
          repeat (go_big_quiet_step (fail))
          refine wpQuiet_nil ?_
          intro _ hw'
          obtain ⟨⟨nq, osq⟩, hw''⟩ := hw'
          subst hw''
          have NXG := Lib.hid (NXD.out nq osq)
          clear p0 q0 p1 q1 p2 q2 p3 q3
          go_wp2_with fail
          go_ret
          exact ⟨by rw [← FI.out]; rfl, NXG.out⟩
      · have ek : k = l1.length := by omega
        have FI : Hid (true = decide (l1 = l2)) := Lib.hid (by
          rw [eq_comm, decide_eq_true_eq]
          exact List.ext_getElem HL.out (fun i h1 h2 => ALL.out i h1 h2 (by omega)))
        have RR := R
        clear R ALL HC1 HC2
        go_wp2_with fail
        go_ret
        exact ⟨by rw [← FI.out]; rfl, RR.out⟩
  · have b0 : ((l1.length : Int) != (l2.length : Int)) = true := by simp; omega
    have FI : Hid (false = decide (l1 = l2)) := Lib.hid (by
      rw [eq_comm, decide_eq_false_iff_not]; intro he; exact hL (by rw [he]))
    clear hL HC1 HC2
    generalize l1.length = n1 at *
    generalize l2.length = n2 at *
    go_enter Tryz.func87, Tryz.ntmps87
    go_wp2_with fail
    go_ret
    exact ⟨by rw [← FI.out]; rfl, Gr.refl _⟩

end Go.Proofs.YtddageahmgaigaaGreat
