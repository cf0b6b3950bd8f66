import Derived.Test.YtddageahmgaigaaGreatFrd
import Derived.Test.YtddageahmgaigaaGreatLkm
import Derived.Deep.DeepCutAuto
namespace Go.Proofs.YtddageahmgaigaaGreat
open Go.RowKit

theorem perm_map {α β : Type} (f : α → β) {l' m : List β} (h : l'.Perm m) : ∀ xs : List α, xs.map f = m → ∃ xs' : List α, xs'.Perm xs ∧ xs'.map f = l' := by
  induction h with
  | nil => intro xs hx; exact ⟨[], by rw [List.map_eq_nil_iff.1 hx], rfl⟩
  | cons x h ih =>
    intro xs hx
    obtain ⟨a, r, rfl, rfl, hr⟩ := List.map_eq_cons_iff.1 hx
    obtain ⟨r', h1, h2⟩ := ih r hr
    exact ⟨a :: r', h1.cons a, by rw [List.map_cons, h2]⟩
  | swap x y l =>
    intro xs hx
    obtain ⟨a, r, rfl, rfl, hr⟩ := List.map_eq_cons_iff.1 hx
    obtain ⟨b, q, rfl, rfl, hq⟩ := List.map_eq_cons_iff.1 hr
    exact ⟨b :: a :: q, List.Perm.swap a b q, by rw [List.map_cons, List.map_cons, hq]⟩
  | trans h1 h2 ih1 ih2 =>
    intro xs hx
    obtain ⟨ys, k1, k2⟩ := ih2 xs hx
    obtain ⟨zs, k3, k4⟩ := ih1 ys k2
    exact ⟨zs, k3.trans k1, k4⟩

def keyD (d : LsaD) : Kk := lkOf d.x

theorem asc_sorted {s : List LsaD} (h : (s.map LsaD.x).Pairwise fun a b => 0 ≤ kkCmp (lkOf b) (lkOf a)) (nd : (s.map keyD).Nodup) : AscD s := by
  have h1 := List.pairwise_map.1 h
  have h2 : s.Pairwise fun a b => keyD a ≠ keyD b := List.pairwise_map.1 nd
  refine (h1.and h2).imp fun {a b} ⟨p, q⟩ => ?_
  rcases kkLt_tri (lkOf a.x) (lkOf b.x) with e | e | e
  · exact e
  · exact absurd e q
  · have := (kk_neg (lkOf b.x) (lkOf a.x)).2 e
    omega

def kF (s : List LsaD) (i : Nat) : Kk → Option Bool := fun k => if k ∈ (s.take i).map keyD then some true else none
theorem kF_zero (s : List LsaD) : kF s 0 = fun _ => none := by funext k; simp [kF]
theorem kF_succ {s : List LsaD} {i : Nat} (c : i < s.length) : upd (kF s i) (keyD s[i]) true = kF s (i + 1) := by
  funext k
  unfold upd kF
  rw [List.take_succ_eq_append_getElem c, List.map_append, List.map_cons, List.map_nil]
  by_cases e : k = keyD s[i]
  · simp [e]
  · simp [e]
theorem nodup_succ {s : List LsaD} {i : Nat} (c : i < s.length) (h : ((s.take i).map keyD).Nodup) (n : keyD s[i] ∉ (s.take i).map keyD) : ((s.take (i + 1)).map keyD).Nodup := by
  rw [List.take_succ_eq_append_getElem c, List.map_append, List.map_cons, List.map_nil]
  rw [List.nodup_append]
  exact ⟨h, by simp, fun a ha b hb e => by obtain rfl := List.mem_singleton.1 hb; subst e; exact n ha⟩
theorem dup_of {s : List LsaD} {i : Nat} (c : i < s.length) (n : keyD s[i] ∈ (s.take i).map keyD) : ¬ (s.map keyD).Nodup := by
  intro h
  have e : s.map keyD = (s.take i).map keyD ++ (keyD s[i] :: (s.drop (i + 1)).map keyD) := by
    rw [← List.map_cons, ← List.drop_eq_getElem_cons c, ← List.map_append, List.take_append_drop]
  rw [e, List.nodup_append] at h
  exact h.2.2 _ n _ (List.mem_cons_self ..) rfl

theorem MapF.kept {P : Program} {k : TypeId} {α β : Type} {ok : α → Prop} {lit : α → Lit} {mkV : β → Value} {w w' : World} {b n : Nat} {f : α → Option β} {row : Option Nat} (h : MapF P k ok lit mkV w b n f) (hg : w.grownBy w' row) (hb : some b ≠ row) : MapF P k ok lit mkV w' b n f := by
  obtain ⟨D, h1, h2⟩ := h
  exact ⟨D, h1.kept hg hb, h2⟩

theorem MapF.run_none {P : Program} {k : TypeId} {α β : Type} {ok : α → Prop} {mkK : α → Value} {lit : α → Lit} {mkV : β → Value} {w : World} {b n : Nat} {f : α → Option β} {t e : TypeId} (K : KeyIs P k ok mkK lit) (ht : P.underlying t = some (.map k e)) {z : Value} (hz : (zeroValue e).run P w = .ok z w)
    (hown : MapF P k ok lit mkV w b n f) {y : α} (hy : ok y) (hf : f y = none) : (Instr.lookup t (.map (some b)) (mkK y) false).run P w = .ok z w := by
  obtain ⟨D, h1, h2⟩ := hown
  have hh := (h2 y hy).1
  rw [hf] at hh
  obtain ⟨v, ps, hrun, hv⟩ := h1.lookup K.keyed ht hz (zd := .held z) (zp := []) rfl (K.of y hy)
  rw [Maps.atKey_of_not_has hh] at hv
  simp only [heldR, Option.some.injEq, Prod.mk.injEq, DataW.held.injEq] at hv
  rw [hv.1] at hrun
  exact hrun
theorem MapF.run_some {P : Program} {k : TypeId} {α β : Type} {ok : α → Prop} {mkK : α → Value} {lit : α → Lit} {mkV : β → Value} {w : World} {b n : Nat} {f : α → Option β} {t e : TypeId} (K : KeyIs P k ok mkK lit) (ht : P.underlying t = some (.map k e)) {z : Value} (hz : (zeroValue e).run P w = .ok z w)
    (hown : MapF P k ok lit mkV w b n f) {y : α} (hy : ok y) {c : β} (hf : f y = some c) : (Instr.lookup t (.map (some b)) (mkK y) false).run P w = .ok (mkV c) w := by
  obtain ⟨D, h1, h2⟩ := hown
  have ha := (h2 y hy).2 c hf
  obtain ⟨v, ps, hrun, hv⟩ := h1.lookup K.keyed ht hz (zd := .held z) (zp := []) rfl (K.of y hy)
  rw [ha] at hv
  simp only [heldR, Option.some.injEq, Prod.mk.injEq, DataW.held.injEq] at hv
  rw [hv.1] at hrun
  exact hrun

def Far (v u : Value) : Prop := ∀ b off n c, u = .slice (some ⟨b, off, none⟩) n c → 0 < n → v.ownBlock ≠ some b
theorem SlV.keptF {k : Nat} {w w' : World} {u v : Value} {css : List (List Value)} (h : SlV k w u css) (hg : w.grownBy w' v.ownBlock) (f : Far v u) : SlV k w' u css := by
  obtain ⟨a, cap, e, h1, h2, h3, h4⟩ := h
  refine ⟨a, cap, e, h1, h2, h3, fun h0 => ?_⟩
  obtain ⟨b, off, ea, h5, h6⟩ := h4 h0
  subst ea
  have ne := f b off _ _ e h0
  exact ⟨b, off, rfl, Nat.lt_of_lt_of_le h5 hg.size, fun i hi j u hu => (World.cell?_of_block (w := w) (w' := w') (hg.block b h5 ne.symm)).trans (h6 i hi j u hu)⟩
theorem SlV.blt {k : Nat} {w : World} {b off n c : Nat} {css : List (List Value)} (h : SlV k w (.slice (some ⟨b, off, none⟩) n c) css) (h0 : 0 < n) : b < w.heap.size := by
  obtain ⟨a, cap, e, h1, h2, h3, h4⟩ := h
  simp only [Value.slice.injEq] at e
  obtain ⟨e1, e2, -⟩ := e
  obtain ⟨b', off', ea, h5, -⟩ := h4 (by omega)
  rw [ea] at e1
  cases e1
  exact h5
theorem Far.move {k : Nat} {w : World} {u v v' : Value} {css : List (List Value)} (f : Far v u) (h : SlV k w u css) (m : v'.ownBlock = v.ownBlock ∨ v'.ownBlock = some w.heap.size) : Far v' u := by
  intro b off n c e h0 hb
  rcases m with m | m
  · exact f b off n c e h0 (m ▸ hb)
  · rw [m] at hb
    cases hb
    rw [e] at h
    have := SlV.blt h h0
    omega
theorem Far.new {base : Nat} {w : World} {e : TypeId} {k n : Nat} {v u : Value} {xs : List Value} (o : w.ownsRow base e k v n xs) {B : Nat} (f : Fr B u) (hB : w.heap.size ≤ B) : Far v u := by
  intro b off n' c eu _ hb
  have h1 := (World.ownsRow.lt o b hb).2
  have h2 := f b off n' c eu
  omega
theorem Far.nil (u : Value) : Far (.slice none 0 0) u := by intro b off n c _ _ h; simp [Value.ownBlock] at h

structure ORow (base : Nat) (w : World) (v : Value) (xs : List LsaD) : Prop where
  row : LsaRow base w v (xs.map LsaD.x)
  deep : ∀ d ∈ xs, (LnksAt w (.slice d.x.la d.x.ln d.x.lc) d.lk ∧ WordsAt w (.slice d.x.aa d.x.an d.x.ac) d.att) ∧ Far v (.slice d.x.la d.x.ln d.x.lc) ∧ Far v (.slice d.x.aa d.x.an d.x.ac)
theorem ORow.nil (base : Nat) (w : World) : ORow base w (.slice none 0 0) [] := ⟨World.ownsRow_nil _ _ _ _, fun d h => by cases h⟩
theorem ORow.grow {base : Nat} {w w' : World} {v : Value} {xs : List LsaD} (R : ORow base w v xs) (hb : Below w.heap.size w w') : ORow base w' v xs :=
  ⟨R.row.gr hb, fun d hd => ⟨⟨(R.deep d hd).1.1.below hb, (R.deep d hd).1.2.below hb⟩, (R.deep d hd).2⟩⟩
theorem ORow.drow {base : Nat} {w : World} {v : Value} {xs : List LsaD} (R : ORow base w v xs) : DRow w v xs := ⟨R.row.at, fun d hd => (R.deep d hd).1⟩
theorem ORow.push {base : Nat} {w w' : World} {v v' : Value} {xs : List LsaD} (R : ORow base w v xs) {y : LsaD} (h1 : LnksAt w (.slice y.x.la y.x.ln y.x.lc) y.lk) (h2 : WordsAt w (.slice y.x.aa y.x.an y.x.ac) y.att) (f1 : Far v (.slice y.x.la y.x.ln y.x.lc)) (f2 : Far v (.slice y.x.aa y.x.an y.x.ac))
    (own' : w'.ownsRow base 42 15 v' ((xs.map LsaD.x).length + 1) (((xs.map LsaD.x).map lsaE).flatten ++ lsaE y.x)) (hg : w.grownBy w' v.ownBlock) (m : v'.ownBlock = v.ownBlock ∨ v'.ownBlock = some w.heap.size) : ORow base w' v' (xs ++ [y]) := by
  refine ⟨?_, fun d hd => ?_⟩
  · unfold LsaRow
    rw [List.map_append, List.map_append, List.flatten_append, List.length_append]
    simpa using own'
  · have key : ∀ d : LsaD, LnksAt w (.slice d.x.la d.x.ln d.x.lc) d.lk → WordsAt w (.slice d.x.aa d.x.an d.x.ac) d.att → Far v (.slice d.x.la d.x.ln d.x.lc) → Far v (.slice d.x.aa d.x.an d.x.ac) → (LnksAt w' (.slice d.x.la d.x.ln d.x.lc) d.lk ∧ WordsAt w' (.slice d.x.aa d.x.an d.x.ac) d.att) ∧ Far v' (.slice d.x.la d.x.ln d.x.lc) ∧ Far v' (.slice d.x.aa d.x.an d.x.ac) :=
      fun d a b c e => ⟨⟨SlV.keptF a hg c, SlV.keptF b hg e⟩, c.move a m, e.move b m⟩
    rcases List.mem_append.1 hd with hd | hd
    · have := R.deep d hd
      exact key d this.1.1 this.1.2 this.2.1 this.2.2
    · obtain rfl := List.mem_singleton.1 hd
      exact key d h1 h2 f1 f2
theorem ORow.sorted {base : Nat} {w w' : World} {v : Value} {xs xs' : List LsaD} (R : ORow base w v xs) (row' : LsaRow base w' v (xs'.map LsaD.x)) (hp : xs'.Perm xs) (hg : w.grownBy w' v.ownBlock) : ORow base w' v xs' :=
  ⟨row', fun d hd => by
    have := R.deep d (hp.mem_iff.1 hd)
    exact ⟨⟨SlV.keptF this.1.1 hg this.2.1, SlV.keptF this.1.2 hg this.2.2⟩, this.2⟩⟩

structure PL1 (w3 : World) (mb : Nat) (s : List LsaD) (i : Nat) (wr : World) : Prop where
  hi : i ≤ s.length
  mp : LMap wr mb i (kF s i)
  bel : Below mb w3 wr
  nd : ((s.take i).map keyD).Nodup
structure PL2 (W : World) (db s : List LsaD) (i : Nat) (v : Value) (out : List LsaD) (wr : World) : Prop where
  hi : i ≤ s.length
  row : ORow W.heap.size wr v out
  eq : out.map nrm = ((s.take i).filter fun d => (nx db d).ok).map fun d => nrm (nx db d).y
  ok : ∀ j, (h : j < s.length) → j < i → (nx db s[j]).c = 0
  bel : Below W.heap.size W wr
theorem PL2.len {W : World} {db s : List LsaD} {i : Nat} {v : Value} {out : List LsaD} {wr : World} (R : PL2 W db s i v out wr) : out.length ≤ i := by
  have h := congrArg List.length R.eq
  rw [List.length_map, List.length_map] at h
  have h2 := List.length_filter_le (fun d => (nx db d).ok) (s.take i)
  rw [List.length_take] at h2
  omega
theorem PL2.grow {W : World} {db s : List LsaD} {i : Nat} {v : Value} {out : List LsaD} {wr w' : World} (R : PL2 W db s i v out wr) (hb : Below wr.heap.size wr w') : PL2 W db s i v out w' :=
  ⟨R.hi, R.row.grow hb, R.eq, R.ok, R.bel.trans (hb.mono R.bel.size)⟩
theorem PL2.ok1 {W : World} {db s : List LsaD} {i : Nat} {v : Value} {out : List LsaD} {wr : World} (R : PL2 W db s i v out wr) (c : i < s.length) (h : (nx db s[i]).c = 0) : ∀ j, (h : j < s.length) → j < i + 1 → (nx db s[j]).c = 0 := by
  intro j hj hi
  rcases Nat.lt_or_ge j i with z | z
  · exact R.ok j hj z
  · obtain rfl : j = i := by omega
    exact h
theorem PL2.skip {W : World} {db s : List LsaD} {i : Nat} {v : Value} {out : List LsaD} {wr : World} (R : PL2 W db s i v out wr) (c : i < s.length) (h : (nx db s[i]).c = 0) (ho : (nx db s[i]).ok = false) : PL2 W db s (i + 1) v out wr :=
  ⟨c, R.row, by rw [List.take_succ_eq_append_getElem c, List.filter_append, List.filter_cons_of_neg (by simp [ho]), List.filter_nil, List.append_nil]; exact R.eq, R.ok1 c h, R.bel⟩
theorem PL2.push {W : World} {db s : List LsaD} {i : Nat} {v v' : Value} {out : List LsaD} {wr w' : World} (R : PL2 W db s i v out wr) (c : i < s.length) (h : (nx db s[i]).c = 0) (ho : (nx db s[i]).ok = true) {y : LsaD} (hy : nrm y = nrm (nx db s[i]).y) (h1 : LnksAt wr (.slice y.x.la y.x.ln y.x.lc) y.lk) (h2 : WordsAt wr (.slice y.x.aa y.x.an y.x.ac) y.att) (f1 : Far v (.slice y.x.la y.x.ln y.x.lc)) (f2 : Far v (.slice y.x.aa y.x.an y.x.ac))
    (own' : w'.ownsRow W.heap.size 42 15 v' ((out.map LsaD.x).length + 1) (((out.map LsaD.x).map lsaE).flatten ++ lsaE y.x)) (hg : wr.grownBy w' v.ownBlock) (m : v'.ownBlock = v.ownBlock ∨ v'.ownBlock = some wr.heap.size) : PL2 W db s (i + 1) v' (out ++ [y]) w' :=
  ⟨c, R.row.push h1 h2 f1 f2 own' hg m, by
    rw [List.map_append, R.eq, List.take_succ_eq_append_getElem c, List.filter_append, List.filter_cons_of_pos (by simp [ho]), List.filter_nil, List.map_append, List.map_cons, List.map_nil, List.map_cons, List.map_nil, hy], R.ok1 c h,
    R.bel.grown hg R.bel.size (fun j hj => (World.ownsRow.lt R.row.row j hj).1)⟩

def oldB (f : Kk → Option Bool) (d : LsaD) : Bool := decide (d.x.age < 3600) && (f (keyD d)).isNone
structure PL3 (base : Nat) (W : World) (g0 : Option Nat) (f : Kk → Option Bool) (own out0 : List LsaD) (i : Nat) (v : Value) (out : List LsaD) (wr : World) : Prop where
  hi : i ≤ own.length
  row : ORow base wr v out
  eq : out.map nrm = out0.map nrm ++ ((own.take i).filter (oldB f)).map fun d => nrm (flD d)
  gr : W.grownBy wr g0
  vb : v.ownBlock = g0 ∨ ∃ b, v.ownBlock = some b ∧ W.heap.size ≤ b
theorem PL3.len {base : Nat} {W : World} {g0 : Option Nat} {f : Kk → Option Bool} {own out0 : List LsaD} {i : Nat} {v : Value} {out : List LsaD} {wr : World} (R : PL3 base W g0 f own out0 i v out wr) : out.length ≤ out0.length + i := by
  have h := congrArg List.length R.eq
  rw [List.length_map, List.length_append, List.length_map, List.length_map] at h
  have h2 := List.length_filter_le (oldB f) (own.take i)
  rw [List.length_take] at h2
  omega
theorem PL3.grow {base : Nat} {W : World} {g0 : Option Nat} {f : Kk → Option Bool} {own out0 : List LsaD} {i : Nat} {v : Value} {out : List LsaD} {wr w' : World} (R : PL3 base W g0 f own out0 i v out wr) (hb : Below wr.heap.size wr w') : PL3 base W g0 f own out0 i v out w' :=
  ⟨R.hi, R.row.grow hb, R.eq, grown_below R.gr hb, R.vb⟩
theorem PL3.skip {base : Nat} {W : World} {g0 : Option Nat} {f : Kk → Option Bool} {own out0 : List LsaD} {i : Nat} {v : Value} {out : List LsaD} {wr : World} (R : PL3 base W g0 f own out0 i v out wr) (c : i < own.length) (h : oldB f own[i] = false) : PL3 base W g0 f own out0 (i + 1) v out wr :=
  ⟨c, R.row, by rw [List.take_succ_eq_append_getElem c, List.filter_append, List.filter_cons_of_neg (by simp [h]), List.filter_nil, List.append_nil]; exact R.eq, R.gr, R.vb⟩
theorem PL3.push {base : Nat} {W : World} {g0 : Option Nat} {f : Kk → Option Bool} {own out0 : List LsaD} {i : Nat} {v v' : Value} {out : List LsaD} {wr w' : World} (R : PL3 base W g0 f own out0 i v out wr) (c : i < own.length) (h : oldB f own[i] = true) {y : LsaD} (hy : nrm y = nrm (flD own[i])) (h1 : LnksAt wr (.slice y.x.la y.x.ln y.x.lc) y.lk) (h2 : WordsAt wr (.slice y.x.aa y.x.an y.x.ac) y.att) (f1 : Far v (.slice y.x.la y.x.ln y.x.lc)) (f2 : Far v (.slice y.x.aa y.x.an y.x.ac))
    (own' : w'.ownsRow base 42 15 v' ((out.map LsaD.x).length + 1) (((out.map LsaD.x).map lsaE).flatten ++ lsaE y.x)) (hg : wr.grownBy w' v.ownBlock) (m : v'.ownBlock = v.ownBlock ∨ v'.ownBlock = some wr.heap.size) : PL3 base W g0 f own out0 (i + 1) v' (out ++ [y]) w' := by
  refine ⟨c, R.row.push h1 h2 f1 f2 own' hg m, ?_, ?_, ?_⟩
  · rw [List.map_append, R.eq, List.take_succ_eq_append_getElem c, List.filter_append, List.filter_cons_of_pos h, List.filter_nil, List.map_append, List.map_cons, List.map_nil, List.map_cons, List.map_nil, hy, List.append_assoc]
  · refine R.gr.andThen hg fun j hj => ?_
    rcases R.vb with e | ⟨b, e, hb⟩
    · exact .inr (e.symm.trans hj)
    · rw [e] at hj; cases hj; exact .inl hb
  · rcases m with m | m
    · rw [m]; exact R.vb
    · exact .inr ⟨_, m, R.gr.size⟩

def outLoops : Code → List Code
  | .loop c => [c]
  | .seq a b => outLoops a ++ outLoops b
  | .block _ c => outLoops c
  | .scope c => outLoops c
  | .cond _ a b => outLoops a ++ outLoops b
  | _ => []
noncomputable def plBody (i : Nat) : Code := ((Tryz.f22.body.map outLoops).getD []).getD i .skip

end Go.Proofs.YtddageahmgaigaaGreat
