import Derived.Test.YtddageahmgaigaaGreatPlp
import Derived.Test.YtddageahmgaigaaGreatGet
import Derived.Test.YtddageahmgaigaaGreatLcs
namespace Go.Proofs.YtddageahmgaigaaGreat
open Go.RowKit

def keyR (d : LsaD) : Kk := lkOf d.x

theorem kk_zero (a b : Kk) : kkCmp a b = 0 ↔ a = b := by
  unfold kkCmp
  have hz : ∀ x y : Int, cmpI x y = 0 ↔ x = y := fun x y => by unfold cmpI; split <;> (try split) <;> omega
  obtain ⟨a1, a2, a3, a4⟩ := a
  obtain ⟨b1, b2, b3, b4⟩ := b
  simp only [Kk.mk.injEq]
  by_cases h1 : a1 = b1
  · rw [(hz _ _).2 h1]
    by_cases h2 : a2 = b2
    · rw [(hz _ _).2 h2]
      by_cases h3 : a3 = b3
      · rw [(hz _ _).2 h3]
        by_cases h4 : a4 = b4
        · rw [(hz _ _).2 h4]; simp [orI, h1, h2, h3, h4]
        · have : ¬ cmpI a4 b4 = 0 := fun z => h4 ((hz _ _).1 z)
          simp [orI, this, h4]
      · have : ¬ cmpI a3 b3 = 0 := fun z => h3 ((hz _ _).1 z)
        simp [orI, this, h3]
    · have : ¬ cmpI a2 b2 = 0 := fun z => h2 ((hz _ _).1 z)
      simp [orI, this, h2]
  · have : ¬ cmpI a1 b1 = 0 := fun z => h1 ((hz _ _).1 z)
    simp [orI, this, h1]
theorem kk_lt (a b : Kk) : kkCmp a b < 0 ↔ kkLt a b := kk_neg a b
theorem kk_gt (a b : Kk) : 0 < kkCmp a b ↔ kkLt b a := by
  have h1 := kk_lt a b
  have h2 := kk_zero a b
  constructor
  · intro h
    rcases kkLt_tri a b with q | q | q
    · have := h1.2 q; omega
    · have := h2.2 q; omega
    · exact q
  · intro h
    have n1 : ¬ kkCmp a b < 0 := fun q => kkLt_irr _ (kkLt_trans (h1.1 q) h)
    have n2 : ¬ kkCmp a b = 0 := fun q => by have := h2.1 q; subst this; exact kkLt_irr _ h
    omega

def ltR (x y : Lsa) : Bool := decide (kkCmp (lkOf x) (lkOf y) < 0)
theorem ltR_true {x y : Lsa} : ltR x y = true ↔ kkLt (lkOf x) (lkOf y) := by unfold ltR; rw [decide_eq_true_iff]; exact kk_lt _ _
theorem ltR_false {x y : Lsa} : ltR x y = false ↔ ¬ kkLt (lkOf x) (lkOf y) := by rw [← ltR_true]; cases ltR x y <;> simp

theorem ins_done (x : Lsa) : ∀ (l : List Lsa) (acc : List Lsa), (∀ y ∈ l, kkLt (lkOf x) (lkOf y)) → l.foldl (insStep x) (true, acc) = (true, acc ++ l)
  | [], acc, _ => by simp
  | y :: l, acc, h => by
    have h1 := (kk_lt _ _).2 (h y (List.mem_cons_self ..))
    have e : insStep x (true, acc) y = (true, acc ++ [y]) := by
      unfold insStep
      have : ¬ kkCmp (lkOf x) (lkOf y) = 0 := by omega
      simp [this]
    rw [List.foldl_cons, e, ins_done x l (acc ++ [y]) fun z hz => h z (List.mem_cons_of_mem _ hz)]
    simp
def insEnd (x : Lsa) (r : Bool × List Lsa) : List Lsa := if r.1 = true then r.2 else r.2 ++ [x]
theorem filt_all {l : List Lsa} {x : Lsa} (h : ∀ y ∈ l, kkLt (lkOf x) (lkOf y)) : l.filter (fun y => ltR y x) = [] ∧ l.filter (fun y => ltR x y) = l := by
  constructor
  · refine List.filter_eq_nil_iff.2 fun y hy => ?_
    rw [Bool.not_eq_true, ltR_false]
    exact fun q => kkLt_irr _ (kkLt_trans q (h y hy))
  · exact List.filter_eq_self.2 fun y hy => ltR_true.2 (h y hy)
theorem ins_fold (x : Lsa) : ∀ (l : List Lsa) (acc : List Lsa), (l.Pairwise fun a b => kkLt (lkOf a) (lkOf b)) → insEnd x (l.foldl (insStep x) (false, acc)) = acc ++ (l.filter (fun y => ltR y x) ++ x :: l.filter (fun y => ltR x y))
  | [], acc, _ => by simp [insEnd]
  | y :: l, acc, h => by
    obtain ⟨h1, h2⟩ := List.pairwise_cons.1 h
    rw [List.foldl_cons]
    rcases kkLt_tri (lkOf x) (lkOf y) with q | q | q
    · have c := (kk_lt _ _).2 q
      have e : insStep x (false, acc) y = (true, acc ++ [x, y]) := by
        unfold insStep
        have n1 : ¬ kkCmp (lkOf x) (lkOf y) = 0 := by omega
        have n2 : kkCmp (lkOf x) (lkOf y) ≤ 0 := by omega
        simp [n1, n2]
      have al : ∀ z ∈ l, kkLt (lkOf x) (lkOf z) := fun z hz => kkLt_trans q (h1 z hz)
      obtain ⟨f1, f2⟩ := filt_all al
      rw [e, ins_done x l _ al, List.filter_cons_of_neg (by rw [Bool.not_eq_true, ltR_false]; exact fun z => kkLt_irr _ (kkLt_trans q z)), List.filter_cons_of_pos (ltR_true.2 q), f1, f2]
      simp [insEnd]
    · have c := (kk_zero _ _).2 q
      have e : insStep x (false, acc) y = (true, acc ++ [x]) := by
        unfold insStep
        simp [c]
      have al : ∀ z ∈ l, kkLt (lkOf x) (lkOf z) := fun z hz => by rw [q]; exact h1 z hz
      obtain ⟨f1, f2⟩ := filt_all al
      rw [e, ins_done x l _ al, List.filter_cons_of_neg (by rw [Bool.not_eq_true, ltR_false, q]; exact kkLt_irr _), List.filter_cons_of_neg (by rw [Bool.not_eq_true, ltR_false, q]; exact kkLt_irr _), f1, f2]
      simp [insEnd]
    · have c := (kk_gt _ _).2 q
      have e : insStep x (false, acc) y = (false, acc ++ [y]) := by
        unfold insStep
        have n1 : ¬ kkCmp (lkOf x) (lkOf y) = 0 := by omega
        have n2 : ¬ kkCmp (lkOf x) (lkOf y) ≤ 0 := by omega
        simp [n1, n2]
      rw [e, ins_fold x l (acc ++ [y]) h2, List.filter_cons_of_pos (p := fun z : Lsa => ltR z x) (ltR_true.2 q), List.filter_cons_of_neg (by rw [Bool.not_eq_true, ltR_false]; exact fun z => kkLt_irr _ (kkLt_trans q z))]
      simp
theorem insL_eq {x : Lsa} {l : List Lsa} (h : l.Pairwise fun a b => kkLt (lkOf a) (lkOf b)) : insL x l = l.filter (fun y => ltR y x) ++ x :: l.filter (fun y => ltR x y) := by
  have := ins_fold x l [] h
  unfold insL insK
  rw [List.take_length]
  simpa [insEnd] using this

def insD (d : LsaD) (l : List LsaD) : List LsaD := l.filter (fun y => ltR y.x d.x) ++ d :: l.filter (fun y => ltR d.x y.x)
theorem insD_map {d : LsaD} {l : List LsaD} (h : AscD l) : (insD d l).map LsaD.x = insL d.x (l.map LsaD.x) := by
  rw [insL_eq (List.pairwise_map.2 h)]
  unfold insD
  rw [List.map_append, List.map_cons, List.filter_map, List.filter_map]
  rfl
theorem insD_mem {d : LsaD} {l : List LsaD} {y : LsaD} : y ∈ insD d l ↔ y = d ∨ (y ∈ l ∧ keyR y ≠ keyR d) := by
  unfold insD
  rw [List.mem_append, List.mem_cons, List.mem_filter, List.mem_filter, ltR_true, ltR_true]
  constructor
  · rintro (⟨a, b⟩ | a | ⟨a, b⟩)
    · exact .inr ⟨a, fun e => by unfold keyR at e; rw [e] at b; exact kkLt_irr _ b⟩
    · exact .inl a
    · exact .inr ⟨a, fun e => by unfold keyR at e; rw [e] at b; exact kkLt_irr _ b⟩
  · rintro (a | ⟨a, b⟩)
    · exact .inr (.inl a)
    · rcases kkLt_tri (lkOf y.x) (lkOf d.x) with q | q | q
      · exact .inl ⟨a, q⟩
      · exact absurd q b
      · exact .inr (.inr ⟨a, q⟩)
theorem insD_asc {d : LsaD} {l : List LsaD} (h : AscD l) : AscD (insD d l) := by
  unfold insD AscD
  rw [List.pairwise_append, List.pairwise_cons]
  refine ⟨h.filter _, ⟨fun y hy => ltR_true.1 (List.mem_filter.1 hy).2, h.filter _⟩, fun a ha b hb => ?_⟩
  have h1 := ltR_true.1 (List.mem_filter.1 ha).2
  rcases List.mem_cons.1 hb with rfl | hb
  · exact h1
  · exact kkLt_trans h1 (ltR_true.1 (List.mem_filter.1 hb).2)
theorem insD_len (d : LsaD) (l : List LsaD) : (insD d l).length ≤ l.length + 1 := by
  have key : ∀ l : List LsaD, (l.filter fun y => ltR y.x d.x).length + (l.filter fun y => ltR d.x y.x).length ≤ l.length := by
    intro l
    induction l with
    | nil => simp
    | cons y l ih =>
      by_cases h1 : kkLt (lkOf y.x) (lkOf d.x)
      · rw [List.filter_cons_of_pos (p := fun z : LsaD => ltR z.x d.x) (ltR_true.2 h1), List.filter_cons_of_neg (p := fun z : LsaD => ltR d.x z.x) (by rw [Bool.not_eq_true, ltR_false]; exact fun z => kkLt_irr _ (kkLt_trans h1 z))]
        simp only [List.length_cons]; omega
      · rw [List.filter_cons_of_neg (p := fun z : LsaD => ltR z.x d.x) (by rw [Bool.not_eq_true, ltR_false]; exact h1)]
        have := List.length_filter_le (fun y : LsaD => ltR d.x y.x) [y]
        by_cases h2 : ltR d.x y.x = true
        · rw [List.filter_cons_of_pos (p := fun z : LsaD => ltR d.x z.x) h2]; simp only [List.length_cons]; omega
        · rw [List.filter_cons_of_neg (p := fun z : LsaD => ltR d.x z.x) h2]; simp only [List.length_cons]; omega
  have := key l
  unfold insD
  rw [List.length_append, List.length_cons]; omega
theorem insD_perm {d : LsaD} {l : List LsaD} (h : AscD l) (n : ∀ y ∈ l, keyR y ≠ keyR d) : (insD d l).Perm (d :: l) := by
  have e : l = l.filter (fun y => ltR y.x d.x) ++ l.filter (fun y => ltR d.x y.x) := by
    induction l with
    | nil => rfl
    | cons y l ih =>
      obtain ⟨h1, h2⟩ := List.pairwise_cons.1 h
      have ih := ih h2 fun z hz => n z (List.mem_cons_of_mem _ hz)
      rcases kkLt_tri (lkOf y.x) (lkOf d.x) with q | q | q
      · rw [List.filter_cons_of_pos (p := fun z : LsaD => ltR z.x d.x) (ltR_true.2 q), List.filter_cons_of_neg (p := fun z : LsaD => ltR d.x z.x) (by rw [Bool.not_eq_true, ltR_false]; exact fun z => kkLt_irr _ (kkLt_trans q z)), List.cons_append, ← ih]
      · exact absurd q (n y (List.mem_cons_self ..))
      · have al : ∀ z ∈ l, kkLt (lkOf d.x) (lkOf z.x) := fun z hz => kkLt_trans q (h1 z hz)
        have f1 : l.filter (fun y => ltR y.x d.x) = [] := List.filter_eq_nil_iff.2 fun z hz => by
          rw [Bool.not_eq_true, ltR_false]
          exact fun w => kkLt_irr _ (kkLt_trans w (al z hz))
        have f2 : l.filter (fun y => ltR d.x y.x) = l := List.filter_eq_self.2 fun z hz => ltR_true.2 (al z hz)
        rw [List.filter_cons_of_neg (p := fun z : LsaD => ltR z.x d.x) (by rw [Bool.not_eq_true, ltR_false]; exact fun z => kkLt_irr _ (kkLt_trans q z)), List.filter_cons_of_pos (p := fun z : LsaD => ltR d.x z.x) (ltR_true.2 q), f1, f2]
        rfl
  unfold insD
  conv => rhs; rw [e]
  exact List.perm_middle

def outLoopsR : Code → List Code
  | .loop c => [c]
  | .seq a b => outLoopsR a ++ outLoopsR b
  | .block _ c => outLoopsR c
  | .scope c => outLoopsR c
  | .cond _ a b => outLoopsR a ++ outLoopsR b
  | _ => []
noncomputable def rpBody (i : Nat) : Code := ((Tryz.f23.body.map outLoopsR).getD []).getD i .skip

structure RP2 (w : World) (wt : List LsaD) (k : Nat) (v : Value) (rows : List LsaD) (wr : World) : Prop where
  hk : k ≤ wt.length
  row : LsasAt wr v (rows.map LsaD.x)
  perm : rows.Perm (wt.take k)
  asc : AscD rows
  bel : Below w.heap.size w wr
theorem RP2.step {w : World} {wt : List LsaD} {k : Nat} {v v' : Value} {rows : List LsaD} {wr w' : World} (R : RP2 w wt k v rows wr) (c : k < wt.length) (n : ∀ y ∈ rows, keyR y ≠ keyR wt[k]) (h : LsasAt w' v' (insL wt[k].x (rows.map LsaD.x))) (hb : Below wr.heap.size wr w') : RP2 w wt (k + 1) v' (insD wt[k] rows) w' := by
  refine ⟨c, by rw [insD_map R.asc]; exact h, ?_, insD_asc R.asc, R.bel.trans (hb.mono R.bel.size)⟩
  refine (insD_perm R.asc n).trans ?_
  rw [List.take_succ_eq_append_getElem c]
  exact ((R.perm.cons _).trans (List.perm_append_singleton _ _).symm)

structure RPo (w : World) (v : Value) (out : List LsaD) (wr : World) : Prop where
  row : DRow wr v out
  asc : AscD out
  bel : Below w.heap.size w wr
theorem RPo.grow {w : World} {v : Value} {out : List LsaD} {wr w' : World} (R : RPo w v out wr) (hb : Below wr.heap.size wr w') : RPo w v out w' := ⟨R.row.below hb, R.asc, R.bel.trans (hb.mono R.bel.size)⟩
theorem RPo.ins {w : World} {v v' : Value} {out : List LsaD} {wr w' : World} (R : RPo w v out wr) {y : LsaD} (h1 : LnksAt wr (.slice y.x.la y.x.ln y.x.lc) y.lk) (h2 : WordsAt wr (.slice y.x.aa y.x.an y.x.ac) y.att) (h : LsasAt w' v' (insL y.x (out.map LsaD.x))) (hb : Below wr.heap.size wr w') : RPo w v' (insD y out) w' := by
  refine ⟨⟨by rw [insD_map R.asc]; exact h, fun d hd => ?_⟩, insD_asc R.asc, R.bel.trans (hb.mono R.bel.size)⟩
  rcases insD_mem.1 hd with rfl | ⟨hd, _⟩
  · exact ⟨h1.below hb, h2.below hb⟩
  · exact ⟨(R.row.deep d hd).1.below hb, (R.row.deep d hd).2.below hb⟩
theorem ins_members {y : LsaD} {out : List LsaD} (n : ∀ z ∈ out, keyR z ≠ keyR y) (u : LsaD) : u ∈ (insD y out).map nrm ↔ u = nrm y ∨ u ∈ out.map nrm := by
  rw [List.mem_map, List.mem_map]
  constructor
  · rintro ⟨z, hz, rfl⟩
    rcases insD_mem.1 hz with rfl | ⟨hz, _⟩
    · exact .inl rfl
    · exact .inr ⟨z, hz, rfl⟩
  · rintro (rfl | ⟨z, hz, rfl⟩)
    · exact ⟨y, insD_mem.2 (.inl rfl), rfl⟩
    · exact ⟨z, insD_mem.2 (.inr ⟨hz, n z hz⟩), rfl⟩

end Go.Proofs.YtddageahmgaigaaGreat
