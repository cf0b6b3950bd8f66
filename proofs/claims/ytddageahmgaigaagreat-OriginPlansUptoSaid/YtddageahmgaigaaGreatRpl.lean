import Derived.Test.YtddageahmgaigaaGreatPlp
import Derived.Test.YtddageahmgaigaaGreatGet
import Derived.Test.YtddageahmgaigaaGreatLcs
namespace Go.Proofs.YtddageahmgaigaaGreat
open Go.RowKit

def keyR (d : LsaD) : Kk := lkOf d.x

theorem kk_zero (a b : Kk) : kkCmp a b = 0 ↔ a = b := by
  unfold kkCmp
  have hz : ∀ x y : Int, cmpI x y = 0 ↔ x = y := fun x y => by unfold cmpI; split <;> (try split) <;> omega
  obtain ⟨a1, a2, a3, a4⟩ := a
  obtain ⟨b1, b2, b3, b4⟩ := b
  simp only [Kk.mk.injEq]
  by_cases h1 : a1 = b1
  · rw [(hz _ _).2 h1]
    by_cases h2 : a2 = b2
    · rw [(hz _ _).2 h2]
      by_cases h3 : a3 = b3
      · rw [(hz _ _).2 h3]
        by_cases h4 : a4 = b4
        · rw [(hz _ _).2 h4]; simp [orI, h1, h2, h3, h4]
        · have : ¬ cmpI a4 b4 = 0 := fun z => h4 ((hz _ _).1 z)
          simp [orI, this, h4]
      · have : ¬ cmpI a3 b3 = 0 := fun z => h3 ((hz _ _).1 z)
        simp [orI, this, h3]
    · have : ¬ cmpI a2 b2 = 0 := fun z => h2 ((hz _ _).1 z)
      simp [orI, this, h2]
  · have : ¬ cmpI a1 b1 = 0 := fun z => h1 ((hz _ _).1 z)
    simp [orI, this, h1]
theorem kk_lt (a b : Kk) : kkCmp a b < 0 ↔ kkLt a b := kk_neg a b
theorem kk_gt (a b : Kk) : 0 < kkCmp a b ↔ kkLt b a := by
  have h1 := kk_lt a b
  have h2 := kk_zero a b
  constructor
  · intro h
    rcases kkLt_tri a b with q | q | q
    · have := h1.2 q; omega
    · have := h2.2 q; omega
    · exact q
  · intro h
    have n1 : ¬ kkCmp a b < 0 := fun q => kkLt_irr _ (kkLt_trans (h1.1 q) h)
    have n2 : ¬ kkCmp a b = 0 := fun q => by have := h2.1 q; subst this; exact kkLt_irr _ h
    omega

def ltR (x y : Lsa) : Bool := decide (kkCmp (lkOf x) (lkOf y) < 0)
theorem ltR_true {x y : Lsa} : ltR x y = true ↔ kkLt (lkOf x) (lkOf y) := by unfold ltR; rw [decide_eq_true_iff]; exact kk_lt _ _
theorem ltR_false {x y : Lsa} : ltR x y = false ↔ ¬ kkLt (lkOf x) (lkOf y) := by rw [← ltR_true]; cases ltR x y <;> simp

theorem ins_done (x : Lsa) : ∀ (l : List Lsa) (acc : List Lsa), (∀ y ∈ l, kkLt (lkOf x) (lkOf y)) → l.foldl (insStep x) (true, acc) = (true, acc ++ l)
  | [], acc, _ => by simp
  | y :: l, acc, h => by
    have h1 := (kk_lt _ _).2 (h y (List.mem_cons_self ..))
    have e : insStep x (true, acc) y = (true, acc ++ [y]) := by
      unfold insStep
      have : ¬ kkCmp (lkOf x) (lkOf y) = 0 := by omega
      simp [this]
    rw [List.foldl_cons, e, ins_done x l (acc ++ [y]) fun z hz => h z (List.mem_cons_of_mem _ hz)]
    simp
def insEnd (x : Lsa) (r : Bool × List Lsa) : List Lsa := if r.1 = true then r.2 else r.2 ++ [x]
theorem filt_all {l : List Lsa} {x : Lsa} (h : ∀ y ∈ l, kkLt (lkOf x) (lkOf y)) : l.filter (fun y => ltR y x) = [] ∧ l.filter (fun y => ltR x y) = l := by
  constructor
  · refine List.filter_eq_nil_iff.2 fun y hy => ?_
    rw [Bool.not_eq_true, ltR_false]
    exact fun q => kkLt_irr _ (kkLt_trans q (h y hy))
  · exact List.filter_eq_self.2 fun y hy => ltR_true.2 (h y hy)
theorem ins_fold (x : Lsa) : ∀ (l : List Lsa) (acc : List Lsa), (l.Pairwise fun a b => kkLt (lkOf a) (lkOf b)) → insEnd x (l.foldl (insStep x) (false, acc)) = acc ++ (l.filter (fun y => ltR y x) ++ x :: l.filter (fun y => ltR x y))
  | [], acc, _ => by simp [insEnd]
  | y :: l, acc, h => by
    obtain ⟨h1, h2⟩ := List.pairwise_cons.1 h
    rw [List.foldl_cons]
    rcases kkLt_tri (lkOf x) (lkOf y) with q | q | q
    · have c := (kk_lt _ _).2 q
      have e : insStep x (false, acc) y = (true, acc ++ [x, y]) := by
        unfold insStep
        have n1 : ¬ kkCmp (lkOf x) (lkOf y) = 0 := by omega
        have n2 : kkCmp (lkOf x) (lkOf y) ≤ 0 := by omega
        simp [n1, n2]
      have al : ∀ z ∈ l, kkLt (lkOf x) (lkOf z) := fun z hz => kkLt_trans q (h1 z hz)
      obtain ⟨f1, f2⟩ := filt_all al
      rw [e, ins_done x l _ al, List.filter_cons_of_neg (by rw [Bool.not_eq_true, ltR_false]; exact fun z => kkLt_irr _ (kkLt_trans q z)), List.filter_cons_of_pos (ltR_true.2 q), f1, f2]
      simp [insEnd]
    · have c := (kk_zero _ _).2 q
      have e : insStep x (false, acc) y = (true, acc ++ [x]) := by
        unfold insStep
        simp [c]
      have al : ∀ z ∈ l, kkLt (lkOf x) (lkOf z) := fun z hz => by rw [q]; exact h1 z hz
      obtain ⟨f1, f2⟩ := filt_all al
      rw [e, ins_done x l _ al, List.filter_cons_of_neg (by rw [Bool.not_eq_true, ltR_false, q]; exact kkLt_irr _), List.filter_cons_of_neg (by rw [Bool.not_eq_true, ltR_false, q]; exact kkLt_irr _), f1, f2]
      simp [insEnd]
    · have c := (kk_gt _ _).2 q
      have e : insStep x (false, acc) y = (false, acc ++ [y]) := by
        unfold insStep
        have n1 : ¬ kkCmp (lkOf x) (lkOf y) = 0 := by omega
        have n2 : ¬ kkCmp (lkOf x) (lkOf y) ≤ 0 := by omega
        simp [n1, n2]
      rw [e, ins_fold x l (acc ++ [y]) h2, List.filter_cons_of_pos (p := fun z : Lsa => ltR z x) (ltR_true.2 q), List.filter_cons_of_neg (by rw [Bool.not_eq_true, ltR_false]; exact fun z => kkLt_irr _ (kkLt_trans q z))]
      simp
theorem insL_eq {x : Lsa} {l : List Lsa} (h : l.Pairwise fun a b => kkLt (lkOf a) (lkOf b)) : insL x l = l.filter (fun y => ltR y x) ++ x :: l.filter (fun y => ltR x y) := by
  have := ins_fold x l [] h
  unfold insL insK
  rw [List.take_length]
  simpa [insEnd] using this

def insD (d : LsaD) (l : List LsaD) : List LsaD := l.filter (fun y => ltR y.x d.x) ++ d :: l.filter (fun y => ltR d.x y.x)
theorem insD_map {d : LsaD} {l : List LsaD} (h : AscD l) : (insD d l).map LsaD.x = insL d.x (l.map LsaD.x) := by
  rw [insL_eq (List.pairwise_map.2 h)]
  unfold insD
  rw [List.map_append, List.map_cons, List.filter_map, List.filter_map]
  rfl
theorem insD_mem {d : LsaD} {l : List LsaD} {y : LsaD} : y ∈ insD d l ↔ y = d ∨ (y ∈ l ∧ keyR y ≠ keyR d) := by
  unfold insD
  rw [List.mem_append, List.mem_cons, List.mem_filter, List.mem_filter, ltR_true, ltR_true]
  constructor
  · rintro (⟨a, b⟩ | a | ⟨a, b⟩)
    · exact .inr ⟨a, fun e => by unfold keyR at e; rw [e] at b; exact kkLt_irr _ b⟩
    · exact .inl a
    · exact .inr ⟨a, fun e => by unfold keyR at e; rw [e] at b; exact kkLt_irr _ b⟩
  · rintro (a | ⟨a, b⟩)
    · exact .inr (.inl a)
    · rcases kkLt_tri (lkOf y.x) (lkOf d.x) with q | q | q
      · exact .inl ⟨a, q⟩
      · exact absurd q b
      · exact .inr (.inr ⟨a, q⟩)
theorem insD_asc {d : LsaD} {l : List LsaD} (h : AscD l) : AscD (insD d l) := by
  unfold insD AscD
  rw [List.pairwise_append, List.pairwise_cons]
  refine ⟨h.filter _, ⟨fun y hy => ltR_true.1 (List.mem_filter.1 hy).2, h.filter _⟩, fun a ha b hb => ?_⟩
  have h1 := ltR_true.1 (List.mem_filter.1 ha).2
  rcases List.mem_cons.1 hb with rfl | hb
  · exact h1
  · exact kkLt_trans h1 (ltR_true.1 (List.mem_filter.1 hb).2)
theorem insD_len (d : LsaD) (l : List LsaD) : (insD d l).length ≤ l.length + 1 := by
  have key : ∀ l : List LsaD, (l.filter fun y => ltR y.x d.x).length + (l.filter fun y => ltR d.x y.x).length ≤ l.length := by
    intro l
    induction l with
    | nil => simp
    | cons y l ih =>
      by_cases h1 : kkLt (lkOf y.x) (lkOf d.x)
      · rw [List.filter_cons_of_pos (p := fun z : LsaD => ltR z.x d.x) (ltR_true.2 h1), List.filter_cons_of_neg (p := fun z : LsaD => ltR d.x z.x) (by rw [Bool.not_eq_true, ltR_false]; exact fun z => kkLt_irr _ (kkLt_trans h1 z))]
        simp only [List.length_cons]; omega
      · rw [List.filter_cons_of_neg (p := fun z : LsaD => ltR z.x d.x) (by rw [Bool.not_eq_true, ltR_false]; exact h1)]
        have := List.length_filter_le (fun y : LsaD => ltR d.x y.x) [y]
        by_cases h2 : ltR d.x y.x = true
        · rw [List.filter_cons_of_pos (p := fun z : LsaD => ltR d.x z.x) h2]; simp only [List.length_cons]; omega
        · rw [List.filter_cons_of_neg (p := fun z : LsaD => ltR d.x z.x) h2]; simp only [List.length_cons]; omega
  have := key l
  unfold insD
  rw [List.length_append, List.length_cons]; omega
theorem insD_perm {d : LsaD} {l : List LsaD} (h : AscD l) (n : ∀ y ∈ l, keyR y ≠ keyR d) : (insD d l).Perm (d :: l) := by
  have e : l = l.filter (fun y => ltR y.x d.x) ++ l.filter (fun y => ltR d.x y.x) := by
    induction l with
    | nil => rfl
    | cons y l ih =>
      obtain ⟨h1, h2⟩ := List.pairwise_cons.1 h
      have ih := ih h2 fun z hz => n z (List.mem_cons_of_mem _ hz)
      rcases kkLt_tri (lkOf y.x) (lkOf d.x) with q | q | q
      · rw [List.filter_cons_of_pos (p := fun z : LsaD => ltR z.x d.x) (ltR_true.2 q), List.filter_cons_of_neg (p := fun z : LsaD => ltR d.x z.x) (by rw [Bool.not_eq_true, ltR_false]; exact fun z => kkLt_irr _ (kkLt_trans q z)), List.cons_append, ← ih]
      · exact absurd q (n y (List.mem_cons_self ..))
      · have al : ∀ z ∈ l, kkLt (lkOf d.x) (lkOf z.x) := fun z hz => kkLt_trans q (h1 z hz)
        have f1 : l.filter (fun y => ltR y.x d.x) = [] := List.filter_eq_nil_iff.2 fun z hz => by
          rw [Bool.not_eq_true, ltR_false]
          exact fun w => kkLt_irr _ (kkLt_trans w (al z hz))
        have f2 : l.filter (fun y => ltR d.x y.x) = l := List.filter_eq_self.2 fun z hz => ltR_true.2 (al z hz)
        rw [List.filter_cons_of_neg (p := fun z : LsaD => ltR z.x d.x) (by rw [Bool.not_eq_true, ltR_false]; exact fun z => kkLt_irr _ (kkLt_trans q z)), List.filter_cons_of_pos (p := fun z : LsaD => ltR d.x z.x) (ltR_true.2 q), f1, f2]
        rfl
  unfold insD
  conv => rhs; rw [e]
  exact List.perm_middle

def outLoopsR : Code → List Code
  | .loop c => [c]
  | .seq a b => outLoopsR a ++ outLoopsR b
  | .block _ c => outLoopsR c
  | .scope c => outLoopsR c
  | .cond _ a b => outLoopsR a ++ outLoopsR b
  | _ => []
noncomputable def rpBody (i : Nat) : Code := ((Tryz.f23.body.map outLoopsR).getD []).getD i .skip

structure RP2 (w : World) (wt : List LsaD) (k : Nat) (v : Value) (rows : List LsaD) (wr : World) : Prop where
  hk : k ≤ wt.length
  row : LsasAt wr v (rows.map LsaD.x)
  perm : rows.Perm (wt.take k)
  asc : AscD rows
  bel : Below w.heap.size w wr
theorem RP2.step {w : World} {wt : List LsaD} {k : Nat} {v v' : Value} {rows : List LsaD} {wr w' : World} (R : RP2 w wt k v rows wr) (c : k < wt.length) (n : ∀ y ∈ rows, keyR y ≠ keyR wt[k]) (h : LsasAt w' v' (insL wt[k].x (rows.map LsaD.x))) (hb : Below wr.heap.size wr w') : RP2 w wt (k + 1) v' (insD wt[k] rows) w' := by
  refine ⟨c, by rw [insD_map R.asc]; exact h, ?_, insD_asc R.asc, R.bel.trans (hb.mono R.bel.size)⟩
  refine (insD_perm R.asc n).trans ?_
  rw [List.take_succ_eq_append_getElem c]
  exact ((R.perm.cons _).trans (List.perm_append_singleton _ _).symm)

structure RPo (w : World) (v : Value) (out : List LsaD) (wr : World) : Prop where
  row : DRow wr v out
  asc : AscD out
  bel : Below w.heap.size w wr
theorem RPo.grow {w : World} {v : Value} {out : List LsaD} {wr w' : World} (R : RPo w v out wr) (hb : Below wr.heap.size wr w') : RPo w v out w' := ⟨R.row.below hb, R.asc, R.bel.trans (hb.mono R.bel.size)⟩
theorem RPo.ins {w : World} {v v' : Value} {out : List LsaD} {wr w' : World} (R : RPo w v out wr) {y : LsaD} (h1 : LnksAt wr (.slice y.x.la y.x.ln y.x.lc) y.lk) (h2 : WordsAt wr (.slice y.x.aa y.x.an y.x.ac) y.att) (h : LsasAt w' v' (insL y.x (out.map LsaD.x))) (hb : Below wr.heap.size wr w') : RPo w v' (insD y out) w' := by
  refine ⟨⟨by rw [insD_map R.asc]; exact h, fun d hd => ?_⟩, insD_asc R.asc, R.bel.trans (hb.mono R.bel.size)⟩
  rcases insD_mem.1 hd with rfl | ⟨hd, _⟩
  · exact ⟨h1.below hb, h2.below hb⟩
  · exact ⟨(R.row.deep d hd).1.below hb, (R.row.deep d hd).2.below hb⟩
theorem ins_members {y : LsaD} {out : List LsaD} (n : ∀ z ∈ out, keyR z ≠ keyR y) (u : LsaD) : u ∈ (insD y out).map nrm ↔ u = nrm y ∨ u ∈ out.map nrm := by
  rw [List.mem_map, List.mem_map]
  constructor
  · rintro ⟨z, hz, rfl⟩
    rcases insD_mem.1 hz with rfl | ⟨hz, _⟩
    · exact .inl rfl
    · exact .inr ⟨z, hz, rfl⟩
  · rintro (rfl | ⟨z, hz, rfl⟩)
    · exact ⟨y, insD_mem.2 (.inl rfl), rfl⟩
    · exact ⟨z, insD_mem.2 (.inr ⟨hz, n z hz⟩), rfl⟩

end Go.Proofs.YtddageahmgaigaaGreat

namespace Go.Proofs.YtddageahmgaigaaGreat
open Go.RowKit

set_option maxHeartbeats 16000000 in
set_option maxRecDepth 100000 in
theorem rp_loop1 (Q : Exit → Act → World → Prop) (w : World) (s : List LsaD) (rt : Int) (a : Option Addr) (n c : Nat) (hn : s.length = n) (RS : LsasAt w (.slice a n c) (s.map LsaD.x)) (u0 u3 u4 u5 u6 u7 u9 u10 u11 u12 u13 u14 u15 u16 u17 u18 u19 u20 u21 u22 u23 u24 u25 u26 u27 u28 u29 u30 u31 u32 u33 u34 u35 u36 u37 u38 u39 u40 u41 u42 u43 u44 u45 u46 u47 u48 u49 u50 u51 u52 u53 u54 u55 u56 u57 u58 u59 u60 u61 u62 u63 u64 u65 u66 u67 u68 u69 u70 u71 u72 u73 u74 u75 u76 u77 u78 u79 u80 u81 u82 u83 u84 u85 u86 u87 u88 u89 u90 u91 u92 u93 u94 u95 u96 u97 u98 u99 u100 u101 u102 u103 u104 u105 u106 u107 u108 u109 u110 u111 u112 : Value)
    (HQ0 : ∀ (v6 v7 v8 v18 v19 v20 v21 v22 v23 v24 v25 v26 v27 v28 v29 v30 v31 : Value), (∀ d ∈ s, d.x.router = rt) → Q (.exit 0) ⟨#[u0, .int .u32 rt, .slice a n c, u3, u4, u5, v6, v7, v8, u9, u10, u11, u12, u13, u14, u15, u16, u17, v18, v19, v20, v21, v22, v23, v24, v25, v26, v27, v28, v29, v30, v31, u32, u33, u34, u35, u36, u37, u38, u39, u40, u41, u42, u43, u44, u45, u46, u47, u48, u49, u50, u51, u52, u53, u54, u55, u56, u57, u58, u59, u60, u61, u62, u63, u64, u65, u66, u67, u68, u69, u70, u71, u72, u73, u74, u75, u76, u77, u78, u79, u80, u81, u82, u83, u84, u85, u86, u87, u88, u89, u90, u91, u92, u93, u94, u95, u96, u97, u98, u99, u100, u101, u102, u103, u104, u105, u106, u107, u108, u109, u110, u111, u112], []⟩ w)
    (HR0 : ∀ (v8 v18 v19 v20 v21 v22 v23 v24 v25 v26 v27 v28 v29 v30 v31 : Value), (∃ d ∈ s, d.x.router ≠ rt) → Q .ret ⟨#[u0, .int .u32 rt, .slice a n c, u3, u4, u5, .slice none 0 0, .int .i64 14, v8, u9, u10, u11, u12, u13, u14, u15, u16, u17, v18, v19, v20, v21, v22, v23, v24, v25, v26, v27, v28, v29, v30, v31, u32, u33, u34, u35, u36, u37, u38, u39, u40, u41, u42, u43, u44, u45, u46, u47, u48, u49, u50, u51, u52, u53, u54, u55, u56, u57, u58, u59, u60, u61, u62, u63, u64, u65, u66, u67, u68, u69, u70, u71, u72, u73, u74, u75, u76, u77, u78, u79, u80, u81, u82, u83, u84, u85, u86, u87, u88, u89, u90, u91, u92, u93, u94, u95, u96, u97, u98, u99, u100, u101, u102, u103, u104, u105, u106, u107, u108, u109, u110, u111, u112], []⟩ w) :
    Code.wp Tryz.prog (.loop (rpBody 0)) Q ⟨#[u0, .int .u32 rt, .slice a n c, u3, u4, u5, u6, u7, .int .i64 0, u9, u10, u11, u12, u13, u14, u15, u16, u17, u18, u19, u20, u21, u22, u23, u24, u25, u26, u27, u28, u29, u30, u31, u32, u33, u34, u35, u36, u37, u38, u39, u40, u41, u42, u43, u44, u45, u46, u47, u48, u49, u50, u51, u52, u53, u54, u55, u56, u57, u58, u59, u60, u61, u62, u63, u64, u65, u66, u67, u68, u69, u70, u71, u72, u73, u74, u75, u76, u77, u78, u79, u80, u81, u82, u83, u84, u85, u86, u87, u88, u89, u90, u91, u92, u93, u94, u95, u96, u97, u98, u99, u100, u101, u102, u103, u104, u105, u106, u107, u108, u109, u110, u111, u112], []⟩ w := by
  conv => enter [2, 1]; whnf
  have HQ := Lib.hid HQ0
  have HR := Lib.hid HR0
  obtain ⟨a', c', ev, hlen, hc1⟩ := RS.get
  rw [List.length_map, hn] at ev hlen
  simp only [Value.slice.injEq] at ev
  obtain ⟨rfl, -, rfl⟩ := ev
  have HCC := Lib.hid (fun k (ck : k < n) => (by
    obtain ⟨b, off, ea, hb, hcc⟩ := hc1 (by rw [List.length_map, hn]; omega)
    have h := hcc k (by rw [List.length_map, hn]; exact ck)
    rw [List.getElem_map] at h
    exact ⟨b, off, ea, hb, h⟩ : ∃ b off, a = some ⟨b, off, none⟩ ∧ b < w.heap.size ∧ LsaCells w b (off + k * 15) (s[k]'(by omega)).x))
  have SN := Lib.hid hn
  have ST : Hid (∀ j, (h : j < s.length) → j < 0 → s[j].x.router = rt) := Lib.hid (fun j _ h => absurd h (by omega))
  clear HQ0 HR0 RS hc1
  dsimp only
  go_loopw [8] (fun ix wr => ∃ k : Nat, ix = .int .i64 k ∧ k ≤ n ∧ w = wr ∧ Hid (∀ j, (h : j < s.length) → j < k → s[j].x.router = rt)) (fun ix _ => n - (intOf ix).toNat)
  case atStart => exact ⟨0, rfl, Nat.zero_le _, rfl, ST⟩
  case round =>
    clear ST
    obtain ⟨k, rfl, hk, rfl, R⟩ := hrel
    by_cases ck : k < n
    · obtain ⟨b1, o1, rfl, hb1, hcc1⟩ := HCC.out k ck
      obtain ⟨⟨d0, d1, d2, d3, d4⟩, ⟨d5, d6, d7, d8, d9⟩, ⟨d10, d11, d12, d13, d14⟩⟩ := hcc1
      have cs : k < s.length := by rw [SN.out]; exact ck
      have YES := Lib.hid (fun (h : s[k].x.router ≠ rt) => (⟨_, List.getElem_mem cs, h⟩ : ∃ d ∈ s, d.x.router ≠ rt))
      have NXT : Hid (s[k].x.router = rt → ∀ j, (h : j < s.length) → j < k + 1 → s[j].x.router = rt) := Lib.hid (fun e j hj h => by
        rcases Nat.lt_or_ge j k with z | z
        · exact R.out j hj z
        · obtain rfl : j = k := by omega
          exact e)
      have KC := Lib.hid ck
      have i0 : (0 : Int) ≤ (k : Int) := by omega
      have i1 : (k : Int) < (n : Int) := by omega
      have s3 : ((k : Int)).toNat = k := by omega
      clear R
      generalize s[k].x.router = xrouter at *
      by_cases q : xrouter = rt
      · have q' : (xrouter != rt) = false := by simpa using q
        have NX := Lib.hid (NXT.out q)
        clear NXT YES q HQ HR
        go_wp2_with fail
        go_roundw
        case rel => exact ⟨k + 1, by go_num, KC.out, by first | rfl | trivial, NX⟩
        case measure => simp [intOf]; have := KC.out; omega
      · have q' : (xrouter != rt) = true := by simpa using q
        have Y := Lib.hid (YES.out q)
        clear NXT YES q HQ
        go_wp2_with fail
        exact HR.out _ _ _ _ _ _ _ _ _ _ _ _ _ _ _ Y.out
    · obtain rfl : k = n := by omega
      have AL : Hid (∀ d ∈ s, d.x.router = rt) := Lib.hid (fun d hd => by
        obtain ⟨j, hj, rfl⟩ := List.getElem_of_mem hd
        exact R.out j hj (by rw [← SN.out]; exact hj))
      clear R HR
      go_wp2_with fail
      exact HQ.out _ _ _ _ _ _ _ _ _ _ _ _ _ _ _ _ _ AL.out

end Go.Proofs.YtddageahmgaigaaGreat

namespace Go.Proofs.YtddageahmgaigaaGreat
open Go.RowKit

set_option maxHeartbeats 16000000 in
set_option maxRecDepth 100000 in
theorem rp_loop2 (Q : Exit → Act → World → Prop) (w : World) (s : List LsaD) (a : Option Addr) (n c : Nat) (hn : s.length = n) (hm : n ≤ 1048576) (RS : LsasAt w (.slice a n c) (s.map LsaD.x)) (v0 : Value) (R0 : LsasAt w v0 []) (u0 u1 u3 u4 u5 u6 u7 u8 u11 u12 u13 u14 u15 u16 u17 u18 u19 u20 u21 u22 u23 u24 u25 u26 u27 u28 u29 u30 u31 u32 u33 u34 u35 u36 u37 u38 u39 u40 u41 u42 u43 u44 u45 u46 u47 u48 u49 u50 u51 u52 u53 u54 u55 u56 u57 u58 u59 u60 u61 u62 u63 u64 u65 u66 u67 u68 u69 u70 u71 u72 u73 u74 u75 u76 u77 u78 u79 u80 u81 u82 u83 u84 u85 u86 u87 u88 u89 u90 u91 u92 u93 u94 u95 u96 u97 u98 u99 u100 u101 u102 u103 u104 u105 u106 u107 u108 u109 u110 u111 u112 : Value)
    (HQ0 : ∀ (v6 v7 v9 v10 v33 v34 v35 v36 v37 v38 v39 v40 v41 v42 v43 v44 v45 v46 v47 v48 v49 v50 v51 v52 v53 : Value) (rows : List LsaD) (w' : World), RP2 w s n v9 rows w' → (s.map keyR).Nodup → Q (.exit 2) ⟨#[u0, u1, .slice a n c, u3, u4, u5, v6, v7, u8, v9, v10, u11, u12, u13, u14, u15, u16, u17, u18, u19, u20, u21, u22, u23, u24, u25, u26, u27, u28, u29, u30, u31, u32, v33, v34, v35, v36, v37, v38, v39, v40, v41, v42, v43, v44, v45, v46, v47, v48, v49, v50, v51, v52, v53, u54, u55, u56, u57, u58, u59, u60, u61, u62, u63, u64, u65, u66, u67, u68, u69, u70, u71, u72, u73, u74, u75, u76, u77, u78, u79, u80, u81, u82, u83, u84, u85, u86, u87, u88, u89, u90, u91, u92, u93, u94, u95, u96, u97, u98, u99, u100, u101, u102, u103, u104, u105, u106, u107, u108, u109, u110, u111, u112], []⟩ w')
    (HR0 : ∀ (v9 v10 v33 v34 v35 v36 v37 v38 v39 v40 v41 v42 v43 v44 v45 v46 v47 v48 v49 v50 v51 v52 v53 : Value) (w' : World), ¬ (s.map keyR).Nodup → Below w.heap.size w w' → Q .ret ⟨#[u0, u1, .slice a n c, u3, u4, u5, .slice none 0 0, .int .i64 7, u8, v9, v10, u11, u12, u13, u14, u15, u16, u17, u18, u19, u20, u21, u22, u23, u24, u25, u26, u27, u28, u29, u30, u31, u32, v33, v34, v35, v36, v37, v38, v39, v40, v41, v42, v43, v44, v45, v46, v47, v48, v49, v50, v51, v52, v53, u54, u55, u56, u57, u58, u59, u60, u61, u62, u63, u64, u65, u66, u67, u68, u69, u70, u71, u72, u73, u74, u75, u76, u77, u78, u79, u80, u81, u82, u83, u84, u85, u86, u87, u88, u89, u90, u91, u92, u93, u94, u95, u96, u97, u98, u99, u100, u101, u102, u103, u104, u105, u106, u107, u108, u109, u110, u111, u112], []⟩ w') :
    Code.wp Tryz.prog (.loop (rpBody 1)) Q ⟨#[u0, u1, .slice a n c, u3, u4, u5, u6, u7, u8, v0, .int .i64 0, u11, u12, u13, u14, u15, u16, u17, u18, u19, u20, u21, u22, u23, u24, u25, u26, u27, u28, u29, u30, u31, u32, u33, u34, u35, u36, u37, u38, u39, u40, u41, u42, u43, u44, u45, u46, u47, u48, u49, u50, u51, u52, u53, u54, u55, u56, u57, u58, u59, u60, u61, u62, u63, u64, u65, u66, u67, u68, u69, u70, u71, u72, u73, u74, u75, u76, u77, u78, u79, u80, u81, u82, u83, u84, u85, u86, u87, u88, u89, u90, u91, u92, u93, u94, u95, u96, u97, u98, u99, u100, u101, u102, u103, u104, u105, u106, u107, u108, u109, u110, u111, u112], []⟩ w := by
  conv => enter [2, 1]; whnf
  have HQ := Lib.hid HQ0
  have HR := Lib.hid HR0
  have HM := Lib.hid hm
  obtain ⟨a', c', ev, hlen, hc1⟩ := RS.get
  rw [List.length_map, hn] at ev hlen
  simp only [Value.slice.injEq] at ev
  obtain ⟨rfl, -, rfl⟩ := ev
  have HCC := Lib.hid (fun k (ck : k < n) => (by
    obtain ⟨b, off, ea, hb, hcc⟩ := hc1 (by rw [List.length_map, hn]; omega)
    have h := hcc k (by rw [List.length_map, hn]; exact ck)
    rw [List.getElem_map] at h
    exact ⟨b, off, ea, hb, h⟩ : ∃ b off, a = some ⟨b, off, none⟩ ∧ b < w.heap.size ∧ LsaCells w b (off + k * 15) (s[k]'(by omega)).x))
  have SN := Lib.hid hn
  have ST : Hid (RP2 w s 0 v0 [] w ∧ ((s.take 0).map keyR).Nodup) := Lib.hid ⟨⟨Nat.zero_le _, R0, List.Perm.refl _, List.Pairwise.nil, Below.refl _ _⟩, by simp⟩
  clear HQ0 HR0 RS hc1 hm R0
  dsimp only
  go_loopw [10, 9] (fun ix vx wr => ∃ (k : Nat) (rows : List LsaD), ix = .int .i64 k ∧ Hid (RP2 w s k vx rows wr ∧ ((s.take k).map keyR).Nodup)) (fun ix _ _ => n - (intOf ix).toNat)
  case atStart => exact ⟨0, [], rfl, ST⟩
  case round =>
    clear ST
    obtain ⟨k, rows, rfl, R⟩ := hrel
    obtain ⟨vA, hvA⟩ : ∃ z, z = u9 := ⟨_, rfl⟩
    subst hvA
    have hk := R.out.1.hk
    by_cases ck : k < n
    · obtain ⟨b1, o1, rfl, hb1, hcc1⟩ := HCC.out k ck
      obtain ⟨WO, eWO⟩ : ∃ x, x = wr := ⟨_, rfl⟩
      subst eWO
      have CEL := Lib.hid (fun W (hb : Below w.heap.size w W) => hcc1.below hb hb1)
      obtain ⟨⟨d0, d1, d2, d3, d4⟩, ⟨d5, d6, d7, d8, d9⟩, ⟨d10, d11, d12, d13, d14⟩⟩ := CEL.out _ R.out.1.bel
      have cs : k < s.length := by rw [SN.out]; exact ck
      have RL : rows.length = k := by rw [R.out.1.perm.length_eq, List.length_take]; omega
      have FC := Lib.hid (fun W (hb : Below WO.heap.size WO W) => find_calls W vA (rows.map LsaD.x) (R.out.1.row.below hb) s[k].x.typ s[k].x.id s[k].x.len s[k].x.router)
      have IC := Lib.hid (fun W (hb : Below WO.heap.size WO W) => insert_calls W vA (rows.map LsaD.x) s[k].x (R.out.1.row.below hb) (by rw [List.length_map, RL]; have := HM.out; omega))
      have DUP : Hid (∀ j, (h : j < (rows.map LsaD.x).length) → lkOf (rows.map LsaD.x)[j] = ⟨s[k].x.typ, s[k].x.id, s[k].x.len, s[k].x.router⟩ → ¬ (s.map keyR).Nodup) := Lib.hid (fun j hj e h => by
        rw [List.length_map] at hj
        rw [List.getElem_map] at e
        have m : rows[j] ∈ s.take k := R.out.1.perm.mem_iff.1 (List.getElem_mem hj)
        have e2 : s.map keyR = (s.take k).map keyR ++ (keyR s[k] :: (s.drop (k + 1)).map keyR) := by
          rw [← List.map_cons, ← List.drop_eq_getElem_cons cs, ← List.map_append, List.take_append_drop]
        rw [e2, List.nodup_append] at h
        exact h.2.2 _ (List.mem_map_of_mem m) _ (List.mem_cons_self ..) e)
      have STEP : Hid ((∀ x ∈ rows.map LsaD.x, lkOf x ≠ ⟨s[k].x.typ, s[k].x.id, s[k].x.len, s[k].x.router⟩) → ∀ v' W W', Below WO.heap.size WO W → Below W.heap.size W W' → LsasAt W' v' (insL s[k].x (rows.map LsaD.x)) → RP2 w s (k + 1) v' (insD s[k] rows) W' ∧ ((s.take (k + 1)).map keyR).Nodup) := Lib.hid (fun h v' W W' hb hb' hi => by
        have n1 : ∀ y ∈ rows, keyR y ≠ keyR s[k] := fun y hy e => h y.x (List.mem_map_of_mem hy) e
        refine ⟨R.out.1.step cs n1 hi (hb.trans (hb'.mono hb.size)), ?_⟩
        rw [List.take_succ_eq_append_getElem cs, List.map_append, List.map_cons, List.map_nil, List.nodup_append]
        refine ⟨R.out.2, by simp, fun a ha b hb e => ?_⟩
        obtain rfl := List.mem_singleton.1 hb
        obtain ⟨y, hy, rfl⟩ := List.mem_map.1 ha
        exact n1 y (R.out.1.perm.mem_iff.2 hy) e)
      have KC := Lib.hid ck
      have i0 : (0 : Int) ≤ (k : Int) := by omega
      have i1 : (k : Int) < (n : Int) := by omega
      have s3 : ((k : Int)).toNat = k := by omega
      have hm2 := HM.out
      have BEL := Lib.hid R.out.1.bel
      clear R hcc1 RL
      generalize insD s[k] rows = rows' at *
      generalize rows.map LsaD.x = L at *
      generalize s[k].x = x at *
      clear ck cs
      obtain ⟨xtyp, xid, xlen, xrouter, xseq, xage, xsum, xborder, xboundary, xla, xln, xlc, xaa, xan, xac, xcost, xsecond, xfwd, xtag⟩ := x
      simp only at d0 d1 d2 d3 d4 d5 d6 d7 d8 d9 d10 d11 d12 d13 d14 CEL FC IC DUP STEP
      simp only [lsaE] at IC
      have KY := Lib.hid (fun W => key_calls xtyp xid xlen xrouter xseq xage xsum W)
      simp only [keyE] at KY
      go_wp2_with fail
      refine (KY.out _).mono ?_
      rintro e w1 ⟨rfl, G1⟩
      have FC1 := Lib.hid (FC.out w1 G1.b)
      have B1 := Lib.hid G1.b
      clear G1 KY FC d0 d1 d2 d3 d4 d5 d6 d7 d8 d9 d10 d11 d12 d13 d14
      go_wp2_with fail
      refine FC1.out.mono ?_
      rintro e w2 ⟨i, rfl, G2, hi⟩
      have B2 := Lib.hid (B1.out.trans (G2.b.mono B1.out.size))
      clear G2 FC1 B1
      rcases hi with ⟨rfl, no⟩ | ⟨j, rfl, hj, hkey, -⟩
      · have ST2 := Lib.hid (STEP.out no)
        have IC2 := Lib.hid (IC.out w2 B2.out)
        obtain ⟨⟨d0, d1, d2, d3, d4⟩, ⟨d5, d6, d7, d8, d9⟩, ⟨d10, d11, d12, d13, d14⟩⟩ := CEL.out w2 (BEL.out.trans (B2.out.mono BEL.out.size))
        clear no STEP DUP IC CEL HQ HR
        go_wp2_with fail
        refine IC2.out.mono ?_
        rintro e w3 ⟨v', rfl, hL, B3⟩
        have NX := Lib.hid (ST2.out v' w2 w3 B2.out B3 hL)
        clear ST2 IC2 hL B3 d0 d1 d2 d3 d4 d5 d6 d7 d8 d9 d10 d11 d12 d13 d14
        go_wp2_with fail
        go_roundw
        case rel => exact ⟨k + 1, _, by go_num, NX⟩
        case measure => simp [intOf]; have := KC.out; omega
      · have DU := Lib.hid (DUP.out j hj hkey)
        have BF := Lib.hid (BEL.out.trans (B2.out.mono BEL.out.size))
        have j0 : (0 : Int) ≤ (j : Int) := by omega
        clear hj hkey STEP DUP IC CEL HQ
        go_wp2_with fail
        exact HR.out _ _ _ _ _ _ _ _ _ _ _ _ _ _ _ _ _ _ _ _ _ _ _ w2 DU.out BF.out
    · obtain rfl : k = n := by have := SN.out; omega
      have ND : Hid ((s.map keyR).Nodup) := Lib.hid (by have h := R.out.2; rwa [List.take_of_length_le (by rw [SN.out]; exact Nat.le_refl _)] at h)
      clear HR
      go_wp2_with fail
      exact HQ.out _ _ _ _ _ _ _ _ _ _ _ _ _ _ _ _ _ _ _ _ _ _ _ _ _ rows wr R.out.1 ND.out

end Go.Proofs.YtddageahmgaigaaGreat

namespace Go.Proofs.YtddageahmgaigaaGreat
open Go.RowKit

structure RP3 (w : World) (db s : List LsaD) (k : Nat) (v : Value) (out : List LsaD) (wr : World) : Prop where
  hk : k ≤ s.length
  o : RPo w v out wr
  len : out.length ≤ k
  mem : ∀ u, u ∈ out.map nrm ↔ ∃ d ∈ s.take k, (nx db d).ok = true ∧ u = nrm (nx db d).y
  ok : ∀ j, (h : j < s.length) → j < k → (nx db s[j]).c = 0
theorem nx_keyR {db : List LsaD} {d : LsaD} (h : (nx db d).ok = true) : keyR (nx db d).y = keyR d := by
  rcases nx_is db d with ⟨e, -⟩ | ⟨e, -⟩ | ⟨-, -, s, e, -⟩
  · rw [e] at h; cases h
  · rw [e] at h; cases h
  · rw [e]; rfl
theorem RP3.grow {w : World} {db s : List LsaD} {k : Nat} {v : Value} {out : List LsaD} {wr w' : World} (R : RP3 w db s k v out wr) (hb : Below wr.heap.size wr w') : RP3 w db s k v out w' := ⟨R.hk, R.o.grow hb, R.len, R.mem, R.ok⟩
theorem RP3.ok1 {w : World} {db s : List LsaD} {k : Nat} {v : Value} {out : List LsaD} {wr : World} (R : RP3 w db s k v out wr) (c : k < s.length) (h : (nx db s[k]).c = 0) : ∀ j, (h : j < s.length) → j < k + 1 → (nx db s[j]).c = 0 := by
  intro j hj hi
  rcases Nat.lt_or_ge j k with z | z
  · exact R.ok j hj z
  · obtain rfl : j = k := by omega
    exact h
theorem RP3.skip {w : World} {db s : List LsaD} {k : Nat} {v : Value} {out : List LsaD} {wr : World} (R : RP3 w db s k v out wr) (c : k < s.length) (h : (nx db s[k]).c = 0) (ho : (nx db s[k]).ok = false) : RP3 w db s (k + 1) v out wr := by
  refine ⟨c, R.o, Nat.le_succ_of_le R.len, fun u => (R.mem u).trans ?_, R.ok1 c h⟩
  rw [List.take_succ_eq_append_getElem c]
  constructor
  · rintro ⟨d, h1, h2⟩; exact ⟨d, List.mem_append_left _ h1, h2⟩
  · rintro ⟨d, h1, h2, h3⟩
    rcases List.mem_append.1 h1 with h1 | h1
    · exact ⟨d, h1, h2, h3⟩
    · obtain rfl := List.mem_singleton.1 h1
      rw [ho] at h2; cases h2
theorem RP3.fresh {w : World} {db s : List LsaD} {k : Nat} {v : Value} {out : List LsaD} {wr : World} (R : RP3 w db s k v out wr) (A : AscD s) (c : k < s.length) : ∀ z ∈ out, keyR z ≠ keyR s[k] := by
  intro z hz e
  obtain ⟨d, h1, h2, h3⟩ := (R.mem (nrm z)).1 (List.mem_map_of_mem hz)
  have e1 : keyR z = keyR d := by
    have h4 : keyR (nrm z) = keyR (nrm (nx db d).y) := congrArg keyR h3
    exact h4.trans (nx_keyR h2)
  obtain ⟨j, hj, rfl⟩ := List.getElem_of_mem h1
  rw [List.length_take] at hj
  rw [List.getElem_take] at e1
  have h5 := (List.pairwise_iff_getElem.1 A) j k (by omega) c (by omega)
  have e2 : lkOf (s[j]'(by omega)).x = lkOf s[k].x := e1.symm.trans e
  rw [e2] at h5
  exact kkLt_irr _ h5
theorem RP3.push {w : World} {db s : List LsaD} {k : Nat} {v v' : Value} {out : List LsaD} {wr w' : World} (R : RP3 w db s k v out wr) (A : AscD s) (c : k < s.length) (h : (nx db s[k]).c = 0) (ho : (nx db s[k]).ok = true) {y : LsaD} (hy : nrm y = nrm (nx db s[k]).y) (h1 : LnksAt wr (.slice y.x.la y.x.ln y.x.lc) y.lk) (h2 : WordsAt wr (.slice y.x.aa y.x.an y.x.ac) y.att) (hi : LsasAt w' v' (insL y.x (out.map LsaD.x))) (hb : Below wr.heap.size wr w') : RP3 w db s (k + 1) v' (insD y out) w' := by
  have ky : keyR y = keyR s[k] := (congrArg keyR hy : keyR (nrm y) = keyR (nrm (nx db s[k]).y)).trans (nx_keyR ho)
  have fr : ∀ z ∈ out, keyR z ≠ keyR y := fun z hz => by rw [ky]; exact R.fresh A c z hz
  refine ⟨c, R.o.ins h1 h2 hi hb, Nat.le_trans (insD_len y out) (Nat.succ_le_succ R.len), fun u => (ins_members fr u).trans ?_, R.ok1 c h⟩
  rw [R.mem u, List.take_succ_eq_append_getElem c]
  constructor
  · rintro (rfl | ⟨d, h1, h2⟩)
    · exact ⟨s[k], List.mem_append_right _ (List.mem_singleton.2 rfl), ho, hy⟩
    · exact ⟨d, List.mem_append_left _ h1, h2⟩
  · rintro ⟨d, h1, h2, h3⟩
    rcases List.mem_append.1 h1 with h1 | h1
    · exact .inr ⟨d, h1, h2, h3⟩
    · obtain rfl := List.mem_singleton.1 h1
      exact .inl (h3.trans hy.symm)

set_option maxHeartbeats 16000000 in
set_option maxRecDepth 100000 in
theorem rp_loop3 (Q : Exit → Act → World → Prop) (w : World) (v : Value) (db s : List LsaD) (D : DbN w v db) (A : AscD s) (a : Option Addr) (n c : Nat) (hn : s.length = n) (hm : n ≤ 1048576) (RS : LsasAt w (.slice a n c) (s.map LsaD.x)) (DI : ∀ d ∈ s, DIn w d) (dl : ∀ d ∈ s, d.lk.length ≤ 1048576 ∧ d.att.length ≤ 1048576) (v0 : Value) (R0 : LsasAt w v0 []) (u1 u2 u3 u4 u5 u6 u7 u8 u10 u13 u14 u15 u16 u17 u18 u19 u20 u21 u22 u23 u24 u25 u26 u27 u28 u29 u30 u31 u32 u33 u34 u35 u36 u37 u38 u39 u40 u41 u42 u43 u44 u45 u46 u47 u48 u49 u50 u51 u52 u53 u54 u55 u56 u57 u58 u59 u60 u61 u62 u63 u64 u65 u66 u67 u68 u69 u70 u71 u72 u73 u74 u75 u76 u77 u78 u79 u80 u81 u82 u83 u84 u85 u86 u87 u88 u89 u90 u91 u92 u93 u94 u95 u96 u97 u98 u99 u100 u101 u102 u103 u104 u105 u106 u107 u108 u109 u110 u111 u112 : Value)
    (HQ0 : ∀ (v6 v7 v11 v12 v13 v14 v15 v55 v56 v57 v58 v59 v60 v61 v62 v63 v64 v65 v66 v67 v68 v69 v70 v71 v72 v73 v74 v75 v76 v77 : Value) (out : List LsaD) (w' : World), RP3 w db s n v11 out w' → Q (.exit 4) ⟨#[v, u1, u2, u3, u4, u5, v6, v7, u8, .slice a n c, u10, v11, v12, v13, v14, v15, u16, u17, u18, u19, u20, u21, u22, u23, u24, u25, u26, u27, u28, u29, u30, u31, u32, u33, u34, u35, u36, u37, u38, u39, u40, u41, u42, u43, u44, u45, u46, u47, u48, u49, u50, u51, u52, u53, u54, v55, v56, v57, v58, v59, v60, v61, v62, v63, v64, v65, v66, v67, v68, v69, v70, v71, v72, v73, v74, v75, v76, v77, u78, u79, u80, u81, u82, u83, u84, u85, u86, u87, u88, u89, u90, u91, u92, u93, u94, u95, u96, u97, u98, u99, u100, u101, u102, u103, u104, u105, u106, u107, u108, u109, u110, u111, u112], []⟩ w')
    (HR0 : ∀ (v11 v12 v13 v14 v15 v55 v56 v57 v58 v59 v60 v61 v62 v63 v64 v65 v66 v67 v68 v69 v70 v71 v72 v73 v74 v75 v76 v77 : Value) (w' : World) (i : Nat) (h : i < s.length), (∀ j, (hj : j < i) → (nx db (s[j]'(by omega))).c = 0) → (nx db s[i]).c ≠ 0 → Below w.heap.size w w' → Q .ret ⟨#[v, u1, u2, u3, u4, u5, .slice none 0 0, .int .i64 (nx db s[i]).c, u8, .slice a n c, u10, v11, v12, v13, v14, v15, u16, u17, u18, u19, u20, u21, u22, u23, u24, u25, u26, u27, u28, u29, u30, u31, u32, u33, u34, u35, u36, u37, u38, u39, u40, u41, u42, u43, u44, u45, u46, u47, u48, u49, u50, u51, u52, u53, u54, v55, v56, v57, v58, v59, v60, v61, v62, v63, v64, v65, v66, v67, v68, v69, v70, v71, v72, v73, v74, v75, v76, v77, u78, u79, u80, u81, u82, u83, u84, u85, u86, u87, u88, u89, u90, u91, u92, u93, u94, u95, u96, u97, u98, u99, u100, u101, u102, u103, u104, u105, u106, u107, u108, u109, u110, u111, u112], []⟩ w') :
    Code.wp Tryz.prog (.loop (rpBody 2)) Q ⟨#[v, u1, u2, u3, u4, u5, u6, u7, u8, .slice a n c, u10, v0, .int .i64 0, u13, u14, u15, u16, u17, u18, u19, u20, u21, u22, u23, u24, u25, u26, u27, u28, u29, u30, u31, u32, u33, u34, u35, u36, u37, u38, u39, u40, u41, u42, u43, u44, u45, u46, u47, u48, u49, u50, u51, u52, u53, u54, u55, u56, u57, u58, u59, u60, u61, u62, u63, u64, u65, u66, u67, u68, u69, u70, u71, u72, u73, u74, u75, u76, u77, u78, u79, u80, u81, u82, u83, u84, u85, u86, u87, u88, u89, u90, u91, u92, u93, u94, u95, u96, u97, u98, u99, u100, u101, u102, u103, u104, u105, u106, u107, u108, u109, u110, u111, u112], []⟩ w := by
  conv => enter [2, 1]; whnf
  have HQ := Lib.hid HQ0
  have HR := Lib.hid HR0
  have HM := Lib.hid hm
  have HA := Lib.hid A
  obtain ⟨a', c', ev, hlen, hc1⟩ := RS.get
  rw [List.length_map, hn] at ev hlen
  simp only [Value.slice.injEq] at ev
  obtain ⟨rfl, -, rfl⟩ := ev
  have HCC := Lib.hid (fun k (ck : k < n) => (by
    obtain ⟨b, off, ea, hb, hcc⟩ := hc1 (by rw [List.length_map, hn]; omega)
    have h := hcc k (by rw [List.length_map, hn]; exact ck)
    rw [List.getElem_map] at h
    exact ⟨b, off, ea, hb, h⟩ : ∃ b off, a = some ⟨b, off, none⟩ ∧ b < w.heap.size ∧ LsaCells w b (off + k * 15) (s[k]'(by omega)).x))
  have NC := Lib.hid (fun k (ck : k < s.length) WW (hb : Below w.heap.size w WW) => rnext_nx (D.below hb) s[k] ((DI _ (List.getElem_mem ck)).below hb) (dl _ (List.getElem_mem ck)).1 (dl _ (List.getElem_mem ck)).2)
  have SN := Lib.hid hn
  have ST : Hid (RP3 w db s 0 v0 [] w) := Lib.hid ⟨Nat.zero_le _, ⟨⟨R0, fun d h => by cases h⟩, List.Pairwise.nil, Below.refl _ _⟩, Nat.le_refl _, by simp, fun j _ h => absurd h (by omega)⟩
  clear HQ0 HR0 hm RS D DI dl hc1 R0 A
  dsimp only
  go_loopw [12, 11] (fun ix vx wr => ∃ (k : Nat) (out : List LsaD), ix = .int .i64 k ∧ Hid (RP3 w db s k vx out wr)) (fun ix _ _ => n - (intOf ix).toNat)
  case atStart => exact ⟨0, [], rfl, ST⟩
  case round =>
    clear ST
    obtain ⟨k, out, rfl, R⟩ := hrel
    obtain ⟨vA, hvA⟩ : ∃ z, z = u11 := ⟨_, rfl⟩
    subst hvA
    have hk := R.out.hk
    by_cases ck : k < n
    · obtain ⟨b1, o1, rfl, hb1, hcc1⟩ := HCC.out k ck
      obtain ⟨WO, eWO⟩ : ∃ x, x = wr := ⟨_, rfl⟩
      subst eWO
      obtain ⟨⟨d0, d1, d2, d3, d4⟩, ⟨d5, d6, d7, d8, d9⟩, ⟨d10, d11, d12, d13, d14⟩⟩ := hcc1.below R.out.o.bel hb1
      have cs : k < s.length := by rw [SN.out]; exact ck
      have NCk := Lib.hid (NC.out k cs WO R.out.o.bel)
      have STOP := Lib.hid (fun (v11 v12 v13 v14 v15 v55 v56 v57 v58 v59 v60 v61 v62 v63 v64 v65 v66 v67 v68 v69 v70 v71 v72 v73 v74 v75 v76 v77 : Value) (W' : World) (hb : Below w.heap.size w W') (q : (nx db s[k]).c ≠ 0) => HR.out v11 v12 v13 v14 v15 v55 v56 v57 v58 v59 v60 v61 v62 v63 v64 v65 v66 v67 v68 v69 v70 v71 v72 v73 v74 v75 v76 v77 W' k cs (fun j hj => R.out.ok j (by omega) hj) q hb)
      have SKIP := Lib.hid (fun (W' : World) (r : RP3 w db s k vA out W') h ho => r.skip cs h ho)
      have PUSH := Lib.hid (fun (W' wB : World) (v' : Value) (r : RP3 w db s k vA out W') h ho (y : LsaD) hy h1 h2 hi hb => r.push (w' := wB) (v' := v') HA.out cs h ho (y := y) hy h1 h2 hi hb)
      have KC := Lib.hid ck
      have i0 : (0 : Int) ≤ (k : Int) := by omega
      have i1 : (k : Int) < (n : Int) := by omega
      have s3 : ((k : Int)).toNat = k := by omega
      have hm2 := HM.out
      clear hcc1
      generalize nx db s[k] = r at *
      generalize s[k].x = x at *
      clear ck cs
      obtain ⟨xtyp, xid, xlen, xrouter, xseq, xage, xsum, xborder, xboundary, xla, xln, xlc, xaa, xan, xac, xcost, xsecond, xfwd, xtag⟩ := x
      obtain ⟨⟨⟨ytyp, yid, ylen, yrouter, yseq, yage, ysum, yborder, yboundary, yla, yln, ylc, yaa, yan, yac, ycost, ysecond, yfwd, ytag⟩, ylk, yatt⟩, rok, rc⟩ := r
      simp only at d0 d1 d2 d3 d4 d5 d6 d7 d8 d9 d10 d11 d12 d13 d14 STOP SKIP PUSH
      simp only [lsaE] at NCk
      go_wp2_with fail
      refine NCk.out.mono ?_
      rintro e w8 ⟨la, lc, aa, ac, rfl, LA, WA, B8, -, -⟩
      have R8 := Lib.hid (R.out.grow B8)
      have HLA := Lib.hid LA
      have HWA := Lib.hid WA
      simp only [lsaE, atL]
      clear LA WA B8 NCk R d0 d1 d2 d3 d4 d5 d6 d7 d8 d9 d10 d11 d12 d13 d14
      by_cases qc : rc = 0
      · subst qc
        clear STOP HR
        go_upto_region 18 with fail
        generalize hW9 : w8.alloc _ = W9
        have B9 : Below w8.heap.size w8 W9 := by rw [← hW9]; exact (Below.refl _ _).alloc (Nat.le_refl _) _
        have b9 := Lib.hid (show W9.heap[w8.heap.size]? = some (.cells #[.int .i64 ytyp, .int .u32 yid, .int .i64 ylen, .int .u32 yrouter, .int .i64 yseq, .int .i64 yage, .int .i64 ysum, .bool yborder, .bool yboundary, .slice la yln lc, .slice aa yan ac, .int .i64 ycost, .bool ysecond, .int .u32 yfwd, .int .i64 ytag] 42 (0, 0)) by rw [← hW9]; exact alloc_new _ _)
        have R9 := Lib.hid (R8.out.grow B9)
        have LA9 := Lib.hid (HLA.out.below B9)
        have WA9 := Lib.hid (HWA.out.below B9)
        clear hW9 B9 R8 HLA HWA
        cases rok with
        | false =>
          have NX := Lib.hid (SKIP.out W9 R9.out rfl rfl)
          clear SKIP PUSH R9 LA9 WA9 b9
          go_wp2_with fail
          go_roundw
          case rel => exact ⟨k + 1, out, by go_num, NX⟩
          case measure => simp [intOf]; have := KC.out; omega
        | true =>
          obtain ⟨⟨⟨f0, f1, f2, f3, f4⟩, ⟨f5, f6, f7, f8, f9⟩, ⟨f10, f11, f12, f13, f14⟩⟩, -⟩ := blk15 b9.out
          have IC := Lib.hid (insert_calls W9 vA (out.map LsaD.x) (atL ⟨ytyp, yid, ylen, yrouter, yseq, yage, ysum, yborder, yboundary, yla, yln, ylc, yaa, yan, yac, ycost, ysecond, yfwd, ytag⟩ la lc aa ac) R9.out.o.row.row (by rw [List.length_map]; have h1 := R9.out.len; have h2 := HM.out; have h3 := KC.out; omega))
          have PU := Lib.hid (fun v' wB hi hb => PUSH.out W9 wB v' R9.out rfl rfl ⟨atL ⟨ytyp, yid, ylen, yrouter, yseq, yage, ysum, yborder, yboundary, yla, yln, ylc, yaa, yan, yac, ycost, ysecond, yfwd, ytag⟩ la lc aa ac, ylk, yatt⟩ rfl LA9.out WA9.out hi hb)
          simp only [atL, lsaE] at IC
          simp only [atL] at PU
          clear SKIP PUSH LA9 WA9 b9 R9
          go_wp2_with fail
          refine IC.out.mono ?_
          rintro e w3 ⟨v', rfl, hL, B3⟩
          have NX := Lib.hid (PU.out v' w3 hL B3)
          clear PU IC hL B3 f0 f1 f2 f3 f4 f5 f6 f7 f8 f9 f10 f11 f12 f13 f14
          go_wp2_with fail
          go_roundw
          case rel => exact ⟨k + 1, _, by go_num, NX⟩
          case measure => simp [intOf]; have := KC.out; omega
      · have q' : (rc != 0) = true := by simpa using qc
        have FI := Lib.hid (fun (v11 v12 v13 v14 v15 v55 v56 v57 v58 v59 v60 v61 v62 v63 v64 v65 v66 v67 v68 v69 v70 v71 v72 v73 v74 v75 v76 v77 : Value) (W' : World) (hb : Below w8.heap.size w8 W') => STOP.out v11 v12 v13 v14 v15 v55 v56 v57 v58 v59 v60 v61 v62 v63 v64 v65 v66 v67 v68 v69 v70 v71 v72 v73 v74 v75 v76 v77 W' (R8.out.o.bel.trans (hb.mono R8.out.o.bel.size)) qc)
        clear STOP SKIP PUSH qc HQ HR
        go_upto_region 18 with fail
        generalize hW9 : w8.alloc _ = W9
        have B9 := Lib.hid (show Below w8.heap.size w8 W9 by rw [← hW9]; exact (Below.refl _ _).alloc (Nat.le_refl _) _)
        clear hW9
        go_wp2_with fail
        exact FI.out _ _ _ _ _ _ _ _ _ _ _ _ _ _ _ _ _ _ _ _ _ _ _ _ _ _ _ _ W9 B9.out
    · obtain rfl : k = n := by have := SN.out; omega
      clear HR
      go_wp2_with fail
      exact HQ.out _ _ _ _ _ _ _ _ _ _ _ _ _ _ _ _ _ _ _ _ _ _ _ _ _ _ _ _ _ _ out wr R.out

end Go.Proofs.YtddageahmgaigaaGreat

namespace Go.Proofs.YtddageahmgaigaaGreat
open Go.RowKit

theorem DbOk.ndR {db : List LsaD} (h : DbOk db) : ∀ i j, (hi : i < db.length) → (hj : j < db.length) → i < j → keyR db[i] ≠ keyR db[j] := by
  intro i j hi hj hij e
  have h2 := h.asc (j - i - 1) i (by omega)
  rw [show i + (j - i - 1) + 1 = j from by omega, dAt_get hi, dAt_get hj, kk_neg] at h2
  have e' : lkOf db[i].x = lkOf db[j].x := e
  rw [e'] at h2
  omega
structure RP4 (w : World) (db s : List LsaD) (rt : Int) (k : Nat) (out0 : List LsaD) (v : Value) (out : List LsaD) (wr : World) : Prop where
  hk : k ≤ db.length
  o : RPo w v out wr
  len : out.length ≤ out0.length + k
  mem : ∀ u, u ∈ out.map nrm ↔ u ∈ out0.map nrm ∨ ∃ d ∈ db.take k, d.x.router = rt ∧ d.x.age < 3600 ∧ (∀ e ∈ s, keyR e ≠ keyR d) ∧ u = nrm (flD d)
theorem RP4.grow {w : World} {db s : List LsaD} {rt : Int} {k : Nat} {out0 : List LsaD} {v : Value} {out : List LsaD} {wr w' : World} (R : RP4 w db s rt k out0 v out wr) (hb : Below wr.heap.size wr w') : RP4 w db s rt k out0 v out w' := ⟨R.hk, R.o.grow hb, R.len, R.mem⟩
theorem RP4.skip {w : World} {db s : List LsaD} {rt : Int} {k : Nat} {out0 : List LsaD} {v : Value} {out : List LsaD} {wr : World} (R : RP4 w db s rt k out0 v out wr) (c : k < db.length) (h : ¬ (db[k].x.router = rt ∧ db[k].x.age < 3600 ∧ ∀ e ∈ s, keyR e ≠ keyR db[k])) : RP4 w db s rt (k + 1) out0 v out wr := by
  refine ⟨c, R.o, Nat.le_succ_of_le R.len, fun u => (R.mem u).trans (or_congr Iff.rfl ?_)⟩
  rw [List.take_succ_eq_append_getElem c]
  constructor
  · rintro ⟨d, h1, h2⟩; exact ⟨d, List.mem_append_left _ h1, h2⟩
  · rintro ⟨d, h1, h2, h3, h4, h5⟩
    rcases List.mem_append.1 h1 with h1 | h1
    · exact ⟨d, h1, h2, h3, h4, h5⟩
    · obtain rfl := List.mem_singleton.1 h1
      exact absurd ⟨h2, h3, h4⟩ h
theorem RP4.push {w : World} {db s : List LsaD} {rt : Int} {k : Nat} {out0 : List LsaD} {v v' : Value} {out : List LsaD} {wr w' : World} (R : RP4 w db s rt k out0 v out wr) (D : DbOk db) (KO : ∀ z ∈ out0, ∃ e ∈ s, keyR e = keyR z) (c : k < db.length) (q1 : db[k].x.router = rt) (q2 : db[k].x.age < 3600) (q3 : ∀ e ∈ s, keyR e ≠ keyR db[k]) {y : LsaD} (hy : nrm y = nrm (flD db[k])) (h1 : LnksAt wr (.slice y.x.la y.x.ln y.x.lc) y.lk) (h2 : WordsAt wr (.slice y.x.aa y.x.an y.x.ac) y.att) (hi : LsasAt w' v' (insL y.x (out.map LsaD.x))) (hb : Below wr.heap.size wr w') : RP4 w db s rt (k + 1) out0 v' (insD y out) w' := by
  have ky : keyR y = keyR db[k] := (congrArg keyR hy : keyR (nrm y) = keyR (nrm (flD db[k])))
  have fr : ∀ z ∈ out, keyR z ≠ keyR y := by
    intro z hz e
    rw [ky] at e
    rcases (R.mem (nrm z)).1 (List.mem_map_of_mem hz) with h | ⟨d, h, -, -, -, h5⟩
    · obtain ⟨z', h3, h4⟩ := List.mem_map.1 h
      obtain ⟨e', h5, h6⟩ := KO z' h3
      have h7 : keyR z' = keyR z := (congrArg keyR h4 : keyR (nrm z') = keyR (nrm z))
      exact q3 e' h5 (h6.trans (h7.trans e))
    · have h6 : keyR z = keyR d := (congrArg keyR h5 : keyR (nrm z) = keyR (nrm (flD d)))
      obtain ⟨j, hj, rfl⟩ := List.getElem_of_mem h
      rw [List.length_take] at hj
      rw [List.getElem_take] at h6
      exact D.ndR j k (by omega) c (by omega) (h6.symm.trans e)
  refine ⟨c, R.o.ins h1 h2 hi hb, Nat.le_trans (insD_len y out) (Nat.succ_le_succ R.len), fun u => (ins_members fr u).trans ?_⟩
  rw [R.mem u, List.take_succ_eq_append_getElem c]
  constructor
  · rintro (rfl | h | ⟨d, h1, h2⟩)
    · exact .inr ⟨db[k], List.mem_append_right _ (List.mem_singleton.2 rfl), q1, q2, q3, hy⟩
    · exact .inl h
    · exact .inr ⟨d, List.mem_append_left _ h1, h2⟩
  · rintro (h | ⟨d, h1, h2, h3, h4, h5⟩)
    · exact .inr (.inl h)
    · rcases List.mem_append.1 h1 with h1 | h1
      · exact .inr (.inr ⟨d, h1, h2, h3, h4, h5⟩)
      · obtain rfl := List.mem_singleton.1 h1
        exact .inl (h5.trans hy.symm)

set_option maxHeartbeats 16000000 in
set_option maxRecDepth 100000 in
theorem rp_loop4 (Q : Exit → Act → World → Prop) (w : World) (db s : List LsaD) (rt : Int) (a : Option Addr) (n c : Nat) (D : DbN w (.slice a n c) db) (hn : db.length = n) (hm : n ≤ 1048576) (vS : Value) (RS : LsasAt w vS (s.map LsaD.x)) (v0 : Value) (out0 : List LsaD) (R0 : RPo w v0 out0 w) (KO : ∀ z ∈ out0, ∃ e ∈ s, keyR e = keyR z) (ho : out0.length ≤ 1048576) (u2 u3 u4 u5 u6 u7 u8 u10 u12 u13 u14 u15 u17 u18 u19 u20 u21 u22 u23 u24 u25 u26 u27 u28 u29 u30 u31 u32 u33 u34 u35 u36 u37 u38 u39 u40 u41 u42 u43 u44 u45 u46 u47 u48 u49 u50 u51 u52 u53 u54 u55 u56 u57 u58 u59 u60 u61 u62 u63 u64 u65 u66 u67 u68 u69 u70 u71 u72 u73 u74 u75 u76 u77 u78 u79 u80 u81 u82 u83 u84 u85 u86 u87 u88 u89 u90 u91 u92 u93 u94 u95 u96 u97 u98 u99 u100 u101 u102 u103 u104 u105 u106 u107 u108 u109 u110 u111 u112 : Value)
    (HQ0 : ∀ (v11 v16 v17 v78 v79 v80 v81 v82 v83 v84 v85 v86 v87 v88 v89 v90 v91 v92 v93 v94 v95 v96 v97 v98 v99 v100 v101 v102 v103 v104 v105 v106 v107 v108 v109 v110 v111 : Value) (out : List LsaD) (w' : World), RP4 w db s rt n out0 v11 out w' → Q (.exit 6) ⟨#[.slice a n c, .int .u32 rt, u2, u3, u4, u5, u6, u7, u8, vS, u10, v11, u12, u13, u14, u15, v16, v17, u18, u19, u20, u21, u22, u23, u24, u25, u26, u27, u28, u29, u30, u31, u32, u33, u34, u35, u36, u37, u38, u39, u40, u41, u42, u43, u44, u45, u46, u47, u48, u49, u50, u51, u52, u53, u54, u55, u56, u57, u58, u59, u60, u61, u62, u63, u64, u65, u66, u67, u68, u69, u70, u71, u72, u73, u74, u75, u76, u77, v78, v79, v80, v81, v82, v83, v84, v85, v86, v87, v88, v89, v90, v91, v92, v93, v94, v95, v96, v97, v98, v99, v100, v101, v102, v103, v104, v105, v106, v107, v108, v109, v110, v111, u112], []⟩ w') :
    Code.wp Tryz.prog (.loop (rpBody 3)) Q ⟨#[.slice a n c, .int .u32 rt, u2, u3, u4, u5, u6, u7, u8, vS, u10, v0, u12, u13, u14, u15, .int .i64 0, u17, u18, u19, u20, u21, u22, u23, u24, u25, u26, u27, u28, u29, u30, u31, u32, u33, u34, u35, u36, u37, u38, u39, u40, u41, u42, u43, u44, u45, u46, u47, u48, u49, u50, u51, u52, u53, u54, u55, u56, u57, u58, u59, u60, u61, u62, u63, u64, u65, u66, u67, u68, u69, u70, u71, u72, u73, u74, u75, u76, u77, u78, u79, u80, u81, u82, u83, u84, u85, u86, u87, u88, u89, u90, u91, u92, u93, u94, u95, u96, u97, u98, u99, u100, u101, u102, u103, u104, u105, u106, u107, u108, u109, u110, u111, u112], []⟩ w := by
  conv => enter [2, 1]; whnf
  have HQ := Lib.hid HQ0
  have HM := Lib.hid hm
  have HO := Lib.hid ho
  have DR := Lib.hid D.at'.1
  obtain ⟨a', c', ev, hlen, hc1⟩ := DR.out.get
  rw [List.length_map, hn] at ev hlen
  simp only [Value.slice.injEq] at ev
  obtain ⟨rfl, -, rfl⟩ := ev
  have HCC := Lib.hid (fun k (ck : k < n) => (by
    obtain ⟨b, off, ea, hb, hcc⟩ := hc1 (by rw [List.length_map, hn]; omega)
    have h := hcc k (by rw [List.length_map, hn]; exact ck)
    rw [List.getElem_map] at h
    exact ⟨b, off, ea, hb, h⟩ : ∃ b off, a = some ⟨b, off, none⟩ ∧ b < w.heap.size ∧ LsaCells w b (off + k * 15) (db[k]'(by omega)).x))
  have FC := Lib.hid (fun W (hb : Below w.heap.size w W) t id len r => find_calls W vS (s.map LsaD.x) (RS.below hb) t id len r)
  have DIK := Lib.hid (fun k (ck : k < db.length) W (hb : Below w.heap.size w W) => (D.at'.2 _ (List.getElem_mem ck)).below hb)
  have DK := Lib.hid D.ok
  have HKO := Lib.hid KO
  have SN := Lib.hid hn
  have ST : Hid (RP4 w db s rt 0 out0 v0 out0 w) := Lib.hid ⟨Nat.zero_le _, R0, Nat.le_refl _, by simp⟩
  clear HQ0 hm D hc1 RS R0 KO ho
  dsimp only
  go_loopw [16, 11] (fun ix vx wr => ∃ (k : Nat) (out : List LsaD), ix = .int .i64 k ∧ Hid (RP4 w db s rt k out0 vx out wr)) (fun ix _ _ => n - (intOf ix).toNat)
  case atStart => exact ⟨0, out0, rfl, ST⟩
  case round =>
    clear ST
    obtain ⟨k, out, rfl, R⟩ := hrel
    obtain ⟨vA, hvA⟩ : ∃ z, z = u11 := ⟨_, rfl⟩
    subst hvA
    have hk := R.out.hk
    by_cases ck : k < n
    · obtain ⟨b1, o1, rfl, hb1, hcc1⟩ := HCC.out k ck
      obtain ⟨WO, eWO⟩ : ∃ x, x = wr := ⟨_, rfl⟩
      subst eWO
      have CEL := Lib.hid (fun W (hb : Below w.heap.size w W) => hcc1.below hb hb1)
      obtain ⟨⟨d0, d1, d2, d3, d4⟩, ⟨d5, d6, d7, d8, d9⟩, ⟨d10, d11, d12, d13, d14⟩⟩ := CEL.out _ R.out.o.bel
      have cs : k < db.length := by rw [SN.out]; exact ck
      have DIk := Lib.hid (DIK.out k cs)
      have SKIP : Hid (¬ (db[k].x.router = rt ∧ db[k].x.age < 3600 ∧ ∀ x ∈ s.map LsaD.x, lkOf x ≠ ⟨db[k].x.typ, db[k].x.id, db[k].x.len, db[k].x.router⟩) → ∀ W', RP4 w db s rt k out0 vA out W' → RP4 w db s rt (k + 1) out0 vA out W') := Lib.hid (fun h W' r => r.skip cs fun q => h ⟨q.1, q.2.1, fun x hx e => by
        obtain ⟨y, hy, rfl⟩ := List.mem_map.1 hx
        exact q.2.2 y hy e⟩)
      have PUSH : Hid (db[k].x.router = rt → db[k].x.age < 3600 → (∀ x ∈ s.map LsaD.x, lkOf x ≠ ⟨db[k].x.typ, db[k].x.id, db[k].x.len, db[k].x.router⟩) → ∀ W' wB v', RP4 w db s rt k out0 vA out W' → LnksAt W' (.slice db[k].x.la db[k].x.ln db[k].x.lc) db[k].lk → WordsAt W' (.slice db[k].x.aa db[k].x.an db[k].x.ac) db[k].att → LsasAt wB v' (insL { db[k].x with age := 3600 } (out.map LsaD.x)) → Below W'.heap.size W' wB → RP4 w db s rt (k + 1) out0 v' (insD (flD db[k]) out) wB) := Lib.hid (fun q1 q2 q3 W' wB v' r h1 h2 hi hb =>
        r.push DK.out HKO.out cs q1 q2 (fun e he h => q3 e.x (List.mem_map_of_mem he) h) (y := flD db[k]) rfl h1 h2 hi hb)
      have KC := Lib.hid ck
      have i0 : (0 : Int) ≤ (k : Int) := by omega
      have i1 : (k : Int) < (n : Int) := by omega
      have s3 : ((k : Int)).toNat = k := by omega
      have hm2 := HM.out
      have BEL := Lib.hid R.out.o.bel
      have NOUT : Hid ((out.length + 3) * 136 ≤ 140737488355328) := Lib.hid (by have h1 := R.out.len; have h2 := HO.out; omega)
      clear hcc1
      generalize s.map LsaD.x = L at *
      generalize db[k] = d at *
      clear ck cs
      obtain ⟨⟨xtyp, xid, xlen, xrouter, xseq, xage, xsum, xborder, xboundary, xla, xln, xlc, xaa, xan, xac, xcost, xsecond, xfwd, xtag⟩, lk, att⟩ := d
      simp only [flD] at d0 d1 d2 d3 d4 d5 d6 d7 d8 d9 d10 d11 d12 d13 d14 CEL SKIP PUSH DIk
      have KY := Lib.hid (fun W => key_calls xtyp xid xlen xrouter xseq xage xsum W)
      simp only [keyE] at KY
      go_upto_region 26 with fail
      generalize hW5 : WO.alloc _ = W5
      have B5 : Below WO.heap.size WO W5 := by rw [← hW5]; exact (Below.refl _ _).alloc (Nat.le_refl _) _
      have b5 := Lib.hid (show W5.heap[WO.heap.size]? = some (.cells #[.int .i64 xtyp, .int .u32 xid, .int .i64 xlen, .int .u32 xrouter, .int .i64 xseq, .int .i64 xage, .int .i64 xsum] 37 (0, 0)) by rw [← hW5]; exact alloc_new _ _)
      have R5 := Lib.hid (R.out.grow B5)
      have BL5 := Lib.hid (BEL.out.trans (B5.mono BEL.out.size))
      have h0 : W5.cell? ⟨WO.heap.size, 0, none⟩ = some (.int .i64 xtyp) := blk_cell b5.out rfl
      have h1 : W5.cell? ⟨WO.heap.size, 1, none⟩ = some (.int .u32 xid) := blk_cell b5.out rfl
      have h2 : W5.cell? ⟨WO.heap.size, 2, none⟩ = some (.int .i64 xlen) := blk_cell b5.out rfl
      have h3 : W5.cell? ⟨WO.heap.size, 3, none⟩ = some (.int .u32 xrouter) := blk_cell b5.out rfl
      have h4 : W5.cell? ⟨WO.heap.size, 4, none⟩ = some (.int .i64 xseq) := blk_cell b5.out rfl
      have h5 : W5.cell? ⟨WO.heap.size, 5, none⟩ = some (.int .i64 xage) := blk_cell b5.out rfl
      have h6 : W5.cell? ⟨WO.heap.size, 6, none⟩ = some (.int .i64 xsum) := blk_cell b5.out rfl
      clear hW5 B5 d0 d1 d2 d3 d4 d5 d6 d7 d8 d9 d10 d11 d12 d13 d14 R BEL b5
      by_cases q1 : xrouter = rt
      case neg =>
        have q' : (xrouter == rt) = false := by simpa using q1
        have NX := Lib.hid (SKIP.out (fun h => q1 h.1) W5 R5.out)
        clear SKIP PUSH R5 KY DIk CEL q1
        go_wp2_with fail
        go_roundw
        case rel => exact ⟨k + 1, out, by go_num, NX⟩
        case measure => simp [intOf]; have := KC.out; omega
      case pos =>
        have q' : (xrouter == rt) = true := by simpa using q1
        by_cases q2 : xage < 3600
        case neg =>
          have dq : decide (xage < 3600) = false := decide_eq_false q2
          have NX := Lib.hid (SKIP.out (fun h => q2 h.2.1) W5 R5.out)
          clear SKIP PUSH R5 KY DIk CEL q1 q2
          go_wp2_with fail
          go_roundw
          case rel => exact ⟨k + 1, out, by go_num, NX⟩
          case measure => simp [intOf]; have := KC.out; omega
        case pos =>
          have dq : decide (xage < 3600) = true := decide_eq_true q2
          have PU := Lib.hid (PUSH.out q1 q2)
          have SK : Hid (¬ (∀ x ∈ L, lkOf x ≠ ⟨xtyp, xid, xlen, xrouter⟩) → ∀ W', RP4 w db s rt k out0 vA out W' → RP4 w db s rt (k + 1) out0 vA out W') := Lib.hid (fun h => SKIP.out fun q => h q.2.2)
          clear SKIP PUSH q1 q2
          go_wp2_with fail
          refine (KY.out _).mono ?_
          rintro e w6 ⟨rfl, G6⟩
          have R6 := Lib.hid (R5.out.grow G6.b)
          have BL6 := Lib.hid (BL5.out.trans (G6.b.mono BL5.out.size))
          have F6 := Lib.hid (FC.out w6 BL6.out xtyp xid xlen xrouter)
          clear G6 R5 BL5 KY h0 h1 h2 h3 h4 h5 h6
          go_wp2_with fail
          refine F6.out.mono ?_
          rintro e w7 ⟨i, rfl, G7, hi⟩
          have R7 := Lib.hid (R6.out.grow G7.b)
          have BL7 := Lib.hid (BL6.out.trans (G7.b.mono BL6.out.size))
          clear G7 R6 BL6 F6
          rcases hi with ⟨rfl, no⟩ | ⟨j, rfl, hj, hkey, -⟩
          · have PU2 := Lib.hid (PU.out no)
            obtain ⟨⟨d0, d1, d2, d3, d4⟩, ⟨d5, d6, d7, d8, d9⟩, ⟨d10, d11, d12, d13, d14⟩⟩ := CEL.out w7 BL7.out
            have DI7 := Lib.hid (DIk.out w7 BL7.out)
            have RFC := Lib.hid (fun W => rflush_calls ⟨xtyp, xid, xlen, xrouter, xseq, xage, xsum, xborder, xboundary, xla, xln, xlc, xaa, xan, xac, xcost, xsecond, xfwd, xtag⟩ W)
            simp only [lsaE] at RFC
            clear no SK PU CEL DIk
            go_wp2_with fail
            refine (RFC.out _).mono ?_
            rintro e w8 ⟨rfl, B8⟩
            have R8 := Lib.hid (R7.out.grow B8)
            have IC := Lib.hid (insert_calls w8 vA (out.map LsaD.x) ⟨xtyp, xid, xlen, xrouter, xseq, 3600, xsum, xborder, xboundary, xla, xln, xlc, xaa, xan, xac, xcost, xsecond, xfwd, xtag⟩ R8.out.o.row.row (by rw [List.length_map]; exact NOUT.out))
            have PU3 := Lib.hid (fun v' wB hi hb => PU2.out w8 wB v' R8.out (DI7.out.lk.below B8) (DI7.out.att.below B8) hi hb)
            simp only [lsaE] at IC ⊢
            clear B8 R7 RFC DI7 PU2 R8 d0 d1 d2 d3 d4 d5 d6 d7 d8 d9 d10 d11 d12 d13 d14
            go_wp2_with fail
            refine IC.out.mono ?_
            rintro e w9 ⟨v', rfl, hL, B9⟩
            have NX := Lib.hid (PU3.out v' w9 hL B9)
            clear PU3 IC hL B9
            go_wp2_with fail
            go_roundw
            case rel => exact ⟨k + 1, _, by go_num, NX⟩
            case measure => simp [intOf]; have := KC.out; omega
          · have NX := Lib.hid (SK.out (fun h => h _ (List.getElem_mem hj) hkey) w7 R7.out)
            have j0 : (0 : Int) ≤ (j : Int) := by omega
            clear hj hkey SK PU CEL DIk R7
            go_wp2_with fail
            go_roundw
            case rel => exact ⟨k + 1, out, by go_num, NX⟩
            case measure => simp [intOf]; have := KC.out; omega
    · obtain rfl : k = n := by have := SN.out; omega
      go_wp2_with fail
      exact HQ.out _ _ _ _ _ _ _ _ _ _ _ _ _ _ _ _ _ _ _ _ _ _ _ _ _ _ _ _ _ _ _ _ _ _ _ _ _ out wr R.out

end Go.Proofs.YtddageahmgaigaaGreat

namespace Go.Proofs.YtddageahmgaigaaGreat
open Go.RowKit

theorem lsas_nil (W : World) (b : Nat) : LsasAt W (.slice (some ⟨b, 0, none⟩) 0 0) [] := ⟨some ⟨b, 0, none⟩, 0, rfl, Nat.le_refl _, by unfold maxLen; omega, (fun h => by cases h), fun h => absurd h (by simp)⟩

set_option maxHeartbeats 16000000 in
set_option maxRecDepth 100000 in
theorem rplan_calls (w : World) (v v2 : Value) (db wt : List LsaD) (rt : Int) (D : DbN w v db) (hdn : db.length ≤ 1048576) (WT : DbAt w v2 wt) (wl : ∀ d ∈ wt, d.lk.length ≤ 1048576 ∧ d.att.length ≤ 1048576) (hwn : wt.length ≤ 1048576) :
    Calls Tryz.prog 23 #[v, .int .u32 rt, v2] w (PlanPost w db rt wt) := by
  obtain ⟨va, vc, ev, -, -⟩ := D.at'.1.get
  obtain ⟨wa, wc, ew, -, -⟩ := WT.1.get
  rw [List.length_map] at ev ew
  subst ev ew
  have HD := Lib.hid D
  have HWT := Lib.hid WT.2
  have HWR := Lib.hid WT.1
  have HWL := Lib.hid wl
  have HWN := Lib.hid hwn
  have HDN := Lib.hid hdn
  obtain ⟨nd, hnd⟩ : ∃ nd, db.length = nd := ⟨_, rfl⟩
  obtain ⟨nv, hnv⟩ : ∃ nv, wt.length = nv := ⟨_, rfl⟩
  have NV := Lib.hid hnv
  have ND := Lib.hid hnd
  rw [hnv] at HWR HWN
  rw [hnd] at HD HDN
  rw [hnd, hnv]
  clear D WT wl hwn hdn hnd hnv
  go_enter Tryz.func23, Tryz.ntmps23
  go_wp2_with fail
  rename_i K hK
  refine rp_loop1 _ w wt rt wa nv wc NV.out HWR.out _ _ _ _ _ _ _ _ _ _ _ _ _ _ _ _ _ _ _ _ _ _ _ _ _ _ _ _ _ _ _ _ _ _ _ _ _ _ _ _ _ _ _ _ _ _ _ _ _ _ _ _ _ _ _ _ _ _ _ _ _ _ _ _ _ _ _ _ _ _ _ _ _ _ _ _ _ _ _ _ _ _ _ _ _ _ _ _ _ _ _ _ _ _ _ _ _ _ _ _ _ _ _ _ _ _ _ _ _ _ ?hq1 ?hr1
  case hr1 =>
    intro v8 v18 v19 v20 v21 v22 v23 v24 v25 v26 v27 v28 v29 v30 v31 hx
    have FI : Hid (PlanPost w db rt wt (.returned (.tuple #[.slice none 0 0, .int .i64 14])) w) := Lib.hid ⟨14, [], _, [], .inl ⟨hx, rfl, rfl⟩, rfl, ⟨⟨none, 0, rfl, Nat.le_refl _, by unfold maxLen; omega, fun _ => rfl, fun h => absurd h (by simp)⟩, fun d h => by cases h⟩, rfl, Below.refl _ _⟩
    exact bodyPost_ret (v := .tuple #[.slice none 0 0, .int .i64 14]) (by simp [results, Tryz.results23, go_sem]) rfl FI.out
  case hq1 =>
    intro v6 v7 v8 v18 v19 v20 v21 v22 v23 v24 v25 v26 v27 v28 v29 v30 v31 hrt
    have HRT := Lib.hid hrt
    obtain ⟨W1, hW1⟩ : ∃ W1, w.alloc (.cells #[] 42) = W1 := ⟨_, rfl⟩
    have B1 := Lib.hid (show Below w.heap.size w W1 by rw [← hW1]; exact (Below.refl _ _).alloc (Nat.le_refl _) _)
    have HW1 := Lib.hid hW1
    clear hrt hW1
    refine hK _ _ ?_
    clear hK
    go_wp2_with fail
    rw [HW1.out]
    clear HW1
    rename_i K2 hK2
    refine rp_loop2 _ W1 wt wa nv wc NV.out HWN.out (HWR.out.below B1.out) (.slice (some ⟨w.heap.size, 0, none⟩) 0 0) (lsas_nil W1 _) _ _ _ _ _ _ _ _ _ _ _ _ _ _ _ _ _ _ _ _ _ _ _ _ _ _ _ _ _ _ _ _ _ _ _ _ _ _ _ _ _ _ _ _ _ _ _ _ _ _ _ _ _ _ _ _ _ _ _ _ _ _ _ _ _ _ _ _ _ _ _ _ _ _ _ _ _ _ _ _ _ _ _ _ _ _ _ _ _ _ _ _ _ _ _ _ _ _ _ _ _ _ _ _ _ _ _ _ _ _ ?hq2 ?hr2
    case hr2 =>
      intro v9 v10 v33 v34 v35 v36 v37 v38 v39 v40 v41 v42 v43 v44 v45 v46 v47 v48 v49 v50 v51 v52 v53 w2 hnd2 B2
      have FI : Hid (PlanPost w db rt wt (.returned (.tuple #[.slice none 0 0, .int .i64 7])) w2) := Lib.hid ⟨7, [], _, [], .inr (.inl ⟨HRT.out, hnd2, rfl, rfl⟩), rfl, ⟨⟨none, 0, rfl, Nat.le_refl _, by unfold maxLen; omega, fun _ => rfl, fun h => absurd h (by simp)⟩, fun d h => by cases h⟩, rfl, B1.out.trans (B2.mono B1.out.size)⟩
      exact bodyPost_ret (v := .tuple #[.slice none 0 0, .int .i64 7]) (by simp [results, Tryz.results23, go_sem]) rfl FI.out
    case hq2 =>
      intro v6 v7 v9' v10 v33 v34 v35 v36 v37 v38 v39 v40 v41 v42 v43 v44 v45 v46 v47 v48 v49 v50 v51 v52 v53 rows w2 R2 hnodup
      obtain ⟨sa, sc, es, -, -⟩ := R2.row.get
      rw [List.length_map] at es
      subst es
      obtain ⟨ns, hns⟩ : ∃ ns, rows.length = ns := ⟨_, rfl⟩
      have NS := Lib.hid hns
      have HR2 := Lib.hid R2
      have HP : Hid (rows.Perm wt) := Lib.hid (by have h := R2.perm; rwa [List.take_of_length_le (by rw [NV.out]; exact Nat.le_refl _)] at h)
      have HND := Lib.hid hnodup
      have B2 := Lib.hid (B1.out.trans (R2.bel.mono B1.out.size))
      obtain ⟨W3, hW3⟩ : ∃ W3, w2.alloc (.cells #[] 42) = W3 := ⟨_, rfl⟩
      have B23 := Lib.hid (show Below w2.heap.size w2 W3 by rw [← hW3]; exact (Below.refl _ _).alloc (Nat.le_refl _) _)
      have B3 := Lib.hid (B2.out.trans (B23.out.mono B2.out.size))
      have RS3 := Lib.hid (R2.row.below B23.out)
      rw [hns] at RS3
      have HW3 := Lib.hid hW3
      have NSB : Hid (ns ≤ 1048576) := Lib.hid (by rw [← hns, HP.out.length_eq, NV.out]; exact HWN.out)
      rw [hns]
      clear R2 hnodup hW3 hns
      refine hK2 _ _ ?_
      clear hK2
      go_wp2_with fail
      rw [HW3.out]
      clear HW3
      rename_i K3 hK3
      refine rp_loop3 _ W3 _ db rows (HD.out.below B3.out) HR2.out.asc sa ns sc NS.out NSB.out RS3.out (fun d hd => (HWT.out d (HP.out.mem_iff.1 hd)).below B3.out) (fun d hd => HWL.out d (HP.out.mem_iff.1 hd)) (.slice (some ⟨w2.heap.size, 0, none⟩) 0 0) (lsas_nil W3 _) _ _ _ _ _ _ _ _ _ _ _ _ _ _ _ _ _ _ _ _ _ _ _ _ _ _ _ _ _ _ _ _ _ _ _ _ _ _ _ _ _ _ _ _ _ _ _ _ _ _ _ _ _ _ _ _ _ _ _ _ _ _ _ _ _ _ _ _ _ _ _ _ _ _ _ _ _ _ _ _ _ _ _ _ _ _ _ _ _ _ _ _ _ _ _ _ _ _ _ _ _ _ _ _ _ _ _ _ _ ?hq3 ?hr3
      case hr3 =>
        intro v11 v12 v13 v14 v15 v55 v56 v57 v58 v59 v60 v61 v62 v63 v64 v65 v66 v67 v68 v69 v70 v71 v72 v73 v74 v75 v76 v77 w4 i hi hall hne B4
        have FI : Hid (PlanPost w db rt wt (.returned (.tuple #[.slice none 0 0, .int .i64 (nx db rows[i]).c])) w4) := Lib.hid ⟨(nx db rows[i]).c, [], _, [], .inr (.inr ⟨HRT.out, HND.out, rows, HP.out, HR2.out.asc, .inl ⟨i, hi, hall, rfl, hne, rfl⟩⟩), rfl, ⟨⟨none, 0, rfl, Nat.le_refl _, by unfold maxLen; omega, fun _ => rfl, fun h => absurd h (by simp)⟩, fun d h => by cases h⟩, rfl, B3.out.trans (B4.mono B3.out.size)⟩
        exact bodyPost_ret (v := .tuple #[.slice none 0 0, .int .i64 (nx db rows[i]).c]) (by simp [results, Tryz.results23, go_sem]) rfl FI.out
      case hq3 =>
        intro v6 v7 v11' v12 v13 v14 v15 v55 v56 v57 v58 v59 v60 v61 v62 v63 v64 v65 v66 v67 v68 v69 v70 v71 v72 v73 v74 v75 v76 v77 out w4 R4
        have HR4 := Lib.hid R4
        have B4 := Lib.hid (B3.out.trans (R4.o.bel.mono B3.out.size))
        have RS4 := Lib.hid (RS3.out.below R4.o.bel)
        have O4 : Hid (RPo w4 v11' out w4) := Lib.hid ⟨R4.o.row, R4.o.asc, Below.refl _ _⟩
        have KO4 : Hid (∀ z ∈ out, ∃ e ∈ rows, keyR e = keyR z) := Lib.hid (fun z hz => by
          obtain ⟨d, h1, h2, h3⟩ := (R4.mem (nrm z)).1 (List.mem_map_of_mem hz)
          refine ⟨d, List.mem_of_mem_take h1, ?_⟩
          have h4 : keyR z = keyR (nx db d).y := (congrArg keyR h3 : keyR (nrm z) = keyR (nrm (nx db d).y))
          rw [h4, nx_keyR h2])
        have OL4 : Hid (out.length ≤ 1048576) := Lib.hid (Nat.le_trans R4.len NSB.out)
        clear R4 RS3
        refine hK3 _ _ ?_
        clear hK3
        go_wp2_with fail
        rename_i K4 hK4
        refine rp_loop4 _ w4 db rows rt va nd vc (HD.out.below B4.out) ND.out HDN.out (.slice sa ns sc) RS4.out v11' out O4.out KO4.out OL4.out _ _ _ _ _ _ _ _ _ _ _ _ _ _ _ _ _ _ _ _ _ _ _ _ _ _ _ _ _ _ _ _ _ _ _ _ _ _ _ _ _ _ _ _ _ _ _ _ _ _ _ _ _ _ _ _ _ _ _ _ _ _ _ _ _ _ _ _ _ _ _ _ _ _ _ _ _ _ _ _ _ _ _ _ _ _ _ _ _ _ _ _ _ _ _ _ _ _ _ _ _ _ _ _ _ _ _ _ ?hq4
        case hq4 =>
          intro w11' v16 v17 v78 v79 v80 v81 v82 v83 v84 v85 v86 v87 v88 v89 v90 v91 v92 v93 v94 v95 v96 v97 v98 v99 v100 v101 v102 v103 v104 v105 v106 v107 v108 v109 w11'0 w11'1 out5 w5 R5
          have FI : Hid (PlanPost w db rt wt (.returned (.tuple #[w11', .int .i64 0])) w5) := Lib.hid ⟨0, out5.map nrm, w11', out5, .inr (.inr ⟨HRT.out, HND.out, rows, HP.out, HR2.out.asc, .inr ⟨fun d hd => by
              obtain ⟨j, hj, rfl⟩ := List.getElem_of_mem hd
              exact HR4.out.ok j hj (by rw [← NS.out]; exact hj), rfl, List.pairwise_map.2 R5.o.asc, fun u => by
              have h4 := HR4.out.mem u
              have h5 := R5.mem u
              rw [List.take_of_length_le (by rw [NS.out]; exact Nat.le_refl _)] at h4
              rw [List.take_of_length_le (by rw [ND.out]; exact Nat.le_refl _)] at h5
              rw [h5, h4]
              refine or_congr ⟨fun ⟨d, h1, h2⟩ => ⟨d, HP.out.mem_iff.1 h1, h2⟩, fun ⟨d, h1, h2⟩ => ⟨d, HP.out.mem_iff.2 h1, h2⟩⟩ ⟨fun ⟨d, h1, h2, h3, h6, h7⟩ => ⟨d, h1, h2, h3, fun e he => h6 e (HP.out.mem_iff.2 he), h7⟩, fun ⟨d, h1, h2, h3, h6, h7⟩ => ⟨d, h1, h2, h3, fun e he => h6 e (HP.out.mem_iff.1 he), h7⟩⟩⟩⟩), rfl, R5.o.row, rfl, B4.out.trans (R5.o.bel.mono B4.out.size)⟩
          clear R5
          refine hK4 _ _ ?_
          clear hK4
          go_wp2_with fail
          exact bodyPost_ret (v := .tuple #[w11', .int .i64 0]) (by simp [results, Tryz.results23, go_sem]) rfl FI.out

end Go.Proofs.YtddageahmgaigaaGreat
