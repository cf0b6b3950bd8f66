import Derived.Test.YtddageahmgaigaaGreatRwx
import Derived.Test.YtddageahmgaigaaGreatRpq
import Derived.Test.YtddageahmgaigaaGreatDnh
namespace Go.Proofs.YtddageahmgaigaaGreat
open Go.RowKit

theorem putB_two (n : Int) : putB 2 n = [n / 256 % 256, n % 256] := by
  simp [putB]
theorem sumD_drop (d : LsaD) : (encD d).drop 2 = (putB 1 d.x.typ ++ putB 1 d.x.len ++ putB 4 d.x.id ++ putB 4 d.x.router ++ putB 4 d.x.seq) ++ (putB 2 d.x.sum ++ (putB 2 ((bodyD d).length : Nat) ++ bodyD d)) := by
  unfold encD hdrB
  simp only [List.append_assoc]
  rw [List.drop_append_of_le_length (by rw [putB_len]; exact Nat.le_refl _), List.drop_eq_nil_of_le (by rw [putB_len]; exact Nat.le_refl _), List.nil_append]
theorem set_two {a r : List Int} {b c : Int} (h : a.length = 14) : ((a ++ ([b, c] ++ r)).set 14 0).set 15 0 = a ++ ([0, 0] ++ r) := by
  rw [List.set_append_right _ _ (by omega), List.set_append_right _ _ (by omega), h]
  rfl
theorem fleN_congr {a b : List Int} (h : (a.set 14 0).set 15 0 = (b.set 14 0).set 15 0) : fleN a = fleN b := by
  simp only [fleN, h]
theorem sumD_set (d : LsaD) : (((encD d).drop 2).set 14 0).set 15 0 = (putB 1 d.x.typ ++ putB 1 d.x.len ++ putB 4 d.x.id ++ putB 4 d.x.router ++ putB 4 d.x.seq) ++ ([0, 0] ++ (putB 2 ((bodyD d).length : Nat) ++ bodyD d)) := by
  rw [sumD_drop, putB_two d.x.sum]
  exact set_two (by simp [putB_len])
theorem sumD_free (x : Lsa) (lk : List Lnk) (att : List Int) (m n : Int) : sumD ⟨{ x with age := m, sum := n }, lk, att⟩ = sumD ⟨x, lk, att⟩ :=
  fleN_congr ((sumD_set _).trans (sumD_set ⟨x, lk, att⟩).symm)
theorem sumD_range (d : LsaD) : 0 ≤ sumD d ∧ sumD d ≤ 65535 := by
  unfold sumD fleN
  simp only
  have h1 := resid_bd
  unfold fleX fleY
  generalize hr : resid _ = a
  have ha := hr ▸ h1 _
  have hb := h1 (-sumS ((((encD d).drop 2).set 14 0).set 15 0) ((((encD d).drop 2).set 14 0).set 15 0).length - a)
  omega

theorem headP_free {t id len r seq age sum age' sum' : Int} (a : withinB age 0 3600 = true) (a' : withinB age' 0 3600 = true) (s : withinB sum 0 65535 = true) (s' : withinB sum' 0 65535 = true) : headP t id len r seq age sum = headP t id len r seq age' sum' := by
  unfold headP
  simp only [a, a', s, s']
theorem lsaIs_free {x : Lsa} {lk : List Lnk} {att : List Int} {m n : Int} (h : LsaIs x lk att 0) (a : 0 ≤ x.age ∧ x.age ≤ 3600) (s : 0 ≤ x.sum ∧ x.sum ≤ 65535) (m0 : 0 ≤ m ∧ m ≤ 3600) (n0 : 0 ≤ n ∧ n ≤ 65535) : LsaIs { x with age := m, sum := n } lk att 0 := by
  have e : headX { x with age := m, sum := n } = headX x := headP_free (withinB_iff.2 m0) (withinB_iff.2 a) (withinB_iff.2 n0) (withinB_iff.2 s)
  unfold LsaIs at h ⊢
  rw [e]
  exact h

def Good (d : LsaD) : Prop := LsaOk d ∧ d.x.sum = sumD d
theorem good_nrm {d : LsaD} (h : Good (nrm d)) : Good d := h

theorem DbIs.ok {db : List LsaD} (h : DbIs db) : DbOk db := fun i hi => ⟨(h i hi).1, (h i hi).2.2⟩
theorem DbIs.good {db : List LsaD} (h : DbIs db) {d : LsaD} (m : d ∈ db) : Good d := by
  obtain ⟨i, hi, rfl⟩ := List.getElem_of_mem m
  have := h i hi
  rw [← dAt_eq hi]
  exact ⟨this.1, this.2.1⟩
theorem DbOk.ascD {db : List LsaD} (h : DbOk db) : AscD db := by
  rw [AscD, List.pairwise_iff_getElem]
  intro i j hi hj hij
  have h2 := h.asc (j - i - 1) i (by omega)
  rw [show i + (j - i - 1) + 1 = j from by omega, dAt_get hi, dAt_get hj] at h2
  exact (kk_lt _ _).1 h2
theorem dbIs_of {db : List LsaD} (h : AscD db) (g : ∀ d ∈ db, Good d) : DbIs db := by
  intro i hi
  have hg := g _ (List.getElem_mem hi)
  refine ⟨by rw [dAt_eq hi]; exact hg.1, by rw [dAt_eq hi]; exact hg.2, fun h0 => ?_⟩
  rw [dAt_eq hi, dAt_eq (show i - 1 < db.length by omega)]
  exact (kk_lt _ _).2 (List.pairwise_iff_getElem.1 h (i - 1) i (by omega) hi (by omega))

theorem AscD.pw {l : List LsaD} (h : AscD l) : l.Pairwise fun a b => keyR a ≠ keyR b := h.imp fun {a b} q e => by
  unfold keyR at e; rw [e] at q; exact kkLt_irr _ q
theorem AscD.ndk {l : List LsaD} (h : AscD l) : (l.map keyR).Nodup := List.pairwise_map.2 h.pw

theorem nd_len {α : Type} [DecidableEq α] : ∀ (a b : List α), a.Nodup → (∀ x ∈ a, x ∈ b) → a.length ≤ b.length
  | [], _, _, _ => Nat.zero_le _
  | x :: a, b, h, s => by
    obtain ⟨h1, h2⟩ := List.nodup_cons.1 h
    have h3 := nd_len a (b.erase x) h2 (fun y hy => (List.mem_erase_of_ne (fun e => h1 (by rw [← e]; exact hy))).2 (s y (List.mem_cons_of_mem _ hy)))
    have h4 := List.length_erase_of_mem (s x (List.mem_cons_self ..))
    have h5 := List.length_pos_of_mem (s x (List.mem_cons_self ..))
    simp only [List.length_cons]; omega

def insA (db xs : List LsaD) : List LsaD := xs.foldl (fun a x => insD x a) db
theorem insA_succ {db xs : List LsaD} {k : Nat} (c : k < xs.length) : insA db (xs.take (k + 1)) = insD xs[k] (insA db (xs.take k)) := by
  unfold insA
  rw [List.take_succ_eq_append_getElem c, List.foldl_append]
  rfl
theorem insA_asc : ∀ (xs db : List LsaD), AscD db → AscD (insA db xs)
  | [], _, h => h
  | _ :: r, _, h => insA_asc r _ (insD_asc h)
theorem insA_sub : ∀ (xs db : List LsaD) (y : LsaD), y ∈ insA db xs → y ∈ xs ∨ y ∈ db
  | [], _, _, h => .inr h
  | x :: r, db, y, h => by
    rcases insA_sub r (insD x db) y h with h | h
    · exact .inl (List.mem_cons_of_mem _ h)
    · rcases insD_mem.1 h with rfl | ⟨h, _⟩
      · exact .inl (List.mem_cons_self ..)
      · exact .inr h
theorem insA_mem : ∀ (xs db : List LsaD), (xs.Pairwise fun a b => keyR a ≠ keyR b) → ∀ y, y ∈ insA db xs ↔ y ∈ xs ∨ (y ∈ db ∧ ∀ x ∈ xs, keyR y ≠ keyR x)
  | [], db, _, y => by simp [insA]
  | x :: r, db, h, y => by
    obtain ⟨h1, h2⟩ := List.pairwise_cons.1 h
    show y ∈ insA (insD x db) r ↔ _
    rw [insA_mem r (insD x db) h2 y, insD_mem]
    constructor
    · rintro (a | ⟨rfl | ⟨a, b⟩, c⟩)
      · exact .inl (List.mem_cons_of_mem _ a)
      · exact .inl (List.mem_cons_self ..)
      · refine .inr ⟨a, fun z hz => ?_⟩
        rcases List.mem_cons.1 hz with rfl | hz
        · exact b
        · exact c z hz
    · rintro (a | ⟨a, b⟩)
      · rcases List.mem_cons.1 a with rfl | a
        · exact .inr ⟨.inl rfl, fun z hz => h1 z hz⟩
        · exact .inl a
      · exact .inr ⟨.inr ⟨a, b x (List.mem_cons_self ..)⟩, fun z hz => b z (List.mem_cons_of_mem _ hz)⟩

theorem nx_same (w : World) {db : List LsaD} (D : DbOk db) {d d' : LsaD} (m : d' ∈ db) (k : lkOf d'.x = lkOf d.x) (sb : SameB d'.x d.x d'.lk d.lk d'.att d.att) (ag : d'.x.age < 1800) : (nx db d).ok = false ∧ (nx db d).c = 0 := by
  obtain ⟨fd, hf, hp⟩ := nx_post db d
  rcases hf with ⟨-, no⟩ | ⟨d2, m2, rfl, k2⟩
  · exact absurd k (no d' m)
  · have e := D.one m2 m (k2.trans k.symm)
    subst e
    obtain ⟨la, lc, aa, ac, he, -⟩ := hp w _ w (.inl ⟨⟨d2, rfl, sb, ag⟩, rfl, Below.refl _ _⟩)
    have h2 := he
    simp only [Ending.returned.injEq, Value.tuple.injEq, Array.mk.injEq, List.cons.injEq, Value.bool.injEq, Value.int.injEq, and_true, true_and] at h2
    exact ⟨h2.2.1.symm, h2.2.2.symm⟩

end Go.Proofs.YtddageahmgaigaaGreat

namespace Go.Proofs.YtddageahmgaigaaGreat
open Go.RowKit

theorem plan0 {db wt l : List LsaD} {rt : Int} (h : PlanIs db rt wt 0 l) : (∀ d ∈ wt, d.x.router = rt) ∧ (wt.map fun d => lkOf d.x).Nodup ∧ ∃ s : List LsaD, s.Perm wt ∧ AscD s ∧ (∀ d ∈ s, (nx db d).c = 0) ∧ AscD l ∧ ∀ y, y ∈ l ↔ PlanEl db rt wt y := by
  rcases h with ⟨-, h, -⟩ | ⟨-, -, h, -⟩ | ⟨a, b, s, p, q, ⟨i, hi, -, h1, h2, -⟩ | ⟨c, -, e, f⟩⟩
  · exact absurd h (by decide)
  · exact absurd h (by decide)
  · exact absurd rfl h2
  · exact ⟨a, b, s, p, q, c, e, f⟩

theorem inj_nd {l : List LsaD} (h : (l.map fun d => lkOf d.x).Nodup) {a b : LsaD} (ha : a ∈ l) (hb : b ∈ l) (e : lkOf a.x = lkOf b.x) : a = b := by
  obtain ⟨i, hi, rfl⟩ := List.getElem_of_mem ha
  obtain ⟨j, hj, rfl⟩ := List.getElem_of_mem hb
  have p := List.pairwise_iff_getElem.1 (List.pairwise_map.1 h)
  rcases Nat.lt_trichotomy i j with c | c | c
  · exact absurd e (p i j hi hj c)
  · subst c; rfl
  · exact absurd e.symm (p j i hj hi c)

structure Dn (db wt xs : List LsaD) (rt : Int) : Prop where
  ok : DbIs db
  pl : PlanIs db rt wt 0 (xs.map nrm)

theorem Dn.el {db wt xs : List LsaD} {rt : Int} (H : Dn db wt xs rt) {x : LsaD} (m : x ∈ xs) : PlanEl db rt wt (nrm x) := by
  obtain ⟨-, -, s, -, -, -, -, f⟩ := plan0 H.pl
  exact (f _).1 (List.mem_map_of_mem m)
theorem Dn.of {db wt xs : List LsaD} {rt : Int} (H : Dn db wt xs rt) {y : LsaD} (h : PlanEl db rt wt y) : ∃ x ∈ xs, nrm x = y := by
  obtain ⟨-, -, s, -, -, -, -, f⟩ := plan0 H.pl
  exact List.mem_map.1 ((f _).2 h)
theorem Dn.asc {db wt xs : List LsaD} {rt : Int} (H : Dn db wt xs rt) : AscD xs := by
  obtain ⟨-, -, s, -, -, -, e, -⟩ := plan0 H.pl
  exact (List.pairwise_map (f := nrm) (R := fun a b : LsaD => kkLt (lkOf a.x) (lkOf b.x))).1 e
theorem Dn.key {db wt xs : List LsaD} {rt : Int} (H : Dn db wt xs rt) {x : LsaD} (m : x ∈ xs) : (∃ d ∈ wt, (nx db d).ok = true ∧ nrm x = nrm (nx db d).y ∧ lkOf x.x = lkOf d.x) ∨ (∃ d ∈ db, d.x.router = rt ∧ d.x.age < 3600 ∧ (∀ e ∈ wt, lkOf e.x ≠ lkOf d.x) ∧ nrm x = nrm (flD d) ∧ lkOf x.x = lkOf d.x) := by
  rcases H.el m with ⟨d, h1, h2, h3⟩ | ⟨d, h1, h2, h3, h4, h5⟩
  · refine .inl ⟨d, h1, h2, h3, ?_⟩
    have h4 : lkOf x.x = lkOf (nx db d).y.x := nrm_f (fun z : LsaD => lkOf z.x) (fun _ => rfl) h3
    exact h4.trans (nx_key h2)
  · exact .inr ⟨d, h1, h2, h3, h4, h5, (nrm_f (fun z : LsaD => lkOf z.x) (fun _ => rfl) h5 : lkOf x.x = lkOf (flD d).x)⟩

theorem Dn.good {db wt xs : List LsaD} {rt : Int} (H : Dn db wt xs rt) {x : LsaD} (m : x ∈ xs) : Good x := by
  refine good_nrm ?_
  rcases H.el m with ⟨d, h1, h2, h3⟩ | ⟨d, h1, h2, h3, h4, h5⟩
  · rw [h3]
    rcases nx_is db d with ⟨e, -⟩ | ⟨e, -⟩ | ⟨-, -, s, e, z, -⟩
    · rw [h2] at e; cases e
    · rw [h2] at e; cases e
    · obtain ⟨S, hS⟩ : ∃ S, sumD ⟨{ d.x with seq := s, age := 0, sum := 0 }, d.lk, d.att⟩ = S := ⟨_, rfl⟩
      have r := sumD_range ⟨{ d.x with seq := s, age := 0, sum := 0 }, d.lk, d.att⟩
      rw [hS] at e r
      rw [e]
      have t : (0 : Int) ≤ 0 ∧ (0 : Int) ≤ 3600 := ⟨by decide, by decide⟩
      have u : (0 : Int) ≤ 0 ∧ (0 : Int) ≤ 65535 := ⟨by decide, by decide⟩
      have q1 : LsaIs { d.x with seq := s, age := 0, sum := S } d.lk d.att 0 := lsaIs_free z t u t r
      have q2 : S = sumD ⟨{ d.x with seq := s, age := 0, sum := S }, d.lk, d.att⟩ := hS.symm.trans (sumD_free { d.x with seq := s, age := 0, sum := 0 } d.lk d.att 0 S).symm
      exact ⟨q1, q2⟩
  · rw [h5]
    have g := H.ok.good h1
    have o := g.1.ok
    have t : (0 : Int) ≤ 3600 ∧ (3600 : Int) ≤ 3600 := ⟨by decide, by decide⟩
    have q1 : LsaIs { d.x with age := 3600, sum := d.x.sum } d.lk d.att 0 := lsaIs_free g.1 ⟨o.a0, o.a1⟩ ⟨o.u0, o.u1⟩ t ⟨o.u0, o.u1⟩
    have q2 : d.x.sum = sumD ⟨{ d.x with age := 3600, sum := d.x.sum }, d.lk, d.att⟩ := g.2.trans (sumD_free d.x d.lk d.att 3600 d.x.sum).symm
    exact ⟨q1, q2⟩

theorem Dn.rows {db wt xs : List LsaD} {rt : Int} (H : Dn db wt xs rt) : DbIs (insA db xs) := dbIs_of (insA_asc _ _ H.ok.ok.ascD) (fun d hd => by
  rcases insA_sub _ _ _ hd with h | h
  · exact H.good h
  · exact H.ok.good h)

theorem Dn.len {db wt xs : List LsaD} {rt : Int} (H : Dn db wt xs rt) (k : Nat) : (insA db (xs.take k)).length ≤ db.length + wt.length := by
  have a := insA_asc (xs.take k) db H.ok.ok.ascD
  have := nd_len ((insA db (xs.take k)).map keyR) (db.map keyR ++ wt.map keyR) a.ndk (fun q hq => by
    obtain ⟨y, hy, rfl⟩ := List.mem_map.1 hq
    rcases insA_sub _ _ _ hy with h | h
    · rcases H.key (List.mem_of_mem_take h) with ⟨d, h1, -, -, h4⟩ | ⟨d, h1, -, -, -, -, h4⟩
      · exact List.mem_append_right _ (List.mem_map.2 ⟨d, h1, h4.symm⟩)
      · exact List.mem_append_left _ (List.mem_map.2 ⟨d, h1, h4.symm⟩)
    · exact List.mem_append_left _ (List.mem_map_of_mem h))
  simpa only [List.length_map, List.length_append] using this
theorem Dn.xlen {db wt xs : List LsaD} {rt : Int} (H : Dn db wt xs rt) : xs.length ≤ db.length + wt.length := by
  have := nd_len (xs.map keyR) (db.map keyR ++ wt.map keyR) H.asc.ndk (fun q hq => by
    obtain ⟨y, hy, rfl⟩ := List.mem_map.1 hq
    rcases H.key hy with ⟨d, h1, -, -, h4⟩ | ⟨d, h1, -, -, -, -, h4⟩
    · exact List.mem_append_right _ (List.mem_map.2 ⟨d, h1, h4.symm⟩)
    · exact List.mem_append_left _ (List.mem_map.2 ⟨d, h1, h4.symm⟩))
  simpa only [List.length_map, List.length_append] using this

theorem Dn.has {db wt xs : List LsaD} {rt : Int} (H : Dn db wt xs rt) {d : LsaD} (hd : d ∈ wt) : ∃ d' ∈ insA db xs, lkOf d'.x = lkOf d.x ∧ SameB d'.x d.x d'.lk d.lk d'.att d.att ∧ d'.x.age < 1800 := by
  obtain ⟨-, hn, s, hp, -, hc, -, -⟩ := plan0 H.pl
  have h0 := hc d (hp.mem_iff.2 hd)
  rcases nx_is db d with ⟨e, -, d', m, k, sb, ag⟩ | ⟨-, e⟩ | ⟨e, -, s', ey, -, -⟩
  · refine ⟨d', (insA_mem xs db H.asc.pw d').2 (.inr ⟨m, fun x hx q => ?_⟩), k, sb, ag⟩
    have q' : lkOf d'.x = lkOf x.x := q
    rcases H.key hx with ⟨f, h1, h2, -, h4⟩ | ⟨f, h1, -, -, h3, -, h4⟩
    · have hf : f = d := inj_nd hn h1 hd (h4.symm.trans (q'.symm.trans k))
      subst hf
      rw [e] at h2; cases h2
    · exact h3 d hd (k.symm.trans (q'.trans h4))
  · exact absurd h0 e
  · obtain ⟨x, hx, hn⟩ := H.of (.inl ⟨d, hd, e, rfl⟩)
    rw [ey] at hn
    obtain ⟨e1, e2, e3⟩ := nrm_atL hn.symm
    refine ⟨x, (insA_mem xs db H.asc.pw x).2 (.inl hx), ?_, ?_, ?_⟩
    · rw [e1]; rfl
    · rw [e2, e3, e1]; exact ⟨rfl, rfl, rfl, rfl, rfl, rfl, rfl, rfl, rfl⟩
    · rw [e1]; exact (by decide : (0 : Int) < 1800)

theorem Dn.no {db wt xs : List LsaD} {rt : Int} (H : Dn db wt xs rt) {d : LsaD} (hd : d ∈ insA db xs) (r : d.x.router = rt) (a : d.x.age < 3600) : ∃ e ∈ wt, lkOf e.x = lkOf d.x := by
  rcases (insA_mem xs db H.asc.pw d).1 hd with h | ⟨h, n⟩
  · rcases H.key h with ⟨f, h1, -, -, h4⟩ | ⟨f, h1, -, -, -, h5, -⟩
    · exact ⟨f, h1, h4.symm⟩
    · have h6 : d.x.age = 3600 := nrm_f (fun z : LsaD => z.x.age) (fun _ => rfl) h5
      omega
  · by_cases c : ∃ e ∈ wt, lkOf e.x = lkOf d.x
    · exact c
    · obtain ⟨x, hx, e⟩ := H.of (.inr ⟨d, h, r, a, fun e he k => c ⟨e, he, k⟩, rfl⟩)
      have h6 : lkOf x.x = lkOf (flD d).x := nrm_f (fun z : LsaD => lkOf z.x) (fun _ => rfl) e
      exact absurd h6.symm (n x hx)

theorem Dn.again {db wt xs : List LsaD} {rt : Int} (H : Dn db wt xs rt) (w : World) : PlanIs (insA db xs) rt wt 0 [] := by
  obtain ⟨hr, hn, s, hp, ha, -, -, -⟩ := plan0 H.pl
  have nxs : ∀ d ∈ wt, (nx (insA db xs) d).ok = false ∧ (nx (insA db xs) d).c = 0 := fun d hd => by
    obtain ⟨d', m, k, sb, ag⟩ := H.has hd
    exact nx_same w H.rows.ok m k sb ag
  refine .inr (.inr ⟨hr, hn, s, hp, ha, .inr ⟨fun d hd => (nxs d (hp.mem_iff.1 hd)).2, rfl, List.Pairwise.nil, fun y => ⟨fun h => (by cases h), ?_⟩⟩⟩)
  rintro (⟨d, hd, h, -⟩ | ⟨d, hd, r, a, no, -⟩)
  · rw [(nxs d hd).1] at h; cases h
  · obtain ⟨e, he, k⟩ := H.no hd r a
    exact absurd k (no e he)

def liveD (rt : Int) (d : LsaD) : Bool := decide (d.x.router = rt) && decide (d.x.age < 3600)
theorem liveD_iff {rt : Int} {d : LsaD} : liveD rt d = true ↔ d.x.router = rt ∧ d.x.age < 3600 := by simp [liveD]
theorem Dn.count {db wt xs : List LsaD} {rt : Int} (H : Dn db wt xs rt) : ((insA db xs).filter (liveD rt)).length = wt.length := by
  obtain ⟨hr, hn, -⟩ := plan0 H.pl
  have a : AscD ((insA db xs).filter (liveD rt)) := (insA_asc xs db H.ok.ok.ascD).filter _
  have h1 := nd_len (((insA db xs).filter (liveD rt)).map keyR) (wt.map fun d => lkOf d.x) a.ndk (fun q hq => by
    obtain ⟨y, hy, rfl⟩ := List.mem_map.1 hq
    obtain ⟨h3, h4⟩ := List.mem_filter.1 hy
    obtain ⟨r, ag⟩ := liveD_iff.1 h4
    obtain ⟨e, he, k⟩ := H.no h3 r ag
    exact List.mem_map.2 ⟨e, he, k⟩)
  have h2 := nd_len (wt.map fun d => lkOf d.x) (((insA db xs).filter (liveD rt)).map keyR) hn (fun q hq => by
    obtain ⟨d, hd, rfl⟩ := List.mem_map.1 hq
    obtain ⟨d', m, k, sb, ag⟩ := H.has hd
    have k2 : d'.x.router = d.x.router := congrArg Kk.router k
    exact List.mem_map.2 ⟨d', List.mem_filter.2 ⟨m, liveD_iff.2 ⟨k2.trans (hr d hd), by omega⟩⟩, k⟩)
  simp only [List.length_map] at h1 h2
  exact Nat.le_antisymm h1 h2

theorem Dn.deep {db wt xs : List LsaD} {rt : Int} (H : Dn db wt xs rt) {w : World} {v v2 v3 : Value} (D : DbAt w v db) (W : DbAt w v2 wt) (X : DRow w v3 xs) : ∀ d ∈ insA db xs, DIn w d := by
  intro d hd
  rcases insA_sub _ _ _ hd with h | h
  · obtain ⟨l, a⟩ := X.deep d h
    rcases H.el h with ⟨f, h1, h2, h3⟩ | ⟨f, h1, h2, h3, h4, h5⟩
    · have o := W.2 f h1
      rcases nx_is db f with ⟨e, -⟩ | ⟨e, -⟩ | ⟨-, -, s, e, z, -⟩
      · rw [h2] at e; cases e
      · rw [h2] at e; cases e
      · rw [e] at h3
        obtain ⟨e1, e2, e3⟩ := nrm_atL h3.symm
        refine ⟨?_, l, by rw [e2]; exact o.lr, a, by rw [e3]; exact o.ar⟩
        rw [e1]
        exact ⟨o.ok.id0, o.ok.id1, o.ok.r0, o.ok.r1, o.ok.f0, o.ok.f1⟩
    · have o := D.2 f h1
      obtain ⟨e1, e2, e3⟩ := nrm_atL h5.symm
      refine ⟨?_, l, by rw [e2]; exact o.lr, a, by rw [e3]; exact o.ar⟩
      rw [e1]
      exact ⟨o.ok.id0, o.ok.id1, o.ok.r0, o.ok.r1, o.ok.f0, o.ok.f1⟩
  · exact D.2 d h
theorem Dn.lens {db wt xs : List LsaD} {rt : Int} (H : Dn db wt xs rt) (hl : ∀ d ∈ db, d.lk.length ≤ 1048576 ∧ d.att.length ≤ 1048576) (wl : ∀ d ∈ wt, d.lk.length ≤ 1048576 ∧ d.att.length ≤ 1048576) : ∀ d ∈ insA db xs, d.lk.length ≤ 1048576 ∧ d.att.length ≤ 1048576 := by
  intro d hd
  rcases insA_sub _ _ _ hd with h | h
  · rcases H.el h with ⟨f, h1, h2, h3⟩ | ⟨f, h1, h2, h3, h4, h5⟩
    · rcases nx_is db f with ⟨e, -⟩ | ⟨e, -⟩ | ⟨-, -, s, e, z, -⟩
      · rw [h2] at e; cases e
      · rw [h2] at e; cases e
      · rw [e] at h3
        obtain ⟨-, e2, e3⟩ := nrm_atL h3.symm
        rw [e2, e3]
        exact wl f h1
    · obtain ⟨-, e2, e3⟩ := nrm_atL h5.symm
      rw [e2, e3]
      exact hl f h1
  · exact hl d h

end Go.Proofs.YtddageahmgaigaaGreat
