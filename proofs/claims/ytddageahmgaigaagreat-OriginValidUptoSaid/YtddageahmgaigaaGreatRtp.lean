import Derived.Test.YtddageahmgaigaaGreatSrw
import Derived.Test.YtddageahmgaigaaGreatRou
import Derived.Test.YtddageahmgaigaaGreatLks
import Derived.Test.YtddageahmgaigaaGreatIfs
import Derived.Test.YtddageahmgaigaaGreatPlk
import Derived.Test.YtddageahmgaigaaGreatLcs
import Derived.Deep.DeepCutAuto
namespace Go.Proofs.YtddageahmgaigaaGreat
open Go.RowKit

set_option maxHeartbeats 4000000 in
theorem lorder_calls (x y : Lnk) (w : World) : Calls Tryz.prog 41 #[.agg (lnkE x).toArray, .agg (lnkE y).toArray] w fun e w' => e = .returned (.int .i64 (lnkCmp x y)) ∧ Gr w w' := by
  obtain ⟨a1, a2, a3, a4⟩ := x
  obtain ⟨b1, b2, b3, b4⟩ := y
  unfold lnkE lnkCmp
  generalize hx1 : cmpI a1 b1 = x1
  generalize hx2 : cmpI a2 b2 = x2
  generalize hx3 : cmpI a3 b3 = x3
  have X1 := Lib.hid hx1
  have X2 := Lib.hid hx2
  have X3 := Lib.hid hx3
  clear hx1 hx2 hx3
  go_enter Tryz.func41, Tryz.ntmps41
  go_wp2_with fail
  go_region_held3 (fun W' => W'.cell? ⟨w.heap.size, 0, none⟩ = some (.int .i64 a1) ∧ W'.cell? ⟨w.heap.size, 1, none⟩ = some (.int .u32 a2) ∧ W'.cell? ⟨w.heap.size, 2, none⟩ = some (.int .u32 a3) ∧ W'.cell? ⟨w.heap.size + 1, 0, none⟩ = some (.int .i64 b1) ∧ W'.cell? ⟨w.heap.size + 1, 1, none⟩ = some (.int .u32 b2) ∧ W'.cell? ⟨w.heap.size + 1, 2, none⟩ = some (.int .u32 b3)) (go_keep)
    (first
    | (go_at_call 43; refine (cmp_int _ _ _).mono ?_; rintro e w' ⟨rfl, rfl⟩; rw [X1.out])
    | (go_at_call 44; refine (cmp_u32 _ _ _).mono ?_; rintro e w' ⟨rfl, rfl⟩; first | rw [X2.out] | rw [X3.out])
    | (go_at_call 42; refine (or_int [x1, x2, x3] _ _ _ (by simp) ?_).mono ?_; (exact fun _ => ⟨_, 0, rfl, fun i hi => by match i, hi with | 0, _ => exact new_cell (by simp) rfl | 1, _ => exact new_cell (by simp) rfl | 2, _ => exact new_cell (by simp) rfl⟩); rintro e w' ⟨rfl, rfl⟩))
  go_wp2_with fail
  go_ret
  exact ⟨rfl, by repeat (first | exact Gr.refl _ | refine Gr.drew ?_ | refine Gr.alloc ?_ _ | refine Gr.drewN ?_ _)⟩

theorem lnkC_true (a b : Lnk) : ltOf lnkCmp a b = true ↔ plLt (plOf a) (plOf b) := by
  show decide (lnkCmp a b < 0) = true ↔ _
  rw [decide_eq_true_iff]; exact lnk_neg a b
theorem lnkC_false (a b : Lnk) : ltOf lnkCmp a b = false ↔ ¬ plLt (plOf a) (plOf b) := by
  rw [← lnkC_true]; cases ltOf lnkCmp a b <;> simp
theorem lnkSWO : Go.Sort.SWO (ltOf lnkCmp) := by
  refine ⟨fun a => ?_, fun a b c => ?_, fun x y z => ?_⟩
  · rw [lnkC_false]; unfold plLt; omega
  · rw [lnkC_true, lnkC_true, lnkC_true]; unfold plLt; omega
  · rw [lnkC_false, lnkC_false, lnkC_false]; unfold plLt; omega

theorem cmpLaysLnk (blk off size : Nat) (w : World) : CmpLays Tryz.prog 41 #[] lnkE 4 lnkCmp blk off size w :=
  fun _ _ _ _ x y => (lorder_calls x y _).mono fun _ _ ⟨he, hg⟩ => ⟨he, hg.grow⟩

theorem lnkE_one (x : Lnk) : ∀ v ∈ lnkE x, v.oneCell' = true := by
  intro v hv
  simp only [lnkE, List.mem_cons, List.not_mem_nil, or_false] at hv
  rcases hv with rfl | rfl | rfl | rfl <;> rfl

def SortLnkPost (base : Nat) (w : World) (v : Value) (l : List Lnk) (e : Ending) (w' : World) : Prop :=
  e = .returned (.tuple #[]) ∧ ∃ l', l'.Perm l ∧ (l'.Pairwise fun a b => ¬ plLt (plOf b) (plOf a)) ∧ LnksOwn base w' v l' ∧ Below base w w' ∧ w.grownBy w' v.ownBlock

theorem sort_lnks (base : Nat) (w : World) (v : Value) (l : List Lnk) (h : LnksOwn base w v l) (hl : l.length < 4611686018427387904) :
    Calls Tryz.prog 40 #[v, .func (.func 41) #[] #[]] w (SortLnkPost base w v l) := by
  rcases own_cases h with ⟨rfl, h0⟩ | ⟨g, cap, cur, rfl, hb, hlt, _⟩
  · refine (sort_none_lnk none 0 (.func (.func 41) #[] #[]) w).mono ?_
    rintro e w' ⟨rfl, rfl⟩
    have : l = [] := List.length_eq_zero_iff.1 h0
    subst this
    exact ⟨rfl, [], List.Perm.refl _, List.Pairwise.nil, h, Below.refl _ _, rfl, rfl, rfl, Nat.le_refl _, fun _ _ _ => rfl⟩
  · have eg : ∀ args w, (callFunc 41 args).run Tryz.prog w = .ok (.enter 41 args) w := enters_of Tryz.func41 (by kernel_rfl) rfl
    have hcon := AnyQ.slices_SortFunc Tryz.sortLnk 4 Tryz.isAgg82 Tryz.sizeOf82 lnkE (fun _ => rfl) (fun x v hv => lnkE_one x v hv) lnkCmp lnkSWO 41 #[] g 0 cap l.toArray w eg (cmpLaysLnk g 0 _ w) (own_holds (enc := lnkE) (k := 4) (fun _ => rfl) h) hlt (by simpa using hl)
    change Calls Tryz.prog 40 _ _ _ at hcon
    rw [List.size_toArray] at hcon
    refine hcon.mono ?_
    rintro e w' ⟨rfl, d', n, os, hp, hs, rfl⟩
    obtain ⟨e1, e2, e3⟩ := sorted_list (l := l) (by simpa using hp) (by simpa using hs)
    obtain ⟨o1, o2⟩ := own_sorted (enc := lnkE) (k := 4) (fun _ => rfl) h (m := n) (d' := d') (os := os) e1
    refine ⟨rfl, d'.toList, e2, ?_, ?_, ?_, o2⟩
    · refine e3.imp fun {a b} h => ?_
      rwa [lnkC_false] at h
    · have e4 : d'.toList.length = l.length := by simpa using e1
      unfold LnksOwn
      rw [e4]; exact o1
    · refine ⟨o2.os, o2.tape, o2.output, o2.size, fun i hi => o2.block i (by omega) (fun e => by cases e; omega)⟩

theorem lnks_asc {L L' : List Lnk} (P : L'.Perm L) (nd : (L.map plOf).Nodup) (U : L'.Pairwise fun a b => ¬ plLt (plOf b) (plOf a)) : L'.Pairwise fun a b => plLt (plOf a) (plOf b) := by
  have nd' : (L'.map plOf).Nodup := (P.map plOf).nodup_iff.2 nd
  refine ((List.pairwise_map.1 nd').and U).imp fun {a b} ⟨h1, h2⟩ => ?_
  rcases lnk_cases a b with ⟨h, _⟩ | ⟨h, _⟩ | ⟨h, _⟩
  · exact h
  · exact absurd h h2
  · exact absurd h h1

end Go.Proofs.YtddageahmgaigaaGreat

namespace Go.Proofs.YtddageahmgaigaaGreat
open Go.RowKit

def bbK (l : List IfD) (k : Nat) : Bool := (l.take k).any fun d => d.x.up && decide (d.x.area = 0)
def otK (l : List IfD) (k : Nat) : Bool := (l.take k).any fun d => d.x.up && !decide (d.x.area = 0)
def bordP (l : List IfD) : Bool := bbK l l.length && otK l l.length

theorem bbK_succ {l : List IfD} {k : Nat} (c : k < l.length) : bbK l (k + 1) = (bbK l k || (l[k].x.up && decide (l[k].x.area = 0))) := by
  unfold bbK
  rw [List.take_succ_eq_append_getElem c, List.any_append]
  simp
theorem otK_succ {l : List IfD} {k : Nat} (c : k < l.length) : otK l (k + 1) = (otK l k || (l[k].x.up && !decide (l[k].x.area = 0))) := by
  unfold otK
  rw [List.take_succ_eq_append_getElem c, List.any_append]
  simp

set_option maxHeartbeats 8000000 in
set_option maxRecDepth 100000 in
theorem connects_calls (w : World) (v : Value) (l : List IfD) (h : IfsAt w v l) : Calls Tryz.prog 38 #[v] w (fun e w' => e = .returned (.bool (bordP l)) ∧ Below w.heap.size w w') := by
  obtain ⟨a1, c1, rfl, hlen, hc1⟩ := h.get
  have HC1 := Lib.hid hc1
  clear h hc1
  go_enter Tryz.func38, Tryz.ntmps38
  go_wp2_with fail
  go_loopw [9, 3, 4] (fun ix b o wr => ∃ k : Nat, ix = .int .i64 k ∧ k ≤ l.length ∧ b = .bool (bbK l k) ∧ o = .bool (otK l k) ∧ Hid (Below w.heap.size w wr)) (fun ix _ _ _ => l.length - (intOf ix).toNat)
  case atStart => exact ⟨0, rfl, Nat.zero_le _, rfl, rfl, Lib.hid (Below.refl _ _)⟩
  case round =>
    obtain ⟨k, rfl, hk, rfl, rfl, R⟩ := hrel
    by_cases c : k < l.length
    · obtain ⟨b1, o1, rfl, hb1, hcc1⟩ := HC1.out (by omega)
      obtain ⟨WO, eWO⟩ : ∃ x, x = wr := ⟨_, rfl⟩
      subst eWO
      obtain ⟨⟨d0, d1, d2, d3, d4⟩, ⟨d5, d6, d7, d8, d9⟩, ⟨d10, d11, d12, d13, d14⟩⟩ := (hcc1 k c).below R.out hb1
      have S1 := Lib.hid (bbK_succ c)
      have S2 := Lib.hid (otK_succ c)
      have KC := Lib.hid c
      have i0 : (0 : Int) ≤ (k : Int) := by omega
      have i1 : (k : Int) < (l.length : Int) := by omega
      have s3 : ((k : Int)).toNat = k := by omega
      clear hcc1
      generalize bbK l k = bb at *
      generalize otK l k = oo at *
      generalize l[k] = n at *
      clear c
      obtain ⟨⟨kind, pa, pl, ad, area, cost, prio, hel, dead, up, dr, bdr, el, nh, na, nn, nc⟩, nb⟩ := n
      simp only at d0 d1 d2 d3 d4 d5 d6 d7 d8 d9 d10 d11 d12 d13 d14 S1 S2
      go_upto_region 5 with fail
      generalize hW1 : WO.alloc _ = W1
      have B1 : Below w.heap.size w W1 := by rw [← hW1]; exact R.out.alloc R.out.size _
      have b1 : W1.heap[WO.heap.size]? = some (.cells #[.int .i64 kind, .int .u32 pa, .int .i64 pl, .int .u32 ad, .int .u32 area, .int .i64 cost, .int .i64 prio, .int .i64 hel, .int .i64 dead, .bool up, .int .u32 dr, .int .u32 bdr, .int .i64 el, .int .i64 nh, .slice na nn nc] 69 (0, 0)) := by rw [← hW1]; exact alloc_new _ _
      have x4 : W1.cell? ⟨WO.heap.size, 4, none⟩ = some (.int .u32 area) := blk_cell b1 rfl
      have x9 : W1.cell? ⟨WO.heap.size, 9, none⟩ = some (.bool up) := blk_cell b1 rfl
      have HB1 := Lib.hid B1
      clear hW1 B1 b1 d0 d1 d2 d3 d4 d5 d6 d7 d8 d9 d10 d11 d12 d13 d14 R
      by_cases q : area = 0
      · subst q
        cases bb <;> cases oo <;> cases up <;>
        · go_wp2_with fail
          go_roundw
          case rel => exact ⟨k + 1, by go_num, KC.out, by rw [S1.out]; rfl, by rw [S2.out]; rfl, HB1⟩
          case measure => simp [intOf]; have := KC.out; omega
      · have q' : (area == 0) = false := by simpa using q
        cases bb <;> cases oo <;> cases up <;>
        · go_wp2_with fail
          go_roundw
          case rel => exact ⟨k + 1, by go_num, KC.out, by rw [S1.out]; simp [q], by rw [S2.out]; simp [q], HB1⟩
          case measure => simp [intOf]; have := KC.out; omega
    · obtain rfl : k = l.length := by omega
      have E : ∀ b o, bbK l l.length = b → otK l l.length = o → bordP l = (b && o) := by intro b o h1 h2; unfold bordP; rw [h1, h2]
      have HE := Lib.hid E
      clear E
      cases hb : bbK l l.length <;> cases ho : otK l l.length <;>
      · have F := Lib.hid (HE.out _ _ hb ho)
        clear HE hb ho
        go_wp2_with fail
        go_ret
        exact ⟨by rw [F.out]; rfl, R.out⟩

end Go.Proofs.YtddageahmgaigaaGreat

namespace Go.Proofs.YtddageahmgaigaaGreat
open Go.RowKit

structure Stt where
  rt : Int
  ci : Sl
  cr : Sl
  now : Int
  ia : Option Addr
  iN : Nat
  ic : Nat
  ar : Sl
  ex : Sl
  an : Sl
def sttE (s : Stt) : List Value := [.int .u32 s.rt, .slice s.ci.a s.ci.n s.ci.c, .slice s.cr.a s.cr.n s.cr.c, .int .i64 s.now, .slice s.ia s.iN s.ic, .slice s.ar.a s.ar.n s.ar.c, .slice s.ex.a s.ex.n s.ex.c, .slice s.an.a s.an.n s.an.c]

def addrOf (nb : List Nb) (r : Int) : Int := ((nb.find? fun n => decide (n.r = r)).map Nb.a).getD 0
def desigP (rt : Int) (d : IfD) : Option Int :=
  if d.x.dr = rt then (if fulls d.nb = [] then none else some d.x.ad)
  else if d.x.dr ∈ fulls d.nb then some (addrOf d.nb d.x.dr) else none
def lksOf (rt : Int) (d : IfD) : List Lnk :=
  if d.x.kind = 3 then [stubL d.x]
  else if d.x.kind = 1 then stubL d.x :: (fulls d.nb).map (pointL d.x)
  else if d.x.kind = 2 then (match desigP rt d with | some a => [⟨2, a, d.x.ad, d.x.cost⟩] | none => [stubL d.x])
  else []
def selI (area : Int) (d : IfD) : Bool := d.x.up && decide (d.x.area = area)
def linksK (rt area : Int) (l : List IfD) (k : Nat) : List Lnk := ((l.take k).filter (selI area)).flatMap (lksOf rt)
theorem linksK_skip {rt area : Int} {l : List IfD} {k : Nat} (c : k < l.length) (h : selI area l[k] = false) : linksK rt area l (k + 1) = linksK rt area l k := by
  unfold linksK
  rw [List.take_succ_eq_append_getElem c, List.filter_append, List.filter_cons_of_neg (by simp [h]), List.filter_nil, List.append_nil]
theorem linksK_take {rt area : Int} {l : List IfD} {k : Nat} (c : k < l.length) (h : selI area l[k] = true) : linksK rt area l (k + 1) = linksK rt area l k ++ lksOf rt l[k] := by
  unfold linksK
  rw [List.take_succ_eq_append_getElem c, List.filter_append, List.filter_cons_of_pos h, List.filter_nil, List.flatMap_append]
  simp
theorem linksK_len {rt area : Int} {l : List IfD} {k : Nat} (c : k < l.length) (h : selI area l[k] = true) : (linksK rt area l k).length + (lksOf rt l[k]).length ≤ (linksK rt area l l.length).length := by
  have h1 : ∀ m, k + 1 + m ≤ l.length → (linksK rt area l (k + 1)).length ≤ (linksK rt area l (k + 1 + m)).length := by
    intro m
    induction m with
    | zero => intro _; exact Nat.le_refl _
    | succ m ih =>
      intro hm
      refine Nat.le_trans (ih (by omega)) ?_
      have c2 : k + 1 + m < l.length := by omega
      rw [show k + 1 + (m + 1) = k + 1 + m + 1 from rfl]
      cases e : selI area l[k + 1 + m] with
      | false => rw [linksK_skip c2 e]; exact Nat.le_refl _
      | true => rw [linksK_take c2 e, List.length_append]; omega
  have h2 := h1 (l.length - (k + 1)) (by omega)
  rw [show k + 1 + (l.length - (k + 1)) = l.length from by omega, linksK_take c h, List.length_append] at h2
  exact h2

def rtL (rt : Int) (bo ba : Bool) : Lsa := ⟨1, rt, 0, rt, 0, 0, 0, bo, ba, none, 0, 0, none, 0, 0, 0, false, 0, 0⟩
def lsaLk (x : Lsa) (a : Option Addr) (n c : Nat) : Lsa := { x with la := a, ln := n, lc := c }
def RtPost (w : World) (rt : Int) (bo ba : Bool) (L : List Lnk) (e : Ending) (w' : World) : Prop :=
  ∃ a c lk, e = .returned (.agg (lsaE (lsaLk (rtL rt bo ba) a lk.length c)).toArray) ∧ LnksAt w' (.slice a lk.length c) lk ∧ LinksOf L lk ∧ Below w.heap.size w w'

structure RtA (W : World) (mb : Nat) (L : List Lnk) (wr : World) : Prop where
  mp : ∃ f n, n ≤ L.length ∧ PMap wr mb n f ∧ CostsF L f
  kep : W.grownBy wr (some mb)
theorem grown_below {w w1 w2 : World} {r : Option Nat} (h : w.grownBy w1 r) (hb : Below w1.heap.size w1 w2) : w.grownBy w2 r :=
  ⟨hb.os.trans h.os, hb.tape.trans h.tape, hb.output.trans h.output, Nat.le_trans h.size hb.size, fun j hj hn => (hb.block j (Nat.lt_of_lt_of_le hj h.size)).trans (h.block j hj hn)⟩
theorem grown_grown {w w1 w2 : World} {r : Option Nat} (h : w.grownBy w1 r) (hb : w1.grownBy w2 r) : w.grownBy w2 r :=
  ⟨hb.os.trans h.os, hb.tape.trans h.tape, hb.output.trans h.output, Nat.le_trans h.size hb.size, fun j hj hn => (hb.block j (Nat.lt_of_lt_of_le hj h.size) hn).trans (h.block j hj hn)⟩
theorem RtA.grow {W : World} {mb : Nat} {L : List Lnk} {wr W' : World} (R : RtA W mb L wr) (g : Below wr.heap.size wr W') : RtA W mb L W' :=
  ⟨let ⟨f, n, h1, h2, h3⟩ := R.mp; ⟨f, n, h1, h2.grow g, h3⟩, grown_below R.kep g⟩

theorem own_slice {base : Nat} {w : World} {v : Value} {n : Nat} {xs : List Value} (h : w.ownsRow base 82 4 v n xs) : ∃ a c, v = .slice a n c := by
  rcases own_cases h with ⟨rfl, rfl⟩ | ⟨g, cap, cur, rfl, _⟩
  · exact ⟨none, 0, rfl⟩
  · exact ⟨_, _, rfl⟩

def mkL (p : Pl) (c : Int) : Lnk := ⟨p.kind, p.id, p.data, c⟩
theorem mkL_pl (p : Pl) (c : Int) : plOf (mkL p c) = p := rfl

structure RtO (w : World) (B b mb rb n : Nat) (l0 : Lsa) (f : Pl → Option Int) (left : Pl → Bool) (cnt : Nat) (out : List Lnk) (wr : World) : Prop where
  rng : RangeF Tryz.prog 88 plOk plLit costV wr mb rb n f left cnt
  lb : ∃ a c, wr.heap[b]? = some (.cells (lsaE (lsaLk l0 a out.length c)).toArray 42 (0, 0)) ∧ LnksOwn B wr (.slice a out.length c) out
  mem : ∀ x, x ∈ out ↔ ∃ p c, plOk p ∧ left p = false ∧ f p = some c ∧ x = mkL p c
  nd : (out.map plOf).Nodup
  len : out.length + cnt ≤ n
  z1 : wr.heap[w.heap.size + 1]? = some (.cells (lsaE lsaZ).toArray 42 (0, 0))
  bel : Below w.heap.size w wr
  hB : B ≤ wr.heap.size

theorem RtO.step {w : World} {B b mb rb n : Nat} {l0 : Lsa} {f : Pl → Option Int} {left : Pl → Bool} {cnt cnt' : Nat} {out : List Lnk} {wr w1 W3 w4 w5 : World} {a a' : Option Addr} {c0 c' : Nat} (R : RtO w B b mb rb n l0 f left cnt out wr)
    (hb0 : w.heap.size + 2 ≤ b) (hbB : b < B) (hmB : mb < B) (hrB : rb < B) (hbm : b ≠ mb) (hbr : b ≠ rb) (hr : w.heap.size + 2 ≤ rb)
    {p : Pl} {c : Int} (hp : plOk p) (hl : left p = true) (hx : f p = some c)
    (h1 : RangeF Tryz.prog 88 plOk plLit costV w1 mb rb n f (fun z => left z && !decide (z = p)) cnt') (hc : cnt' < cnt) (hg1 : wr.grownBy w1 (some rb)) (hb : Below w1.heap.size w1 W3)
    (hbk : wr.heap[b]? = some (.cells (lsaE (lsaLk l0 a out.length c0)).toArray 42 (0, 0))) (hown : LnksOwn B wr (.slice a out.length c0) out)
    (own' : w4.ownsRow B 82 4 (.slice a' (out.length + 1) c') (out.length + 1) ((out.map lnkE).flatten ++ lnkE (mkL p c))) (hg4 : W3.grownBy w4 (Value.slice a out.length c0).ownBlock)
    (h5 : w4.setCell ⟨b, 9, none⟩ (.slice a' (out.length + 1) c') = w5) : RtO w B b mb rb n l0 f (fun z => left z && !decide (z = p)) cnt' (out ++ [mkL p c]) w5 := by
  have hlen := R.len
  have o3 : LnksOwn B W3 (.slice a out.length c0) out := by
    have h : LnksOwn B w1 (.slice a out.length c0) out := World.ownsRow.kept hown hg1 (.inr (fun e => by have := (World.ownsRow.lt hown _ e).1; omega))
    exact h.below hb
  have ob : ∀ j, (Value.slice a out.length c0).ownBlock = some j → B ≤ j := fun j hj => (World.ownsRow.lt o3 j hj).1
  have sz1 := hg1.size
  have lt1 := blk_lt R.z1
  have ltb := blk_lt hbk
  have b1 := (hg1.block _ ltb (by simp; omega)).trans hbk
  have b3 := (hb.block _ (blk_lt b1)).trans b1
  have b4 := (hg4.block _ (blk_lt b3) (fun e => by have := ob _ e.symm; omega)).trans b3
  have z1 := (hg1.block _ lt1 (by simp; omega)).trans R.z1
  have z3 := (hb.block _ (blk_lt z1)).trans z1
  have z4 := (hg4.block _ (blk_lt z3) (fun e => by have := ob _ e.symm; omega)).trans z3
  have B1 : Below w.heap.size w w1 := R.bel.grown hg1 R.bel.size (fun j hj => by cases hj; omega)
  have B3 := B1.trans (hb.mono B1.size)
  have B4 := B3.grown hg4 B3.size (fun j hj => by have := ob j hj; omega)
  have r4 := (h1.grow hb).kept hg4 (fun e => by have := ob _ e.symm; omega) (fun e => by have := ob _ e.symm; omega)
  have g5 : w4.grownBy w5 (some b) := by rw [← h5]; exact grown_set w4 b 9 _
  have b5 : w5.heap[b]? = some (.cells (lsaE (lsaLk l0 a' (out.length + 1) c')).toArray 42 (0, 0)) := by
    rw [← h5]
    have h1 := blk_set b4 9 (.slice a' (out.length + 1) c')
    simp only [lsaE, lsaLk, List.setIfInBounds_toArray, List.set_cons_zero, List.set_cons_succ] at h1
    simpa only [lsaE, lsaLk] using h1
  refine ⟨r4.kept g5 (by simp; omega) (by simp; omega), ⟨a', c', by rw [List.length_append]; exact b5, ?_⟩, fun y => ?_, ?_, ?_, (g5.block _ (blk_lt z4) (by simp; omega)).trans z4, B4.grown g5 B4.size (fun j hj => by cases hj; omega), ?_⟩
  · unfold LnksOwn
    have e : (out ++ [mkL p c]).length = out.length + 1 := by simp
    have e2 : ((out ++ [mkL p c]).map lnkE).flatten = (out.map lnkE).flatten ++ lnkE (mkL p c) := by simp
    rw [e, e2]
    exact World.ownsRow.kept own' g5 (.inr (fun e => by have := (World.ownsRow.lt own' _ e).1; omega))
  · rw [List.mem_append, R.mem, List.mem_singleton]
    constructor
    · rintro (⟨q, d, hq, hlq, hgq, rfl⟩ | rfl)
      · exact ⟨q, d, hq, by simp [hlq], hgq, rfl⟩
      · exact ⟨p, c, hp, by simp, hx, rfl⟩
    · rintro ⟨q, d, hq, hlq, hgq, rfl⟩
      by_cases e : q = p
      · subst e; rw [hx] at hgq; cases hgq; exact .inr rfl
      · exact .inl ⟨q, d, hq, by simpa [e] using hlq, hgq, rfl⟩
  · rw [List.map_append, List.nodup_append]
    refine ⟨R.nd, by simp, fun a ha b hb' => ?_⟩
    obtain ⟨y, hy, rfl⟩ := List.mem_map.1 ha
    simp only [List.map_cons, List.map_nil, List.mem_singleton] at hb'
    subst hb'
    obtain ⟨q, d, hq, hlq, hgq, rfl⟩ := (R.mem y).1 hy
    intro e
    rw [mkL_pl, mkL_pl] at e
    subst e
    rw [hl] at hlq; cases hlq
  · rw [List.length_append, List.length_singleton]; omega
  · have := R.hB; have := hb.size; have := hg4.size; have := g5.size; omega

theorem RtO.all {w : World} {B b mb rb n : Nat} {l0 : Lsa} {f : Pl → Option Int} {left : Pl → Bool} {cnt : Nat} {out out' L : List Lnk} {wr : World} (R : RtO w B b mb rb n l0 f left cnt out wr) (hl : ∀ p, plOk p → left p = false)
    (C : CostsF L f) (hk : ∀ x ∈ L, plOk (plOf x)) (P : out'.Perm out) (U : out'.Pairwise fun a b => ¬ plLt (plOf b) (plOf a)) : LinksOf L out' := by
  refine ⟨lnks_asc P R.nd U, fun x => ?_⟩
  rw [P.mem_iff, R.mem, ← C.iff]
  constructor
  · rintro ⟨p, c, h1, _, h3, rfl⟩
    exact h3
  · intro h
    have := (C.iff _ _).1 h
    obtain ⟨⟨y, y1, y2, _⟩, _⟩ := this
    exact ⟨plOf x, x.cost, y2 ▸ hk y y1, hl _ (y2 ▸ hk y y1), h, rfl⟩

end Go.Proofs.YtddageahmgaigaaGreat
