/-
  inter.Choose.
-/
import Derived.Test.YtogdconliofblaaGreatRto
import Derived.Test.YtogdconliofblaaGreatBs3
import Derived.Deep.RegionHeld3
import Derived.Deep.AppendLies
import Derived.BigQuiet
namespace Go.Proofs.YtogdconliofblaaGreat
open Go.RowKit

theorem rAt_map (L : List RtH) (i : Nat) : rAt (L.map RtH.rt) i = (rthAt L i).rt := by
  unfold rAt rthAt
  rw [List.getD_eq_getElem?_getD, List.getD_eq_getElem?_getD, List.getElem?_map]
  cases L[i]? <;> rfl
/-- the routes by their places -/
def chA (L : List RtH) (i : Nat) : Rp := (rthAt L i).pure
theorem plB_bf {L : List RtH} {i j : Nat} (h : PlB (L.map RtH.rt) i j) : Bf (chA L) i j := by
  have e : (fun a b => ckLt (rAt (L.map RtH.rt) a).ck (rAt (L.map RtH.rt) b).ck) = fun a b => ckLt (chA L a).ck (chA L b).ck := by
    funext a b; rw [rAt_map, rAt_map]; rfl
  unfold PlB at h
  rw [e] at h
  exact h

/-- k places of the sorted row are gone through -/
structure ChW (W1 : World) (L : List RtH) (s : List Nat) (M k : Nat) (out : List RtH) (v : Value) (wr : World) : Prop where
  R : OutR W1 out v wr
  C : ChIs (chA L) (fun i => i ∈ s.take k) (out.map RtH.pure)
  hl : ∀ x ∈ out, x.hops.length ≤ k * M
  len : out.length ≤ k
variable {W1 : World} {L : List RtH} {s : List Nat} {M k : Nat} {out : List RtH} {v : Value} {wr : World}
theorem ChW.start (W1 : World) (L : List RtH) (s : List Nat) (M : Nat) : ChW W1 L s M 0 [] (.slice none 0 0) W1 :=
  ⟨OutR.nil W1, ChIs.nil.congr fun i => by simp, (fun x hx => by cases hx), Nat.le_refl _⟩
theorem take_or (s : List Nat) {k : Nat} (c : k < s.length) (i : Nat) : (i ∈ s.take k ∨ i = s[k]) ↔ i ∈ s.take (k + 1) := by
  rw [List.take_succ_eq_append_getElem c, List.mem_append, List.mem_singleton]
theorem bf_take {L : List RtH} {s : List Nat} (hs : s.Pairwise (PlB (L.map RtH.rt))) {k : Nat} (c : k < s.length) : ∀ i, i ∈ s.take k → Bf (chA L) i s[k] := by
  intro i hi
  obtain ⟨j, hj, rfl⟩ := List.getElem_of_mem hi
  simp only [List.length_take] at hj
  rw [List.getElem_take]
  exact plB_bf (List.pairwise_iff_getElem.1 hs j k (by omega) c (by omega))
theorem mul_up {x k M : Nat} (h : x ≤ k * M) : x ≤ (k + 1) * M := Nat.le_trans h (Nat.mul_le_mul_right M (Nat.le_succ k))
theorem mul_add' {x y k M : Nat} (h : x ≤ k * M) (h2 : y ≤ M) : x + y ≤ (k + 1) * M := by rw [Nat.add_mul, Nat.one_mul]; omega

theorem ChW.new (H : ChW W1 L s M k out v wr) (hs : s.Pairwise (PlB (L.map RtH.rt))) (c : k < s.length) (hM : ∀ x ∈ L, x.hops.length ≤ M) (hm : s[k] < L.length) (hn : ∀ o, out.getLast? = some o → o.rt.pfx ≠ (rthAt L s[k]).rt.pfx)
    {W w4 : World} {v' : Value} (hb : Below wr.heap.size wr W) {a : Option Addr} {n cp : Nat} (hh : HopsAt W (.slice a n cp) (Ls.merge Ls.hopLt (rthAt L s[k]).hops [])) (hf : ∀ b, (Value.slice a n cp).ownBlock = some b → wr.heap.size ≤ b ∧ b < W.heap.size)
    (own' : w4.ownsRow W1.heap.size 57 9 v' ((out.map RtH.rt).length + 1) (((out.map RtH.rt).map rtE).flatten ++ rtE { (rthAt L s[k]).rt with ha := a, hn := n, hc := cp })) (hg4 : W.grownBy w4 v.ownBlock) (d : v'.ownBlock = v.ownBlock ∨ v'.ownBlock = some W.heap.size) :
    ChW W1 L s M (k + 1) (out ++ [⟨{ (rthAt L s[k]).rt with ha := a, hn := n, hc := cp }, Ls.merge Ls.hopLt (rthAt L s[k]).hops []⟩]) v' w4 := by
  refine ⟨H.R.push hb hh hf own' hg4 d, ?_, fun x hx => ?_, ?_⟩
  · rw [List.map_append]
    refine (H.C.new (r := s[k]) (bf_take hs c) (fun o ho => ?_)).congr (take_or s c)
    rw [List.getLast?_map] at ho
    obtain ⟨z, hz, rfl⟩ := Option.map_eq_some_iff.1 ho
    exact hn z hz
  · rcases List.mem_append.1 hx with h1 | h1
    · exact mul_up (H.hl x h1)
    · rw [List.mem_singleton.1 h1]
      have h2 := Ls.merge_length_le (lt := Ls.hopLt) (rthAt L s[k]).hops []
      have h3 := hM (rthAt L s[k]) (by rw [rthAt_eq hm]; exact List.getElem_mem hm)
      have h4 := mul_add' (Nat.zero_le (k * M)) h3
      simp only [List.length_nil] at h2
      show (Ls.merge Ls.hopLt (rthAt L s[k]).hops []).length ≤ _
      omega
  · have := H.len; rw [List.length_append, List.length_singleton]; omega
theorem ChW.skip {O : List RtH} {z : RtH} (H : ChW W1 L s M k (O ++ [z]) v wr) (hs : s.Pairwise (PlB (L.map RtH.rt))) (c : k < s.length) (hp : z.rt.pfx = (rthAt L s[k]).rt.pfx) (hn : ¬ (z.rt.proto = (rthAt L s[k]).rt.proto ∧ z.rt.cost = (rthAt L s[k]).rt.cost))
    {W : World} (hb : Below wr.heap.size wr W) : ChW W1 L s M (k + 1) (O ++ [z]) v W := by
  refine ⟨H.R.below hb, (H.C.skip (z := z.pure) (r := s[k]) (by simp) (bf_take hs c) hp hn).congr (take_or s c), fun x hx => mul_up (H.hl x hx), by have := H.len; omega⟩
theorem ChW.like {O : List RtH} {z : RtH} {g cap : Nat} (H : ChW W1 L s M k (O ++ [z]) (.slice (some ⟨g, 0, none⟩) (O.length + 1) cap) wr) (hs : s.Pairwise (PlB (L.map RtH.rt))) (c : k < s.length) (hM : ∀ x ∈ L, x.hops.length ≤ M) (hm : s[k] < L.length) (hp : z.rt.pfx = (rthAt L s[k]).rt.pfx) (h1 : z.rt.proto = (rthAt L s[k]).rt.proto) (h2 : z.rt.cost = (rthAt L s[k]).rt.cost)
    {W : World} (hb : Below wr.heap.size wr W) {a : Option Addr} {n cp : Nat} (hh : HopsAt W (.slice a n cp) (Ls.merge Ls.hopLt z.hops (rthAt L s[k]).hops)) (hf : ∀ b, (Value.slice a n cp).ownBlock = some b → wr.heap.size ≤ b ∧ b < W.heap.size) :
    ChW W1 L s M (k + 1) (O ++ [⟨{ z.rt with ha := a, hn := n, hc := cp }, Ls.merge Ls.hopLt z.hops (rthAt L s[k]).hops⟩]) (.slice (some ⟨g, 0, none⟩) (O.length + 1) cap) (W.setCell ⟨g, O.length * 9 + 8, none⟩ (.slice a n cp)) := by
  refine ⟨H.R.set hb hh hf, ?_, fun x hx => ?_, ?_⟩
  · have C := H.C
    rw [List.map_append, List.map_cons, List.map_nil] at C ⊢
    exact (C.like (r := s[k]) (bf_take hs c) hp h1 h2).congr (take_or s c)
  · rcases List.mem_append.1 hx with h3 | h3
    · exact mul_up (H.hl x (List.mem_append_left _ h3))
    · rw [List.mem_singleton.1 h3]
      have h4 := Ls.merge_length_le (lt := Ls.hopLt) z.hops (rthAt L s[k]).hops
      exact Nat.le_trans h4 (mul_add' (H.hl z (by simp)) (hM _ (by rw [rthAt_eq hm]; exact List.getElem_mem hm)))
  · have := H.len; rw [List.length_append, List.length_singleton] at this ⊢; omega

theorem RtsOwn.base {base base' : Nat} {w : World} {v : Value} {l : List Rt} (h : RtsOwn base w v l) (hb : base' ≤ base) : RtsOwn base' w v l := by
  refine ⟨h.1, ?_⟩
  rcases h.2 with h | ⟨g, cap, cur, h1, h2, h3⟩
  · exact .inl h
  · exact .inr ⟨g, cap, cur, h1, Nat.le_trans hb h2, h3⟩

theorem grown_set (w : World) (b o : Nat) (u : Value) : w.grownBy (w.setCell ⟨b, o, none⟩ u) (some b) :=
  ⟨rfl, rfl, rfl, by simp [World.setCell], fun k _ hk => blk_other w ⟨b, o, none⟩ u k (fun e => hk (by simp [e]))⟩
theorem below_drewN {B : Nat} {w w' : World} (h : Below B w w') (n : Nat) : Below B w (w'.drewN n) := ⟨h.os, h.tape, h.output, h.size, h.block⟩

theorem tb_of (out : List RtH) (p : Ls.Pfx) : ∃ tb : Bool, (tb = true → ∀ o, out.getLast? = some o → o.rt.pfx ≠ p) ∧ (tb = false → ∃ (O : List RtH) (z : RtH), out = O ++ [z] ∧ z.rt.pfx = p) ∧ (out = [] → tb = true) ∧ ∀ (O : List RtH) (z : RtH), out = O ++ [z] → tb = !decide (z.rt.pfx = p) := by
  rcases List.eq_nil_or_concat out with e | ⟨O, z, e⟩
  · subst e; exact ⟨true, fun _ o ho => (by simp at ho), fun h => (by cases h), fun _ => rfl, fun O z e => (by simp at e)⟩
  · have e : out = O ++ [z] := by simpa using e
    subst e
    refine ⟨!decide (z.rt.pfx = p), fun h o ho => ?_, fun h => ⟨O, z, rfl, (by simpa using h)⟩, fun h => (by simp at h), fun O' z' e => ?_⟩
    · simp at ho; subst ho; simpa using h
    · obtain ⟨h1, h2⟩ := List.append_inj' e rfl
      cases h2; rfl

def ChPost (w : World) (L : List RtH) (M : Nat) (e : Ending) (w' : World) : Prop :=
  ∃ v l, e = .returned v ∧ RoutesAt w' v l ∧ ChIs (chA L) (fun i => i < L.length) (l.map RtH.pure) ∧ l.length ≤ L.length ∧ (∀ x ∈ l, x.hops.length ≤ L.length * M) ∧ Below w.heap.size w w'

set_option maxHeartbeats 8000000 in
set_option maxRecDepth 100000 in
theorem choose_calls (w : World) (va vb : Value) (la lb : List RtH) (ha : RoutesAt w va la) (hb : RoutesAt w vb lb) (M : Nat) (hM : ∀ x ∈ la ++ lb, x.hops.length ≤ M) (hN : (la ++ lb).length ≤ 400) (hn : M ≤ 1048576000) :
    Calls Tryz.prog 23 #[va, vb] w (ChPost w (la ++ lb) M) := by
  obtain ⟨i0, hi0, hz0, hz1, hz2⟩ := info_parts Tryz.infoRt
  have HI0 := Lib.hid hi0
  have HZ0 := Lib.hid hz0
  have HZ1 := Lib.hid hz1
  have HZ2 := Lib.hid hz2
  have RA : Hid (RtsAt w va (la.map RtH.rt)) := Lib.hid (by have := ha.sl; unfold RtsAt; rw [List.map_map]; exact this)
  have RB : Hid (RtsAt w vb (lb.map RtH.rt)) := Lib.hid (by have := hb.sl; unfold RtsAt; rw [List.map_map]; exact this)
  have HH : Hid (∀ x ∈ la ++ lb, HopsAt w x.rt.hv x.hops) := Lib.hid (fun x hx => by
    rcases List.mem_append.1 hx with h | h
    · exact ha.hops x h
    · exact hb.hops x h)
  have HM := Lib.hid hM
  have HNN := Lib.hid hN
  have N1 : Hid (((la.map RtH.rt).length + (lb.map RtH.rt).length) * 88 ≤ 140737488355328) := Lib.hid (by rw [List.length_append] at hN; rw [List.length_map, List.length_map]; omega)
  have N2 : Hid ((la.map RtH.rt ++ lb.map RtH.rt).length < 1152921504606846976) := Lib.hid (by rw [← List.map_append, List.length_map]; omega)
  have ML : Hid (la.map RtH.rt ++ lb.map RtH.rt = (la ++ lb).map RtH.rt) := Lib.hid (by rw [List.map_append])
  obtain ⟨aa, ca, ea, -⟩ := ha.get
  obtain ⟨ab, cb, eb, -⟩ := hb.get
  subst ea eb
  clear ha hb hM hN
  generalize la ++ lb = L at *
  go_enter Tryz.func23, Tryz.ntmps23
  go_wp2_with fail
  refine (concat2_rt _ _ _ (la.map RtH.rt) (lb.map RtH.rt) (RA.out.below ((Below.refl _ _).alloc (Nat.le_refl _) _)) (RB.out.below ((Below.refl _ _).alloc (Nat.le_refl _) _)) _ _ (blk_cell (alloc_new w _) rfl) (blk_cell (alloc_new w _) rfl) N1.out).mono ?_
  rintro e w1 ⟨v, rfl, O, B⟩
  have B1 : Below w.heap.size w w1 := ((Below.refl _ _).alloc (Nat.le_refl _) _).trans (B.mono (by simp))
  have O1 : RtsOwn w.heap.size w1 v (la.map RtH.rt ++ lb.map RtH.rt) := RtsOwn.base O (by simp)
  clear O B
  go_wp2_with fail
  refine (stable_rts w.heap.size w1 v _ O1 N2.out).mono ?_
  rintro e w2 ⟨rfl, s, hl, hp, hm, O2, B2⟩
  rw [ML.out] at hl hp hm O2
  rw [List.length_map] at hl hm
  have HB2 := Lib.hid (B1.trans B2)
  have HP := Lib.hid hp
  have HMM := Lib.hid hm
  have RS : RoutesAt w2 v (s.map (rthAt L)) := by
    refine ⟨?_, fun x hx => ?_⟩
    · have h := RtsOwn.at O2
      unfold RtsAt at h
      rw [List.map_map] at h
      rw [List.map_map]
      have e : (fun x => rtE x.rt) ∘ rthAt L = rtE ∘ rAt (L.map RtH.rt) := by funext i; simp [rAt_map]
      rw [e]; exact h
    · obtain ⟨i, hi, rfl⟩ := List.mem_map.1 hx
      have h := (hm i).1 hi
      exact (HH.out _ (by rw [rthAt_eq h]; exact List.getElem_mem h)).below HB2.out
  obtain ⟨ga, gcap, rfl, -, hc⟩ := RS.get
  have HC : Hid (0 < s.length → ∃ b off, ga = some ⟨b, off, none⟩ ∧ b < w2.heap.size ∧ ∀ i (h : i < s.length), RtCells w2 b (off + i * 9) (rthAt L s[i]).rt) := Lib.hid (fun h0 => by
    obtain ⟨b, off, e, hb, h⟩ := hc (by simpa using h0)
    exact ⟨b, off, e, hb, fun i hi => by have := h i (by simpa using hi); simpa using this⟩)
  have HHS := Lib.hid RS.hops
  have S3 := Lib.hid (ChW.start w2 L s M)
  have HL := Lib.hid hl
  clear O1 B1 B2 hp hm hl O2 RS hc N1 N2 ML RA RB
  rw [List.length_map]
  have SN : Hid (s.length ≤ 400) := Lib.hid (by rw [HL.out]; exact HNN.out)
  go_wp2_with fail
  go_loopw [6, 18] (fun vo iv wr => ∃ (k : Nat) (out : List RtH), iv = .int .i64 k ∧ k ≤ s.length ∧ Hid (ChW w2 L s M k out vo wr)) (fun _ iv _ => s.length - (intOf iv).toNat)
  case atStart => exact ⟨0, [], rfl, Nat.zero_le _, S3⟩
  case round =>
    clear S3
    obtain ⟨k, out, rfl, hk, S⟩ := hrel
    obtain ⟨vO, hvO⟩ : ∃ z, z = u6 := ⟨_, rfl⟩
    subst hvO
    by_cases c : k < s.length
    · obtain ⟨b, off, rfl, hb0, hcc⟩ := HC.out (by omega)
      have hcc := (hcc k c).below S.out.R.bel hb0
      have hm : s[k] < L.length := (HMM.out _).1 (List.getElem_mem c)
      have hx : rthAt L s[k] ∈ L := by rw [rthAt_eq hm]; exact List.getElem_mem hm
      have HX := Lib.hid (((HH.out _ hx).below HB2.out).below S.out.R.bel)
      have MX := Lib.hid (HM.out _ hx)
      have NW := Lib.hid (fun hn W w4 v' hb a n cp hh hf own' hg4 d => S.out.new HP.out c HM.out hm hn (W := W) (w4 := w4) (v' := v') hb (a := a) (n := n) (cp := cp) hh hf own' hg4 d)
      have SKP : Hid (∀ O z, out = O ++ [z] → z.rt.pfx = (rthAt L s[k]).rt.pfx → ¬ (z.rt.proto = (rthAt L s[k]).rt.proto ∧ z.rt.cost = (rthAt L s[k]).rt.cost) → ∀ W : World, Below wr.heap.size wr W → ChW w2 L s M (k + 1) out vO W) := Lib.hid (fun O z e hp hn W hb => by subst e; exact S.out.skip HP.out c hp hn hb)
      have LIK : Hid (∀ O z g cap, out = O ++ [z] → vO = .slice (some ⟨g, 0, none⟩) (O.length + 1) cap → z.rt.pfx = (rthAt L s[k]).rt.pfx → z.rt.proto = (rthAt L s[k]).rt.proto → z.rt.cost = (rthAt L s[k]).rt.cost → ∀ W : World, Below wr.heap.size wr W → ∀ a n cp, HopsAt W (.slice a n cp) (Ls.merge Ls.hopLt z.hops (rthAt L s[k]).hops) →
          (∀ b, (Value.slice a n cp).ownBlock = some b → wr.heap.size ≤ b ∧ b < W.heap.size) → ∃ out', ChW w2 L s M (k + 1) out' (.slice (some ⟨g, 0, none⟩) (O.length + 1) cap) (W.setCell ⟨g, O.length * 9 + 8, none⟩ (.slice a n cp))) := Lib.hid (fun O z g cap e e2 hp h1 h2 W hb a n cp hh hf => by subst e e2; exact ⟨_, S.out.like HP.out c HM.out hm hp h1 h2 (W := W) hb (a := a) (n := n) (cp := cp) hh hf⟩)
      clear hm hx
      generalize rthAt L s[k] = x at *
      obtain ⟨⟨⟨pa, pl⟩, r1, r2, r3, r4, r5, r6, ha, rn, rc⟩, hs⟩ := x
      obtain ⟨e0, e1, e2, e3, e4, e5, e6, e7, e8⟩ := hcc
      simp only at e0 e1 e2 e3 e4 e5 e6 e7 e8
      obtain ⟨oa, ocap, eo, -, -⟩ := S.out.R.at.get
      have LST := Lib.hid (fun O z (e : out = O ++ [z]) => (by have h := S.out.R; rw [e] at h; exact h.last :
        ∃ g cap, vO = .slice (some ⟨g, 0, none⟩) (O.length + 1) cap ∧ w2.heap.size ≤ g ∧ g < wr.heap.size ∧ RtCells wr g (O.length * 9) z.rt ∧ ∀ j, wr.frozen? ⟨g, j, none⟩ = false))
      have ZH := Lib.hid (fun O z (e : out = O ++ [z]) => (by subst e; exact ⟨S.out.R.hops z (by simp), Nat.le_trans (S.out.hl z (by simp)) (Nat.mul_le_mul_right M (Nat.le_trans hk SN.out))⟩ : HopsAt wr z.rt.hv z.hops ∧ z.hops.length ≤ 400 * M))
      have OWN := Lib.hid (fun W' (hb : Below wr.heap.size wr W') => (S.out.R.below hb).own)
      have BSZ := Lib.hid S.out.R.bel.size
      have OWL := Lib.hid (fun j hj => World.ownsRow.lt S.out.R.own j hj)
      have LEN : Hid (out.length ≤ 400) := Lib.hid (by have := S.out.len; have := SN.out; omega)
      have KC := Lib.hid c
      have n0 : (0 : Int) ≤ (k : Int) := by omega
      have n1 : (k : Int) < (s.length : Int) := by omega
      have n3 : ((k : Int)).toNat = k := by omega
      have n4 : s.length ≤ 400 := SN.out
      generalize hnn : out.length = nn at eo
      have HNL := Lib.hid hnn
      subst eo
      clear S hnn
      obtain ⟨tb, tbh⟩ := tb_of out ⟨pa, pl⟩
      have TB := Lib.hid tbh
      clear tbh
      obtain ⟨WA, hWA⟩ : ∃ WA, wr.alloc (.cells #[.int .u32 pa, .int .i64 pl, .int .i64 r1, .int .u32 r2, .int .i64 r3, .bool r4, .int .i64 r5, .int .i64 r6, .slice ha rn rc] 57) = WA := ⟨_, rfl⟩
      have BA : Below wr.heap.size wr WA := by rw [← hWA]; exact (Below.refl _ _).alloc (Nat.le_refl _) _
      have bA : WA.heap[wr.heap.size]? = some (.cells #[.int .u32 pa, .int .i64 pl, .int .i64 r1, .int .u32 r2, .int .i64 r3, .bool r4, .int .i64 r5, .int .i64 r6, .slice ha rn rc] 57 (0, 0)) := by rw [← hWA]; exact alloc_new wr _
      have HXA := Lib.hid (HX.out.below BA)
      have HBA := Lib.hid BA
      have HbA := Lib.hid bA
      clear BA bA
      go_upto_region 8 with fail
      clear e0 e1 e2 e3 e4 e5 e6 e7 e8 hWA
      obtain ⟨⟨x0, x1, x2, x3, x4, x5, x6, x7, x8⟩, hxf⟩ := blk9 HbA.out
      go_cut [24] (fun s24 wx => s24 = .bool tb ∧ Below wr.heap.size wr wx ∧ wx.heap[wr.heap.size]? = some (.cells #[.int .u32 pa, .int .i64 pl, .int .i64 r1, .int .u32 r2, .int .i64 r3, .bool r4, .int .i64 r5, .int .i64 r6, .slice ha rn rc] 57 (0, 0)))
      case first => as_aux_lemma =>
        rcases List.eq_nil_or_concat out with e | ⟨O, z, e⟩
        · obtain rfl : tb = true := TB.out.2.2.1 e
          have hn0 : nn = 0 := by rw [← HNL.out, e]; rfl
          subst hn0
          go_quiet (fail)
          go_wp2_with fail
          go_meet
          exact ⟨rfl, below_drewN HBA.out _, HbA.out⟩
        · have e : out = O ++ [z] := by simpa using e
          obtain ⟨g, cap, ev, hg1, hg2, hcz, -⟩ := LST.out O z e
          have hl : nn = O.length + 1 := by rw [← HNL.out, e]; simp
          have hcz := hcz.below HBA.out hg2
          have htb := TB.out.2.2.2 O z e
          obtain ⟨m, hm1, hm2⟩ : ∃ m, m = O.length ∧ nn = m + 1 := ⟨_, rfl, hl⟩
          rw [← hm1] at hcz ev
          obtain ⟨ha1, -, -⟩ : oa = some ⟨g, 0, none⟩ ∧ nn = m + 1 ∧ ocap = cap := by simpa using ev
          subst ha1
          have hl4 : nn ≤ 400 := by rw [← HNL.out]; exact LEN.out
          have b1 : m + 1 ≤ nn := by omega
          have b2 : nn ≤ m + 1 := by omega
          clear hm1 hm2 hl ev LST e TB HNL
          obtain ⟨⟨⟨za, zl⟩, z1, z2, z3, z4, z5, z6, zha, zn, zc⟩, zh⟩ := z
          obtain ⟨c0, c1, c2, c3, c4, c5, c6, c7, c8⟩ := hcz
          simp only at c0 c1 c2 c3 c4 c5 c6 c7 c8 htb
          have g0 : ((nn : Int) == 0) = false := beq_eq_false_iff_ne.2 (by omega)
          have ra : IntKind.i64.wrap ((nn : Int) - 1) = (m : Int) := by rw [IntKind.wrap_i64]; omega
          have pa0 : (0 : Int) ≤ (m : Int) := by omega
          have pa1 : (m : Int) < (nn : Int) := by omega
          have pa2 : ((m : Int)).toNat = m := by omega
          have HTB := Lib.hid htb
          clear htb
          have EQ := fun W => nePfx ⟨za, zl⟩ ⟨pa, pl⟩ W
          go_quiet (fail)
          go_wp2_with fail
          go_meet
          exact ⟨by rw [HTB.out]; simp [Bool.decide_and, Bool.not_and], below_drewN HBA.out _, HbA.out⟩
      case rest =>
      obtain ⟨rfl, hbc, hbk⟩ := hcut
      have HBC := Lib.hid hbc
      have HbC := Lib.hid hbk
      clear x0 x1 x2 x3 x4 x5 x6 x7 x8 hxf HXA HBA HbA hbc hbk
      obtain ⟨⟨x0, x1, x2, x3, x4, x5, x6, x7, x8⟩, hxf⟩ := blk9 HbC.out
      cases tb with
      | true =>
        have NB := Lib.hid (TB.out.1 rfl)
        have MC := Lib.hid (merge_calls wc (.slice ha rn rc) (.slice none 0 0) hs [] (HX.out.below HBC.out) (hopsNone _) (by have := MX.out; simp only [List.length_nil] at this ⊢; omega))
        clear SKP LIK LST ZH TB HX MX x0 x1 x2 x3 x4 x5 x6 x7 hxf
        go_wp2_with fail
        refine MC.out.mono ?_
        rintro e w5 ⟨v5, rfl, O5, B5⟩
        clear MC x8
        have H5 : HopsAt w5 v5 (Ls.merge Ls.hopLt hs []) := O5.at
        have F5 := fun b hb => World.ownsRow.lt O5 b hb
        obtain ⟨a5, c5, e5, -⟩ := H5.get
        generalize hn5 : (Ls.merge Ls.hopLt hs []).length = n5 at e5
        subst e5
        have bx5 := (B5.block _ (blk_lt HbC.out)).trans HbC.out
        have fz := blk_free bx5 8
        have f8 : w5.cell? ⟨wr.heap.size, 8, none⟩ = some (.slice ha rn rc) := blk_cell bx5 rfl
        obtain ⟨W6, hW6⟩ : ∃ W6, w5.setCell ⟨wr.heap.size, 8, none⟩ (.slice a5 n5 c5) = W6 := ⟨_, rfl⟩
        have b6 : W6.heap[wr.heap.size]? = some (.cells #[.int .u32 pa, .int .i64 pl, .int .i64 r1, .int .u32 r2, .int .i64 r3, .bool r4, .int .i64 r5, .int .i64 r6, .slice a5 n5 c5] 57 (0, 0)) := by
          rw [← hW6]
          have h1 := blk_set bx5 8 (.slice a5 n5 c5)
          simp only [List.setIfInBounds_toArray, List.set_cons_zero, List.set_cons_succ] at h1
          exact h1
        have G6 : w5.grownBy W6 (some wr.heap.size) := by rw [← hW6]; exact grown_set w5 wr.heap.size 8 _
        have B6 : Below wr.heap.size wr W6 := (HBC.out.trans (B5.mono HBC.out.size)).grown G6 (Nat.le_trans HBC.out.size B5.size) (fun j hj => by cases hj; exact Nat.le_refl _)
        have wlt : wr.heap.size < wc.heap.size := blk_lt HbC.out
        have H6 : HopsAt W6 (.slice a5 n5 c5) (Ls.merge Ls.hopLt hs []) := SlV.kept H5 G6 fun b off n c e => by
          have := (F5 b (by rw [e]; rfl)).1
          intro h; cases h; omega
        have F6 : ∀ b, (Value.slice a5 n5 c5).ownBlock = some b → wr.heap.size ≤ b ∧ b < W6.heap.size := fun b hb => ⟨by have := (F5 b hb).1; omega, Nat.lt_of_lt_of_le (F5 b hb).2 G6.size⟩
        obtain ⟨⟨y0, y1, y2, y3, y4, y5, y6, y7, y8⟩, -⟩ := blk9 b6
        obtain ⟨W9, hW9⟩ : ∃ W9, W6.alloc (.cells #[.int .u32 pa, .int .i64 pl, .int .i64 r1, .int .u32 r2, .int .i64 r3, .bool r4, .int .i64 r5, .int .i64 r6, .slice a5 n5 c5] 57) = W9 := ⟨_, rfl⟩
        have B9 : Below W6.heap.size W6 W9 := by rw [← hW9]; exact (Below.refl _ _).alloc (Nat.le_refl _) _
        have BK : Hid (W9.heap[W6.heap.size]? = some (.cells (List.toArray [.int .u32 pa, .int .i64 pl, .int .i64 r1, .int .u32 r2, .int .i64 r3, .bool r4, .int .i64 r5, .int .i64 r6, .slice a5 n5 c5]) 57 (0, 0))) := Lib.hid (by rw [← hW9]; exact alloc_new W6 _)
        have BR9 := B6.trans (B9.mono B6.size)
        have OW9 := Lib.hid (OWN.out W9 BR9)
        have ONE : Hid (∀ u ∈ ([.int .u32 pa, .int .i64 pl, .int .i64 r1, .int .u32 r2, .int .i64 r3, .bool r4, .int .i64 r5, .int .i64 r6, .slice a5 n5 c5] : List Value), u.oneCell' = true) := Lib.hid (fun u hu => rtE_one ⟨⟨pa, pl⟩, r1, r2, r3, r4, r5, r6, a5, n5, c5⟩ u hu)
        have K1 : Hid ((out.map RtH.rt).length + 1 ≤ maxLen) := Lib.hid (by have h1 := LEN.out; rw [List.length_map]; unfold maxLen; omega)
        have K2 : Hid (((out.map RtH.rt).length + 1) * 88 ≤ 140737488355328) := Lib.hid (by have h1 := LEN.out; rw [List.length_map]; omega)
        have BS : Hid (w2.heap.size ≤ W9.heap.size) := Lib.hid (Nat.le_trans BSZ.out BR9.size)
        have PK := Lib.hid (fun v' w4 own' hg4 d => NW.out NB.out W9 w4 v' BR9 a5 n5 c5 (H6.below B9) (fun b hb => ⟨(F6 b hb).1, Nat.lt_of_lt_of_le (F6 b hb).2 B9.size⟩) own' hg4 d)
        have HW9 := Lib.hid hW9
        have RW : Hid ((Value.slice oa nn ocap) = .slice oa (out.map RtH.rt).length ocap) := Lib.hid (by rw [List.length_map, HNL.out])
        clear O5 B5 H5 F5 hn5 bx5 b6 G6 B6 wlt H6 F6 hW9 B9 BR9 NW NB OWN BSZ OWL HbC HBC
        go_upto_region 10 with fail
        go_wp2_with (at_builtin; rw [HW9.out]; refine wpList_append_one rfl (.tmp 42) (.tmp 44) 27 rfl w2.heap.size 57 i0 (.agg #[.int .u32 0, .int .i64 0, .int .i64 0, .int .u32 0, .int .i64 0, .bool false, .int .i64 0, .int .i64 0, .slice none 0 0]) 9 88 Tryz.underlying27 ?g1 ?g2 ?g3 ?g4 ?g5 ?g6 (.slice oa nn ocap) (out.map RtH.rt).length _ ?g7 OW9.out W6.heap.size [.int .u32 pa, .int .i64 pl, .int .i64 r1, .int .u32 r2, .int .i64 r3, .bool r4, .int .i64 r5, .int .i64 r6, .slice a5 n5 c5] 57 ?g8 BK.out ?g9 ONE.out K1.out K2.out BS.out ?_; (case g1 => exact HI0.out); (case g2 => exact HZ0.out); (case g3 => exact HZ1.out); (case g4 => exact HZ2.out); (case g5 => exact rfl); (case g6 => decide); (case g7 => exact rfl); (case g8 => exact rfl); (case g9 => exact rfl); intro v' w4 own' hg4 d; have NX := Lib.hid (PK.out v' w4 own' hg4 d); clear own' hg4 d)
        go_roundw
        case rel => exact ⟨k + 1, _, by go_num, by have := KC.out; omega, NX⟩
        case measure => simp [intOf]; have := KC.out; omega
      | false =>
        obtain ⟨O, z, e, hp⟩ := TB.out.2.1 rfl
        obtain ⟨g, cap, ev, hg1, hg2, hcz, hfz⟩ := LST.out O z e
        have hl : nn = O.length + 1 := by rw [← HNL.out, e]; simp
        have hl4 : nn ≤ 400 := by rw [← HNL.out]; exact LEN.out
        have hzh := ZH.out O z e
        have SK := Lib.hid (SKP.out O z e hp)
        have LK := Lib.hid (LIK.out O z g cap e ev hp)
        obtain ⟨m, hm1, hm2⟩ : ∃ m, m = O.length ∧ nn = m + 1 := ⟨_, rfl, hl⟩
        rw [← hm1] at hcz ev LK
        obtain ⟨ha1, -, ha3⟩ : oa = some ⟨g, 0, none⟩ ∧ nn = m + 1 ∧ ocap = cap := by simpa using ev
        subst ha1 ha3
        rw [← hm2] at LK
        have hfc : ∀ j, wc.frozen? ⟨g, j, none⟩ = false := fun j => (HBC.out.frozen (p := ⟨g, j, none⟩) hg2).trans (hfz j)
        have b1 : m + 1 ≤ nn := by omega
        have b2 : nn ≤ m + 1 := by omega
        have hcz := hcz.below HBC.out hg2
        have HG2 := Lib.hid hg2
        clear hm1 hm2 hl ev e hp NW SKP LIK LST ZH TB HNL OWN BSZ OWL hfz hg1 hg2
        obtain ⟨⟨⟨za, zl⟩, z1, z2, z3, z4, z5, z6, zha, zn, zc⟩, zh⟩ := z
        obtain ⟨c0, c1, c2, c3, c4, c5, c6, c7, c8⟩ := hcz
        simp only at c0 c1 c2 c3 c4 c5 c6 c7 c8 SK LK hzh
        have HZH := Lib.hid hzh
        have ra : IntKind.i64.wrap ((nn : Int) - 1) = (m : Int) := by rw [IntKind.wrap_i64]; omega
        have pa0 : (0 : Int) ≤ (m : Int) := by omega
        have pa1 : (m : Int) < (nn : Int) := by omega
        have pa2 : ((m : Int)).toNat = m := by omega
        obtain ⟨tc, htc⟩ : ∃ tc : Bool, tc = decide (z1 = r1 ∧ z3 = r3) := ⟨_, rfl⟩
        have HTC := Lib.hid htc
        clear htc c0 c1 c3 c5 c6 c7 hzh
        go_upto_region 11 with fail
        go_cut [46] (fun s46 wx => s46 = .bool tc ∧ Below wr.heap.size wr wx ∧ wx.heap[wr.heap.size]? = some (.cells #[.int .u32 pa, .int .i64 pl, .int .i64 r1, .int .u32 r2, .int .i64 r3, .bool r4, .int .i64 r5, .int .i64 r6, .slice ha rn rc] 57 (0, 0)) ∧ ∃ q, wx = wc.drewN q)
        case first => as_aux_lemma =>
          by_cases h1 : z1 = r1
          · have e1 : (z1 == r1) = true := by simpa using h1
            go_quiet (fail)
            go_wp2_with fail
            go_meet
            exact ⟨by rw [HTC.out]; subst h1; simp only [true_and]; congr 1, below_drewN HBC.out _, HbC.out, _, rfl⟩
          · have e1 : (z1 == r1) = false := by simpa using h1
            go_quiet (fail)
            go_wp2_with fail
            go_meet
            exact ⟨by rw [HTC.out]; simp [h1], below_drewN HBC.out _, HbC.out, _, rfl⟩
        case rest =>
        obtain ⟨rfl, hbc, hbk, q, hq⟩ := hcut
        have HBD := Lib.hid hbc
        have HbD := Lib.hid hbk
        have c8 : wc.cell? ⟨g, m * 9 + 8, none⟩ = some (.slice zha zn zc) := by rw [hq]; exact c8
        have x8 : wc.cell? ⟨wr.heap.size, 8, none⟩ = some (.slice ha rn rc) := by rw [hq]; exact x8
        have hfc : ∀ j, wc.frozen? ⟨g, j, none⟩ = false := fun j => by rw [hq]; exact hfc j
        clear hbc hbk hq x0 x1 x2 x3 x4 x5 x6 x7 hxf HBC HbC c2 c4
        cases tc with
        | true =>
          obtain ⟨h1, h3⟩ : z1 = r1 ∧ z3 = r3 := of_decide_eq_true HTC.out.symm
          have MC := Lib.hid (fun W (hb : Below wr.heap.size wr W) => merge_calls W (.slice zha zn zc) (.slice ha rn rc) zh hs (HZH.out.1.below hb) (HX.out.below hb) (by have h1 : hs.length ≤ M := MX.out; have h2 : zh.length ≤ 400 * M := HZH.out.2; omega))
          have PK := Lib.hid (fun W hb a n cp hh hf => LK.out h1 h3 W hb a n cp hh hf)
          have f8 := hfc (m * 9 + 8)
          clear SK LK HX MX HZH h1 h3 HTC hfc
          go_upto_region 12 with fail
          go_region_law
            (first
            | (go_simp; go_at_call 59; (with_reducible refine (MC.out _ (by first | exact HBD.out.drew | exact HBD.out)).mono ?_); rintro e w5 ⟨v5, rfl, O5, B5⟩
               have H5 := O5.at; obtain ⟨a5, c5, e5, -⟩ := H5.get; generalize hn5 : (Ls.merge Ls.hopLt zh hs).length = n5 at e5; subst e5
               have NXT := Lib.hid (PK.out w5 (HBD.out.drew.trans (B5.mono HBD.out.size)) a5 n5 c5 H5 (fun b hb => ⟨Nat.le_trans HBD.out.size (World.ownsRow.lt O5 b hb).1, (World.ownsRow.lt O5 b hb).2⟩))
               have t8 := bcell B5 c8; have f9 := (B5.frozen (p := ⟨g, m * 9 + 8, none⟩) (Nat.lt_of_lt_of_le HG2.out HBD.out.size)).trans f8
               clear O5 B5 H5 hn5))
          all_goals
            obtain ⟨out', hx'⟩ := NXT.out
            have NX := Lib.hid hx'
            clear hx' NXT PK MC
            go_wp2_with fail
            go_roundw
            case rel => exact ⟨k + 1, _, by go_num, by have := KC.out; omega, NX⟩
            case measure => simp [intOf]; have := KC.out; omega
        | false =>
          have NX := Lib.hid (SK.out (fun h => by have := of_decide_eq_false HTC.out.symm; exact this h) wc HBD.out)
          clear SK LK HX MX HZH HTC hfc
          go_wp2_with fail
          go_roundw
          case rel => exact ⟨k + 1, _, by go_num, by have := KC.out; omega, NX⟩
          case measure => simp [intOf]; have := KC.out; omega
    · obtain rfl : k = s.length := by omega
      have FI : Hid (ChPost w L M (.returned vO) wr) := Lib.hid ⟨vO, out, rfl, S.out.R.at, by
        have h := S.out.C
        rw [List.take_length] at h
        exact h.congr HMM.out, by have := S.out.len; rw [HL.out] at this; exact this, fun x hx => by have := S.out.hl x hx; rw [HL.out] at this; exact this, HB2.out.trans (S.out.R.bel.mono HB2.out.size)⟩
      clear S
      go_wp2_with fail
      go_ret
      exact FI.out

end Go.Proofs.YtogdconliofblaaGreat
