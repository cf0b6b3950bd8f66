/-
  The document's examples of external routes, in plain words.
-/
/-
  routinglaw34.lives: the document's examples hold.
-/
import Derived.Test.YtiemmejpaahbpaaGreatRtw
import Derived.Test.YtiemmejpaahbpaaGreatSel
namespace Go.Proofs.YtiemmejpaahbpaaGreat
open Go.RowKit

def exL (second : Bool) : Lsa := ⟨5, 0, 0, 4, 1, 0, 0, false, false, none, 0, 0, none, 0, 0, 3, second, 0, 0⟩
/-- sealed -/
def exS (second : Bool) (s : Int) (la : Option Addr) (lc : Nat) (aa : Option Addr) (ac : Nat) : Lsa := { exL second with sum := s, la := la, ln := 0, lc := lc, aa := aa, an := 0, ac := ac }
def exH : Ls.Hop := ⟨1, 5, 4⟩
def exR (b : Nat) : Rch := ⟨4, 0, false, false, true, 12, some ⟨b, 0, none⟩, 1, 1, [exH]⟩
def exO (second : Bool) : Rp := ⟨⟨0, 0⟩, 5, 0, if second then 12 else 15, second, if second then 3 else 0, 0, [exH]⟩

theorem exL_ok (b : Bool) : OkL (exL b) := by cases b <;> (constructor <;> decide)
theorem exL_oh (b : Bool) : OkH (exL b) := by cases b <;> (constructor <;> decide)
theorem exL_chk (b : Bool) : chkP (exL b) = 0 := by cases b <;> decide
theorem exS_way (second : Bool) (s : Int) (la : Option Addr) (lc : Nat) (aa : Option Addr) (ac : Nat) (b : Nat) : offWay (exS second s la lc aa ac) [exR b] [] = (12, [exH], true) := by
  unfold offWay
  have e : wayP (exS second s la lc aa ac).router [exR b] = ⟨true, false, 12, [exH]⟩ := by rfl
  rw [e]; rfl
theorem exS_off (second : Bool) (s : Int) (la : Option Addr) (lc : Nat) (aa : Option Addr) (ac : Nat) (b : Nat) : offR (exS second s la lc aa ac) [exR b] [] = exO second := by
  unfold offR
  rw [exS_way]
  cases second <;> rfl
theorem exS_okb (second : Bool) (s : Int) (la : Option Addr) (lc : Nat) (aa : Option Addr) (ac : Nat) (b : Nat) : offOk (exS second s la lc aa ac) [exR b] [] = true := by
  unfold offOk
  rw [exS_way, exS_off]
  cases second <;> rfl
theorem exS_tab (second : Bool) (s : Int) (la : Option Addr) (lc : Nat) (aa : Option Addr) (ac : Nat) (b : Nat) : tabOf 1 [exR b] [] [exS second s la lc aa ac] = upd (fun _ => none) ⟨0, 0⟩ (exO second) := by
  unfold tabOf
  rw [List.foldl_cons, List.foldl_nil]
  unfold tabStep
  rw [exS_okb, exS_off]
  cases second <;> rfl

theorem one_of_tab {l : List RtH} {r : Rp} {p : Ls.Pfx} (hp : (l.map RtH.pure).Pairwise fun a b => Ls.pfxLt a.pfx b.pfx = true) (h : ∀ x, x ∈ l.map RtH.pure ↔ upd (fun _ => none) p r x.pfx = some x) (hr : r.pfx = p) : ∃ x, l = [x] ∧ x.pure = r := by
  have hm : ∀ x ∈ l.map RtH.pure, x = r := by
    intro x hx
    have := (h x).1 hx
    unfold upd at this
    split at this
    · exact (Option.some.inj this).symm
    · cases this
  have hi : r ∈ l.map RtH.pure := (h r).2 (by unfold upd; rw [if_pos hr])
  match l, hp, hm, hi with
  | [], _, _, hi => simp at hi
  | [x], _, hm, _ => exact ⟨x, rfl, hm _ (by simp)⟩
  | x :: y :: l, hp, hm, _ =>
    have h1 := hm x.pure (by simp)
    have h2 := hm y.pure (by simp)
    have := (List.pairwise_cons.1 hp).1 y.pure (by simp)
    rw [h1, h2, Ls.pfxLin.irr] at this
    cases this

theorem exBd (second : Bool) (s : Int) (la : Option Addr) (lc : Nat) (aa : Option Addr) (ac : Nat) (b : Nat) : RBd [exS second s la lc aa ac] [exR b] [] 1 := by
  refine ⟨?_, ?_, ?_, fun y hy => by simp at hy, by simp [hopSum, exR], ?_, ?_, ?_, by simp, by simp⟩
  · intro x hx; rw [List.mem_singleton] at hx; subst hx; have h := exL_ok second; exact ⟨h.id0, h.id1, h.r0, h.r1, h.f0, h.f1⟩
  · intro x hx _; rw [List.mem_singleton] at hx; subst hx; exact ⟨(by decide : (0 : Int) ≤ 0), (by decide : (0 : Int) ≤ 32)⟩
  · intro x hx _; rw [List.mem_singleton] at hx; subst hx; exact ⟨(by decide : (0 : Int) ≤ 3), (by decide : (3 : Int) ≤ 4294967296)⟩
  · intro x hx; simp [lookR, lookO, zeroRtH]
  · intro x hx; rw [List.mem_singleton] at hx; subst hx; rw [exS_way]; exact ⟨by decide, by decide⟩
  · intro x hx; rw [List.mem_singleton] at hx; subst hx; rw [exS_off]; cases second <;> decide

end Go.Proofs.YtiemmejpaahbpaaGreat

namespace Go.Proofs.YtiemmejpaahbpaaGreat
open Go.RowKit

theorem exL_none (b : Bool) (w : World) : NoLists w (exL b) := ⟨⟨none, 0, rfl, Nat.le_refl _, (by unfold maxLen; omega), fun _ => rfl, fun h => by simp at h⟩, ⟨none, 0, rfl, Nat.le_refl _, (by unfold maxLen; omega), fun _ => rfl, fun h => by simp at h⟩⟩

theorem routesNil (w : World) : RoutesAt w (.slice none 0 0) [] := ⟨⟨none, 0, rfl, Nat.le_refl _, (by unfold maxLen; omega), fun _ => rfl, fun h => by simp at h⟩, fun x hx => by simp at hx⟩

def LivPost (w : World) (e : Ending) (w' : World) : Prop := e = .returned (.bool true) ∧ Below w.heap.size w w'

/-- the one route of an example -/
theorem one_route {w : World} {g : Tab} {e : Ending} {w' : World} {r : Rp} {p : Ls.Pfx} (h : RtsPost w g e w') (hg : g = upd (fun _ => none) p r) (hr : r.pfx = p) :
    ∃ (b off cap : Nat) (x : RtH), e = .returned (.slice (some ⟨b, off, none⟩) 1 cap) ∧ b < w'.heap.size ∧ RtCells w' b off x.rt ∧ x.pure = r ∧ Below w.heap.size w w' := by
  obtain ⟨v, l, rfl, hR, hb, hp, hm⟩ := h
  subst hg
  obtain ⟨x, rfl, hx⟩ := one_of_tab hp hm hr
  obtain ⟨a, cap, rfl, -, hc⟩ := hR.get
  obtain ⟨b, off, rfl, hlt, hcc⟩ := hc (by simp)
  have := hcc 0 (by simp)
  rw [Nat.zero_mul, Nat.add_zero] at this
  exact ⟨b, off, cap, x, rfl, hlt, this, hx, hb⟩

set_option maxHeartbeats 8000000 in
set_option maxRecDepth 100000 in
theorem lives_calls (w : World) : Calls Tryz.prog 7 #[] w (LivPost w) := by
  have S1 := Lib.hid (fun W => seal_calls (exL false) (exL_ok _) (exL_oh _) (.inr (.inr rfl)) (exL_chk _) W (exL_none _ W))
  have S2 := Lib.hid (fun W => seal_calls (exL true) (exL_ok _) (exL_oh _) (.inr (.inr rfl)) (exL_chk _) W (exL_none _ W))
  simp only [exL, lsaE] at S1 S2
  go_enter Tryz.func7, Tryz.ntmps7
  go_wp2_with fail
  refine (S1.out _).mono ?_
  rintro e w1 ⟨s1, la, lc, aa, ac, rfl, B1⟩
  have HB1 := Lib.hid B1
  clear B1 S1
  simp only [lsaE]
  obtain ⟨W1, hW1⟩ : ∃ W1, w1.alloc (.cells #[.int .i64 5, .int .u32 0, .int .i64 0, .int .u32 4, .int .i64 1, .int .i64 0, .int .i64 s1, .bool false, .bool false, .slice la 0 lc, .slice aa 0 ac, .int .i64 3, .bool false, .int .u32 0, .int .i64 0] 44) = W1 := ⟨_, rfl⟩
  have b1 : W1.heap[w1.heap.size]? = some (.cells #[.int .i64 5, .int .u32 0, .int .i64 0, .int .u32 4, .int .i64 1, .int .i64 0, .int .i64 s1, .bool false, .bool false, .slice la 0 lc, .slice aa 0 ac, .int .i64 3, .bool false, .int .u32 0, .int .i64 0] 44 (0, 0)) := by rw [← hW1]; exact alloc_new _ _
  have HX1 := Lib.hid b1
  have HBW1 : Hid (Below w.heap.size w W1) := Lib.hid (by rw [← hW1]; exact HB1.out.alloc HB1.out.size _)
  have HW1 := Lib.hid hW1
  clear b1 hW1
  go_wp2_with fail
  rw [HW1.out]
  refine (S2.out _).mono ?_
  rintro e w2 ⟨s2, la2, lc2, aa2, ac2, rfl, B2⟩
  have HX2 := Lib.hid ((B2.block w1.heap.size (blk_lt HX1.out)).trans HX1.out)
  have HB2 := Lib.hid (HBW1.out.trans (B2.mono HBW1.out.size))
  clear B2 S2 HW1 HX1 HBW1 HB1
  simp only [lsaE]
  obtain ⟨⟨⟨e0, e1, e2, e3, e4⟩, ⟨e5, e6, e7, e8, e9⟩, ⟨e10, e11, e12, e13, e14⟩⟩, -⟩ := blk15 HX2.out
  have lt2 : w1.heap.size < w2.heap.size := blk_lt HX2.out
  have ne2 : ¬ w1.heap.size = w2.heap.size := by omega
  obtain ⟨W2, hW2⟩ : ∃ W2, w2.alloc (.cells #[.int .i64 5, .int .u32 0, .int .i64 0, .int .u32 4, .int .i64 1, .int .i64 0, .int .i64 s2, .bool false, .bool false, .slice la2 0 lc2, .slice aa2 0 ac2, .int .i64 3, .bool true, .int .u32 0, .int .i64 0] 44) = W2 := ⟨_, rfl⟩
  obtain ⟨W3, hW3⟩ : ∃ W3, (W2.alloc (.cells #[.int .i64 1, .int .u32 5, .int .u32 4] 59)).alloc (.cells #[.int .u32 4, .int .u32 0, .bool false, .bool false, .bool true, .int .i64 12, .slice (some ⟨w2.heap.size + 1, 0, none⟩) 1 1] 61) = W3 := ⟨_, rfl⟩
  obtain ⟨W4, hW4⟩ : ∃ W4, W3.alloc (.cells #[.int .i64 5, .int .u32 0, .int .i64 0, .int .u32 4, .int .i64 1, .int .i64 0, .int .i64 s1, .bool false, .bool false, .slice la 0 lc, .slice aa 0 ac, .int .i64 3, .bool false, .int .u32 0, .int .i64 0] 44) = W4 := ⟨_, rfl⟩
  have HW2 := Lib.hid hW2
  have HW3 := Lib.hid hW3
  have HW4 := Lib.hid hW4
  clear hW2 hW3 hW4
  have B23 : Below w2.heap.size w2 W3 := by rw [← HW3.out, ← HW2.out]; exact (((Below.refl _ _).alloc (Nat.le_refl _) _).alloc (by simp) _).alloc (by simp; omega) _
  have hs3 : W3.heap.size = w2.heap.size + 3 := by rw [← HW3.out, ← HW2.out]; simp
  have B34 : Below W3.heap.size W3 W4 := by rw [← HW4.out]; exact (Below.refl _ _).alloc (Nat.le_refl _) _
  have HH : HopsAt W3 (.slice (some ⟨w2.heap.size + 1, 0, none⟩) 1 1) [exH] := by
    have e : w2.heap.size + 1 = W2.heap.size := by rw [← HW2.out]; simp
    have h := sl_one (w := W2) (vals := hopE exH) (t := 59)
    rw [e, ← HW3.out]
    exact SlV.below h ((Below.refl _ _).alloc (Nat.le_refl _) _)
  have HR3 : ReachAt W3 (.slice (some ⟨w2.heap.size + 1 + 1, 0, none⟩) 1 1) [exR (w2.heap.size + 1)] := by
    refine ⟨?_, fun x hx => ?_⟩
    · have e : w2.heap.size + 1 + 1 = (W2.alloc (.cells #[.int .i64 1, .int .u32 5, .int .u32 4] 59)).heap.size := by rw [← HW2.out]; simp
      have h := sl_one (w := W2.alloc (.cells #[.int .i64 1, .int .u32 5, .int .u32 4] 59)) (vals := rchE (exR (w2.heap.size + 1))) (t := 61)
      rw [e, ← HW3.out]
      exact h
    · rw [List.mem_singleton] at hx; subst hx; exact HH
  have HD4 : LsasAt W4 (.slice (some ⟨W3.heap.size, 0, none⟩) 1 1) [exS false s1 la lc aa ac] := by
    rw [← HW4.out]
    exact sl_one (w := W3) (vals := lsaE (exS false s1 la lc aa ac)) (t := 44)
  have HRC := Lib.hid HR3
  have B24 := B23.trans (B34.mono B23.size)
  have RC1 := Lib.hid ((routes_calls W4 [exS false s1 la lc aa ac] _ 1 [exR (w2.heap.size + 1)] _ [] _ 1 HD4 (HR3.below B34) (routesNil W4) (exBd _ _ _ _ _ _ _)).mono fun _ _ h => one_route h (exS_tab _ _ _ _ _ _ _) rfl)
  have b3 := (B23.block w1.heap.size lt2).trans HX2.out
  have HX4 := Lib.hid ((B24.block w1.heap.size lt2).trans HX2.out)
  have HY4 : Hid (W4.heap[w2.heap.size]? = some (.cells #[.int .i64 5, .int .u32 0, .int .i64 0, .int .u32 4, .int .i64 1, .int .i64 0, .int .i64 s2, .bool false, .bool false, .slice la2 0 lc2, .slice aa2 0 ac2, .int .i64 3, .bool true, .int .u32 0, .int .i64 0] 44 (0, 0))) := Lib.hid (by
    refine (B34.block w2.heap.size (by omega)).trans ?_
    rw [← HW3.out, ← HW2.out]
    exact (alloc_get _ _ _ (by simp; omega)).trans ((alloc_get _ _ _ (by simp)).trans (alloc_new _ _))
    )
  have HB4 : Hid (Below w.heap.size w W4) := Lib.hid (HB2.out.trans (B24.mono HB2.out.size))
  have HB34 := Lib.hid B34
  clear e0 e1 e2 e3 e4 e5 e6 e7 e8 e9 e10 e11 e12 e13 e14 HH HR3 HD4 B34 B24 B23 hs3 HX2 lt2 ne2 HB2
  obtain ⟨⟨⟨e0, e1, e2, e3, e4⟩, ⟨e5, e6, e7, e8, e9⟩, ⟨e10, e11, e12, e13, e14⟩⟩, -⟩ := blk15 b3
  clear b3
  go_upto_region 4 with fail
  rw [HW2.out, HW3.out]
  go_wp2_with fail
  rw [HW4.out]
  refine RC1.out.mono ?_
  rintro e w5 ⟨ba, oa, ca, xa, rfl, hba, hca, hxa, hb5⟩
  have HB5 := Lib.hid (HB4.out.trans (hb5.mono HB4.out.size))
  have HY5 := Lib.hid ((hb5.block w2.heap.size (blk_lt HY4.out)).trans HY4.out)
  have HBA := Lib.hid hba
  have HCA := Lib.hid hca
  obtain ⟨W6, hW6⟩ : ∃ W6, w5.alloc (.cells #[.int .i64 5, .int .u32 0, .int .i64 0, .int .u32 4, .int .i64 1, .int .i64 0, .int .i64 s2, .bool false, .bool false, .slice la2 0 lc2, .slice aa2 0 ac2, .int .i64 3, .bool true, .int .u32 0, .int .i64 0] 44) = W6 := ⟨_, rfl⟩
  have B56 : Below w5.heap.size w5 W6 := by rw [← hW6]; exact (Below.refl _ _).alloc (Nat.le_refl _) _
  have HD6 : LsasAt W6 (.slice (some ⟨w5.heap.size, 0, none⟩) 1 1) [exS true s2 la2 lc2 aa2 ac2] := by
    rw [← hW6]
    exact sl_one (w := w5) (vals := lsaE (exS true s2 la2 lc2 aa2 ac2)) (t := 44)
  have RC2 := Lib.hid ((routes_calls W6 [exS true s2 la2 lc2 aa2 ac2] _ 1 [exR (w2.heap.size + 1)] _ [] _ 1 HD6 (HRC.out.below (HB34.out.trans ((hb5.trans (B56.mono hb5.size)).mono HB34.out.size))) (routesNil W6) (exBd _ _ _ _ _ _ _)).mono fun _ _ h => one_route h (exS_tab _ _ _ _ _ _ _) rfl)
  have HB56 := Lib.hid B56
  have HW6 := Lib.hid hW6
  clear e0 e1 e2 e3 e4 e5 e6 e7 e8 e9 e10 e11 e12 e13 e14 hba hca hb5 hW6 B56 HD6 HB4 HY4 HX4 HRC HB34 RC1 HW2 HW3 HW4
  obtain ⟨⟨⟨e0, e1, e2, e3, e4⟩, ⟨e5, e6, e7, e8, e9⟩, ⟨e10, e11, e12, e13, e14⟩⟩, -⟩ := blk15 HY5.out
  obtain ⟨⟨pa, o2, o3, o4, o5, o6, o7, qa, qn, qc⟩, oh⟩ := xa
  simp only [RtH.pure, exO, Rp.mk.injEq, Bool.false_eq_true, if_false] at hxa
  obtain ⟨rfl, rfl, rfl, rfl, rfl, rfl, rfl, rfl⟩ := hxa
  go_wp2_with fail
  rw [HW6.out]
  refine RC2.out.mono ?_
  rintro e w7 ⟨bb, ob, cb, xb, rfl, hbb, hcb, hxb, hb7⟩
  obtain ⟨⟨pb, p2, p3, p4, p5, p6, p7, ra, rn, rc⟩, ph⟩ := xb
  simp only [RtH.pure, exO, Rp.mk.injEq, if_true] at hxb
  obtain ⟨rfl, rfl, rfl, rfl, rfl, rfl, rfl, rfl⟩ := hxb
  have B57 := HB56.out.trans (hb7.mono HB56.out.size)
  have FIN : Hid (Below w.heap.size w w7) := Lib.hid (HB5.out.trans (B57.mono HB5.out.size))
  obtain ⟨-, -, -, -, ka4, ka5, -, -, -⟩ := HCA.out.below B57 HBA.out
  obtain ⟨m0, m1, m2, m3, m4, m5, m6, m7, m8⟩ := hcb
  have CMP := Lib.hid (fun W => rcompare_calls ⟨⟨0, 0⟩, 5, 0, 12, true, 3, 0, ra, rn, rc⟩ ⟨⟨0, 0⟩, 0, 0, 1, true, 4, 0, none, 0, 0⟩ W)
  simp only [rtE] at CMP
  rw [show rtCmp ⟨⟨0, 0⟩, 5, 0, 12, true, 3, 0, ra, rn, rc⟩ ⟨⟨0, 0⟩, 0, 0, 1, true, 4, 0, none, 0, 0⟩ = -1 from rfl] at CMP
  simp only at ka4 ka5 m0 m1 m2 m3 m4 m5 m6 m7 m8
  clear e0 e1 e2 e3 e4 e5 e6 e7 e8 e9 e10 e11 e12 e13 e14 hb7 B57 HB5 HY5 HBA HCA HB56 RC2 HW6 hbb
  go_wp2_with fail
  refine (CMP.out _).mono ?_
  rintro e w8 ⟨rfl, G8⟩
  have FIN2 := Lib.hid (FIN.out.trans (G8.b.mono FIN.out.size))
  clear m0 m1 m2 m3 m4 m5 m6 m7 m8 ka4 ka5 G8 CMP FIN
  go_wp2_with fail
  go_ret
  exact ⟨rfl, FIN2.out⟩

end Go.Proofs.YtiemmejpaahbpaaGreat
