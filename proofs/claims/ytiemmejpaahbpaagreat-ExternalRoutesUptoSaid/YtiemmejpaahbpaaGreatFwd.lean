/-
  slices.Clone at hops; external.forwarded.
-/
/-
  external.forwarded: the cost and the hops to a forwarding address.
-/
import Derived.Test.YtiemmejpaahbpaaGreatLkp
namespace Go.Proofs.YtiemmejpaahbpaaGreat
open Go.RowKit

theorem clone_post {w w1 w2 : World} {l : List Ls.Hop} {v v' : Value} (B : Below w.heap.size w w1) (O : w1.ownsRow w.heap.size 59 3 v 0 []) (O2 : w2.ownsRow w.heap.size 59 3 v' (0 + (l.map hopE).length) ([] ++ (l.map hopE).flatten)) (G : w1.grownBy w2 v.ownBlock) : MrgPost w l (.returned v') w2 :=
  ⟨v', rfl, by rw [List.length_map, Nat.zero_add, List.nil_append] at O2; exact O2, Below.owned B B.size O G⟩

set_option maxHeartbeats 1000000 in
set_option maxRecDepth 100000 in
theorem clone_calls (w : World) (v : Value) (l : List Ls.Hop) (h : HopsAt w v l) (hn : l.length * 16 ≤ 140737488355328) :
    Calls Tryz.prog 79 #[v] w (MrgPost w l) := by
  obtain ⟨i0, hi, hz0, hz1, hz2⟩ := info_parts Tryz.infoHop
  have HI := Lib.hid hi
  have HZ0 := Lib.hid hz0
  have HZ1 := Lib.hid hz1
  have HZ2 := Lib.hid hz2
  clear hi hz0 hz1 hz2
  have H := Lib.hid h
  obtain ⟨a, cap, rfl, h1, h2, h3, -⟩ := h.get
  have K1 : Hid (0 + (l.map hopE).length ≤ maxLen) := Lib.hid (by rw [List.length_map]; unfold maxLen; omega)
  have K2 : Hid ((0 + (l.map hopE).length) * 16 ≤ 140737488355328) := Lib.hid (by rw [List.length_map]; omega)
  clear h hn h2
  cases a with
  | none =>
    have c0 := h3 rfl
    have l0 : l.length = 0 := by omega
    have l1 : l = [] := List.length_eq_zero_iff.1 l0
    subst l1
    subst c0
    clear h1 h3 l0 H K1 K2
    simp only [List.length_nil]
    have NL := fun W => Lib.run_eql_slice_nil (P := Tryz.prog) W 34 59 none 0 0 0 0 Tryz.underlying34
    go_enter Tryz.func79, Tryz.ntmps79
    go_wp2_with fail
    go_ret
    exact ⟨_, rfl, World.ownsRow_nil _ _ _ _, Below.refl _ _⟩
  | some ad =>
    clear h1 h3
    have NL := fun W => Lib.run_eql_slice_nil (P := Tryz.prog) W 34 59 (some ad) l.length cap 0 0 Tryz.underlying34
    have O0 : Hid ((w.alloc (.cells #[] 59)).ownsRow w.heap.size 59 3 (.slice (some ⟨w.heap.size, 0, none⟩) 0 0) 0 []) := Lib.hid (World.ownsRow_made w #[] 0 (Nat.le_refl _) (by unfold maxLen; omega) rfl)
    have HA := Lib.hid (H.out.below ((Below.refl _ _).alloc (Nat.le_refl _) (.cells #[] 59)))
    have B0 : Hid (Below w.heap.size w (w.alloc (.cells #[] 59))) := Lib.hid ((Below.refl _ _).alloc (Nat.le_refl _) _)
    clear H
    go_enter Tryz.func79, Tryz.ntmps79
    go_wp2_with (at_builtin; refine wpList_append_sl rfl _ _ _ rfl w.heap.size 59 i0 _ 3 16 Tryz.underlying34 HI.out HZ0.out HZ1.out HZ2.out rfl (by decide) _ 0 [] rfl O0.out _ (l.map hopE) rfl HA.out (hopE_len l) (hopE_one l) K1.out K2.out (by simp) ?_; intro v' w2 O2 G2; have PO := Lib.hid (clone_post B0.out O0.out O2 G2); clear O2 G2)
    go_ret
    exact PO.out

end Go.Proofs.YtiemmejpaahbpaaGreat

namespace Go.Proofs.YtiemmejpaahbpaaGreat
open Go.RowKit

def fwdHop (a : Int) (h : Ls.Hop) : Ls.Hop := if h.addr = 0 ∧ h.router = 0 then { h with addr := a } else h
def fwdK (a : Int) (l : List Ls.Hop) (k : Nat) : List Ls.Hop := (l.take k).map (fwdHop a) ++ l.drop k

theorem fwdK_len (a : Int) (l : List Ls.Hop) (k : Nat) : (fwdK a l k).length = l.length := by simp [fwdK]; omega
theorem fwdK_get (a : Int) (l : List Ls.Hop) (k : Nat) (h : k < l.length) (h' : k < (fwdK a l k).length) : (fwdK a l k)[k] = l[k] := by
  have e : (fwdK a l k)[k]? = l[k]? := by
    unfold fwdK
    rw [List.getElem?_append_right (by simp; omega), List.getElem?_drop]
    simp [Nat.min_eq_left (Nat.le_of_lt h)]
  rw [List.getElem?_eq_getElem h, List.getElem?_eq_getElem h'] at e
  exact Option.some.inj e
theorem fwdK_succ (a : Int) (l : List Ls.Hop) (k : Nat) (h : k < l.length) : fwdK a l (k + 1) = (fwdK a l k).set k (fwdHop a l[k]) := by
  unfold fwdK
  rw [List.take_succ_eq_append_getElem h, List.map_append, List.set_append_right _ _ (by simp; omega), List.append_assoc]
  congr 1
  have e : (List.map (fwdHop a) (l.take k)).length = k := by simp; omega
  rw [e, Nat.sub_self, List.drop_eq_getElem_cons h]
  rfl
theorem fwdK_all (a : Int) (l : List Ls.Hop) (k : Nat) (h : l.length ≤ k) : fwdK a l k = l.map (fwdHop a) := by
  unfold fwdK
  rw [List.take_of_length_le h, List.drop_eq_nil_of_le h, List.append_nil]

/-- one cell of a hop is stored -/
theorem HopsOwn.setAddr {base : Nat} {w : World} {g n cap : Nat} {d : List Ls.Hop} (h : HopsOwn base w (.slice (some ⟨g, 0, none⟩) n cap) d) (i : Nat) (a : Int) (hi : i < d.length) :
    HopsOwn base (w.setCell ⟨g, i * 3 + 1, none⟩ (.int .u32 a)) (.slice (some ⟨g, 0, none⟩) n cap) (d.set i { d[i] with addr := a }) := by
  obtain ⟨rfl, h1, h2, h3, h4, cur, h5, h6, h7⟩ := h.block
  have hl : (d.map hopE).flatten.length = d.length * 3 := by rw [flat_len _ (hopE_len d), List.length_map]
  have g0 := flat_get (d.map hopE) (hopE_len d) i (by simpa using hi) 0 (.int .i64 d[i].iface) (by simp [hopE])
  have g2 := flat_get (d.map hopE) (hopE_len d) i (by simpa using hi) 2 (.int .u32 d[i].router) (by simp [hopE])
  have key : (d.map hopE).flatten.set (i * 3 + 1) (.int .u32 a) = ((d.set i { d[i] with addr := a }).map hopE).flatten := by
    rcases flat_set { d[i] with addr := a } d i with e | e
    · rw [← e]
      apply List.ext_getElem?
      intro j
      simp only [List.getElem?_set, List.length_set]
      by_cases j0 : i * 3 = j
      · subst j0
        simp only [if_true, show ¬ i * 3 + 2 = i * 3 from by omega, show ¬ i * 3 + 1 = i * 3 from by omega, if_false]
        rw [if_pos (by omega)]; simpa using g0
      · by_cases j2 : i * 3 + 2 = j
        · subst j2
          simp only [show ¬ i * 3 + 1 = i * 3 + 2 from by omega, if_false, if_true]
          rw [if_pos (by omega)]; exact g2
        · simp [j0, j2]
    · omega
  have := HopsOwn.mk (w := w.setCell ⟨g, i * 3 + 1, none⟩ (.int .u32 a)) (d := d.set i { d[i] with addr := a }) (cap := cap) h1 (by simpa using h3) h4 (blk_set h5 _ _) (by simpa using h6) (by
    rw [← key, ← h7]
    simp only [List.length_set, Array.toList_setIfInBounds, List.take_set])
  simpa using this

/-- what the loop carries -/
structure FwRel (W : World) (a : Int) (l : List Ls.Hop) (v : Value) (k : Nat) (wr : World) : Prop where
  own : HopsOwn W.heap.size wr v (fwdK a l k)
  bel : Below W.heap.size W wr
  hk : k ≤ l.length

theorem FwRel.grow {W : World} {a : Int} {l : List Ls.Hop} {v : Value} {k : Nat} {wr wr' : World} (R : FwRel W a l v k wr) (hb : Below wr.heap.size wr wr') : FwRel W a l v k wr' :=
  ⟨R.own.below hb, R.bel.trans (hb.mono R.bel.size), R.hk⟩

theorem FwRel.keep {W : World} {a : Int} {l : List Ls.Hop} {v : Value} {k : Nat} {wr wr' : World} (R : FwRel W a l v k wr) (c : k < l.length) (h : ¬ (l[k].addr = 0 ∧ l[k].router = 0)) (hb : Below wr.heap.size wr wr') : FwRel W a l v (k + 1) wr' := by
  refine ⟨?_, R.bel.trans (hb.mono R.bel.size), c⟩
  have e : fwdK a l (k + 1) = fwdK a l k := by
    rw [fwdK_succ a l k c]
    unfold fwdHop
    rw [if_neg h]
    have c' : k < (fwdK a l k).length := by rw [fwdK_len]; exact c
    rw [← fwdK_get a l k c c', List.set_getElem_self]
  rw [e]
  exact R.own.below hb

theorem FwRel.turn {W : World} {a : Int} {l : List Ls.Hop} {g cap : Nat} {k : Nat} {wr wr' : World} (R : FwRel W a l (.slice (some ⟨g, 0, none⟩) l.length cap) k wr) (c : k < l.length) (h : l[k].addr = 0 ∧ l[k].router = 0) (hb : Below wr.heap.size wr wr') :
    FwRel W a l (.slice (some ⟨g, 0, none⟩) l.length cap) (k + 1) (wr'.setCell ⟨g, k * 3 + 1, none⟩ (.int .u32 a)) := by
  have c' : k < (fwdK a l k).length := by rw [fwdK_len]; exact c
  have h1 := (R.own.below hb).setAddr k a c'
  have hg := R.own.block.2.1
  refine ⟨?_, (R.bel.trans (hb.mono R.bel.size)).setCell hg _, c⟩
  rw [fwdK_succ a l k c]
  unfold fwdHop
  rw [if_pos h, ← fwdK_get a l k c c']
  exact h1

def FwPost (w : World) (c : Int) (l : List Ls.Hop) (f : Bool) (e : Ending) (w' : World) : Prop := ∃ v, e = .returned (.tuple #[.int .i64 c, v, .bool f]) ∧ HopsAt w' v l ∧ Below w.heap.size w w'

theorem FwPost.intro {w w' : World} {l : List Ls.Hop} {v : Value} (h : HopsAt w' v l) (hb : Below w.heap.size w w') (c : Int) (f : Bool) : FwPost w c l f (.returned (.tuple #[.int .i64 c, v, .bool f])) w' := ⟨v, rfl, h, hb⟩

/-- the route that lookup hands back: its hops lie where they lay -/
theorem lookR_hops {w : World} {v : Value} {l : List RtH} (h : RoutesAt w v l) (a : Int) : HopsAt w (lookR a l).rt.hv (lookR a l).hops := by
  unfold lookR
  cases hq : lookO a l l.length with
  | none => exact hopsNil w
  | some j =>
    have hj := lookO_lt a l l.length j hq
    show HopsAt w (l.getD j default).rt.hv (l.getD j default).hops
    rw [List.getD_eq_getElem?_getD, List.getElem?_eq_getElem hj]
    exact h.hops _ (List.getElem_mem hj)

set_option maxHeartbeats 4000000 in
set_option maxRecDepth 100000 in
theorem forwarded_calls (a : Int) (a0 : 0 ≤ a) (a1 : a < 4294967296) (v : Value) (l : List RtH) (w : World) (h : RoutesAt w v l) (ok : ∀ x ∈ l, OkP x.rt.pfx) (hn : (lookR a l).hops.length * 16 ≤ 140737488355328) :
    Calls Tryz.prog 53 #[.int .u32 a, v] w (FwPost w (lookR a l).rt.cost ((lookR a l).hops.map (fwdHop a)) (lookO a l l.length).isSome) := by
  have LC := Lib.hid (lookup_calls a a0 a1 v l w h ok)
  have HH := Lib.hid (lookR_hops h a)
  have HN := Lib.hid hn
  obtain ⟨ad, cap, rfl, -⟩ := h.get
  generalize (lookO a l l.length).isSome = f at *
  generalize lookR a l = r at *
  clear h ok hn
  obtain ⟨⟨⟨pa, pl⟩, x2, x3, x4, x5, x6, x7, xa, xn, xc⟩, hs⟩ := r
  simp only [Rt.hv] at HH
  go_enter Tryz.func53, Tryz.ntmps53
  go_wp2_with fail
  refine LC.out.mono ?_
  rintro e w1 ⟨rfl, B1⟩
  simp only [rtE]
  clear LC
  go_wp2_with fail
  obtain ⟨W, hW⟩ : ∃ W, w1.alloc (.cells #[.int .u32 pa, .int .i64 pl, .int .i64 x2, .int .u32 x3, .int .i64 x4, .bool x5, .int .i64 x6, .int .i64 x7, .slice xa xn xc] 36) = W := ⟨_, rfl⟩
  have B2 : Below w.heap.size w W := by rw [← hW]; exact B1.alloc B1.size _
  have hs1 : w1.heap.size < W.heap.size := by rw [← hW]; simp
  have r4 : W.cell? ⟨w1.heap.size, 4, none⟩ = some (.int .i64 x4) := by rw [← hW]; exact blk_cell (alloc_new _ _) rfl
  have HW := Lib.hid hW
  rw [hW]
  clear hW
  refine (clone_calls W _ hs (HH.out.below B2) HN.out).mono ?_
  rintro e wc ⟨v, rfl, O, B⟩
  have R0 := Lib.hid (FwRel.mk (a := a) (l := hs) (k := 0) (show HopsOwn W.heap.size wc v (fwdK a hs 0) from O) B (Nat.zero_le _))
  clear O B HH HN
  rcases own_cases R0.out.own with ⟨rfl, h0⟩ | ⟨g, cap, cur, rfl, -, -, -, hcap, hmax, -⟩
  · rw [fwdK_len] at h0
    obtain rfl := List.length_eq_zero_iff.1 h0
    have E := Lib.hid (FwPost.intro (R0.out.own.at) (B2.trans (R0.out.bel.mono B2.size)))
    have r4 := bcell R0.out.bel r4
    clear R0 HW B1 B2 h0
    go_wp2_with fail
    refine wp_loop_rounds 1 ?_
    rw [rounds_succ]
    go_wp2_with fail
    go_ret3
    exact E.out _ _
  · rw [fwdK_len] at R0 hcap ⊢
    have hl : hs.length ≤ 9223372036854775807 := by unfold maxLen at hmax; omega
    have R4 := Lib.hid (fun k wr (R : FwRel W a hs (.slice (some ⟨g, 0, none⟩) hs.length cap) k wr) => bcell R.bel r4)
    clear hmax hcap r4 HW
    go_wp2_with fail
    go_loopw [23] (fun i wr => ∃ k : Nat, i = .int .i64 k ∧ FwRel W a hs (.slice (some ⟨g, 0, none⟩) hs.length cap) k wr) (fun i _ => hs.length - (intOf i).toNat)
    case atStart => exact ⟨0, rfl, R0.out⟩
    case round =>
      obtain ⟨k, rfl, R⟩ := hrel
      have hk := R.hk
      by_cases c : k < hs.length
      · have c' : k < (fwdK a hs k).length := by rw [fwdK_len]; exact c
        obtain ⟨y0, y1, y2⟩ := R.own.cell k c'
        rw [fwdK_get a hs k c c'] at y0 y1 y2
        have f1 := R.own.free (k * 3 + 1)
        have RR := Lib.hid R
        have glt := R.own.block.2.2.1
        clear R c'
        by_cases t : hs[k].addr = 0 ∧ hs[k].router = 0
        · have NX := Lib.hid (fun o => (RR.out.turn c t (Below.refl _ _)).grow ((Below.refl _ _).alloc (Nat.le_refl _) o))
          rw [t.1] at y1
          rw [t.2] at y2
          clear t RR
          generalize hs[k] = x at *
          obtain ⟨z0, z1, z2⟩ := x
          simp only at y0 y1 y2
          go_wp2_with fail
          go_roundw
          case rel => exact ⟨k + 1, by go_num, NX.out _⟩
          case measure => simp [intOf]; omega
        · have NX := Lib.hid (fun o => RR.out.keep c t ((Below.refl _ _).alloc (Nat.le_refl _) o))
          clear RR
          generalize hs[k] = x at *
          obtain ⟨z0, z1, z2⟩ := x
          simp only at y0 y1 y2 t
          by_cases t1 : z1 = 0
          · subst t1
            have t2 : decide (z2 = 0) = false := by simpa using t
            have t3 : (z2 == 0) = false := by simpa using t
            clear t
            go_wp2_with fail
            go_roundw
            case rel => exact ⟨k + 1, by go_num, NX.out _⟩
            case measure => simp [intOf]; omega
          · have t2 : decide (z1 = 0) = false := by simpa using t1
            have t3 : (z1 == 0) = false := by simpa using t1
            clear t t1
            go_wp2_with fail
            go_roundw
            case rel => exact ⟨k + 1, by go_num, NX.out _⟩
            case measure => simp [intOf]; omega
      · have r4 := R4.out k wr R
        have E := Lib.hid (FwPost.intro (R.own.at) (B2.trans (R.bel.mono B2.size)) (l := fwdK a hs k))
        rw [fwdK_all a hs k (by omega)] at E
        clear R
        go_wp2_with fail
        go_ret3
        exact E.out _ _
end Go.Proofs.YtiemmejpaahbpaaGreat
