/-
  The arguments of Routes are valid and not many: what 'fine' tells.
-/
/-
  External routes in plain words: what a valid database, valid ways and routes of small bulk give; where a route of the table comes from.
-/
import Derived.Test.YtiemmejpaahbpaaGreatSla
import Derived.Test.YtiemmejpaahbpaaGreatRts
import Derived.Test.YtiemmejpaahbpaaGreatRtw
import Derived.Deep.DeepCutAuto
namespace Go.Proofs.YtiemmejpaahbpaaGreat
open Go.RowKit

def FinePost (w : World) (P : Prop) (e : Ending) (w' : World) : Prop := ∃ b : Bool, e = .returned (.bool b) ∧ Below w.heap.size w w' ∧ (b = true → P)
def costFine (c : Int) : Prop := 0 ≤ c ∧ c ≤ 1099511627776
def rchAt (l : List Rch) (k : Nat) : Rch := if h : k < l.length then l[k] else ⟨0, 0, false, false, false, 0, none, 0, 0, []⟩
theorem rchAt_eq {l : List Rch} {k : Nat} (h : k < l.length) : rchAt l k = l[k] := dif_pos h
def rthAt (l : List RtH) (k : Nat) : RtH := l.getD k default
theorem rthAt_eq {l : List RtH} {k : Nat} (c : k < l.length) : rthAt l k = l[k] := by
  rw [rthAt, List.getD_eq_getElem?_getD, List.getElem?_eq_getElem c]; rfl

set_option maxHeartbeats 4000000 in
set_option maxRecDepth 100000 in
theorem finereach_calls (w : World) (v : Value) (l : List Rch) (h : ReachAt w v l) : Calls Tryz.prog 19 #[v] w (FinePost w (∀ y ∈ l, costFine y.cost)) := by
  obtain ⟨ad, cap, rfl, hlen, hc⟩ := h.get
  have HC := Lib.hid hc
  clear h hc
  have NO : Hid (FinePost w (∀ y ∈ l, costFine y.cost) (.returned (.bool false)) w) := Lib.hid ⟨false, rfl, Below.refl _ _, fun h => by cases h⟩
  go_enter Tryz.func19, Tryz.ntmps19
  go_wp2_with fail
  go_loop [3] (fun i => ∃ k : Nat, i = .int .i64 k ∧ k ≤ l.length ∧ Hid (∀ i, i < k → costFine (rchAt l i).cost)) (fun i => l.length - (intOf i).toNat)
  case atStart => exact ⟨0, rfl, Nat.zero_le _, Lib.hid (fun i hi => by omega)⟩
  case round =>
    obtain ⟨k, rfl, hk, R⟩ := hrel
    by_cases c : k < l.length
    · obtain ⟨b, off, rfl, hb0, hcc⟩ := HC.out (by omega)
      obtain ⟨-, -, -, -, -, d5, -⟩ := hcc k c
      rw [← rchAt_eq c] at d5
      have NX := Lib.hid (fun (h : costFine (rchAt l k).cost) i (hi : i < k + 1) => by
        rcases Nat.lt_or_ge i k with h' | h'
        · exact R.out i h'
        · rw [show i = k from by omega]; exact h)
      clear hcc R
      generalize rchAt l k = y at *
      obtain ⟨yr, ya, yi, yb, ybd, cost, yh, yn, yc, yhs⟩ := y
      simp only at d5
      by_cases c0 : cost < 0
      · have g0 : decide (cost < 0) = true := by simpa using c0
        go_wp2_with fail
        go_returns
        exact NO.out
      by_cases c1 : 1099511627776 < cost
      · have g1 : decide (1099511627776 < cost) = true := by simpa using c1
        have g0 : decide (cost < 0) = false := by simpa using c0
        go_wp2_with fail
        go_returns
        exact NO.out
      have N2 := Lib.hid (NX.out ⟨by simp only; omega, by simp only; omega⟩)
      have g0 : decide (cost < 0) = false := by simpa using c0
      have g1 : decide (1099511627776 < cost) = false := by simpa using c1
      go_wp2_with fail
      go_round
      case rel => exact ⟨k + 1, by go_num, c, N2⟩
      case measure => simp [intOf]; omega
    · have E : Hid (FinePost w (∀ y ∈ l, costFine y.cost) (.returned (.bool true)) w) := Lib.hid ⟨true, rfl, Below.refl _ _, fun _ y hy => by
        obtain ⟨i, hi, rfl⟩ := List.getElem_of_mem hy
        rw [← rchAt_eq hi]; exact R.out i (by omega)⟩
      go_wp2_with fail
      go_ret
      exact E.out

structure FrRel (w : World) (l : List RtH) (k : Nat) (wr : World) : Prop where
  hk : k ≤ l.length
  ok : ∀ i, i < k → validP (rthAt l i).rt.pfx = true
  gr : Gr w wr

set_option maxHeartbeats 4000000 in
set_option maxRecDepth 100000 in
theorem fineroutes_calls (w : World) (v : Value) (l : List RtH) (h : RoutesAt w v l) (ok : ∀ y ∈ l, OkP y.rt.pfx) : Calls Tryz.prog 20 #[v] w (FinePost w (∀ y ∈ l, validP y.rt.pfx = true)) := by
  obtain ⟨ad, cap, rfl, hlen, hc⟩ := h.get
  have HC := Lib.hid hc
  have OK := Lib.hid ok
  clear h hc ok
  have NO : Hid (∀ W, Gr w W → FinePost w (∀ y ∈ l, validP y.rt.pfx = true) (.returned (.bool false)) W) := Lib.hid fun W g => ⟨false, rfl, g.b, fun h => by cases h⟩
  have R0 : Hid (FrRel w l 0 w) := Lib.hid ⟨Nat.zero_le _, fun i hi => by omega, Gr.refl _⟩
  go_enter Tryz.func20, Tryz.ntmps20
  go_wp2_with fail
  go_loopw [3] (fun i wr => ∃ k : Nat, i = .int .i64 k ∧ FrRel w l k wr) (fun i _ => l.length - (intOf i).toNat)
  case atStart => exact ⟨0, rfl, R0.out⟩
  case round =>
    clear R0
    obtain ⟨k, rfl, R⟩ := hrel
    have hk := R.hk
    by_cases c : k < l.length
    · obtain ⟨b, off, rfl, hb0, hcc⟩ := HC.out (by omega)
      obtain ⟨d0, d1, -⟩ := (hcc k c).below R.gr.b hb0
      rw [← rthAt_eq c] at d0 d1
      have okk : OkP (rthAt l k).rt.pfx := by rw [rthAt_eq c]; exact OK.out _ (List.getElem_mem c)
      have FC := Lib.hid (fun W => fits_calls (rthAt l k).rt.pfx.addr (rthAt l k).rt.pfx.len okk.a0 okk.a1 W)
      have NX := Lib.hid (fun (h : validP (rthAt l k).rt.pfx = true) (W : World) (g : Gr wr W) => (⟨c, fun i hi => by
        rcases Nat.lt_or_ge i k with h' | h'
        · exact R.ok i h'
        · rw [show i = k from by omega]; exact h, R.gr.trans g⟩ : FrRel w l (k + 1) W))
      have ST := Lib.hid (fun (W : World) (g : Gr wr W) => NO.out W (R.gr.trans g))
      have i0 : (0 : Int) ≤ (k : Int) := by omega
      have i1 : (k : Int) < (l.length : Int) := by omega
      clear hcc R okk
      generalize rthAt l k = y at *
      obtain ⟨⟨⟨pa, pl⟩, proto, area, cost, second, cost2, tag, ha, hn, hcp⟩, hops⟩ := y
      simp only at d0 d1 FC NX
      have EF : Hid (fitsB pa pl = validP ⟨pa, pl⟩) := Lib.hid rfl
      cases hf : fitsB pa pl with
      | false =>
        rw [hf] at FC
        have E := Lib.hid (fun n => ST.out (wr.drewN n) ((Gr.refl _).drewN n))
        go_wp2_with fail
        go_quiet ((go_at_call 48; exact quiet1 FC.out))
        go_wp2_with fail
        go_returns
        exact E.out _
      | true =>
        have N2 := Lib.hid (fun n => NX.out (EF.out ▸ hf) (wr.drewN n) ((Gr.refl _).drewN n))
        rw [hf] at FC
        go_wp2_with fail
        go_quiet ((go_at_call 48; exact quiet1 FC.out))
        clear d0 d1
        go_wp2_with fail
        go_roundw
        case rel => exact ⟨k + 1, by go_num, N2.out _⟩
        case measure => simp [intOf]; omega
    · have E : Hid (FinePost w (∀ y ∈ l, validP y.rt.pfx = true) (.returned (.bool true)) wr) := Lib.hid ⟨true, rfl, R.gr.b, fun _ y hy => by
        obtain ⟨i, hi, rfl⟩ := List.getElem_of_mem hy
        rw [← rthAt_eq hi]; exact R.ok i (by omega)⟩
      clear R
      go_wp2_with fail
      go_ret
      exact E.out

/-- what 'fine' tells -/
structure FineArgs (db : List LsaD) (reach : List Rch) (inner : List RtH) : Prop where
  n1 : db.length ≤ 200
  n2 : inner.length ≤ 100
  db : DbOk db
  rc : ∀ y ∈ reach, costFine y.cost
  rv : ∀ y ∈ inner, validP y.rt.pfx = true
  ic : ∀ y ∈ inner, costFine y.rt.cost

set_option maxHeartbeats 4000000 in
set_option maxRecDepth 100000 in
theorem fine_calls (w : World) (vd : Value) (db : List LsaD) (vr : Value) (reach : List Rch) (vi : Value) (inner : List RtH) (hd : DbAt w vd db) (hr : ReachAt w vr reach) (hi : RoutesAt w vi inner) (ok : ∀ y ∈ inner, OkP y.rt.pfx) :
    Calls Tryz.prog 6 #[vd, vr, vi] w (FinePost w (FineArgs db reach inner)) := by
  have CD := Lib.hid (dbcheck_calls w vd db hd)
  have CR := Lib.hid (fun W (hb : Below w.heap.size w W) => finereach_calls W vr reach (hr.below hb))
  have CI := Lib.hid (fun W (hb : Below w.heap.size w W) => fineroutes_calls W vi inner (hi.below hb) ok)
  obtain ⟨a1, c1, e1, hl1, -⟩ := hd.1.get
  simp only [List.length_map] at e1 hl1
  obtain ⟨a2, c2, e2, hl2, -⟩ := hr.get
  obtain ⟨a3, c3, e3, hl3, hc⟩ := hi.get
  subst e1 e2 e3
  have HC := Lib.hid hc
  have NO : Hid (∀ W, Below w.heap.size w W → FinePost w (FineArgs db reach inner) (.returned (.bool false)) W) := Lib.hid fun W g => ⟨false, rfl, g, fun h => by cases h⟩
  clear hd hr hi hc ok
  by_cases n1 : 200 < db.length
  · have E := Lib.hid (NO.out w (Below.refl _ _))
    go_enter Tryz.func6, Tryz.ntmps6
    go_wp2_with fail
    go_ret
    exact E.out
  by_cases n2 : 100 < inner.length
  · have E := Lib.hid (NO.out w (Below.refl _ _))
    go_enter Tryz.func6, Tryz.ntmps6
    go_wp2_with fail
    go_ret
    exact E.out
  have n1' : db.length ≤ 200 := by omega
  have n2' : inner.length ≤ 100 := by omega
  clear n1 n2
  go_enter Tryz.func6, Tryz.ntmps6
  go_wp2_with fail
  refine CD.out.mono ?_
  rintro e w1 ⟨c, rfl, B1, K1⟩
  by_cases c0 : c = 0
  · subst c0
    have K := Lib.hid (K1 rfl).2
    have HB1 := Lib.hid B1
    have R1 := Lib.hid (CR.out w1 B1)
    clear CD CR B1 K1
    go_wp2_with fail
    refine R1.out.mono ?_
    rintro e w2 ⟨b2, rfl, B2, K2⟩
    have HB2 := Lib.hid (HB1.out.trans (B2.mono HB1.out.size))
    cases b2 with
    | false =>
      have E := Lib.hid (NO.out w2 HB2.out)
      clear B2 K2
      go_wp2_with fail
      go_ret
      exact E.out
    | true =>
      have KK2 := Lib.hid (K2 rfl)
      have I1 := Lib.hid (CI.out w2 HB2.out)
      clear B2 CI R1 K2
      go_wp2_with fail
      refine I1.out.mono ?_
      rintro e w3 ⟨b3, rfl, B3, K3⟩
      have HB3 := Lib.hid (HB2.out.trans (B3.mono HB2.out.size))
      cases b3 with
      | false =>
        have E := Lib.hid (NO.out w3 HB3.out)
        clear B3 K3
        go_wp2_with fail
        go_ret
        exact E.out
      | true =>
        have KK3 := Lib.hid (K3 rfl)
        clear B3 I1 K3
        go_wp2_with fail
        go_loop [33] (fun i => ∃ k : Nat, i = .int .i64 k ∧ k ≤ inner.length ∧ Hid (∀ i, i < k → costFine (rthAt inner i).rt.cost)) (fun i => inner.length - (intOf i).toNat)
        case atStart => exact ⟨0, rfl, Nat.zero_le _, Lib.hid (fun i hi => by omega)⟩
        case round =>
          obtain ⟨k, rfl, hk, R⟩ := hrel
          by_cases c : k < inner.length
          · obtain ⟨b, off, rfl, hb0, hcc⟩ := HC.out (by omega)
            obtain ⟨-, -, -, -, d5, -⟩ := (hcc k c).below HB3.out hb0
            rw [← rthAt_eq c] at d5
            have NX := Lib.hid (fun (h : costFine (rthAt inner k).rt.cost) i (hi : i < k + 1) => by
              rcases Nat.lt_or_ge i k with h' | h'
              · exact R.out i h'
              · rw [show i = k from by omega]; exact h)
            clear hcc R
            generalize rthAt inner k = y at *
            obtain ⟨⟨pfx, proto, area, cost, second, cost2, tag, ha, hn, hcp⟩, hops⟩ := y
            simp only at d5 NX
            have E := Lib.hid (NO.out w3 HB3.out)
            by_cases c0 : cost < 0
            · have g0 : decide (cost < 0) = true := by simpa using c0
              go_wp2_with fail
              go_returns
              exact E.out
            by_cases c1 : 1099511627776 < cost
            · have g1 : decide (1099511627776 < cost) = true := by simpa using c1
              have g0 : decide (cost < 0) = false := by simpa using c0
              go_wp2_with fail
              go_returns
              exact E.out
            have N2 := Lib.hid (NX.out ⟨by omega, by omega⟩)
            have g0 : decide (cost < 0) = false := by simpa using c0
            have g1 : decide (1099511627776 < cost) = false := by simpa using c1
            go_wp2_with fail
            go_round
            case rel => exact ⟨k + 1, by go_num, c, N2⟩
            case measure => simp [intOf]; omega
          · have E : Hid (FinePost w (FineArgs db reach inner) (.returned (.bool true)) w3) := Lib.hid ⟨true, rfl, HB3.out, fun _ => ⟨n1', n2', K.out, KK2.out, KK3.out, fun y hy => by
              obtain ⟨i, hi, rfl⟩ := List.getElem_of_mem hy
              rw [← rthAt_eq hi]; exact R.out i (by omega)⟩⟩
            go_wp2_with fail
            go_ret
            exact E.out
  · have d1 : (c == 0) = false := by simpa using c0
    have d2 : (c != 0) = true := by simpa using c0
    have E := Lib.hid (NO.out w1 B1)
    clear c0 B1 K1 CD
    go_wp2_with fail
    go_ret
    exact E.out

end Go.Proofs.YtiemmejpaahbpaaGreat

namespace Go.Proofs.YtiemmejpaahbpaaGreat
open Go.RowKit

theorem DbOk.mem {db : List LsaD} (h : DbOk db) {d : LsaD} (hd : d ∈ db) : OkD d := by
  obtain ⟨i, hi, rfl⟩ := List.getElem_of_mem hd
  have := (h i hi).1
  rw [dAt_eq hi] at this
  exact this.ok

theorem wayP_cost (router : Int) (l : List Rch) (h : ∀ y ∈ l, costFine y.cost) : costFine (wayP router l).cost := by
  unfold wayP
  have key : ∀ (l : List Rch) (s : WaySt), (∀ y ∈ l, costFine y.cost) → costFine s.cost → costFine (l.foldl (wayStep router) s).cost := by
    intro l
    induction l with
    | nil => intro s _ hs; exact hs
    | cons y l ih =>
      intro s hl hs
      rw [List.foldl_cons]
      refine ih _ (fun z hz => hl z (by simp [hz])) ?_
      unfold wayStep
      split
      · split
        · exact hl y (by simp)
        · split
          · exact hs
          · exact hs
      · exact hs
  exact key l _ h ⟨by simp only; omega, by simp only; omega⟩

theorem wayP_hops (router : Int) (l : List Rch) : (wayP router l).hops.length ≤ hopSum l := by
  have := wayP_len router l l.length (Nat.le_refl _)
  rw [List.take_length] at this
  exact this

theorem le_sum_of_mem : ∀ {l : List Nat} {n : Nat}, n ∈ l → n ≤ l.sum
  | x :: l, n, h => by
    rcases List.mem_cons.1 h with h | h
    · subst h; simp
    · have := le_sum_of_mem h; simp; omega

theorem lookR_hopsum (a : Int) (l : List RtH) : (lookR a l).hops.length ≤ (l.map fun y => y.hops.length).sum := by
  unfold lookR
  split
  · simp [zeroRtH]
  · rename_i j hj
    have hlt := lookO_lt a l _ _ hj
    rw [List.getD_eq_getElem?_getD, List.getElem?_eq_getElem hlt]
    exact le_sum_of_mem (List.mem_map.2 ⟨_, List.getElem_mem hlt, rfl⟩)

theorem lookR_cost (a : Int) (l : List RtH) (h : ∀ y ∈ l, costFine y.rt.cost) : costFine (lookR a l).rt.cost := by
  unfold lookR
  split
  · exact ⟨by decide, by decide⟩
  · rename_i j hj
    have hlt := lookO_lt a l _ _ hj
    rw [List.getD_eq_getElem?_getD, List.getElem?_eq_getElem hlt]
    exact h _ (List.getElem_mem hlt)

theorem offWay_cost (x : Lsa) (reach : List Rch) (inner : List RtH) (h : ∀ y ∈ reach, costFine y.cost) (h2 : ∀ y ∈ inner, costFine y.rt.cost) : costFine (offWay x reach inner).1 := by
  unfold offWay
  split
  · exact lookR_cost _ _ h2
  · exact wayP_cost _ _ h

theorem offWay_hops (x : Lsa) (reach : List Rch) (inner : List RtH) : (offWay x reach inner).2.1.length ≤ hopSum reach + (inner.map fun y => y.hops.length).sum := by
  unfold offWay
  split
  · have := lookR_hopsum x.fwd inner; simp only [List.length_map]; omega
  · have := wayP_hops x.router reach; simp only; omega

theorem RBd.of_fine {w : World} {db : List LsaD} {reach : List Rch} {inner : List RtH} (F : FineArgs db reach inner) (hd : ∀ d ∈ db, DIn w d) (okp : ∀ y ∈ inner, OkP y.rt.pfx) (hb : hopSum reach + (inner.map fun y => y.hops.length).sum ≤ 1048576) : RBd (db.map LsaD.x) reach inner 1048576 := by
  refine ⟨?_, ?_, ?_, okp, by omega, ?_, ?_, ?_, ?_, ?_⟩
  · intro x hx; obtain ⟨d, h, rfl⟩ := List.mem_map.1 hx; exact (hd d h).ok
  · intro x hx _; obtain ⟨d, h, rfl⟩ := List.mem_map.1 hx; exact ⟨(F.db.mem h).l0, (F.db.mem h).l1⟩
  · intro x hx _; obtain ⟨d, h, rfl⟩ := List.mem_map.1 hx; exact ⟨(F.db.mem h).c0, by have := (F.db.mem h).c1; omega⟩
  · intro x hx; have := lookR_hopsum x.fwd inner; omega
  · intro x hx; exact offWay_cost x reach inner F.rc F.ic
  · intro x hx
    have h1 := offWay_hops x reach inner
    have h2 := Ls.merge_length_le (lt := Ls.hopLt) (offWay x reach inner).2.1 []
    simp only [List.length_nil, Nat.add_zero] at h2
    show (Ls.merge Ls.hopLt (offWay x reach inner).2.1 []).length ≤ _
    omega
  · have := F.n1; simp only [List.length_map]; omega
  · have := F.n1; simp only [List.length_map]; omega

/-- a route has hops, is external, and is offered by an advertisement -/
def RtFrom (router : Int) (db : List Lsa) (r : Rp) : Prop := r.proto = 5 ∧ r.hops ≠ [] ∧ ∃ x ∈ db, x.typ = 5 ∧ x.router ≠ router ∧ lsaPfx x = r.pfx

theorem tabOf_from (router : Int) (reach : List Rch) (inner : List RtH) (db : List Lsa) : ∀ p r, tabOf router reach inner db p = some r → RtFrom router db r := by
  unfold tabOf
  have key : ∀ (l : List Lsa) (g : Tab), (∀ x ∈ l, x ∈ db) → (∀ p r, g p = some r → r.pfx = p ∧ RtFrom router db r) → ∀ p r, l.foldl (tabStep router reach inner) g p = some r → r.pfx = p ∧ RtFrom router db r := by
    intro l
    induction l with
    | nil => intro g _ h; exact h
    | cons y l ih =>
      intro g hl h
      rw [List.foldl_cons]
      refine ih _ (fun z hz => hl z (by simp [hz])) ?_
      unfold tabStep
      split
      · rename_i hk
        simp only [Bool.and_eq_true] at hk
        obtain ⟨hk, ho⟩ := hk
        simp only [offK, Bool.and_eq_true, decide_eq_true_eq, Bool.not_eq_true', decide_eq_false_iff_not] at hk
        simp only [offOk, Bool.and_eq_true, decide_eq_true_eq] at ho
        have hn : (offR y reach inner).hops ≠ [] := by
          intro e; rw [e] at ho; simp at ho
        have fr : RtFrom router db (offR y reach inner) := ⟨rfl, hn, y, hl y (by simp), hk.1.1, hk.2, rfl⟩
        have up : ∀ r : Rp, r.pfx = (offR y reach inner).pfx → RtFrom router db r → ∀ p x, upd g (offR y reach inner).pfx r p = some x → x.pfx = p ∧ RtFrom router db x := by
          intro r e f p x hx
          unfold upd at hx
          split at hx
          · rename_i ep; cases hx; exact ⟨by rw [e, ep], f⟩
          · exact h p x hx
        intro p x hx
        unfold tabAdd at hx
        cases hg : g (offR y reach inner).pfx with
        | none => rw [hg] at hx; exact up _ rfl fr p x hx
        | some old =>
          rw [hg] at hx
          obtain ⟨e1, p1, h1, z, z1, z2, z3, z4⟩ := h _ old hg
          simp only at hx
          split at hx
          · exact up _ rfl fr p x hx
          · split at hx
            · obtain ⟨a, ha⟩ := List.exists_mem_of_ne_nil _ h1
              exact up { old with hops := Ls.merge Ls.hopLt old.hops (offR y reach inner).hops } e1 ⟨p1, List.ne_nil_of_mem ((Ls.mem_merge _ _ a).2 (.inl ha)), z, z1, z2, z3, z4⟩ p x hx
            · exact h p x hx
      · exact h
  exact fun p r h => (key db _ (fun x hx => hx) (fun p r h => by cases h) p r h).2

theorem lsaPfx_fit {d : LsaD} (o : OkD d) (h : d.x.typ = 3 ∨ d.x.typ = 5) : lsaPfx d.x = ⟨d.x.id, d.x.len⟩ := by
  have := o.fit h
  simp only [fitsB, validP, Bool.and_eq_true, decide_eq_true_eq] at this
  unfold lsaPfx
  rw [this.2]

end Go.Proofs.YtiemmejpaahbpaaGreat
