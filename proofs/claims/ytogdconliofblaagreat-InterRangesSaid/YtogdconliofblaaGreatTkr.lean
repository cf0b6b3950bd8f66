/-
  routingref33.covers and Taker.
-/
import Derived.Test.YtogdconliofblaaGreatFir
import Derived.Test.YtogdconliofblaaGreatKee
import Derived.Test.YtogdconliofblaaGreatLsa
import Derived.Deep.DeepCutAuto
namespace Go.Proofs.YtogdconliofblaaGreat
open Go.RowKit

def cv33 (p q : Ls.Pfx) : Bool := decide (p.len ≤ q.len) && decide (keepI q.addr p.len = p.addr)

set_option maxHeartbeats 4000000 in
theorem covers33_calls (p q : Ls.Pfx) (h0 : 0 ≤ p.len) (h1 : p.len ≤ 32) (okq : OkP q) (w : World) :
    Calls Tryz.prog 52 #[.agg #[.int .u32 p.addr, .int .i64 p.len], .agg #[.int .u32 q.addr, .int .i64 q.len]] w fun e w' => e = .returned (.bool (cv33 p q)) ∧ Gr w w' := by
  have KP := Lib.hid (fun W => keep23_calls q.addr p.len h0 h1 okq.a0 okq.a1 W)
  have mixed : Tryz.prog.follows .mixedOrders = true := by kernel_rfl
  clear h0 h1 okq
  obtain ⟨pa, pl⟩ := p
  obtain ⟨qa, ql⟩ := q
  unfold cv33
  simp only at *
  obtain ⟨W0, hW0⟩ : ∃ W0, (w.alloc (.cells #[.int .u32 pa, .int .i64 pl] 55)).alloc (.cells #[.int .u32 qa, .int .i64 ql] 55) = W0 := ⟨_, rfl⟩
  have b0 : W0.heap[w.heap.size]? = some (.cells #[.int .u32 pa, .int .i64 pl] 55 (0, 0)) := by rw [← hW0]; exact (alloc_get _ _ _ (by simp)).trans (alloc_new w _)
  have b1 : W0.heap[w.heap.size + 1]? = some (.cells #[.int .u32 qa, .int .i64 ql] 55 (0, 0)) := by rw [← hW0]; exact blk_new2 w _ _
  have G0 : Hid (Gr w W0) := Lib.hid (by rw [← hW0]; exact ((Gr.refl _).alloc _).alloc _)
  have p0 := blk_cell (i := 0) b0 rfl
  have p1 := blk_cell (i := 1) b0 rfl
  have q0 := blk_cell (i := 0) b1 rfl
  have q1 := blk_cell (i := 1) b1 rfl
  have HW0 := Lib.hid hW0
  clear hW0 b0 b1
  generalize keepI qa pl = kp at *
  by_cases hl : pl ≤ ql
  · have d1 : decide (pl ≤ ql) = true := decide_eq_true hl
    rw [d1, Bool.true_and]
    clear hl
    go_enter Tryz.func52, Tryz.ntmps52
    go_upto_region 1 with fail
    rw [HW0.out]
    have FIN := Lib.hid (fun n => G0.out.trans ((Gr.refl W0).drewN n))
    go_quiet ((go_at_call 89; exact quiet1 KP.out))
    clear p0 p1 q0 q1
    go_wp2_with fail
    go_ret
    exact ⟨rfl, FIN.out _⟩
  · have d1 : decide (pl ≤ ql) = false := decide_eq_false hl
    rw [d1, Bool.false_and]
    clear hl KP
    go_enter Tryz.func52, Tryz.ntmps52
    go_upto_region 1 with fail
    rw [HW0.out]
    have FIN := Lib.hid (fun n => G0.out.trans ((Gr.refl W0).drewN n))
    go_quiet (fail)
    clear p0 p1 q0 q1
    go_wp2_with fail
    go_ret
    exact ⟨rfl, FIN.out _⟩

def covT (g : Arg) (r : Rt) : Bool := (decide (r.proto = 3) && decide (g.area = r.area)) && cv33 g.pfx r.pfx
/-- the range that takes a route, among the first k -/
def tkK (l : List Arg) (r : Rt) : Nat → Option Nat
  | 0 => none
  | k + 1 => if covT (argAt l k) r = true then (match tkK l r k with
    | none => some k
    | some j => if (argAt l j).pfx.len < (argAt l k).pfx.len then some k else some j) else tkK l r k
def tkI : Option Nat → Int
  | none => -1
  | some j => (j : Int)

theorem tkK_lt (l : List Arg) (r : Rt) : ∀ k j, tkK l r k = some j → j < k
  | 0, j, h => by cases h
  | k + 1, j, h => by
    unfold tkK at h
    have ih := tkK_lt l r k
    split at h
    · split at h
      · cases h; omega
      · rename_i i hi
        have := ih i hi
        split at h <;> cases h <;> omega
    · have := ih j h; omega

theorem tkK_off {l : List Arg} {r : Rt} {k : Nat} (h : covT (argAt l k) r = false) : tkK l r (k + 1) = tkK l r k := by
  show (if _ then _ else _) = _
  rw [h]; exact if_neg (by simp)
theorem tkK_new {l : List Arg} {r : Rt} {k : Nat} (h : covT (argAt l k) r = true) (h2 : tkK l r k = none) : tkK l r (k + 1) = some k := by
  show (if _ then _ else _) = _
  rw [h, if_pos rfl, h2]
theorem tkK_lon {l : List Arg} {r : Rt} {k j : Nat} (h : covT (argAt l k) r = true) (h2 : tkK l r k = some j) (h3 : (argAt l j).pfx.len < (argAt l k).pfx.len) : tkK l r (k + 1) = some k := by
  show (if _ then _ else _) = _
  rw [h, if_pos rfl, h2]; exact if_pos h3
theorem tkK_old {l : List Arg} {r : Rt} {k j : Nat} (h : covT (argAt l k) r = true) (h2 : tkK l r k = some j) (h3 : ¬ (argAt l j).pfx.len < (argAt l k).pfx.len) : tkK l r (k + 1) = some j := by
  show (if _ then _ else _) = _
  rw [h, if_pos rfl, h2]; exact if_neg h3

set_option maxHeartbeats 8000000 in
set_option maxRecDepth 100000 in
theorem taker_calls (w : World) (v : Value) (l : List Arg) (h : RngsAt w v l) (ok : ∀ o ∈ l, validP o.pfx = true) (r : Rt) (okr : OkP r.pfx) :
    Calls Tryz.prog 20 #[v, .agg (rtE r).toArray] w fun e w' => e = .returned (.int .i64 (tkI (tkK l r l.length))) ∧ Gr w w' := by
  obtain ⟨ad, cap, rfl, hlen, hc⟩ := h.get
  have HC := Lib.hid hc
  have OK := Lib.hid ok
  have OKR := Lib.hid okr
  clear h hc ok okr
  have mixed : Tryz.prog.follows .mixedOrders = true := by kernel_rfl
  obtain ⟨W0, hW0⟩ : ∃ W0, w.alloc (.cells (rtE r).toArray 57) = W0 := ⟨_, rfl⟩
  have b0 : W0.heap[w.heap.size]? = some (.cells (rtE r).toArray 57 (0, 0)) := by rw [← hW0]; exact alloc_new w _
  have G0 : Hid (Gr w W0) := Lib.hid (by rw [← hW0]; exact (Gr.refl _).alloc _)
  have HB := Lib.hid b0
  have HW0 := Lib.hid hW0
  obtain ⟨R, hR⟩ : ∃ R, R = r := ⟨_, rfl⟩
  have HR := Lib.hid hR
  have hs0 : w.heap.size < W0.heap.size := by rw [← hW0]; simp
  clear hW0 b0 hR
  obtain ⟨⟨pa, pl⟩, proto, area, cost, second, cost2, tag, ha, hn, hcp⟩ := r
  simp only [rtE] at HW0 HB ⊢
  rw [← HR.out]
  go_enter Tryz.func20, Tryz.ntmps20
  go_upto_region 1 with fail
  rw [HW0.out]
  go_wp2_with fail
  go_loopw [5, 6] (fun bv iv wr => ∃ k : Nat, iv = .int .i64 k ∧ bv = .int .i64 (tkI (tkK l R k)) ∧ k ≤ l.length ∧ Hid (Gr W0 wr)) (fun _ i _ => l.length - (intOf i).toNat)
  case atStart => exact ⟨0, rfl, rfl, Nat.zero_le _, Lib.hid (Gr.refl _)⟩
  case round =>
    obtain ⟨k, rfl, rfl, hk, GG⟩ := hrel
    by_cases c : k < l.length
    · obtain ⟨b, off, rfl, hb0, hcc⟩ := HC.out (by omega)
      have hb1 : b < W0.heap.size := Nat.lt_of_lt_of_le hb0 G0.out.b.size
      have CL : Hid (∀ i, i < l.length → AgCells wr b (off + i * 4) (argAt l i)) := Lib.hid (fun i hi => by rw [argAt_eq hi]; exact ((hcc i hi).below G0.out.b hb0).below GG.out.b hb1)
      have br : wr.heap[w.heap.size]? = some (.cells #[.int .u32 pa, .int .i64 pl, .int .i64 proto, .int .u32 area, .int .i64 cost, .bool second, .int .i64 cost2, .int .i64 tag, .slice ha hn hcp] 57 (0, 0)) := (GG.out.b.block _ hs0).trans HB.out
      have GR := Lib.hid (fun n os => GG.out.trans (Gr.of_grow (W := wr) n os))
      have KC := Lib.hid c
      have i0 : (0 : Int) ≤ (k : Int) := by omega
      have i1 : (k : Int) < (l.length : Int) := by omega
      have s3 : ((k : Int)).toNat = k := by omega
      obtain ⟨d0, d1, d2, -⟩ := CL.out k c
      have CO := Lib.hid (covers33_calls (argAt l k).pfx R.pfx (validP_len (OK.out _ (by rw [argAt_eq c]; exact List.getElem_mem c))).1 (validP_len (OK.out _ (by rw [argAt_eq c]; exact List.getElem_mem c))).2 (by rw [HR.out]; exact OKR.out))
      have CO2 := Lib.hid (fun W => (CO.out W).mono fun _ _ h => (⟨h.1, h.2.grow⟩ : _ ∧ ∃ q os, _ = Go.Sort.grow (World.drewN W q) os))
      have LT := Lib.hid (tkK_lt l R k)
      have T0 := Lib.hid (tkK_off (l := l) (r := R) (k := k))
      have T1 := Lib.hid (tkK_new (l := l) (r := R) (k := k))
      have T2 := Lib.hid (fun j => tkK_lon (l := l) (r := R) (k := k) (j := j))
      have T3 := Lib.hid (fun j => tkK_old (l := l) (r := R) (k := k) (j := j))
      have CV : Hid (covT (argAt l k) R = ((decide (proto = 3) && decide ((argAt l k).area = area)) && cv33 (argAt l k).pfx R.pfx)) := Lib.hid (by rw [HR.out]; rfl)
      rw [HR.out] at CO2
      simp only at CO2
      generalize hcv : cv33 (argAt l k).pfx R.pfx = cb at CV
      have CB : Hid (cv33 (argAt l k).pfx ⟨pa, pl⟩ = cb) := Lib.hid (by rw [← hcv, HR.out])
      rw [CB.out] at CO2
      generalize tkK l R k = o at *
      have x0 : ∀ n os, (Go.Sort.grow (wr.drewN n) os).cell? ⟨b, off + k * 4, none⟩ = some (.int .u32 (argAt l k).area) := cell_grown (World.block_lt_of_cell? _ _ d0) d0
      have x1 : ∀ n os, (Go.Sort.grow (wr.drewN n) os).cell? ⟨b, off + k * 4 + 1, none⟩ = some (.int .u32 (argAt l k).pfx.addr) := cell_grown (World.block_lt_of_cell? _ _ d1) d1
      have x2 : ∀ n os, (Go.Sort.grow (wr.drewN n) os).cell? ⟨b, off + k * 4 + 2, none⟩ = some (.int .i64 (argAt l k).pfx.len) := cell_grown (World.block_lt_of_cell? _ _ d2) d2
      have y0 := blk_cell (i := 0) br rfl
      have y1 := blk_cell (i := 1) br rfl
      have y2 := blk_cell (i := 2) br rfl
      have y3 := blk_cell (i := 3) br rfl
      have y0 : ∀ n os, (Go.Sort.grow (wr.drewN n) os).cell? ⟨w.heap.size, 0, none⟩ = some (.int .u32 pa) := cell_grown (World.block_lt_of_cell? _ _ y0) y0
      have y1 : ∀ n os, (Go.Sort.grow (wr.drewN n) os).cell? ⟨w.heap.size, 1, none⟩ = some (.int .i64 pl) := cell_grown (World.block_lt_of_cell? _ _ y1) y1
      have y2 : ∀ n os, (Go.Sort.grow (wr.drewN n) os).cell? ⟨w.heap.size, 2, none⟩ = some (.int .i64 proto) := cell_grown (World.block_lt_of_cell? _ _ y2) y2
      have y3 : ∀ n os, (Go.Sort.grow (wr.drewN n) os).cell? ⟨w.heap.size, 3, none⟩ = some (.int .u32 area) := cell_grown (World.block_lt_of_cell? _ _ y3) y3
      clear hcv CB CO br hcc d0 d1 d2 c
      generalize hgk : argAt l k = g at *
      obtain ⟨ga, ⟨gp, gl⟩, gadv⟩ := g
      simp only at x0 x1 x2 CO2
      by_cases q1 : proto = 3
      · subst q1
        by_cases q2 : ga = area
        · subst q2
          have e2 : (ga == ga) = true := by simp
          cases cb with
          | false =>
            have NX := Lib.hid (T0.out (by rw [CV.out]; simp))
            go_wp2_with fail
            refine wp_region_quiet_grown (by assumption) (by kernel_rfl) ?_
            repeat (go_big_quiet_step ((go_at_call 52; with_reducible exact Calls.grown_of (CO2.out _))))
            refine wpQuiet_nil ?_
            intro _ hw'
            obtain ⟨⟨nq, osq⟩, hw''⟩ := hw'
            subst hw''
            have NZ := Lib.hid (GR.out nq osq)
            clear x0 x1 x2 y0 y1 y2 y3
            go_wp2_with fail
            go_roundw
            case rel => exact ⟨k + 1, by go_num, by rw [NX.out], KC.out, NZ⟩
            case measure => simp [intOf]; have := KC.out; omega
          | true =>
            have CT := Lib.hid (show covT ⟨ga, ⟨gp, gl⟩, gadv⟩ R = true by rw [CV.out]; simp)
            cases o with
            | none =>
              have NX := Lib.hid (T1.out CT.out rfl)
              simp only [tkI]
              go_wp2_with fail
              refine wp_region_quiet_grown (by assumption) (by kernel_rfl) ?_
              repeat (go_big_quiet_step ((go_at_call 52; with_reducible exact Calls.grown_of (CO2.out _))))
              refine wpQuiet_nil ?_
              intro _ hw'
              obtain ⟨⟨nq, osq⟩, hw''⟩ := hw'
              subst hw''
              have NZ := Lib.hid (GR.out nq osq)
              clear x0 x1 x2 y0 y1 y2 y3
              go_wp2_with fail
              go_roundw
              case rel => exact ⟨k + 1, by go_num, by rw [NX.out], KC.out, NZ⟩
              case measure => simp [intOf]; have := KC.out; omega
            | some j =>
              have hj : j < k := LT.out j rfl
              obtain ⟨-, -, z2, -⟩ := CL.out j (by have := KC.out; omega)
              have z2 : ∀ n os, (Go.Sort.grow (wr.drewN n) os).cell? ⟨b, off + j * 4 + 2, none⟩ = some (.int .i64 (argAt l j).pfx.len) := cell_grown (World.block_lt_of_cell? _ _ z2) z2
              have T2j := Lib.hid (T2.out j CT.out rfl)
              have T3j := Lib.hid (T3.out j CT.out rfl)
              have j0 : (0 : Int) ≤ (j : Int) := by omega
              have j1 : (j : Int) < (l.length : Int) := by have := KC.out; omega
              have s2 : ((j : Int)).toNat = j := by omega
              have jn : decide ((j : Int) < 0) = false := decide_eq_false (by omega)
              clear T0 T1 T2 T3 hj
              generalize argAt l j = z at *
              obtain ⟨za, ⟨zp, zl⟩, zadv⟩ := z
              simp only [tkI] at z2 T2j T3j ⊢
              by_cases q3 : zl < gl
              · have e3 : decide (zl < gl) = true := decide_eq_true q3
                have NX := Lib.hid (T2j.out q3)
                clear q3 T2j T3j
                go_wp2_with fail
                refine wp_region_quiet_grown (by assumption) (by kernel_rfl) ?_
                repeat (go_big_quiet_step ((go_at_call 52; with_reducible exact Calls.grown_of (CO2.out _))))
                refine wpQuiet_nil ?_
                intro _ hw'
                obtain ⟨⟨nq, osq⟩, hw''⟩ := hw'
                subst hw''
                have NZ := Lib.hid (GR.out nq osq)
                clear x0 x1 x2 y0 y1 y2 y3 z2
                go_wp2_with fail
                go_roundw
                case rel => exact ⟨k + 1, by go_num, by rw [NX.out], KC.out, NZ⟩
                case measure => simp [intOf]; have := KC.out; omega
              · have e3 : decide (zl < gl) = false := decide_eq_false q3
                have NX := Lib.hid (T3j.out q3)
                clear q3 T2j T3j
                go_wp2_with fail
                refine wp_region_quiet_grown (by assumption) (by kernel_rfl) ?_
                repeat (go_big_quiet_step ((go_at_call 52; with_reducible exact Calls.grown_of (CO2.out _))))
                refine wpQuiet_nil ?_
                intro _ hw'
                obtain ⟨⟨nq, osq⟩, hw''⟩ := hw'
                subst hw''
                have NZ := Lib.hid (GR.out nq osq)
                clear x0 x1 x2 y0 y1 y2 y3 z2
                go_wp2_with fail
                go_roundw
                case rel => exact ⟨k + 1, by go_num, by rw [NX.out], KC.out, NZ⟩
                case measure => simp [intOf]; have := KC.out; omega
        · have e2 : (ga == area) = false := by simpa using q2
          have NX := Lib.hid (T0.out (by rw [CV.out]; simp [q2]))
          clear q2 CO2
          go_wp2_with fail
          refine wp_region_quiet_grown (by assumption) (by kernel_rfl) ?_
          repeat (go_big_quiet_step (fail))
          refine wpQuiet_nil ?_
          intro _ hw'
          obtain ⟨⟨nq, osq⟩, hw''⟩ := hw'
          subst hw''
          have NZ := Lib.hid (GR.out nq osq)
          clear x0 x1 x2 y0 y1 y2 y3
          go_wp2_with fail
          go_roundw
          case rel => exact ⟨k + 1, by go_num, by rw [NX.out], KC.out, NZ⟩
          case measure => simp [intOf]; have := KC.out; omega
      · have e1 : (proto == 3) = false := by simpa using q1
        have NX := Lib.hid (T0.out (by rw [CV.out]; simp [q1]))
        clear q1 CO2
        go_wp2_with fail
        refine wp_region_quiet_grown (by assumption) (by kernel_rfl) ?_
        repeat (go_big_quiet_step (fail))
        refine wpQuiet_nil ?_
        intro _ hw'
        obtain ⟨⟨nq, osq⟩, hw''⟩ := hw'
        subst hw''
        have NZ := Lib.hid (GR.out nq osq)
        clear x0 x1 x2 y0 y1 y2 y3
        go_wp2_with fail
        go_roundw
        case rel => exact ⟨k + 1, by go_num, by rw [NX.out], KC.out, NZ⟩
        case measure => simp [intOf]; have := KC.out; omega
    · obtain rfl : k = l.length := by omega
      have E := Lib.hid (G0.out.trans GG.out)
      go_wp2_with fail
      go_ret
      exact ⟨rfl, E.out⟩

end Go.Proofs.YtogdconliofblaaGreat
