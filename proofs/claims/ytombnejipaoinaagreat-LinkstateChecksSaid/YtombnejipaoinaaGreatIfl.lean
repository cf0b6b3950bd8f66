/-
  Interfaces of a router: routingref26.Check, hello.Check.
-/
import Derived.Test.YtombnejipaoinaaGreatPfl
namespace Go.Proofs.YtombnejipaoinaaGreat
open Go.RowKit

structure If9 where
  kind : Int
  pa : Int
  pl : Int
  ad : Int
  area : Int
  cost : Int
  prio : Int
  hel : Int
  dead : Int
deriving DecidableEq, Inhabited

def if9E (x : If9) : List Value := [.int .i64 x.kind, .int .u32 x.pa, .int .i64 x.pl, .int .u32 x.ad, .int .u32 x.area, .int .i64 x.cost, .int .i64 x.prio, .int .i64 x.hel, .int .i64 x.dead]
def If9.pfx (x : If9) : Ls.Pfx := ⟨x.pa, x.pl⟩
structure OkI (x : If9) : Prop where
  a0 : 0 ≤ x.pa
  a1 : x.pa < 4294967296
  d0 : 0 ≤ x.ad
  d1 : x.ad < 4294967296

def chk26 (x : If9) : Int :=
  if withinB x.kind 1 3 = false then 15
  else if fitsB x.pa x.pl = false ∨ x.ad = 0 ∨ inB x.pa x.pl x.ad = false then 1
  else if withinB x.cost 1 65535 = false ∨ withinB x.prio 0 255 = false ∨ withinB x.hel 1 65535 = false ∨ withinB x.dead x.hel 65535 = false then 5 else 0

theorem fitsB_len {x n : Int} (h : fitsB x n = true) : 0 ≤ n ∧ n ≤ 32 := by
  unfold fitsB validP at h
  simp only [Bool.and_eq_true, decide_eq_true_eq] at h
  exact ⟨h.1.1, h.1.2⟩

def C26Post (w : World) (c : Int) (e : Ending) (w' : World) : Prop := e = .returned (.int .i64 c) ∧ Gr w w'

set_option maxHeartbeats 8000000 in
theorem check26_calls (x : If9) (w : World) (ok : OkI x) : Calls Tryz.prog 24 #[.agg (if9E x).toArray] w (C26Post w (chk26 x)) := by
  obtain ⟨a0, a1, d0, d1⟩ := ok
  obtain ⟨kind, pa, pl, ad, area, cost, prio, hel, dead⟩ := x
  simp only at a0 a1 d0 d1
  have FC := Lib.hid (fun W => fits_calls pa pl a0 a1 W)
  have IN := Lib.hid (fun h0 h1 W => in26_calls pa pl ad h0 h1 d0 d1 W)
  simp only [if9E]
  obtain ⟨W0, hW0⟩ : ∃ W0, w.alloc (.cells #[.int .i64 kind, .int .u32 pa, .int .i64 pl, .int .u32 ad, .int .u32 area, .int .i64 cost, .int .i64 prio, .int .i64 hel, .int .i64 dead] 70) = W0 := ⟨_, rfl⟩
  have B0 : Hid (W0.heap[w.heap.size]? = some (.cells #[.int .i64 kind, .int .u32 pa, .int .i64 pl, .int .u32 ad, .int .u32 area, .int .i64 cost, .int .i64 prio, .int .i64 hel, .int .i64 dead] 70 (0, 0))) := Lib.hid (by rw [← hW0]; exact alloc_new w _)
  have G0 : Hid (Gr w W0) := Lib.hid (by rw [← hW0]; exact (Gr.refl _).alloc _)
  have c0 : W0.cell? ⟨w.heap.size, 0, none⟩ = some (.int .i64 kind) := blk_cell B0.out rfl
  have c1 : W0.cell? ⟨w.heap.size, 1, none⟩ = some (.int .u32 pa) := blk_cell B0.out rfl
  have c2 : W0.cell? ⟨w.heap.size, 2, none⟩ = some (.int .i64 pl) := blk_cell B0.out rfl
  have c3 : W0.cell? ⟨w.heap.size, 3, none⟩ = some (.int .u32 ad) := blk_cell B0.out rfl
  have HW0 := Lib.hid hW0
  clear hW0 a0 a1 d0 d1
  cases h1 : withinB kind 1 3 with
  | false =>
    have E : Hid (chk26 ⟨kind, pa, pl, ad, area, cost, prio, hel, dead⟩ = 15) := Lib.hid (by simp [chk26, h1])
    rw [E.out]
    clear E
    go_enter Tryz.func24, Tryz.ntmps24
    go_upto_region 1 with fail
    rw [HW0.out]
    go_wp2_with (first | (go_at_call 52; refine (within26_calls _ _ _ _).mono ?_; rintro e w' ⟨rfl, rfl⟩) | (go_at_call 26; refine (FC.out _).mono ?_; rintro e w' ⟨rfl, rfl⟩))
    go_ret
    exact ⟨rfl, G0.out⟩
  | true =>
  cases h2 : fitsB pa pl with
  | false =>
    have E : Hid (chk26 ⟨kind, pa, pl, ad, area, cost, prio, hel, dead⟩ = 1) := Lib.hid (by simp [chk26, h1, h2])
    rw [E.out]
    clear E
    go_enter Tryz.func24, Tryz.ntmps24
    go_upto_region 1 with fail
    rw [HW0.out]
    go_wp2_with (first | (go_at_call 52; refine (within26_calls _ _ _ _).mono ?_; rintro e w' ⟨rfl, rfl⟩) | (go_at_call 26; refine (FC.out _).mono ?_; rintro e w' ⟨rfl, rfl⟩))
    go_ret
    exact ⟨rfl, G0.out⟩
  | true =>
  have H2 := Lib.hid h2
  by_cases h3 : ad = 0
  · subst h3
    have E : Hid (chk26 ⟨kind, pa, pl, 0, area, cost, prio, hel, dead⟩ = 1) := Lib.hid (by simp [chk26, h1, h2])
    rw [E.out]
    clear E
    go_enter Tryz.func24, Tryz.ntmps24
    go_upto_region 1 with fail
    rw [HW0.out]
    go_wp2_with (first | (go_at_call 52; refine (within26_calls _ _ _ _).mono ?_; rintro e w' ⟨rfl, rfl⟩) | (go_at_call 26; refine (FC.out _).mono ?_; rintro e w' ⟨rfl, rfl⟩))
    go_ret
    exact ⟨rfl, G0.out⟩
  have h3' : (ad == 0) = false := by simpa using h3
  cases h4 : inB pa pl ad with
  | false =>
    have E : Hid (chk26 ⟨kind, pa, pl, ad, area, cost, prio, hel, dead⟩ = 1) := Lib.hid (by simp [chk26, h1, h2, h3, h4])
    rw [E.out]
    clear E
    go_enter Tryz.func24, Tryz.ntmps24
    go_upto_region 1 with fail
    rw [HW0.out]
    go_wp2_with (first | (go_at_call 52; refine (within26_calls _ _ _ _).mono ?_; rintro e w' ⟨rfl, rfl⟩) | (go_at_call 26; refine (FC.out _).mono ?_; rintro e w' ⟨rfl, rfl⟩) | (go_at_call 53; refine (IN.out (fitsB_len H2.out).1 (fitsB_len H2.out).2 _).mono ?_; rintro e w1 ⟨rfl, G1⟩; have GG := Lib.hid (G0.out.trans G1); have b1 := (G1.b.block _ (blk_lt B0.out)).trans B0.out; have k5 : w1.cell? ⟨w.heap.size, 5, none⟩ = some (.int .i64 cost) := blk_cell b1 rfl; have k6 : w1.cell? ⟨w.heap.size, 6, none⟩ = some (.int .i64 prio) := blk_cell b1 rfl; have k7 : w1.cell? ⟨w.heap.size, 7, none⟩ = some (.int .i64 hel) := blk_cell b1 rfl; have k8 : w1.cell? ⟨w.heap.size, 8, none⟩ = some (.int .i64 dead) := blk_cell b1 rfl; have k4 : w1.cell? ⟨w.heap.size, 4, none⟩ = some (.int .u32 area) := blk_cell b1 rfl; clear b1 G1))
    go_ret
    exact ⟨rfl, GG.out⟩
  | true =>
  cases h5 : withinB cost 1 65535 with
  | false =>
    have E : Hid (chk26 ⟨kind, pa, pl, ad, area, cost, prio, hel, dead⟩ = 5) := Lib.hid (by simp [chk26, h1, h2, h3, h4, h5])
    rw [E.out]
    clear E
    go_enter Tryz.func24, Tryz.ntmps24
    go_upto_region 1 with fail
    rw [HW0.out]
    go_wp2_with (first | (go_at_call 52; refine (within26_calls _ _ _ _).mono ?_; rintro e w' ⟨rfl, rfl⟩) | (go_at_call 26; refine (FC.out _).mono ?_; rintro e w' ⟨rfl, rfl⟩) | (go_at_call 53; refine (IN.out (fitsB_len H2.out).1 (fitsB_len H2.out).2 _).mono ?_; rintro e w1 ⟨rfl, G1⟩; have GG := Lib.hid (G0.out.trans G1); have b1 := (G1.b.block _ (blk_lt B0.out)).trans B0.out; have k5 : w1.cell? ⟨w.heap.size, 5, none⟩ = some (.int .i64 cost) := blk_cell b1 rfl; have k6 : w1.cell? ⟨w.heap.size, 6, none⟩ = some (.int .i64 prio) := blk_cell b1 rfl; have k7 : w1.cell? ⟨w.heap.size, 7, none⟩ = some (.int .i64 hel) := blk_cell b1 rfl; have k8 : w1.cell? ⟨w.heap.size, 8, none⟩ = some (.int .i64 dead) := blk_cell b1 rfl; have k4 : w1.cell? ⟨w.heap.size, 4, none⟩ = some (.int .u32 area) := blk_cell b1 rfl; clear b1 G1))
    go_ret
    exact ⟨rfl, GG.out⟩
  | true =>
  cases h6 : withinB prio 0 255 with
  | false =>
    have E : Hid (chk26 ⟨kind, pa, pl, ad, area, cost, prio, hel, dead⟩ = 5) := Lib.hid (by simp [chk26, h1, h2, h3, h4, h5, h6])
    rw [E.out]
    clear E
    go_enter Tryz.func24, Tryz.ntmps24
    go_upto_region 1 with fail
    rw [HW0.out]
    go_wp2_with (first | (go_at_call 52; refine (within26_calls _ _ _ _).mono ?_; rintro e w' ⟨rfl, rfl⟩) | (go_at_call 26; refine (FC.out _).mono ?_; rintro e w' ⟨rfl, rfl⟩) | (go_at_call 53; refine (IN.out (fitsB_len H2.out).1 (fitsB_len H2.out).2 _).mono ?_; rintro e w1 ⟨rfl, G1⟩; have GG := Lib.hid (G0.out.trans G1); have b1 := (G1.b.block _ (blk_lt B0.out)).trans B0.out; have k5 : w1.cell? ⟨w.heap.size, 5, none⟩ = some (.int .i64 cost) := blk_cell b1 rfl; have k6 : w1.cell? ⟨w.heap.size, 6, none⟩ = some (.int .i64 prio) := blk_cell b1 rfl; have k7 : w1.cell? ⟨w.heap.size, 7, none⟩ = some (.int .i64 hel) := blk_cell b1 rfl; have k8 : w1.cell? ⟨w.heap.size, 8, none⟩ = some (.int .i64 dead) := blk_cell b1 rfl; have k4 : w1.cell? ⟨w.heap.size, 4, none⟩ = some (.int .u32 area) := blk_cell b1 rfl; clear b1 G1))
    go_ret
    exact ⟨rfl, GG.out⟩
  | true =>
  cases h7 : withinB hel 1 65535 with
  | false =>
    have E : Hid (chk26 ⟨kind, pa, pl, ad, area, cost, prio, hel, dead⟩ = 5) := Lib.hid (by simp [chk26, h1, h2, h3, h4, h5, h6, h7])
    rw [E.out]
    clear E
    go_enter Tryz.func24, Tryz.ntmps24
    go_upto_region 1 with fail
    rw [HW0.out]
    go_wp2_with (first | (go_at_call 52; refine (within26_calls _ _ _ _).mono ?_; rintro e w' ⟨rfl, rfl⟩) | (go_at_call 26; refine (FC.out _).mono ?_; rintro e w' ⟨rfl, rfl⟩) | (go_at_call 53; refine (IN.out (fitsB_len H2.out).1 (fitsB_len H2.out).2 _).mono ?_; rintro e w1 ⟨rfl, G1⟩; have GG := Lib.hid (G0.out.trans G1); have b1 := (G1.b.block _ (blk_lt B0.out)).trans B0.out; have k5 : w1.cell? ⟨w.heap.size, 5, none⟩ = some (.int .i64 cost) := blk_cell b1 rfl; have k6 : w1.cell? ⟨w.heap.size, 6, none⟩ = some (.int .i64 prio) := blk_cell b1 rfl; have k7 : w1.cell? ⟨w.heap.size, 7, none⟩ = some (.int .i64 hel) := blk_cell b1 rfl; have k8 : w1.cell? ⟨w.heap.size, 8, none⟩ = some (.int .i64 dead) := blk_cell b1 rfl; have k4 : w1.cell? ⟨w.heap.size, 4, none⟩ = some (.int .u32 area) := blk_cell b1 rfl; clear b1 G1))
    go_ret
    exact ⟨rfl, GG.out⟩
  | true =>
  cases h8 : withinB dead hel 65535 with
  | false =>
    have E : Hid (chk26 ⟨kind, pa, pl, ad, area, cost, prio, hel, dead⟩ = 5) := Lib.hid (by simp [chk26, h1, h2, h3, h4, h5, h6, h7, h8])
    rw [E.out]
    clear E
    go_enter Tryz.func24, Tryz.ntmps24
    go_upto_region 1 with fail
    rw [HW0.out]
    go_wp2_with (first | (go_at_call 52; refine (within26_calls _ _ _ _).mono ?_; rintro e w' ⟨rfl, rfl⟩) | (go_at_call 26; refine (FC.out _).mono ?_; rintro e w' ⟨rfl, rfl⟩) | (go_at_call 53; refine (IN.out (fitsB_len H2.out).1 (fitsB_len H2.out).2 _).mono ?_; rintro e w1 ⟨rfl, G1⟩; have GG := Lib.hid (G0.out.trans G1); have b1 := (G1.b.block _ (blk_lt B0.out)).trans B0.out; have k5 : w1.cell? ⟨w.heap.size, 5, none⟩ = some (.int .i64 cost) := blk_cell b1 rfl; have k6 : w1.cell? ⟨w.heap.size, 6, none⟩ = some (.int .i64 prio) := blk_cell b1 rfl; have k7 : w1.cell? ⟨w.heap.size, 7, none⟩ = some (.int .i64 hel) := blk_cell b1 rfl; have k8 : w1.cell? ⟨w.heap.size, 8, none⟩ = some (.int .i64 dead) := blk_cell b1 rfl; have k4 : w1.cell? ⟨w.heap.size, 4, none⟩ = some (.int .u32 area) := blk_cell b1 rfl; clear b1 G1))
    go_ret
    exact ⟨rfl, GG.out⟩
  | true =>
  have E : Hid (chk26 ⟨kind, pa, pl, ad, area, cost, prio, hel, dead⟩ = 0) := Lib.hid (by simp [chk26, h1, h2, h3, h4, h5, h6, h7, h8])
  rw [E.out]
  clear E
  go_enter Tryz.func24, Tryz.ntmps24
  go_upto_region 1 with fail
  rw [HW0.out]
  go_wp2_with (first | (go_at_call 52; refine (within26_calls _ _ _ _).mono ?_; rintro e w' ⟨rfl, rfl⟩) | (go_at_call 26; refine (FC.out _).mono ?_; rintro e w' ⟨rfl, rfl⟩) | (go_at_call 53; refine (IN.out (fitsB_len H2.out).1 (fitsB_len H2.out).2 _).mono ?_; rintro e w1 ⟨rfl, G1⟩; have GG := Lib.hid (G0.out.trans G1); have b1 := (G1.b.block _ (blk_lt B0.out)).trans B0.out; have k5 : w1.cell? ⟨w.heap.size, 5, none⟩ = some (.int .i64 cost) := blk_cell b1 rfl; have k6 : w1.cell? ⟨w.heap.size, 6, none⟩ = some (.int .i64 prio) := blk_cell b1 rfl; have k7 : w1.cell? ⟨w.heap.size, 7, none⟩ = some (.int .i64 hel) := blk_cell b1 rfl; have k8 : w1.cell? ⟨w.heap.size, 8, none⟩ = some (.int .i64 dead) := blk_cell b1 rfl; have k4 : w1.cell? ⟨w.heap.size, 4, none⟩ = some (.int .u32 area) := blk_cell b1 rfl; clear b1 G1))
  go_ret
  exact ⟨rfl, GG.out⟩

set_option maxHeartbeats 8000000 in
theorem hcheck_calls (x : If9) (w : World) (ok : OkI x) : Calls Tryz.prog 48 #[.agg (if9E x).toArray] w (C26Post w (chk26 x)) := by
  obtain ⟨a0, a1, d0, d1⟩ := ok
  obtain ⟨kind, pa, pl, ad, area, cost, prio, hel, dead⟩ := x
  simp only at a0 a1 d0 d1
  have CN := Lib.hid (fun W => contains_calls ⟨pa, pl⟩ ⟨a0, a1⟩ ad d0 d1 W)
  have CE : containsP ⟨pa, pl⟩ ad = (fitsB pa pl && inB pa pl ad) := rfl
  rw [CE] at CN
  clear CE
  simp only at CN
  simp only [if9E]
  obtain ⟨W0, hW0⟩ : ∃ W0, w.alloc (.cells #[.int .i64 kind, .int .u32 pa, .int .i64 pl, .int .u32 ad, .int .u32 area, .int .i64 cost, .int .i64 prio, .int .i64 hel, .int .i64 dead] 70) = W0 := ⟨_, rfl⟩
  have B0 : Hid (W0.heap[w.heap.size]? = some (.cells #[.int .i64 kind, .int .u32 pa, .int .i64 pl, .int .u32 ad, .int .u32 area, .int .i64 cost, .int .i64 prio, .int .i64 hel, .int .i64 dead] 70 (0, 0))) := Lib.hid (by rw [← hW0]; exact alloc_new w _)
  have G0 : Hid (Gr w W0) := Lib.hid (by rw [← hW0]; exact (Gr.refl _).alloc _)
  have c0 : W0.cell? ⟨w.heap.size, 0, none⟩ = some (.int .i64 kind) := blk_cell B0.out rfl
  have c1 : W0.cell? ⟨w.heap.size, 1, none⟩ = some (.int .u32 pa) := blk_cell B0.out rfl
  have c2 : W0.cell? ⟨w.heap.size, 2, none⟩ = some (.int .i64 pl) := blk_cell B0.out rfl
  have c3 : W0.cell? ⟨w.heap.size, 3, none⟩ = some (.int .u32 ad) := blk_cell B0.out rfl
  have HW0 := Lib.hid hW0
  clear hW0 a0 a1 d0 d1
  cases h1 : withinB kind 1 3 with
  | false =>
    have E : Hid (chk26 ⟨kind, pa, pl, ad, area, cost, prio, hel, dead⟩ = 15) := Lib.hid (by simp [chk26, h1])
    rw [E.out]
    clear E
    go_enter Tryz.func48, Tryz.ntmps48
    go_upto_region 1 with fail
    rw [HW0.out]
    go_wp2_with (first | (go_at_call 127; refine (hwithin_calls _ _ _ _).mono ?_; rintro e w' ⟨rfl, rfl⟩))
    go_ret
    exact ⟨rfl, G0.out⟩
  | true =>
  by_cases h3 : ad = 0
  · subst h3
    have E : Hid (chk26 ⟨kind, pa, pl, 0, area, cost, prio, hel, dead⟩ = 1) := Lib.hid (by simp [chk26, h1])
    rw [E.out]
    clear E
    go_enter Tryz.func48, Tryz.ntmps48
    go_upto_region 1 with fail
    rw [HW0.out]
    go_wp2_with (first | (go_at_call 127; refine (hwithin_calls _ _ _ _).mono ?_; rintro e w' ⟨rfl, rfl⟩))
    go_ret
    exact ⟨rfl, G0.out⟩
  have h3' : (ad == 0) = false := by simpa using h3
  cases h2 : fitsB pa pl with
  | false =>
    rw [h2, Bool.false_and] at CN
    have E : Hid (chk26 ⟨kind, pa, pl, ad, area, cost, prio, hel, dead⟩ = 1) := Lib.hid (by simp [chk26, h1, h3, h2])
    rw [E.out]
    clear E
    go_enter Tryz.func48, Tryz.ntmps48
    go_upto_region 1 with fail
    rw [HW0.out]
    go_wp2_with (first | (go_at_call 127; refine (hwithin_calls _ _ _ _).mono ?_; rintro e w' ⟨rfl, rfl⟩) | (go_at_call 128; refine (CN.out _).mono ?_; rintro e w1 ⟨rfl, G1⟩; have GG := Lib.hid (G0.out.trans G1); have b1 := (G1.b.block _ (blk_lt B0.out)).trans B0.out; have k5 : w1.cell? ⟨w.heap.size, 5, none⟩ = some (.int .i64 cost) := blk_cell b1 rfl; have k6 : w1.cell? ⟨w.heap.size, 6, none⟩ = some (.int .i64 prio) := blk_cell b1 rfl; have k7 : w1.cell? ⟨w.heap.size, 7, none⟩ = some (.int .i64 hel) := blk_cell b1 rfl; have k8 : w1.cell? ⟨w.heap.size, 8, none⟩ = some (.int .i64 dead) := blk_cell b1 rfl; have k4 : w1.cell? ⟨w.heap.size, 4, none⟩ = some (.int .u32 area) := blk_cell b1 rfl; clear b1 G1))
    go_ret
    exact ⟨rfl, GG.out⟩
  | true =>
  rw [h2, Bool.true_and] at CN
  cases h4 : inB pa pl ad with
  | false =>
    rw [h4] at CN
    have E : Hid (chk26 ⟨kind, pa, pl, ad, area, cost, prio, hel, dead⟩ = 1) := Lib.hid (by simp [chk26, h1, h3, h2, h4])
    rw [E.out]
    clear E
    go_enter Tryz.func48, Tryz.ntmps48
    go_upto_region 1 with fail
    rw [HW0.out]
    go_wp2_with (first | (go_at_call 127; refine (hwithin_calls _ _ _ _).mono ?_; rintro e w' ⟨rfl, rfl⟩) | (go_at_call 128; refine (CN.out _).mono ?_; rintro e w1 ⟨rfl, G1⟩; have GG := Lib.hid (G0.out.trans G1); have b1 := (G1.b.block _ (blk_lt B0.out)).trans B0.out; have k5 : w1.cell? ⟨w.heap.size, 5, none⟩ = some (.int .i64 cost) := blk_cell b1 rfl; have k6 : w1.cell? ⟨w.heap.size, 6, none⟩ = some (.int .i64 prio) := blk_cell b1 rfl; have k7 : w1.cell? ⟨w.heap.size, 7, none⟩ = some (.int .i64 hel) := blk_cell b1 rfl; have k8 : w1.cell? ⟨w.heap.size, 8, none⟩ = some (.int .i64 dead) := blk_cell b1 rfl; have k4 : w1.cell? ⟨w.heap.size, 4, none⟩ = some (.int .u32 area) := blk_cell b1 rfl; clear b1 G1))
    go_ret
    exact ⟨rfl, GG.out⟩
  | true =>
  rw [h4] at CN
  cases h5 : withinB cost 1 65535 with
  | false =>
    have E : Hid (chk26 ⟨kind, pa, pl, ad, area, cost, prio, hel, dead⟩ = 5) := Lib.hid (by simp [chk26, h1, h3, h2, h4, h5])
    rw [E.out]
    clear E
    go_enter Tryz.func48, Tryz.ntmps48
    go_upto_region 1 with fail
    rw [HW0.out]
    go_wp2_with (first | (go_at_call 127; refine (hwithin_calls _ _ _ _).mono ?_; rintro e w' ⟨rfl, rfl⟩) | (go_at_call 128; refine (CN.out _).mono ?_; rintro e w1 ⟨rfl, G1⟩; have GG := Lib.hid (G0.out.trans G1); have b1 := (G1.b.block _ (blk_lt B0.out)).trans B0.out; have k5 : w1.cell? ⟨w.heap.size, 5, none⟩ = some (.int .i64 cost) := blk_cell b1 rfl; have k6 : w1.cell? ⟨w.heap.size, 6, none⟩ = some (.int .i64 prio) := blk_cell b1 rfl; have k7 : w1.cell? ⟨w.heap.size, 7, none⟩ = some (.int .i64 hel) := blk_cell b1 rfl; have k8 : w1.cell? ⟨w.heap.size, 8, none⟩ = some (.int .i64 dead) := blk_cell b1 rfl; have k4 : w1.cell? ⟨w.heap.size, 4, none⟩ = some (.int .u32 area) := blk_cell b1 rfl; clear b1 G1))
    go_ret
    exact ⟨rfl, GG.out⟩
  | true =>
  cases h6 : withinB prio 0 255 with
  | false =>
    have E : Hid (chk26 ⟨kind, pa, pl, ad, area, cost, prio, hel, dead⟩ = 5) := Lib.hid (by simp [chk26, h1, h3, h2, h4, h5, h6])
    rw [E.out]
    clear E
    go_enter Tryz.func48, Tryz.ntmps48
    go_upto_region 1 with fail
    rw [HW0.out]
    go_wp2_with (first | (go_at_call 127; refine (hwithin_calls _ _ _ _).mono ?_; rintro e w' ⟨rfl, rfl⟩) | (go_at_call 128; refine (CN.out _).mono ?_; rintro e w1 ⟨rfl, G1⟩; have GG := Lib.hid (G0.out.trans G1); have b1 := (G1.b.block _ (blk_lt B0.out)).trans B0.out; have k5 : w1.cell? ⟨w.heap.size, 5, none⟩ = some (.int .i64 cost) := blk_cell b1 rfl; have k6 : w1.cell? ⟨w.heap.size, 6, none⟩ = some (.int .i64 prio) := blk_cell b1 rfl; have k7 : w1.cell? ⟨w.heap.size, 7, none⟩ = some (.int .i64 hel) := blk_cell b1 rfl; have k8 : w1.cell? ⟨w.heap.size, 8, none⟩ = some (.int .i64 dead) := blk_cell b1 rfl; have k4 : w1.cell? ⟨w.heap.size, 4, none⟩ = some (.int .u32 area) := blk_cell b1 rfl; clear b1 G1))
    go_ret
    exact ⟨rfl, GG.out⟩
  | true =>
  cases h7 : withinB hel 1 65535 with
  | false =>
    have E : Hid (chk26 ⟨kind, pa, pl, ad, area, cost, prio, hel, dead⟩ = 5) := Lib.hid (by simp [chk26, h1, h3, h2, h4, h5, h6, h7])
    rw [E.out]
    clear E
    go_enter Tryz.func48, Tryz.ntmps48
    go_upto_region 1 with fail
    rw [HW0.out]
    go_wp2_with (first | (go_at_call 127; refine (hwithin_calls _ _ _ _).mono ?_; rintro e w' ⟨rfl, rfl⟩) | (go_at_call 128; refine (CN.out _).mono ?_; rintro e w1 ⟨rfl, G1⟩; have GG := Lib.hid (G0.out.trans G1); have b1 := (G1.b.block _ (blk_lt B0.out)).trans B0.out; have k5 : w1.cell? ⟨w.heap.size, 5, none⟩ = some (.int .i64 cost) := blk_cell b1 rfl; have k6 : w1.cell? ⟨w.heap.size, 6, none⟩ = some (.int .i64 prio) := blk_cell b1 rfl; have k7 : w1.cell? ⟨w.heap.size, 7, none⟩ = some (.int .i64 hel) := blk_cell b1 rfl; have k8 : w1.cell? ⟨w.heap.size, 8, none⟩ = some (.int .i64 dead) := blk_cell b1 rfl; have k4 : w1.cell? ⟨w.heap.size, 4, none⟩ = some (.int .u32 area) := blk_cell b1 rfl; clear b1 G1))
    go_ret
    exact ⟨rfl, GG.out⟩
  | true =>
  cases h8 : withinB dead hel 65535 with
  | false =>
    have E : Hid (chk26 ⟨kind, pa, pl, ad, area, cost, prio, hel, dead⟩ = 5) := Lib.hid (by simp [chk26, h1, h3, h2, h4, h5, h6, h7, h8])
    rw [E.out]
    clear E
    go_enter Tryz.func48, Tryz.ntmps48
    go_upto_region 1 with fail
    rw [HW0.out]
    go_wp2_with (first | (go_at_call 127; refine (hwithin_calls _ _ _ _).mono ?_; rintro e w' ⟨rfl, rfl⟩) | (go_at_call 128; refine (CN.out _).mono ?_; rintro e w1 ⟨rfl, G1⟩; have GG := Lib.hid (G0.out.trans G1); have b1 := (G1.b.block _ (blk_lt B0.out)).trans B0.out; have k5 : w1.cell? ⟨w.heap.size, 5, none⟩ = some (.int .i64 cost) := blk_cell b1 rfl; have k6 : w1.cell? ⟨w.heap.size, 6, none⟩ = some (.int .i64 prio) := blk_cell b1 rfl; have k7 : w1.cell? ⟨w.heap.size, 7, none⟩ = some (.int .i64 hel) := blk_cell b1 rfl; have k8 : w1.cell? ⟨w.heap.size, 8, none⟩ = some (.int .i64 dead) := blk_cell b1 rfl; have k4 : w1.cell? ⟨w.heap.size, 4, none⟩ = some (.int .u32 area) := blk_cell b1 rfl; clear b1 G1))
    go_ret
    exact ⟨rfl, GG.out⟩
  | true =>
  have E : Hid (chk26 ⟨kind, pa, pl, ad, area, cost, prio, hel, dead⟩ = 0) := Lib.hid (by simp [chk26, h1, h3, h2, h4, h5, h6, h7, h8])
  rw [E.out]
  clear E
  go_enter Tryz.func48, Tryz.ntmps48
  go_upto_region 1 with fail
  rw [HW0.out]
  go_wp2_with (first | (go_at_call 127; refine (hwithin_calls _ _ _ _).mono ?_; rintro e w' ⟨rfl, rfl⟩) | (go_at_call 128; refine (CN.out _).mono ?_; rintro e w1 ⟨rfl, G1⟩; have GG := Lib.hid (G0.out.trans G1); have b1 := (G1.b.block _ (blk_lt B0.out)).trans B0.out; have k5 : w1.cell? ⟨w.heap.size, 5, none⟩ = some (.int .i64 cost) := blk_cell b1 rfl; have k6 : w1.cell? ⟨w.heap.size, 6, none⟩ = some (.int .i64 prio) := blk_cell b1 rfl; have k7 : w1.cell? ⟨w.heap.size, 7, none⟩ = some (.int .i64 hel) := blk_cell b1 rfl; have k8 : w1.cell? ⟨w.heap.size, 8, none⟩ = some (.int .i64 dead) := blk_cell b1 rfl; have k4 : w1.cell? ⟨w.heap.size, 4, none⟩ = some (.int .u32 area) := blk_cell b1 rfl; clear b1 G1))
  go_ret
  exact ⟨rfl, GG.out⟩

end Go.Proofs.YtombnejipaoinaaGreat
