import Derived.Test.YtddageahmgaigaaGreatRnv
namespace Go.Proofs.YtddageahmgaigaaGreat
open Go.RowKit

set_option maxHeartbeats 16000000 in
set_option maxRecDepth 100000 in
theorem rnetwork_no (x : Ifc) (nb : List Nb) (rt : Int) (w : World) (hn : NbsAt w (.slice x.na x.nn x.nc) nb) (hl : nb.length ≤ 1048576) (ho : NbOrd nb) (no : ∀ n ∈ nb, n.r ≠ rt) (hc : ¬ (x.up = true ∧ x.kind = 2 ∧ x.dr = rt)) :
    Calls Tryz.prog 32 #[.agg (ifE x).toArray, .int .u32 rt] w (NwPost w (nwB x rt nb) x rt (fullsS nb rt)) := by
  have NO : Hid (∀ r ∈ fulls nb, r ≠ rt) := Lib.hid (fun r hr => by obtain ⟨n, hn, rfl⟩ := fulls_of hr; exact no n hn)
  have NO := NO.out
  have AS : Hid (∀ k, (fulls (nb.take k)).Pairwise (· < ·) ∧ ∀ r ∈ fulls (nb.take k), r ≠ rt) := Lib.hid (fun k => ⟨fulls_asc ⟨fun n hn => ho.1 n (List.take_subset _ _ hn), ho.2.sublist (List.take_sublist _ _)⟩, fun r hr => by obtain ⟨n, hn, rfl⟩ := fulls_of hr; exact no n (List.take_subset _ _ hn)⟩)
  clear NO
  have NL := Lib.hid hl
  obtain ⟨ga, gc, e1, hlen, hc1⟩ := hn.get
  have HC1 := Lib.hid hc1
  obtain ⟨kind, pa, pl, ad, area, cost, prio, hel, dead, up, dr, bdr, el, nh, a1, nn, c1⟩ := x
  simp only at e1
  simp only [Value.slice.injEq] at e1
  obtain ⟨rfl, rfl, rfl⟩ := e1
  simp only [ifE]
  simp only at hc
  clear hn hl ho no hc1
  have mixed : Tryz.prog.follows .mixedOrders = true := by kernel_rfl
  obtain ⟨ti, HI0, HZ0, HZ1, HZ2⟩ : ∃ i, Hid (Tryz.prog.info? 22 = some i) ∧ Hid (i.zero = some (.int .u32 0)) ∧ Hid (i.size = 1) ∧ Hid (i.bytes = 4) := by
    have h := Tryz.infoU32
    cases e : Tryz.prog.info? 22 with
    | none => rw [e] at h; simp at h
    | some i => rw [e] at h; simp only [Option.map_some, Option.some.injEq, Prod.mk.injEq] at h; exact ⟨i, Lib.hid rfl, Lib.hid h.1, Lib.hid h.2.1, Lib.hid h.2.2⟩
  obtain ⟨W0, hW0⟩ : ∃ W0, (w.alloc (.cells #[.int .i64 kind, .int .u32 pa, .int .i64 pl, .int .u32 ad, .int .u32 area, .int .i64 cost, .int .i64 prio, .int .i64 hel, .int .i64 dead, .bool up, .int .u32 dr, .int .u32 bdr, .int .i64 el, .int .i64 nh, .slice a1 nb.length c1] 69)).alloc (.cells #[.int .i64 0, .int .u32 0, .int .i64 0, .int .u32 0, .int .i64 0, .int .i64 0, .int .i64 0, .bool false, .bool false, .slice none 0 0, .slice none 0 0, .int .i64 0, .bool false, .int .u32 0, .int .i64 0] 42) = W0 := ⟨_, rfl⟩
  have B0 : Hid (Below w.heap.size w W0) := Lib.hid (by rw [← hW0]; exact ((Below.refl _ _).alloc (Nat.le_refl _) _).alloc (by simp) _)
  have X0 : Hid (W0.heap[w.heap.size]? = some (.cells #[.int .i64 kind, .int .u32 pa, .int .i64 pl, .int .u32 ad, .int .u32 area, .int .i64 cost, .int .i64 prio, .int .i64 hel, .int .i64 dead, .bool up, .int .u32 dr, .int .u32 bdr, .int .i64 el, .int .i64 nh, .slice a1 nb.length c1] 69 (0, 0))) := Lib.hid (by rw [← hW0]; exact (alloc_get _ _ _ (by simp)).trans (alloc_new _ _))
  have Z0 : Hid (W0.heap[w.heap.size + 1]? = some (.cells #[.int .i64 0, .int .u32 0, .int .i64 0, .int .u32 0, .int .i64 0, .int .i64 0, .int .i64 0, .bool false, .bool false, .slice none 0 0, .slice none 0 0, .int .i64 0, .bool false, .int .u32 0, .int .i64 0] 42 (0, 0))) := Lib.hid (by rw [← hW0]; exact blk_new2 w _ _)
  have S0 : Hid (W0.heap.size = w.heap.size + 2) := Lib.hid (by rw [← hW0]; simp)
  have HW0 := Lib.hid hW0
  generalize hok : nwB ⟨kind, pa, pl, ad, area, cost, prio, hel, dead, up, dr, bdr, el, nh, a1, nb.length, c1⟩ rt nb = ok
  generalize hat : fullsS nb rt = att9
  have HOK := Lib.hid hok
  have HAT := Lib.hid hat
  clear hok hat hW0
  have y0 : W0.cell? ⟨w.heap.size, 0, none⟩ = some (.int .i64 kind) := blk_cell X0.out rfl
  have y9 : W0.cell? ⟨w.heap.size, 9, none⟩ = some (.bool up) := blk_cell X0.out rfl
  have y10 : W0.cell? ⟨w.heap.size, 10, none⟩ = some (.int .u32 dr) := blk_cell X0.out rfl
  go_enter Tryz.func32, Tryz.ntmps32
  go_upto_region 1 with fail
  rw [HW0.out]
  clear HW0
  cases up with
  | false =>
    obtain rfl : ok = false := by rw [← HOK.out]; rfl
    clear HOK HAT X0
    obtain ⟨W', hW'⟩ : ∃ W', setLsa W0 (w.heap.size + 1) lsaZ = W' := ⟨_, rfl⟩
    have bk' : W'.heap[w.heap.size + 1]? = some (.cells #[.int .i64 0, .int .u32 0, .int .i64 0, .int .u32 0, .int .i64 0, .int .i64 0, .int .i64 0, .bool false, .bool false, .slice none 0 0, .slice none 0 0, .int .i64 0, .bool false, .int .u32 0, .int .i64 0] 42 (0, 0)) := by rw [← hW']; exact setLsa_blk Z0.out _
    have BW' : Below w.heap.size w W' := by rw [← hW']; exact setLsa_below B0.out (Nat.le_add_right _ _) _
    have BN : W0.grownBy W' (some (w.heap.size + 1)) := by rw [← hW']; exact setLsa_grown _ _ _
    have FIN : Hid (NwPost w false ⟨kind, pa, pl, ad, area, cost, prio, hel, dead, false, dr, bdr, el, nh, a1, nb.length, c1⟩ rt att9 (.returned (.tuple #[.agg #[.int .i64 0, .int .u32 0, .int .i64 0, .int .u32 0, .int .i64 0, .int .i64 0, .int .i64 0, .bool false, .bool false, .slice none 0 0, .slice none 0 0, .int .i64 0, .bool false, .int .u32 0, .int .i64 0], .bool false])) W') := Lib.hid (.inl ⟨rfl, rfl, BW'⟩)
    unfold setLsa lsaZ at hW'
    simp only at hW'
    have HW' := Lib.hid hW'
    obtain ⟨⟨⟨z0, z1, z2, z3, z4⟩, ⟨z5, z6, z7, z8, z9⟩, ⟨z10, z11, z12, z13, z14⟩⟩, hfz⟩ := blk15 Z0.out
    have zf0 := hfz 0
    have zf1 := hfz 1
    have zf2 := hfz 2
    have zf3 := hfz 3
    have zf4 := hfz 4
    have zf5 := hfz 5
    have zf6 := hfz 6
    have zf7 := hfz 7
    have zf8 := hfz 8
    have zf9 := hfz 9
    have zf10 := hfz 10
    have zf11 := hfz 11
    have zf12 := hfz 12
    have zf13 := hfz 13
    have zf14 := hfz 14
    obtain ⟨⟨⟨g0, g1, g2, g3, g4⟩, ⟨g5, g6, g7, g8, g9⟩, ⟨g10, g11, g12, g13, g14⟩⟩, -⟩ := blk15 bk'
    have G := Lib.hid (And.intro g0 (And.intro g1 (And.intro g2 (And.intro g3 (And.intro g4 (And.intro g5 (And.intro g6 (And.intro g7 (And.intro g8 (And.intro g9 (And.intro g10 (And.intro g11 (And.intro g12 (And.intro g13 g14))))))))))))))
    clear hW' bk' BW' BN hfz g0 g1 g2 g3 g4 g5 g6 g7 g8 g9 g10 g11 g12 g13 g14
    go_wp2_with fail
    rw [HW'.out]
    obtain ⟨g0, g1, g2, g3, g4, g5, g6, g7, g8, g9, g10, g11, g12, g13, g14⟩ := G.out
    exact bodyPost_ret (v := .tuple #[.agg #[.int .i64 0, .int .u32 0, .int .i64 0, .int .u32 0, .int .i64 0, .int .i64 0, .int .i64 0, .bool false, .bool false, .slice none 0 0, .slice none 0 0, .int .i64 0, .bool false, .int .u32 0, .int .i64 0], .bool false]) (by simp [results, Tryz.results32, go_sem, g0, g1, g2, g3, g4, g5, g6, g7, g8, g9, g10, g11, g12, g13, g14]) rfl FIN.out
  | true =>
  by_cases q1 : kind = 2
  case neg =>
    obtain rfl : ok = false := by rw [← HOK.out]; simp [nwB, q1]
    have q1' : (kind == 2) = false := by simpa using q1
    clear HOK HAT X0
    obtain ⟨W', hW'⟩ : ∃ W', setLsa W0 (w.heap.size + 1) lsaZ = W' := ⟨_, rfl⟩
    have bk' : W'.heap[w.heap.size + 1]? = some (.cells #[.int .i64 0, .int .u32 0, .int .i64 0, .int .u32 0, .int .i64 0, .int .i64 0, .int .i64 0, .bool false, .bool false, .slice none 0 0, .slice none 0 0, .int .i64 0, .bool false, .int .u32 0, .int .i64 0] 42 (0, 0)) := by rw [← hW']; exact setLsa_blk Z0.out _
    have BW' : Below w.heap.size w W' := by rw [← hW']; exact setLsa_below B0.out (Nat.le_add_right _ _) _
    have BN : W0.grownBy W' (some (w.heap.size + 1)) := by rw [← hW']; exact setLsa_grown _ _ _
    have FIN : Hid (NwPost w false ⟨kind, pa, pl, ad, area, cost, prio, hel, dead, true, dr, bdr, el, nh, a1, nb.length, c1⟩ rt att9 (.returned (.tuple #[.agg #[.int .i64 0, .int .u32 0, .int .i64 0, .int .u32 0, .int .i64 0, .int .i64 0, .int .i64 0, .bool false, .bool false, .slice none 0 0, .slice none 0 0, .int .i64 0, .bool false, .int .u32 0, .int .i64 0], .bool false])) W') := Lib.hid (.inl ⟨rfl, rfl, BW'⟩)
    unfold setLsa lsaZ at hW'
    simp only at hW'
    have HW' := Lib.hid hW'
    obtain ⟨⟨⟨z0, z1, z2, z3, z4⟩, ⟨z5, z6, z7, z8, z9⟩, ⟨z10, z11, z12, z13, z14⟩⟩, hfz⟩ := blk15 Z0.out
    have zf0 := hfz 0
    have zf1 := hfz 1
    have zf2 := hfz 2
    have zf3 := hfz 3
    have zf4 := hfz 4
    have zf5 := hfz 5
    have zf6 := hfz 6
    have zf7 := hfz 7
    have zf8 := hfz 8
    have zf9 := hfz 9
    have zf10 := hfz 10
    have zf11 := hfz 11
    have zf12 := hfz 12
    have zf13 := hfz 13
    have zf14 := hfz 14
    obtain ⟨⟨⟨g0, g1, g2, g3, g4⟩, ⟨g5, g6, g7, g8, g9⟩, ⟨g10, g11, g12, g13, g14⟩⟩, -⟩ := blk15 bk'
    have G := Lib.hid (And.intro g0 (And.intro g1 (And.intro g2 (And.intro g3 (And.intro g4 (And.intro g5 (And.intro g6 (And.intro g7 (And.intro g8 (And.intro g9 (And.intro g10 (And.intro g11 (And.intro g12 (And.intro g13 g14))))))))))))))
    clear hW' bk' BW' BN hfz g0 g1 g2 g3 g4 g5 g6 g7 g8 g9 g10 g11 g12 g13 g14
    go_wp2_with fail
    rw [HW'.out]
    obtain ⟨g0, g1, g2, g3, g4, g5, g6, g7, g8, g9, g10, g11, g12, g13, g14⟩ := G.out
    exact bodyPost_ret (v := .tuple #[.agg #[.int .i64 0, .int .u32 0, .int .i64 0, .int .u32 0, .int .i64 0, .int .i64 0, .int .i64 0, .bool false, .bool false, .slice none 0 0, .slice none 0 0, .int .i64 0, .bool false, .int .u32 0, .int .i64 0], .bool false]) (by simp [results, Tryz.results32, go_sem, g0, g1, g2, g3, g4, g5, g6, g7, g8, g9, g10, g11, g12, g13, g14]) rfl FIN.out

  subst q1
  by_cases q2 : dr = rt
  case neg =>
    obtain rfl : ok = false := by rw [← HOK.out]; simp [nwB, q2]
    have q2' : (dr == rt) = false := by simpa using q2
    clear HOK HAT X0
    obtain ⟨W', hW'⟩ : ∃ W', setLsa W0 (w.heap.size + 1) lsaZ = W' := ⟨_, rfl⟩
    have bk' : W'.heap[w.heap.size + 1]? = some (.cells #[.int .i64 0, .int .u32 0, .int .i64 0, .int .u32 0, .int .i64 0, .int .i64 0, .int .i64 0, .bool false, .bool false, .slice none 0 0, .slice none 0 0, .int .i64 0, .bool false, .int .u32 0, .int .i64 0] 42 (0, 0)) := by rw [← hW']; exact setLsa_blk Z0.out _
    have BW' : Below w.heap.size w W' := by rw [← hW']; exact setLsa_below B0.out (Nat.le_add_right _ _) _
    have BN : W0.grownBy W' (some (w.heap.size + 1)) := by rw [← hW']; exact setLsa_grown _ _ _
    have FIN : Hid (NwPost w false ⟨2, pa, pl, ad, area, cost, prio, hel, dead, true, dr, bdr, el, nh, a1, nb.length, c1⟩ rt att9 (.returned (.tuple #[.agg #[.int .i64 0, .int .u32 0, .int .i64 0, .int .u32 0, .int .i64 0, .int .i64 0, .int .i64 0, .bool false, .bool false, .slice none 0 0, .slice none 0 0, .int .i64 0, .bool false, .int .u32 0, .int .i64 0], .bool false])) W') := Lib.hid (.inl ⟨rfl, rfl, BW'⟩)
    unfold setLsa lsaZ at hW'
    simp only at hW'
    have HW' := Lib.hid hW'
    obtain ⟨⟨⟨z0, z1, z2, z3, z4⟩, ⟨z5, z6, z7, z8, z9⟩, ⟨z10, z11, z12, z13, z14⟩⟩, hfz⟩ := blk15 Z0.out
    have zf0 := hfz 0
    have zf1 := hfz 1
    have zf2 := hfz 2
    have zf3 := hfz 3
    have zf4 := hfz 4
    have zf5 := hfz 5
    have zf6 := hfz 6
    have zf7 := hfz 7
    have zf8 := hfz 8
    have zf9 := hfz 9
    have zf10 := hfz 10
    have zf11 := hfz 11
    have zf12 := hfz 12
    have zf13 := hfz 13
    have zf14 := hfz 14
    obtain ⟨⟨⟨g0, g1, g2, g3, g4⟩, ⟨g5, g6, g7, g8, g9⟩, ⟨g10, g11, g12, g13, g14⟩⟩, -⟩ := blk15 bk'
    have G := Lib.hid (And.intro g0 (And.intro g1 (And.intro g2 (And.intro g3 (And.intro g4 (And.intro g5 (And.intro g6 (And.intro g7 (And.intro g8 (And.intro g9 (And.intro g10 (And.intro g11 (And.intro g12 (And.intro g13 g14))))))))))))))
    clear hW' bk' BW' BN hfz g0 g1 g2 g3 g4 g5 g6 g7 g8 g9 g10 g11 g12 g13 g14
    go_wp2_with fail
    rw [HW'.out]
    obtain ⟨g0, g1, g2, g3, g4, g5, g6, g7, g8, g9, g10, g11, g12, g13, g14⟩ := G.out
    exact bodyPost_ret (v := .tuple #[.agg #[.int .i64 0, .int .u32 0, .int .i64 0, .int .u32 0, .int .i64 0, .int .i64 0, .int .i64 0, .bool false, .bool false, .slice none 0 0, .slice none 0 0, .int .i64 0, .bool false, .int .u32 0, .int .i64 0], .bool false]) (by simp [results, Tryz.results32, go_sem, g0, g1, g2, g3, g4, g5, g6, g7, g8, g9, g10, g11, g12, g13, g14]) rfl FIN.out

  exact absurd ⟨rfl, rfl, q2⟩ hc

set_option maxHeartbeats 16000000 in
set_option maxRecDepth 100000 in
theorem rnetwork_yes (x : Ifc) (nb : List Nb) (rt : Int) (w : World) (hn : NbsAt w (.slice x.na x.nn x.nc) nb) (hl : nb.length ≤ 1048576) (ho : NbOrd nb) (no : ∀ n ∈ nb, n.r ≠ rt) (hu : x.up = true) (hk : x.kind = 2) (hd : x.dr = rt) :
    Calls Tryz.prog 32 #[.agg (ifE x).toArray, .int .u32 rt] w (NwPost w (nwB x rt nb) x rt (fullsS nb rt)) := by
  have NO : Hid (∀ r ∈ fulls nb, r ≠ rt) := Lib.hid (fun r hr => by obtain ⟨n, hn, rfl⟩ := fulls_of hr; exact no n hn)
  have NO := NO.out
  have AS : Hid (∀ k, (fulls (nb.take k)).Pairwise (· < ·) ∧ ∀ r ∈ fulls (nb.take k), r ≠ rt) := Lib.hid (fun k => ⟨fulls_asc ⟨fun n hn => ho.1 n (List.take_subset _ _ hn), ho.2.sublist (List.take_sublist _ _)⟩, fun r hr => by obtain ⟨n, hn, rfl⟩ := fulls_of hr; exact no n (List.take_subset _ _ hn)⟩)
  clear NO
  have NL := Lib.hid hl
  obtain ⟨ga, gc, e1, hlen, hc1⟩ := hn.get
  have HC1 := Lib.hid hc1
  obtain ⟨kind, pa, pl, ad, area, cost, prio, hel, dead, up, dr, bdr, el, nh, a1, nn, c1⟩ := x
  simp only at e1
  simp only [Value.slice.injEq] at e1
  obtain ⟨rfl, rfl, rfl⟩ := e1
  simp only [ifE]
  simp only at hu hk hd
  subst hu hk hd
  clear hn hl ho no hc1
  have mixed : Tryz.prog.follows .mixedOrders = true := by kernel_rfl
  obtain ⟨ti, HI0, HZ0, HZ1, HZ2⟩ : ∃ i, Hid (Tryz.prog.info? 22 = some i) ∧ Hid (i.zero = some (.int .u32 0)) ∧ Hid (i.size = 1) ∧ Hid (i.bytes = 4) := by
    have h := Tryz.infoU32
    cases e : Tryz.prog.info? 22 with
    | none => rw [e] at h; simp at h
    | some i => rw [e] at h; simp only [Option.map_some, Option.some.injEq, Prod.mk.injEq] at h; exact ⟨i, Lib.hid rfl, Lib.hid h.1, Lib.hid h.2.1, Lib.hid h.2.2⟩
  obtain ⟨W0, hW0⟩ : ∃ W0, (w.alloc (.cells #[.int .i64 2, .int .u32 pa, .int .i64 pl, .int .u32 ad, .int .u32 area, .int .i64 cost, .int .i64 prio, .int .i64 hel, .int .i64 dead, .bool true, .int .u32 dr, .int .u32 bdr, .int .i64 el, .int .i64 nh, .slice a1 nb.length c1] 69)).alloc (.cells #[.int .i64 0, .int .u32 0, .int .i64 0, .int .u32 0, .int .i64 0, .int .i64 0, .int .i64 0, .bool false, .bool false, .slice none 0 0, .slice none 0 0, .int .i64 0, .bool false, .int .u32 0, .int .i64 0] 42) = W0 := ⟨_, rfl⟩
  have B0 : Hid (Below w.heap.size w W0) := Lib.hid (by rw [← hW0]; exact ((Below.refl _ _).alloc (Nat.le_refl _) _).alloc (by simp) _)
  have X0 : Hid (W0.heap[w.heap.size]? = some (.cells #[.int .i64 2, .int .u32 pa, .int .i64 pl, .int .u32 ad, .int .u32 area, .int .i64 cost, .int .i64 prio, .int .i64 hel, .int .i64 dead, .bool true, .int .u32 dr, .int .u32 bdr, .int .i64 el, .int .i64 nh, .slice a1 nb.length c1] 69 (0, 0))) := Lib.hid (by rw [← hW0]; exact (alloc_get _ _ _ (by simp)).trans (alloc_new _ _))
  have Z0 : Hid (W0.heap[w.heap.size + 1]? = some (.cells #[.int .i64 0, .int .u32 0, .int .i64 0, .int .u32 0, .int .i64 0, .int .i64 0, .int .i64 0, .bool false, .bool false, .slice none 0 0, .slice none 0 0, .int .i64 0, .bool false, .int .u32 0, .int .i64 0] 42 (0, 0))) := Lib.hid (by rw [← hW0]; exact blk_new2 w _ _)
  have S0 : Hid (W0.heap.size = w.heap.size + 2) := Lib.hid (by rw [← hW0]; simp)
  have HW0 := Lib.hid hW0
  generalize hok : nwB ⟨2, pa, pl, ad, area, cost, prio, hel, dead, true, dr, bdr, el, nh, a1, nb.length, c1⟩ dr nb = ok
  generalize hat : fullsS nb dr = att9
  have HOK := Lib.hid hok
  have HAT := Lib.hid hat
  clear hok hat hW0
  have y0 : W0.cell? ⟨w.heap.size, 0, none⟩ = some (.int .i64 2) := blk_cell X0.out rfl
  have y9 : W0.cell? ⟨w.heap.size, 9, none⟩ = some (.bool true) := blk_cell X0.out rfl
  have y10 : W0.cell? ⟨w.heap.size, 10, none⟩ = some (.int .u32 dr) := blk_cell X0.out rfl
  go_enter Tryz.func32, Tryz.ntmps32
  go_upto_region 1 with fail
  rw [HW0.out]
  clear HW0
  have y2 : W0.cell? ⟨w.heap.size, 2, none⟩ = some (.int .i64 pl) := blk_cell X0.out rfl
  have y3 : W0.cell? ⟨w.heap.size, 3, none⟩ = some (.int .u32 ad) := blk_cell X0.out rfl
  go_upto_region 4 with fail
  obtain ⟨WL, hWL⟩ : ∃ WL, W0.alloc (.cells #[.int .i64 2, .int .u32 ad, .int .i64 pl, .int .u32 dr, .int .i64 0, .int .i64 0, .int .i64 0, .bool false, .bool false, .slice none 0 0, .slice none 0 0, .int .i64 0, .bool false, .int .u32 0, .int .i64 0] 42) = WL := ⟨_, rfl⟩
  rw [S0.out, hWL]
  have SL : Hid (WL.heap.size = w.heap.size + 3) := Lib.hid (by rw [← hWL]; simp [S0.out])
  have BL : Hid (Below W0.heap.size W0 WL) := Lib.hid (by rw [← hWL]; exact (Below.refl _ _).alloc (Nat.le_refl _) _)
  have R0 : Hid (RnR WL (w.heap.size + 2) ⟨2, pa, pl, ad, area, cost, prio, hel, dead, true, dr, bdr, el, nh, a1, nb.length, c1⟩ dr (attK dr (fulls (nb.take 0))) none 0 WL) := Lib.hid ⟨World.ownsRow_nil _ _ _ _, ⟨rfl, rfl, rfl, Nat.le_refl _, fun _ _ _ => rfl⟩, by
    have := alloc_new W0 (.cells #[.int .i64 2, .int .u32 ad, .int .i64 pl, .int .u32 dr, .int .i64 0, .int .i64 0, .int .i64 0, .bool false, .bool false, .slice none 0 0, .slice none 0 0, .int .i64 0, .bool false, .int .u32 0, .int .i64 0] 42)
    rw [hWL, S0.out] at this
    exact this, by rw [SL.out]; omega⟩
  clear hWL y0 y9 y10 y2 y3
  have X0L : Hid (WL.heap[w.heap.size]? = some (.cells #[.int .i64 2, .int .u32 pa, .int .i64 pl, .int .u32 ad, .int .u32 area, .int .i64 cost, .int .i64 prio, .int .i64 hel, .int .i64 dead, .bool true, .int .u32 dr, .int .u32 bdr, .int .i64 el, .int .i64 nh, .slice a1 nb.length c1] 69 (0, 0))) := Lib.hid ((BL.out.block _ (by have := S0.out; omega)).trans X0.out)
  have Z0L : Hid (WL.heap[w.heap.size + 1]? = some (.cells #[.int .i64 0, .int .u32 0, .int .i64 0, .int .u32 0, .int .i64 0, .int .i64 0, .int .i64 0, .bool false, .bool false, .slice none 0 0, .slice none 0 0, .int .i64 0, .bool false, .int .u32 0, .int .i64 0] 42 (0, 0))) := Lib.hid ((BL.out.block _ (by have := S0.out; omega)).trans Z0.out)
  have BWL : Hid (Below w.heap.size w WL) := Lib.hid (B0.out.trans (BL.out.mono B0.out.size))
  clear X0 Z0 B0 BL
  go_wp2_with fail
  rename_i K hK
  refine rn_loop _ w WL pa pl ad area cost prio hel dead dr bdr el nh a1 c1 nb SL.out BWL.out X0L.out HC1.out hlen NL.out AS.out R0.out _ _ _ _ _ _ _ _ _ _ _ _ _ _ _ _ _ _ _ _ _ _ _ _ _ _ _ _ _ _ _ _ _ _ _ _ _ _ _ _ _ _ _ _ _ _ _ _ _ _ _ _ _ _ _ _ _ _ _ _ _ _ _ _ _ _ _ _ _ _ _ _ _ _ _ _ _ _ _ _ _ ?hq
  case hq =>
  intro v9 v36 v37 v38 v39 v40 v41 v42 v43 v44 v45 v46 v47 v48 v49 v50 v51 v52 v53 v54 v55 v56 v57 v58 v59 v60 v61 v62 v63 v64 v65 v66 v67 v68 v69 v70 v71 aa ac wr R9
  refine hK _ _ ?_
  clear hK
  have R := Lib.hid R9
  clear R0 R9
  have BE : Hid (Below w.heap.size w wr) := Lib.hid (BWL.out.grown R.out.gb BWL.out.size (fun j hj => by cases hj; omega))
  have FIN := by have h := attK_sort (AS.out nb.length).1 (AS.out nb.length).2; rw [List.take_length] at h; exact h
  have NIL := attK_nil dr (fulls nb)
  have ANIL : Hid (fulls nb = [] → ((fulls nb).any fun r => decide (dr < r)) = false) := Lib.hid (fun h => by rw [h]; rfl)
  have KL : Hid ((attK dr (fulls nb)).length ≤ 1048577) := Lib.hid (by have h1 := attK_len dr (fulls nb); have h2 := fulls_len nb; have := NL.out; omega)
  have Z1 : Hid (wr.heap[w.heap.size + 1]? = some (.cells #[.int .i64 0, .int .u32 0, .int .i64 0, .int .u32 0, .int .i64 0, .int .i64 0, .int .i64 0, .bool false, .bool false, .slice none 0 0, .slice none 0 0, .int .i64 0, .bool false, .int .u32 0, .int .i64 0] 42 (0, 0))) := Lib.hid ((R.out.old (by have := SL.out; omega) (by omega)).trans Z0L.out)
  have OK9 : Hid (ok = !(fulls nb).isEmpty) := Lib.hid (by rw [← HOK.out]; simp [nwB])
  have A9 : Hid (((fulls nb ++ [dr]).mergeSort fun x y => decide (x ≤ y)) = att9) := Lib.hid (HAT.out)
  have HF := Lib.hid FIN
  have HNIL := Lib.hid NIL
  have lb10 : wr.cell? ⟨w.heap.size + 2, 10, none⟩ = some (.slice aa (attK dr (fulls nb)).length ac) := blk_cell R.out.blk rfl
  clear FIN NIL HOK HAT AS HC1
  generalize fulls nb = L at *
  generalize hd : (L.any fun r => decide (dr < r)) = d at *
  generalize hatt : attK dr L = att at *
  clear hd hatt
  cases L with
  | nil =>
    obtain rfl : ok = false := OK9.out
    obtain rfl : att = [] := HNIL.out.2 rfl
    have d0 : (([] : List Int).length : Int) = 0 := rfl
    clear R OK9 A9 HF HNIL KL ANIL
    obtain ⟨W', hW'⟩ : ∃ W', setLsa wr (w.heap.size + 1) lsaZ = W' := ⟨_, rfl⟩
    have bk' : W'.heap[w.heap.size + 1]? = some (.cells #[.int .i64 0, .int .u32 0, .int .i64 0, .int .u32 0, .int .i64 0, .int .i64 0, .int .i64 0, .bool false, .bool false, .slice none 0 0, .slice none 0 0, .int .i64 0, .bool false, .int .u32 0, .int .i64 0] 42 (0, 0)) := by rw [← hW']; exact setLsa_blk Z1.out _
    have BW' : Below w.heap.size w W' := by rw [← hW']; exact setLsa_below BE.out (Nat.le_add_right _ _) _
    have BN : wr.grownBy W' (some (w.heap.size + 1)) := by rw [← hW']; exact setLsa_grown _ _ _
    have FIN : Hid (NwPost w false ⟨2, pa, pl, ad, area, cost, prio, hel, dead, true, dr, bdr, el, nh, a1, nb.length, c1⟩ dr att9 (.returned (.tuple #[.agg #[.int .i64 0, .int .u32 0, .int .i64 0, .int .u32 0, .int .i64 0, .int .i64 0, .int .i64 0, .bool false, .bool false, .slice none 0 0, .slice none 0 0, .int .i64 0, .bool false, .int .u32 0, .int .i64 0], .bool false])) W') := Lib.hid (.inl ⟨rfl, rfl, BW'⟩)
    unfold setLsa lsaZ at hW'
    simp only at hW'
    have HW' := Lib.hid hW'
    obtain ⟨⟨⟨z0, z1, z2, z3, z4⟩, ⟨z5, z6, z7, z8, z9⟩, ⟨z10, z11, z12, z13, z14⟩⟩, hfz⟩ := blk15 Z1.out
    have zf0 := hfz 0
    have zf1 := hfz 1
    have zf2 := hfz 2
    have zf3 := hfz 3
    have zf4 := hfz 4
    have zf5 := hfz 5
    have zf6 := hfz 6
    have zf7 := hfz 7
    have zf8 := hfz 8
    have zf9 := hfz 9
    have zf10 := hfz 10
    have zf11 := hfz 11
    have zf12 := hfz 12
    have zf13 := hfz 13
    have zf14 := hfz 14
    obtain ⟨⟨⟨g0, g1, g2, g3, g4⟩, ⟨g5, g6, g7, g8, g9⟩, ⟨g10, g11, g12, g13, g14⟩⟩, -⟩ := blk15 bk'
    have G := Lib.hid (And.intro g0 (And.intro g1 (And.intro g2 (And.intro g3 (And.intro g4 (And.intro g5 (And.intro g6 (And.intro g7 (And.intro g8 (And.intro g9 (And.intro g10 (And.intro g11 (And.intro g12 (And.intro g13 g14))))))))))))))
    clear hW' bk' BW' BN hfz g0 g1 g2 g3 g4 g5 g6 g7 g8 g9 g10 g11 g12 g13 g14
    go_wp2_with fail
    rw [HW'.out]
    obtain ⟨g0, g1, g2, g3, g4, g5, g6, g7, g8, g9, g10, g11, g12, g13, g14⟩ := G.out
    exact bodyPost_ret (v := .tuple #[.agg #[.int .i64 0, .int .u32 0, .int .i64 0, .int .u32 0, .int .i64 0, .int .i64 0, .int .i64 0, .bool false, .bool false, .slice none 0 0, .slice none 0 0, .int .i64 0, .bool false, .int .u32 0, .int .i64 0], .bool false]) (by simp [results, Tryz.results32, go_sem, g0, g1, g2, g3, g4, g5, g6, g7, g8, g9, g10, g11, g12, g13, g14]) rfl FIN.out
      | cons hh tt =>
    obtain rfl : ok = true := OK9.out
    have na : att ≠ [] := fun h => by have := HNIL.out.1 h; cases this
    have n0 : (att.length : Int) ≠ 0 := by
      cases att with
      | nil => exact absurd rfl na
      | cons a t => simp; omega
    have n0' : ((att.length : Int) == 0) = false := by simpa using n0
    clear OK9 HNIL na ANIL
    cases d with
    | true =>
      have E9 := HF.out
      rw [if_pos rfl, A9.out] at E9
      subst E9
      clear HF A9 KL
      go_upto_region 18 with fail
      have RB : wr.heap[w.heap.size + 2]? = some (.cells #[.int .i64 2, .int .u32 ad, .int .i64 pl, .int .u32 dr, .int .i64 0, .int .i64 0, .int .i64 0, .bool false, .bool false, .slice none 0 0, .slice aa att.length ac, .int .i64 0, .bool false, .int .u32 0, .int .i64 0] 42 (0, 0)) := R.out.blk
      obtain ⟨⟨⟨l0, l1, l2, l3, l4⟩, ⟨l5, l6, l7, l8, l9⟩, ⟨l10, l11, l12, l13, l14⟩⟩, -⟩ := blk15 RB
      clear RB
      obtain ⟨W', hW'⟩ : ∃ W', setLsa wr (w.heap.size + 1) ⟨2, ad, pl, dr, 0, 0, 0, false, false, none, 0, 0, aa, att.length, ac, 0, false, 0, 0⟩ = W' := ⟨_, rfl⟩
      have bk' : W'.heap[w.heap.size + 1]? = some (.cells #[.int .i64 2, .int .u32 ad, .int .i64 pl, .int .u32 dr, .int .i64 0, .int .i64 0, .int .i64 0, .bool false, .bool false, .slice none 0 0, .slice aa att.length ac, .int .i64 0, .bool false, .int .u32 0, .int .i64 0] 42 (0, 0)) := by rw [← hW']; exact setLsa_blk Z1.out _
      have BW' : Below w.heap.size w W' := by rw [← hW']; exact setLsa_below BE.out (Nat.le_add_right _ _) _
      have BN : wr.grownBy W' (some (w.heap.size + 1)) := by rw [← hW']; exact setLsa_grown _ _ _
      have FIN : Hid (NwPost w true ⟨2, pa, pl, ad, area, cost, prio, hel, dead, true, dr, bdr, el, nh, a1, nb.length, c1⟩ dr att (.returned (.tuple #[.agg #[.int .i64 2, .int .u32 ad, .int .i64 pl, .int .u32 dr, .int .i64 0, .int .i64 0, .int .i64 0, .bool false, .bool false, .slice none 0 0, .slice aa att.length ac, .int .i64 0, .bool false, .int .u32 0, .int .i64 0], .bool true])) W') := Lib.hid (.inr ⟨rfl, aa, ac, rfl, WordsOwn.at (base := WL.heap.size) (World.ownsRow.kept (row := some (w.heap.size + 1)) R.out.own BN (.inr (fun h => by have h1 := (World.ownsRow.lt R.out.own _ h).1; have h2 := SL.out; omega))), BW'⟩)
      unfold setLsa at hW'
      simp only at hW'
      have HW' := Lib.hid hW'
      obtain ⟨⟨⟨z0, z1, z2, z3, z4⟩, ⟨z5, z6, z7, z8, z9⟩, ⟨z10, z11, z12, z13, z14⟩⟩, hfz⟩ := blk15 Z1.out
      have zf0 := hfz 0
      have zf1 := hfz 1
      have zf2 := hfz 2
      have zf3 := hfz 3
      have zf4 := hfz 4
      have zf5 := hfz 5
      have zf6 := hfz 6
      have zf7 := hfz 7
      have zf8 := hfz 8
      have zf9 := hfz 9
      have zf10 := hfz 10
      have zf11 := hfz 11
      have zf12 := hfz 12
      have zf13 := hfz 13
      have zf14 := hfz 14
      obtain ⟨⟨⟨g0, g1, g2, g3, g4⟩, ⟨g5, g6, g7, g8, g9⟩, ⟨g10, g11, g12, g13, g14⟩⟩, -⟩ := blk15 bk'
      have G := Lib.hid (And.intro g0 (And.intro g1 (And.intro g2 (And.intro g3 (And.intro g4 (And.intro g5 (And.intro g6 (And.intro g7 (And.intro g8 (And.intro g9 (And.intro g10 (And.intro g11 (And.intro g12 (And.intro g13 g14))))))))))))))
      clear hW' bk' BW' BN hfz g0 g1 g2 g3 g4 g5 g6 g7 g8 g9 g10 g11 g12 g13 g14
      go_wp2_with fail
      rw [HW'.out]
      obtain ⟨g0, g1, g2, g3, g4, g5, g6, g7, g8, g9, g10, g11, g12, g13, g14⟩ := G.out
      exact bodyPost_ret (v := .tuple #[.agg #[.int .i64 2, .int .u32 ad, .int .i64 pl, .int .u32 dr, .int .i64 0, .int .i64 0, .int .i64 0, .bool false, .bool false, .slice none 0 0, .slice aa att.length ac, .int .i64 0, .bool false, .int .u32 0, .int .i64 0], .bool true]) (by simp [results, Tryz.results32, go_sem, g0, g1, g2, g3, g4, g5, g6, g7, g8, g9, g10, g11, g12, g13, g14]) rfl FIN.out
        | false =>
      have E9 := HF.out
      rw [if_neg (by decide), A9.out] at E9
      subst E9
      clear HF A9
      go_upto_region 17 with fail
      clear lb10
      have R1 := Lib.hid R.out
      clear n0 n0'
      obtain ⟨W2, hW2⟩ : ∃ W2, wr.alloc (.cells #[.int .u32 dr] 22) = W2 := ⟨_, rfl⟩
      have B2 : Below wr.heap.size wr W2 := by rw [← hW2]; exact (Below.refl _ _).alloc (Nat.le_refl _) _
      have BK : Hid (W2.heap[wr.heap.size]? = some (.cells #[.int .u32 dr] 22 (0, 0))) := Lib.hid (by rw [← hW2]; exact alloc_new _ _)
      have HWN := Lib.hid hW2
      have OW2 := Lib.hid (R1.out.own.below B2)
      have PU2 := Lib.hid (fun a' c' w4 own' hg => R1.out.push (y := dr) (a' := a') (c' := c') (w2 := W2) (w9 := w4) B2 own' hg)
      have PZ2 := Lib.hid (fun w4 hg => R1.out.cell (w2 := W2) (w9 := w4) B2 hg)
      skip
      have BS : Hid (WL.heap.size ≤ W2.heap.size) := Lib.hid (Nat.le_trans R1.out.gb.size B2.size)
      have K1 : Hid ((att).length + 1 ≤ maxLen) := Lib.hid (by have := KL.out; (try simp only [List.length_append, List.length_singleton]); unfold maxLen; omega)
      have K2 : Hid (((att).length + 1) * 4 ≤ 140737488355328) := Lib.hid (by have := KL.out; (try simp only [List.length_append, List.length_singleton]); omega)
      have ONE : Hid (∀ u ∈ ([.int .u32 dr] : List Value), u.oneCell' = true) := Lib.hid (by intro u hu; simp at hu; subst hu; rfl)
      have y10 : wr.cell? ⟨w.heap.size + 2, 10, none⟩ = some (.slice aa (att).length ac) := blk_cell R1.out.blk rfl
      clear hW2 B2
      unfold WordsOwn at OW2
      go_upto_region 18 with (at_builtin; rw [HWN.out]; refine wpList_append_one rfl (.tmp 80) (.tmp 82) 39 rfl WL.heap.size 22 ti (.int .u32 0) 1 4 Tryz.underlying39 ?g1 ?g2 ?g3 ?g4 ?g5 ?g6 (.slice aa (att).length ac) (att).length _ ?g7 OW2.out wr.heap.size [.int .u32 dr] 22 ?g8 BK.out ?g9 ONE.out K1.out K2.out BS.out ?_; (case g1 => exact HI0.out); (case g2 => exact HZ0.out); (case g3 => exact HZ1.out); (case g4 => exact HZ2.out); (case g5 => exact rfl); (case g6 => decide); (case g7 => exact rfl); (case g8 => exact rfl); (case g9 => exact rfl); intro v' w9 own' hg4 d; obtain ⟨a', c', rfl⟩ := words_sl own'; have RF := Lib.hid (PU2.out a' c' w9 own' hg4); have z10 := (PZ2.out w9 hg4).1; have z10f := (PZ2.out w9 hg4).2; clear own' hg4 d y10)
      clear OW2 PU2 PZ2 BS K1 K2 ONE BK HWN
      generalize w9.setCell ⟨w.heap.size + 2, 10, none⟩ (.slice a' (att.length + 1) c') = w10 at *
      have R3 := Lib.hid RF.out
      clear RF z10 z10f
      generalize a' = aa2 at *
      generalize c' = ac2 at *
      have Z3 : Hid (w10.heap[w.heap.size + 1]? = some (.cells #[.int .i64 0, .int .u32 0, .int .i64 0, .int .u32 0, .int .i64 0, .int .i64 0, .int .i64 0, .bool false, .bool false, .slice none 0 0, .slice none 0 0, .int .i64 0, .bool false, .int .u32 0, .int .i64 0] 42 (0, 0))) := Lib.hid ((R3.out.old (by have := SL.out; omega) (by omega)).trans Z0L.out)
      have BE3 : Hid (Below w.heap.size w w10) := Lib.hid (BWL.out.grown R3.out.gb BWL.out.size (fun j hj => by cases hj; omega))
      generalize att ++ [dr] = att2 at *
      have RB : w10.heap[w.heap.size + 2]? = some (.cells #[.int .i64 2, .int .u32 ad, .int .i64 pl, .int .u32 dr, .int .i64 0, .int .i64 0, .int .i64 0, .bool false, .bool false, .slice none 0 0, .slice aa2 att2.length ac2, .int .i64 0, .bool false, .int .u32 0, .int .i64 0] 42 (0, 0)) := R3.out.blk
      obtain ⟨⟨⟨l0, l1, l2, l3, l4⟩, ⟨l5, l6, l7, l8, l9⟩, ⟨l10, l11, l12, l13, l14⟩⟩, -⟩ := blk15 RB
      clear RB
      obtain ⟨W', hW'⟩ : ∃ W', setLsa w10 (w.heap.size + 1) ⟨2, ad, pl, dr, 0, 0, 0, false, false, none, 0, 0, aa2, att2.length, ac2, 0, false, 0, 0⟩ = W' := ⟨_, rfl⟩
      have bk' : W'.heap[w.heap.size + 1]? = some (.cells #[.int .i64 2, .int .u32 ad, .int .i64 pl, .int .u32 dr, .int .i64 0, .int .i64 0, .int .i64 0, .bool false, .bool false, .slice none 0 0, .slice aa2 att2.length ac2, .int .i64 0, .bool false, .int .u32 0, .int .i64 0] 42 (0, 0)) := by rw [← hW']; exact setLsa_blk Z3.out _
      have BW' : Below w.heap.size w W' := by rw [← hW']; exact setLsa_below BE3.out (Nat.le_add_right _ _) _
      have BN : w10.grownBy W' (some (w.heap.size + 1)) := by rw [← hW']; exact setLsa_grown _ _ _
      have FIN : Hid (NwPost w true ⟨2, pa, pl, ad, area, cost, prio, hel, dead, true, dr, bdr, el, nh, a1, nb.length, c1⟩ dr att2 (.returned (.tuple #[.agg #[.int .i64 2, .int .u32 ad, .int .i64 pl, .int .u32 dr, .int .i64 0, .int .i64 0, .int .i64 0, .bool false, .bool false, .slice none 0 0, .slice aa2 att2.length ac2, .int .i64 0, .bool false, .int .u32 0, .int .i64 0], .bool true])) W') := Lib.hid (.inr ⟨rfl, aa2, ac2, rfl, WordsOwn.at (base := WL.heap.size) (World.ownsRow.kept (row := some (w.heap.size + 1)) R3.out.own BN (.inr (fun h => by have h1 := (World.ownsRow.lt R3.out.own _ h).1; have h2 := SL.out; omega))), BW'⟩)
      unfold setLsa at hW'
      simp only at hW'
      have HW' := Lib.hid hW'
      obtain ⟨⟨⟨z0, z1, z2, z3, z4⟩, ⟨z5, z6, z7, z8, z9⟩, ⟨z10, z11, z12, z13, z14⟩⟩, hfz⟩ := blk15 Z3.out
      have zf0 := hfz 0
      have zf1 := hfz 1
      have zf2 := hfz 2
      have zf3 := hfz 3
      have zf4 := hfz 4
      have zf5 := hfz 5
      have zf6 := hfz 6
      have zf7 := hfz 7
      have zf8 := hfz 8
      have zf9 := hfz 9
      have zf10 := hfz 10
      have zf11 := hfz 11
      have zf12 := hfz 12
      have zf13 := hfz 13
      have zf14 := hfz 14
      obtain ⟨⟨⟨g0, g1, g2, g3, g4⟩, ⟨g5, g6, g7, g8, g9⟩, ⟨g10, g11, g12, g13, g14⟩⟩, -⟩ := blk15 bk'
      have G := Lib.hid (And.intro g0 (And.intro g1 (And.intro g2 (And.intro g3 (And.intro g4 (And.intro g5 (And.intro g6 (And.intro g7 (And.intro g8 (And.intro g9 (And.intro g10 (And.intro g11 (And.intro g12 (And.intro g13 g14))))))))))))))
      clear hW' bk' BW' BN hfz g0 g1 g2 g3 g4 g5 g6 g7 g8 g9 g10 g11 g12 g13 g14
      go_wp2_with fail
      rw [HW'.out]
      obtain ⟨g0, g1, g2, g3, g4, g5, g6, g7, g8, g9, g10, g11, g12, g13, g14⟩ := G.out
      exact bodyPost_ret (v := .tuple #[.agg #[.int .i64 2, .int .u32 ad, .int .i64 pl, .int .u32 dr, .int .i64 0, .int .i64 0, .int .i64 0, .bool false, .bool false, .slice none 0 0, .slice aa2 att2.length ac2, .int .i64 0, .bool false, .int .u32 0, .int .i64 0], .bool true]) (by simp [results, Tryz.results32, go_sem, g0, g1, g2, g3, g4, g5, g6, g7, g8, g9, g10, g11, g12, g13, g14]) rfl FIN.out

theorem rnetwork_calls (x : Ifc) (nb : List Nb) (rt : Int) (w : World) (hn : NbsAt w (.slice x.na x.nn x.nc) nb) (hl : nb.length ≤ 1048576) (ho : NbOrd nb) (no : ∀ n ∈ nb, n.r ≠ rt) :
    Calls Tryz.prog 32 #[.agg (ifE x).toArray, .int .u32 rt] w (NwPost w (nwB x rt nb) x rt (fullsS nb rt)) := by
  by_cases h : x.up = true ∧ x.kind = 2 ∧ x.dr = rt
  · exact rnetwork_yes x nb rt w hn hl ho no h.1 h.2.1 h.2.2
  · exact rnetwork_no x nb rt w hn hl ho no h

end Go.Proofs.YtddageahmgaigaaGreat
