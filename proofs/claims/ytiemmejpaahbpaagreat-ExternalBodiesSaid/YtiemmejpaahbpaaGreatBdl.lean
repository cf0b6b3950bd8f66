/-
  ExternalBodies: the law walked.
-/
import Derived.Test.YtiemmejpaahbpaaGreatBdx
import Derived.Test.YtiemmejpaahbpaaGreatBdr
import Derived.Test.YtiemmejpaahbpaaGreatSme
import Derived.Test.YtiemmejpaahbpaaGreatExk
import Derived.Test.YtiemmejpaahbpaaGreatLiv
import Derived.IntWalk
namespace Go.Proofs.YtiemmejpaahbpaaGreat
open Go.RowKit

theorem chk_zero {l : List Ext} (h : ChkIs l 0) : l.length ≤ 64 ∧ ∀ i, i < l.length → extErr l i = 0 := by
  rcases h with ⟨_, h⟩ | ⟨h1, ⟨h2, _⟩ | ⟨k, _, _, h3, h4⟩⟩
  · cases h
  · exact ⟨h1, h2⟩
  · exact absurd rfl h4

set_option maxHeartbeats 16000000 in
set_option maxRecDepth 100000 in
theorem ebodies_law (w : World) (router : Int) (r0 : 0 ≤ router) (r1 : router < 4294967296) (v : Value) (l : List Ext) (h : ExtsAt w v l) (ok : ∀ x ∈ l, OkP x.pfx) (okf : ∀ x ∈ l, 0 ≤ x.fwd ∧ x.fwd < 4294967296) :
    Calls Tryz.prog 5 #[.int .u32 router, v] w (LivPost w) := by
  have CC := Lib.hid (xcheck_calls w v l h ok)
  have LV := Lib.hid (fun W => lives_calls W)
  have CB := Lib.hid (fun h64 hA W (hb : Below w.heap.size w W) => bodies_calls W router v l (h.below hb) h64 hA)
  have CR := Lib.hid (fun h64 hA W (hb : Below w.heap.size w W) => rbodies_calls W router v l (h.below hb) h64 hA)
  have CE := Lib.hid (fun W v1 v2 h1 h2 => equal_calls W v1 v2 (l.map (bodL router)) h1 h2 (fun x hx => by obtain ⟨y, _, rfl⟩ := List.mem_map.1 hx; exact ⟨rfl, rfl⟩))
  have CK := Lib.hid (fun (hr : ¬ router = 0) (hA : ∀ i, i < l.length → extErr l i = 0) k (c : k < l.length) W => (by
    have h1 := check_calls { bodL router (exAt l k) with seq := 1 } ⟨(exAt_ok ok c).a0, (exAt_ok ok c).a1, r0, r1, by
      rw [exAt, getD_at c]; exact (okf _ (List.getElem_mem c)).1, by rw [exAt, getD_at c]; exact (okf _ (List.getElem_mem c)).2⟩ (by simp [bodL]) (by simp [bodL]) W
    rw [bod_chk hr (hA k c)] at h1
    exact h1 : Calls Tryz.prog 17 #[.agg (lsaE { bodL router (exAt l k) with seq := 1 }).toArray] W (HeadPost W 0)))
  obtain ⟨a1, c1, rfl, hl1, -⟩ := h.get
  have mixed : Tryz.prog.follows .mixedOrders = true := by kernel_rfl
  clear h ok okf
  by_cases hr : router = 0
  · subst hr
    clear CC CB CR CE CK
    go_enter Tryz.func5, Tryz.ntmps5
    go_wp2_with fail
    refine (LV.out _).mono ?_
    rintro e w9 ⟨rfl, B9⟩
    have FIN := Lib.hid B9
    clear B9
    go_wp2_with fail
    go_ret
    exact ⟨rfl, FIN.out⟩
  · have hrb : (router == 0) = false := by simpa using hr
    go_enter Tryz.func5, Tryz.ntmps5
    go_wp2_with fail
    refine CC.out.mono ?_
    rintro e w1 ⟨c, rfl, K1, B1⟩
    have HB1 := Lib.hid B1
    by_cases hc : c = 0
    · subst hc
      obtain ⟨h64, hA⟩ := chk_zero K1
      have CB1 := Lib.hid (CB.out h64 hA w1 B1)
      have CR1 := Lib.hid (CR.out h64 hA)
      have CK1 := Lib.hid (CK.out hr hA)
      clear CC CB CR CK K1 B1 hA
      go_wp2_with fail
      refine CB1.out.mono ?_
      rintro e w2 ⟨v2, rfl, L2, B2⟩
      have HB2 := Lib.hid (HB1.out.trans (B2.mono HB1.out.size))
      have HL2 := Lib.hid L2
      obtain ⟨ab, cb, eb, hlb, hcb⟩ := L2.get
      subst eb
      have HCB := Lib.hid hcb
      clear CB1 L2 B2 hcb
      simp only [List.length_map] at *
      go_wp2_with fail
      refine (CR1.out w2 HB2.out).mono ?_
      rintro e w3 ⟨v3, rfl, L3, B3⟩
      have HB3 := Lib.hid (HB2.out.trans (B3.mono HB2.out.size))
      have CE1 := Lib.hid (CE.out w3 _ _ (HL2.out.below B3) L3)
      have HB23 := Lib.hid B3
      obtain ⟨ac, cc, ec, hlc, -⟩ := L3.get
      subst ec
      clear CR1 CE L3 B3
      simp only [List.length_map] at *
      go_wp2_with fail
      refine CE1.out.mono ?_
      rintro e w4 ⟨rfl, G4⟩
      have HB4 := Lib.hid (HB3.out.trans (G4.b.mono HB3.out.size))
      have HB24 := Lib.hid (HB23.out.trans (G4.b.mono HB23.out.size))
      clear CE1 G4
      go_wp2_with fail
      go_loopw [34] (fun ix wr => ∃ k : Nat, ix = .int .i64 k ∧ k ≤ l.length ∧ Hid (Below w4.heap.size w4 wr)) (fun ix _ => l.length - (intOf ix).toNat)
      case atStart => exact ⟨0, rfl, Nat.zero_le _, Lib.hid (Below.refl _ _)⟩
      case round =>
        obtain ⟨k, rfl, hk, R⟩ := hrel
        by_cases c : k < l.length
        · obtain ⟨bb, bo, rfl, hbb, hcc⟩ := HCB.out (by omega)
          have dc := (hcc k c).below (HB24.out.trans (R.out.mono HB24.out.size)) hbb
          have ex : (l.map (bodL router))[k]'(by rw [List.length_map]; exact c) = bodL router (exAt l k) := by rw [List.getElem_map, exAt, getD_at c]
          rw [ex] at dc
          obtain ⟨⟨d0, d1, d2, d3, d4⟩, ⟨d5, d6, d7, d8, d9⟩, ⟨d10, d11, d12, d13, d14⟩⟩ := dc
          have CK2 := Lib.hid (CK1.out k c)
          have i0' : (0 : Int) ≤ (k : Int) := by omega
          have i1' : (k : Int) < (l.length : Int) := by omega
          have s3 : ((k : Int)).toNat = k := by omega
          have KC := Lib.hid c
          clear hcc ex
          generalize exAt l k = x at *
          obtain ⟨⟨pa, pl⟩, cost, second, fwd, tag⟩ := x
          simp only [bodL, lsaE] at d0 d1 d2 d3 d4 d5 d6 d7 d8 d9 d10 d11 d12 d13 d14 CK2
          go_upto_region 10 with fail
          generalize hW5 : wr.alloc _ = W5
          have B5 : Below w4.heap.size w4 W5 := by rw [← hW5]; exact R.out.alloc R.out.size _
          have b5 : W5.heap[wr.heap.size]? = some (.cells #[.int .i64 5, .int .u32 pa, .int .i64 pl, .int .u32 router, .int .i64 0, .int .i64 0, .int .i64 0, .bool false, .bool false, .slice none 0 0, .slice none 0 0, .int .i64 cost, .bool second, .int .u32 fwd, .int .i64 tag] 44 (0, 0)) := by rw [← hW5]; exact alloc_new _ _
          obtain ⟨⟨-, ⟨-, -, -, -, -⟩, -⟩, hf⟩ := blk15 b5
          have hf4 := hf 4
          have e4 : W5.cell? ⟨wr.heap.size, 4, none⟩ = some (.int .i64 0) := blk_cell b5 rfl
          have B6 := Lib.hid (B5.setCell (p := ⟨wr.heap.size, 4, none⟩) R.out.size (.int .i64 1))
          have b6 := Lib.hid (blk_set b5 4 (.int .i64 1))
          clear hW5 B5 b5 hf d0 d1 d2 d3 d4 d5 d6 d7 d8 d9 d10 d11 d12 d13 d14
          go_upto_region 11 with fail
          generalize W5.setCell _ _ = W6 at *
          have b6 := b6.out
          simp only [List.setIfInBounds_toArray, List.set_cons_zero, List.set_cons_succ] at b6
          obtain ⟨⟨⟨d0, d1, d2, d3, d4⟩, ⟨d5, d6, d7, d8, d9⟩, ⟨d10, d11, d12, d13, d14⟩⟩, -⟩ := blk15 b6
          clear hf4 e4
          go_wp2_with fail
          refine (CK2.out _).mono ?_
          rintro e w5 ⟨rfl, G5⟩
          have NX := Lib.hid (B6.out.trans (G5.b.mono B6.out.size))
          clear G5 CK2 b6 d0 d1 d2 d3 d4 d5 d6 d7 d8 d9 d10 d11 d12 d13 d14 R
          go_wp2_with fail
          go_roundw
          case rel => exact ⟨k + 1, by go_num, by have := KC.out; omega, NX⟩
          case measure => simp [intOf]; have := KC.out; omega
        · have HW := Lib.hid (HB4.out.trans (R.out.mono HB4.out.size))
          clear R
          go_wp2_with fail
          refine (LV.out _).mono ?_
          rintro e w9 ⟨rfl, B9⟩
          have FIN := Lib.hid (HW.out.trans (B9.mono HW.out.size))
          clear B9
          go_wp2_with fail
          go_ret
          exact ⟨rfl, FIN.out⟩
    · have hcb : (c != 0) = true := by simpa using hc
      clear CC CB CR CE CK K1 B1
      go_wp2_with fail
      refine (LV.out _).mono ?_
      rintro e w9 ⟨rfl, B9⟩
      have FIN := Lib.hid (HB1.out.trans (B9.mono HB1.out.size))
      clear B9
      go_wp2_with fail
      go_ret
      exact ⟨rfl, FIN.out⟩

end Go.Proofs.YtiemmejpaahbpaaGreat
