import Derived.Test.YtddageahmgaigaaGreatLcb
import Derived.Test.YtddageahmgaigaaGreatLcc
import Derived.Test.YtddageahmgaigaaGreatLce
namespace Go.Proofs.YtddageahmgaigaaGreat
open Go.RowKit

theorem headP_typ {t id len r seq age sum : Int} (h : headP t id len r seq age sum = 0) : 1 ≤ t ∧ t ≤ 5 := ⟨(headP_zero h).1, (headP_zero h).2.1⟩

set_option maxHeartbeats 8000000 in
set_option maxRecDepth 100000 in
theorem lcheck_calls (d : LsaD) (w : World) (hd : DIn w d) : Calls Tryz.prog 89 #[.agg (lsaE d.x).toArray] w (CkaPost w d.x d.lk d.att) := by
  obtain ⟨x, lk, att⟩ := d
  obtain ⟨ok, hlk, hlr, hat, har⟩ := hd
  simp only at ok hlk hlr hat har ⊢
  have HC := Lib.hid (fun W => checkHeader_calls x.typ x.id x.len x.router x.seq x.age x.sum ok.id0 ok.id1 W)
  have FO := Lib.hid (fun (h : headX x = 0) W => foreign_calls x (headP_typ h) W)
  have LK := Lib.hid (fun W (g : Gr w W) => checkLinks_calls lk x.router (.slice x.la x.ln x.lc) W (hlk.below g.b) hlr)
  have AK := Lib.hid (fun W (g : Gr w W) => checkAttached_calls att x.router (.slice x.aa x.an x.ac) W (hat.below g.b) har)
  have FA : Hid (∀ W', headX x ≠ 0 → Gr w W' → CkaPost w x lk att (.returned (.int .i64 (headX x))) W') := Lib.hid (fun W' h g => ⟨_, rfl, .inl ⟨h, rfl⟩, g⟩)
  have FB : Hid (∀ W', headX x = 0 → unusedP x = false → Gr w W' → CkaPost w x lk att (.returned (.int .i64 1)) W') := Lib.hid (fun W' h k g => ⟨_, rfl, .inr (.inl ⟨h, k, rfl⟩), g⟩)
  have F1 : Hid (∀ c W', headX x = 0 → unusedP x = true → x.typ = 1 → LnkIs lk x.router c → Gr w W' → CkaPost w x lk att (.returned (.int .i64 c)) W') := Lib.hid (fun c W' h k ht hL g => ⟨_, rfl, .inr (.inr ⟨h, k, .inl ⟨ht, hL⟩⟩), g⟩)
  have F2 : Hid (∀ c W', headX x = 0 → unusedP x = true → x.typ = 2 → AttIs att x.router c → Gr w W' → CkaPost w x lk att (.returned (.int .i64 c)) W') := Lib.hid (fun c W' h k ht hL g => ⟨_, rfl, .inr (.inr ⟨h, k, .inr (.inl ⟨ht, hL⟩)⟩), g⟩)
  have F3 : Hid (∀ c W', headX x = 0 → unusedP x = true → x.typ ≠ 1 → x.typ ≠ 2 → c = (if withinB x.cost 0 16777216 = false ∨ withinB x.tag 0 4294967295 = false then 5 else 0) → Gr w W' → CkaPost w x lk att (.returned (.int .i64 c)) W') := Lib.hid (fun c W' h k h1 h2 hc g => ⟨_, rfl, .inr (.inr ⟨h, k, .inr (.inr ⟨h1, h2, hc⟩)⟩), g⟩)
  obtain ⟨W0, hW0⟩ : ∃ W0, w.alloc (.cells (lsaE x).toArray 42) = W0 := ⟨_, rfl⟩
  have b0 : W0.heap[w.heap.size]? = some (.cells (lsaE x).toArray 42 (0, 0)) := by rw [← hW0]; exact alloc_new w _
  have G0 : Hid (Gr w W0) := Lib.hid (by rw [← hW0]; exact (Gr.refl _).alloc _)
  have HH : headP x.typ x.id x.len x.router x.seq x.age x.sum = headX x := rfl
  rw [HH] at HC
  clear ok hlk hlr hat har HH
  generalize headX x = h at *
  generalize unusedP x = u at *
  obtain ⟨typ, id, len, router, seq, age, sum, border, boundary, la, ln, lc, aa, an, ac, cost, second, fwd, tag⟩ := x
  simp only [lsaE, hdE] at *
  have HW0 := Lib.hid hW0
  have X0 := Lib.hid b0
  obtain ⟨⟨⟨x0, x1, x2, x3, x4⟩, ⟨x5, x6, x7, x8, x9⟩, ⟨x10, x11, x12, x13, x14⟩⟩, -⟩ := blk15 b0
  clear hW0 b0
  by_cases hh : h = 0
  · subst hh
    replace FO := FO.out rfl
    go_enter Tryz.func89, Tryz.ntmps89
    go_upto_region 1 with fail
    rw [HW0.out]
    go_wp2_with fail
    refine (HC.out _).mono ?_
    rintro e w1 ⟨rfl, g1⟩
    have X1 := Lib.hid ((g1.b.block _ (blk_lt X0.out)).trans X0.out)
    have G1 := Lib.hid (G0.out.trans g1)
    clear x0 x1 x2 x3 x4 x5 x6 x7 x8 x9 x10 x11 x12 x13 x14 g1 HC
    obtain ⟨⟨⟨x0, x1, x2, x3, x4⟩, ⟨x5, x6, x7, x8, x9⟩, ⟨x10, x11, x12, x13, x14⟩⟩, -⟩ := blk15 X1.out
    have FO1 := Lib.hid (FO w1)
    clear FO
    go_wp2_with fail
    refine FO1.out.mono ?_
    rintro e w2 ⟨rfl, g2⟩
    have X2 := Lib.hid ((g2.b.block _ (blk_lt X1.out)).trans X1.out)
    have G2 := Lib.hid (G1.out.trans g2)
    clear x0 x1 x2 x3 x4 x5 x6 x7 x8 x9 x10 x11 x12 x13 x14 g2 FO1
    obtain ⟨⟨⟨x0, x1, x2, x3, x4⟩, ⟨x5, x6, x7, x8, x9⟩, ⟨x10, x11, x12, x13, x14⟩⟩, -⟩ := blk15 X2.out
    cases u with
    | false =>
      have FI := Lib.hid (FB.out w2 (by first | rfl | trivial) (by first | rfl | trivial) G2.out)
      simp only [Bool.not_false]
      go_wp2_with fail
      go_ret
      exact FI.out
    | true =>
      simp only [Bool.not_true]
      by_cases t1 : typ = 1
      · subst t1
        have LC := Lib.hid (LK.out w2 G2.out)
        go_wp2_with fail
        refine LC.out.mono ?_
        rintro e w3 ⟨c, rfl, hL, g3⟩
        have FI := Lib.hid (F1.out c w3 (by first | rfl | trivial) (by first | rfl | trivial) (by first | rfl | trivial) hL (G2.out.trans g3))
        clear x0 x1 x2 x3 x4 x5 x6 x7 x8 x9 x10 x11 x12 x13 x14 hL g3
        go_wp2_with fail
        go_ret
        exact FI.out
      · have t1' : (typ == 1) = false := by simpa using t1
        by_cases t2 : typ = 2
        · subst t2
          have LC := Lib.hid (AK.out w2 G2.out)
          go_wp2_with fail
          refine LC.out.mono ?_
          rintro e w3 ⟨c, rfl, hL, g3⟩
          have FI := Lib.hid (F2.out c w3 (by first | rfl | trivial) (by first | rfl | trivial) (by first | rfl | trivial) hL (G2.out.trans g3))
          clear x0 x1 x2 x3 x4 x5 x6 x7 x8 x9 x10 x11 x12 x13 x14 hL g3
          go_wp2_with fail
          go_ret
          exact FI.out
        · have t2' : (typ == 2) = false := by simpa using t2
          have FI := Lib.hid (F3.out _ w2 (by first | rfl | trivial) (by first | rfl | trivial) t1 t2 rfl G2.out)
          clear t1 t2
          cases hc : withinB cost 0 16777216 with
          | false =>
            rw [if_pos (.inl hc)] at FI
            go_wp2_with (go_at_call 118; refine (lwithin_calls _ _ _ _).mono ?_; rintro e w' ⟨rfl, rfl⟩)
            go_ret
            exact FI.out
          | true =>
            cases hg : withinB tag 0 4294967295 with
            | false =>
              rw [if_pos (.inr hg)] at FI
              go_wp2_with (go_at_call 118; refine (lwithin_calls _ _ _ _).mono ?_; rintro e w' ⟨rfl, rfl⟩)
              go_ret
              exact FI.out
            | true =>
              rw [if_neg (by rw [hc, hg]; simp)] at FI
              go_wp2_with (go_at_call 118; refine (lwithin_calls _ _ _ _).mono ?_; rintro e w' ⟨rfl, rfl⟩)
              go_ret
              exact FI.out
  · have e1 : (h != 0) = true := by simpa using hh
    have FI := Lib.hid (fun W' g => FA.out W' hh g)
    clear hh
    go_enter Tryz.func89, Tryz.ntmps89
    go_upto_region 1 with fail
    rw [HW0.out]
    go_wp2_with fail
    refine (HC.out _).mono ?_
    rintro e w1 ⟨rfl, g1⟩
    have FJ := Lib.hid (FI.out w1 (G0.out.trans g1))
    clear x0 x1 x2 x3 x4 x5 x6 x7 x8 x9 x10 x11 x12 x13 x14 g1 HC
    go_wp2_with fail
    go_ret
    exact FJ.out

theorem AttIs.one {l : List Int} {r c d : Int} (h : AttIs l r c) (k : AttIs l r d) : c = d := by
  rcases h with ⟨h1, rfl⟩ | ⟨h1, ⟨i, hi, hb, rfl⟩ | ⟨hb, rfl⟩⟩ <;> rcases k with ⟨k1, rfl⟩ | ⟨k1, ⟨j, kj, kb, rfl⟩ | ⟨kb, rfl⟩⟩ <;> first | rfl | omega | skip
  · exact absurd (kb i hi) (by rw [hb]; simp)
  · exact absurd (hb j kj) (by rw [kb]; simp)
theorem LnkIs.one {l : List Lnk} {r c d : Int} (h : LnkIs l r c) (k : LnkIs l r d) : c = d := by
  rcases h with ⟨h1, rfl⟩ | ⟨h1, h⟩ <;> rcases k with ⟨k1, rfl⟩ | ⟨k1, k⟩ <;> first | rfl | omega | exact h.one k
theorem LsaIs.one {x : Lsa} {lk : List Lnk} {att : List Int} {c d : Int} (h : LsaIs x lk att c) (k : LsaIs x lk att d) : c = d := by
  rcases h with ⟨h1, rfl⟩ | ⟨h1, h2, rfl⟩ | ⟨h1, h2, h⟩ <;> rcases k with ⟨k1, rfl⟩ | ⟨k1, k2, rfl⟩ | ⟨k1, k2, k⟩ <;> first | rfl | exact absurd h1 k1 | exact absurd k1 h1 | (rw [h2] at k2; cases k2) | skip
  rcases h with ⟨a, h⟩ | ⟨a, h⟩ | ⟨a, b, h⟩ <;> rcases k with ⟨a', k⟩ | ⟨a', k⟩ | ⟨a', b', k⟩ <;> first | exact h.one k | exact h.trans k.symm | omega

end Go.Proofs.YtddageahmgaigaaGreat
