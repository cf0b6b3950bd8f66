import Derived.Test.YtddageahmgaigaaGreatLca
namespace Go.Proofs.YtddageahmgaigaaGreat
open Go.RowKit

set_option maxHeartbeats 2000000 in
theorem orderLinks_calls (a b : Lnk) (w : World) : Calls Tryz.prog 156 #[.agg (lnkE a).toArray, .agg (lnkE b).toArray] w fun e w' => e = .returned (.int .i64 (lnkCmp a b)) ∧ Gr w w' := by
  obtain ⟨a1, a2, a3, a4⟩ := a
  obtain ⟨b1, b2, b3, b4⟩ := b
  unfold lnkE lnkCmp
  generalize hx1 : cmpI a1 b1 = x1
  generalize hx2 : cmpI a2 b2 = x2
  generalize hx3 : cmpI a3 b3 = x3
  have X1 := Lib.hid hx1
  have X2 := Lib.hid hx2
  have X3 := Lib.hid hx3
  clear hx1 hx2 hx3
  go_enter Tryz.func156, Tryz.ntmps156
  go_wp2_with fail
  go_region_held3 (fun W' => W'.cell? ⟨w.heap.size, 0, none⟩ = some (.int .i64 a1) ∧ W'.cell? ⟨w.heap.size, 1, none⟩ = some (.int .u32 a2) ∧ W'.cell? ⟨w.heap.size, 2, none⟩ = some (.int .u32 a3) ∧ W'.cell? ⟨w.heap.size + 1, 0, none⟩ = some (.int .i64 b1) ∧ W'.cell? ⟨w.heap.size + 1, 1, none⟩ = some (.int .u32 b2) ∧ W'.cell? ⟨w.heap.size + 1, 2, none⟩ = some (.int .u32 b3)) (go_keep)
    (first
    | (go_at_call 43; refine (cmp_int _ _ _).mono ?_; rintro e w' ⟨rfl, rfl⟩; rw [X1.out])
    | (go_at_call 44; refine (cmp_u32 _ _ _).mono ?_; rintro e w' ⟨rfl, rfl⟩; first | rw [X2.out] | rw [X3.out])
    | (go_at_call 42; refine (or_int [x1, x2, x3] _ _ _ (by simp) ?_).mono ?_; (exact fun _ => ⟨_, 0, rfl, fun i hi => by match i, hi with | 0, _ => exact new_cell (by simp) rfl | 1, _ => exact new_cell (by simp) rfl | 2, _ => exact new_cell (by simp) rfl⟩); rintro e w' ⟨rfl, rfl⟩))
  go_wp2_with fail
  go_ret
  exact ⟨rfl, by repeat (first | exact Gr.refl _ | refine Gr.drew ?_ | refine Gr.alloc ?_ _ | refine Gr.drewN ?_ _)⟩

def lnkErr0 (x : Lnk) (r : Int) : Int :=
  if withinB x.kind 1 3 = false then 15
  else if withinB x.cost 1 65535 = false then 5
  else if x.kind = 1 ∧ (x.id = 0 ∨ x.id = r) then 1
  else if x.kind = 3 ∧ (32 < x.data ∨ fitsB x.id x.data = false) then 1 else 0

set_option maxHeartbeats 8000000 in
set_option maxRecDepth 100000 in
theorem checkLink_calls (x : Lnk) (r : Int) (hx : 0 ≤ x.id ∧ x.id < 4294967296 ∧ 0 ≤ x.data ∧ x.data < 4294967296) (w : World) : Calls Tryz.prog 155 #[.agg (lnkE x).toArray, .int .u32 r] w fun e w' => e = .returned (.int .i64 (lnkErr0 x r)) ∧ Gr w w' := by
  obtain ⟨kind, id, data, cost⟩ := x
  obtain ⟨i0, i1, d0, d1⟩ := hx
  simp only at i0 i1 d0 d1
  have F33 : Hid (∀ W, Calls Tryz.prog 152 #[.agg #[.int .u32 id, .int .i64 33]] W fun e w' => e = .returned (.bool false) ∧ Gr W w') := Lib.hid (fun W => by
    have h := valid_calls ⟨id, 33⟩ ⟨i0, i1⟩ W
    rwa [show validP ⟨id, 33⟩ = false from by simp [validP]] at h)
  have FC : Hid (∀ W, Calls Tryz.prog 152 #[.agg #[.int .u32 id, .int .i64 data]] W fun e w' => e = .returned (.bool (fitsB id data)) ∧ Gr W w') := Lib.hid (fun W => valid_calls ⟨id, data⟩ ⟨i0, i1⟩ W)
  unfold lnkE
  simp only
  cases h1 : withinB kind 1 3 with
  | false =>
    have E : Hid (lnkErr0 ⟨kind, id, data, cost⟩ r = 15) := Lib.hid (by simp [lnkErr0, h1])
    rw [E.out]
    clear E
    go_enter Tryz.func155, Tryz.ntmps155
    go_wp2_with (first | (go_at_call 118; refine (lwithin_calls _ _ _ _).mono ?_; rintro e w' ⟨rfl, rfl⟩) | (go_at_call 152; ((with_reducible refine (FC.out _).mono ?_)); rintro e w' ⟨rfl, GV⟩))
    all_goals first
      | (exfalso; omega)
      | (go_ret
         exact ⟨rfl, by first | exact ((Gr.refl _).alloc _).alloc _ | exact (((Gr.refl _).alloc _).alloc _).trans GV⟩)
  | true =>
  cases h2 : withinB cost 1 65535 with
  | false =>
    have E : Hid (lnkErr0 ⟨kind, id, data, cost⟩ r = 5) := Lib.hid (by simp [lnkErr0, h1, h2])
    rw [E.out]
    clear E
    go_enter Tryz.func155, Tryz.ntmps155
    go_wp2_with (first | (go_at_call 118; refine (lwithin_calls _ _ _ _).mono ?_; rintro e w' ⟨rfl, rfl⟩) | (go_at_call 152; ((with_reducible refine (FC.out _).mono ?_)); rintro e w' ⟨rfl, GV⟩))
    all_goals first
      | (exfalso; omega)
      | (go_ret
         exact ⟨rfl, by first | exact ((Gr.refl _).alloc _).alloc _ | exact (((Gr.refl _).alloc _).alloc _).trans GV⟩)
  | true =>
  by_cases k1 : kind = 1
  · subst k1
    by_cases z : id = 0
    · subst z
      have E : Hid (lnkErr0 ⟨1, 0, data, cost⟩ r = 1) := Lib.hid (by simp [lnkErr0, h1, h2])
      rw [E.out]
      clear E
      go_enter Tryz.func155, Tryz.ntmps155
      go_wp2_with (first | (go_at_call 118; refine (lwithin_calls _ _ _ _).mono ?_; rintro e w' ⟨rfl, rfl⟩) | (go_at_call 152; ((with_reducible refine (FC.out _).mono ?_)); rintro e w' ⟨rfl, GV⟩))
      all_goals first
        | (exfalso; omega)
        | (go_ret
           exact ⟨rfl, by first | exact ((Gr.refl _).alloc _).alloc _ | exact (((Gr.refl _).alloc _).alloc _).trans GV⟩)
    · have z1 : (id == 0) = false := by simpa using z
      by_cases q : id = r
      · subst q
        have E : Hid (lnkErr0 ⟨1, id, data, cost⟩ id = 1) := Lib.hid (by simp [lnkErr0, h1, h2])
        rw [E.out]
        clear E
        go_enter Tryz.func155, Tryz.ntmps155
        go_wp2_with (first | (go_at_call 118; refine (lwithin_calls _ _ _ _).mono ?_; rintro e w' ⟨rfl, rfl⟩) | (go_at_call 152; ((with_reducible refine (FC.out _).mono ?_)); rintro e w' ⟨rfl, GV⟩))
        all_goals first
          | (exfalso; omega)
          | (go_ret
             exact ⟨rfl, by first | exact ((Gr.refl _).alloc _).alloc _ | exact (((Gr.refl _).alloc _).alloc _).trans GV⟩)
      · have q1 : (id == r) = false := by simpa using q
        have E : Hid (lnkErr0 ⟨1, id, data, cost⟩ r = 0) := Lib.hid (by simp [lnkErr0, h1, h2, q, z])
        rw [E.out]
        clear E
        go_enter Tryz.func155, Tryz.ntmps155
        go_wp2_with (first | (go_at_call 118; refine (lwithin_calls _ _ _ _).mono ?_; rintro e w' ⟨rfl, rfl⟩) | (go_at_call 152; ((with_reducible refine (FC.out _).mono ?_)); rintro e w' ⟨rfl, GV⟩))
        all_goals first
          | (exfalso; omega)
          | (go_ret
             exact ⟨rfl, by first | exact ((Gr.refl _).alloc _).alloc _ | exact (((Gr.refl _).alloc _).alloc _).trans GV⟩)
  · have k1' : (kind == 1) = false := by simpa using k1
    by_cases k3 : kind = 3
    · subst k3
      by_cases dd : data < 33
      · have nd : ¬ 32 < data := by omega
        cases f : fitsB id data with
        | false =>
          rw [f] at FC
          have E : Hid (lnkErr0 ⟨3, id, data, cost⟩ r = 1) := Lib.hid (by simp [lnkErr0, h1, h2, f])
          rw [E.out]
          clear E
          go_enter Tryz.func155, Tryz.ntmps155
          go_wp2_with (first | (go_at_call 118; refine (lwithin_calls _ _ _ _).mono ?_; rintro e w' ⟨rfl, rfl⟩) | (go_at_call 152; ((with_reducible refine (FC.out _).mono ?_)); rintro e w' ⟨rfl, GV⟩))
          all_goals first
            | (exfalso; omega)
            | (go_ret
               exact ⟨rfl, by first | exact ((Gr.refl _).alloc _).alloc _ | exact (((Gr.refl _).alloc _).alloc _).trans GV⟩)
        | true =>
          rw [f] at FC
          have E : Hid (lnkErr0 ⟨3, id, data, cost⟩ r = 0) := Lib.hid (by simp [lnkErr0, h1, h2, f, nd])
          rw [E.out]
          clear E
          go_enter Tryz.func155, Tryz.ntmps155
          go_wp2_with (first | (go_at_call 118; refine (lwithin_calls _ _ _ _).mono ?_; rintro e w' ⟨rfl, rfl⟩) | (go_at_call 152; ((with_reducible refine (FC.out _).mono ?_)); rintro e w' ⟨rfl, GV⟩))
          all_goals first
            | (exfalso; omega)
            | (go_ret
               exact ⟨rfl, by first | exact ((Gr.refl _).alloc _).alloc _ | exact (((Gr.refl _).alloc _).alloc _).trans GV⟩)
      · have nd : 32 < data := by omega
        by_cases d33 : data = 33
        · subst d33
          have E : Hid (lnkErr0 ⟨3, id, 33, cost⟩ r = 1) := Lib.hid (by simp [lnkErr0, h1, h2])
          rw [E.out]
          clear E
          go_enter Tryz.func155, Tryz.ntmps155
          go_wp2_with (first | (go_at_call 118; refine (lwithin_calls _ _ _ _).mono ?_; rintro e w' ⟨rfl, rfl⟩) | (go_at_call 152; ((with_reducible refine (F33.out _).mono ?_)); rintro e w' ⟨rfl, GV⟩))
          all_goals first
            | (exfalso; omega)
            | (go_ret
               exact ⟨rfl, by first | exact ((Gr.refl _).alloc _).alloc _ | exact (((Gr.refl _).alloc _).alloc _).trans GV⟩)
        · skip
          have E : Hid (lnkErr0 ⟨3, id, data, cost⟩ r = 1) := Lib.hid (by simp [lnkErr0, h1, h2, nd])
          rw [E.out]
          clear E
          go_enter Tryz.func155, Tryz.ntmps155
          go_wp2_with (first | (go_at_call 118; refine (lwithin_calls _ _ _ _).mono ?_; rintro e w' ⟨rfl, rfl⟩) | (go_at_call 152; ((with_reducible refine (F33.out _).mono ?_)); rintro e w' ⟨rfl, GV⟩))
          all_goals first
            | (exfalso; omega)
            | (go_ret
               exact ⟨rfl, by first | exact ((Gr.refl _).alloc _).alloc _ | exact (((Gr.refl _).alloc _).alloc _).trans GV⟩)
    · have k3' : (kind == 3) = false := by simpa using k3
      have E : Hid (lnkErr0 ⟨kind, id, data, cost⟩ r = 0) := Lib.hid (by simp [lnkErr0, h1, h2, k1, k3])
      rw [E.out]
      clear E
      go_enter Tryz.func155, Tryz.ntmps155
      go_wp2_with (first | (go_at_call 118; refine (lwithin_calls _ _ _ _).mono ?_; rintro e w' ⟨rfl, rfl⟩) | (go_at_call 152; ((with_reducible refine (FC.out _).mono ?_)); rintro e w' ⟨rfl, GV⟩))
      all_goals first
        | (exfalso; omega)
        | (go_ret
           exact ⟨rfl, by first | exact ((Gr.refl _).alloc _).alloc _ | exact (((Gr.refl _).alloc _).alloc _).trans GV⟩)

end Go.Proofs.YtddageahmgaigaaGreat

namespace Go.Proofs.YtddageahmgaigaaGreat
open Go.RowKit

theorem lnkErr_eq (l : List Lnk) (r : Int) (k : Nat) : lnkErr l r k = if lnkErr0 (lnkAt l k) r ≠ 0 then lnkErr0 (lnkAt l k) r else if 0 < k ∧ 0 ≤ lnkCmp (lnkAt l (k - 1)) (lnkAt l k) then 16 else 0 := by
  unfold lnkErr lnkErr0
  split
  · simp
  · split
    · simp
    · split
      · simp
      · split
        · simp
        · simp

set_option maxHeartbeats 8000000 in
set_option maxRecDepth 100000 in
theorem checkLinks_calls (l : List Lnk) (r : Int) (v : Value) (w : World) (hl : LnksAt w v l) (hr : ∀ y ∈ l, 0 ≤ y.id ∧ y.id < 4294967296 ∧ 0 ≤ y.data ∧ y.data < 4294967296) : Calls Tryz.prog 116 #[v, .int .u32 r] w (LnkPost w l r) := by
  obtain ⟨a0, c0, rfl, hc⟩ := hl.get
  have hlen : l.length ≤ 9223372036854775807 := SlV.len hl |> fun h => by simpa using h
  have HC := Lib.hid hc
  have HR := Lib.hid hr
  clear hl hc hr
  by_cases h64 : 64 < l.length
  · have E : Hid (LnkPost w l r (.returned (.int .i64 4)) w) := Lib.hid ⟨4, rfl, .inl ⟨h64, rfl⟩, Gr.refl _⟩
    go_enter Tryz.func116, Tryz.ntmps116
    go_wp2_with fail
    go_ret
    exact E.out
  · have R0 : Hid (LnkRel w l r 0 w) := Lib.hid ⟨Nat.zero_le _, fun i hi => by omega, Gr.refl _⟩
    have h64' : l.length ≤ 64 := by omega
    clear h64
    have mixed : Tryz.prog.follows .mixedOrders = true := by kernel_rfl
    go_enter Tryz.func116, Tryz.ntmps116
    go_wp2_with fail
    go_loopw [13] (fun i wr => ∃ (k : Nat), i = .int .i64 k ∧ LnkRel w l r k wr) (fun i _ => l.length - (intOf i).toNat)
    case atStart => exact ⟨0, rfl, R0.out⟩
    case round =>
      clear R0
      obtain ⟨k, rfl, R⟩ := hrel
      have hk := R.hk
      by_cases c : k < l.length
      · obtain ⟨b, off, rfl, hb0, hcc⟩ := HC.out (by omega)
        have D0 : Hid (LnkC wr b (off + k * 4) (lnkAt l k)) := Lib.hid (by
          rw [lnkAt_eq c]; obtain ⟨q0, q1, q2, q3⟩ := hcc k c
          exact LnkC.gr ⟨q0, q1, q2, q3⟩ R.gr)
        have PV : Hid (0 < k → LnkC wr b (off + (k - 1) * 4) (lnkAt l (k - 1))) := Lib.hid (fun h0 => by
          rw [lnkAt_eq (by omega)]; obtain ⟨q0, q1, q2, q3⟩ := hcc (k - 1) (by omega)
          exact LnkC.gr ⟨q0, q1, q2, q3⟩ R.gr)
        have Z : 0 ≤ (lnkAt l k).id ∧ (lnkAt l k).id < 4294967296 ∧ 0 ≤ (lnkAt l k).data ∧ (lnkAt l k).data < 4294967296 := by rw [lnkAt_eq c]; exact HR.out _ (List.getElem_mem c)
        have NXT := Lib.hid (fun (h : lnkErr l r k = 0) (W' : World) (g : Gr wr W') => R.step c h g)
        have STP := Lib.hid (fun (e : Int) (h : lnkErr l r k = e) (he : e ≠ 0) (W' : World) (g : Gr wr W') => R.stop (Gr.refl w) h64' c h he g)
        have EE := Lib.hid (lnkErr_eq l r k)
        have i0 : (0 : Int) ≤ (k : Int) := by omega
        have i1 : (k : Int) < (l.length : Int) := by omega
        have s3 : ((k : Int)).toNat = k := by omega
        have CK := Lib.hid (fun W => checkLink_calls (lnkAt l k) r Z W)
        clear R hcc Z
        generalize hy : lnkAt l k = y at *
        clear hy
        obtain ⟨d0, d1, d2, d3⟩ := D0.out
        generalize hE : lnkErr0 y r = ec at *
        clear hE
        have OL := Lib.hid (fun z W => orderLinks_calls z y W)
        obtain ⟨kind, yid, data, ycost⟩ := y
        simp only at d0 d1 d2 d3
        simp only [lnkE] at CK OL
        go_upto_region 6 with fail
        generalize hW1 : wr.alloc _ = W1
        have bx1 : W1.heap[wr.heap.size]? = some (.cells #[.int .i64 kind, .int .u32 yid, .int .u32 data, .int .i64 ycost] 82 (0, 0)) := by rw [← hW1]; exact alloc_new _ _
        have G1 : Hid (Gr wr W1) := Lib.hid (by rw [← hW1]; exact (Gr.refl _).alloc _)
        have BX1 := Lib.hid bx1
        have p0 := blk_cell (i := 0) bx1 rfl
        have p1 := blk_cell (i := 1) bx1 rfl
        have p2 := blk_cell (i := 2) bx1 rfl
        have p3 := blk_cell (i := 3) bx1 rfl
        clear hW1 bx1 d0 d1 d2 d3
        go_wp2_with fail
        refine (CK.out _).mono ?_
        rintro e w2 ⟨rfl, G2⟩
        have G02 := Lib.hid (G1.out.trans G2)
        have BX2 := Lib.hid ((G2.b.block _ (blk_lt BX1.out)).trans BX1.out)
        clear p0 p1 p2 p3 CK G2
        by_cases he : ec = 0
        · subst he
          have E2 : Hid (lnkErr l r k = if 0 < k ∧ 0 ≤ lnkCmp (lnkAt l (k - 1)) ⟨kind, yid, data, ycost⟩ then 16 else 0) := Lib.hid (by rw [EE.out]; simp)
          clear EE
          rcases Nat.eq_zero_or_pos k with h0 | h0
          · subst h0
            clear PV D0
            have NX := Lib.hid (fun n => NXT.out (by rw [E2.out]; rfl) (w2.drewN n) (G02.out.drewN n))
            go_wp2_with fail
            go_quiet (fail)
            go_wp2_with fail
            go_roundw
            case rel => exact ⟨1, by go_num, NX.out _⟩
            case measure => simp [intOf]; omega
          · obtain ⟨q0, q1, q2, q3⟩ := (PV.out h0).gr G02.out
            have p0 := blk_cell (i := 0) BX2.out rfl
            have p1 := blk_cell (i := 1) BX2.out rfl
            have p2 := blk_cell (i := 2) BX2.out rfl
            have p3 := blk_cell (i := 3) BX2.out rfl
            generalize lnkAt l (k - 1) = z at *
            obtain ⟨zk, zi, zd, zc⟩ := z
            simp only at q0 q1 q2 q3
            obtain ⟨j, rfl⟩ : ∃ j, k = j + 1 := ⟨k - 1, by omega⟩
            rw [Nat.add_sub_cancel] at q0 q1 q2 q3
            have y0 : ∀ n os, (Go.Sort.grow (w2.drewN n) os).cell? ⟨b, off + j * 4, none⟩ = some (.int .i64 zk) := cell_grown (World.block_lt_of_cell? _ _ q0) q0
            have y1 : ∀ n os, (Go.Sort.grow (w2.drewN n) os).cell? ⟨b, off + j * 4 + 1, none⟩ = some (.int .u32 zi) := cell_grown (World.block_lt_of_cell? _ _ q1) q1
            have y2 : ∀ n os, (Go.Sort.grow (w2.drewN n) os).cell? ⟨b, off + j * 4 + 2, none⟩ = some (.int .u32 zd) := cell_grown (World.block_lt_of_cell? _ _ q2) q2
            have y3 : ∀ n os, (Go.Sort.grow (w2.drewN n) os).cell? ⟨b, off + j * 4 + 3, none⟩ = some (.int .i64 zc) := cell_grown (World.block_lt_of_cell? _ _ q3) q3
            have x0 : ∀ n os, (Go.Sort.grow (w2.drewN n) os).cell? ⟨wr.heap.size, 0, none⟩ = some (.int .i64 kind) := cell_grown (World.block_lt_of_cell? _ _ p0) p0
            have x1 : ∀ n os, (Go.Sort.grow (w2.drewN n) os).cell? ⟨wr.heap.size, 1, none⟩ = some (.int .u32 yid) := cell_grown (World.block_lt_of_cell? _ _ p1) p1
            have x2 : ∀ n os, (Go.Sort.grow (w2.drewN n) os).cell? ⟨wr.heap.size, 2, none⟩ = some (.int .u32 data) := cell_grown (World.block_lt_of_cell? _ _ p2) p2
            have x3 : ∀ n os, (Go.Sort.grow (w2.drewN n) os).cell? ⟨wr.heap.size, 3, none⟩ = some (.int .i64 ycost) := cell_grown (World.block_lt_of_cell? _ _ p3) p3
            have j0 : (0 : Int) ≤ (j : Int) := by omega
            have j1 : (j : Int) < (l.length : Int) := by omega
            have s1 : IntKind.i64.wrap (((j + 1 : Nat) : Int) - 1) = (j : Int) := by rw [IntWalk.i64_in _ (by omega)]; omega
            have s2 : ((j : Int)).toNat = j := by omega
            have LC := Lib.hid (fun W => OL.out ⟨zk, zi, zd, zc⟩ W)
            have E3 : Hid (lnkErr l r (j + 1) = if 0 ≤ lnkCmp ⟨zk, zi, zd, zc⟩ ⟨kind, yid, data, ycost⟩ then 16 else 0) := Lib.hid (by rw [E2.out]; simp)
            simp only at LC
            generalize lnkCmp ⟨zk, zi, zd, zc⟩ ⟨kind, yid, data, ycost⟩ = q at *
            clear E2 PV D0 q0 q1 q2 q3 p0 p1 p2 p3 OL
            go_wp2_with fail
            by_cases hq : 0 ≤ q
            · have NX := Lib.hid (fun (W' : World) (g : Gr wr W') => STP.out 16 (by rw [E3.out, if_pos hq]) (by decide) W' g)
              have dr : decide (0 ≤ q) = true := by simpa using hq
              refine wp_region_quiet_grown (by assumption) (by kernel_rfl) ?_
              repeat (go_big_quiet_step ((go_at_call 156; exact Calls.grown_of ((LC.out _).mono fun _ _ ⟨he, hg⟩ => ⟨he, hg.grow⟩))))
              refine wpQuiet_nil ?_
              intro _ hw'
              obtain ⟨⟨nq, osq⟩, hw''⟩ := hw'
              subst hw''
              have RN := Lib.hid (NX.out _ (G02.out.trans (Gr.of_grow nq osq)))
              clear y0 y1 y2 y3 x0 x1 x2 x3 s1 s2 s3
              go_wp2_with fail
              go_returns
              exact RN.out
            · have NX := Lib.hid (fun (W' : World) (g : Gr wr W') => NXT.out (by rw [E3.out, if_neg hq]) W' g)
              have dr : decide (0 ≤ q) = false := by simpa using hq
              refine wp_region_quiet_grown (by assumption) (by kernel_rfl) ?_
              repeat (go_big_quiet_step ((go_at_call 156; exact Calls.grown_of ((LC.out _).mono fun _ _ ⟨he, hg⟩ => ⟨he, hg.grow⟩))))
              refine wpQuiet_nil ?_
              intro _ hw'
              obtain ⟨⟨nq, osq⟩, hw''⟩ := hw'
              subst hw''
              have RN := Lib.hid (NX.out _ (G02.out.trans (Gr.of_grow nq osq)))
              clear y0 y1 y2 y3 x0 x1 x2 x3 s1 s2 s3
              go_wp2_with fail
              go_roundw
              case rel => exact ⟨j + 1 + 1, by go_num, RN.out⟩
              case measure => simp [intOf]; omega
        · have e1 : (ec != 0) = true := by simpa using he
          have EL := Lib.hid (STP.out ec (by rw [EE.out, if_pos he]) he _ G02.out)
          clear he
          go_wp2_with fail
          go_returns
          exact EL.out
      · have R1 := R.ok
        have E : Hid (LnkPost w l r (.returned (.int .i64 0)) wr) := Lib.hid ⟨0, rfl, .inr ⟨h64', .inl ⟨fun i hi => R1 i (by omega), rfl⟩⟩, R.gr⟩
        clear R R1
        go_wp2_with fail
        go_ret
        exact E.out

theorem attBad_le (l : List Int) (hr : ∀ y ∈ l, 0 ≤ y ∧ y < 4294967296) (k : Nat) (c : k < l.length) : attBad l k = decide (l[k] ≤ if k = 0 then 0 else l.getD (k - 1) 0) := by
  have z0 := (hr l[k] (List.getElem_mem c)).1
  unfold attBad
  rw [getI c]
  by_cases h0 : k = 0
  · rw [if_pos h0, show decide (0 < k) = false from decide_eq_false (by omega), Bool.false_and, Bool.or_false]
    exact decide_eq_decide.2 (by omega)
  · have hp : l.getD (k - 1) 0 = l[k - 1] := getI (by omega)
    have h1 := (hr l[k - 1] (List.getElem_mem _)).1
    rw [if_neg h0, show decide (0 < k) = true from decide_eq_true (by omega), Bool.true_and, ← Bool.decide_or, hp]
    exact decide_eq_decide.2 (by omega)

set_option maxHeartbeats 4000000 in
set_option maxRecDepth 100000 in
theorem checkAttached_calls (l : List Int) (r : Int) (v : Value) (w : World) (hl : WordsAt w v l) (hr : ∀ y ∈ l, 0 ≤ y ∧ y < 4294967296) : Calls Tryz.prog 117 #[v, .int .u32 r] w (AttPost w l r) := by
  obtain ⟨a0, c0, rfl, hc⟩ := hl.get
  have hlen : l.length ≤ 9223372036854775807 := SlV.len hl |> fun h => by simpa using h
  have HC := Lib.hid hc
  have HR := Lib.hid hr
  have CC := Lib.hid (contains_u32 l a0 c0 r w hlen (fun h => by obtain ⟨b, off, e, _, h2⟩ := hc h; exact ⟨b, off, e, h2⟩))
  clear hl hc hr
  by_cases h64 : 64 < l.length
  · have E : Hid (AttPost w l r (.returned (.int .i64 4)) w) := Lib.hid ⟨4, rfl, .inl ⟨h64, rfl⟩, Gr.refl _⟩
    go_enter Tryz.func117, Tryz.ntmps117
    go_wp2_with fail
    go_ret
    exact E.out
  · have h64' : l.length ≤ 64 := by omega
    clear h64
    go_enter Tryz.func117, Tryz.ntmps117
    go_wp2_with fail
    go_loop [5, 13] (fun la i => ∃ k : Nat, i = .int .i64 k ∧ k ≤ l.length ∧ la = .int .u32 (if k = 0 then 0 else l.getD (k - 1) 0) ∧ Hid (∀ j, j < k → attBad l j = false)) (fun _ i => l.length - (intOf i).toNat)
    case atStart => exact ⟨0, rfl, Nat.zero_le _, rfl, Lib.hid (fun j hj => by omega)⟩
    case round =>
      obtain ⟨k, rfl, hk, rfl, R⟩ := hrel
      by_cases c : k < l.length
      · obtain ⟨b, off, rfl, hb, hcc⟩ := HC.out (by omega)
        have d := hcc k c
        obtain ⟨z0, z1⟩ := HR.out l[k] (List.getElem_mem c)
        have i1 : (k : Int) < (l.length : Int) := by omega
        have BD : Hid (attBad l k = decide (l[k] ≤ if k = 0 then 0 else l.getD (k - 1) 0)) := Lib.hid (attBad_le l HR.out k c)
        have STP : Hid (attBad l k = true → AttPost w l r (.returned (.int .i64 16)) w) := Lib.hid (fun h => ⟨16, rfl, .inr ⟨h64', .inl ⟨k, c, h, rfl⟩⟩, Gr.refl _⟩)
        have NXT : Hid (attBad l k = false → ∀ j, j < k + 1 → attBad l j = false) := Lib.hid (fun h j hj => by
          rcases Nat.lt_or_ge j k with h' | h'
          · exact R.out j h'
          · rw [show j = k by omega]; exact h)
        have NL : Hid ((if k + 1 = 0 then (0 : Int) else l.getD (k + 1 - 1) 0) = l[k]) := Lib.hid (by rw [if_neg (Nat.succ_ne_zero k), Nat.add_sub_cancel]; exact getI c)
        clear hcc R
        generalize attBad l k = ab at *
        generalize (if k = 0 then (0 : Int) else l.getD (k - 1) 0) = la at *
        generalize l[k] = z at *
        by_cases q : z ≤ la
        · have q1 : decide (z ≤ la) = true := by simpa using q
          have FI := Lib.hid (STP.out (by rw [BD.out]; exact q1))
          clear BD STP NXT q
          go_wp2_with fail
          go_ret
          exact FI.out
        · have q1 : decide (z ≤ la) = false := by simpa using q
          have NX := Lib.hid (NXT.out (by rw [BD.out]; exact q1))
          clear BD STP NXT q
          go_wp2_with fail
          go_round
          case rel => exact ⟨k + 1, by go_num, c, by rw [NL.out], NX⟩
          case measure => simp [intOf]; omega
      · have ek : k = l.length := by omega
        have FI : Hid (AttPost w l r (.returned (.int .i64 (if r ∈ l then 0 else 14))) w) := Lib.hid ⟨_, rfl, .inr ⟨h64', .inr ⟨fun j hj => R.out j (by omega), rfl⟩⟩, Gr.refl _⟩
        clear R
        generalize (if k = 0 then (0 : Int) else l.getD (k - 1) 0) = la at *
        by_cases m : r ∈ l
        · rw [if_pos m] at FI
          rw [show decide (r ∈ l) = true from decide_eq_true m] at CC
          clear m
          go_wp2_with fail
          refine CC.out.mono ?_
          rintro e w' ⟨rfl, rfl⟩
          go_wp2_with fail
          go_ret
          exact FI.out
        · rw [if_neg m] at FI
          rw [show decide (r ∈ l) = false from decide_eq_false m] at CC
          clear m
          go_wp2_with fail
          refine CC.out.mono ?_
          rintro e w' ⟨rfl, rfl⟩
          go_wp2_with fail
          go_ret
          exact FI.out

end Go.Proofs.YtddageahmgaigaaGreat
