import Derived.Test.YtddageahmgaigaaGreatFle
import Derived.Test.YtddageahmgaigaaGreatIfs
import Derived.Test.YtddageahmgaigaaGreatLbo
import Derived.Deep.DeepCutAuto
namespace Go.Proofs.YtddageahmgaigaaGreat
open Go.RowKit

structure SuR (w : World) (l : List Int) (k : Nat) (wr : World) : Prop where
  hk : k ≤ l.length
  b4 : wr.heap[w.heap.size]? = some (.cells #[.int .i64 0, .int .i64 0] 178 (0, 0))
  b5 : wr.heap[w.heap.size + 1]? = some (.cells #[.int .i64 (sumS (blank l) k), .int .i64 (sumT (blank l) k)] 178 (0, 0))
  bel : Below w.heap.size w wr

set_option maxHeartbeats 4000000 in
set_option maxRecDepth 100000 in
theorem csums_calls (w : World) (v : Value) (l : List Int) (h : BytesAt w v l) (hr : ∀ b ∈ l, 0 ≤ b ∧ b < 256) (hl : l.length ≤ 1000000) :
    Calls Tryz.prog 157 #[v, .int .i64 14] w fun e w' => e = .returned (.agg #[.int .i64 (sumS (blank l) l.length), .int .i64 (sumT (blank l) l.length)]) ∧ Below w.heap.size w w' := by
  obtain ⟨a, cap, rfl, -, -, -, hc⟩ := h.get
  have HC := Lib.hid hc
  have HR := Lib.hid hr
  clear h hc hr
  obtain ⟨W, hW⟩ : ∃ W, (w.alloc (.cells #[.int .i64 0, .int .i64 0] 178)).alloc (.cells #[.int .i64 0, .int .i64 0] 178) = W := ⟨_, rfl⟩
  have ST : Hid (SuR w l 0 W) := Lib.hid ⟨Nat.zero_le _, by rw [← hW]; exact (alloc_get _ _ _ (by simp)).trans (alloc_new _ _), by rw [← hW]; exact blk_new2 _ _ _, by rw [← hW]; exact ((Below.refl _ _).alloc (Nat.le_refl _) _).alloc (by simp) _⟩
  have HW := Lib.hid hW
  clear hW
  go_enter Tryz.func157, Tryz.ntmps157
  go_upto_region 2 with fail
  rw [HW.out]
  go_wp2_with fail
  go_loopw [9] (fun ix wr => ∃ k : Nat, ix = .int .i64 k ∧ Hid (SuR w l k wr)) (fun ix _ => l.length - (intOf ix).toNat)
  case atStart => exact ⟨0, rfl, ST⟩
  case round =>
    clear ST
    obtain ⟨k, rfl, R⟩ := hrel
    have hk := R.out.hk
    by_cases c : k < l.length
    · have i1 : (k : Int) < (l.length : Int) := by omega
      by_cases q : k = 14 ∨ k = 15
      · have NX : Hid (SuR w l (k + 1) wr) := Lib.hid ⟨c, R.out.b4, by rw [sumS_skip (blank_at l k q), sumT_skip (blank_at l k q)]; exact R.out.b5, R.out.bel⟩
        clear R
        rcases q with rfl | rfl
        · go_wp2_with fail
          go_roundw
          case rel => exact ⟨15, by go_num, NX⟩
          case measure => simp [intOf]; omega
        · go_wp2_with fail
          go_roundw
          case rel => exact ⟨16, by go_num, NX⟩
          case measure => simp [intOf]; omega
      · obtain ⟨b, off, rfl, hb, hcc⟩ := HC.out (by omega)
        have d := (World.cell?_of_block (w := w) (w' := wr) (a := ⟨b, off + k, none⟩) (R.out.bel.block b hb)).trans (hcc k c)
        obtain ⟨r0, r1⟩ := HR.out l[k] (List.getElem_mem c)
        have n1 : ((k : Int) == 14) = false := by simp; omega
        have n2 : ((k : Int) == 15) = false := by simp; omega
        have HL : Hid ((blank l).length = l.length) := Lib.hid (blank_len l)
        have HA : Hid ((blank l).getD k 0 = l[k]) := Lib.hid (blank_off l (fun e => q (.inl e)) (fun e => q (.inr e)) c)
        have HB := Lib.hid hb
        obtain ⟨x0, x1⟩ := sumS_bd (blank l) k
        obtain ⟨y0, y1⟩ := sumT_bd (blank l) k
        have NS : Hid (sumS (blank l) (k + 1) = (sumS (blank l) k + l[k]) % 255) := Lib.hid (by rw [sumS, HA.out])
        have NT : Hid (sumT (blank l) (k + 1) = (sumT (blank l) k + ((l.length : Int) - (k : Int)) % 255 * l[k]) % 255) := Lib.hid (by rw [sumT, HA.out, HL.out])
        have B4 := Lib.hid R.out.b4
        have B5 := Lib.hid R.out.b5
        have BL := Lib.hid R.out.bel
        have KC := Lib.hid c
        clear hcc R q HA HL
        generalize l[k] = z at *
        clear c
        generalize sumS (blank l) k = x at *
        generalize sumT (blank l) k = y at *
        have m0 : 0 ≤ ((l.length : Int) - (k : Int)) % 255 := by omega
        have m1 : ((l.length : Int) - (k : Int)) % 255 < 255 := by omega
        have p0 : 0 ≤ ((l.length : Int) - (k : Int)) % 255 * z := Int.mul_nonneg m0 r0
        have p1 : ((l.length : Int) - (k : Int)) % 255 * z ≤ 65025 := by
          have h1 : ((l.length : Int) - (k : Int)) % 255 * z ≤ 255 * z := Int.mul_le_mul_of_nonneg_right (by omega) r0
          omega
        have c0 := blk_cell (i := 0) B5.out rfl
        have f0 := blk_free B5.out 0
        go_wp2_with fail
        go_region
        go_wp2_with fail
        obtain ⟨W2, hW2⟩ : ∃ W2, (wr.setCell ⟨w.heap.size + 1, 0, none⟩ (.int .i64 ((x + z) % 255))).drew = W2 := ⟨_, rfl⟩
        have C5 : Hid (W2.heap[w.heap.size + 1]? = some (.cells #[.int .i64 ((x + z) % 255), .int .i64 y] 178 (0, 0))) := Lib.hid (by rw [← hW2]; show (wr.setCell _ _).heap[_]? = _; simpa using blk_set B5.out 0 (.int .i64 ((x + z) % 255)))
        have C4 : Hid (W2.heap[w.heap.size]? = some (.cells #[.int .i64 0, .int .i64 0] 178 (0, 0))) := Lib.hid (by rw [← hW2]; exact (blk_other wr _ _ _ (by simp)).trans B4.out)
        have CL : Hid (Below w.heap.size w W2) := Lib.hid (by rw [← hW2]; exact (BL.out.setCell (p := ⟨w.heap.size + 1, 0, none⟩) (Nat.le_succ _) _).drew)
        have d' : W2.cell? ⟨b, off + k, none⟩ = some (.int .u8 z) := by
          rw [← hW2]; exact (World.cell?_of_block (w := wr) (a := ⟨b, off + k, none⟩) (blk_other wr _ _ b (by have := HB.out; simp; omega))).trans d
        have HW2 := Lib.hid hW2
        rw [HW2.out]
        clear hW2 HW2 d c0 f0 B4 B5 BL
        have c1 : W2.cell? ⟨w.heap.size + 1, 1, none⟩ = some (.int .i64 y) := blk_cell C5.out rfl
        have f1 := blk_free C5.out 1
        go_region
        have NX : Hid (SuR w l (k + 1) (W2.setCell ⟨w.heap.size + 1, 1, none⟩ (.int .i64 ((y + ((l.length : Int) - (k : Int)) % 255 * z) % 255))).drew) := Lib.hid ⟨KC.out, (blk_other W2 _ _ _ (by simp)).trans C4.out, by rw [NS.out, NT.out]; show (W2.setCell _ _).heap[_]? = _; simpa using blk_set C5.out 1 (.int .i64 ((y + ((l.length : Int) - (k : Int)) % 255 * z) % 255)), (CL.out.setCell (p := ⟨w.heap.size + 1, 1, none⟩) (Nat.le_succ _) _).drew⟩
        clear d' c1 f1 C4 C5 CL
        generalize (W2.setCell ⟨w.heap.size + 1, 1, none⟩ (.int .i64 ((y + ((l.length : Int) - (k : Int)) % 255 * z) % 255))).drew = W3 at NX ⊢
        go_wp2_with fail
        go_roundw
        case rel => exact ⟨k + 1, by go_num, NX⟩
        case measure => simp [intOf]; have := KC.out; omega
    · have ek : k = l.length := by omega
      subst ek
      have c0 : wr.cell? ⟨w.heap.size + 1, 0, none⟩ = some (.int .i64 (sumS (blank l) l.length)) := blk_cell R.out.b5 rfl
      have c1 : wr.cell? ⟨w.heap.size + 1, 1, none⟩ = some (.int .i64 (sumT (blank l) l.length)) := blk_cell R.out.b5 rfl
      have e0 : wr.cell? ⟨w.heap.size, 0, none⟩ = some (.int .i64 0) := blk_cell R.out.b4 rfl
      have e1 : wr.cell? ⟨w.heap.size, 1, none⟩ = some (.int .i64 0) := blk_cell R.out.b4 rfl
      have g0 := blk_free R.out.b4 0
      have g1 := blk_free R.out.b4 1
      obtain ⟨Wf, hWf⟩ : ∃ Wf, (wr.setCell ⟨w.heap.size, 0, none⟩ (.int .i64 (sumS (blank l) l.length))).setCell ⟨w.heap.size, 1, none⟩ (.int .i64 (sumT (blank l) l.length)) = Wf := ⟨_, rfl⟩
      have bF : Wf.heap[w.heap.size]? = some (.cells #[.int .i64 (sumS (blank l) l.length), .int .i64 (sumT (blank l) l.length)] 178 (0, 0)) := by
        rw [← hWf]; simpa using blk_set (blk_set R.out.b4 0 (.int .i64 (sumS (blank l) l.length))) 1 (.int .i64 (sumT (blank l) l.length))
      have BF : Hid (Below w.heap.size w Wf) := Lib.hid (by rw [← hWf]; exact (R.out.bel.setCell (p := ⟨w.heap.size, 0, none⟩) (Nat.le_refl _) _).setCell (p := ⟨w.heap.size, 1, none⟩) (Nat.le_refl _) _)
      have cF0 : Wf.cell? ⟨w.heap.size, 0, none⟩ = some (.int .i64 (sumS (blank l) l.length)) := blk_cell bF rfl
      have cF1 : Wf.cell? ⟨w.heap.size, 1, none⟩ = some (.int .i64 (sumT (blank l) l.length)) := blk_cell bF rfl
      have HF := Lib.hid hWf
      clear R hWf bF
      go_wp2_with fail
      rw [HF.out]
      exact bodyPost_ret (v := .agg #[.int .i64 (sumS (blank l) l.length), .int .i64 (sumT (blank l) l.length)]) (by simp [results, Tryz.results157, go_sem, cF0, cF1]) rfl ⟨rfl, BF.out⟩

def CflPost (w : World) (l : List Int) (e : Ending) (w' : World) : Prop := e = .returned (.tuple #[.int .i64 (fleN l), .bool true]) ∧ Below w.heap.size w w'

set_option maxHeartbeats 4000000 in
set_option maxRecDepth 100000 in
theorem cfletcher_calls (w : World) (v : Value) (l : List Int) (h : BytesAt w v l) (hr : ∀ b ∈ l, 0 ≤ b ∧ b < 256) (hl : l.length ≤ 1000000) (h16 : 16 ≤ l.length) :
    Calls Tryz.prog 119 #[v, .int .i64 14] w (CflPost w l) := by
  have SC := Lib.hid (csums_calls w v l h hr hl)
  have EN : fleN l = 256 * fleX l.length (sumS (blank l) l.length) (sumT (blank l) l.length) + fleY (sumS (blank l) l.length) (fleX l.length (sumS (blank l) l.length) (sumT (blank l) l.length)) := by
    have := blank_len l
    unfold fleN; simp only [show (l.set 14 0).set 15 0 = blank l from rfl, this]
  obtain ⟨s0, s1⟩ := sumS_bd (blank l) l.length
  obtain ⟨t0, t1⟩ := sumT_bd (blank l) l.length
  obtain ⟨a, cap, rfl, -⟩ := h.get
  obtain ⟨s, hs⟩ : ∃ s, s = sumS (blank l) l.length := ⟨_, rfl⟩
  obtain ⟨t, ht⟩ : ∃ t, t = sumT (blank l) l.length := ⟨_, rfl⟩
  unfold CflPost
  rw [EN, ← hs, ← ht]
  rw [← hs, ← ht] at SC
  rw [← hs] at s0 s1
  rw [← ht] at t0 t1
  have hn : 16 ≤ l.length := h16
  clear h hr EN hs ht
  have m0 : 0 ≤ ((l.length : Int) - 14 - 1) % 255 := by omega
  have m1 : ((l.length : Int) - 14 - 1) % 255 < 255 := by omega
  have p0 : 0 ≤ ((l.length : Int) - 14 - 1) % 255 * s := Int.mul_nonneg m0 s0
  have p1 : ((l.length : Int) - 14 - 1) % 255 * s ≤ 65025 := by
    have h1 : ((l.length : Int) - 14 - 1) % 255 * s ≤ 255 * s := Int.mul_le_mul_of_nonneg_right (by omega) s0
    omega
  have X0 := resid_bd (((l.length : Int) - 14 - 1) % 255 * s - t)
  have RX := Lib.hid (fun W => residue_calls (((l.length : Int) - 14 - 1) % 255 * s - t) (by omega) (by omega) W)
  have EX : Hid (fleX l.length s t = resid (((l.length : Int) - 14 - 1) % 255 * s - t)) := Lib.hid (by unfold fleX; rw [show (l.length : Int) - 15 = (l.length : Int) - 14 - 1 by omega])
  rw [EX.out]
  obtain ⟨X, hX⟩ : ∃ X, X = resid (((l.length : Int) - 14 - 1) % 255 * s - t) := ⟨_, rfl⟩
  rw [← hX] at RX X0 ⊢
  clear hX EX
  have RY := Lib.hid (fun W => residue_calls (-s - X) (by omega) (by omega) W)
  have Y0 := resid_bd (-s - X)
  unfold fleY
  obtain ⟨Y, hY⟩ : ∃ Y, Y = resid (-s - X) := ⟨_, rfl⟩
  rw [← hY] at RY Y0 ⊢
  clear hY
  obtain ⟨X1, X2⟩ := X0
  obtain ⟨Y1, Y2⟩ := Y0
  go_enter Tryz.func119, Tryz.ntmps119
  go_wp2_with fail
  refine SC.out.mono ?_
  rintro e w1 ⟨rfl, B1⟩
  have HB1 := Lib.hid B1
  clear B1 SC
  obtain ⟨W2, hW2⟩ : ∃ W2, w1.alloc (.cells #[.int .i64 s, .int .i64 t] 178) = W2 := ⟨_, rfl⟩
  have b2 : W2.heap[w1.heap.size]? = some (.cells #[.int .i64 s, .int .i64 t] 178 (0, 0)) := by rw [← hW2]; exact alloc_new _ _
  have c0 : W2.cell? ⟨w1.heap.size, 0, none⟩ = some (.int .i64 s) := blk_cell b2 rfl
  have c1 : W2.cell? ⟨w1.heap.size, 1, none⟩ = some (.int .i64 t) := blk_cell b2 rfl
  have HB2 : Hid (Below w.heap.size w W2) := Lib.hid (by rw [← hW2]; exact HB1.out.alloc HB1.out.size _)
  have HW2 := Lib.hid hW2
  clear hW2 b2
  go_upto_region 4 with fail
  rw [HW2.out]
  go_wp2_with fail
  refine (RX.out _).mono ?_
  rintro e w3 ⟨rfl, rfl⟩
  go_wp2_with fail
  refine (RY.out _).mono ?_
  rintro e w3 ⟨rfl, rfl⟩
  go_wp2_with fail
  go_ret2
  exact ⟨rfl, HB2.out⟩

end Go.Proofs.YtddageahmgaigaaGreat

namespace Go.Proofs.YtddageahmgaigaaGreat
open Go.RowKit

def bodyD (d : LsaD) : List Int := if d.x.typ = 1 then bodyR d.x.border d.x.boundary d.lk else if d.x.typ = 2 then bodyN d.att else bodyB d.x
def encD (d : LsaD) : List Int := hdrB d.x ++ putB 2 ((bodyD d).length : Nat) ++ bodyD d
def sumD (d : LsaD) : Int := fleN ((encD d).drop 2)

structure EncOk (d : LsaD) : Prop where
  oh : OkH d.x
  t0 : 1 ≤ d.x.typ
  k1 : d.x.typ = 1 → d.lk.length ≤ 64 ∧ ∀ y ∈ d.lk, OkK y
  k2 : d.x.typ = 2 → d.att.length ≤ 64

theorem LsaOk.enc {d : LsaD} {w : World} (h : LsaOk d) (hd : DIn w d) : EncOk d :=
  ⟨h.ok.oh, h.ok.t0, fun e => ⟨(h.ok.k1 e).zero.1, lnks_okK (h.ok.k1 e) hd.lr⟩, fun e => (h.ok.k2 e).zero.1⟩

theorem bodyD_len {d : LsaD} (h : EncOk d) : (bodyD d).length ≤ 1000 := by
  unfold bodyD
  split
  · rename_i e
    have := (h.k1 e).1
    unfold bodyR
    simp only [List.length_append, putB_len, lnksB_len]; omega
  · split
    · rename_i e
      have := h.k2 e
      unfold bodyN
      simp only [List.length_append, putB_len, attB_len]; omega
    · rw [bodyB_len]; split <;> omega
theorem bodyD_range (d : LsaD) : ∀ b ∈ bodyD d, 0 ≤ b ∧ b < 256 := by
  unfold bodyD
  split
  · unfold bodyR lnksB
    simp only [List.forall_mem_append]
    refine ⟨⟨putB_range _ _, putB_range _ _⟩, fun b hb => ?_⟩
    obtain ⟨y, hy, hb⟩ := List.mem_flatten.1 hb
    obtain ⟨z, _, rfl⟩ := List.mem_map.1 hy
    unfold lnkB at hb
    simp only [List.mem_append] at hb
    rcases hb with ((hb | hb) | hb) | hb <;> exact putB_range _ _ b hb
  · split
    · unfold bodyN attB
      simp only [List.forall_mem_append]
      refine ⟨putB_range _ _, fun b hb => ?_⟩
      obtain ⟨y, hy, hb⟩ := List.mem_flatten.1 hb
      obtain ⟨z, _, rfl⟩ := List.mem_map.1 hy
      exact putB_range _ _ b hb
    · unfold bodyB
      split
      · simp only [List.forall_mem_append]
        exact ⟨⟨⟨putB_range _ _, putB_range _ _⟩, putB_range _ _⟩, putB_range _ _⟩
      · exact putB_range _ _
theorem encD_range (d : LsaD) : ∀ b ∈ encD d, 0 ≤ b ∧ b < 256 := by
  unfold encD hdrB
  simp only [List.forall_mem_append]
  exact ⟨⟨⟨⟨⟨⟨⟨⟨putB_range _ _, putB_range _ _⟩, putB_range _ _⟩, putB_range _ _⟩, putB_range _ _⟩, putB_range _ _⟩, putB_range _ _⟩, putB_range _ _⟩, bodyD_range d⟩
theorem encD_len {d : LsaD} (h : EncOk d) : 20 ≤ (encD d).length ∧ (encD d).length ≤ 1020 := by
  have := bodyD_len h
  unfold encD
  simp only [List.length_append, hdrB_len, putB_len]; omega

theorem lbody_calls (d : LsaD) (w : World) (hd : DIn w d) (he : EncOk d) : Calls Tryz.prog 159 #[.agg (lsaE d.x).toArray] w (BodyPost w (bodyD d)) := by
  have t0 := he.t0
  have t1 := he.oh.t1
  by_cases h1 : d.x.typ = 1
  · have hk := he.k1 h1
    have e : bodyD d = bodyR d.x.border d.x.boundary d.lk := by unfold bodyD; rw [if_pos h1]
    rw [e]
    exact lbody_rtr d.x h1 d.lk w hd.lk hk.2 hk.1
  by_cases h2 : d.x.typ = 2
  · have e : bodyD d = bodyN d.att := by unfold bodyD; rw [if_neg h1, if_pos h2]
    rw [e]
    exact lbody_net d.x h2 d.att w hd.att hd.ar (he.k2 h2)
  have e : bodyD d = bodyB d.x := by unfold bodyD; rw [if_neg h1, if_neg h2]
  rw [e]
  by_cases h3 : d.x.typ = 3
  · exact lbody_c3 d.x hd.ok he.oh h3 w
  by_cases h4 : d.x.typ = 4
  · exact lbody_c4 d.x hd.ok he.oh h4 w
  exact lbody_ext d.x hd.ok he.oh (by omega) w

set_option maxHeartbeats 4000000 in
set_option maxRecDepth 100000 in
theorem lencode_calls (d : LsaD) (w : World) (hd : DIn w d) (he : EncOk d) : Calls Tryz.prog 120 #[.agg (lsaE d.x).toArray] w (PutPost w.heap.size w (encD d)) := by
  obtain ⟨i0', hi0, hz0, hz1, hz2⟩ := info_parts Tryz.infoU8
  have HI0 := Lib.hid hi0
  have HZ0 := Lib.hid hz0
  have HZ1 := Lib.hid hz1
  have HZ2 := Lib.hid hz2
  have BC := Lib.hid (fun W (hb : Below w.heap.size w W) => lbody_calls d W (hd.below hb) he)
  have HC := Lib.hid (fun W => lheader_calls d.x hd.ok he.oh W)
  have BL := bodyD_len he
  unfold encD
  have HL := Lib.hid (hdrB_len d.x)
  clear hd he hi0 hz0 hz1 hz2
  generalize bodyD d = bb at *
  generalize hdrB d.x = hh at *
  obtain ⟨x, lk, att⟩ := d
  obtain ⟨typ, id, len, router, seq, age, sum, border, boundary, la, ln, lc, aa, an, ac, cost, second, fwd, tag⟩ := x
  simp only [lsaE, hdE] at *
  obtain ⟨W, hW⟩ : ∃ W, w.alloc (.cells #[.int .i64 typ, .int .u32 id, .int .i64 len, .int .u32 router, .int .i64 seq, .int .i64 age, .int .i64 sum, .bool border, .bool boundary, .slice la ln lc, .slice aa an ac, .int .i64 cost, .bool second, .int .u32 fwd, .int .i64 tag] 42) = W := ⟨_, rfl⟩
  have B0 : Below w.heap.size w W := by rw [← hW]; exact (Below.refl _ _).alloc (Nat.le_refl _) _
  have bx : W.heap[w.heap.size]? = some (.cells #[.int .i64 typ, .int .u32 id, .int .i64 len, .int .u32 router, .int .i64 seq, .int .i64 age, .int .i64 sum, .bool border, .bool boundary, .slice la ln lc, .slice aa an ac, .int .i64 cost, .bool second, .int .u32 fwd, .int .i64 tag] 42 (0, 0)) := by rw [← hW]; exact alloc_new _ _
  have BC0 := Lib.hid (BC.out W B0)
  have K0 := Lib.hid B0
  have X0 := Lib.hid bx
  have HW := Lib.hid hW
  obtain ⟨⟨⟨x0, x1, x2, x3, x4⟩, ⟨x5, x6, x7, x8, x9⟩, ⟨x10, x11, x12, x13, x14⟩⟩, -⟩ := blk15 bx
  clear BC hW B0 bx
  go_enter Tryz.func120, Tryz.ntmps120
  go_upto_region 1 with fail
  rw [HW.out]
  go_wp2_with fail
  refine BC0.out.mono ?_
  rintro e w1 ⟨v1, rfl, O1, B1⟩
  obtain ⟨a1, c1, e1, -⟩ := O1.get
  subst e1
  have X1 := Lib.hid ((B1.block _ (blk_lt X0.out)).trans X0.out)
  have K1 := Lib.hid (K0.out.trans (B1.mono K0.out.size))
  have HO1 := Lib.hid O1
  have y0 : w1.cell? ⟨w.heap.size, 0, none⟩ = some (.int .i64 typ) := blk_cell X1.out rfl
  have y1 : w1.cell? ⟨w.heap.size, 1, none⟩ = some (.int .u32 id) := blk_cell X1.out rfl
  have y2 : w1.cell? ⟨w.heap.size, 2, none⟩ = some (.int .i64 len) := blk_cell X1.out rfl
  have y3 : w1.cell? ⟨w.heap.size, 3, none⟩ = some (.int .u32 router) := blk_cell X1.out rfl
  have y4 : w1.cell? ⟨w.heap.size, 4, none⟩ = some (.int .i64 seq) := blk_cell X1.out rfl
  have y5 : w1.cell? ⟨w.heap.size, 5, none⟩ = some (.int .i64 age) := blk_cell X1.out rfl
  have y6 : w1.cell? ⟨w.heap.size, 6, none⟩ = some (.int .i64 sum) := blk_cell X1.out rfl
  have HC1 := Lib.hid (HC.out w1)
  clear O1 B1 BC0 HC x0 x1 x2 x3 x4 x5 x6 x7 x8 x9 x10 x11 x12 x13 x14
  go_wp2_with fail
  refine HC1.out.mono ?_
  rintro e w2 ⟨v2, rfl, O2, B2⟩
  obtain ⟨a2, c2, e2, -⟩ := O2.get
  subst e2
  have K2 := Lib.hid (K1.out.trans (B2.mono K1.out.size))
  have HO2 := Lib.hid (HO1.out.below B2)
  have PC := Lib.hid (fput_calls w2 _ hh 2 (bb.length : Nat) O2 (by omega) (by omega) (by omega) (by have := HL.out; omega))
  clear O2 B2 HC1 y0 y1 y2 y3 y4 y5 y6
  go_wp2_with fail
  refine PC.out.mono ?_
  rintro e w3 ⟨v3, rfl, O3, B3⟩
  have K3 := Lib.hid (K2.out.trans (B3.mono K2.out.size))
  have HO3 := Lib.hid (own_base O3 K2.out.size)
  have SB := Lib.hid (HO2.out.below B3)
  have L1 : Hid ((hh ++ putB 2 (bb.length : Nat)).length + (bb.map byE).length ≤ maxLen) := Lib.hid (by have := HL.out; simp only [List.length_append, putB_len, List.length_map]; unfold maxLen; omega)
  have L2 : Hid (((hh ++ putB 2 (bb.length : Nat)).length + (bb.map byE).length) * 1 ≤ 140737488355328) := Lib.hid (by have := HL.out; simp only [List.length_append, putB_len, List.length_map]; omega)
  have FIN : Hid (∀ v4 w4, w4.ownsRow w.heap.size 5 1 v4 ((hh ++ putB 2 (bb.length : Nat)).length + (bb.map byE).length) (((hh ++ putB 2 (bb.length : Nat)).map byE).flatten ++ (bb.map byE).flatten) → w3.grownBy w4 v3.ownBlock → PutPost w.heap.size w (hh ++ putB 2 (bb.length : Nat) ++ bb) (.returned v4) w4) := Lib.hid (fun v4 w4 O4 G4 => by
    refine ⟨v4, rfl, ?_, Below.owned K3.out K3.out.size HO3.out G4⟩
    unfold BytesOwn
    have e1 : (hh ++ putB 2 (bb.length : Nat) ++ bb).length = (hh ++ putB 2 (bb.length : Nat)).length + (bb.map byE).length := by simp; omega
    have e2 : ((hh ++ putB 2 (bb.length : Nat) ++ bb).map byE).flatten = ((hh ++ putB 2 (bb.length : Nat)).map byE).flatten ++ (bb.map byE).flatten := by simp
    rw [e1, e2]; exact O4)
  clear O3 B3 PC HO2
  unfold BytesOwn at HO3
  go_wp2_with (at_builtin; refine wpList_append_sl rfl _ _ _ rfl w.heap.size 5 i0' _ 1 1 Tryz.underlying134 HI0.out HZ0.out HZ1.out HZ2.out rfl (by decide) _ (hh ++ putB 2 (bb.length : Nat)).length _ rfl HO3.out _ (bb.map byE) rfl SB.out (byE_len bb) (byE_one bb) L1.out L2.out K3.out.size ?_; intro v4 w4 O4 G4; have PO := Lib.hid (FIN.out v4 w4 O4 G4); clear O4 G4)
  go_ret
  exact PO.out

def SmPost (w : World) (n : Int) (e : Ending) (w' : World) : Prop := e = .returned (.int .i64 n) ∧ Below w.heap.size w w'

set_option maxHeartbeats 2000000 in
set_option maxRecDepth 100000 in
theorem lsum_calls (d : LsaD) (w : World) (hd : DIn w d) (he : EncOk d) : Calls Tryz.prog 90 #[.agg (lsaE d.x).toArray] w (SmPost w (sumD d)) := by
  have BC := Lib.hid (fun W (hb : Below w.heap.size w W) => lencode_calls d W (hd.below hb) he)
  have BR := Lib.hid (encD_range d)
  have BL := encD_len he
  unfold sumD
  clear hd he
  generalize encD d = l at *
  obtain ⟨x, lk, att⟩ := d
  obtain ⟨typ, id, len, router, seq, age, sum, border, boundary, la, ln, lc, aa, an, ac, cost, second, fwd, tag⟩ := x
  simp only [lsaE] at *
  go_enter Tryz.func90, Tryz.ntmps90
  go_wp2_with fail
  refine (BC.out _ ((Below.refl _ _).alloc (Nat.le_refl _) _)).mono ?_
  rintro e w1 ⟨v1, rfl, O1, B1⟩
  obtain ⟨g, cp, ev, g0, g1, g2, g3⟩ := own_shape O1 (by omega)
  subst ev
  have FC := Lib.hid (cfletcher_calls w1 _ (l.drop 2) (O1.at.drop2 (by omega)) (fun b hb => BR.out b (List.mem_of_mem_drop hb)) (by simp; omega) (by simp; omega))
  have HB : Hid (Below w.heap.size w w1) := Lib.hid (((Below.refl _ _).alloc (Nat.le_refl _) _).trans (B1.mono (by simp)))
  have g3' : cp ≤ 9223372036854775807 := by unfold maxLen at g3; omega
  obtain ⟨b0, b1⟩ := BL
  clear O1 B1 BC BR g0 g1 g3
  unfold CflPost at FC
  generalize fleN (l.drop 2) = r at *
  generalize l.length = n at *
  go_wp2_with fail
  refine FC.out.mono ?_
  rintro e w2 ⟨rfl, B2⟩
  have FIN := Lib.hid (HB.out.trans (B2.mono HB.out.size))
  clear B2 FC HB
  go_wp2_with fail
  go_ret
  exact ⟨rfl, FIN.out⟩

theorem rbody_calls (d : LsaD) (w : World) (hd : DIn w d) (he : EncOk d) : Calls Tryz.prog 140 #[.agg (lsaE d.x).toArray] w (PutPost w.heap.size w (bodyD d)) := by
  have t0 := he.t0
  have t1 := he.oh.t1
  by_cases h1 : d.x.typ = 1
  · have hk := he.k1 h1
    have e : bodyD d = bodyR d.x.border d.x.boundary d.lk := by unfold bodyD; rw [if_pos h1]
    rw [e]
    exact body_rtr d.x h1 d.lk w hd.lk hk.2 hk.1
  by_cases h2 : d.x.typ = 2
  · have e : bodyD d = bodyN d.att := by unfold bodyD; rw [if_neg h1, if_pos h2]
    rw [e]
    exact body_net d.x h2 d.att w hd.att hd.ar (he.k2 h2)
  have e : bodyD d = bodyB d.x := by unfold bodyD; rw [if_neg h1, if_neg h2]
  rw [e]
  exact body_calls d.x hd.ok he.oh (by omega) w

set_option maxHeartbeats 2000000 in
set_option maxRecDepth 100000 in
theorem rsum_calls (d : LsaD) (w : World) (hd : DIn w d) (he : EncOk d) : Calls Tryz.prog 75 #[.agg (lsaE d.x).toArray] w (SmPost w (sumD d)) := by
  have BC : Hid (∀ W, Below w.heap.size w W → Calls Tryz.prog 101 #[.agg (lsaE d.x).toArray] W (PutPost W.heap.size W (encD d))) := Lib.hid (fun W hb => bytes_gen d.x hd.ok he.oh (bodyD d) (bodyD_len he) W fun W' hb' => rbody_calls d W' (hd.below (hb.trans (hb'.mono hb.size))) he)
  have BR := Lib.hid (encD_range d)
  have BL := encD_len he
  unfold sumD
  clear hd he
  generalize encD d = l at *
  obtain ⟨x, lk, att⟩ := d
  obtain ⟨typ, id, len, router, seq, age, sum, border, boundary, la, ln, lc, aa, an, ac, cost, second, fwd, tag⟩ := x
  simp only [lsaE] at *
  go_enter Tryz.func75, Tryz.ntmps75
  go_wp2_with fail
  refine (BC.out _ ((Below.refl _ _).alloc (Nat.le_refl _) _)).mono ?_
  rintro e w1 ⟨v1, rfl, O1, B1⟩
  obtain ⟨g, cp, ev, g0, g1, g2, g3⟩ := own_shape O1 (by omega)
  subst ev
  have FC := Lib.hid (fletcher_exact w1 _ (l.drop 2) (O1.at.drop2 (by omega)) (fun b hb => BR.out b (List.mem_of_mem_drop hb)) (by simp; omega) (by simp; omega))
  have HB : Hid (Below w.heap.size w w1) := Lib.hid (((Below.refl _ _).alloc (Nat.le_refl _) _).trans (B1.mono (by simp)))
  have g3' : cp ≤ 9223372036854775807 := by unfold maxLen at g3; omega
  obtain ⟨b0, b1⟩ := BL
  clear O1 B1 BC BR g0 g1 g3
  unfold FlxPost at FC
  generalize fleN (l.drop 2) = r at *
  generalize l.length = n at *
  go_wp2_with fail
  refine FC.out.mono ?_
  rintro e w2 ⟨rfl, B2⟩
  have FIN := Lib.hid (HB.out.trans (B2.mono HB.out.size))
  clear B2 FC HB
  go_wp2_with fail
  go_ret
  exact ⟨rfl, FIN.out⟩

end Go.Proofs.YtddageahmgaigaaGreat
