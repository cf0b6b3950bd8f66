/-
  linkstate.Check.
-/
import Derived.Test.YtombnejipaoinaaGreatLck
namespace Go.Proofs.YtombnejipaoinaaGreat
open Go.RowKit

def agB (a b : Arg) : Bool := decide (a.area < b.area) || (decide (a.area = b.area) && Ls.pfxLt a.pfx b.pfx)
theorem agB_iff (a b : Arg) : agB a b = true ↔ agLt a b := by unfold agB agLt; simp
theorem ag_cmp (a b : Arg) : decide (0 ≤ orI [cmpI a.area b.area, pfxCmp a.pfx b.pfx]) = !agB a b := by
  unfold agB pfxCmp
  by_cases h1 : a.area < b.area
  · rw [cmpI_lt h1]; simp [orI, h1]
  · by_cases h2 : a.area = b.area
    · rw [cmpI_eq h2]
      cases h : Ls.pfxLt a.pfx b.pfx
      · simp only [Bool.false_eq_true, if_false]
        split <;> simp [orI, h1]
      · simp [orI, h2]
    · rw [cmpI_gt (by omega)]; simp [orI, h1, h2]

/-- what is found of the range at k -/
def rc (l : List Arg) (k : Nat) : Int := if validP (argAt l k).pfx = false then 1 else if 0 < k ∧ agB (argAt l (k - 1)) (argAt l k) = false then 16 else 0
def rcs (l : List Arg) : List Int := (List.range l.length).map (rc l)
def rngC (l : List Arg) : Int := orI (rcs l)
theorem rcs_len (l : List Arg) : (rcs l).length = l.length := by simp [rcs]
theorem orI_rcs (l : List Arg) (k : Nat) (h : k < l.length) : orI ((rcs l).drop k) = if rc l k = 0 then orI ((rcs l).drop (k + 1)) else rc l k := by
  have := orI_drop (rcs l) k (by rw [rcs_len]; exact h)
  rw [this]
  simp only [rcs, List.getElem_map, List.getElem_range]

def cfC (r : Int) (ifs : List If9) (rgs : List Arg) : Int :=
  if r = 0 then 5 else if ifs.length = 0 then 1 else if 16 < ifs.length ∨ 64 < rgs.length then 4 else if ifsC ifs = 0 then rngC rgs else ifsC ifs

set_option maxHeartbeats 16000000 in
set_option maxRecDepth 100000 in
theorem lkcheck_calls (w : World) (r : Int) (vi vr : Value) (ifs : List If9) (rgs : List Arg) (hi : IfsAt w vi ifs) (hr : RngsAt w vr rgs) (oki : ∀ x ∈ ifs, OkI x) (okr : ∀ o ∈ rgs, OkP o.pfx) :
    Calls Tryz.prog 7 #[.agg #[.int .u32 r, vi, vr]] w (C26Post w (cfC r ifs rgs)) := by
  have CI := Lib.hid (fun W (g : Gr w W) => cif_calls W vi ifs (hi.below g.b) oki)
  obtain ⟨ia, ic, rfl, hil, -, -⟩ := hi.get
  obtain ⟨ra, cp, rfl, hrl, hrc⟩ := hr.get
  have HC := Lib.hid hrc
  have OK : Hid (∀ k, k < rgs.length → OkP (argAt rgs k).pfx) := Lib.hid (fun k c => by rw [argAt_eq c]; exact okr _ (List.getElem_mem c))
  clear hi hr hrc oki okr
  obtain ⟨W0, hW0⟩ : ∃ W0, w.alloc (.cells #[.int .u32 r, .slice ia ifs.length ic, .slice ra rgs.length cp] 26) = W0 := ⟨_, rfl⟩
  have B0 : Hid (W0.heap[w.heap.size]? = some (.cells #[.int .u32 r, .slice ia ifs.length ic, .slice ra rgs.length cp] 26 (0, 0))) := Lib.hid (by rw [← hW0]; exact alloc_new w _)
  have G0 : Hid (Gr w W0) := Lib.hid (by rw [← hW0]; exact (Gr.refl _).alloc _)
  have c0 : W0.cell? ⟨w.heap.size, 0, none⟩ = some (.int .u32 r) := blk_cell B0.out rfl
  have c1 : W0.cell? ⟨w.heap.size, 1, none⟩ = some (.slice ia ifs.length ic) := blk_cell B0.out rfl
  have c2 : W0.cell? ⟨w.heap.size, 2, none⟩ = some (.slice ra rgs.length cp) := blk_cell B0.out rfl
  have HW0 := Lib.hid hW0
  clear hW0
  by_cases h1 : r = 0
  · subst h1
    have E : Hid (cfC 0 ifs rgs = 5) := Lib.hid (by simp [cfC])
    rw [E.out]
    go_enter Tryz.func7, Tryz.ntmps7
    go_upto_region 1 with fail
    rw [HW0.out]
    go_wp2_with fail
    go_ret
    exact ⟨rfl, G0.out⟩
  have h1' : (r == 0) = false := by simpa using h1
  by_cases h2 : ifs.length = 0
  · have E : Hid (cfC r ifs rgs = 1) := Lib.hid (by simp [cfC, h1, h2])
    rw [E.out]
    have h2' : (((ifs.length : Nat) : Int) == 0) = true := by simp [h2]
    clear h1 h2
    go_enter Tryz.func7, Tryz.ntmps7
    go_upto_region 1 with fail
    rw [HW0.out]
    go_wp2_with fail
    go_ret
    exact ⟨rfl, G0.out⟩
  have h2' : (((ifs.length : Nat) : Int) == 0) = false := by
    have : ((ifs.length : Nat) : Int) ≠ 0 := by omega
    simpa using this
  by_cases h3 : 16 < ifs.length
  · have E : Hid (cfC r ifs rgs = 4) := Lib.hid (by unfold cfC; rw [if_neg h1, if_neg h2, if_pos (.inl h3)])
    rw [E.out]
    have h3' : decide ((16 : Int) < (ifs.length : Int)) = true := decide_eq_true (by omega)
    clear h1 h2 h3
    go_enter Tryz.func7, Tryz.ntmps7
    go_upto_region 1 with fail
    rw [HW0.out]
    go_wp2_with fail
    go_ret
    exact ⟨rfl, G0.out⟩
  have h3' : decide ((16 : Int) < (ifs.length : Int)) = false := decide_eq_false (by omega)
  by_cases h4 : 64 < rgs.length
  · have E : Hid (cfC r ifs rgs = 4) := Lib.hid (by unfold cfC; rw [if_neg h1, if_neg h2, if_pos (.inr h4)])
    rw [E.out]
    have h4' : decide ((64 : Int) < (rgs.length : Int)) = true := decide_eq_true (by omega)
    clear h1 h2 h3 h4
    go_enter Tryz.func7, Tryz.ntmps7
    go_upto_region 1 with fail
    rw [HW0.out]
    go_wp2_with fail
    go_ret
    exact ⟨rfl, G0.out⟩
  have h4' : decide ((64 : Int) < (rgs.length : Int)) = false := decide_eq_false (by omega)
  have E0 : Hid (cfC r ifs rgs = if ifsC ifs = 0 then rngC rgs else ifsC ifs) := Lib.hid (by unfold cfC; rw [if_neg h1, if_neg h2, if_neg (by omega)])
  rw [E0.out]
  clear h1 h2 h3 h4 E0
  have CI1 := Lib.hid (CI.out W0 G0.out)
  clear CI
  generalize ifsC ifs = ic0 at *
  by_cases q : ic0 = 0
  · subst q
    rw [if_pos rfl]
    have mixed : Tryz.prog.follows .mixedOrders = true := by kernel_rfl
    go_enter Tryz.func7, Tryz.ntmps7
    go_upto_region 1 with fail
    rw [HW0.out]
    go_wp2_with fail
    refine CI1.out.mono ?_
    rintro e w1 ⟨rfl, G1⟩
    have GG := Lib.hid (G0.out.trans G1)
    have CB : Hid (w1.heap[w.heap.size]? = some (.cells #[.int .u32 r, .slice ia ifs.length ic, .slice ra rgs.length cp] 26 (0, 0))) := Lib.hid ((G1.b.block _ (blk_lt B0.out)).trans B0.out)
    clear c0 c1 c2 B0 G0 HW0 G1 CI1
    have c2 : w1.cell? ⟨w.heap.size, 2, none⟩ = some (.slice ra rgs.length cp) := blk_cell CB.out rfl
    go_wp2_with fail
    clear c2
    go_loopw [36] (fun i wr => ∃ k : Nat, i = .int .i64 k ∧ k ≤ rgs.length ∧ Hid (Gr w1 wr) ∧ Hid (rngC rgs = orI ((rcs rgs).drop k))) (fun i _ => rgs.length - (intOf i).toNat)
    case atStart => exact ⟨0, rfl, Nat.zero_le _, Lib.hid (Gr.refl _), Lib.hid rfl⟩
    case round =>
      obtain ⟨k, rfl, hk, GR, E⟩ := hrel
      by_cases c : k < rgs.length
      · obtain ⟨b, off, rfl, hb0, hcc⟩ := HC.out (by omega)
        have GW := Lib.hid (GG.out.trans GR.out)
        obtain ⟨d0, d1, d2, d3⟩ : AgCells wr b (off + k * 4) (argAt rgs k) := by rw [argAt_eq c]; exact (hcc k c).below GW.out.b hb0
        have PV : Hid (∀ W, Gr w W → 0 < k → AgCells W b (off + (k - 1) * 4) (argAt rgs (k - 1))) := Lib.hid (fun W g h0 => by
          have c' : k - 1 < rgs.length := by omega
          rw [argAt_eq c']; exact (hcc (k - 1) c').below g.b hb0)
        have VC := Lib.hid (fun W => valid_calls (argAt rgs k).pfx (OK.out k c) W)
        have E2 := Lib.hid (orI_rcs rgs k c)
        have RCV : Hid (validP (argAt rgs k).pfx = false → rc rgs k = 1) := Lib.hid (fun h => by unfold rc; rw [if_pos h])
        have RC0 : Hid (validP (argAt rgs k).pfx = true → ¬ 0 < k → rc rgs k = 0) := Lib.hid (fun h h0 => by unfold rc; rw [if_neg (by rw [h]; decide), if_neg (fun z => h0 z.1)])
        have RCA : Hid (validP (argAt rgs k).pfx = true → 0 < k → rc rgs k = if agB (argAt rgs (k - 1)) (argAt rgs k) = false then 16 else 0) := Lib.hid (fun h h0 => by
          unfold rc; rw [if_neg (by rw [h]; decide)]
          by_cases z : agB (argAt rgs (k - 1)) (argAt rgs k) = false
          · rw [if_pos ⟨h0, z⟩, if_pos z]
          · rw [if_neg (fun y => z y.2), if_neg z])
        have AC := Lib.hid (ag_cmp (argAt rgs (k - 1)) (argAt rgs k))
        have PC := Lib.hid (fun W => pcompare_calls (argAt rgs (k - 1)).pfx (argAt rgs k).pfx W)
        have CU := Lib.hid (fun W => cmp_u32 (argAt rgs (k - 1)).area (argAt rgs k).area W)
        have KC := Lib.hid c
        have i0 : (0 : Int) ≤ (k : Int) := by omega
        have i1 : (k : Int) < (rgs.length : Int) := by omega
        have s3 : ((k : Int)).toNat = k := by omega
        clear hcc c
        generalize argAt rgs (k - 1) = z at *
        generalize argAt rgs k = y at *
        obtain ⟨za, ⟨zp, zl⟩, zadv⟩ := z
        obtain ⟨ga, ⟨gp, gl⟩, gadv⟩ := y
        simp only at d0 d1 d2 d3 VC PC CU AC RCV RC0 RCA
        generalize rc rgs k = rk at *
        have AL := alloc_new wr (.cells #[.int .u32 ga, .int .u32 gp, .int .i64 gl, .bool gadv] 77)
        have AG := (Gr.refl wr).alloc (.cells #[.int .u32 ga, .int .u32 gp, .int .i64 gl, .bool gadv] 77)
        go_wp2_with fail
        generalize wr.alloc (.cells #[.int .u32 ga, .int .u32 gp, .int .i64 gl, .bool gadv] 77) = W1 at *
        have BB := Lib.hid AL
        have GA := Lib.hid (GW.out.trans AG)
        have GR1 := Lib.hid (GR.out.trans AG)
        generalize wr.heap.size = nb at *
        clear AL AG d0 d1 d2 d3
        refine (VC.out _).mono ?_
        rintro e w2 ⟨rfl, G2⟩
        have BB2 : Hid (w2.heap[nb]? = some (.cells #[.int .u32 ga, .int .u32 gp, .int .i64 gl, .bool gadv] 77 (0, 0))) := Lib.hid ((G2.b.block _ (blk_lt BB.out)).trans BB.out)
        have GB := Lib.hid (GA.out.trans G2)
        have GR2 := Lib.hid (GR1.out.trans G2)
        have CB2 : Hid (w2.heap[w.heap.size]? = some (.cells #[.int .u32 r, .slice ia ifs.length ic, .slice (some ⟨b, off, none⟩) rgs.length cp] 26 (0, 0))) := Lib.hid ((GR2.out.b.block _ (blk_lt CB.out)).trans CB.out)
        clear G2 BB GA GR1 VC
        cases hv : validP ⟨gp, gl⟩ with
        | false =>
          have Y : Hid (rngC rgs = 1) := Lib.hid (by rw [E.out, E2.out, RCV.out hv, if_neg (by decide)])
          clear E E2 RCV RC0 RCA hv
          go_wp2_with fail
          go_returns
          exact ⟨by rw [Y.out]; rfl, GB.out⟩
        | true =>
          rcases Nat.eq_zero_or_pos k with h0 | h0
          · subst h0
            have N : Hid (rngC rgs = orI ((rcs rgs).drop 1)) := Lib.hid (by rw [E.out, E2.out, RC0.out hv (by omega), if_pos rfl])
            clear E E2 RCV RC0 RCA hv PV
            go_wp2_with fail
            go_roundw
            case rel => exact ⟨1, by go_num, KC.out, GR2, N⟩
            case measure => simp [intOf]; have := KC.out; omega
          · obtain ⟨z0, z1, z2, z3⟩ := PV.out _ GB.out h0
            obtain ⟨j, rfl⟩ : ∃ j, k = j + 1 := ⟨k - 1, by omega⟩
            rw [Nat.add_sub_cancel] at z0 z1 z2 z3
            simp only at z0 z1 z2 z3
            have RA := Lib.hid (RCA.out hv h0)
            have j0 : (0 : Int) ≤ (j : Int) := by omega
            have j1 : (j : Int) < (rgs.length : Int) := by omega
            have s1 : IntKind.i64.wrap (((j + 1 : Nat) : Int) - 1) = (j : Int) := by rw [IntWalk.i64_in _ (by omega)]; omega
            have s2 : ((j : Int)).toNat = j := by omega
            have k1 : decide ((0 : Int) < ((j + 1 : Nat) : Int)) = true := decide_eq_true (by omega)
            have c2 : w2.cell? ⟨w.heap.size, 2, none⟩ = some (.slice (some ⟨b, off, none⟩) rgs.length cp) := blk_cell CB2.out rfl
            clear PV RCV RC0 RCA h0 hv
            have AL := alloc_new w2 (.cells #[.int .u32 za, .int .u32 zp, .int .i64 zl, .bool zadv] 77)
            have AG := (Gr.refl w2).alloc (.cells #[.int .u32 za, .int .u32 zp, .int .i64 zl, .bool zadv] 77)
            go_wp2_with fail
            generalize w2.alloc (.cells #[.int .u32 za, .int .u32 zp, .int .i64 zl, .bool zadv] 77) = W3 at *
            have B3 : W3.heap[nb]? = some (.cells #[.int .u32 ga, .int .u32 gp, .int .i64 gl, .bool gadv] 77 (0, 0)) := (AG.b.block _ (blk_lt BB2.out)).trans BB2.out
            have GB3 := Lib.hid (GB.out.trans AG)
            have GR3 := Lib.hid (GR2.out.trans AG)
            generalize w2.heap.size = zb at *
            have x0 : W3.cell? ⟨nb, 0, none⟩ = some (.int .u32 ga) := blk_cell B3 rfl
            have x1 : W3.cell? ⟨nb, 1, none⟩ = some (.int .u32 gp) := blk_cell B3 rfl
            have x2 : W3.cell? ⟨nb, 2, none⟩ = some (.int .i64 gl) := blk_cell B3 rfl
            have y0 : W3.cell? ⟨zb, 0, none⟩ = some (.int .u32 za) := blk_cell AL rfl
            have y1 : W3.cell? ⟨zb, 1, none⟩ = some (.int .u32 zp) := blk_cell AL rfl
            have y2 : W3.cell? ⟨zb, 2, none⟩ = some (.int .i64 zl) := blk_cell AL rfl
            have ACX := AC.out
            clear AL AG B3 c2 z0 z1 z2 z3 AC
            generalize cmpI za ga = u1 at *
            generalize pfxCmp ⟨zp, zl⟩ ⟨gp, gl⟩ = u2 at *
            generalize agB ⟨za, ⟨zp, zl⟩, zadv⟩ ⟨ga, ⟨gp, gl⟩, gadv⟩ = ag at *
            go_region_held3 (fun W' => W'.cell? ⟨nb, 0, none⟩ = some (.int .u32 ga) ∧ W'.cell? ⟨nb, 1, none⟩ = some (.int .u32 gp) ∧ W'.cell? ⟨nb, 2, none⟩ = some (.int .i64 gl) ∧ W'.cell? ⟨zb, 0, none⟩ = some (.int .u32 za) ∧ W'.cell? ⟨zb, 1, none⟩ = some (.int .u32 zp) ∧ W'.cell? ⟨zb, 2, none⟩ = some (.int .i64 zl))
              (first | exact ⟨x0, x1, x2, y0, y1, y2⟩ | exact ⟨p0, p1, p2, q0, q1, q2⟩ | go_keep)
              (first
              | (go_at_call 22; refine (CU.out _).mono ?_; rintro e w' ⟨rfl, rfl⟩)
              | (go_at_call 23; refine (PC.out _).mono ?_; rintro e w4 ⟨rfl, G4⟩; have p0 := bcell G4.b x0; have p1 := bcell G4.b x1; have p2 := bcell G4.b x2; have q0 := bcell G4.b y0; have q1 := bcell G4.b y1; have q2 := bcell G4.b y2)
              | (go_at_call 21; refine (or_int [u1, u2] _ _ _ (by simp) ?_).mono ?_; (exact fun _ => ⟨_, 0, rfl, fun i hi => by match i, hi with | 0, _ => exact new_cell (by simp) rfl | 1, _ => exact new_cell (by simp) rfl⟩); rintro e w' ⟨rfl, rfl⟩))
            have GY := Lib.hid (GB3.out.drew.trans G4)
            have GX := Lib.hid (GR3.out.drew.trans G4)
            clear G4 p0 p1 p2 q0 q1 q2 x0 x1 x2 y0 y1 y2
            cases ag with
            | true =>
              have N : Hid (rngC rgs = orI ((rcs rgs).drop (j + 1 + 1))) := Lib.hid (by rw [E.out, E2.out, RA.out]; simp)
              have ACY : decide (0 ≤ orI [u1, u2]) = false := ACX
              clear ACX RA E E2
              go_wp2_with fail
              go_roundw
              case rel => exact ⟨j + 1 + 1, by go_num, KC.out, (by first | exact Lib.hid (GX.out.alloc _) | exact Lib.hid ((GX.out.alloc _).drew)), N⟩
              case measure => simp [intOf]; have := KC.out; omega
            | false =>
              have Y : Hid (rngC rgs = 16) := Lib.hid (by rw [E.out, E2.out, RA.out]; simp)
              have ACY : decide (0 ≤ orI [u1, u2]) = true := ACX
              clear ACX RA E E2
              go_wp2_with fail
              go_returns
              exact ⟨by rw [Y.out]; rfl, (by first | exact GY.out.alloc _ | exact (GY.out.alloc _).drew)⟩
      · have V : Hid (rngC rgs = 0) := Lib.hid (by rw [E.out, List.drop_eq_nil_of_le (by rw [rcs_len]; omega)]; rfl)
        clear E
        go_wp2_with fail
        go_ret
        exact ⟨by rw [V.out]; rfl, GG.out.trans GR.out⟩
  · rw [if_neg q]
    have q' : (ic0 != 0) = true := by simpa using q
    go_enter Tryz.func7, Tryz.ntmps7
    go_upto_region 1 with fail
    rw [HW0.out]
    go_wp2_with fail
    refine CI1.out.mono ?_
    rintro e w1 ⟨rfl, G1⟩
    have GG := Lib.hid (G0.out.trans G1)
    clear c0 c1 c2 B0 G0 HW0 G1 CI1 q
    go_wp2_with fail
    go_ret
    exact ⟨rfl, GG.out⟩

end Go.Proofs.YtombnejipaoinaaGreat
