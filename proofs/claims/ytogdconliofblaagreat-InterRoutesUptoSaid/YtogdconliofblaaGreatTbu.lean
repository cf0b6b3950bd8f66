/-
  (table[uint32]).add.
-/
import Derived.Test.YtogdconliofblaaGreatTba
import Derived.Test.YtogdconliofblaaGreatSmy
namespace Go.Proofs.YtogdconliofblaaGreat
open Go.RowKit

def AddPostU (w : World) (mb n : Nat) (g : Int → Option Of) (p : Int) (o : Of) (e : Ending) (w' : World) : Prop :=
  e = .returned (.tuple #[]) ∧ (∃ f', ObAt 22 u32Ok (intLit .u32) w' mb (n + 1) (tbAdd g p o) f') ∧ w.grownBy w' (some mb)

set_option maxHeartbeats 8000000 in
set_option maxRecDepth 100000 in
theorem addu_table (w : World) (mb n : Nat) (g : Int → Option Of) (f : Int → Option OfH) (T : ObAt 22 u32Ok (intLit .u32) w mb n g f) (hn' : n < maxLen) (p : Int) (hp : u32Ok p) (o : OfH) (ho : HopsAt w o.hv o.hops)
    (hb : ∀ old, f p = some old → (old.hops.length + o.hops.length) * 16 ≤ 140737488355328) :
    Calls Tryz.prog 66 #[.agg #[.map (some mb)], .int .u32 p, .agg (ofE o).toArray] w (AddPostU w mb n g p o.pure) := by
  have HP := Lib.hid hp
  have HN := Lib.hid hn'
  obtain ⟨co, ha, hn, hc, oh2⟩ := o
  simp only [ofE, OfH.hv, OfH.pure] at *
  obtain ⟨W0, hW0⟩ : ∃ W0, (w.alloc (.cells #[.map (some mb)] 122)).alloc (.cells #[.int .i64 co, .slice ha hn hc] 98) = W0 := ⟨_, rfl⟩
  have B0 : Below w.heap.size w W0 := by rw [← hW0]; exact ((Below.refl _ _).alloc (Nat.le_refl _) _).alloc (by simp) _
  have hsz : W0.heap.size = w.heap.size + 2 := by rw [← hW0]; simp
  have b0 : W0.heap[w.heap.size]? = some (.cells #[.map (some mb)] 122 (0, 0)) := by rw [← hW0]; exact (alloc_get _ _ _ (by simp)).trans (alloc_new w _)
  have b2 : W0.heap[w.heap.size + 1]? = some (.cells #[.int .i64 co, .slice ha hn hc] 98 (0, 0)) := by rw [← hW0]; exact blk_new2 w _ _
  have T0 := Lib.hid (T.grow B0)
  have HO0 := Lib.hid (ho.below B0)
  have M0 := Lib.hid T0.out.map
  have HB0 := Lib.hid B0
  have X0 := Lib.hid b0
  have X2 := Lib.hid b2
  have MLT0 := Lib.hid T.map.lt
  have VAL : Hid ((f p).map OfH.pure = g p) := Lib.hid (T.val p)
  have HBD := Lib.hid hb
  have HSZ := Lib.hid hsz
  have HW0 := Lib.hid hW0
  clear hW0 B0 hsz b0 b2 T ho hb hp hn'
  have m0 := blk_cell (i := 0) X0.out rfl
  have o0 := blk_cell (i := 0) X2.out rfl
  have o1 := blk_cell (i := 1) X2.out rfl
  cases hf : f p with
  | none =>
    have HF := Lib.hid hf
    have GN : Hid (g p = none) := Lib.hid (by rw [← VAL.out, hf]; rfl)
    clear hf
    obtain ⟨W1, hW1⟩ : ∃ W1, W0.alloc (.cells #[.int .i64 0, .slice none 0 0] 98) = W1 := ⟨_, rfl⟩
    have B1 : Below W0.heap.size W0 W1 := by rw [← hW1]; exact (Below.refl _ _).alloc (Nat.le_refl _) _
    have bo : W1.heap[W0.heap.size]? = some (.cells #[.int .i64 0, .slice none 0 0] 98 (0, 0)) := by rw [← hW1]; exact alloc_new _ _
    have u0 := blk_cell (i := 0) bo rfl
    have u1 := blk_cell (i := 1) bo rfl
    have q0 := bcell B1 m0
    have q3 := bcell B1 o0
    have q4 := bcell B1 o1
    have T1 := Lib.hid (T0.out.grow B1)
    have M1 := Lib.hid T1.out.map
    have HO1 := Lib.hid (HO0.out.below B1)
    have BB := Lib.hid (HB0.out.trans (B1.mono HB0.out.size))
    have HW1 := Lib.hid hW1
    clear hW1 B1 bo
    by_cases c : 16777216 < co
    · have c1 : decide (16777216 < co) = true := by simpa using c
      have NX : Hid (AddPostU w mb n g p ⟨co, oh2⟩ (.returned (.tuple #[])) W1) := Lib.hid ⟨rfl, ⟨f, by rw [tbAdd_big c]; exact T1.out.mono (Nat.le_succ n)⟩, grown_below BB.out ⟨rfl, rfl, rfl, Nat.le_refl _, fun _ _ _ => rfl⟩⟩
      clear c
      go_enter Tryz.func66, Tryz.ntmps66
      go_upto_region 2 with (at_lookup; rw [HW0.out]; refine wpList_look_none _ rfl _ _ 120 rfl 98 Tryz.u32Key Tryz.underlying120 (Tryz.zeroOf _) mb n f rfl M0.out p rfl HP.out HF.out ?_)
      rw [HW1.out]
      go_wp2_with fail
      (try simp only [Exit.inBlock, Exit.then])
      first | go_end0 | refine bodyPost_ret (results_none rfl _ _ _) rfl ?_
      exact NX.out
    · have c1 : decide (16777216 < co) = false := by simpa using c
      have PUT : Hid (∀ w6, MapF Tryz.prog 22 u32Ok (intLit .u32) ofV w6 mb (n + 1) (upd f p ⟨co, ha, hn, hc, oh2⟩) → W1.grownBy w6 (some mb) → AddPostU w mb n g p ⟨co, oh2⟩ (.returned (.tuple #[])) w6) := Lib.hid (fun w6 M6 G6 => ⟨rfl, ⟨_, by rw [tbAdd_new c GN.out]; exact T1.out.put p ⟨co, ha, hn, hc, oh2⟩ M6 G6 HO1.out⟩, grown_below BB.out G6⟩)
      clear c
      go_enter Tryz.func66, Tryz.ntmps66
      go_upto_region 2 with (at_lookup; rw [HW0.out]; refine wpList_look_none _ rfl _ _ 120 rfl 98 Tryz.u32Key Tryz.underlying120 (Tryz.zeroOf _) mb n f rfl M0.out p rfl HP.out HF.out ?_)
      rw [HW1.out]
      go_wp2_with (at_mapUpdate; refine wpList_mput _ rfl _ _ _ 120 rfl 98 Tryz.u32Key Tryz.underlying120 mb n f rfl M1.out HN.out p rfl HP.out ⟨co, ha, hn, hc, oh2⟩ rfl ?_; intro w6 M6 G6; have NX := Lib.hid (PUT.out w6 M6 G6); clear M6 G6)
      (try simp only [Exit.inBlock, Exit.then])
      first | go_end0 | refine bodyPost_ret (results_none rfl _ _ _) rfl ?_
      exact NX.out
  | some old =>
    have HF := Lib.hid hf
    have GN : Hid (g p = some old.pure) := Lib.hid (by rw [← VAL.out, hf]; rfl)
    have OH := Lib.hid (T0.out.hops _ _ hf)
    have BD := Lib.hid (HBD.out old hf)
    clear hf
    obtain ⟨oc, oha, ohn, ohc, oh⟩ := old
    simp only [OfH.pure, OfH.hv] at GN OH BD
    obtain ⟨W1, hW1⟩ : ∃ W1, W0.alloc (.cells #[.int .i64 oc, .slice oha ohn ohc] 98) = W1 := ⟨_, rfl⟩
    have B1 : Below W0.heap.size W0 W1 := by rw [← hW1]; exact (Below.refl _ _).alloc (Nat.le_refl _) _
    have bo : W1.heap[W0.heap.size]? = some (.cells #[.int .i64 oc, .slice oha ohn ohc] 98 (0, 0)) := by rw [← hW1]; exact alloc_new _ _
    have u0 := blk_cell (i := 0) bo rfl
    have u1 := blk_cell (i := 1) bo rfl
    have q0 := bcell B1 m0
    have q3 := bcell B1 o0
    have q4 := bcell B1 o1
    have T1 := Lib.hid (T0.out.grow B1)
    have M1 := Lib.hid T1.out.map
    have HO1 := Lib.hid (HO0.out.below B1)
    have OH1 := Lib.hid (OH.out.below B1)
    have BB := Lib.hid (HB0.out.trans (B1.mono HB0.out.size))
    have HW1 := Lib.hid hW1
    clear hW1 B1 bo
    have NOP : Hid (tbAdd g p ⟨co, oh2⟩ = g → AddPostU w mb n g p ⟨co, oh2⟩ (.returned (.tuple #[])) W1) := Lib.hid (fun h => ⟨rfl, ⟨f, by rw [h]; exact T1.out.mono (Nat.le_succ n)⟩, grown_below BB.out ⟨rfl, rfl, rfl, Nat.le_refl _, fun _ _ _ => rfl⟩⟩)
    by_cases c : 16777216 < co
    · have c1 : decide (16777216 < co) = true := by simpa using c
      have NX := Lib.hid (NOP.out (tbAdd_big c))
      clear c
      go_enter Tryz.func66, Tryz.ntmps66
      go_upto_region 2 with (at_lookup; rw [HW0.out]; refine wpList_look_some _ rfl _ _ 120 rfl 98 Tryz.u32Key Tryz.underlying120 (Tryz.zeroOf _) mb n f rfl M0.out p rfl HP.out ⟨oc, oha, ohn, ohc, oh⟩ HF.out ?_; simp only [ofV, ofE])
      rw [HW1.out]
      go_wp2_with fail
      (try simp only [Exit.inBlock, Exit.then])
      first | go_end0 | refine bodyPost_ret (results_none rfl _ _ _) rfl ?_
      exact NX.out
    · have c1 : decide (16777216 < co) = false := by simpa using c
      rcases Int.lt_trichotomy co oc with d | d | d
      · have d1 : decide (co < oc) = true := by simpa using d
        have PUT : Hid (∀ w6, MapF Tryz.prog 22 u32Ok (intLit .u32) ofV w6 mb (n + 1) (upd f p ⟨co, ha, hn, hc, oh2⟩) → W1.grownBy w6 (some mb) → AddPostU w mb n g p ⟨co, oh2⟩ (.returned (.tuple #[])) w6) := Lib.hid (fun w6 M6 G6 => ⟨rfl, ⟨_, by rw [tbAdd_lt c GN.out d]; exact T1.out.put p ⟨co, ha, hn, hc, oh2⟩ M6 G6 HO1.out⟩, grown_below BB.out G6⟩)
        clear c d
        go_enter Tryz.func66, Tryz.ntmps66
        go_upto_region 2 with (at_lookup; rw [HW0.out]; refine wpList_look_some _ rfl _ _ 120 rfl 98 Tryz.u32Key Tryz.underlying120 (Tryz.zeroOf _) mb n f rfl M0.out p rfl HP.out ⟨oc, oha, ohn, ohc, oh⟩ HF.out ?_; simp only [ofV, ofE])
        rw [HW1.out]
        go_wp2_with (at_mapUpdate; refine wpList_mput _ rfl _ _ _ 120 rfl 98 Tryz.u32Key Tryz.underlying120 mb n f rfl M1.out HN.out p rfl HP.out ⟨co, ha, hn, hc, oh2⟩ rfl ?_; intro w6 M6 G6; have NX := Lib.hid (PUT.out w6 M6 G6); clear M6 G6)
        (try simp only [Exit.inBlock, Exit.then])
        first | go_end0 | refine bodyPost_ret (results_none rfl _ _ _) rfl ?_
        exact NX.out
      · --EQ
        subst d
        have d1 : decide (co < co) = false := by simp
        have d2 : (co == co) = true := by simp
        have MLT : mb < w.heap.size := MLT0.out
        have HM := Lib.hid (fun (W : World) (hb : Below W1.heap.size W1 W) => merge_calls W (.slice oha ohn ohc) (.slice ha hn hc) oh oh2 (OH1.out.below hb) (HO1.out.below hb) BD.out)
        have k0 : W1.cell? ⟨w.heap.size, 0, none⟩ = some (.map (some mb)) := q0
        have k3 : W1.cell? ⟨w.heap.size + 1, 0, none⟩ = some (.int .i64 co) := q3
        have k4 : W1.cell? ⟨w.heap.size + 1, 1, none⟩ = some (.slice ha hn hc) := q4
        have k5 : W1.cell? ⟨W0.heap.size, 1, none⟩ = some (.slice oha ohn ohc) := u1
        have PUT : Hid (∀ (va : Option Addr) (vn vc : Nat) w5 w6, Below W1.heap.size W1 w5 → HopsAt w5 (.slice va vn vc) (Ls.merge Ls.hopLt oh oh2) → MapF Tryz.prog 22 u32Ok (intLit .u32) ofV w6 mb (n + 1) (upd f p ⟨co, va, vn, vc, Ls.merge Ls.hopLt oh oh2⟩) → w5.grownBy w6 (some mb) → AddPostU w mb n g p ⟨co, oh2⟩ (.returned (.tuple #[])) w6) := Lib.hid (fun va vn vc w5 w6 B5 H5 M6 G6 => ⟨rfl, ⟨_, by rw [tbAdd_eq (o := ⟨co, oh2⟩) c GN.out rfl]; exact (T1.out.grow B5).put p ⟨co, va, vn, vc, Ls.merge Ls.hopLt oh oh2⟩ M6 G6 H5⟩, grown_below (BB.out.trans (B5.mono BB.out.size)) G6⟩)
        have RUNP : Hid (∀ (w5 : World), Below W1.heap.size W1 w5 → ∀ (va : Option Addr) (vn vc : Nat), ∃ w6, (Instr.mapUpdate 120 (.map (some mb)) (.int .u32 p) (.agg #[.int .i64 co, .slice va vn vc])).run Tryz.prog w5 = .ok () w6 ∧ MapF Tryz.prog 22 u32Ok (intLit .u32) ofV w6 mb (n + 1) (upd f p ⟨co, va, vn, vc, Ls.merge Ls.hopLt oh oh2⟩) ∧ w5.grownBy w6 (some mb)) := Lib.hid (fun w5 B va vn vc => MapF.run_put Tryz.u32Key Tryz.underlying120 (M1.out.grow B) HN.out p HP.out ⟨co, va, vn, vc, Ls.merge Ls.hopLt oh oh2⟩)
        have KEEP : Hid (∀ w5 w6 : World, w5.grownBy w6 (some mb) → ∀ (b o : Nat) (v : Value), w.heap.size ≤ b → w5.cell? ⟨b, o, none⟩ = some v → w6.cell? ⟨b, o, none⟩ = some v) := Lib.hid (fun w5 w6 G b o v hb h => G.cell h (by simp; omega))
        have HSW : Hid (w.heap.size ≤ W0.heap.size) := Lib.hid (by have := HSZ.out; omega)
        clear c MLT q0 q3 q4 u1
        go_enter Tryz.func66, Tryz.ntmps66
        go_upto_region 2 with (at_lookup; rw [HW0.out]; refine wpList_look_some _ rfl _ _ 120 rfl 98 Tryz.u32Key Tryz.underlying120 (Tryz.zeroOf _) mb n f rfl M0.out p rfl HP.out ⟨co, oha, ohn, ohc, oh⟩ HF.out ?_; simp only [ofV, ofE])
        rw [HW1.out]
        go_wp2_with fail
        go_region_held3 (fun W' => W'.cell? ⟨w.heap.size, 0, none⟩ = some (.map (some mb)) ∧ W'.cell? ⟨w.heap.size + 1, 0, none⟩ = some (.int .i64 co) ∧ W'.cell? ⟨w.heap.size + 1, 1, none⟩ = some (.slice ha hn hc) ∧ W'.cell? ⟨W0.heap.size, 1, none⟩ = some (.slice oha ohn ohc)) (first | with_reducible exact ⟨k0, k3, k4, k5⟩ | with_reducible exact ⟨r0, r3, r4, r5⟩ | go_keep)
          ((go_at_call 59; ((with_reducible refine (HM.out W1.drew (Below.refl _ _).drew).mono ?_)); rintro e w5 ⟨v5, rfl, O5, B5⟩; obtain ⟨va, vn, vc, rfl⟩ := O5.slice; have B5' : Below W1.heap.size W1 w5 := (Below.refl _ _).drew.trans B5; obtain ⟨w6, hrun, M6, G6⟩ := RUNP.out w5 B5' va vn vc; have NX := Lib.hid (PUT.out va vn vc w5 w6 B5' O5.at M6 G6); have k0 := bcell B5 k0; have k3 := bcell B5 k3; have k4 := bcell B5 k4; have k5 := bcell B5 k5; have r0 := KEEP.out w5 w6 G6 _ _ _ (Nat.le_refl _) k0; have r3 := KEEP.out w5 w6 G6 _ _ _ (Nat.le_succ _) k3; have r4 := KEEP.out w5 w6 G6 _ _ _ (Nat.le_succ _) k4; have r5 := KEEP.out w5 w6 G6 _ _ _ HSW.out k5; clear M6 G6 O5))
        go_wp2_with fail
        (try simp only [Exit.inBlock, Exit.then])
        first | go_end0 | refine bodyPost_ret (results_none rfl _ _ _) rfl ?_
        exact NX.out
      · have d1 : decide (co < oc) = false := by simp; omega
        have d2 : (co == oc) = false := by simp; omega
        have NX := Lib.hid (NOP.out (tbAdd_gt c GN.out d))
        clear c d
        go_enter Tryz.func66, Tryz.ntmps66
        go_upto_region 2 with (at_lookup; rw [HW0.out]; refine wpList_look_some _ rfl _ _ 120 rfl 98 Tryz.u32Key Tryz.underlying120 (Tryz.zeroOf _) mb n f rfl M0.out p rfl HP.out ⟨oc, oha, ohn, ohc, oh⟩ HF.out ?_; simp only [ofV, ofE])
        rw [HW1.out]
        go_wp2_with fail
        (try simp only [Exit.inBlock, Exit.then])
        first | go_end0 | refine bodyPost_ret (results_none rfl _ _ _) rfl ?_
        exact NX.out

end Go.Proofs.YtogdconliofblaaGreat
