/-
  routingref34.toward: the route to an address, with its hops turned to it.
-/
import Derived.Test.YtiemmejpaahbpaaGreatRwy
import Derived.Test.YtiemmejpaahbpaaGreatKee
namespace Go.Proofs.YtiemmejpaahbpaaGreat
open Go.RowKit

structure TwRel (w : World) (a : Int) (l : List RtH) (k : Nat) (b : Value) (wr : World) : Prop where
  hk : k ≤ l.length
  e7 : b = .int .i64 (lookV (towO a l k))
  bel : Below w.heap.size w wr
theorem TwRel.step {w : World} {a : Int} {l : List RtH} {k : Nat} {b : Value} {wr W' : World} (R : TwRel w a l k b wr) (c : k < l.length) (t : Bool) (h : towB a l (towO a l k) k = t) (g : Below wr.heap.size wr W') : TwRel w a l (k + 1) (if t then .int .i64 k else b) W' := by
  refine ⟨c, ?_, R.bel.trans (g.mono R.bel.size)⟩
  unfold towO
  cases t with
  | true => rw [if_pos h]; rfl
  | false =>
    have e : (if towB a l (towO a l k) k = true then some k else towO a l k) = towO a l k := if_neg (by rw [h]; exact Bool.false_ne_true)
    rw [e]; exact R.e7

structure ThRel (w : World) (a : Int) (hops : List Ls.Hop) (k : Nat) (v : Value) (wr : World) : Prop where
  hk : k ≤ hops.length
  hp : HopsAt wr v (Ls.adds Ls.hopLt [] ((hops.take k).map (fwdHop a)))
  bel : Below w.heap.size w wr
  nw : New w.heap.size v
theorem ThRel.step {w : World} {a : Int} {hops : List Ls.Hop} {k : Nat} {v : Value} {wr : World} (R : ThRel w a hops k v wr) (c : k < hops.length) {x : Ls.Hop} (hx : hops[k] = x) {w2 : World} {v2 : Value}
    (h : HopsAt w2 v2 (Ls.add Ls.hopLt (Ls.adds Ls.hopLt [] ((hops.take k).map (fwdHop a))) (fwdHop a x))) (nw : New wr.heap.size v2) (g : Below wr.heap.size wr w2) : ThRel w a hops (k + 1) v2 w2 := by
  refine ⟨c, ?_, R.bel.trans (g.mono R.bel.size), fun b off n c e => Nat.le_trans R.bel.size (nw b off n c e)⟩
  have e : Ls.adds Ls.hopLt [] ((hops.take (k + 1)).map (fwdHop a)) = Ls.add Ls.hopLt (Ls.adds Ls.hopLt [] ((hops.take k).map (fwdHop a))) (fwdHop a x) := by
    rw [List.take_succ_eq_append_getElem c, hx, List.map_append]; unfold Ls.adds; rw [List.foldl_append]; rfl
  rw [e]; exact h

def TowPost (w : World) (a : Int) (l : List RtH) (e : Ending) (w' : World) : Prop :=
  Below w.heap.size w w' ∧ ((towO a l l.length = none ∧ e = .returned (.tuple #[.int .i64 0, .slice none 0 0, .bool false])) ∨
    ∃ j v, towO a l l.length = some j ∧ e = .returned (.tuple #[.int .i64 (rthAt l j).rt.cost, v, .bool true]) ∧ HopsAt w' v (Ls.adds Ls.hopLt [] ((rthAt l j).hops.map (fwdHop a))) ∧ New w.heap.size v)

set_option maxHeartbeats 8000000 in
set_option maxRecDepth 100000 in
theorem toward_calls (w : World) (v : Value) (l : List RtH) (a : Int) (a0 : 0 ≤ a) (a1 : a < 4294967296) (h : RoutesAt w v l) (ok : ∀ y ∈ l, validP y.rt.pfx = true) (hn : ∀ y ∈ l, (y.hops.length + 2) * 16 ≤ 140737488355328) :
    Calls Tryz.prog 32 #[v, .int .u32 a] w (TowPost w a l) := by
  obtain ⟨ad, cap, rfl, hlen, hc⟩ := h.get
  have HC := Lib.hid hc
  have HH := Lib.hid h.hops
  have HN := Lib.hid hn
  have OK := Lib.hid ok
  have HA : Hid (0 ≤ a ∧ a < 4294967296) := Lib.hid ⟨a0, a1⟩
  have R0 : Hid (TwRel w a l 0 (.int .i64 (-1)) w) := Lib.hid ⟨Nat.zero_le _, rfl, Below.refl _ _⟩
  clear h hc hn ok
  go_enter Tryz.func32, Tryz.ntmps32
  go_wp2_with fail
  go_loopw [7, 8] (fun b i wr => ∃ k : Nat, i = .int .i64 k ∧ TwRel w a l k b wr) (fun _ i _ => l.length - (intOf i).toNat)
  case atStart => exact ⟨0, rfl, R0.out⟩
  case round =>
    clear R0
    obtain ⟨k, rfl, R⟩ := hrel
    have hk := R.hk
    by_cases c : k < l.length
    · obtain ⟨b, off, rfl, hb0, hcc⟩ := HC.out (by omega)
      obtain ⟨d0, d1, -⟩ := (hcc k c).below R.bel hb0
      rw [← rthAt_eq c] at d0 d1
      have JV : Hid (∀ j, towO a l k = some j → wr.cell? ⟨b, off + j * 9 + 1, none⟩ = some (.int .i64 (rthAt l j).rt.pfx.len) ∧ j < l.length) := Lib.hid (fun j hj => by
        have hlt := towO_lt a l k j hj
        have c' : j < l.length := by omega
        rw [rthAt_eq c']; exact ⟨((hcc j c').below R.bel hb0).2.1, c'⟩)
      have STEP := Lib.hid (fun (t : Bool) (h : towB a l (towO a l k) k = t) (W' : World) (g : Below wr.heap.size wr W') => R.step c t h g)
      have TB : Hid (towB a l (towO a l k) k = (decide (keepI a (rthAt l k).rt.pfx.len = (rthAt l k).rt.pfx.addr) && lookT l (towO a l k) (rthAt l k).rt.pfx.len)) := Lib.hid rfl
      have hv := validP_len (OK.out _ (List.getElem_mem c))
      rw [← rthAt_eq c] at hv
      have E7 := R.e7
      subst E7
      have KC := Lib.hid (fun W => keep23_calls a (rthAt l k).rt.pfx.len hv.1 hv.2 HA.out.1 HA.out.2 W)
      have i0 : (0 : Int) ≤ (k : Int) := by omega
      have i1 : (k : Int) < (l.length : Int) := by omega
      have i2 : ((k : Int)).toNat = k := by omega
      clear R hcc hv
      generalize towO a l k = bo at *
      generalize rthAt l k = y at *
      obtain ⟨⟨⟨pa, pl⟩, proto, area, cost, second, cost2, tag, yha, yhn, yhc⟩, hops⟩ := y
      simp only at d0 d1 TB KC
      generalize keepI a pl = kp at *
      go_upto_region 6 with fail
      generalize hW1 : wr.alloc _ = W1
      have G1 : Hid (Gr wr W1) := Lib.hid (by rw [← hW1]; exact (Gr.refl _).alloc _)
      have bx : W1.heap[wr.heap.size]? = some (.cells #[.int .u32 pa, .int .i64 pl] 33 (0, 0)) := by rw [← hW1]; exact alloc_new _ _
      have p0 := blk_cell (i := 0) bx rfl
      have p1 := blk_cell (i := 1) bx rfl
      clear hW1 bx
      by_cases kb : kp = pa
      · have q1 : (kp == pa) = true := by simpa using kb
        cases bo with
        | none =>
          have NX := Lib.hid (STEP.out true (by rw [TB.out]; simp [kb, lookT]))
          simp only [lookV]
          clear TB STEP JV kb
          go_wp2_with fail
          go_quiet ((go_at_call 64; exact quiet1 KC.out))
          clear d0 d1 p0 p1 q1
          have NX2 := Lib.hid (fun n => NX.out (W1.drewN n) (G1.out.drewN n).b)
          go_wp2_with fail
          go_roundw
          case rel => first | exact ⟨k + 1, by go_num, NX2.out _⟩ | ((repeat apply Exists.intro); exact ⟨⟨k + 1, by go_num, NX2.out _⟩, rfl⟩)
          case measure => simp [intOf]; omega
        | some j =>
          obtain ⟨jc, jlt⟩ := JV.out j rfl
          have jc := bcell G1.out.b jc
          have LT : Hid (lookT l (some j) pl = decide ((rthAt l j).rt.pfx.len < pl)) := Lib.hid rfl
          generalize (rthAt l j).rt.pfx.len = jl at *
          have j0 : (0 : Int) ≤ (j : Int) := by omega
          have j1 : (j : Int) < (l.length : Int) := by omega
          have j2 : ((j : Int)).toNat = j := by omega
          have j3 : decide ((j : Int) < 0) = false := by simp
          by_cases g : jl < pl
          · have g1 : decide (jl < pl) = true := by simpa using g
            have NX := Lib.hid (STEP.out true (by rw [TB.out, LT.out]; simp [kb, g]))
            simp only [lookV]
            clear TB STEP JV LT kb
            go_wp2_with fail
            go_quiet ((go_at_call 64; exact quiet1 KC.out))
            clear d0 d1 p0 p1 q1 jc g1 j0 j1 j2 j3
            have NX2 := Lib.hid (fun n => NX.out (W1.drewN n) (G1.out.drewN n).b)
            go_wp2_with fail
            go_roundw
            case rel => first | exact ⟨k + 1, by go_num, NX2.out _⟩ | ((repeat apply Exists.intro); exact ⟨⟨k + 1, by go_num, NX2.out _⟩, rfl⟩)
            case measure => simp [intOf]; omega
          · have g1 : decide (jl < pl) = false := by simpa using g
            have NX := Lib.hid (STEP.out false (by rw [TB.out, LT.out]; simp [kb, g]))
            simp only [lookV] at NX ⊢
            clear TB STEP JV LT kb
            go_wp2_with fail
            go_quiet ((go_at_call 64; exact quiet1 KC.out))
            clear d0 d1 p0 p1 q1 jc g1 j0 j1 j2 j3
            have NX2 := Lib.hid (fun n => NX.out (W1.drewN n) (G1.out.drewN n).b)
            go_wp2_with fail
            go_roundw
            case rel => first | exact ⟨k + 1, by go_num, NX2.out _⟩ | ((repeat apply Exists.intro); exact ⟨⟨k + 1, by go_num, NX2.out _⟩, rfl⟩)
            case measure => simp [intOf]; omega
      · have q1 : (kp == pa) = false := by simpa using kb
        have NX := Lib.hid (STEP.out false (by rw [TB.out]; simp [kb]))
        clear TB STEP JV kb
        go_wp2_with fail
        go_quiet ((go_at_call 64; exact quiet1 KC.out))
        clear d0 d1 p0 p1 q1
        have NX2 := Lib.hid (fun n => NX.out (W1.drewN n) (G1.out.drewN n).b)
        go_wp2_with fail
        go_roundw
        case rel => first | exact ⟨k + 1, by go_num, NX2.out _⟩ | ((repeat apply Exists.intro); exact ⟨⟨k + 1, by go_num, NX2.out _⟩, rfl⟩)
        case measure => simp [intOf]; omega
    · have E7 := R.e7
      have BL := Lib.hid R.bel
      have ek : k = l.length := by omega
      subst ek
      subst E7
      clear R
      cases ho : towO a l l.length with
      | none =>
        have FIN : Hid (TowPost w a l (.returned (.tuple #[.int .i64 0, .slice none 0 0, .bool false])) wr) := Lib.hid ⟨BL.out, .inl ⟨ho, rfl⟩⟩
        simp only [lookV]
        clear ho
        go_wp2_with fail
        go_ret3
        exact FIN.out
      | some j =>
        have hlt := towO_lt a l _ j ho
        obtain ⟨b, off, rfl, hb0, hcc⟩ := HC.out (by omega)
        obtain ⟨-, -, -, -, q4, -, -, -, q8⟩ := (hcc j hlt).below BL.out hb0
        rw [← rthAt_eq hlt] at q4 q8
        have Q4 := Lib.hid q4
        have Q8 := Lib.hid q8
        have HOPS : Hid (HopsAt wr (rthAt l j).rt.hv (rthAt l j).hops) := Lib.hid (by rw [rthAt_eq hlt]; exact (HH.out _ (List.getElem_mem hlt)).below BL.out)
        have HNJ : Hid (((rthAt l j).hops.length + 2) * 16 ≤ 140737488355328) := Lib.hid (by rw [rthAt_eq hlt]; exact HN.out _ (List.getElem_mem hlt))
        have POST := Lib.hid (fun v W' (B : Below w.heap.size w W') (hp : HopsAt W' v (Ls.adds Ls.hopLt [] ((rthAt l j).hops.map (fwdHop a)))) (N : New w.heap.size v) => (⟨B, .inr ⟨j, v, ho, rfl, hp, N⟩⟩ : TowPost w a l (.returned (.tuple #[.int .i64 (rthAt l j).rt.cost, v, .bool true])) W'))
        have hbw : b < wr.heap.size := Nat.lt_of_lt_of_le hb0 BL.out.size
        simp only [lookV]
        have j0 : (0 : Int) ≤ (j : Int) := by omega
        have j1 : (j : Int) < (l.length : Int) := by omega
        have j2 : ((j : Int)).toNat = j := by omega
        have j3 : decide ((j : Int) < 0) = false := by simp
        clear ho hcc q4 q8
        generalize rthAt l j = y at *
        obtain ⟨⟨pfx, proto, area, cost, second, cost2, tag, yha, yhn, yhc⟩, hops⟩ := y
        simp only [Rt.hv] at Q4 Q8 HOPS HNJ POST
        obtain ⟨ha0, hc0, hhe, hml, hhl, -, hhc⟩ := HOPS.out.get
        have hlh : hops.length ≤ 9223372036854775807 := by unfold maxLen at hhl; omega
        have e1 := (Value.slice.inj hhe).1
        have e2 := (Value.slice.inj hhe).2.1
        have e3 := (Value.slice.inj hhe).2.2
        subst e1 e2 e3
        have HHC := Lib.hid hhc
        have ST0 : Hid (ThRel w a hops 0 (.slice (some ⟨wr.heap.size, 0, none⟩) 0 0) (wr.alloc (.cells #[] 59))) := Lib.hid (by
          have O := World.ownsRow_made (size := 3) (e := 59) (base := wr.heap.size) wr #[] 0 (by simp) (by unfold maxLen; omega) rfl
          have O' : HopsOwn wr.heap.size (wr.alloc (.cells #[] 59)) (.slice (some ⟨wr.heap.size, 0, none⟩) 0 0) [] := by simpa [HopsOwn] using O
          exact ⟨Nat.zero_le _, by simpa [Ls.adds] using O'.at, BL.out.alloc BL.out.size _, O'.new BL.out.size⟩)
        clear hhe hml hhl hhc
        have QW4 : Hid (∀ W', Below wr.heap.size wr W' → W'.cell? ⟨b, off + j * 9 + 4, none⟩ = some (.int .i64 cost)) := Lib.hid (fun W' B => bcell B Q4.out)
        have QW8 : Hid (∀ W', Below wr.heap.size wr W' → W'.cell? ⟨b, off + j * 9 + 8, none⟩ = some (.slice yha hops.length yhc)) := Lib.hid (fun W' B => bcell B Q8.out)
        obtain ⟨WB, rfl⟩ : ∃ WB, WB = wr := ⟨_, rfl⟩
        go_wp2_with fail
        go_loopw [10, 11] (fun o i wi => ∃ k : Nat, i = .int .i64 k ∧ ThRel w a hops k o wi ∧ Hid (Below WB.heap.size WB wi)) (fun _ i _ => hops.length - (intOf i).toNat)
        case atStart => exact ⟨0, rfl, ST0.out, Lib.hid ((Below.refl _ _).alloc (Nat.le_refl _) _)⟩
        case round =>
          clear ST0
          obtain ⟨k, rfl, R, BW2⟩ := hrel
          have hk := R.hk
          have q8 := QW8.out wr BW2.out
          by_cases c2 : k < hops.length
          · obtain ⟨hb, hoff, rfl, hhb, hhcc⟩ := HHC.out (by omega)
            obtain ⟨d0, d1, d2⟩ := hhcc k c2
            have d0 := bcell BW2.out d0
            have d1 := bcell BW2.out d1
            have d2 := bcell BW2.out d2
            generalize hx : hops[k] = x at *
            have NX := Lib.hid (fun w2 v2 h (nw : New wr.heap.size v2) (g : Below wr.heap.size wr w2) => (⟨R.step c2 hx (w2 := w2) (v2 := v2) h nw g, Lib.hid (BW2.out.trans (g.mono BW2.out.size))⟩ : ThRel w a hops (k + 1) v2 w2 ∧ Hid (Below WB.heap.size WB w2)))
            have HP := Lib.hid R.hp
            have HB : Hid (((Ls.adds Ls.hopLt [] ((hops.take k).map (fwdHop a))).length + 2) * 16 ≤ 140737488355328) := Lib.hid (Nat.le_trans (Nat.mul_le_mul_right 16 (by
              have := Ls.adds_len (lt := Ls.hopLt) ((hops.take k).map (fwdHop a)) []
              rw [List.length_map, List.length_take] at this; simp only [List.length_nil] at this; omega)) HNJ.out)
            clear R hhcc hx
            obtain ⟨hi, ha, hr⟩ := x
            simp only at d0 d1 d2
            by_cases z : ha = 0 ∧ hr = 0
            · obtain ⟨rfl, rfl⟩ := z
              have FWE : fwdHop a ⟨hi, 0, 0⟩ = ⟨hi, a, 0⟩ := rfl
              have FWH := Lib.hid FWE
              clear FWE
              obtain ⟨W1, hW1⟩ : ∃ W1, wr.alloc (.cells #[.int .i64 hi, .int .u32 a, .int .u32 0] 59) = W1 := ⟨_, rfl⟩
              have G1 : Hid (Gr wr W1) := Lib.hid (by rw [← hW1]; exact (Gr.refl _).alloc _)
              have HP1 := Lib.hid (HP.out.below G1.out.b)
              have HW1 := Lib.hid hW1
              clear hW1
              have AC := Lib.hid (add_calls W1 u10 (Ls.adds Ls.hopLt [] ((hops.take k).map (fwdHop a))) ⟨hi, a, 0⟩ HP1.out HB.out)
              simp only [hopE] at AC
              go_wp2_with fail
              rw [HW1.out]
              refine AC.out.mono ?_
              rintro e w2 ⟨v2, rfl, O2, B2⟩
              have NX2 := Lib.hid (NX.out w2 v2 (by rw [show fwdHop a ⟨hi, 0, 0⟩ = ⟨hi, a, 0⟩ from FWH.out]; exact O2.at) (O2.new G1.out.b.size) (G1.out.b.trans (B2.mono G1.out.b.size)))
              clear O2 B2 AC
              go_wp2_with fail
              go_roundw
              case rel => first | exact ⟨k + 1, by go_num, NX2.out⟩ | ((repeat apply Exists.intro); exact ⟨⟨k + 1, by go_num, NX2.out⟩, rfl⟩)
              case measure => simp [intOf]; omega
            · have FWE : fwdHop a ⟨hi, ha, hr⟩ = ⟨hi, ha, hr⟩ := by unfold fwdHop; rw [if_neg z]
              have FWH := Lib.hid FWE
              clear FWE
              by_cases z1 : ha = 0
              · subst z1
                have z2 : (hr == 0) = false := by simp at z; simpa using z
                clear z
                skip
                obtain ⟨W1, hW1⟩ : ∃ W1, wr.alloc (.cells #[.int .i64 hi, .int .u32 0, .int .u32 hr] 59) = W1 := ⟨_, rfl⟩
                have G1 : Hid (Gr wr W1) := Lib.hid (by rw [← hW1]; exact (Gr.refl _).alloc _)
                have HP1 := Lib.hid (HP.out.below G1.out.b)
                have HW1 := Lib.hid hW1
                clear hW1
                have AC := Lib.hid (add_calls W1 u10 (Ls.adds Ls.hopLt [] ((hops.take k).map (fwdHop a))) ⟨hi, 0, hr⟩ HP1.out HB.out)
                simp only [hopE] at AC
                go_wp2_with fail
                rw [HW1.out]
                refine AC.out.mono ?_
                rintro e w2 ⟨v2, rfl, O2, B2⟩
                have NX2 := Lib.hid (NX.out w2 v2 (by rw [show fwdHop a ⟨hi, 0, hr⟩ = ⟨hi, 0, hr⟩ from FWH.out]; exact O2.at) (O2.new G1.out.b.size) (G1.out.b.trans (B2.mono G1.out.b.size)))
                clear O2 B2 AC
                go_wp2_with fail
                go_roundw
                case rel => first | exact ⟨k + 1, by go_num, NX2.out⟩ | ((repeat apply Exists.intro); exact ⟨⟨k + 1, by go_num, NX2.out⟩, rfl⟩)
                case measure => simp [intOf]; omega
              · have z2 : (ha == 0) = false := by simpa using z1
                clear z
                skip
                obtain ⟨W1, hW1⟩ : ∃ W1, wr.alloc (.cells #[.int .i64 hi, .int .u32 ha, .int .u32 hr] 59) = W1 := ⟨_, rfl⟩
                have G1 : Hid (Gr wr W1) := Lib.hid (by rw [← hW1]; exact (Gr.refl _).alloc _)
                have HP1 := Lib.hid (HP.out.below G1.out.b)
                have HW1 := Lib.hid hW1
                clear hW1
                have AC := Lib.hid (add_calls W1 u10 (Ls.adds Ls.hopLt [] ((hops.take k).map (fwdHop a))) ⟨hi, ha, hr⟩ HP1.out HB.out)
                simp only [hopE] at AC
                go_wp2_with fail
                rw [HW1.out]
                refine AC.out.mono ?_
                rintro e w2 ⟨v2, rfl, O2, B2⟩
                have NX2 := Lib.hid (NX.out w2 v2 (by rw [show fwdHop a ⟨hi, ha, hr⟩ = ⟨hi, ha, hr⟩ from FWH.out]; exact O2.at) (O2.new G1.out.b.size) (G1.out.b.trans (B2.mono G1.out.b.size)))
                clear O2 B2 AC
                go_wp2_with fail
                go_roundw
                case rel => first | exact ⟨k + 1, by go_num, NX2.out⟩ | ((repeat apply Exists.intro); exact ⟨⟨k + 1, by go_num, NX2.out⟩, rfl⟩)
                case measure => simp [intOf]; omega
          · have FIN : Hid (TowPost w a l (.returned (.tuple #[.int .i64 cost, u10, .bool true])) wr) := Lib.hid (POST.out u10 wr R.bel (by have := R.hp; rwa [List.take_of_length_le (by omega)] at this) R.nw)
            have q4 := QW4.out wr BW2.out
            clear R
            go_wp2_with fail
            go_ret3
            exact FIN.out

end Go.Proofs.YtiemmejpaahbpaaGreat
