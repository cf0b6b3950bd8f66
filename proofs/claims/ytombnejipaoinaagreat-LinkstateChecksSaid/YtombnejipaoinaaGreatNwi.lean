/-
  routingref35.insert.
-/
import Derived.Test.YtombnejipaoinaaGreatNwp
namespace Go.Proofs.YtombnejipaoinaaGreat
open Go.RowKit

theorem InR.next {w : World} {l : List Int} {id : Int} {k : Nat} {d : Bool} {v : Value} {out : List Int} {wr : World} (R : InR w l id k d v out wr) (c : k < l.length) (d' : Bool) (ys : List Int) (v' : Value) (W : World)
    (hown : W.ownsRow w.heap.size 50 2 v' (out ++ ys).length ((out ++ ys).map arE).flatten) (hb : Below w.heap.size w W)
    (hc : (d = true ∧ d' = true ∧ ys = [l[k]]) ∨ (d = false ∧ l[k] = id ∧ d' = true ∧ ys = [l[k]]) ∨ (d = false ∧ l[k] ≠ id ∧ id < l[k] ∧ d' = true ∧ ys = [id, l[k]]) ∨ (d = false ∧ l[k] ≠ id ∧ ¬ id < l[k] ∧ d' = false ∧ ys = [l[k]])) : InR w l id (k + 1) d' v' (out ++ ys) W := by
  have e := R.eq
  have dr := List.drop_eq_getElem_cons c
  have ln := R.len
  refine ⟨c, hown, hb, ?_, ?_⟩
  · rcases hc with ⟨rfl, rfl, rfl⟩ | ⟨rfl, h1, rfl, rfl⟩ | ⟨rfl, h1, h2, rfl, rfl⟩ | ⟨rfl, h1, h2, rfl, rfl⟩
    · rw [e]
      simp only [if_true]
      rw [dr]
      simp
    · rw [e]
      simp only [Bool.false_eq_true, if_false, if_true]
      rw [dr, Ls.add, if_pos h1]
      simp
    · rw [e]
      simp only [Bool.false_eq_true, if_false, if_true]
      rw [dr, Ls.add, if_neg h1, if_pos (by simpa [iLt] using h2)]
      simp
    · rw [e]
      simp only [Bool.false_eq_true, if_false]
      rw [dr, Ls.add, if_neg h1, if_neg (by simpa [iLt] using h2)]
      simp
  · rw [List.length_append]
    rcases hc with ⟨rfl, rfl, rfl⟩ | ⟨rfl, h1, rfl, rfl⟩ | ⟨rfl, h1, h2, rfl, rfl⟩ | ⟨rfl, h1, h2, rfl, rfl⟩ <;> simp only [List.length_cons, List.length_nil] <;> omega

theorem push_ar {B : Nat} {w w1 w2 : World} {v v' : Value} {out : List Int} {y : Int} (O : w1.ownsRow B 50 2 v out.length (out.map arE).flatten) (hb : Below B w w1) (hs : B ≤ w1.heap.size)
    (own' : w2.ownsRow B 50 2 v' (out.length + 1) ((out.map arE).flatten ++ arE y)) (hg : w1.grownBy w2 v.ownBlock) :
    w2.ownsRow B 50 2 v' (out ++ [y]).length ((out ++ [y]).map arE).flatten ∧ Below B w w2 :=
  ⟨by simpa using own', Below.owned hb hs O hg⟩

set_option maxHeartbeats 8000000 in
set_option maxRecDepth 100000 in
theorem insert_calls (w : World) (v : Value) (l : List Int) (id : Int) (h : SlV 2 w v (l.map arE)) (hl : l.length ≤ 1000) : Calls Tryz.prog 18 #[v, .int .u32 id] w (InsPost w (Ls.add iLt l id)) := by
  have hlen := SlV.len h
  obtain ⟨ad, cap, e0, h1, h2, -, h3⟩ := h
  simp only [List.length_map] at e0 h1 h3 hlen
  subst e0
  have HC := Lib.hid h3
  have HL := Lib.hid hl
  clear h3 hl h1 h2
  obtain ⟨W0, hW0⟩ : ∃ W0, w.alloc (.cells #[] 50) = W0 := ⟨_, rfl⟩
  have R0 : Hid (InR w l id 0 false (.slice (some ⟨w.heap.size, 0, none⟩) 0 0) [] W0) := Lib.hid (by
    rw [← hW0]
    exact ⟨Nat.zero_le _, World.ownsRow_made w #[] 0 (Nat.le_refl _) (by unfold maxLen; omega) rfl, (Below.refl _ _).alloc (Nat.le_refl _) _, by simp, by simp⟩)
  have HW0 := Lib.hid hW0
  clear hW0
  go_enter Tryz.func18, Tryz.ntmps18
  go_wp2_with fail
  rw [HW0.out]
  go_loopw [5, 6, 7] (fun o dd i wr => ∃ (k : Nat) (d : Bool) (out : List Int), dd = .bool d ∧ i = .int .i64 k ∧ InR w l id k d o out wr) (fun _ _ i _ => l.length - (intOf i).toNat)
  case atStart => exact ⟨0, false, [], rfl, rfl, R0.out⟩
  case round =>
    clear R0 HW0
    obtain ⟨k, d, out, rfl, rfl, R⟩ := hrel
    have RR := Lib.hid R
    have hk := R.hk
    clear R
    by_cases c : k < l.length
    · obtain ⟨b, off, rfl, hb0, hcc⟩ := HC.out (by omega)
      have KC := Lib.hid c
      have HX : Hid (∀ W, Below w.heap.size w W → W.cell? ⟨b, off + k * 2, none⟩ = some (.int .u32 l[k]) ∧ W.cell? ⟨b, off + k * 2 + 1, none⟩ = some (.slice none 0 0)) := Lib.hid (fun W g => by
        have f := hcc k c
        simp only [List.getElem_map, arE] at f
        exact ⟨bcell g (f 0 _ rfl), bcell g (f 1 _ rfl)⟩)
      obtain ⟨d0, d1⟩ := HX.out wr RR.out.bel
      have i0 : (0 : Int) ≤ (k : Int) := by omega
      have i1 : (k : Int) < (l.length : Int) := by omega
      have s3 : ((k : Int)).toNat = k := by omega
      have CS := Lib.hid (fun (d' : Bool) (ys : List Int) (h : (d = true ∧ d' = true ∧ ys = [l[k]]) ∨ (d = false ∧ l[k] = id ∧ d' = true ∧ ys = [l[k]]) ∨ (d = false ∧ l[k] ≠ id ∧ id < l[k] ∧ d' = true ∧ ys = [id, l[k]]) ∨ (d = false ∧ l[k] ≠ id ∧ ¬ id < l[k] ∧ d' = false ∧ ys = [l[k]])) v' W h1 h2 => RR.out.next KC.out d' ys v' W h1 h2 h)
      clear hcc c
      generalize l[k] = x at *
      by_cases q : x = id
      · have q' : (x == id) = true := by simpa using q
        have Q := Lib.hid q
        clear q
        cases d with
        | true =>
          obtain ⟨V1, hV1⟩ : ∃ V, wr.alloc (.cells #[.int .u32 x, .slice none 0 0] 50) = V := ⟨_, rfl⟩
          have HV1 := Lib.hid hV1
          have BW1 : Hid (Below wr.heap.size wr V1) := Lib.hid (by rw [← hV1]; exact (Below.refl _ _).alloc (Nat.le_refl _) _)
          have BK1 : Hid (V1.heap[wr.heap.size]? = some (.cells (arE x).toArray 50 (0, 0))) := Lib.hid (by rw [← hV1]; exact alloc_new _ _)
          have BL1 := Lib.hid (RR.out.bel.trans (BW1.out.mono RR.out.bel.size))
          have OW1 := Lib.hid (own_below RR.out.own BW1.out)
          have BS1 := Lib.hid BL1.out.size
          have KN1 : Hid (out.length ≤ 100000) := Lib.hid (by have := RR.out.len; have := KC.out; have := HL.out; omega)
          clear hV1 BW1
          go_wp2_with (at_builtin; rw [HV1.out]; refine wpList_append_1 rfl (.tmp 38) (.tmp 43) 29 rfl rowAr w.heap.size u5 out.length _ ?g7 OW1.out wr.heap.size (arE x) 50 ?g8 BK1.out rfl (arE_one1 _) KN1.out BS1.out ?_; (case g7 => exact rfl); (case g8 => exact rfl); intro v1 w1 own' hg4 dj; have PU1 := Lib.hid (push_ar OW1.out BL1.out BS1.out own' hg4); clear own' hg4 dj)
          have NX := Lib.hid (CS.out true [x] (.inl ⟨rfl, rfl, rfl⟩) v1 w1 PU1.out.1 PU1.out.2)
          clear PU1 CS
          go_wp2_with fail
          go_roundw
          case rel => exact ⟨k + 1, true, out ++ [x], rfl, by go_num, NX.out⟩
          case measure => simp [intOf]; have := KC.out; omega
        | false =>
          obtain ⟨V1, hV1⟩ : ∃ V, wr.alloc (.cells #[.int .u32 x, .slice none 0 0] 50) = V := ⟨_, rfl⟩
          have HV1 := Lib.hid hV1
          have BW1 : Hid (Below wr.heap.size wr V1) := Lib.hid (by rw [← hV1]; exact (Below.refl _ _).alloc (Nat.le_refl _) _)
          have BK1 : Hid (V1.heap[wr.heap.size]? = some (.cells (arE x).toArray 50 (0, 0))) := Lib.hid (by rw [← hV1]; exact alloc_new _ _)
          have BL1 := Lib.hid (RR.out.bel.trans (BW1.out.mono RR.out.bel.size))
          have OW1 := Lib.hid (own_below RR.out.own BW1.out)
          have BS1 := Lib.hid BL1.out.size
          have KN1 : Hid (out.length ≤ 100000) := Lib.hid (by have := RR.out.len; have := KC.out; have := HL.out; omega)
          clear hV1 BW1
          go_wp2_with (at_builtin; rw [HV1.out]; refine wpList_append_1 rfl (.tmp 38) (.tmp 43) 29 rfl rowAr w.heap.size u5 out.length _ ?g7 OW1.out wr.heap.size (arE x) 50 ?g8 BK1.out rfl (arE_one1 _) KN1.out BS1.out ?_; (case g7 => exact rfl); (case g8 => exact rfl); intro v1 w1 own' hg4 dj; have PU1 := Lib.hid (push_ar OW1.out BL1.out BS1.out own' hg4); clear own' hg4 dj)
          have NX := Lib.hid (CS.out true [x] (.inr (.inl ⟨rfl, Q.out, rfl, rfl⟩)) v1 w1 PU1.out.1 PU1.out.2)
          clear PU1 CS
          go_wp2_with fail
          go_roundw
          case rel => exact ⟨k + 1, true, out ++ [x], rfl, by go_num, NX.out⟩
          case measure => simp [intOf]; have := KC.out; omega
      · have q' : (x == id) = false := by simpa using q
        have Q := Lib.hid q
        clear q
        cases d with
        | true =>
          obtain ⟨V1, hV1⟩ : ∃ V, wr.alloc (.cells #[.int .u32 x, .slice none 0 0] 50) = V := ⟨_, rfl⟩
          have HV1 := Lib.hid hV1
          have BW1 : Hid (Below wr.heap.size wr V1) := Lib.hid (by rw [← hV1]; exact (Below.refl _ _).alloc (Nat.le_refl _) _)
          have BK1 : Hid (V1.heap[wr.heap.size]? = some (.cells (arE x).toArray 50 (0, 0))) := Lib.hid (by rw [← hV1]; exact alloc_new _ _)
          have BL1 := Lib.hid (RR.out.bel.trans (BW1.out.mono RR.out.bel.size))
          have OW1 := Lib.hid (own_below RR.out.own BW1.out)
          have BS1 := Lib.hid BL1.out.size
          have KN1 : Hid (out.length ≤ 100000) := Lib.hid (by have := RR.out.len; have := KC.out; have := HL.out; omega)
          clear hV1 BW1
          go_wp2_with (at_builtin; rw [HV1.out]; refine wpList_append_1 rfl (.tmp 38) (.tmp 43) 29 rfl rowAr w.heap.size u5 out.length _ ?g7 OW1.out wr.heap.size (arE x) 50 ?g8 BK1.out rfl (arE_one1 _) KN1.out BS1.out ?_; (case g7 => exact rfl); (case g8 => exact rfl); intro v1 w1 own' hg4 dj; have PU1 := Lib.hid (push_ar OW1.out BL1.out BS1.out own' hg4); clear own' hg4 dj)
          have NX := Lib.hid (CS.out true [x] (.inl ⟨rfl, rfl, rfl⟩) v1 w1 PU1.out.1 PU1.out.2)
          clear PU1 CS
          go_wp2_with fail
          go_roundw
          case rel => exact ⟨k + 1, true, out ++ [x], rfl, by go_num, NX.out⟩
          case measure => simp [intOf]; have := KC.out; omega
        | false =>
          by_cases z : id < x
          · have z' : decide (id < x) = true := decide_eq_true z
            have Z := Lib.hid z
            clear z
            obtain ⟨V1, hV1⟩ : ∃ V, wr.alloc (.cells #[.int .u32 id, .slice none 0 0] 50) = V := ⟨_, rfl⟩
            have HV1 := Lib.hid hV1
            have BW1 : Hid (Below wr.heap.size wr V1) := Lib.hid (by rw [← hV1]; exact (Below.refl _ _).alloc (Nat.le_refl _) _)
            have BK1 : Hid (V1.heap[wr.heap.size]? = some (.cells (arE id).toArray 50 (0, 0))) := Lib.hid (by rw [← hV1]; exact alloc_new _ _)
            have BL1 := Lib.hid (RR.out.bel.trans (BW1.out.mono RR.out.bel.size))
            have OW1 := Lib.hid (own_below RR.out.own BW1.out)
            have BS1 := Lib.hid BL1.out.size
            have KN1 : Hid (out.length ≤ 100000) := Lib.hid (by have := RR.out.len; have := KC.out; have := HL.out; omega)
            clear hV1 BW1
            go_upto_region 10 with (at_builtin; rw [HV1.out]; refine wpList_append_1 rfl (.tmp 33) (.tmp 36) 29 rfl rowAr w.heap.size u5 out.length _ ?g7 OW1.out wr.heap.size (arE id) 50 ?g8 BK1.out rfl (arE_one1 _) KN1.out BS1.out ?_; (case g7 => exact rfl); (case g8 => exact rfl); intro v1 w1 own' hg4 dj; have PU1 := Lib.hid (push_ar OW1.out BL1.out BS1.out own' hg4); clear own' hg4 dj)
            obtain ⟨e0, e1⟩ := HX.out w1 PU1.out.2
            clear d0 d1
            obtain ⟨V2, hV2⟩ : ∃ V, w1.alloc (.cells #[.int .u32 x, .slice none 0 0] 50) = V := ⟨_, rfl⟩
            have HV2 := Lib.hid hV2
            have BW2 : Hid (Below w1.heap.size w1 V2) := Lib.hid (by rw [← hV2]; exact (Below.refl _ _).alloc (Nat.le_refl _) _)
            have BK2 : Hid (V2.heap[w1.heap.size]? = some (.cells (arE x).toArray 50 (0, 0))) := Lib.hid (by rw [← hV2]; exact alloc_new _ _)
            have BL2 := Lib.hid (PU1.out.2.trans (BW2.out.mono PU1.out.2.size))
            have OW2 := Lib.hid (own_below PU1.out.1 BW2.out)
            have BS2 := Lib.hid BL2.out.size
            have KN2 : Hid ((out ++ [id]).length ≤ 100000) := Lib.hid (by have := RR.out.len; have := KC.out; have := HL.out; simp; omega)
            clear hV2 BW2
            go_wp2_with (at_builtin; rw [HV2.out]; refine wpList_append_1 rfl (.tmp 38) (.tmp 43) 29 rfl rowAr w.heap.size v1 (out ++ [id]).length _ ?g7 OW2.out w1.heap.size (arE x) 50 ?g8 BK2.out rfl (arE_one1 _) KN2.out BS2.out ?_; (case g7 => exact rfl); (case g8 => exact rfl); intro v2 w2 own' hg4 dj; have PU2 := Lib.hid (push_ar OW2.out BL2.out BS2.out own' hg4); clear own' hg4 dj)
            have NX := Lib.hid (CS.out true [id, x] (.inr (.inr (.inl ⟨rfl, Q.out, Z.out, rfl, rfl⟩))) v2 w2 (by have := PU2.out.1; simpa using this) PU2.out.2)
            clear PU1 PU2 CS
            go_wp2_with fail
            go_roundw
            case rel => exact ⟨k + 1, true, out ++ [id, x], rfl, by go_num, NX.out⟩
            case measure => simp [intOf]; have := KC.out; omega
          · have z' : decide (id < x) = false := decide_eq_false z
            have Z := Lib.hid z
            clear z
            obtain ⟨V1, hV1⟩ : ∃ V, wr.alloc (.cells #[.int .u32 x, .slice none 0 0] 50) = V := ⟨_, rfl⟩
            have HV1 := Lib.hid hV1
            have BW1 : Hid (Below wr.heap.size wr V1) := Lib.hid (by rw [← hV1]; exact (Below.refl _ _).alloc (Nat.le_refl _) _)
            have BK1 : Hid (V1.heap[wr.heap.size]? = some (.cells (arE x).toArray 50 (0, 0))) := Lib.hid (by rw [← hV1]; exact alloc_new _ _)
            have BL1 := Lib.hid (RR.out.bel.trans (BW1.out.mono RR.out.bel.size))
            have OW1 := Lib.hid (own_below RR.out.own BW1.out)
            have BS1 := Lib.hid BL1.out.size
            have KN1 : Hid (out.length ≤ 100000) := Lib.hid (by have := RR.out.len; have := KC.out; have := HL.out; omega)
            clear hV1 BW1
            go_wp2_with (at_builtin; rw [HV1.out]; refine wpList_append_1 rfl (.tmp 38) (.tmp 43) 29 rfl rowAr w.heap.size u5 out.length _ ?g7 OW1.out wr.heap.size (arE x) 50 ?g8 BK1.out rfl (arE_one1 _) KN1.out BS1.out ?_; (case g7 => exact rfl); (case g8 => exact rfl); intro v1 w1 own' hg4 dj; have PU1 := Lib.hid (push_ar OW1.out BL1.out BS1.out own' hg4); clear own' hg4 dj)
            have NX := Lib.hid (CS.out false [x] (.inr (.inr (.inr ⟨rfl, Q.out, Z.out, rfl, rfl⟩))) v1 w1 PU1.out.1 PU1.out.2)
            clear PU1 CS
            go_wp2_with fail
            go_roundw
            case rel => exact ⟨k + 1, false, out ++ [x], rfl, by go_num, NX.out⟩
            case measure => simp [intOf]; have := KC.out; omega
    · have EQ := Lib.hid RR.out.eq
      have DN : l.drop k = [] := List.drop_eq_nil_of_le (by omega)
      rw [DN] at EQ
      cases d with
      | true =>
        have PO : Hid (InsPost w (Ls.add iLt l id) (.returned u5) wr) := Lib.hid (by
          have e : Ls.add iLt l id = out := by rw [EQ.out]; simp
          rw [e]
          exact ⟨u5, rfl, RR.out.own, RR.out.bel⟩)
        clear EQ DN
        go_wp2_with fail
        go_ret
        exact PO.out
      | false =>
        have EE : Hid (Ls.add iLt l id = out ++ [id]) := Lib.hid (by rw [EQ.out]; simp [Ls.add])
        clear EQ DN
        obtain ⟨V1, hV1⟩ : ∃ V, wr.alloc (.cells #[.int .u32 id, .slice none 0 0] 50) = V := ⟨_, rfl⟩
        have HV1 := Lib.hid hV1
        have BW1 : Hid (Below wr.heap.size wr V1) := Lib.hid (by rw [← hV1]; exact (Below.refl _ _).alloc (Nat.le_refl _) _)
        have BK1 : Hid (V1.heap[wr.heap.size]? = some (.cells (arE id).toArray 50 (0, 0))) := Lib.hid (by rw [← hV1]; exact alloc_new _ _)
        have BL1 := Lib.hid (RR.out.bel.trans (BW1.out.mono RR.out.bel.size))
        have OW1 := Lib.hid (own_below RR.out.own BW1.out)
        have BS1 := Lib.hid BL1.out.size
        have KN1 : Hid (out.length ≤ 100000) := Lib.hid (by have := RR.out.len; have := HL.out; omega)
        clear hV1 BW1
        go_wp2_with (at_builtin; rw [HV1.out]; refine wpList_append_1 rfl (.tmp 47) (.tmp 50) 29 rfl rowAr w.heap.size u5 out.length _ ?g7 OW1.out wr.heap.size (arE id) 50 ?g8 BK1.out rfl (arE_one1 _) KN1.out BS1.out ?_; (case g7 => exact rfl); (case g8 => exact rfl); intro v1 w1 own' hg4 dj; have PU1 := Lib.hid (push_ar OW1.out BL1.out BS1.out own' hg4); clear own' hg4 dj)
        have PO : Hid (InsPost w (Ls.add iLt l id) (.returned v1) w1) := Lib.hid (by
          rw [EE.out]
          exact ⟨v1, rfl, PU1.out.1, PU1.out.2⟩)
        clear PU1 EE
        go_wp2_with fail
        go_ret
        exact PO.out

end Go.Proofs.YtombnejipaoinaaGreat
