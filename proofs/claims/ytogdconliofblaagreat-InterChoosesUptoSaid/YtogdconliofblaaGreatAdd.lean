/-
  routingref32: before, Add, Merge of hops.
-/
import Derived.Test.YtogdconliofblaaGreatMrg
import Derived.Test.YtogdconliofblaaGreatPut
import Derived.Deep.DeepCutAuto
namespace Go.Proofs.YtogdconliofblaaGreat
open Go.RowKit

theorem sl_one3 (x : Ls.Hop) (w : World) : SlV 3 (w.alloc (.cells #[.int .i64 x.iface, .int .u32 x.addr, .int .u32 x.router] 60)) (.slice (some ⟨w.heap.size, 0, none⟩) 1 1) [hopE x] :=
  sl_one (vals := hopE x)

theorem hop_snoc {base : Nat} {W w3 w4 : World} {v v' : Value} {L : List Ls.Hop} {x : Ls.Hop} (hb : base ≤ W.heap.size) (own : HopsOwn base W v L) (h3 : Below W.heap.size W w3)
    (own' : w4.ownsRow base 60 3 v' (L.length + [hopE x].length) ((L.map hopE).flatten ++ [hopE x].flatten)) (hg : w3.grownBy w4 v.ownBlock) : HopsOwn base w4 v' (L ++ [x]) ∧ Below base W w4 := by
  have hB3 : Below base W w3 := h3.mono hb
  refine ⟨?_, hB3.grown hg (Nat.le_trans hb h3.size) (fun k hk => (own.lt k hk).1)⟩
  unfold HopsOwn
  have e : (L ++ [x]).length = L.length + [hopE x].length := by simp
  have e2 : ((L ++ [x]).map hopE).flatten = (L.map hopE).flatten ++ [hopE x].flatten := by simp
  rw [e, e2]; exact own'

set_option maxHeartbeats 1000000 in
theorem before_calls (a b : Ls.Hop) (w : World) : Calls Tryz.prog 139 #[.agg (hopE a).toArray, .agg (hopE b).toArray] w fun e w' => e = .returned (.bool (Ls.hopLt a b)) ∧ Gr w w' := by
  obtain ⟨a1, a2, a3⟩ := a
  obtain ⟨b1, b2, b3⟩ := b
  unfold hopE
  by_cases h1 : a1 = b1
  · subst h1
    by_cases h2 : a2 = b2
    · subst h2
      rw [show Ls.hopLt ⟨a1, a2, a3⟩ ⟨a1, a2, b3⟩ = decide (a3 < b3) from by simp [Ls.hopLt, Ls.lexB]]
      go_enter Tryz.func139, Tryz.ntmps139
      go_wp2_with fail
      go_ret
      exact ⟨rfl, ((Gr.refl _).alloc _).alloc _⟩
    · rw [show Ls.hopLt ⟨a1, a2, a3⟩ ⟨a1, b2, b3⟩ = decide (a2 < b2) from by simp [Ls.hopLt, Ls.lexB, h2]]
      have q : (a2 != b2) = true := by simpa using h2
      have q' : (a2 == b2) = false := by simpa using h2
      go_enter Tryz.func139, Tryz.ntmps139
      go_wp2_with fail
      go_ret
      exact ⟨rfl, ((Gr.refl _).alloc _).alloc _⟩
  · rw [show Ls.hopLt ⟨a1, a2, a3⟩ ⟨b1, b2, b3⟩ = decide (a1 < b1) from by simp [Ls.hopLt, Ls.lexB, h1]]
    have q : (a1 != b1) = true := by simpa using h1
    have q' : (a1 == b1) = false := by simpa using h1
    go_enter Tryz.func139, Tryz.ntmps139
    go_wp2_with fail
    go_ret
    exact ⟨rfl, ((Gr.refl _).alloc _).alloc _⟩

/-- what has been put out behind k hops -/
def AddInv {α : Type} [DecidableEq α] (lt : α → α → Bool) (l : List α) (h : α) (k : Nat) (done : Bool) (out : List α) : Prop :=
  (done = true → out ++ l.drop k = Ls.add lt l h) ∧ (done = false → out = l.take k ∧ Ls.add lt l h = l.take k ++ Ls.add lt (l.drop k) h) ∧ out.length ≤ k + 1
section
variable {α : Type} [DecidableEq α] {lt : α → α → Bool} {l : List α} {h : α} {k : Nat}
theorem AddInv.zero : AddInv lt l h 0 false [] := ⟨(fun e => by cases e), fun _ => ⟨rfl, rfl⟩, by simp⟩
theorem AddInv.a {out : List α} (I : AddInv lt l h k true out) (c : k < l.length) : AddInv lt l h (k + 1) true (out ++ [l[k]]) := by
  refine ⟨fun _ => ?_, fun e => (by cases e), by have := I.2.2; simp; omega⟩
  have := I.1 rfl
  rw [List.drop_eq_getElem_cons c] at this
  rw [List.append_assoc]; exact this
theorem add_cons (x : α) (m : List α) : Ls.add lt (x :: m) h = if x = h then x :: m else if lt h x then h :: x :: m else x :: Ls.add lt m h := rfl
theorem AddInv.b {out : List α} (I : AddInv lt l h k false out) (c : k < l.length) (e : l[k] = h) : AddInv lt l h (k + 1) true (out ++ [l[k]]) := by
  refine ⟨fun _ => ?_, fun e => (by cases e), by have := I.2.2; simp; omega⟩
  obtain ⟨h1, h2⟩ := I.2.1 rfl
  rw [h2, List.drop_eq_getElem_cons c, add_cons, if_pos e, h1, List.append_assoc]; rfl
theorem AddInv.c {out : List α} (I : AddInv lt l h k false out) (c : k < l.length) (e : ¬ l[k] = h) (hl : lt h l[k] = true) : AddInv lt l h (k + 1) true ((out ++ [h]) ++ [l[k]]) := by
  obtain ⟨h1, h2⟩ := I.2.1 rfl
  refine ⟨fun _ => ?_, fun e => (by cases e), ?_⟩
  · rw [h2, List.drop_eq_getElem_cons c, add_cons, if_neg e, if_pos hl, h1, List.append_assoc, List.append_assoc]; rfl
  · rw [h1]; simp; omega
theorem AddInv.d {out : List α} (I : AddInv lt l h k false out) (c : k < l.length) (e : ¬ l[k] = h) (hl : lt h l[k] = false) : AddInv lt l h (k + 1) false (out ++ [l[k]]) := by
  obtain ⟨h1, h2⟩ := I.2.1 rfl
  refine ⟨fun e => (by cases e), fun _ => ⟨?_, ?_⟩, by have := I.2.2; simp; omega⟩
  · rw [h1, List.take_succ_eq_append_getElem c]
  · rw [h2, List.take_succ_eq_append_getElem c, List.drop_eq_getElem_cons c, add_cons, if_neg e, if_neg (by simp [hl]), List.append_assoc]; rfl
theorem AddInv.end1 {out : List α} (I : AddInv lt l h k true out) (c : ¬ k < l.length) : out = Ls.add lt l h := by
  have := I.1 rfl
  rwa [List.drop_eq_nil_of_le (by omega), List.append_nil] at this
theorem AddInv.end2 {out : List α} (I : AddInv lt l h k false out) (c : ¬ k < l.length) : out ++ [h] = Ls.add lt l h := by
  obtain ⟨h1, h2⟩ := I.2.1 rfl
  rw [h2, List.drop_eq_nil_of_le (by omega), h1]; rfl
end

structure AddRel (base : Nat) (W0 : World) (l : List Ls.Hop) (h : Ls.Hop) (k : Nat) (done : Bool) (out : List Ls.Hop) (v : Value) (wr : World) : Prop where
  own : HopsOwn base wr v out
  bel : Below base W0 wr
  hk : k ≤ l.length
  inv : AddInv Ls.hopLt l h k done out

theorem hown_base {base base' : Nat} {w : World} {v : Value} {l : List Ls.Hop} (h : HopsOwn base w v l) (hb : base' ≤ base) : HopsOwn base' w v l := by
  refine ⟨h.1, ?_⟩
  rcases h.2 with h | ⟨g, cap, cur, h1, h2, h3⟩
  · exact .inl h
  · exact .inr ⟨g, cap, cur, h1, Nat.le_trans hb h2, h3⟩

theorem hopAt_eq {l : List Ls.Hop} {k : Nat} (c : k < l.length) : l.getD k default = l[k] := by
  rw [List.getD_eq_getElem?_getD, List.getElem?_eq_getElem c]; rfl

set_option maxHeartbeats 16000000 in
set_option maxRecDepth 100000 in
theorem add_calls (w : World) (v : Value) (l : List Ls.Hop) (h : Ls.Hop) (hl : HopsAt w v l) (hn : (l.length + 2) * 16 ≤ 140737488355328) : Calls Tryz.prog 97 #[v, .agg (hopE h).toArray] w (MrgPost w (Ls.add Ls.hopLt l h)) := by
  obtain ⟨i0, hi0, hz0, hz1, hz2⟩ := info_parts Tryz.infoHop
  have HI0 := Lib.hid hi0
  have HZ0 := Lib.hid hz0
  have HZ1 := Lib.hid hz1
  have HZ2 := Lib.hid hz2
  obtain ⟨ad, cap, rfl, hcap, hml, -, hc⟩ := hl.get
  have hlen : l.length ≤ 9223372036854775807 := by unfold maxLen at hml; omega
  have HC := Lib.hid hc
  have HN := Lib.hid hn
  have mixed : Tryz.prog.follows .mixedOrders = true := by kernel_rfl
  have EQ := eqHop
  obtain ⟨hi, ha, hr⟩ := h
  clear hi0 hz0 hz1 hz2 hl hc hn hcap hml
  obtain ⟨base, hbase⟩ : ∃ base, base = w.heap.size + 1 := ⟨_, rfl⟩
  obtain ⟨W, hW⟩ : ∃ W, (w.alloc (.cells #[.int .i64 hi, .int .u32 ha, .int .u32 hr] 60)).alloc (.cells #[] 60) = W := ⟨_, rfl⟩
  have hs : W.heap.size = w.heap.size + 2 := by rw [← hW]; simp
  have B0 : Below w.heap.size w W := by rw [← hW]; exact ((Below.refl _ _).alloc (Nat.le_refl _) _).alloc (by simp) _
  have bx : W.heap[w.heap.size]? = some (.cells #[.int .i64 hi, .int .u32 ha, .int .u32 hr] 60 (0, 0)) := by rw [← hW]; exact (alloc_get _ _ _ (by simp)).trans (alloc_new _ _)
  have O0 : HopsOwn base W (.slice (some ⟨w.heap.size + 1, 0, none⟩) 0 0) [] := by
    rw [← hW, hbase]
    have := World.ownsRow_made (size := 3) (e := 60) (base := w.heap.size + 1) (w.alloc (.cells #[.int .i64 hi, .int .u32 ha, .int .u32 hr] 60)) #[] 0 (by simp) (by unfold maxLen; omega) rfl
    simpa [HopsOwn] using this
  have R0 : Hid (AddRel base W l ⟨hi, ha, hr⟩ 0 false [] (.slice (some ⟨w.heap.size + 1, 0, none⟩) 0 0) W) := Lib.hid ⟨O0, Below.refl _ _, Nat.zero_le _, AddInv.zero⟩
  have HW := Lib.hid hW
  have HB0 := Lib.hid B0
  have HBX := Lib.hid bx
  have HS := Lib.hid hs
  have HBA := Lib.hid hbase
  clear hW B0 bx hs O0 hbase
  simp only [hopE]
  go_enter Tryz.func97, Tryz.ntmps97
  go_wp2_with fail
  rw [HW.out]
  go_loopw [5, 6, 7] (fun o d i wr => ∃ (k : Nat) (done : Bool) (out : List Ls.Hop), d = .bool done ∧ i = .int .i64 k ∧ AddRel base W l ⟨hi, ha, hr⟩ k done out o wr) (fun _ _ i _ => l.length - (intOf i).toNat)
  case atStart => exact ⟨0, false, [], rfl, rfl, R0.out⟩
  case round =>
    clear R0
    obtain ⟨k, done, out, rfl, rfl, R⟩ := hrel
    have hk := R.hk
    have RR := Lib.hid R
    have HBOX : Hid (wr.heap[w.heap.size]? = some (.cells #[.int .i64 hi, .int .u32 ha, .int .u32 hr] 60 (0, 0))) := Lib.hid ((R.bel.block _ (by have := HBA.out; omega)).trans HBX.out)
    have HBW : Hid (base ≤ wr.heap.size) := Lib.hid (by have := R.bel.size; have := HS.out; have := HBA.out; omega)
    have LEN : Hid (out.length + 2 ≤ l.length + 3) := Lib.hid (by have := R.inv.2.2; omega)
    clear R
    by_cases c : k < l.length
    · obtain ⟨b, off, rfl, hb0, hcc⟩ := HC.out (by omega)
      have hbb : b < base := by have := HBA.out; omega
      obtain ⟨d0, d1, d2⟩ := hcc k c
      have up : ∀ {j u}, w.cell? ⟨b, j, none⟩ = some u → wr.cell? ⟨b, j, none⟩ = some u := fun {j u} h => (World.cell?_of_block (w := w) (w' := wr) (a := ⟨b, j, none⟩) ((RR.out.bel.block b hbb).trans (HB0.out.block b hb0))).trans h
      have d0 := up d0
      have d1 := up d1
      have d2 := up d2
      have IA := Lib.hid (fun (e : done = true) => AddInv.a (e ▸ RR.out.inv) c)
      have IB := Lib.hid (fun (e : done = false) (e2 : l[k] = ⟨hi, ha, hr⟩) => AddInv.b (e ▸ RR.out.inv) c e2)
      have IC := Lib.hid (fun (e : done = false) (e2 : ¬ l[k] = ⟨hi, ha, hr⟩) (e3 : Ls.hopLt ⟨hi, ha, hr⟩ l[k] = true) => AddInv.c (e ▸ RR.out.inv) c e2 e3)
      have ID := Lib.hid (fun (e : done = false) (e2 : ¬ l[k] = ⟨hi, ha, hr⟩) (e3 : Ls.hopLt ⟨hi, ha, hr⟩ l[k] = false) => AddInv.d (e ▸ RR.out.inv) c e2 e3)
      have LEN : Hid (out.length ≤ l.length) := Lib.hid (by have := RR.out.inv.2.2; omega)
      have i0' : (0 : Int) ≤ (k : Int) := by omega
      have i1' : (k : Int) < (l.length : Int) := by omega
      have k3' : ((k : Int)).toNat = k := by omega
      clear hcc up
      generalize l[k] = x at *
      obtain ⟨xi, xa, xr⟩ := x
      simp only at d0 d1 d2
      have p0 := blk_cell (i := 0) HBOX.out rfl
      have p1 := blk_cell (i := 1) HBOX.out rfl
      have p2 := blk_cell (i := 2) HBOX.out rfl
      have EQ1 := fun W => EQ ⟨xi, xa, xr⟩ ⟨hi, ha, hr⟩ W
      clear EQ
      have D0 := Lib.hid d0
      have D1 := Lib.hid d1
      have D2 := Lib.hid d2
      have P0 := Lib.hid p0
      have P1 := Lib.hid p1
      have P2 := Lib.hid p2
      have BC := Lib.hid (fun W => (before_calls ⟨hi, ha, hr⟩ ⟨xi, xa, xr⟩ W).mono fun _ _ h => (⟨h.1, h.2.grow⟩ : _ ∧ ∃ q os, _ = Go.Sort.grow (World.drewN W q) os))
      simp only [hopE] at BC
      obtain ⟨VV, hVV⟩ : ∃ VV, VV = u5 := ⟨_, rfl⟩
      have HVV := Lib.hid hVV
      subst hVV
      cases done with
      | true =>
        have IN := Lib.hid (IA.out rfl)
        clear IA IB IC ID
        by_cases e : (⟨xi, xa, xr⟩ : Ls.Hop) = ⟨hi, ha, hr⟩
        · have de : decide ((⟨xi, xa, xr⟩ : Ls.Hop) = ⟨hi, ha, hr⟩) = true := by simpa using e
          rw [de] at EQ1
          clear de e
          go_wp2_with fail
          go_quiet (fail)
          generalize hW1 : wr.drewN _ = W1
          have GG : Hid (Gr wr W1) := Lib.hid (hW1 ▸ (Gr.refl _).drewN _)
          clear hW1
          clear d0 d1 d2 p0 p1 p2
          have d0 := bcell GG.out.b D0.out
          have d1 := bcell GG.out.b D1.out
          have d2 := bcell GG.out.b D2.out
          have p0 := bcell GG.out.b P0.out
          have p1 := bcell GG.out.b P1.out
          have p2 := bcell GG.out.b P2.out
          go_wp2_with fail
          go_quiet (fail)
          generalize hW2 : W1.drewN _ = W2
          have G2 : Hid (Gr W1 W2) := Lib.hid (hW2 ▸ (Gr.refl _).drewN _)
          clear hW2
          have GG : Hid (Gr wr W2) := Lib.hid (GG.out.trans G2.out)
          clear d0 d1 d2 p0 p1 p2
          have d0 := bcell GG.out.b D0.out
          have d1 := bcell GG.out.b D1.out
          have d2 := bcell GG.out.b D2.out
          have p0 := bcell GG.out.b P0.out
          have p1 := bcell GG.out.b P1.out
          have p2 := bcell GG.out.b P2.out
          have OW2 : Hid (HopsOwn base W2 VV out) := Lib.hid (RR.out.own.below GG.out.b)
          have BZ : Hid (base ≤ W2.heap.size) := Lib.hid (Nat.le_trans HBW.out GG.out.b.size)
          have BB : Hid (Below base W W2) := Lib.hid (RR.out.bel.trans (GG.out.b.mono HBW.out))
          have B3 : Below W2.heap.size W2 (W2.alloc (.cells #[.int .i64 xi, .int .u32 xa, .int .u32 xr] 60)) := (Below.refl _ _).alloc (Nat.le_refl _) _
          have OW := Lib.hid (HopsOwn.below OW2.out B3)
          have SL : Hid (SlV 3 (W2.alloc (.cells #[.int .i64 xi, .int .u32 xa, .int .u32 xr] 60)) (.slice (some ⟨W2.heap.size, 0, none⟩) 1 1) [hopE ⟨xi, xa, xr⟩]) := Lib.hid (sl_one3 ⟨xi, xa, xr⟩ W2)
          have K1 : Hid ((out).length + [hopE ⟨xi, xa, xr⟩].length ≤ maxLen) := Lib.hid (by have := LEN.out; have := HN.out; simp only [List.length_singleton]; unfold maxLen; omega)
          have K2 : Hid (((out).length + [hopE ⟨xi, xa, xr⟩].length) * 16 ≤ 140737488355328) := Lib.hid (by have := LEN.out; have := HN.out; simp only [List.length_singleton]; omega)
          have BS : Hid (base ≤ (W2.alloc (.cells #[.int .i64 xi, .int .u32 xa, .int .u32 xr] 60)).heap.size) := Lib.hid (Nat.le_trans BZ.out B3.size)
          have STEP := Lib.hid (fun v' w4 own' hg4 => hop_snoc (v' := v') (w4 := w4) (x := ⟨xi, xa, xr⟩) BZ.out OW2.out B3 own' hg4)
          clear B3
          go_wp2_with (at_builtin; refine wpList_append_sl rfl _ _ _ rfl base 60 i0 _ 3 16 Tryz.underlying48 HI0.out HZ0.out HZ1.out HZ2.out rfl (by decide) _ (out).length _ rfl OW.out _ [hopE ⟨xi, xa, xr⟩] rfl SL.out (hopE_len [_]) (hopE_one [_]) K1.out K2.out BS.out ?_; intro v4 w4 own' hg4; have NX := Lib.hid (STEP.out v4 w4 own' hg4); clear own' hg4 STEP OW SL K1 K2 BS; skip)
          have RN : Hid (AddRel base W l ⟨hi, ha, hr⟩ (k + 1) true (out ++ [⟨xi, xa, xr⟩]) v4 w4) := Lib.hid ⟨NX.out.1, BB.out.trans NX.out.2, by omega, IN.out⟩
          go_roundw
          case rel => exact ⟨k + 1, true, _, rfl, by go_num, RN.out⟩
          case measure => simp [intOf]; omega
        · have de : decide ((⟨xi, xa, xr⟩ : Ls.Hop) = ⟨hi, ha, hr⟩) = false := by simpa using e
          rw [de] at EQ1
          clear de e
          go_wp2_with fail
          go_quiet (fail)
          generalize hW1 : wr.drewN _ = W1
          have GG : Hid (Gr wr W1) := Lib.hid (hW1 ▸ (Gr.refl _).drewN _)
          clear hW1
          clear d0 d1 d2 p0 p1 p2
          have d0 := bcell GG.out.b D0.out
          have d1 := bcell GG.out.b D1.out
          have d2 := bcell GG.out.b D2.out
          have p0 := bcell GG.out.b P0.out
          have p1 := bcell GG.out.b P1.out
          have p2 := bcell GG.out.b P2.out
          go_wp2_with fail
          go_quiet (fail)
          generalize hW2 : W1.drewN _ = W2
          have G2 : Hid (Gr W1 W2) := Lib.hid (hW2 ▸ (Gr.refl _).drewN _)
          clear hW2
          have GG : Hid (Gr wr W2) := Lib.hid (GG.out.trans G2.out)
          clear d0 d1 d2 p0 p1 p2
          have d0 := bcell GG.out.b D0.out
          have d1 := bcell GG.out.b D1.out
          have d2 := bcell GG.out.b D2.out
          have p0 := bcell GG.out.b P0.out
          have p1 := bcell GG.out.b P1.out
          have p2 := bcell GG.out.b P2.out
          have OW2 : Hid (HopsOwn base W2 VV out) := Lib.hid (RR.out.own.below GG.out.b)
          have BZ : Hid (base ≤ W2.heap.size) := Lib.hid (Nat.le_trans HBW.out GG.out.b.size)
          have BB : Hid (Below base W W2) := Lib.hid (RR.out.bel.trans (GG.out.b.mono HBW.out))
          have B3 : Below W2.heap.size W2 (W2.alloc (.cells #[.int .i64 xi, .int .u32 xa, .int .u32 xr] 60)) := (Below.refl _ _).alloc (Nat.le_refl _) _
          have OW := Lib.hid (HopsOwn.below OW2.out B3)
          have SL : Hid (SlV 3 (W2.alloc (.cells #[.int .i64 xi, .int .u32 xa, .int .u32 xr] 60)) (.slice (some ⟨W2.heap.size, 0, none⟩) 1 1) [hopE ⟨xi, xa, xr⟩]) := Lib.hid (sl_one3 ⟨xi, xa, xr⟩ W2)
          have K1 : Hid ((out).length + [hopE ⟨xi, xa, xr⟩].length ≤ maxLen) := Lib.hid (by have := LEN.out; have := HN.out; simp only [List.length_singleton]; unfold maxLen; omega)
          have K2 : Hid (((out).length + [hopE ⟨xi, xa, xr⟩].length) * 16 ≤ 140737488355328) := Lib.hid (by have := LEN.out; have := HN.out; simp only [List.length_singleton]; omega)
          have BS : Hid (base ≤ (W2.alloc (.cells #[.int .i64 xi, .int .u32 xa, .int .u32 xr] 60)).heap.size) := Lib.hid (Nat.le_trans BZ.out B3.size)
          have STEP := Lib.hid (fun v' w4 own' hg4 => hop_snoc (v' := v') (w4 := w4) (x := ⟨xi, xa, xr⟩) BZ.out OW2.out B3 own' hg4)
          clear B3
          go_wp2_with (at_builtin; refine wpList_append_sl rfl _ _ _ rfl base 60 i0 _ 3 16 Tryz.underlying48 HI0.out HZ0.out HZ1.out HZ2.out rfl (by decide) _ (out).length _ rfl OW.out _ [hopE ⟨xi, xa, xr⟩] rfl SL.out (hopE_len [_]) (hopE_one [_]) K1.out K2.out BS.out ?_; intro v4 w4 own' hg4; have NX := Lib.hid (STEP.out v4 w4 own' hg4); clear own' hg4 STEP OW SL K1 K2 BS; skip)
          have RN : Hid (AddRel base W l ⟨hi, ha, hr⟩ (k + 1) true (out ++ [⟨xi, xa, xr⟩]) v4 w4) := Lib.hid ⟨NX.out.1, BB.out.trans NX.out.2, by omega, IN.out⟩
          go_roundw
          case rel => exact ⟨k + 1, true, _, rfl, by go_num, RN.out⟩
          case measure => simp [intOf]; omega
      | false =>
        by_cases e : (⟨xi, xa, xr⟩ : Ls.Hop) = ⟨hi, ha, hr⟩
        · have IN := Lib.hid (IB.out rfl e)
          clear IA IB IC ID
          have de : decide ((⟨xi, xa, xr⟩ : Ls.Hop) = ⟨hi, ha, hr⟩) = true := by simpa using e
          rw [de] at EQ1
          clear de e
          go_wp2_with fail
          go_quiet (fail)
          generalize hW1 : wr.drewN _ = W1
          have GG : Hid (Gr wr W1) := Lib.hid (hW1 ▸ (Gr.refl _).drewN _)
          clear hW1
          clear d0 d1 d2 p0 p1 p2
          have d0 := bcell GG.out.b D0.out
          have d1 := bcell GG.out.b D1.out
          have d2 := bcell GG.out.b D2.out
          have p0 := bcell GG.out.b P0.out
          have p1 := bcell GG.out.b P1.out
          have p2 := bcell GG.out.b P2.out
          go_wp2_with fail
          go_quiet (fail)
          generalize hW2 : W1.drewN _ = W2
          have G2 : Hid (Gr W1 W2) := Lib.hid (hW2 ▸ (Gr.refl _).drewN _)
          clear hW2
          have GG : Hid (Gr wr W2) := Lib.hid (GG.out.trans G2.out)
          clear d0 d1 d2 p0 p1 p2
          have d0 := bcell GG.out.b D0.out
          have d1 := bcell GG.out.b D1.out
          have d2 := bcell GG.out.b D2.out
          have p0 := bcell GG.out.b P0.out
          have p1 := bcell GG.out.b P1.out
          have p2 := bcell GG.out.b P2.out
          have OW2 : Hid (HopsOwn base W2 VV out) := Lib.hid (RR.out.own.below GG.out.b)
          have BZ : Hid (base ≤ W2.heap.size) := Lib.hid (Nat.le_trans HBW.out GG.out.b.size)
          have BB : Hid (Below base W W2) := Lib.hid (RR.out.bel.trans (GG.out.b.mono HBW.out))
          have B3 : Below W2.heap.size W2 (W2.alloc (.cells #[.int .i64 xi, .int .u32 xa, .int .u32 xr] 60)) := (Below.refl _ _).alloc (Nat.le_refl _) _
          have OW := Lib.hid (HopsOwn.below OW2.out B3)
          have SL : Hid (SlV 3 (W2.alloc (.cells #[.int .i64 xi, .int .u32 xa, .int .u32 xr] 60)) (.slice (some ⟨W2.heap.size, 0, none⟩) 1 1) [hopE ⟨xi, xa, xr⟩]) := Lib.hid (sl_one3 ⟨xi, xa, xr⟩ W2)
          have K1 : Hid ((out).length + [hopE ⟨xi, xa, xr⟩].length ≤ maxLen) := Lib.hid (by have := LEN.out; have := HN.out; simp only [List.length_singleton]; unfold maxLen; omega)
          have K2 : Hid (((out).length + [hopE ⟨xi, xa, xr⟩].length) * 16 ≤ 140737488355328) := Lib.hid (by have := LEN.out; have := HN.out; simp only [List.length_singleton]; omega)
          have BS : Hid (base ≤ (W2.alloc (.cells #[.int .i64 xi, .int .u32 xa, .int .u32 xr] 60)).heap.size) := Lib.hid (Nat.le_trans BZ.out B3.size)
          have STEP := Lib.hid (fun v' w4 own' hg4 => hop_snoc (v' := v') (w4 := w4) (x := ⟨xi, xa, xr⟩) BZ.out OW2.out B3 own' hg4)
          clear B3
          go_wp2_with (at_builtin; refine wpList_append_sl rfl _ _ _ rfl base 60 i0 _ 3 16 Tryz.underlying48 HI0.out HZ0.out HZ1.out HZ2.out rfl (by decide) _ (out).length _ rfl OW.out _ [hopE ⟨xi, xa, xr⟩] rfl SL.out (hopE_len [_]) (hopE_one [_]) K1.out K2.out BS.out ?_; intro v4 w4 own' hg4; have NX := Lib.hid (STEP.out v4 w4 own' hg4); clear own' hg4 STEP OW SL K1 K2 BS; skip)
          have RN : Hid (AddRel base W l ⟨hi, ha, hr⟩ (k + 1) true (out ++ [⟨xi, xa, xr⟩]) v4 w4) := Lib.hid ⟨NX.out.1, BB.out.trans NX.out.2, by omega, IN.out⟩
          go_roundw
          case rel => exact ⟨k + 1, true, _, rfl, by go_num, RN.out⟩
          case measure => simp [intOf]; omega
        · have de : decide ((⟨xi, xa, xr⟩ : Ls.Hop) = ⟨hi, ha, hr⟩) = false := by simpa using e
          rw [de] at EQ1
          cases hlt : Ls.hopLt ⟨hi, ha, hr⟩ ⟨xi, xa, xr⟩ with
          | true =>
            have IN := Lib.hid (IC.out rfl e hlt)
            clear IA IB IC ID
            rw [hlt] at BC
            clear de e hlt
            go_wp2_with fail
            go_quiet (fail)
            generalize hW1 : wr.drewN _ = W1
            have GG : Hid (Gr wr W1) := Lib.hid (hW1 ▸ (Gr.refl _).drewN _)
            clear hW1
            clear d0 d1 d2 p0 p1 p2
            have d0 := bcell GG.out.b D0.out
            have d1 := bcell GG.out.b D1.out
            have d2 := bcell GG.out.b D2.out
            have p0 := bcell GG.out.b P0.out
            have p1 := bcell GG.out.b P1.out
            have p2 := bcell GG.out.b P2.out
            have y0 : ∀ n os, (Go.Sort.grow (W1.drewN n) os).cell? ⟨b, off + k * 3, none⟩ = some (.int .i64 xi) := cell_grown (World.block_lt_of_cell? _ _ d0) d0
            have y1 : ∀ n os, (Go.Sort.grow (W1.drewN n) os).cell? ⟨b, off + k * 3 + 1, none⟩ = some (.int .u32 xa) := cell_grown (World.block_lt_of_cell? _ _ d1) d1
            have y2 : ∀ n os, (Go.Sort.grow (W1.drewN n) os).cell? ⟨b, off + k * 3 + 2, none⟩ = some (.int .u32 xr) := cell_grown (World.block_lt_of_cell? _ _ d2) d2
            have z0 : ∀ n os, (Go.Sort.grow (W1.drewN n) os).cell? ⟨w.heap.size, 0, none⟩ = some (.int .i64 hi) := cell_grown (World.block_lt_of_cell? _ _ p0) p0
            have z1 : ∀ n os, (Go.Sort.grow (W1.drewN n) os).cell? ⟨w.heap.size, 1, none⟩ = some (.int .u32 ha) := cell_grown (World.block_lt_of_cell? _ _ p1) p1
            have z2 : ∀ n os, (Go.Sort.grow (W1.drewN n) os).cell? ⟨w.heap.size, 2, none⟩ = some (.int .u32 hr) := cell_grown (World.block_lt_of_cell? _ _ p2) p2
            go_wp2_with fail
            refine wp_region_quiet_grown (by assumption) (by kernel_rfl) ?_
            repeat (go_big_quiet_step ((go_at_call 139; with_reducible exact Calls.grown_of (BC.out _))))
            refine wpQuiet_nil ?_
            intro _ hw'
            obtain ⟨⟨nq, osq⟩, hw''⟩ := hw'
            subst hw''
            generalize hW2 : Go.Sort.grow (W1.drewN nq) osq = W2
            have G2 : Hid (Gr W1 W2) := Lib.hid (hW2 ▸ Gr.of_grow nq osq)
            clear hW2 y0 y1 y2 z0 z1 z2
            have GG : Hid (Gr wr W2) := Lib.hid (GG.out.trans G2.out)
            clear d0 d1 d2 p0 p1 p2
            have d0 := bcell GG.out.b D0.out
            have d1 := bcell GG.out.b D1.out
            have d2 := bcell GG.out.b D2.out
            have p0 := bcell GG.out.b P0.out
            have p1 := bcell GG.out.b P1.out
            have p2 := bcell GG.out.b P2.out
            have OW2 : Hid (HopsOwn base W2 VV out) := Lib.hid (RR.out.own.below GG.out.b)
            have BZ : Hid (base ≤ W2.heap.size) := Lib.hid (Nat.le_trans HBW.out GG.out.b.size)
            have BB : Hid (Below base W W2) := Lib.hid (RR.out.bel.trans (GG.out.b.mono HBW.out))
            have B3 : Below W2.heap.size W2 (W2.alloc (.cells #[.int .i64 hi, .int .u32 ha, .int .u32 hr] 60)) := (Below.refl _ _).alloc (Nat.le_refl _) _
            have OW := Lib.hid (HopsOwn.below OW2.out B3)
            have SL : Hid (SlV 3 (W2.alloc (.cells #[.int .i64 hi, .int .u32 ha, .int .u32 hr] 60)) (.slice (some ⟨W2.heap.size, 0, none⟩) 1 1) [hopE ⟨hi, ha, hr⟩]) := Lib.hid (sl_one3 ⟨hi, ha, hr⟩ W2)
            have K1 : Hid ((out).length + [hopE ⟨hi, ha, hr⟩].length ≤ maxLen) := Lib.hid (by have := LEN.out; have := HN.out; simp only [List.length_singleton]; unfold maxLen; omega)
            have K2 : Hid (((out).length + [hopE ⟨hi, ha, hr⟩].length) * 16 ≤ 140737488355328) := Lib.hid (by have := LEN.out; have := HN.out; simp only [List.length_singleton]; omega)
            have BS : Hid (base ≤ (W2.alloc (.cells #[.int .i64 hi, .int .u32 ha, .int .u32 hr] 60)).heap.size) := Lib.hid (Nat.le_trans BZ.out B3.size)
            have STEP := Lib.hid (fun v' w4 own' hg4 => hop_snoc (v' := v') (w4 := w4) (x := ⟨hi, ha, hr⟩) BZ.out OW2.out B3 own' hg4)
            clear B3
            go_upto_region 11 with (at_builtin; refine wpList_append_sl rfl _ _ _ rfl base 60 i0 _ 3 16 Tryz.underlying48 HI0.out HZ0.out HZ1.out HZ2.out rfl (by decide) _ (out).length _ rfl OW.out _ [hopE ⟨hi, ha, hr⟩] rfl SL.out (hopE_len [_]) (hopE_one [_]) K1.out K2.out BS.out ?_; intro v3 w3 own' hg4; have NX := Lib.hid (STEP.out v3 w3 own' hg4); clear own' hg4 STEP OW SL K1 K2 BS; skip)
            have O3 : Hid (HopsOwn base w3 v3 (out ++ [(⟨hi, ha, hr⟩ : Ls.Hop)])) := Lib.hid NX.out.1
            have BB3 : Hid (Below base W w3) := Lib.hid (BB.out.trans NX.out.2)
            have BZ3 : Hid (base ≤ w3.heap.size) := Lib.hid (Nat.le_trans BZ.out NX.out.2.size)
            have d0 := (World.cell?_of_block (w := W2) (w' := w3) (a := ⟨b, off + k * 3, none⟩) (NX.out.2.block b hbb)).trans d0
            have d1 := (World.cell?_of_block (w := W2) (w' := w3) (a := ⟨b, off + k * 3 + 1, none⟩) (NX.out.2.block b hbb)).trans d1
            have d2 := (World.cell?_of_block (w := W2) (w' := w3) (a := ⟨b, off + k * 3 + 2, none⟩) (NX.out.2.block b hbb)).trans d2
            clear NX p0 p1 p2
            have B3 : Below w3.heap.size w3 (w3.alloc (.cells #[.int .i64 xi, .int .u32 xa, .int .u32 xr] 60)) := (Below.refl _ _).alloc (Nat.le_refl _) _
            have OW := Lib.hid (HopsOwn.below O3.out B3)
            have SL : Hid (SlV 3 (w3.alloc (.cells #[.int .i64 xi, .int .u32 xa, .int .u32 xr] 60)) (.slice (some ⟨w3.heap.size, 0, none⟩) 1 1) [hopE ⟨xi, xa, xr⟩]) := Lib.hid (sl_one3 ⟨xi, xa, xr⟩ w3)
            have K1 : Hid ((out ++ [(⟨hi, ha, hr⟩ : Ls.Hop)]).length + [hopE ⟨xi, xa, xr⟩].length ≤ maxLen) := Lib.hid (by have := LEN.out; have := HN.out; simp only [List.length_singleton, List.length_append]; unfold maxLen; omega)
            have K2 : Hid (((out ++ [(⟨hi, ha, hr⟩ : Ls.Hop)]).length + [hopE ⟨xi, xa, xr⟩].length) * 16 ≤ 140737488355328) := Lib.hid (by have := LEN.out; have := HN.out; simp only [List.length_singleton, List.length_append]; omega)
            have BS : Hid (base ≤ (w3.alloc (.cells #[.int .i64 xi, .int .u32 xa, .int .u32 xr] 60)).heap.size) := Lib.hid (Nat.le_trans BZ3.out B3.size)
            have STEP := Lib.hid (fun v' w4 own' hg4 => hop_snoc (v' := v') (w4 := w4) (x := ⟨xi, xa, xr⟩) BZ3.out O3.out B3 own' hg4)
            clear B3
            go_wp2_with (at_builtin; refine wpList_append_sl rfl _ _ _ rfl base 60 i0 _ 3 16 Tryz.underlying48 HI0.out HZ0.out HZ1.out HZ2.out rfl (by decide) _ (out ++ [(⟨hi, ha, hr⟩ : Ls.Hop)]).length _ rfl OW.out _ [hopE ⟨xi, xa, xr⟩] rfl SL.out (hopE_len [_]) (hopE_one [_]) K1.out K2.out BS.out ?_; intro v4 w4 own' hg4; have NX := Lib.hid (STEP.out v4 w4 own' hg4); clear own' hg4 STEP OW SL K1 K2 BS; skip)
            have RN : Hid (AddRel base W l ⟨hi, ha, hr⟩ (k + 1) true (out ++ [(⟨hi, ha, hr⟩ : Ls.Hop)] ++ [⟨xi, xa, xr⟩]) v4 w4) := Lib.hid ⟨NX.out.1, BB3.out.trans NX.out.2, by omega, IN.out⟩
            go_roundw
            case rel => exact ⟨k + 1, true, _, rfl, by go_num, RN.out⟩
            case measure => simp [intOf]; omega
          | false =>
            have IN := Lib.hid (ID.out rfl e hlt)
            clear IA IB IC ID
            rw [hlt] at BC
            clear de e hlt
            go_wp2_with fail
            go_quiet (fail)
            generalize hW1 : wr.drewN _ = W1
            have GG : Hid (Gr wr W1) := Lib.hid (hW1 ▸ (Gr.refl _).drewN _)
            clear hW1
            clear d0 d1 d2 p0 p1 p2
            have d0 := bcell GG.out.b D0.out
            have d1 := bcell GG.out.b D1.out
            have d2 := bcell GG.out.b D2.out
            have p0 := bcell GG.out.b P0.out
            have p1 := bcell GG.out.b P1.out
            have p2 := bcell GG.out.b P2.out
            have y0 : ∀ n os, (Go.Sort.grow (W1.drewN n) os).cell? ⟨b, off + k * 3, none⟩ = some (.int .i64 xi) := cell_grown (World.block_lt_of_cell? _ _ d0) d0
            have y1 : ∀ n os, (Go.Sort.grow (W1.drewN n) os).cell? ⟨b, off + k * 3 + 1, none⟩ = some (.int .u32 xa) := cell_grown (World.block_lt_of_cell? _ _ d1) d1
            have y2 : ∀ n os, (Go.Sort.grow (W1.drewN n) os).cell? ⟨b, off + k * 3 + 2, none⟩ = some (.int .u32 xr) := cell_grown (World.block_lt_of_cell? _ _ d2) d2
            have z0 : ∀ n os, (Go.Sort.grow (W1.drewN n) os).cell? ⟨w.heap.size, 0, none⟩ = some (.int .i64 hi) := cell_grown (World.block_lt_of_cell? _ _ p0) p0
            have z1 : ∀ n os, (Go.Sort.grow (W1.drewN n) os).cell? ⟨w.heap.size, 1, none⟩ = some (.int .u32 ha) := cell_grown (World.block_lt_of_cell? _ _ p1) p1
            have z2 : ∀ n os, (Go.Sort.grow (W1.drewN n) os).cell? ⟨w.heap.size, 2, none⟩ = some (.int .u32 hr) := cell_grown (World.block_lt_of_cell? _ _ p2) p2
            go_wp2_with fail
            refine wp_region_quiet_grown (by assumption) (by kernel_rfl) ?_
            repeat (go_big_quiet_step ((go_at_call 139; with_reducible exact Calls.grown_of (BC.out _))))
            refine wpQuiet_nil ?_
            intro _ hw'
            obtain ⟨⟨nq, osq⟩, hw''⟩ := hw'
            subst hw''
            generalize hW2 : Go.Sort.grow (W1.drewN nq) osq = W2
            have G2 : Hid (Gr W1 W2) := Lib.hid (hW2 ▸ Gr.of_grow nq osq)
            clear hW2 y0 y1 y2 z0 z1 z2
            have GG : Hid (Gr wr W2) := Lib.hid (GG.out.trans G2.out)
            clear d0 d1 d2 p0 p1 p2
            have d0 := bcell GG.out.b D0.out
            have d1 := bcell GG.out.b D1.out
            have d2 := bcell GG.out.b D2.out
            have p0 := bcell GG.out.b P0.out
            have p1 := bcell GG.out.b P1.out
            have p2 := bcell GG.out.b P2.out
            have OW2 : Hid (HopsOwn base W2 VV out) := Lib.hid (RR.out.own.below GG.out.b)
            have BZ : Hid (base ≤ W2.heap.size) := Lib.hid (Nat.le_trans HBW.out GG.out.b.size)
            have BB : Hid (Below base W W2) := Lib.hid (RR.out.bel.trans (GG.out.b.mono HBW.out))
            have B3 : Below W2.heap.size W2 (W2.alloc (.cells #[.int .i64 xi, .int .u32 xa, .int .u32 xr] 60)) := (Below.refl _ _).alloc (Nat.le_refl _) _
            have OW := Lib.hid (HopsOwn.below OW2.out B3)
            have SL : Hid (SlV 3 (W2.alloc (.cells #[.int .i64 xi, .int .u32 xa, .int .u32 xr] 60)) (.slice (some ⟨W2.heap.size, 0, none⟩) 1 1) [hopE ⟨xi, xa, xr⟩]) := Lib.hid (sl_one3 ⟨xi, xa, xr⟩ W2)
            have K1 : Hid ((out).length + [hopE ⟨xi, xa, xr⟩].length ≤ maxLen) := Lib.hid (by have := LEN.out; have := HN.out; simp only [List.length_singleton]; unfold maxLen; omega)
            have K2 : Hid (((out).length + [hopE ⟨xi, xa, xr⟩].length) * 16 ≤ 140737488355328) := Lib.hid (by have := LEN.out; have := HN.out; simp only [List.length_singleton]; omega)
            have BS : Hid (base ≤ (W2.alloc (.cells #[.int .i64 xi, .int .u32 xa, .int .u32 xr] 60)).heap.size) := Lib.hid (Nat.le_trans BZ.out B3.size)
            have STEP := Lib.hid (fun v' w4 own' hg4 => hop_snoc (v' := v') (w4 := w4) (x := ⟨xi, xa, xr⟩) BZ.out OW2.out B3 own' hg4)
            clear B3
            go_wp2_with (at_builtin; refine wpList_append_sl rfl _ _ _ rfl base 60 i0 _ 3 16 Tryz.underlying48 HI0.out HZ0.out HZ1.out HZ2.out rfl (by decide) _ (out).length _ rfl OW.out _ [hopE ⟨xi, xa, xr⟩] rfl SL.out (hopE_len [_]) (hopE_one [_]) K1.out K2.out BS.out ?_; intro v4 w4 own' hg4; have NX := Lib.hid (STEP.out v4 w4 own' hg4); clear own' hg4 STEP OW SL K1 K2 BS; skip)
            have RN : Hid (AddRel base W l ⟨hi, ha, hr⟩ (k + 1) false (out ++ [⟨xi, xa, xr⟩]) v4 w4) := Lib.hid ⟨NX.out.1, BB.out.trans NX.out.2, by omega, IN.out⟩
            go_roundw
            case rel => exact ⟨k + 1, false, _, rfl, by go_num, RN.out⟩
            case measure => simp [intOf]; omega
    · cases done with
      | true =>
        have EN := Lib.hid (AddInv.end1 RR.out.inv c)
        have FIN : Hid (MrgPost w (Ls.add Ls.hopLt l ⟨hi, ha, hr⟩) (.returned u5) wr) := Lib.hid ⟨u5, rfl, by rw [← EN.out]; exact hown_base RR.out.own (by have := HBA.out; omega), HB0.out.trans (RR.out.bel.mono (by have := HBA.out; omega))⟩
        go_wp2_with fail
        go_ret
        exact FIN.out
      | false =>
        have EN := Lib.hid (AddInv.end2 RR.out.inv c)
        have p0 := blk_cell (i := 0) HBOX.out rfl
        have p1 := blk_cell (i := 1) HBOX.out rfl
        have p2 := blk_cell (i := 2) HBOX.out rfl
        have RO := Lib.hid RR.out.own
        have B3 : Below wr.heap.size wr (wr.alloc (.cells #[.int .i64 hi, .int .u32 ha, .int .u32 hr] 60)) := (Below.refl _ _).alloc (Nat.le_refl _) _
        have OW := Lib.hid (HopsOwn.below RO.out B3)
        have SL : Hid (SlV 3 (wr.alloc (.cells #[.int .i64 hi, .int .u32 ha, .int .u32 hr] 60)) (.slice (some ⟨wr.heap.size, 0, none⟩) 1 1) [hopE ⟨hi, ha, hr⟩]) := Lib.hid (sl_one3 ⟨hi, ha, hr⟩ wr)
        have K1 : Hid ((out).length + [hopE ⟨hi, ha, hr⟩].length ≤ maxLen) := Lib.hid (by have := LEN.out; have := HN.out; simp only [List.length_singleton]; unfold maxLen; omega)
        have K2 : Hid (((out).length + [hopE ⟨hi, ha, hr⟩].length) * 16 ≤ 140737488355328) := Lib.hid (by have := LEN.out; have := HN.out; simp only [List.length_singleton]; omega)
        have BS : Hid (base ≤ (wr.alloc (.cells #[.int .i64 hi, .int .u32 ha, .int .u32 hr] 60)).heap.size) := Lib.hid (Nat.le_trans HBW.out B3.size)
        have STEP := Lib.hid (fun v' w4 own' hg4 => hop_snoc (v' := v') (w4 := w4) (x := ⟨hi, ha, hr⟩) HBW.out RO.out B3 own' hg4)
        clear B3
        go_wp2_with (at_builtin; refine wpList_append_sl rfl _ _ _ rfl base 60 i0 _ 3 16 Tryz.underlying48 HI0.out HZ0.out HZ1.out HZ2.out rfl (by decide) _ (out).length _ rfl OW.out _ [hopE ⟨hi, ha, hr⟩] rfl SL.out (hopE_len [_]) (hopE_one [_]) K1.out K2.out BS.out ?_; intro v4 w4 own' hg4; have NX := Lib.hid (STEP.out v4 w4 own' hg4); clear own' hg4 STEP OW SL K1 K2 BS; skip)
        have FIN : Hid (MrgPost w (Ls.add Ls.hopLt l ⟨hi, ha, hr⟩) (.returned v4) w4) := Lib.hid ⟨v4, rfl, by rw [← EN.out]; exact hown_base NX.out.1 (by have := HBA.out; omega), HB0.out.trans ((RR.out.bel.trans NX.out.2).mono (by have := HBA.out; omega))⟩
        go_ret
        exact FIN.out

end Go.Proofs.YtogdconliofblaaGreat
