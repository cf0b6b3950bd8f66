/-
  The table of offers of package inter.
-/
/-
  The table of offers: add.
-/
import Derived.Test.YtogdconliofblaaGreatSzw
import Derived.Test.YtogdconliofblaaGreatWay
import Derived.Deep.DeepCutAuto
namespace Go.Proofs.YtogdconliofblaaGreat
open Go.RowKit

/-- an offer in memory, with its hops -/
structure OfH where
  cost : Int
  ha : Option Addr
  hn : Nat
  hc : Nat
  hops : List Ls.Hop
def OfH.hv (o : OfH) : Value := .slice o.ha o.hn o.hc
def ofE (o : OfH) : List Value := [.int .i64 o.cost, .slice o.ha o.hn o.hc]
def ofV (o : OfH) : Value := .agg (ofE o).toArray
/-- an offer -/
structure Of where
  cost : Int
  hops : List Ls.Hop
deriving DecidableEq
def OfH.pure (o : OfH) : Of := ⟨o.cost, o.hops⟩

/-- an offer is added -/
def tbAdd {α : Type} [DecidableEq α] (g : α → Option Of) (p : α) (o : Of) : α → Option Of :=
  if 16777216 < o.cost then g else
  match g p with
  | none => upd g p o
  | some old => if o.cost < old.cost then upd g p o else if o.cost = old.cost then upd g p ⟨old.cost, Ls.merge Ls.hopLt old.hops o.hops⟩ else g
section
variable {α : Type} [DecidableEq α] {g : α → Option Of} {p : α} {o old : Of}
theorem tbAdd_big (h : 16777216 < o.cost) : tbAdd g p o = g := if_pos h
theorem tbAdd_new (h : ¬ 16777216 < o.cost) (e : g p = none) : tbAdd g p o = upd g p o := by unfold tbAdd; rw [if_neg h, e]
theorem tbAdd_lt (h : ¬ 16777216 < o.cost) (e : g p = some old) (c : o.cost < old.cost) : tbAdd g p o = upd g p o := by unfold tbAdd; rw [if_neg h, e]; exact if_pos c
theorem tbAdd_eq (h : ¬ 16777216 < o.cost) (e : g p = some old) (c : o.cost = old.cost) : tbAdd g p o = upd g p ⟨old.cost, Ls.merge Ls.hopLt old.hops o.hops⟩ := by
  unfold tbAdd; rw [if_neg h, e]
  show (if o.cost < old.cost then upd g p o else if o.cost = old.cost then upd g p ⟨old.cost, Ls.merge Ls.hopLt old.hops o.hops⟩ else g) = _
  rw [if_neg (by omega), if_pos c]
theorem tbAdd_gt (h : ¬ 16777216 < o.cost) (e : g p = some old) (c : old.cost < o.cost) : tbAdd g p o = g := by
  unfold tbAdd; rw [if_neg h, e]
  show (if o.cost < old.cost then upd g p o else if o.cost = old.cost then upd g p ⟨old.cost, Ls.merge Ls.hopLt old.hops o.hops⟩ else g) = _
  rw [if_neg (by omega), if_neg (by omega)]
end

/-- the table lies in block mb -/
structure ObAt {α : Type} (k : TypeId) (ok : α → Prop) (lit : α → Lit) (wr : World) (mb n : Nat) (g : α → Option Of) (f : α → Option OfH) : Prop where
  map : MapF Tryz.prog k ok lit ofV wr mb n f
  val : ∀ p, (f p).map OfH.pure = g p
  hops : ∀ p x, f p = some x → HopsAt wr x.hv x.hops
theorem ObAt.grow {α : Type} {k : TypeId} {ok : α → Prop} {lit : α → Lit} {wr wr' : World} {mb n : Nat} {g : α → Option Of} {f : α → Option OfH} (h : ObAt k ok lit wr mb n g f) (hb : Below wr.heap.size wr wr') : ObAt k ok lit wr' mb n g f :=
  ⟨h.map.grow hb, h.val, fun p x hp => (h.hops p x hp).below hb⟩
theorem ObAt.mono {α : Type} {k : TypeId} {ok : α → Prop} {lit : α → Lit} {wr : World} {mb n n' : Nat} {g : α → Option Of} {f : α → Option OfH} (h : ObAt k ok lit wr mb n g f) (hn : n ≤ n') : ObAt k ok lit wr mb n' g f := ⟨h.map.mono hn, h.val, h.hops⟩
theorem ObAt.put {α : Type} [DecidableEq α] {k : TypeId} {ok : α → Prop} {lit : α → Lit} {wr w1 : World} {mb n n' : Nat} {g : α → Option Of} {f : α → Option OfH} (h : ObAt k ok lit wr mb n g f) (p : α) (x : OfH) (hm : MapF Tryz.prog k ok lit ofV w1 mb n' (upd f p x)) (hg : wr.grownBy w1 (some mb)) (hx : HopsAt wr x.hv x.hops) :
    ObAt k ok lit w1 mb n' (upd g p x.pure) (upd f p x) := by
  refine ⟨hm, fun q => ?_, fun q y hq => ?_⟩
  · unfold upd
    split
    · rfl
    · exact h.val q
  · unfold upd at hq
    split at hq
    · cases hq; exact hx.grown h.map.noCell hg
    · exact (h.hops q y hq).grown h.map.noCell hg

theorem MapF.run_put {P : Program} {k : TypeId} {α β : Type} [DecidableEq α] {ok : α → Prop} {mkK : α → Value} {lit : α → Lit} {mkV : β → Value} (K : KeyIs P k ok mkK lit) {t e : TypeId} (ht : P.underlying t = some (.map k e)) {w : World} {b n : Nat} {f : α → Option β} (h : MapF P k ok lit mkV w b n f) (hn : n < maxLen) (y : α) (hy : ok y) (c : β) :
    ∃ w', (Instr.mapUpdate t (.map (some b)) (mkK y) (mkV c)).run P w = .ok () w' ∧ MapF P k ok lit mkV w' b (n + 1) (upd f y c) ∧ w.grownBy w' (some b) := by
  obtain ⟨D, h1, h2⟩ := h
  obtain ⟨w', hrun, o1, g1⟩ := h1.update (R := heldR) K.keyed ht hn (K.of y hy) (d := .held (mkV c)) (ps := []) rfl
  refine ⟨w', hrun, ⟨_, o1, fun x' hx' => ?_⟩, g1⟩
  unfold upd
  by_cases e1 : x' = y
  · subst e1
    rw [if_pos rfl]
    exact ⟨Maps.has_put_same h1.isMap (K.isKey hy) _, fun v' hv' zd => by cases hv'; exact Maps.atKey_put_same h1.isMap (K.isKey hy) _ _⟩
  · have ne : lit x' ≠ lit y := fun e2 => e1 (K.lit_inj hx' hy e2)
    rw [if_neg e1, Maps.has_put_other ne]
    exact ⟨(h2 x' hx').1, fun v' hv' zd => by rw [Maps.atKey_put_other ne]; exact (h2 x' hx').2 v' hv' zd⟩

theorem Tryz.zeroOf (w : World) : (zeroValue 98).run Tryz.prog w = .ok (.agg #[.int .i64 0, .slice none 0 0]) w := by kernel_rfl

def AddPost (w : World) (mb n : Nat) (g : Ls.Pfx → Option Of) (p : Ls.Pfx) (o : Of) (e : Ending) (w' : World) : Prop :=
  e = .returned (.tuple #[]) ∧ (∃ f', ObAt 55 pfxOk pfxLit w' mb (n + 1) (tbAdd g p o) f') ∧ w.grownBy w' (some mb)

end Go.Proofs.YtogdconliofblaaGreat

namespace Go.Proofs.YtogdconliofblaaGreat
open Go.RowKit

theorem HopsOwn.slice {base : Nat} {w : World} {v : Value} {l : List Ls.Hop} (h : HopsOwn base w v l) : ∃ a n c, v = .slice a n c := by
  rcases own_cases h with ⟨rfl, _⟩ | ⟨g, cap, cur, rfl, _⟩
  · exact ⟨_, _, _, rfl⟩
  · exact ⟨_, _, _, rfl⟩

theorem u3' (w : World) (o1 o2 o3 : Obj) : (((w.alloc o1).alloc o2).alloc o3).heap[w.heap.size]? = some o1 :=
  (alloc_get _ _ _ (by simp; omega)).trans ((alloc_get _ _ _ (by simp)).trans (alloc_new w o1))

theorem grown_below {w w1 w2 : World} {mb : Nat} (h : Below w.heap.size w w1) (g : w1.grownBy w2 (some mb)) : w.grownBy w2 (some mb) :=
  ⟨g.os.trans h.os, g.tape.trans h.tape, g.output.trans h.output, Nat.le_trans h.size g.size, fun i hi hne => (g.block i (Nat.lt_of_lt_of_le hi h.size) hne).trans (h.block i hi)⟩

set_option maxHeartbeats 8000000 in
set_option maxRecDepth 100000 in
theorem add_table (w : World) (mb n : Nat) (g : Ls.Pfx → Option Of) (f : Ls.Pfx → Option OfH) (T : ObAt 55 pfxOk pfxLit w mb n g f) (hn' : n < maxLen) (p : Ls.Pfx) (hp : pfxOk p) (o : OfH) (ho : HopsAt w o.hv o.hops)
    (hb : ∀ old, f p = some old → (old.hops.length + o.hops.length) * 16 ≤ 140737488355328) :
    Calls Tryz.prog 46 #[.agg #[.map (some mb)], .agg #[.int .u32 p.addr, .int .i64 p.len], .agg (ofE o).toArray] w (AddPost w mb n g p o.pure) := by
  have HP := Lib.hid hp
  have HN := Lib.hid hn'
  obtain ⟨pa, pl⟩ := p
  obtain ⟨co, ha, hn, hc, oh2⟩ := o
  simp only [ofE, OfH.hv, OfH.pure] at *
  obtain ⟨W0, hW0⟩ : ∃ W0, ((w.alloc (.cells #[.map (some mb)] 94)).alloc (.cells #[.int .u32 pa, .int .i64 pl] 55)).alloc (.cells #[.int .i64 co, .slice ha hn hc] 98) = W0 := ⟨_, rfl⟩
  have B0 : Below w.heap.size w W0 := by rw [← hW0]; exact (((Below.refl _ _).alloc (Nat.le_refl _) _).alloc (by simp) _).alloc (by simp; omega) _
  have hsz : W0.heap.size = w.heap.size + 3 := by rw [← hW0]; simp
  have b0 : W0.heap[w.heap.size]? = some (.cells #[.map (some mb)] 94 (0, 0)) := by rw [← hW0]; exact u3' w _ _ _
  have b1 : W0.heap[w.heap.size + 1]? = some (.cells #[.int .u32 pa, .int .i64 pl] 55 (0, 0)) := by
    rw [← hW0]; refine (alloc_get _ _ _ (by simp)).trans ?_
    have := alloc_new (w.alloc (.cells #[.map (some mb)] 94)) (.cells #[.int .u32 pa, .int .i64 pl] 55); simpa using this
  have b2 : W0.heap[w.heap.size + 2]? = some (.cells #[.int .i64 co, .slice ha hn hc] 98 (0, 0)) := by
    rw [← hW0]
    have := alloc_new ((w.alloc (.cells #[.map (some mb)] 94)).alloc (.cells #[.int .u32 pa, .int .i64 pl] 55)) (.cells #[.int .i64 co, .slice ha hn hc] 98); simpa using this
  have T0 := Lib.hid (T.grow B0)
  have HO0 := Lib.hid (ho.below B0)
  have M0 := Lib.hid T0.out.map
  have HB0 := Lib.hid B0
  have X0 := Lib.hid b0
  have X1 := Lib.hid b1
  have X2 := Lib.hid b2
  have MLT0 := Lib.hid T.map.lt
  have VAL : Hid ((f ⟨pa, pl⟩).map OfH.pure = g ⟨pa, pl⟩) := Lib.hid (T.val ⟨pa, pl⟩)
  have HBD := Lib.hid hb
  have HSZ := Lib.hid hsz
  have HW0 := Lib.hid hW0
  clear hW0 B0 hsz b0 b1 b2 T ho hb hp hn'
  have m0 := blk_cell (i := 0) X0.out rfl
  have p0 := blk_cell (i := 0) X1.out rfl
  have p1 := blk_cell (i := 1) X1.out rfl
  have o0 := blk_cell (i := 0) X2.out rfl
  have o1 := blk_cell (i := 1) X2.out rfl
  cases hf : f ⟨pa, pl⟩ with
  | none =>
    have HF := Lib.hid hf
    have GN : Hid (g ⟨pa, pl⟩ = none) := Lib.hid (by rw [← VAL.out, hf]; rfl)
    clear hf
    obtain ⟨W1, hW1⟩ : ∃ W1, W0.alloc (.cells #[.int .i64 0, .slice none 0 0] 98) = W1 := ⟨_, rfl⟩
    have B1 : Below W0.heap.size W0 W1 := by rw [← hW1]; exact (Below.refl _ _).alloc (Nat.le_refl _) _
    have bo : W1.heap[W0.heap.size]? = some (.cells #[.int .i64 0, .slice none 0 0] 98 (0, 0)) := by rw [← hW1]; exact alloc_new _ _
    have u0 := blk_cell (i := 0) bo rfl
    have u1 := blk_cell (i := 1) bo rfl
    have q0 := bcell B1 m0
    have q1 := bcell B1 p0
    have q2 := bcell B1 p1
    have q3 := bcell B1 o0
    have q4 := bcell B1 o1
    have T1 := Lib.hid (T0.out.grow B1)
    have M1 := Lib.hid T1.out.map
    have HO1 := Lib.hid (HO0.out.below B1)
    have BB := Lib.hid (HB0.out.trans (B1.mono HB0.out.size))
    have HW1 := Lib.hid hW1
    clear hW1 B1 bo
    by_cases c : 16777216 < co
    · have c1 : decide (16777216 < co) = true := by simpa using c
      have NX : Hid (AddPost w mb n g ⟨pa, pl⟩ ⟨co, oh2⟩ (.returned (.tuple #[])) W1) := Lib.hid ⟨rfl, ⟨f, by rw [tbAdd_big c]; exact T1.out.mono (Nat.le_succ n)⟩, grown_below BB.out ⟨rfl, rfl, rfl, Nat.le_refl _, fun _ _ _ => rfl⟩⟩
      clear c
      go_enter Tryz.func46, Tryz.ntmps46
      go_upto_region 2 with (at_lookup; rw [HW0.out]; refine wpList_look_none _ rfl _ _ 92 rfl 98 Tryz.pfxKey Tryz.underlying92 (Tryz.zeroOf _) mb n f rfl M0.out ⟨pa, pl⟩ rfl HP.out HF.out ?_)
      rw [HW1.out]
      go_wp2_with fail
      (try simp only [Exit.inBlock, Exit.then])
      first | go_end0 | refine bodyPost_ret (results_none rfl _ _ _) rfl ?_
      exact NX.out
    · have c1 : decide (16777216 < co) = false := by simpa using c
      have PUT : Hid (∀ w6, MapF Tryz.prog 55 pfxOk pfxLit ofV w6 mb (n + 1) (upd f ⟨pa, pl⟩ ⟨co, ha, hn, hc, oh2⟩) → W1.grownBy w6 (some mb) → AddPost w mb n g ⟨pa, pl⟩ ⟨co, oh2⟩ (.returned (.tuple #[])) w6) := Lib.hid (fun w6 M6 G6 => ⟨rfl, ⟨_, by rw [tbAdd_new c GN.out]; exact T1.out.put ⟨pa, pl⟩ ⟨co, ha, hn, hc, oh2⟩ M6 G6 HO1.out⟩, grown_below BB.out G6⟩)
      clear c
      go_enter Tryz.func46, Tryz.ntmps46
      go_upto_region 2 with (at_lookup; rw [HW0.out]; refine wpList_look_none _ rfl _ _ 92 rfl 98 Tryz.pfxKey Tryz.underlying92 (Tryz.zeroOf _) mb n f rfl M0.out ⟨pa, pl⟩ rfl HP.out HF.out ?_)
      rw [HW1.out]
      go_wp2_with (at_mapUpdate; refine wpList_mput _ rfl _ _ _ 92 rfl 98 Tryz.pfxKey Tryz.underlying92 mb n f rfl M1.out HN.out ⟨pa, pl⟩ rfl HP.out ⟨co, ha, hn, hc, oh2⟩ rfl ?_; intro w6 M6 G6; have NX := Lib.hid (PUT.out w6 M6 G6); clear M6 G6)
      (try simp only [Exit.inBlock, Exit.then])
      first | go_end0 | refine bodyPost_ret (results_none rfl _ _ _) rfl ?_
      exact NX.out
  | some old =>
    have HF := Lib.hid hf
    have GN : Hid (g ⟨pa, pl⟩ = some old.pure) := Lib.hid (by rw [← VAL.out, hf]; rfl)
    have OH := Lib.hid (T0.out.hops _ _ hf)
    have BD := Lib.hid (HBD.out old hf)
    clear hf
    obtain ⟨oc, oha, ohn, ohc, oh⟩ := old
    simp only [OfH.pure, OfH.hv] at GN OH BD
    obtain ⟨W1, hW1⟩ : ∃ W1, W0.alloc (.cells #[.int .i64 oc, .slice oha ohn ohc] 98) = W1 := ⟨_, rfl⟩
    have B1 : Below W0.heap.size W0 W1 := by rw [← hW1]; exact (Below.refl _ _).alloc (Nat.le_refl _) _
    have bo : W1.heap[W0.heap.size]? = some (.cells #[.int .i64 oc, .slice oha ohn ohc] 98 (0, 0)) := by rw [← hW1]; exact alloc_new _ _
    have u0 := blk_cell (i := 0) bo rfl
    have u1 := blk_cell (i := 1) bo rfl
    have q0 := bcell B1 m0
    have q1 := bcell B1 p0
    have q2 := bcell B1 p1
    have q3 := bcell B1 o0
    have q4 := bcell B1 o1
    have T1 := Lib.hid (T0.out.grow B1)
    have M1 := Lib.hid T1.out.map
    have HO1 := Lib.hid (HO0.out.below B1)
    have OH1 := Lib.hid (OH.out.below B1)
    have BB := Lib.hid (HB0.out.trans (B1.mono HB0.out.size))
    have HW1 := Lib.hid hW1
    clear hW1 B1 bo
    have NOP : Hid (tbAdd g ⟨pa, pl⟩ ⟨co, oh2⟩ = g → AddPost w mb n g ⟨pa, pl⟩ ⟨co, oh2⟩ (.returned (.tuple #[])) W1) := Lib.hid (fun h => ⟨rfl, ⟨f, by rw [h]; exact T1.out.mono (Nat.le_succ n)⟩, grown_below BB.out ⟨rfl, rfl, rfl, Nat.le_refl _, fun _ _ _ => rfl⟩⟩)
    by_cases c : 16777216 < co
    · have c1 : decide (16777216 < co) = true := by simpa using c
      have NX := Lib.hid (NOP.out (tbAdd_big c))
      clear c
      go_enter Tryz.func46, Tryz.ntmps46
      go_upto_region 2 with (at_lookup; rw [HW0.out]; refine wpList_look_some _ rfl _ _ 92 rfl 98 Tryz.pfxKey Tryz.underlying92 (Tryz.zeroOf _) mb n f rfl M0.out ⟨pa, pl⟩ rfl HP.out ⟨oc, oha, ohn, ohc, oh⟩ HF.out ?_; simp only [ofV, ofE])
      rw [HW1.out]
      go_wp2_with fail
      (try simp only [Exit.inBlock, Exit.then])
      first | go_end0 | refine bodyPost_ret (results_none rfl _ _ _) rfl ?_
      exact NX.out
    · have c1 : decide (16777216 < co) = false := by simpa using c
      rcases Int.lt_trichotomy co oc with d | d | d
      · have d1 : decide (co < oc) = true := by simpa using d
        have PUT : Hid (∀ w6, MapF Tryz.prog 55 pfxOk pfxLit ofV w6 mb (n + 1) (upd f ⟨pa, pl⟩ ⟨co, ha, hn, hc, oh2⟩) → W1.grownBy w6 (some mb) → AddPost w mb n g ⟨pa, pl⟩ ⟨co, oh2⟩ (.returned (.tuple #[])) w6) := Lib.hid (fun w6 M6 G6 => ⟨rfl, ⟨_, by rw [tbAdd_lt c GN.out d]; exact T1.out.put ⟨pa, pl⟩ ⟨co, ha, hn, hc, oh2⟩ M6 G6 HO1.out⟩, grown_below BB.out G6⟩)
        clear c d
        go_enter Tryz.func46, Tryz.ntmps46
        go_upto_region 2 with (at_lookup; rw [HW0.out]; refine wpList_look_some _ rfl _ _ 92 rfl 98 Tryz.pfxKey Tryz.underlying92 (Tryz.zeroOf _) mb n f rfl M0.out ⟨pa, pl⟩ rfl HP.out ⟨oc, oha, ohn, ohc, oh⟩ HF.out ?_; simp only [ofV, ofE])
        rw [HW1.out]
        go_wp2_with (at_mapUpdate; refine wpList_mput _ rfl _ _ _ 92 rfl 98 Tryz.pfxKey Tryz.underlying92 mb n f rfl M1.out HN.out ⟨pa, pl⟩ rfl HP.out ⟨co, ha, hn, hc, oh2⟩ rfl ?_; intro w6 M6 G6; have NX := Lib.hid (PUT.out w6 M6 G6); clear M6 G6)
        (try simp only [Exit.inBlock, Exit.then])
        first | go_end0 | refine bodyPost_ret (results_none rfl _ _ _) rfl ?_
        exact NX.out
      · --EQ
        subst d
        have d1 : decide (co < co) = false := by simp
        have d2 : (co == co) = true := by simp
        have MLT : mb < w.heap.size := MLT0.out
        have HM := Lib.hid (fun (W : World) (hb : Below W1.heap.size W1 W) => merge_calls W (.slice oha ohn ohc) (.slice ha hn hc) oh oh2 (OH1.out.below hb) (HO1.out.below hb) BD.out)
        have k0 : W1.cell? ⟨w.heap.size, 0, none⟩ = some (.map (some mb)) := q0
        have k1 : W1.cell? ⟨w.heap.size + 1, 0, none⟩ = some (.int .u32 pa) := q1
        have k2 : W1.cell? ⟨w.heap.size + 1, 1, none⟩ = some (.int .i64 pl) := q2
        have k3 : W1.cell? ⟨w.heap.size + 2, 0, none⟩ = some (.int .i64 co) := q3
        have k4 : W1.cell? ⟨w.heap.size + 2, 1, none⟩ = some (.slice ha hn hc) := q4
        have k5 : W1.cell? ⟨W0.heap.size, 1, none⟩ = some (.slice oha ohn ohc) := u1
        have PUT : Hid (∀ (va : Option Addr) (vn vc : Nat) w5 w6, Below W1.heap.size W1 w5 → HopsAt w5 (.slice va vn vc) (Ls.merge Ls.hopLt oh oh2) → MapF Tryz.prog 55 pfxOk pfxLit ofV w6 mb (n + 1) (upd f ⟨pa, pl⟩ ⟨co, va, vn, vc, Ls.merge Ls.hopLt oh oh2⟩) → w5.grownBy w6 (some mb) → AddPost w mb n g ⟨pa, pl⟩ ⟨co, oh2⟩ (.returned (.tuple #[])) w6) := Lib.hid (fun va vn vc w5 w6 B5 H5 M6 G6 => ⟨rfl, ⟨_, by rw [tbAdd_eq (o := ⟨co, oh2⟩) c GN.out rfl]; exact (T1.out.grow B5).put ⟨pa, pl⟩ ⟨co, va, vn, vc, Ls.merge Ls.hopLt oh oh2⟩ M6 G6 H5⟩, grown_below (BB.out.trans (B5.mono BB.out.size)) G6⟩)
        have RUNP : Hid (∀ (w5 : World), Below W1.heap.size W1 w5 → ∀ (va : Option Addr) (vn vc : Nat), ∃ w6, (Instr.mapUpdate 92 (.map (some mb)) (.agg #[.int .u32 pa, .int .i64 pl]) (.agg #[.int .i64 co, .slice va vn vc])).run Tryz.prog w5 = .ok () w6 ∧ MapF Tryz.prog 55 pfxOk pfxLit ofV w6 mb (n + 1) (upd f ⟨pa, pl⟩ ⟨co, va, vn, vc, Ls.merge Ls.hopLt oh oh2⟩) ∧ w5.grownBy w6 (some mb)) := Lib.hid (fun w5 B va vn vc => MapF.run_put Tryz.pfxKey Tryz.underlying92 (M1.out.grow B) HN.out ⟨pa, pl⟩ HP.out ⟨co, va, vn, vc, Ls.merge Ls.hopLt oh oh2⟩)
        have KEEP : Hid (∀ w5 w6 : World, w5.grownBy w6 (some mb) → ∀ (b o : Nat) (v : Value), w.heap.size ≤ b → w5.cell? ⟨b, o, none⟩ = some v → w6.cell? ⟨b, o, none⟩ = some v) := Lib.hid (fun w5 w6 G b o v hb h => G.cell h (by simp; omega))
        have HSW : Hid (w.heap.size ≤ W0.heap.size) := Lib.hid (by have := HSZ.out; omega)
        clear c MLT q0 q1 q2 q3 q4 u1
        go_enter Tryz.func46, Tryz.ntmps46
        go_upto_region 2 with (at_lookup; rw [HW0.out]; refine wpList_look_some _ rfl _ _ 92 rfl 98 Tryz.pfxKey Tryz.underlying92 (Tryz.zeroOf _) mb n f rfl M0.out ⟨pa, pl⟩ rfl HP.out ⟨co, oha, ohn, ohc, oh⟩ HF.out ?_; simp only [ofV, ofE])
        rw [HW1.out]
        go_wp2_with fail
        go_region_held3 (fun W' => W'.cell? ⟨w.heap.size, 0, none⟩ = some (.map (some mb)) ∧ W'.cell? ⟨w.heap.size + 1, 0, none⟩ = some (.int .u32 pa) ∧ W'.cell? ⟨w.heap.size + 1, 1, none⟩ = some (.int .i64 pl) ∧ W'.cell? ⟨w.heap.size + 2, 0, none⟩ = some (.int .i64 co) ∧ W'.cell? ⟨w.heap.size + 2, 1, none⟩ = some (.slice ha hn hc) ∧ W'.cell? ⟨W0.heap.size, 1, none⟩ = some (.slice oha ohn ohc)) (first | with_reducible exact ⟨k0, k1, k2, k3, k4, k5⟩ | with_reducible exact ⟨r0, r1, r2, r3, r4, r5⟩ | go_keep)
          ((go_at_call 59; ((with_reducible refine (HM.out W1.drew (Below.refl _ _).drew).mono ?_)); rintro e w5 ⟨v5, rfl, O5, B5⟩; obtain ⟨va, vn, vc, rfl⟩ := O5.slice; have B5' : Below W1.heap.size W1 w5 := (Below.refl _ _).drew.trans B5; obtain ⟨w6, hrun, M6, G6⟩ := RUNP.out w5 B5' va vn vc; have NX := Lib.hid (PUT.out va vn vc w5 w6 B5' O5.at M6 G6); have k0 := bcell B5 k0; have k1 := bcell B5 k1; have k2 := bcell B5 k2; have k3 := bcell B5 k3; have k4 := bcell B5 k4; have k5 := bcell B5 k5; have r0 := KEEP.out w5 w6 G6 _ _ _ (Nat.le_refl _) k0; have r1 := KEEP.out w5 w6 G6 _ _ _ (Nat.le_succ _) k1; have r2 := KEEP.out w5 w6 G6 _ _ _ (Nat.le_succ _) k2; have r3 := KEEP.out w5 w6 G6 _ _ _ (Nat.le_add_right _ 2) k3; have r4 := KEEP.out w5 w6 G6 _ _ _ (Nat.le_add_right _ 2) k4; have r5 := KEEP.out w5 w6 G6 _ _ _ HSW.out k5; clear M6 G6 O5))
        go_wp2_with fail
        (try simp only [Exit.inBlock, Exit.then])
        first | go_end0 | refine bodyPost_ret (results_none rfl _ _ _) rfl ?_
        exact NX.out
      · have d1 : decide (co < oc) = false := by simp; omega
        have d2 : (co == oc) = false := by simp; omega
        have NX := Lib.hid (NOP.out (tbAdd_gt c GN.out d))
        clear c d
        go_enter Tryz.func46, Tryz.ntmps46
        go_upto_region 2 with (at_lookup; rw [HW0.out]; refine wpList_look_some _ rfl _ _ 92 rfl 98 Tryz.pfxKey Tryz.underlying92 (Tryz.zeroOf _) mb n f rfl M0.out ⟨pa, pl⟩ rfl HP.out ⟨oc, oha, ohn, ohc, oh⟩ HF.out ?_; simp only [ofV, ofE])
        rw [HW1.out]
        go_wp2_with fail
        (try simp only [Exit.inBlock, Exit.then])
        first | go_end0 | refine bodyPost_ret (results_none rfl _ _ _) rfl ?_
        exact NX.out

end Go.Proofs.YtogdconliofblaaGreat
