/-
  routingref34.Routes: what its loops carry.
-/
import Derived.Test.YtiemmejpaahbpaaGreatRra
import Derived.Test.YtiemmejpaahbpaaGreatRof
namespace Go.Proofs.YtiemmejpaahbpaaGreat
open Go.RowKit

/-- the offers of the first advertisements -/
def rfOffs (router : Int) (reach : List Rch) (inner : List RtH) (db : List Lsa) : List Rp := (db.filter fun x => rfAll router x reach inner).map fun x => rfR x reach inner

theorem rfOffs_yes {router : Int} {reach : List Rch} {inner : List RtH} {db : List Lsa} {k : Nat} (c : k < db.length) (h : rfAll router db[k] reach inner = true) :
    rfOffs router reach inner (db.take (k + 1)) = rfOffs router reach inner (db.take k) ++ [rfR db[k] reach inner] := by
  unfold rfOffs
  rw [List.take_succ_eq_append_getElem c, List.filter_append, List.map_append]
  congr 1
  rw [List.filter_cons_of_pos (by simpa using h)]; rfl
theorem rfOffs_no {router : Int} {reach : List Rch} {inner : List RtH} {db : List Lsa} {k : Nat} (c : k < db.length) (h : rfAll router db[k] reach inner = false) :
    rfOffs router reach inner (db.take (k + 1)) = rfOffs router reach inner (db.take k) := by
  unfold rfOffs
  rw [List.take_succ_eq_append_getElem c, List.filter_append, List.map_append, List.filter_cons_of_neg (by simp [h])]
  simp

theorem R1.at {w : World} {all : List RtH} {ps : List Ls.Pfx} {vA vB : Value} {wr : World} (R : R1 w all ps vA vB wr) : RoutesAt wr vA all := by
  refine ⟨?_, R.hps⟩
  have h := R.ownA
  unfold RtsOwn at h
  have e : (all.map fun x => rtE x.rt) = (all.map RtH.rt).map rtE := by rw [List.map_map]; rfl
  rw [e]
  exact SlV.of_own (rtE_len _) (by rwa [List.length_map (f := rtE)])
theorem offE_len (l : List Ls.Pfx) : ∀ c ∈ l.map offE, c.length = 4 := by
  intro c hc
  obtain ⟨h, _, rfl⟩ := List.mem_map.1 hc
  rfl
theorem R1.offs {w : World} {all : List RtH} {ps : List Ls.Pfx} {vA vB : Value} {wr : World} (R : R1 w all ps vA vB wr) : OffsAt wr vB ps :=
  SlV.of_own (offE_len ps) (by rw [List.length_map]; exact R.ownB)

theorem R1.fresh {w : World} {all : List RtH} {ps : List Ls.Pfx} {vA vB : Value} {wr : World} (R : R1 w all ps vA vB wr) {v : Value} (N : New wr.heap.size v) : ∀ b off n c, v = .slice (some ⟨b, off, none⟩) n c → vA.ownBlock ≠ some b ∧ vB.ownBlock ≠ some b := by
  intro b off n c e
  have h := N b off n c e
  exact ⟨fun z => by have := (R.ownA.lt b z).2; omega, fun z => by have := (R.ownB.lt b z).2; omega⟩

theorem R1.start1 (w : World) : R1 w [] [] (.slice (some ⟨w.heap.size, 0, none⟩) 0 0) (.slice none 0 0) (w.alloc (.cells #[] 36)) := by
  refine ⟨?_, World.ownsRow_nil _ _ _ _, fun x hx => by simp at hx, fun j _ h => by simp [Value.ownBlock] at h, fun x hx => by simp at hx, (Below.refl _ _).alloc (Nat.le_refl _) _⟩
  have := World.ownsRow_made (size := 9) (e := 36) (base := w.heap.size) w #[] 0 (by simp) (by unfold maxLen; omega) rfl
  simpa [RtsOwn] using this

theorem R1.start (w : World) : R1 w [] [] (.slice (some ⟨w.heap.size, 0, none⟩) 0 0) (.slice (some ⟨w.heap.size + 1, 0, none⟩) 0 0) ((w.alloc (.cells #[] 36)).alloc (.cells #[] 70)) := by
  have h1 := R1.start1 w
  have hb : Below (w.alloc (.cells #[] 36)).heap.size (w.alloc (.cells #[] 36)) ((w.alloc (.cells #[] 36)).alloc (.cells #[] 70)) := (Below.refl _ _).alloc (Nat.le_refl _) _
  have h2 := h1.below hb
  refine ⟨h2.ownA, ?_, h2.hps, ?_, fun x hx => by simp at hx, h2.bel⟩
  · have := World.ownsRow_made (size := 4) (e := 70) (base := w.heap.size) (w.alloc (.cells #[] 36)) #[] 0 (by simp) (by unfold maxLen; omega) rfl
    simpa using this
  · intro j h1 h2
    simp [Value.ownBlock] at h1 h2
    omega

structure Rg (w : World) (router : Int) (reach : List Rch) (inner : List RtH) (db : List Lsa) (k : Nat) (all : List RtH) (vA vB : Value) (wr : World) : Prop where
  r1 : R1 w all (all.map fun x => x.rt.pfx) vA vB wr
  eq : all.map RtH.pure = rfOffs router reach inner (db.take k)
  hk : k ≤ db.length

theorem Rg.len {w : World} {router : Int} {reach : List Rch} {inner : List RtH} {db : List Lsa} {k : Nat} {all : List RtH} {vA vB : Value} {wr : World} (R : Rg w router reach inner db k all vA vB wr) : all.length ≤ k := by
  have h := congrArg List.length R.eq
  unfold rfOffs at h
  rw [List.length_map, List.length_map] at h
  have h2 := List.length_filter_le (fun x => rfAll router x reach inner) (db.take k)
  rw [List.length_take] at h2
  omega
theorem Rg.skip {w : World} {router : Int} {reach : List Rch} {inner : List RtH} {db : List Lsa} {k : Nat} {all : List RtH} {vA vB : Value} {wr : World} (R : Rg w router reach inner db k all vA vB wr) (c : k < db.length) (h : rfAll router db[k] reach inner = false) {W' : World} (g : Below wr.heap.size wr W') : Rg w router reach inner db (k + 1) all vA vB W' :=
  ⟨R.r1.below g, by rw [R.eq, rfOffs_no c h], c⟩
theorem Rg.push {w : World} {router : Int} {reach : List Rch} {inner : List RtH} {db : List Lsa} {k : Nat} {all : List RtH} {vA vB : Value} {wr : World} (R : Rg w router reach inner db k all vA vB wr) (c : k < db.length) (h : rfAll router db[k] reach inner = true) {x : RtH} (hx : x.pure = rfR db[k] reach inner) {vA' vB' : Value} {W' : World}
    (r : R1 w (all ++ [x]) ((all.map fun x => x.rt.pfx) ++ [x.rt.pfx]) vA' vB' W') : Rg w router reach inner db (k + 1) (all ++ [x]) vA' vB' W' :=
  ⟨by rw [List.map_append]; exact r, by rw [List.map_append, R.eq, rfOffs_yes c h, List.map_singleton, hx], c⟩

theorem oAt_map {all : List RtH} {k : Nat} (c : k < all.length) : oAt (all.map RtH.pure) k = (rthAt all k).pure := by
  rw [oAt_eq (by simpa using c), rthAt_eq c, List.getElem_map]

theorem bst_no {all : List RtH} {p : Ls.Pfx} {k : Nat} (c : k < all.length) (h : ¬ (rthAt all k).rt.pfx = p) : bst (all.map RtH.pure) p (k + 1) = bst (all.map RtH.pure) p k := by
  rw [bst, if_neg]
  simp [bstB, oAt_map c, RtH.pure, h]
theorem bst_first {all : List RtH} {p : Ls.Pfx} {k : Nat} (c : k < all.length) (h : (rthAt all k).rt.pfx = p) (hb : bst (all.map RtH.pure) p k = none) : bst (all.map RtH.pure) p (k + 1) = some k := by
  rw [bst, if_pos]
  simp [bstB, oAt_map c, RtH.pure, h, hb]
theorem bst_lt {offs : List Rp} {p : Ls.Pfx} {k j : Nat} (h : bst offs p k = some j) : j < k := by
  have B := bst_inv offs p k
  rw [h] at B
  exact B.1
theorem bst_cmp {all : List RtH} {p : Ls.Pfx} {k j : Nat} (c : k < all.length) (h : (rthAt all k).rt.pfx = p) (hb : bst (all.map RtH.pure) p k = some j) :
    bst (all.map RtH.pure) p (k + 1) = if rtCmp (rthAt all k).rt (rthAt all j).rt < 0 then some k else some j := by
  have hj := bst_lt hb
  rw [bst, hb]
  have e : bstB (all.map RtH.pure) p (some j) k = decide (rtCmp (rthAt all k).rt (rthAt all j).rt < 0) := by
    unfold bstB
    simp only []
    rw [oAt_map c, oAt_map (show j < all.length by omega), rpCmp_pure]
    have : (rthAt all k).pure.pfx = p := h
    simp [this]
  rw [e]
  by_cases z : rtCmp (rthAt all k).rt (rthAt all j).rt < 0 <;> simp [z]

theorem bst_some (offs : List Rp) {p : Ls.Pfx} (h : p ∈ offs.map Rp.pfx) : ∃ j, bst offs p offs.length = some j ∧ j < offs.length := by
  obtain ⟨r, hr, rfl⟩ := List.mem_map.1 h
  obtain ⟨i, hi, rfl⟩ := List.getElem_of_mem hr
  have B := bst_inv offs (offs[i]).pfx offs.length
  cases hb : bst offs (offs[i]).pfx offs.length with
  | none => rw [hb] at B; exact absurd (by rw [oAt_eq hi]) (B i hi)
  | some j => rw [hb] at B; exact ⟨j, rfl, B.1⟩

theorem mh_no {all : List RtH} {p : Ls.Pfx} {j k : Nat} (c : k < all.length) (h : ¬ (rthAt all k).rt.pfx = p) : mh (all.map RtH.pure) p j (k + 1) = mh (all.map RtH.pure) p j k := by
  rw [mh, if_neg]
  simp [mhB, oAt_map c, RtH.pure, h]
theorem mh_cmp {all : List RtH} {p : Ls.Pfx} {j k : Nat} (c : k < all.length) (cj : j < all.length) (h : (rthAt all k).rt.pfx = p) :
    mh (all.map RtH.pure) p j (k + 1) = if rtCmp (rthAt all k).rt (rthAt all j).rt = 0 then Ls.merge Ls.hopLt (mh (all.map RtH.pure) p j k) (rthAt all k).hops else mh (all.map RtH.pure) p j k := by
  rw [mh]
  have e : mhB (all.map RtH.pure) p j k = decide (rtCmp (rthAt all k).rt (rthAt all j).rt = 0) := by
    unfold mhB
    rw [oAt_map c, oAt_map cj, rpCmp_pure]
    have : (rthAt all k).pure.pfx = p := h
    simp [this]
  rw [e, oAt_map c]
  by_cases z : rtCmp (rthAt all k).rt (rthAt all j).rt = 0 <;> simp [z, RtH.pure]

theorem mh_len {all : List RtH} {p : Ls.Pfx} {M : Nat} (hM : ∀ x ∈ all, x.hops.length ≤ M) {j : Nat} (cj : j < all.length) : ∀ k, k ≤ all.length → (mh (all.map RtH.pure) p j k).length ≤ (k + 1) * M := by
  have hm : ∀ i, i < all.length → (oAt (all.map RtH.pure) i).hops.length ≤ M := fun i hi => by
    rw [oAt_map hi, rthAt_eq hi]; exact hM _ (List.getElem_mem hi)
  intro k
  induction k with
  | zero => intro _; rw [mh]; have := hm j cj; omega
  | succ k ih =>
    intro c
    have h1 := ih (by omega)
    rw [mh]
    have h2 := hm k (by omega)
    rw [Nat.succ_mul]
    split
    · have h3 := Ls.merge_length_le (lt := Ls.hopLt) (mh (all.map RtH.pure) p j k) (oAt (all.map RtH.pure) k).hops
      omega
    · omega

/-- behind i prefixes -/
structure Ro (wE : World) (vP : Value) (PS : List Ls.Pfx) (offs : List Rp) (i : Nat) (out : List RtH) (vO : Value) (wr : World) : Prop where
  r1 : R1 wE out [] vO (.slice none 0 0) wr
  ps : PfxsAt wr vP PS
  np : ∀ b off n c, vP = .slice (some ⟨b, off, none⟩) n c → 0 < PS.length → vO.ownBlock ≠ some b
  eq : out.map RtH.pure = (PS.take i).map (rfBest offs)
  hi : i ≤ PS.length

theorem Ro.start {wE w2 : World} {vP : Value} {PS : List Ls.Pfx} (offs : List Rp) (B : Below (wE.alloc (.cells #[] 36)).heap.size (wE.alloc (.cells #[] 36)) w2) (ps : PfxsAt w2 vP PS) :
    Ro wE vP PS offs 0 [] (.slice (some ⟨wE.heap.size, 0, none⟩) 0 0) w2 := by
  refine ⟨(R1.start1 wE).below B, ps, ?_, rfl, Nat.zero_le _⟩
  intro b off n c e h0 z
  have hb : wE.heap.size = b := by simpa [Value.ownBlock] using z
  subst hb
  have hk := (B.block wE.heap.size (by simp)).trans (alloc_new wE _)
  obtain ⟨a, cap, e', -, hc⟩ := ps.get
  obtain ⟨b', off', ea, -, hcc⟩ := hc h0
  rw [e, ea] at e'
  cases e'
  have h1 := (hcc 0 h0).1
  simp [World.cell?, hk] at h1

theorem Ro.below {wE : World} {vP : Value} {PS : List Ls.Pfx} {offs : List Rp} {i : Nat} {out : List RtH} {vO : Value} {wr W' : World} (R : Ro wE vP PS offs i out vO wr) (g : Below wr.heap.size wr W') : Ro wE vP PS offs i out vO W' :=
  ⟨R.r1.below g, R.ps.below g, R.np, R.eq, R.hi⟩

theorem Ro.push {wE : World} {vP : Value} {PS : List Ls.Pfx} {offs : List Rp} {i : Nat} {out : List RtH} {vO v' : Value} {W W' : World} (R : Ro wE vP PS offs i out vO W) (c : i < PS.length) {x : RtH} (hp : x.pure = rfBest offs PS[i]) (hx : HopsAt W x.rt.hv x.hops)
    (nx : 0 < x.hops.length → ∀ b off n c, x.rt.hv = .slice (some ⟨b, off, none⟩) n c → vO.ownBlock ≠ some b)
    (own' : W'.ownsRow wE.heap.size 36 9 v' ((out.map RtH.rt).length + 1) (((out.map RtH.rt).map rtE).flatten ++ rtE x.rt)) (hg : W.grownBy W' vO.ownBlock)
    (d : v'.ownBlock = vO.ownBlock ∨ v'.ownBlock = some W.heap.size) : Ro wE vP PS offs (i + 1) (out ++ [x]) v' W' := by
  have h0 : 0 < PS.length := by omega
  refine ⟨R.r1.stepA hx (fun h b off n c e => ⟨nx h b off n c e, by simp [Value.ownBlock]⟩) own' hg d, ?_, ?_, ?_, c⟩
  · exact SlV.kept R.ps hg fun b off n c e => R.np b off n c e h0
  · intro b off n c e _
    have h1 := R.np b off n c e h0
    obtain ⟨a, cap, e', -, hc⟩ := R.ps.get
    obtain ⟨b', off', ea, hb, -⟩ := hc h0
    rw [e, ea] at e'
    cases e'
    rcases d with d | d
    · rw [d]; exact h1
    · rw [d]; intro z; cases z; omega
  · rw [List.map_append, R.eq, List.take_succ_eq_append_getElem c, List.map_append, List.map_singleton, List.map_singleton, hp]

/-- the route that is made of offer j, behind k offers -/
structure Rb (all : List RtH) (p : Ls.Pfx) (j : Nat) (W : World) (vO : Value) (k : Nat) (a : Option Addr) (n c : Nat) (wr : World) : Prop where
  hk : k ≤ all.length
  blk : wr.heap[W.heap.size]? = some (.cells (rtE ((rthAt all j).pure.rt a n c)).toArray 36 (0, 0))
  hops : HopsAt wr (.slice a n c) (mh (all.map RtH.pure) p j k)
  nb : 0 < (mh (all.map RtH.pure) p j k).length → ∀ b off, a = some ⟨b, off, none⟩ → b ≠ W.heap.size ∧ vO.ownBlock ≠ some b
  bel : Below W.heap.size W wr

theorem Rb.start {all : List RtH} {p : Ls.Pfx} {j : Nat} {wE W : World} {vO vX vA vB : Value} {out : List RtH} {ps qs : List Ls.Pfx} {w0 : World} (R : R1 wE out ps vO vX W) (RA : R1 w0 all qs vA vB wE) (cj : j < all.length) :
    Rb all p j W vO 0 (rthAt all j).rt.ha (rthAt all j).rt.hn (rthAt all j).rt.hc (W.alloc (.cells (rtE (rthAt all j).rt).toArray 36)) := by
  have hm : rthAt all j ∈ all := by rw [rthAt_eq cj]; exact List.getElem_mem cj
  have hE := RA.hps _ hm
  have e : mh (all.map RtH.pure) p j 0 = (rthAt all j).hops := by rw [mh, oAt_map cj]; rfl
  have g : Below W.heap.size W (W.alloc (.cells (rtE (rthAt all j).rt).toArray 36)) := (Below.refl _ _).alloc (Nat.le_refl _) _
  refine ⟨Nat.zero_le _, alloc_new W _, ?_, ?_, g⟩
  · rw [e]; exact (hE.below R.bel).below g
  · rw [e]
    intro h0 b off ha
    have hlt : b < wE.heap.size := hop_lt hE h0 (by unfold Rt.hv; rw [ha])
    have := R.bel.size
    exact ⟨by omega, fun z => by have := (R.ownA.lt b z).1; omega⟩

theorem Rb.skip {all : List RtH} {p : Ls.Pfx} {j : Nat} {W : World} {vO : Value} {k : Nat} {a : Option Addr} {n c : Nat} {wr W' : World} (R : Rb all p j W vO k a n c wr) (ck : k < all.length) (h : mh (all.map RtH.pure) p j (k + 1) = mh (all.map RtH.pure) p j k) (g : Below wr.heap.size wr W') : Rb all p j W vO (k + 1) a n c W' :=
  ⟨ck, (g.block _ (blk_lt R.blk)).trans R.blk, by rw [h]; exact R.hops.below g, by rw [h]; exact R.nb, R.bel.trans (g.mono R.bel.size)⟩

/-- behind Merge, the box is written -/
theorem Rb.put {all : List RtH} {p : Ls.Pfx} {j : Nat} {W : World} {vO : Value} {k : Nat} {a a' : Option Addr} {n c n' c' : Nat} {wr w1 w2 : World} (R : Rb all p j W vO k a n c wr) (ck : k < all.length) (hO : ∀ b, vO.ownBlock = some b → b < W.heap.size)
    (h : mh (all.map RtH.pure) p j (k + 1) = Ls.merge Ls.hopLt (mh (all.map RtH.pure) p j k) (rthAt all k).hops) (g : Below wr.heap.size wr w1)
    (O : HopsOwn w1.heap.size w2 (.slice a' n' c') (Ls.merge Ls.hopLt (mh (all.map RtH.pure) p j k) (rthAt all k).hops)) (B : Below w1.heap.size w1 w2) :
    Rb all p j W vO (k + 1) a' n' c' (w2.setCell ⟨W.heap.size, 8, none⟩ (.slice a' n' c')) ∧ (∃ u, w2.cell? ⟨W.heap.size, 8, none⟩ = some u) ∧ w2.frozen? ⟨W.heap.size, 8, none⟩ = false := by
  have hs := blk_lt R.blk
  have g2 : Below wr.heap.size wr w2 := g.trans (B.mono g.size)
  have hb := (g2.block _ hs).trans R.blk
  obtain ⟨⟨-, -, -, -, -, -, -, -, q8⟩, hf⟩ := blk9 hb
  have hlt : W.heap.size < w1.heap.size := Nat.lt_of_lt_of_le hs g.size
  have N := HopsOwn.new O (Nat.le_refl _)
  refine ⟨⟨ck, ?_, ?_, ?_, ?_⟩, ⟨_, q8⟩, hf 8⟩
  · have h1 := blk_set hb 8 (.slice a' n' c')
    simp only [rtE, List.setIfInBounds_toArray, List.set_cons_zero, List.set_cons_succ] at h1
    exact h1
  · rw [h]; exact (O.other ⟨W.heap.size, 8, none⟩ _ hlt).at
  · intro _ b off ha
    have h1 := N b off n' c' (by rw [ha])
    exact ⟨by omega, fun z => by have := hO b z; omega⟩
  · exact (R.bel.trans (g2.mono R.bel.size)).setCell (Nat.le_refl _) _

theorem Rb.rt {all : List RtH} {p : Ls.Pfx} {j : Nat} (cj : j < all.length) (hb : bst (all.map RtH.pure) p all.length = some j) (a : Option Addr) (n c : Nat) :
    (⟨(rthAt all j).pure.rt a n c, mh (all.map RtH.pure) p j all.length⟩ : RtH).pure = rfBest (all.map RtH.pure) p := by
  unfold rfBest
  rw [List.length_map, hb]
  simp only []
  rw [oAt_map cj]
  rfl

def RrPost (w : World) (offs : List Rp) (e : Ending) (w' : World) : Prop := ∃ v l, e = .returned v ∧ RoutesAt w' v l ∧ l.map RtH.pure = rfRoutes offs ∧ Below w.heap.size w w'

theorem Ro.post {w wE : World} {vP : Value} {all out : List RtH} {vO : Value} {wr : World} {i : Nat} (hw : Below w.heap.size w wE)
    (R : Ro wE vP (Ls.adds Ls.pfxLt [] (all.map fun x => x.rt.pfx)) (all.map RtH.pure) i out vO wr) (hi : i = (Ls.adds Ls.pfxLt [] (all.map fun x => x.rt.pfx)).length) : RrPost w (all.map RtH.pure) (.returned vO) wr := by
  refine ⟨vO, out, rfl, R.r1.at, ?_, hw.trans (R.r1.bel.mono hw.size)⟩
  rw [R.eq, hi, List.take_length]
  unfold rfRoutes
  rw [List.map_map]; rfl

end Go.Proofs.YtiemmejpaahbpaaGreat
