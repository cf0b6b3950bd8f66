/-
  routingref34.Routes: the offers gathered: two rows that grow side by side.
-/
import Derived.Test.YtiemmejpaahbpaaGreatRrp
import Derived.Test.YtiemmejpaahbpaaGreatPfs
import Derived.Test.YtiemmejpaahbpaaGreatSrr
import Derived.Test.YtiemmejpaahbpaaGreatApo
namespace Go.Proofs.YtiemmejpaahbpaaGreat
open Go.RowKit

theorem Tryz.infoOffer : (Tryz.prog.info? 70).map (fun i => (i.zero, i.size, i.bytes)) = some (some (.agg #[.int .u32 0, .int .i64 0, .int .i64 0, .slice none 0 0]), 4, 48) := by kernel_rfl

/-- two rows that grow side by side: the offers' routes, and their prefixes -/
structure R1 (w : World) (all : List RtH) (ps : List Ls.Pfx) (vA vB : Value) (wr : World) : Prop where
  ownA : RtsOwn w.heap.size wr vA (all.map RtH.rt)
  ownB : wr.ownsRow w.heap.size 70 4 vB ps.length (ps.map offE).flatten
  hps : ∀ x ∈ all, HopsAt wr x.rt.hv x.hops
  ne : ∀ j, vA.ownBlock = some j → vB.ownBlock ≠ some j
  nh : ∀ x ∈ all, 0 < x.hops.length → ∀ b off n c, x.rt.hv = .slice (some ⟨b, off, none⟩) n c → vA.ownBlock ≠ some b ∧ vB.ownBlock ≠ some b
  bel : Below w.heap.size w wr

theorem R1.below {w : World} {all : List RtH} {ps : List Ls.Pfx} {vA vB : Value} {wr w' : World} (R : R1 w all ps vA vB wr) (hb : Below wr.heap.size wr w') : R1 w all ps vA vB w' :=
  ⟨World.ownsRow.kept (row := none) R.ownA ⟨hb.os, hb.tape, hb.output, hb.size, fun k hk _ => hb.block k hk⟩ (by cases vA.ownBlock <;> simp),
   World.ownsRow.kept (row := none) R.ownB ⟨hb.os, hb.tape, hb.output, hb.size, fun k hk _ => hb.block k hk⟩ (by cases vB.ownBlock <;> simp),
   fun x hx => (R.hps x hx).below hb, R.ne, R.nh, R.bel.trans (hb.mono R.bel.size)⟩

theorem hop_lt {w : World} {v : Value} {l : List Ls.Hop} (h : HopsAt w v l) (h0 : 0 < l.length) {b off n c : Nat} (e : v = .slice (some ⟨b, off, none⟩) n c) : b < w.heap.size := by
  obtain ⟨a, cap, e1, -, -, -, h4⟩ := h.get
  obtain ⟨b', off', ea, hb, -⟩ := h4 h0
  rw [e, ea] at e1
  cases e1
  exact hb

/-- the row of routes has grown -/
theorem R1.stepA {w : World} {all : List RtH} {ps : List Ls.Pfx} {vA vB v' : Value} {W W' : World} (R : R1 w all ps vA vB W) {x : RtH} (hx : HopsAt W x.rt.hv x.hops)
    (nx : 0 < x.hops.length → ∀ b off n c, x.rt.hv = .slice (some ⟨b, off, none⟩) n c → vA.ownBlock ≠ some b ∧ vB.ownBlock ≠ some b)
    (own' : W'.ownsRow w.heap.size 36 9 v' ((all.map RtH.rt).length + 1) (((all.map RtH.rt).map rtE).flatten ++ rtE x.rt)) (hg : W.grownBy W' vA.ownBlock)
    (d : v'.ownBlock = vA.ownBlock ∨ v'.ownBlock = some W.heap.size) : R1 w (all ++ [x]) ps v' vB W' := by
  have keep : ∀ y : RtH, HopsAt W y.rt.hv y.hops → (0 < y.hops.length → ∀ b off n c, y.rt.hv = .slice (some ⟨b, off, none⟩) n c → vA.ownBlock ≠ some b ∧ vB.ownBlock ≠ some b) → HopsAt W' y.rt.hv y.hops := by
    intro y hy ny
    obtain ⟨a, cap, e, h1, h2, h3, h4⟩ := hy
    refine ⟨a, cap, e, h1, h2, h3, fun h0 => ?_⟩
    obtain ⟨b, off, ea, h5, h6⟩ := h4 h0
    subst ea
    have := (ny (by simpa using h0) b off _ _ e).1
    exact ⟨b, off, rfl, Nat.lt_of_lt_of_le h5 hg.size, fun i hi j u hu => (World.cell?_of_block (w := W) (w' := W') (hg.block b h5 (fun z => this z.symm))).trans (h6 i hi j u hu)⟩
  have newne : ∀ b, b < W.heap.size → vA.ownBlock ≠ some b → v'.ownBlock ≠ some b := by
    intro b hb hn
    rcases d with d | d
    · rw [d]; exact hn
    · rw [d]; intro z; cases z; omega
  refine ⟨?_, World.ownsRow.kept R.ownB hg ?_, ?_, ?_, ?_, R.bel.grown hg R.bel.size fun j hj => (R.ownA.lt j hj).1⟩
  · unfold RtsOwn
    have e : ((all ++ [x]).map RtH.rt).length = (all.map RtH.rt).length + 1 := by simp
    have e2 : (((all ++ [x]).map RtH.rt).map rtE).flatten = ((all.map RtH.rt).map rtE).flatten ++ rtE x.rt := by simp
    rw [e, e2]; exact own'
  · cases hB : vB.ownBlock with
    | none => exact .inl rfl
    | some j => exact .inr fun z => R.ne j z.symm hB
  · intro y hy
    rcases List.mem_append.1 hy with hy | hy
    · exact keep y (R.hps y hy) (R.nh y hy)
    · rw [List.mem_singleton.1 hy]; exact keep x hx nx
  · intro j hj hB
    have h1 := (R.ownB.lt j hB).2
    rcases d with d | d
    · exact R.ne j (d ▸ hj) hB
    · rw [d] at hj; cases hj; omega
  · intro y hy h0 b off n c e
    rcases List.mem_append.1 hy with hy | hy
    · have h1 := R.nh y hy h0 b off n c e
      exact ⟨newne b (hop_lt (R.hps y hy) h0 e) h1.1, h1.2⟩
    · rw [List.mem_singleton.1 hy] at h0 e
      have h1 := nx h0 b off n c e
      exact ⟨newne b (hop_lt hx h0 e) h1.1, h1.2⟩

/-- the row of prefixes has grown -/
theorem R1.stepB {w : World} {all : List RtH} {ps : List Ls.Pfx} {vA vB v' : Value} {W W' : World} (R : R1 w all ps vA vB W) {p : Ls.Pfx}
    (own' : W'.ownsRow w.heap.size 70 4 v' (ps.length + 1) ((ps.map offE).flatten ++ offE p)) (hg : W.grownBy W' vB.ownBlock)
    (d : v'.ownBlock = vB.ownBlock ∨ v'.ownBlock = some W.heap.size) : R1 w all (ps ++ [p]) vA v' W' := by
  have keep : ∀ y : RtH, HopsAt W y.rt.hv y.hops → (0 < y.hops.length → ∀ b off n c, y.rt.hv = .slice (some ⟨b, off, none⟩) n c → vA.ownBlock ≠ some b ∧ vB.ownBlock ≠ some b) → HopsAt W' y.rt.hv y.hops := by
    intro y hy ny
    obtain ⟨a, cap, e, h1, h2, h3, h4⟩ := hy
    refine ⟨a, cap, e, h1, h2, h3, fun h0 => ?_⟩
    obtain ⟨b, off, ea, h5, h6⟩ := h4 h0
    subst ea
    have := (ny (by simpa using h0) b off _ _ e).2
    exact ⟨b, off, rfl, Nat.lt_of_lt_of_le h5 hg.size, fun i hi j u hu => (World.cell?_of_block (w := W) (w' := W') (hg.block b h5 (fun z => this z.symm))).trans (h6 i hi j u hu)⟩
  have newne : ∀ b, b < W.heap.size → vB.ownBlock ≠ some b → v'.ownBlock ≠ some b := by
    intro b hb hn
    rcases d with d | d
    · rw [d]; exact hn
    · rw [d]; intro z; cases z; omega
  refine ⟨World.ownsRow.kept R.ownA hg ?_, ?_, fun y hy => keep y (R.hps y hy) (R.nh y hy), ?_, ?_, R.bel.grown hg R.bel.size fun j hj => (R.ownB.lt j hj).1⟩
  · cases hA : vA.ownBlock with
    | none => exact .inl rfl
    | some j => exact .inr fun z => R.ne j hA z.symm
  · have e : (ps ++ [p]).length = ps.length + 1 := by simp
    have e2 : ((ps ++ [p]).map offE).flatten = (ps.map offE).flatten ++ offE p := by simp
    rw [e, e2]; exact own'
  · intro j hj
    exact newne j (R.ownA.lt j hj).2 (R.ne j hj)
  · intro y hy h0 b off n c e
    have h1 := R.nh y hy h0 b off n c e
    exact ⟨h1.1, newne b (hop_lt (R.hps y hy) h0 e) h1.2⟩

end Go.Proofs.YtiemmejpaahbpaaGreat
