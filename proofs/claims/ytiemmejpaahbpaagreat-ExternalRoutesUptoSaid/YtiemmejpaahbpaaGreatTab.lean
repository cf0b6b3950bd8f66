/-
  The table of the best external routes: plain mathematics, and how it lies in memory.
-/
import Derived.Test.YtiemmejpaahbpaaGreatOfl
import Derived.Test.YtiemmejpaahbpaaGreatMap
namespace Go.Proofs.YtiemmejpaahbpaaGreat
open Go.RowKit

theorem Tryz.infoRt : (Tryz.prog.info? 36).map (fun i => (i.zero, i.size, i.bytes)) = some (some (.agg #[.int .u32 0, .int .i64 0, .int .i64 0, .int .u32 0, .int .i64 0, .bool false, .int .i64 0, .int .i64 0, .slice none 0 0]), 9, 88) := by kernel_rfl
theorem Tryz.zeroRt (w : World) : (zeroValue 36).run Tryz.prog w = .ok (.agg #[.int .u32 0, .int .i64 0, .int .i64 0, .int .u32 0, .int .i64 0, .bool false, .int .i64 0, .int .i64 0, .slice none 0 0]) w := by kernel_rfl

def rtV (x : RtH) : Value := .agg (rtE x.rt).toArray

def rpCmp (a b : Rp) : Int := rtCmp (a.rt none 0 0) (b.rt none 0 0)
theorem rpCmp_pure (a b : RtH) : rpCmp a.pure b.pure = rtCmp a.rt b.rt := rfl

/-- does an advertisement come into question? -/
def offK (router : Int) (x : Lsa) : Bool := decide (x.typ = 5) && decide (x.age < 3600) && !decide (x.router = router)

abbrev Tab := Ls.Pfx → Option Rp

def tabAdd (g : Tab) (r : Rp) : Tab :=
  match g r.pfx with
  | none => upd g r.pfx r
  | some old => if rpCmp r old < 0 then upd g r.pfx r else if rpCmp r old = 0 then upd g r.pfx { old with hops := Ls.merge Ls.hopLt old.hops r.hops } else g

def tabStep (router : Int) (reach : List Rch) (inner : List RtH) (g : Tab) (x : Lsa) : Tab :=
  if (offK router x && offOk x reach inner) = true then tabAdd g (offR x reach inner) else g
def tabOf (router : Int) (reach : List Rch) (inner : List RtH) (db : List Lsa) : Tab := db.foldl (tabStep router reach inner) (fun _ => none)

/-- the table lies in block mb -/
structure TabAt (wr : World) (mb n : Nat) (g : Tab) (f : Ls.Pfx → Option RtH) : Prop where
  map : MapF Tryz.prog 33 pfxOk pfxLit rtV wr mb n f
  val : ∀ p, (f p).map RtH.pure = g p
  hops : ∀ p x, f p = some x → HopsAt wr x.rt.hv x.hops

theorem TabAt.grow {wr wr' : World} {mb n : Nat} {g : Tab} {f : Ls.Pfx → Option RtH} (h : TabAt wr mb n g f) (hb : Below wr.heap.size wr wr') : TabAt wr' mb n g f :=
  ⟨h.map.grow hb, h.val, fun p x hp => (h.hops p x hp).below hb⟩
theorem TabAt.mono {wr : World} {mb n n' : Nat} {g : Tab} {f : Ls.Pfx → Option RtH} (h : TabAt wr mb n g f) (hn : n ≤ n') : TabAt wr mb n' g f := ⟨h.map.mono hn, h.val, h.hops⟩

/-- hops do not lie in a map's block -/
theorem HopsAt.grown {w w' : World} {v : Value} {l : List Ls.Hop} {mb : Nat} (h : HopsAt w v l) (hm : ∀ o v, w.cell? ⟨mb, o, none⟩ ≠ some v) (hg : w.grownBy w' (some mb)) : HopsAt w' v l := by
  obtain ⟨a, cap, rfl, h1, h2, hn, h3⟩ := h
  refine ⟨a, cap, rfl, h1, h2, hn, fun h0 => ?_⟩
  obtain ⟨b, off, rfl, h4, h5⟩ := h3 h0
  refine ⟨b, off, rfl, Nat.lt_of_lt_of_le h4 hg.size, fun i h j u hu => ?_⟩
  have hc := h5 i h j u hu
  have hne : b ≠ mb := by rintro rfl; exact hm _ _ hc
  exact hg.cell hc (by simpa using hne)

theorem MapF.noCell {P : Program} {k : TypeId} {α β : Type} {ok : α → Prop} {lit : α → Lit} {mkV : β → Value} {w : World} {b n : Nat} {f : α → Option β} (h : MapF P k ok lit mkV w b n f) (o : Nat) (v : Value) : w.cell? ⟨b, o, none⟩ ≠ some v := by
  obtain ⟨D, ⟨es, clock, hb, _⟩, _⟩ := h
  simp [World.cell?, hb]

theorem upd_map (f : Ls.Pfx → Option RtH) (p : Ls.Pfx) (x : RtH) (q : Ls.Pfx) : (upd f p x q).map RtH.pure = upd (fun q => (f q).map RtH.pure) p x.pure q := by
  unfold upd; split <;> rfl

/-- a store into the table -/
theorem TabAt.put {wr w1 : World} {mb n n' : Nat} {g : Tab} {f : Ls.Pfx → Option RtH} (h : TabAt wr mb n g f) (x : RtH) (hm : MapF Tryz.prog 33 pfxOk pfxLit rtV w1 mb n' (upd f x.rt.pfx x)) (hg : wr.grownBy w1 (some mb)) (hx : HopsAt wr x.rt.hv x.hops) :
    TabAt w1 mb n' (upd g x.pure.pfx x.pure) (upd f x.rt.pfx x) := by
  refine ⟨hm, fun p => ?_, fun p y hp => ?_⟩
  · rw [upd_map]
    have e : (fun q => (f q).map RtH.pure) = g := funext h.val
    rw [e]; rfl
  · unfold upd at hp
    split at hp
    · cases hp; exact hx.grown h.map.noCell hg
    · exact (h.hops p y hp).grown h.map.noCell hg

end Go.Proofs.YtiemmejpaahbpaaGreat
