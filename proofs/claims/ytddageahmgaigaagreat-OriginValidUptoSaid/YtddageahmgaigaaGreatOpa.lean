import Derived.Test.YtddageahmgaigaaGreatSla
import Derived.Test.YtddageahmgaigaaGreatLcl
import Derived.Test.YtddageahmgaigaaGreatRows
import Derived.ProofKit
import Derived.OpenShut
import Derived.WideKeyArgs
import Derived.Deep.Slices
import Derived.Deep.Fields
import Derived.Below
namespace Go.Proofs.YtddageahmgaigaaGreat
open Go.ChangeShapes Go.WideShapes Go.ChangeAt Go.RowKit Go.Deep

theorem u32_of_wf {n : Int} (h : (Lit.int .u32 n).wf = true) : 0 ≤ n ∧ n < 4294967296 := by
  have m0 : IntKind.u32.min = 0 := by decide
  have m1 : IntKind.u32.max = 4294967295 := by decide
  simp [Lit.wf, m0, m1] at h
  omega

theorem bulkAll_len {H : Type} (l : List (DataW H)) : l.length ≤ Rows.uptoBulkAll l := by
  induction l with
  | nil => simp [Rows.uptoBulkAll]
  | cons x r ih =>
    have : 1 ≤ Rows.uptoBulk x := by
      cases x with
      | lit l => cases l <;> simp [Rows.uptoBulk]
      | _ => simp [Rows.uptoBulk]
    simp only [Rows.uptoBulkAll, List.length_cons]; omega

theorem sum_bulk {H α : Type} (m : α → Nat) (f : Nat → α) (D : Nat → DataW H) : ∀ (n k : Nat), (∀ i, k ≤ i → i < k + n → m (f i) ≤ Rows.uptoBulk (D i)) → (((List.range' k n).map f).map m).sum ≤ Rows.uptoBulkAll ((List.range' k n).map D)
  | 0, _, _ => by simp
  | n + 1, k, h => by
    have h1 := sum_bulk m f D n (k + 1) fun i a b => h i (by omega) (by omega)
    have h2 := h k (Nat.le_refl _) (by omega)
    simp only [List.range'_succ, List.map_cons, List.sum_cons, Rows.uptoBulkAll] at *
    omega

section
variable {H : Type} {enc : TypeId × Value → H} {W : World}

theorem slv_openb {α : Type} (α0 : α) {t e : TypeId} {k : Nat} (elE : α → List Value) (good : α → Prop) (m : α → Nat) (ht : Tryz.prog.underlying t = some (.slice e)) (hk : Tryz.prog.cellsOf e = k) (k0 : 0 < k) (hlen : ∀ a, (elE a).length = k)
    (hopen : ∀ n cs (x : DataW H × List MemPlace), DataW.trod enc Tryz.prog W 0 (fun _ => true) true n e cs = some x → ∃ a, cs = elE a ∧ good a ∧ m a ≤ Rows.uptoBulk x.1)
    {fuel : Nat} {v : Value} {x : DataW H × List MemPlace} (h : DataW.trod enc Tryz.prog W 0 (fun _ => true) true fuel t [v] = some x) :
    ∃ (a0 : Option Addr) (cap : Nat) (l : List α), v = .slice a0 l.length cap ∧ SlV k W v (l.map elE) ∧ (∀ a ∈ l, good a) ∧ l.length + 1 ≤ Rows.uptoBulk x.1 ∧ (l.map m).sum + 1 ≤ Rows.uptoBulk x.1 := by
  subst hk
  rcases open_slice ht h with ⟨hcs, hx⟩ | ⟨a, len, cap, mm, n, D, Pl, hcs, _, hl, hm, hmm, hx, hi⟩
  · refine ⟨none, 0, [], by simpa using hcs, ⟨none, 0, by simpa using hcs, Nat.zero_le _, Nat.zero_le _, fun _ => rfl, fun h => by simp at h⟩, (fun a h => by simp at h), ?_, ?_⟩ <;> rw [hx] <;> simp [Rows.uptoBulk]
  · have hv : v = .slice (some a) len cap := by simpa using hcs
    subst hv
    have hmm : mm = cap := hmm
    subst hmm
    have each : ∀ i, i < mm → ∃ b : α, (good b ∧ m b ≤ Rows.uptoBulk (D i)) ∧ ∀ j u, (elE b)[j]? = some u → W.cell? ((a.add (i * Tryz.prog.cellsOf e)).add j) = some u := by
      intro i him
      obtain ⟨cs', hc, ht'⟩ := hi i him
      obtain ⟨b, hb, hg, hgm⟩ := hopen _ _ _ ht'
      obtain ⟨_, hcl, hat⟩ := World.cells?_some hc
      subst hb
      refine ⟨b, ⟨hg, hgm⟩, fun j u hu => ?_⟩
      have hj : j < (elE b).length := by
        rcases Nat.lt_or_ge j (elE b).length with h | h
        · exact h
        · rw [List.getElem?_eq_none h] at hu; cases hu
      rw [hat j (by rw [← hcl]; exact hj), hu]
    obtain ⟨f, hf⟩ : ∃ f : Nat → α, ∀ i, i < mm → (good (f i) ∧ m (f i) ≤ Rows.uptoBulk (D i)) ∧ ∀ j u, (elE (f i))[j]? = some u → W.cell? ((a.add (i * Tryz.prog.cellsOf e)).add j) = some u :=
      ⟨fun i => if h : i < mm then Classical.choose (each i h) else α0, fun i h => by simp only [dif_pos h]; exact Classical.choose_spec (each i h)⟩
    have hb : Rows.uptoBulkAll ((List.range len).map D) + 1 ≤ Rows.uptoBulk x.1 := by rw [hx]; simp only [Rows.uptoBulk]; omega
    refine ⟨some a, mm, (List.range len).map f, by simp, ⟨some a, mm, by simp, by simpa using hl, by assumption, (fun h => by cases h), fun hpos => ?_⟩, fun b hb => ?_, ?_, ?_⟩
    · have hpos : 0 < len := by simpa using hpos
      obtain ⟨b, off, spot⟩ := a
      obtain ⟨u0, hu0⟩ : ∃ u, (elE (f 0))[0]? = some u := ⟨_, List.getElem?_eq_getElem (by rw [hlen]; exact k0)⟩
      have c0 := (hf 0 (by omega)).2 0 u0 hu0
      rw [Go.Deep.add_add] at c0
      have hspot : spot = none := by simpa [Addr.add] using World.cell?_spot c0
      subst hspot
      refine ⟨b, off, rfl, ?_, fun i hi j u hu => ?_⟩
      · exact World.block_lt_of_cell? W _ (by rw [add_plain] at c0; exact c0)
      · have hi' : i < len := by simpa using hi
        have := (hf i (by omega)).2 j u (by simpa using hu)
        rw [Go.Deep.add_add] at this
        simpa [add_plain, Nat.add_assoc] using this
    · obtain ⟨i, hi, rfl⟩ := List.mem_map.1 hb
      exact (hf i (by have := List.mem_range.1 hi; omega)).1.1
    · have := bulkAll_len ((List.range len).map D)
      simp only [List.length_map, List.length_range] at this ⊢
      omega
    · have := sum_bulk m f D len 0 fun i _ hi => (hf i (by omega)).1.2
      rw [← List.range_eq_range'] at this
      omega

set_option maxRecDepth 100000 in
theorem hdr_open (n : Nat) (cs : List Value) (x : DataW H × List MemPlace) (h : DataW.trod enc Tryz.prog W 0 (fun _ => true) true n 37 cs = some x) : ∃ t id len r seq age sum : Int, cs = [.int .i64 t, .int .u32 id, .int .i64 len, .int .u32 r, .int .i64 seq, .int .i64 age, .int .i64 sum] ∧ 0 ≤ id ∧ id < 4294967296 ∧ 0 ≤ r ∧ r < 4294967296 := by
  obtain ⟨xs, m, _, hx0, hcl, hxl, hf⟩ := DataW.trod_struct Tryz.underlying37 h
  rw [show Tryz.prog.cellsOf 37 = 7 from by kernel_rfl] at hcl
  match cs, hcl with
  | [c0, c1, c2, c3, c4, c5, c6], _ =>
    have hx : xs.length = 7 := hxl
    match xs, hx with
    | [x0, x1, x2, x3, x4, x5, x6], _ =>
      have f0 : DataW.trod enc Tryz.prog W 0 (fun _ => true) true m 3 (([c0, c1, c2, c3, c4, c5, c6].drop 0).take (Tryz.prog.cellsOf 3)) = some x0 := hf 0 _ rfl
      rw [show Tryz.prog.cellsOf 3 = 1 from by kernel_rfl] at f0
      obtain ⟨n0, e0, _, w0⟩ := DataW.trod_int Tryz.underlying3 f0
      simp at e0
      have f1 : DataW.trod enc Tryz.prog W 0 (fun _ => true) true m 22 (([c0, c1, c2, c3, c4, c5, c6].drop 1).take (Tryz.prog.cellsOf 22)) = some x1 := hf 1 _ rfl
      rw [show Tryz.prog.cellsOf 22 = 1 from by kernel_rfl] at f1
      obtain ⟨n1, e1, _, w1⟩ := DataW.trod_int Tryz.underlying22 f1
      simp at e1
      have f2 : DataW.trod enc Tryz.prog W 0 (fun _ => true) true m 3 (([c0, c1, c2, c3, c4, c5, c6].drop 2).take (Tryz.prog.cellsOf 3)) = some x2 := hf 2 _ rfl
      rw [show Tryz.prog.cellsOf 3 = 1 from by kernel_rfl] at f2
      obtain ⟨n2, e2, _, w2⟩ := DataW.trod_int Tryz.underlying3 f2
      simp at e2
      have f3 : DataW.trod enc Tryz.prog W 0 (fun _ => true) true m 22 (([c0, c1, c2, c3, c4, c5, c6].drop 3).take (Tryz.prog.cellsOf 22)) = some x3 := hf 3 _ rfl
      rw [show Tryz.prog.cellsOf 22 = 1 from by kernel_rfl] at f3
      obtain ⟨n3, e3, _, w3⟩ := DataW.trod_int Tryz.underlying22 f3
      simp at e3
      have f4 : DataW.trod enc Tryz.prog W 0 (fun _ => true) true m 3 (([c0, c1, c2, c3, c4, c5, c6].drop 4).take (Tryz.prog.cellsOf 3)) = some x4 := hf 4 _ rfl
      rw [show Tryz.prog.cellsOf 3 = 1 from by kernel_rfl] at f4
      obtain ⟨n4, e4, _, w4⟩ := DataW.trod_int Tryz.underlying3 f4
      simp at e4
      have f5 : DataW.trod enc Tryz.prog W 0 (fun _ => true) true m 3 (([c0, c1, c2, c3, c4, c5, c6].drop 5).take (Tryz.prog.cellsOf 3)) = some x5 := hf 5 _ rfl
      rw [show Tryz.prog.cellsOf 3 = 1 from by kernel_rfl] at f5
      obtain ⟨n5, e5, _, w5⟩ := DataW.trod_int Tryz.underlying3 f5
      simp at e5
      have f6 : DataW.trod enc Tryz.prog W 0 (fun _ => true) true m 3 (([c0, c1, c2, c3, c4, c5, c6].drop 6).take (Tryz.prog.cellsOf 3)) = some x6 := hf 6 _ rfl
      rw [show Tryz.prog.cellsOf 3 = 1 from by kernel_rfl] at f6
      obtain ⟨n6, e6, _, w6⟩ := DataW.trod_int Tryz.underlying3 f6
      simp at e6
      have hB : Rows.uptoBulk x.1 = Rows.uptoBulkAll ([x0, x1, x2, x3, x4, x5, x6].map (·.1)) + 1 := by rw [hx0]; simp only [Rows.uptoBulk]
      simp only [List.map_cons, List.map_nil, Rows.uptoBulkAll] at hB
      have h1 := u32_of_wf w1
      have h3 := u32_of_wf w3
      subst e0 e1 e2 e3 e4 e5 e6
      exact ⟨n0, n1, n2, n3, n4, n5, n6, rfl, h1.1, h1.2, h3.1, h3.2⟩

end

end Go.Proofs.YtddageahmgaigaaGreat

namespace Go.Proofs.YtddageahmgaigaaGreat
open Go.ChangeShapes Go.WideShapes Go.ChangeAt Go.RowKit

section
variable {H : Type} {enc : TypeId × Value → H} {P : Program}

theorem trodAll_stays (hl : laidOutB P = true) {W W' : World} {base : Nat} {sp' : Nat → Bool} : ∀ {ts : List TypeId} {vs : List Value} {ds : List (DataW H)} {ps : List MemPlace},
    (ts.all fun t => P.readableRec t && decide (t < P.types.size)) = true → DataW.TrodAll enc P W base (fun _ => true) true ts vs ds ps → (∀ p ∈ ps, W.sameAt W' p) → (∀ p ∈ ps, sp' p.block = true) → DataW.TrodAll enc P W' base sp' true ts vs ds ps
  | [], [], [], _, _, h, _, _ => h
  | t :: ts, v :: vs, d :: ds, _, ht, ⟨p, q, h1, h2, e⟩, hm, hs => by
    simp only [List.all_cons, Bool.and_eq_true, decide_eq_true_eq] at ht
    refine ⟨p, q, WideElems.Trod_stays hl ht.1.1 ht.1.2 h1 (fun x hx => hm x (by rw [e]; exact List.mem_append_left _ hx)) (fun x hx => hs x (by rw [e]; exact List.mem_append_left _ hx)),
      trodAll_stays hl ht.2 h2 (fun x hx => hm x (by rw [e]; exact List.mem_append_right _ hx)) (fun x hx => hs x (by rw [e]; exact List.mem_append_right _ hx)), e⟩

theorem post_true (hl : laidOutB P = true) {f : Func} {s : ChangeSpec} {apart fresh handsOn : Bool} {W W' : World} {args : Array Value} {ds : List (DataW H)} {before : List MemPlace}
    (hv : s.vars = []) (hp : (f.params.toList.all fun t => P.readableRec t && decide (t < P.types.size)) = true) (hr : f.resultTypes = #[4]) (h4 : P.underlying 4 = some .bool)
    (hfn : (s.fn H ds).results = [.lit (.bool true)] ∧ (s.fn H ds).args = ds ∧ (s.fn H ds).vars = [])
    (hW : DataW.Whole enc P f.params.toList s.vars apart W args.toList ds [] before) (hb : Below W.heap.size W W') :
    s.post enc P f apart fresh handsOn false W args (.bool true) W' := by
  have hlt := fun p hp => hW.lt p hp
  have hW' := hW
  obtain ⟨p, q, hA, hV, hpq, hz, hn⟩ := hW
  rw [hv] at hV
  obtain ⟨_, hq⟩ := trodVars_none hV
  rw [hq, List.append_nil] at hpq
  subst hpq
  refine ⟨ds, [], before, [], before, [], hW', ?_, ?_, ?_, ?_, fun h => by cases h⟩
  · rw [List.append_nil, hfn.1, hr]
    exact trodAll_cons_mk (shut_bool h4 _) trodAll_mk0
  · rw [List.append_nil, hfn.2.1]
    exact trodAll_stays hl hp hA (fun x hx => hb.same (hlt x hx)) (fun x hx => by simpa using hlt x hx)
  · rw [List.append_nil, hfn.2.2, hv]; rfl
  · exact hb.frame _

end
end Go.Proofs.YtddageahmgaigaaGreat
