/-
  A router's configuration as an argument: opened.
-/
import Derived.Test.YtombnejipaoinaaGreatNwp
import Derived.Test.YtombnejipaoinaaGreatStay
import Derived.ProofKit
import Derived.OpenShut
import Derived.WideKeyArgs
import Derived.Deep.Slices
import Derived.Deep.Fields
namespace Go.Proofs.YtombnejipaoinaaGreat
open Go.ChangeShapes Go.WideShapes Go.ChangeAt Go.RowKit Go.Deep

theorem u32_of_wf {n : Int} (h : (Lit.int .u32 n).wf = true) : 0 ≤ n ∧ n < 4294967296 := by
  have m0 : IntKind.u32.min = 0 := by decide
  have m1 : IntKind.u32.max = 4294967295 := by decide
  simp [Lit.wf, m0, m1] at h
  omega

theorem bulkAll_len {H : Type} (l : List (DataW H)) : l.length ≤ Rows.uptoBulkAll l := by
  induction l with
  | nil => simp [Rows.uptoBulkAll]
  | cons x r ih =>
    have : 1 ≤ Rows.uptoBulk x := by
      cases x with
      | lit l => cases l <;> simp [Rows.uptoBulk]
      | _ => simp [Rows.uptoBulk]
    simp only [Rows.uptoBulkAll, List.length_cons]; omega

theorem sum_bulk {H α : Type} (m : α → Nat) (f : Nat → α) (D : Nat → DataW H) : ∀ (n k : Nat), (∀ i, k ≤ i → i < k + n → m (f i) ≤ Rows.uptoBulk (D i)) → (((List.range' k n).map f).map m).sum ≤ Rows.uptoBulkAll ((List.range' k n).map D)
  | 0, _, _ => by simp
  | n + 1, k, h => by
    have h1 := sum_bulk m f D n (k + 1) fun i a b => h i (by omega) (by omega)
    have h2 := h k (Nat.le_refl _) (by omega)
    simp only [List.range'_succ, List.map_cons, List.sum_cons, Rows.uptoBulkAll] at *
    omega

section
variable {H : Type} {enc : TypeId × Value → H} {W : World}

/-- a slice opened, with what its bulk bounds -/
theorem slv_openb {α : Type} (α0 : α) {t e : TypeId} {k : Nat} (elE : α → List Value) (good : α → Prop) (m : α → Nat) (ht : Tryz.prog.underlying t = some (.slice e)) (hk : Tryz.prog.cellsOf e = k) (k0 : 0 < k) (hlen : ∀ a, (elE a).length = k)
    (hopen : ∀ n cs (x : DataW H × List MemPlace), DataW.trod enc Tryz.prog W 0 (fun _ => true) true n e cs = some x → ∃ a, cs = elE a ∧ good a ∧ m a ≤ Rows.uptoBulk x.1)
    {fuel : Nat} {v : Value} {x : DataW H × List MemPlace} (h : DataW.trod enc Tryz.prog W 0 (fun _ => true) true fuel t [v] = some x) :
    ∃ (a0 : Option Addr) (cap : Nat) (l : List α), v = .slice a0 l.length cap ∧ SlV k W v (l.map elE) ∧ (∀ a ∈ l, good a) ∧ l.length + 1 ≤ Rows.uptoBulk x.1 ∧ (l.map m).sum + 1 ≤ Rows.uptoBulk x.1 := by
  subst hk
  rcases open_slice ht h with ⟨hcs, hx⟩ | ⟨a, len, cap, mm, n, D, Pl, hcs, _, hl, hm, hmm, hx, hi⟩
  · refine ⟨none, 0, [], by simpa using hcs, ⟨none, 0, by simpa using hcs, Nat.zero_le _, Nat.zero_le _, fun _ => rfl, fun h => by simp at h⟩, (fun a h => by simp at h), ?_, ?_⟩ <;> rw [hx] <;> simp [Rows.uptoBulk]
  · have hv : v = .slice (some a) len cap := by simpa using hcs
    subst hv
    have hmm : mm = cap := hmm
    subst hmm
    have each : ∀ i, i < mm → ∃ b : α, (good b ∧ m b ≤ Rows.uptoBulk (D i)) ∧ ∀ j u, (elE b)[j]? = some u → W.cell? ((a.add (i * Tryz.prog.cellsOf e)).add j) = some u := by
      intro i him
      obtain ⟨cs', hc, ht'⟩ := hi i him
      obtain ⟨b, hb, hg, hgm⟩ := hopen _ _ _ ht'
      obtain ⟨_, hcl, hat⟩ := World.cells?_some hc
      subst hb
      refine ⟨b, ⟨hg, hgm⟩, fun j u hu => ?_⟩
      have hj : j < (elE b).length := by
        rcases Nat.lt_or_ge j (elE b).length with h | h
        · exact h
        · rw [List.getElem?_eq_none h] at hu; cases hu
      rw [hat j (by rw [← hcl]; exact hj), hu]
    obtain ⟨f, hf⟩ : ∃ f : Nat → α, ∀ i, i < mm → (good (f i) ∧ m (f i) ≤ Rows.uptoBulk (D i)) ∧ ∀ j u, (elE (f i))[j]? = some u → W.cell? ((a.add (i * Tryz.prog.cellsOf e)).add j) = some u :=
      ⟨fun i => if h : i < mm then Classical.choose (each i h) else α0, fun i h => by simp only [dif_pos h]; exact Classical.choose_spec (each i h)⟩
    have hb : Rows.uptoBulkAll ((List.range len).map D) + 1 ≤ Rows.uptoBulk x.1 := by rw [hx]; simp only [Rows.uptoBulk]; omega
    refine ⟨some a, mm, (List.range len).map f, by simp, ⟨some a, mm, by simp, by simpa using hl, by assumption, (fun h => by cases h), fun hpos => ?_⟩, fun b hb => ?_, ?_, ?_⟩
    · have hpos : 0 < len := by simpa using hpos
      obtain ⟨b, off, spot⟩ := a
      obtain ⟨u0, hu0⟩ : ∃ u, (elE (f 0))[0]? = some u := ⟨_, List.getElem?_eq_getElem (by rw [hlen]; exact k0)⟩
      have c0 := (hf 0 (by omega)).2 0 u0 hu0
      rw [Go.Deep.add_add] at c0
      have hspot : spot = none := by simpa [Addr.add] using World.cell?_spot c0
      subst hspot
      refine ⟨b, off, rfl, ?_, fun i hi j u hu => ?_⟩
      · exact World.block_lt_of_cell? W _ (by rw [add_plain] at c0; exact c0)
      · have hi' : i < len := by simpa using hi
        have := (hf i (by omega)).2 j u (by simpa using hu)
        rw [Go.Deep.add_add] at this
        simpa [add_plain, Nat.add_assoc] using this
    · obtain ⟨i, hi, rfl⟩ := List.mem_map.1 hb
      exact (hf i (by have := List.mem_range.1 hi; omega)).1.1
    · have := bulkAll_len ((List.range len).map D)
      simp only [List.length_map, List.length_range] at this ⊢
      omega
    · have := sum_bulk m f D len 0 fun i _ hi => (hf i (by omega)).1.2
      rw [← List.range_eq_range'] at this
      omega

set_option maxRecDepth 100000 in
theorem pfx_open (n : Nat) (cs : List Value) (x : DataW H × List MemPlace) (h : DataW.trod enc Tryz.prog W 0 (fun _ => true) true n 68 cs = some x) : ∃ p : Ls.Pfx, cs = [.int .u32 p.addr, .int .i64 p.len] ∧ OkP p := by
  obtain ⟨xs, m, _, hx0, hcl, hxl, hf⟩ := DataW.trod_struct Tryz.underlying68 h
  rw [show Tryz.prog.cellsOf 68 = 2 from by kernel_rfl] at hcl
  match cs, hcl with
  | [c0, c1], _ =>
    have hx : xs.length = 2 := hxl
    match xs, hx with
    | [x0, x1], _ =>
      have f0 : DataW.trod enc Tryz.prog W 0 (fun _ => true) true m 41 (([c0, c1].drop 0).take (Tryz.prog.cellsOf 41)) = some x0 := hf 0 _ rfl
      rw [show Tryz.prog.cellsOf 41 = 1 from by kernel_rfl] at f0
      obtain ⟨n0, e0, _, w0⟩ := DataW.trod_int Tryz.underlying41 f0
      simp at e0
      have f1 : DataW.trod enc Tryz.prog W 0 (fun _ => true) true m 3 (([c0, c1].drop 1).take (Tryz.prog.cellsOf 3)) = some x1 := hf 1 _ rfl
      rw [show Tryz.prog.cellsOf 3 = 1 from by kernel_rfl] at f1
      obtain ⟨n1, e1, _, w1⟩ := DataW.trod_int Tryz.underlying3 f1
      simp at e1
      have _hB : Rows.uptoBulk x.1 = Rows.uptoBulkAll ([x0, x1].map (·.1)) + 1 := by rw [hx0]; simp only [Rows.uptoBulk]
      simp only [List.map_cons, List.map_nil, Rows.uptoBulkAll] at _hB
      have := u32_of_wf w0
      subst e0 e1
      exact ⟨⟨n0, n1⟩, rfl, this.1, this.2⟩

set_option maxRecDepth 100000 in
theorem arg_open (n : Nat) (cs : List Value) (x : DataW H × List MemPlace) (h : DataW.trod enc Tryz.prog W 0 (fun _ => true) true n 77 cs = some x) : ∃ g : Arg, cs = agE g ∧ OkP g.pfx ∧ 0 ≤ Rows.uptoBulk x.1 := by
  obtain ⟨xs, m, _, hx0, hcl, hxl, hf⟩ := DataW.trod_struct Tryz.underlying77 h
  rw [show Tryz.prog.cellsOf 77 = 4 from by kernel_rfl] at hcl
  match cs, hcl with
  | [c0, c1, c2, c3], _ =>
    have hx : xs.length = 3 := hxl
    match xs, hx with
    | [x0, x1, x2], _ =>
      have f0 : DataW.trod enc Tryz.prog W 0 (fun _ => true) true m 22 (([c0, c1, c2, c3].drop 0).take (Tryz.prog.cellsOf 22)) = some x0 := hf 0 _ rfl
      rw [show Tryz.prog.cellsOf 22 = 1 from by kernel_rfl] at f0
      obtain ⟨n0, e0, _, w0⟩ := DataW.trod_int Tryz.underlying22 f0
      simp at e0
      have f1 : DataW.trod enc Tryz.prog W 0 (fun _ => true) true m 68 (([c0, c1, c2, c3].drop 1).take (Tryz.prog.cellsOf 68)) = some x1 := hf 1 _ rfl
      rw [show Tryz.prog.cellsOf 68 = 2 from by kernel_rfl] at f1
      obtain ⟨q, e1, okq⟩ := pfx_open _ _ _ f1
      simp at e1
      have f2 : DataW.trod enc Tryz.prog W 0 (fun _ => true) true m 4 (([c0, c1, c2, c3].drop 3).take (Tryz.prog.cellsOf 4)) = some x2 := hf 2 _ rfl
      rw [show Tryz.prog.cellsOf 4 = 1 from by kernel_rfl] at f2
      obtain ⟨n2, e2, _⟩ := DataW.trod_bool Tryz.underlying4 f2
      simp at e2
      have hB : Rows.uptoBulk x.1 = Rows.uptoBulkAll ([x0, x1, x2].map (·.1)) + 1 := by rw [hx0]; simp only [Rows.uptoBulk]
      simp only [List.map_cons, List.map_nil, Rows.uptoBulkAll] at hB
      obtain ⟨e1, e1'⟩ := e1
      subst e0 e1 e1' e2
      exact ⟨⟨n0, q, n2⟩, rfl, okq, Nat.zero_le _⟩

set_option maxRecDepth 100000 in
theorem ifc_open (n : Nat) (cs : List Value) (x : DataW H × List MemPlace) (h : DataW.trod enc Tryz.prog W 0 (fun _ => true) true n 70 cs = some x) : ∃ kind pa pl ad area cost prio hel dead : Int, cs = [.int .i64 kind, .int .u32 pa, .int .i64 pl, .int .u32 ad, .int .u32 area, .int .i64 cost, .int .i64 prio, .int .i64 hel, .int .i64 dead] ∧ 0 ≤ pa ∧ pa < 4294967296 ∧ 0 ≤ ad ∧ ad < 4294967296 ∧ 0 ≤ area ∧ area < 4294967296 := by
  obtain ⟨xs, m, _, hx0, hcl, hxl, hf⟩ := DataW.trod_struct Tryz.underlying70 h
  rw [show Tryz.prog.cellsOf 70 = 9 from by kernel_rfl] at hcl
  match cs, hcl with
  | [c0, c1, c2, c3, c4, c5, c6, c7, c8], _ =>
    have hx : xs.length = 8 := hxl
    match xs, hx with
    | [x0, x1, x2, x3, x4, x5, x6, x7], _ =>
      have f0 : DataW.trod enc Tryz.prog W 0 (fun _ => true) true m 3 (([c0, c1, c2, c3, c4, c5, c6, c7, c8].drop 0).take (Tryz.prog.cellsOf 3)) = some x0 := hf 0 _ rfl
      rw [show Tryz.prog.cellsOf 3 = 1 from by kernel_rfl] at f0
      obtain ⟨n0, e0, _, w0⟩ := DataW.trod_int Tryz.underlying3 f0
      simp at e0
      have f1 : DataW.trod enc Tryz.prog W 0 (fun _ => true) true m 68 (([c0, c1, c2, c3, c4, c5, c6, c7, c8].drop 1).take (Tryz.prog.cellsOf 68)) = some x1 := hf 1 _ rfl
      rw [show Tryz.prog.cellsOf 68 = 2 from by kernel_rfl] at f1
      obtain ⟨⟨pa, pl⟩, e1, q0, q1⟩ := pfx_open _ _ _ f1
      simp at e1
      obtain ⟨k0, k1⟩ := e1
      have f2 : DataW.trod enc Tryz.prog W 0 (fun _ => true) true m 41 (([c0, c1, c2, c3, c4, c5, c6, c7, c8].drop 3).take (Tryz.prog.cellsOf 41)) = some x2 := hf 2 _ rfl
      rw [show Tryz.prog.cellsOf 41 = 1 from by kernel_rfl] at f2
      obtain ⟨n2, e2, _, w2⟩ := DataW.trod_int Tryz.underlying41 f2
      simp at e2
      have f3 : DataW.trod enc Tryz.prog W 0 (fun _ => true) true m 22 (([c0, c1, c2, c3, c4, c5, c6, c7, c8].drop 4).take (Tryz.prog.cellsOf 22)) = some x3 := hf 3 _ rfl
      rw [show Tryz.prog.cellsOf 22 = 1 from by kernel_rfl] at f3
      obtain ⟨n3, e3, _, w3⟩ := DataW.trod_int Tryz.underlying22 f3
      simp at e3
      have f4 : DataW.trod enc Tryz.prog W 0 (fun _ => true) true m 3 (([c0, c1, c2, c3, c4, c5, c6, c7, c8].drop 5).take (Tryz.prog.cellsOf 3)) = some x4 := hf 4 _ rfl
      rw [show Tryz.prog.cellsOf 3 = 1 from by kernel_rfl] at f4
      obtain ⟨n4, e4, _, w4⟩ := DataW.trod_int Tryz.underlying3 f4
      simp at e4
      have f5 : DataW.trod enc Tryz.prog W 0 (fun _ => true) true m 3 (([c0, c1, c2, c3, c4, c5, c6, c7, c8].drop 6).take (Tryz.prog.cellsOf 3)) = some x5 := hf 5 _ rfl
      rw [show Tryz.prog.cellsOf 3 = 1 from by kernel_rfl] at f5
      obtain ⟨n5, e5, _, w5⟩ := DataW.trod_int Tryz.underlying3 f5
      simp at e5
      have f6 : DataW.trod enc Tryz.prog W 0 (fun _ => true) true m 3 (([c0, c1, c2, c3, c4, c5, c6, c7, c8].drop 7).take (Tryz.prog.cellsOf 3)) = some x6 := hf 6 _ rfl
      rw [show Tryz.prog.cellsOf 3 = 1 from by kernel_rfl] at f6
      obtain ⟨n6, e6, _, w6⟩ := DataW.trod_int Tryz.underlying3 f6
      simp at e6
      have f7 : DataW.trod enc Tryz.prog W 0 (fun _ => true) true m 3 (([c0, c1, c2, c3, c4, c5, c6, c7, c8].drop 8).take (Tryz.prog.cellsOf 3)) = some x7 := hf 7 _ rfl
      rw [show Tryz.prog.cellsOf 3 = 1 from by kernel_rfl] at f7
      obtain ⟨n7, e7, _, w7⟩ := DataW.trod_int Tryz.underlying3 f7
      simp at e7
      have hB : Rows.uptoBulk x.1 = Rows.uptoBulkAll ([x0, x1, x2, x3, x4, x5, x6, x7].map (·.1)) + 1 := by rw [hx0]; simp only [Rows.uptoBulk]
      simp only [List.map_cons, List.map_nil, Rows.uptoBulkAll] at hB
      have h2 := u32_of_wf w2
      have h3 := u32_of_wf w3
      subst e0 k0 k1 e2 e3 e4 e5 e6 e7
      exact ⟨n0, pa, pl, n2, n3, n4, n5, n6, n7, rfl, q0, q1, h2.1, h2.2, h3.1, h3.2⟩

set_option maxRecDepth 100000 in
theorem cfg_open (n : Nat) (cs : List Value) (x : DataW H × List MemPlace) (h : DataW.trod enc Tryz.prog W 0 (fun _ => true) true n 26 cs = some x) : ∃ (r : Int) (vi vr : Value) (ifs : List If9) (rgs : List Arg), cs = [.int .u32 r, vi, vr] ∧ IfsAt W vi ifs ∧ RngsAt W vr rgs ∧ (∀ x ∈ ifs, OkI x) ∧ ∀ o ∈ rgs, OkP o.pfx := by
  obtain ⟨xs, m, _, hx0, hcl, hxl, hf⟩ := DataW.trod_struct Tryz.underlying26 h
  rw [show Tryz.prog.cellsOf 26 = 3 from by kernel_rfl] at hcl
  match cs, hcl with
  | [c0, c1, c2], _ =>
    have hx : xs.length = 3 := hxl
    match xs, hx with
    | [x0, x1, x2], _ =>
      have f0 : DataW.trod enc Tryz.prog W 0 (fun _ => true) true m 22 (([c0, c1, c2].drop 0).take (Tryz.prog.cellsOf 22)) = some x0 := hf 0 _ rfl
      rw [show Tryz.prog.cellsOf 22 = 1 from by kernel_rfl] at f0
      obtain ⟨n0, e0, _, w0⟩ := DataW.trod_int Tryz.underlying22 f0
      simp at e0
      have f1 : DataW.trod enc Tryz.prog W 0 (fun _ => true) true m 23 (([c0, c1, c2].drop 1).take (Tryz.prog.cellsOf 23)) = some x1 := hf 1 _ rfl
      rw [show Tryz.prog.cellsOf 23 = 1 from by kernel_rfl] at f1
      obtain ⟨s1, p1, l1, e1, g1, o1, b1, -⟩ := slv_openb (default) if9E (fun x => OkI x) (fun _ => 0) Tryz.underlying23 (by kernel_rfl : Tryz.prog.cellsOf 70 = 9) (by omega) (fun _ => rfl) (fun n cs x h => by
        obtain ⟨kind, pa, pl, ad, area, cost, prio, hel, dead, e, q0, q1, q2, q3, -, -⟩ := ifc_open n cs x h
        exact ⟨⟨kind, pa, pl, ad, area, cost, prio, hel, dead⟩, e, ⟨q0, q1, q2, q3⟩, Nat.zero_le _⟩) f1
      have f2 : DataW.trod enc Tryz.prog W 0 (fun _ => true) true m 24 (([c0, c1, c2].drop 2).take (Tryz.prog.cellsOf 24)) = some x2 := hf 2 _ rfl
      rw [show Tryz.prog.cellsOf 24 = 1 from by kernel_rfl] at f2
      obtain ⟨s2, p2, l2, e2, g2, o2, b2, -⟩ := slv_openb (⟨0, ⟨0, 0⟩, false⟩ : Arg) agE (fun o => OkP o.pfx) (fun _ => 0) Tryz.underlying24 (by kernel_rfl : Tryz.prog.cellsOf 77 = 4) (by omega) (fun _ => rfl) arg_open f2
      have hB : Rows.uptoBulk x.1 = Rows.uptoBulkAll ([x0, x1, x2].map (·.1)) + 1 := by rw [hx0]; simp only [Rows.uptoBulk]
      simp only [List.map_cons, List.map_nil, Rows.uptoBulkAll] at hB
      subst e0
      exact ⟨n0, _, _, l1, l2, rfl, g1, g2, o1, o2⟩

set_option maxRecDepth 100000 in
theorem cfgv_open {v : Value} {d : DataW H} {p : List MemPlace} {base : Nat} (hv : Value.okWide Tryz.prog W .any base 26 v) (h : DataW.Trod enc Tryz.prog W 0 (fun _ => true) true 26 v d p) : ∃ (r : Int) (vi vr : Value) (ifs : List If9) (rgs : List Arg), v = .agg #[.int .u32 r, vi, vr] ∧ IfsAt W vi ifs ∧ RngsAt W vr rgs ∧ (∀ x ∈ ifs, OkI x) ∧ ∀ o ∈ rgs, OkP o.pfx := by
  obtain ⟨cs, rfl, _⟩ := okWide_struct (t := 26) Tryz.underlying26 hv
  obtain ⟨fuel, hf⟩ := h
  obtain ⟨r, vi, vr, ifs, rgs, hr, h2⟩ := cfg_open _ _ _ hf
  refine ⟨r, vi, vr, ifs, rgs, ?_, h2⟩
  have : cs.toList = [.int .u32 r, vi, vr] := hr
  rw [← this]

end

end Go.Proofs.YtombnejipaoinaaGreat
