/-
  InterChooses: the law walked.
-/
/-
  Arguments opened: databases, ways, routes; and what their bulk bounds.
-/
/-
  The arguments read behind the call as they did before, where nothing that was there has turned: for rows that say 'true for every input'.
-/
/- InterChooses returns true for every input whose arguments are together of bulk at most 1048576, and its arguments read afterwards as before. -/
import Derived.Test.YtogdconliofblaaGreatChr
import Derived.Test.YtogdconliofblaaGreatLvx
import Derived.Test.YtogdconliofblaaGreatFin
import Derived.Test.YtogdconliofblaaGreatSla
import Derived.Test.YtogdconliofblaaGreatSzw
import Derived.Test.YtogdconliofblaaGreatRows
import Derived.ProofKit
import Derived.OpenShut
import Derived.WideKeyArgs
import Derived.Deep.Slices
import Derived.Deep.Fields
import Derived.Below
import Derived.JoinedCond
namespace Go.Proofs.YtogdconliofblaaGreat
open Go.RowKit

theorem chA_pure (l : List RtH) : chA l = fun i => (l.map RtH.pure).getD i default := by
  funext i
  unfold chA rthAt
  rw [List.getD_eq_getElem?_getD, List.getD_eq_getElem?_getD, List.getElem?_map]
  cases l[i]? <;> rfl

theorem routesNone (w : World) : RoutesAt w (.slice none 0 0) [] := ⟨⟨none, 0, rfl, Nat.le_refl _, (by unfold maxLen; omega), fun _ => rfl, fun h => by cases h⟩, fun x hx => by cases hx⟩

set_option maxHeartbeats 16000000 in
set_option maxRecDepth 100000 in
theorem ichoose_law (w : World) (va vb : Value) (la lb : List RtH) (ha : RoutesAt w va la) (hb : RoutesAt w vb lb) (hM : ∀ x ∈ la ++ lb, x.hops.length ≤ 1048576) :
    Calls Tryz.prog 7 #[va, vb] w (LivPost w) := by
  have LV := Lib.hid (fun W => lives_calls W)
  have C1 := Lib.hid (fun (n : (la ++ lb).length ≤ 400) => choose_calls w va vb la lb ha hb 1048576 hM n (by omega))
  have C2 := Lib.hid (fun (n : (la ++ lb).length ≤ 400) (W : World) (hb' : Below w.heap.size w W) => rchoose_calls W va vb la lb (ha.below hb') (hb.below hb') 1048576 hM n (by omega))
  obtain ⟨aa, ca, ea, -⟩ := ha.get
  obtain ⟨ab, cb, eb, -⟩ := hb.get
  subst ea eb
  clear ha hb hM
  by_cases n1 : 100 < (la.length : Int)
  · have g1 : decide (100 < (la.length : Int)) = true := decide_eq_true n1
    clear C1 C2 n1
    go_enter Tryz.func7, Tryz.ntmps7
    go_wp2_with fail
    refine (LV.out _).mono ?_
    rintro e w9 ⟨rfl, B9⟩
    have FIN := Lib.hid B9
    clear B9
    go_wp2_with fail
    go_ret
    exact ⟨rfl, FIN.out⟩
  have g1 : decide (100 < (la.length : Int)) = false := decide_eq_false n1
  by_cases n2 : 100 < (lb.length : Int)
  · have g2 : decide (100 < (lb.length : Int)) = true := decide_eq_true n2
    clear C1 C2 n1 n2
    go_enter Tryz.func7, Tryz.ntmps7
    go_wp2_with fail
    refine (LV.out _).mono ?_
    rintro e w9 ⟨rfl, B9⟩
    have FIN := Lib.hid B9
    clear B9
    go_wp2_with fail
    go_ret
    exact ⟨rfl, FIN.out⟩
  have g2 : decide (100 < (lb.length : Int)) = false := decide_eq_false n2
  have N : Hid ((la ++ lb).length ≤ 200) := Lib.hid (by rw [List.length_append]; omega)
  have D1 := Lib.hid (C1.out (by have := N.out; omega))
  have D2 := Lib.hid (C2.out (by have := N.out; omega))
  clear C1 C2 n1 n2
  go_enter Tryz.func7, Tryz.ntmps7
  go_wp2_with fail
  refine D1.out.mono ?_
  rintro e w1 ⟨vx, lx, rfl, R1, I1, L1, H1, B1⟩
  have HB1 := Lib.hid B1
  have HR1 := Lib.hid R1
  have HI1 := Lib.hid I1
  have LX : Hid (lx.length ≤ 400) := Lib.hid (by have := N.out; omega)
  have HX : Hid (∀ x ∈ lx, x.hops.length ≤ 209715200) := Lib.hid (fun x hx => Nat.le_trans (H1 x hx) (by have h := Nat.mul_le_mul_right 1048576 N.out; omega))
  have E2 := Lib.hid (D2.out w1 B1)
  obtain ⟨xa, xc, ex, -⟩ := R1.get
  subst ex
  clear D1 D2 R1 I1 L1 H1 B1
  go_wp2_with fail
  refine E2.out.mono ?_
  rintro e w2 ⟨v2, l2, rfl, R2, I2, B2⟩
  have S1 := Lib.hid (sameroutes_calls w2 _ v2 lx l2 (HR1.out.below B2) R2 (HI1.out.eq I2))
  have HB2 := Lib.hid (HB1.out.trans (B2.mono HB1.out.size))
  have HB12 := Lib.hid B2
  clear E2 R2 I2 B2
  go_wp2_with fail
  refine S1.out.mono ?_
  rintro e w3 ⟨rfl, B3⟩
  have HB13 := Lib.hid (HB12.out.trans (B3.mono HB12.out.size))
  have HB3 := Lib.hid (HB2.out.trans (B3.mono HB2.out.size))
  have D3 := Lib.hid (choose_calls w3 _ (.slice none 0 0) lx [] (HR1.out.below HB13.out) (routesNone w3) 209715200 (by rw [List.append_nil]; exact HX.out) (by rw [List.append_nil]; exact LX.out) (by omega))
  clear S1 B3 HB12
  go_wp2_with fail
  refine D3.out.mono ?_
  rintro e w4 ⟨v4, l4, rfl, R4, I4, -, -, B4⟩
  rw [List.append_nil] at I4
  have EQ : l4.map RtH.pure = lx.map RtH.pure := by
    have h := HI1.out.self
    rw [List.length_map, ← chA_pure] at h
    exact I4.eq h
  have HB14 := HB13.out.trans (B4.mono HB13.out.size)
  have S2 := Lib.hid (sameroutes_calls w4 v4 _ l4 lx R4 (HR1.out.below HB14) EQ)
  have HB4 := Lib.hid (HB3.out.trans (B4.mono HB3.out.size))
  clear D3 R4 I4 B4 EQ HB14
  go_wp2_with fail
  refine S2.out.mono ?_
  rintro e w5 ⟨rfl, B5⟩
  have HB5 := Lib.hid (HB4.out.trans (B5.mono HB4.out.size))
  clear S2 B5
  go_wp2_with fail
  refine (LV.out w5).mono ?_
  rintro e w6 ⟨rfl, B6⟩
  have FIN := Lib.hid (HB5.out.trans (B6.mono HB5.out.size))
  clear B6
  go_wp2_with fail
  go_ret
  exact ⟨rfl, FIN.out⟩

end Go.Proofs.YtogdconliofblaaGreat

namespace Go.Proofs.YtogdconliofblaaGreat
open Go.ChangeShapes Go.WideShapes Go.ChangeAt Go.RowKit Go.Deep

theorem u32_of_wf {n : Int} (h : (Lit.int .u32 n).wf = true) : 0 ≤ n ∧ n < 4294967296 := by
  have m0 : IntKind.u32.min = 0 := by decide
  have m1 : IntKind.u32.max = 4294967295 := by decide
  simp [Lit.wf, m0, m1] at h
  omega

theorem bulkAll_len {H : Type} (l : List (DataW H)) : l.length ≤ Rows.uptoBulkAll l := by
  induction l with
  | nil => simp [Rows.uptoBulkAll]
  | cons x r ih =>
    have : 1 ≤ Rows.uptoBulk x := by
      cases x with
      | lit l => cases l <;> simp [Rows.uptoBulk]
      | _ => simp [Rows.uptoBulk]
    simp only [Rows.uptoBulkAll, List.length_cons]; omega

theorem sum_bulk {H α : Type} (m : α → Nat) (f : Nat → α) (D : Nat → DataW H) : ∀ (n k : Nat), (∀ i, k ≤ i → i < k + n → m (f i) ≤ Rows.uptoBulk (D i)) → (((List.range' k n).map f).map m).sum ≤ Rows.uptoBulkAll ((List.range' k n).map D)
  | 0, _, _ => by simp
  | n + 1, k, h => by
    have h1 := sum_bulk m f D n (k + 1) fun i a b => h i (by omega) (by omega)
    have h2 := h k (Nat.le_refl _) (by omega)
    simp only [List.range'_succ, List.map_cons, List.sum_cons, Rows.uptoBulkAll] at *
    omega

section
variable {H : Type} {enc : TypeId × Value → H} {W : World}

/-- a slice opened, with what its bulk bounds -/
theorem slv_openb {α : Type} (α0 : α) {t e : TypeId} {k : Nat} (elE : α → List Value) (good : α → Prop) (m : α → Nat) (ht : Tryz.prog.underlying t = some (.slice e)) (hk : Tryz.prog.cellsOf e = k) (k0 : 0 < k) (hlen : ∀ a, (elE a).length = k)
    (hopen : ∀ n cs (x : DataW H × List MemPlace), DataW.trod enc Tryz.prog W 0 (fun _ => true) true n e cs = some x → ∃ a, cs = elE a ∧ good a ∧ m a ≤ Rows.uptoBulk x.1)
    {fuel : Nat} {v : Value} {x : DataW H × List MemPlace} (h : DataW.trod enc Tryz.prog W 0 (fun _ => true) true fuel t [v] = some x) :
    ∃ (a0 : Option Addr) (cap : Nat) (l : List α), v = .slice a0 l.length cap ∧ SlV k W v (l.map elE) ∧ (∀ a ∈ l, good a) ∧ l.length + 1 ≤ Rows.uptoBulk x.1 ∧ (l.map m).sum + 1 ≤ Rows.uptoBulk x.1 := by
  subst hk
  rcases open_slice ht h with ⟨hcs, hx⟩ | ⟨a, len, cap, mm, n, D, Pl, hcs, _, hl, hm, hmm, hx, hi⟩
  · refine ⟨none, 0, [], by simpa using hcs, ⟨none, 0, by simpa using hcs, Nat.zero_le _, Nat.zero_le _, fun _ => rfl, fun h => by simp at h⟩, (fun a h => by simp at h), ?_, ?_⟩ <;> rw [hx] <;> simp [Rows.uptoBulk]
  · have hv : v = .slice (some a) len cap := by simpa using hcs
    subst hv
    have hmm : mm = cap := hmm
    subst hmm
    have each : ∀ i, i < mm → ∃ b : α, (good b ∧ m b ≤ Rows.uptoBulk (D i)) ∧ ∀ j u, (elE b)[j]? = some u → W.cell? ((a.add (i * Tryz.prog.cellsOf e)).add j) = some u := by
      intro i him
      obtain ⟨cs', hc, ht'⟩ := hi i him
      obtain ⟨b, hb, hg, hgm⟩ := hopen _ _ _ ht'
      obtain ⟨_, hcl, hat⟩ := World.cells?_some hc
      subst hb
      refine ⟨b, ⟨hg, hgm⟩, fun j u hu => ?_⟩
      have hj : j < (elE b).length := by
        rcases Nat.lt_or_ge j (elE b).length with h | h
        · exact h
        · rw [List.getElem?_eq_none h] at hu; cases hu
      rw [hat j (by rw [← hcl]; exact hj), hu]
    obtain ⟨f, hf⟩ : ∃ f : Nat → α, ∀ i, i < mm → (good (f i) ∧ m (f i) ≤ Rows.uptoBulk (D i)) ∧ ∀ j u, (elE (f i))[j]? = some u → W.cell? ((a.add (i * Tryz.prog.cellsOf e)).add j) = some u :=
      ⟨fun i => if h : i < mm then Classical.choose (each i h) else α0, fun i h => by simp only [dif_pos h]; exact Classical.choose_spec (each i h)⟩
    have hb : Rows.uptoBulkAll ((List.range len).map D) + 1 ≤ Rows.uptoBulk x.1 := by rw [hx]; simp only [Rows.uptoBulk]; omega
    refine ⟨some a, mm, (List.range len).map f, by simp, ⟨some a, mm, by simp, by simpa using hl, by assumption, (fun h => by cases h), fun hpos => ?_⟩, fun b hb => ?_, ?_, ?_⟩
    · have hpos : 0 < len := by simpa using hpos
      obtain ⟨b, off, spot⟩ := a
      obtain ⟨u0, hu0⟩ : ∃ u, (elE (f 0))[0]? = some u := ⟨_, List.getElem?_eq_getElem (by rw [hlen]; exact k0)⟩
      have c0 := (hf 0 (by omega)).2 0 u0 hu0
      rw [Go.Deep.add_add] at c0
      have hspot : spot = none := by simpa [Addr.add] using World.cell?_spot c0
      subst hspot
      refine ⟨b, off, rfl, ?_, fun i hi j u hu => ?_⟩
      · exact World.block_lt_of_cell? W _ (by rw [add_plain] at c0; exact c0)
      · have hi' : i < len := by simpa using hi
        have := (hf i (by omega)).2 j u (by simpa using hu)
        rw [Go.Deep.add_add] at this
        simpa [add_plain, Nat.add_assoc] using this
    · obtain ⟨i, hi, rfl⟩ := List.mem_map.1 hb
      exact (hf i (by have := List.mem_range.1 hi; omega)).1.1
    · have := bulkAll_len ((List.range len).map D)
      simp only [List.length_map, List.length_range] at this ⊢
      omega
    · have := sum_bulk m f D len 0 fun i _ hi => (hf i (by omega)).1.2
      rw [← List.range_eq_range'] at this
      omega

set_option maxRecDepth 100000 in
theorem pfx_open (n : Nat) (cs : List Value) (x : DataW H × List MemPlace) (h : DataW.trod enc Tryz.prog W 0 (fun _ => true) true n 55 cs = some x) : ∃ p : Ls.Pfx, cs = [.int .u32 p.addr, .int .i64 p.len] ∧ OkP p := by
  obtain ⟨xs, m, _, hx0, hcl, hxl, hf⟩ := DataW.trod_struct Tryz.underlying55 h
  rw [show Tryz.prog.cellsOf 55 = 2 from by kernel_rfl] at hcl
  match cs, hcl with
  | [c0, c1], _ =>
    have hx : xs.length = 2 := hxl
    match xs, hx with
    | [x0, x1], _ =>
      have f0 : DataW.trod enc Tryz.prog W 0 (fun _ => true) true m 45 (([c0, c1].drop 0).take (Tryz.prog.cellsOf 45)) = some x0 := hf 0 _ rfl
      rw [show Tryz.prog.cellsOf 45 = 1 from by kernel_rfl] at f0
      obtain ⟨n0, e0, _, w0⟩ := DataW.trod_int Tryz.underlying45 f0
      simp at e0
      have f1 : DataW.trod enc Tryz.prog W 0 (fun _ => true) true m 3 (([c0, c1].drop 1).take (Tryz.prog.cellsOf 3)) = some x1 := hf 1 _ rfl
      rw [show Tryz.prog.cellsOf 3 = 1 from by kernel_rfl] at f1
      obtain ⟨n1, e1, _, w1⟩ := DataW.trod_int Tryz.underlying3 f1
      simp at e1
      have _hB : Rows.uptoBulk x.1 = Rows.uptoBulkAll ([x0, x1].map (·.1)) + 1 := by rw [hx0]; simp only [Rows.uptoBulk]
      simp only [List.map_cons, List.map_nil, Rows.uptoBulkAll] at _hB
      have := u32_of_wf w0
      subst e0 e1
      exact ⟨⟨n0, n1⟩, rfl, this.1, this.2⟩

set_option maxRecDepth 100000 in
theorem hop_open (n : Nat) (cs : List Value) (x : DataW H × List MemPlace) (h : DataW.trod enc Tryz.prog W 0 (fun _ => true) true n 60 cs = some x) : ∃ a : Ls.Hop, cs = hopE a ∧ True ∧ 0 ≤ Rows.uptoBulk x.1 := by
  obtain ⟨xs, m, _, hx0, hcl, hxl, hf⟩ := DataW.trod_struct Tryz.underlying60 h
  rw [show Tryz.prog.cellsOf 60 = 3 from by kernel_rfl] at hcl
  match cs, hcl with
  | [c0, c1, c2], _ =>
    have hx : xs.length = 3 := hxl
    match xs, hx with
    | [x0, x1, x2], _ =>
      have f0 : DataW.trod enc Tryz.prog W 0 (fun _ => true) true m 3 (([c0, c1, c2].drop 0).take (Tryz.prog.cellsOf 3)) = some x0 := hf 0 _ rfl
      rw [show Tryz.prog.cellsOf 3 = 1 from by kernel_rfl] at f0
      obtain ⟨n0, e0, _, w0⟩ := DataW.trod_int Tryz.underlying3 f0
      simp at e0
      have f1 : DataW.trod enc Tryz.prog W 0 (fun _ => true) true m 45 (([c0, c1, c2].drop 1).take (Tryz.prog.cellsOf 45)) = some x1 := hf 1 _ rfl
      rw [show Tryz.prog.cellsOf 45 = 1 from by kernel_rfl] at f1
      obtain ⟨n1, e1, _, w1⟩ := DataW.trod_int Tryz.underlying45 f1
      simp at e1
      have f2 : DataW.trod enc Tryz.prog W 0 (fun _ => true) true m 22 (([c0, c1, c2].drop 2).take (Tryz.prog.cellsOf 22)) = some x2 := hf 2 _ rfl
      rw [show Tryz.prog.cellsOf 22 = 1 from by kernel_rfl] at f2
      obtain ⟨n2, e2, _, w2⟩ := DataW.trod_int Tryz.underlying22 f2
      simp at e2
      have hB : Rows.uptoBulk x.1 = Rows.uptoBulkAll ([x0, x1, x2].map (·.1)) + 1 := by rw [hx0]; simp only [Rows.uptoBulk]
      simp only [List.map_cons, List.map_nil, Rows.uptoBulkAll] at hB
      subst e0 e1 e2
      exact ⟨⟨n0, n1, n2⟩, rfl, trivial, Nat.zero_le _⟩

set_option maxRecDepth 100000 in
theorem lnk_open (n : Nat) (cs : List Value) (x : DataW H × List MemPlace) (h : DataW.trod enc Tryz.prog W 0 (fun _ => true) true n 161 cs = some x) : ∃ a : Lnk, cs = lnkE a ∧ (0 ≤ a.id ∧ a.id < 4294967296 ∧ 0 ≤ a.data ∧ a.data < 4294967296) ∧ 0 ≤ Rows.uptoBulk x.1 := by
  obtain ⟨xs, m, _, hx0, hcl, hxl, hf⟩ := DataW.trod_struct Tryz.underlying161 h
  rw [show Tryz.prog.cellsOf 161 = 4 from by kernel_rfl] at hcl
  match cs, hcl with
  | [c0, c1, c2, c3], _ =>
    have hx : xs.length = 4 := hxl
    match xs, hx with
    | [x0, x1, x2, x3], _ =>
      have f0 : DataW.trod enc Tryz.prog W 0 (fun _ => true) true m 3 (([c0, c1, c2, c3].drop 0).take (Tryz.prog.cellsOf 3)) = some x0 := hf 0 _ rfl
      rw [show Tryz.prog.cellsOf 3 = 1 from by kernel_rfl] at f0
      obtain ⟨n0, e0, _, w0⟩ := DataW.trod_int Tryz.underlying3 f0
      simp at e0
      have f1 : DataW.trod enc Tryz.prog W 0 (fun _ => true) true m 22 (([c0, c1, c2, c3].drop 1).take (Tryz.prog.cellsOf 22)) = some x1 := hf 1 _ rfl
      rw [show Tryz.prog.cellsOf 22 = 1 from by kernel_rfl] at f1
      obtain ⟨n1, e1, _, w1⟩ := DataW.trod_int Tryz.underlying22 f1
      simp at e1
      have f2 : DataW.trod enc Tryz.prog W 0 (fun _ => true) true m 22 (([c0, c1, c2, c3].drop 2).take (Tryz.prog.cellsOf 22)) = some x2 := hf 2 _ rfl
      rw [show Tryz.prog.cellsOf 22 = 1 from by kernel_rfl] at f2
      obtain ⟨n2, e2, _, w2⟩ := DataW.trod_int Tryz.underlying22 f2
      simp at e2
      have f3 : DataW.trod enc Tryz.prog W 0 (fun _ => true) true m 3 (([c0, c1, c2, c3].drop 3).take (Tryz.prog.cellsOf 3)) = some x3 := hf 3 _ rfl
      rw [show Tryz.prog.cellsOf 3 = 1 from by kernel_rfl] at f3
      obtain ⟨n3, e3, _, w3⟩ := DataW.trod_int Tryz.underlying3 f3
      simp at e3
      have hB : Rows.uptoBulk x.1 = Rows.uptoBulkAll ([x0, x1, x2, x3].map (·.1)) + 1 := by rw [hx0]; simp only [Rows.uptoBulk]
      simp only [List.map_cons, List.map_nil, Rows.uptoBulkAll] at hB
      have h1 := u32_of_wf w1
      have h2 := u32_of_wf w2
      subst e0 e1 e2 e3
      exact ⟨⟨n0, n1, n2, n3⟩, rfl, ⟨h1.1, h1.2, h2.1, h2.2⟩, Nat.zero_le _⟩

theorem word_open (n : Nat) (cs : List Value) (x : DataW H × List MemPlace) (h : DataW.trod enc Tryz.prog W 0 (fun _ => true) true n 22 cs = some x) : ∃ a : Int, cs = u32E a ∧ (0 ≤ a ∧ a < 4294967296) ∧ 0 ≤ Rows.uptoBulk x.1 := by
  obtain ⟨n0, e0, _, w0⟩ := DataW.trod_int Tryz.underlying22 h
  exact ⟨n0, e0, u32_of_wf w0, Nat.zero_le _⟩

set_option maxRecDepth 100000 in
theorem hdr_open (n : Nat) (cs : List Value) (x : DataW H × List MemPlace) (h : DataW.trod enc Tryz.prog W 0 (fun _ => true) true n 42 cs = some x) : ∃ t id len r seq age sum : Int, cs = [.int .i64 t, .int .u32 id, .int .i64 len, .int .u32 r, .int .i64 seq, .int .i64 age, .int .i64 sum] ∧ 0 ≤ id ∧ id < 4294967296 ∧ 0 ≤ r ∧ r < 4294967296 := by
  obtain ⟨xs, m, _, hx0, hcl, hxl, hf⟩ := DataW.trod_struct Tryz.underlying42 h
  rw [show Tryz.prog.cellsOf 42 = 7 from by kernel_rfl] at hcl
  match cs, hcl with
  | [c0, c1, c2, c3, c4, c5, c6], _ =>
    have hx : xs.length = 7 := hxl
    match xs, hx with
    | [x0, x1, x2, x3, x4, x5, x6], _ =>
      have f0 : DataW.trod enc Tryz.prog W 0 (fun _ => true) true m 3 (([c0, c1, c2, c3, c4, c5, c6].drop 0).take (Tryz.prog.cellsOf 3)) = some x0 := hf 0 _ rfl
      rw [show Tryz.prog.cellsOf 3 = 1 from by kernel_rfl] at f0
      obtain ⟨n0, e0, _, w0⟩ := DataW.trod_int Tryz.underlying3 f0
      simp at e0
      have f1 : DataW.trod enc Tryz.prog W 0 (fun _ => true) true m 22 (([c0, c1, c2, c3, c4, c5, c6].drop 1).take (Tryz.prog.cellsOf 22)) = some x1 := hf 1 _ rfl
      rw [show Tryz.prog.cellsOf 22 = 1 from by kernel_rfl] at f1
      obtain ⟨n1, e1, _, w1⟩ := DataW.trod_int Tryz.underlying22 f1
      simp at e1
      have f2 : DataW.trod enc Tryz.prog W 0 (fun _ => true) true m 3 (([c0, c1, c2, c3, c4, c5, c6].drop 2).take (Tryz.prog.cellsOf 3)) = some x2 := hf 2 _ rfl
      rw [show Tryz.prog.cellsOf 3 = 1 from by kernel_rfl] at f2
      obtain ⟨n2, e2, _, w2⟩ := DataW.trod_int Tryz.underlying3 f2
      simp at e2
      have f3 : DataW.trod enc Tryz.prog W 0 (fun _ => true) true m 22 (([c0, c1, c2, c3, c4, c5, c6].drop 3).take (Tryz.prog.cellsOf 22)) = some x3 := hf 3 _ rfl
      rw [show Tryz.prog.cellsOf 22 = 1 from by kernel_rfl] at f3
      obtain ⟨n3, e3, _, w3⟩ := DataW.trod_int Tryz.underlying22 f3
      simp at e3
      have f4 : DataW.trod enc Tryz.prog W 0 (fun _ => true) true m 3 (([c0, c1, c2, c3, c4, c5, c6].drop 4).take (Tryz.prog.cellsOf 3)) = some x4 := hf 4 _ rfl
      rw [show Tryz.prog.cellsOf 3 = 1 from by kernel_rfl] at f4
      obtain ⟨n4, e4, _, w4⟩ := DataW.trod_int Tryz.underlying3 f4
      simp at e4
      have f5 : DataW.trod enc Tryz.prog W 0 (fun _ => true) true m 3 (([c0, c1, c2, c3, c4, c5, c6].drop 5).take (Tryz.prog.cellsOf 3)) = some x5 := hf 5 _ rfl
      rw [show Tryz.prog.cellsOf 3 = 1 from by kernel_rfl] at f5
      obtain ⟨n5, e5, _, w5⟩ := DataW.trod_int Tryz.underlying3 f5
      simp at e5
      have f6 : DataW.trod enc Tryz.prog W 0 (fun _ => true) true m 3 (([c0, c1, c2, c3, c4, c5, c6].drop 6).take (Tryz.prog.cellsOf 3)) = some x6 := hf 6 _ rfl
      rw [show Tryz.prog.cellsOf 3 = 1 from by kernel_rfl] at f6
      obtain ⟨n6, e6, _, w6⟩ := DataW.trod_int Tryz.underlying3 f6
      simp at e6
      have hB : Rows.uptoBulk x.1 = Rows.uptoBulkAll ([x0, x1, x2, x3, x4, x5, x6].map (·.1)) + 1 := by rw [hx0]; simp only [Rows.uptoBulk]
      simp only [List.map_cons, List.map_nil, Rows.uptoBulkAll] at hB
      have h1 := u32_of_wf w1
      have h3 := u32_of_wf w3
      subst e0 e1 e2 e3 e4 e5 e6
      exact ⟨n0, n1, n2, n3, n4, n5, n6, rfl, h1.1, h1.2, h3.1, h3.2⟩

set_option maxRecDepth 100000 in
theorem rch_open (n : Nat) (cs : List Value) (x : DataW H × List MemPlace) (h : DataW.trod enc Tryz.prog W 0 (fun _ => true) true n 50 cs = some x) : ∃ r : Rch, cs = rchE r ∧ HopsAt W (.slice r.ha r.hn r.hc) r.hops ∧ r.hops.length ≤ Rows.uptoBulk x.1 := by
  obtain ⟨xs, m, _, hx0, hcl, hxl, hf⟩ := DataW.trod_struct Tryz.underlying50 h
  rw [show Tryz.prog.cellsOf 50 = 7 from by kernel_rfl] at hcl
  match cs, hcl with
  | [c0, c1, c2, c3, c4, c5, c6], _ =>
    have hx : xs.length = 7 := hxl
    match xs, hx with
    | [x0, x1, x2, x3, x4, x5, x6], _ =>
      have f0 : DataW.trod enc Tryz.prog W 0 (fun _ => true) true m 22 (([c0, c1, c2, c3, c4, c5, c6].drop 0).take (Tryz.prog.cellsOf 22)) = some x0 := hf 0 _ rfl
      rw [show Tryz.prog.cellsOf 22 = 1 from by kernel_rfl] at f0
      obtain ⟨n0, e0, _, w0⟩ := DataW.trod_int Tryz.underlying22 f0
      simp at e0
      have f1 : DataW.trod enc Tryz.prog W 0 (fun _ => true) true m 22 (([c0, c1, c2, c3, c4, c5, c6].drop 1).take (Tryz.prog.cellsOf 22)) = some x1 := hf 1 _ rfl
      rw [show Tryz.prog.cellsOf 22 = 1 from by kernel_rfl] at f1
      obtain ⟨n1, e1, _, w1⟩ := DataW.trod_int Tryz.underlying22 f1
      simp at e1
      have f2 : DataW.trod enc Tryz.prog W 0 (fun _ => true) true m 4 (([c0, c1, c2, c3, c4, c5, c6].drop 2).take (Tryz.prog.cellsOf 4)) = some x2 := hf 2 _ rfl
      rw [show Tryz.prog.cellsOf 4 = 1 from by kernel_rfl] at f2
      obtain ⟨n2, e2, _⟩ := DataW.trod_bool Tryz.underlying4 f2
      simp at e2
      have f3 : DataW.trod enc Tryz.prog W 0 (fun _ => true) true m 4 (([c0, c1, c2, c3, c4, c5, c6].drop 3).take (Tryz.prog.cellsOf 4)) = some x3 := hf 3 _ rfl
      rw [show Tryz.prog.cellsOf 4 = 1 from by kernel_rfl] at f3
      obtain ⟨n3, e3, _⟩ := DataW.trod_bool Tryz.underlying4 f3
      simp at e3
      have f4 : DataW.trod enc Tryz.prog W 0 (fun _ => true) true m 4 (([c0, c1, c2, c3, c4, c5, c6].drop 4).take (Tryz.prog.cellsOf 4)) = some x4 := hf 4 _ rfl
      rw [show Tryz.prog.cellsOf 4 = 1 from by kernel_rfl] at f4
      obtain ⟨n4, e4, _⟩ := DataW.trod_bool Tryz.underlying4 f4
      simp at e4
      have f5 : DataW.trod enc Tryz.prog W 0 (fun _ => true) true m 3 (([c0, c1, c2, c3, c4, c5, c6].drop 5).take (Tryz.prog.cellsOf 3)) = some x5 := hf 5 _ rfl
      rw [show Tryz.prog.cellsOf 3 = 1 from by kernel_rfl] at f5
      obtain ⟨n5, e5, _, w5⟩ := DataW.trod_int Tryz.underlying3 f5
      simp at e5
      have f6 : DataW.trod enc Tryz.prog W 0 (fun _ => true) true m 48 (([c0, c1, c2, c3, c4, c5, c6].drop 6).take (Tryz.prog.cellsOf 48)) = some x6 := hf 6 _ rfl
      rw [show Tryz.prog.cellsOf 48 = 1 from by kernel_rfl] at f6
      obtain ⟨s6, p6, l6, e6, g6, o6, b6, -⟩ := slv_openb (⟨0, 0, 0⟩) hopE (fun _ => True) (fun _ => 0) Tryz.underlying48 (by kernel_rfl : Tryz.prog.cellsOf 60 = 3) (by omega) (fun _ => rfl) hop_open f6
      have hB : Rows.uptoBulk x.1 = Rows.uptoBulkAll ([x0, x1, x2, x3, x4, x5, x6].map (·.1)) + 1 := by rw [hx0]; simp only [Rows.uptoBulk]
      simp only [List.map_cons, List.map_nil, Rows.uptoBulkAll] at hB
      subst e0 e1 e2 e3 e4 e5 e6
      exact ⟨⟨n0, n1, n2, n3, n4, n5, s6, l6.length, p6, l6⟩, rfl, g6, by simp only; omega⟩

set_option maxRecDepth 100000 in
theorem rth_open (n : Nat) (cs : List Value) (x : DataW H × List MemPlace) (h : DataW.trod enc Tryz.prog W 0 (fun _ => true) true n 57 cs = some x) : ∃ r : RtH, cs = rtE r.rt ∧ (HopsAt W r.rt.hv r.hops ∧ OkP r.rt.pfx ∧ r.hops.length ≤ Rows.uptoBulk x.1) ∧ r.hops.length ≤ Rows.uptoBulk x.1 := by
  obtain ⟨xs, m, _, hx0, hcl, hxl, hf⟩ := DataW.trod_struct Tryz.underlying57 h
  rw [show Tryz.prog.cellsOf 57 = 9 from by kernel_rfl] at hcl
  match cs, hcl with
  | [c0, c1, c2, c3, c4, c5, c6, c7, c8], _ =>
    have hx : xs.length = 8 := hxl
    match xs, hx with
    | [x0, x1, x2, x3, x4, x5, x6, x7], _ =>
      have f0 : DataW.trod enc Tryz.prog W 0 (fun _ => true) true m 55 (([c0, c1, c2, c3, c4, c5, c6, c7, c8].drop 0).take (Tryz.prog.cellsOf 55)) = some x0 := hf 0 _ rfl
      rw [show Tryz.prog.cellsOf 55 = 2 from by kernel_rfl] at f0
      obtain ⟨q, e0, okq⟩ := pfx_open _ _ _ f0
      simp at e0
      have f1 : DataW.trod enc Tryz.prog W 0 (fun _ => true) true m 3 (([c0, c1, c2, c3, c4, c5, c6, c7, c8].drop 2).take (Tryz.prog.cellsOf 3)) = some x1 := hf 1 _ rfl
      rw [show Tryz.prog.cellsOf 3 = 1 from by kernel_rfl] at f1
      obtain ⟨n1, e1, _, w1⟩ := DataW.trod_int Tryz.underlying3 f1
      simp at e1
      have f2 : DataW.trod enc Tryz.prog W 0 (fun _ => true) true m 22 (([c0, c1, c2, c3, c4, c5, c6, c7, c8].drop 3).take (Tryz.prog.cellsOf 22)) = some x2 := hf 2 _ rfl
      rw [show Tryz.prog.cellsOf 22 = 1 from by kernel_rfl] at f2
      obtain ⟨n2, e2, _, w2⟩ := DataW.trod_int Tryz.underlying22 f2
      simp at e2
      have f3 : DataW.trod enc Tryz.prog W 0 (fun _ => true) true m 3 (([c0, c1, c2, c3, c4, c5, c6, c7, c8].drop 4).take (Tryz.prog.cellsOf 3)) = some x3 := hf 3 _ rfl
      rw [show Tryz.prog.cellsOf 3 = 1 from by kernel_rfl] at f3
      obtain ⟨n3, e3, _, w3⟩ := DataW.trod_int Tryz.underlying3 f3
      simp at e3
      have f4 : DataW.trod enc Tryz.prog W 0 (fun _ => true) true m 4 (([c0, c1, c2, c3, c4, c5, c6, c7, c8].drop 5).take (Tryz.prog.cellsOf 4)) = some x4 := hf 4 _ rfl
      rw [show Tryz.prog.cellsOf 4 = 1 from by kernel_rfl] at f4
      obtain ⟨n4, e4, _⟩ := DataW.trod_bool Tryz.underlying4 f4
      simp at e4
      have f5 : DataW.trod enc Tryz.prog W 0 (fun _ => true) true m 3 (([c0, c1, c2, c3, c4, c5, c6, c7, c8].drop 6).take (Tryz.prog.cellsOf 3)) = some x5 := hf 5 _ rfl
      rw [show Tryz.prog.cellsOf 3 = 1 from by kernel_rfl] at f5
      obtain ⟨n5, e5, _, w5⟩ := DataW.trod_int Tryz.underlying3 f5
      simp at e5
      have f6 : DataW.trod enc Tryz.prog W 0 (fun _ => true) true m 3 (([c0, c1, c2, c3, c4, c5, c6, c7, c8].drop 7).take (Tryz.prog.cellsOf 3)) = some x6 := hf 6 _ rfl
      rw [show Tryz.prog.cellsOf 3 = 1 from by kernel_rfl] at f6
      obtain ⟨n6, e6, _, w6⟩ := DataW.trod_int Tryz.underlying3 f6
      simp at e6
      have f7 : DataW.trod enc Tryz.prog W 0 (fun _ => true) true m 48 (([c0, c1, c2, c3, c4, c5, c6, c7, c8].drop 8).take (Tryz.prog.cellsOf 48)) = some x7 := hf 7 _ rfl
      rw [show Tryz.prog.cellsOf 48 = 1 from by kernel_rfl] at f7
      obtain ⟨s7, p7, l7, e7, g7, o7, b7, -⟩ := slv_openb (⟨0, 0, 0⟩) hopE (fun _ => True) (fun _ => 0) Tryz.underlying48 (by kernel_rfl : Tryz.prog.cellsOf 60 = 3) (by omega) (fun _ => rfl) hop_open f7
      have hB : Rows.uptoBulk x.1 = Rows.uptoBulkAll ([x0, x1, x2, x3, x4, x5, x6, x7].map (·.1)) + 1 := by rw [hx0]; simp only [Rows.uptoBulk]
      simp only [List.map_cons, List.map_nil, Rows.uptoBulkAll] at hB
      obtain ⟨e0, e0'⟩ := e0
      subst e0 e0' e1 e2 e3 e4 e5 e6 e7
      exact ⟨⟨⟨q, n1, n2, n3, n4, n5, n6, s7, l7.length, p7⟩, l7⟩, rfl, ⟨g7, okq, by simp only; omega⟩, by simp only; omega⟩

set_option maxRecDepth 100000 in
theorem lsd_open (n : Nat) (cs : List Value) (x : DataW H × List MemPlace) (h : DataW.trod enc Tryz.prog W 0 (fun _ => true) true n 47 cs = some x) : ∃ d : LsaD, cs = lsaE d.x ∧ DIn W d ∧ 0 ≤ Rows.uptoBulk x.1 := by
  obtain ⟨xs, m, _, hx0, hcl, hxl, hf⟩ := DataW.trod_struct Tryz.underlying47 h
  rw [show Tryz.prog.cellsOf 47 = 15 from by kernel_rfl] at hcl
  match cs, hcl with
  | [c0, c1, c2, c3, c4, c5, c6, c7, c8, c9, c10, c11, c12, c13, c14], _ =>
    have hx : xs.length = 9 := hxl
    match xs, hx with
    | [x0, x1, x2, x3, x4, x5, x6, x7, x8], _ =>
      have f0 : DataW.trod enc Tryz.prog W 0 (fun _ => true) true m 42 (([c0, c1, c2, c3, c4, c5, c6, c7, c8, c9, c10, c11, c12, c13, c14].drop 0).take (Tryz.prog.cellsOf 42)) = some x0 := hf 0 _ rfl
      rw [show Tryz.prog.cellsOf 42 = 7 from by kernel_rfl] at f0
      obtain ⟨t, id, len, r, seq, age, sum, e0, i0, i1, r0, r1⟩ := hdr_open _ _ _ f0
      simp at e0
      obtain ⟨q0, q1, q2, q3, q4, q5, q6⟩ := e0
      have f1 : DataW.trod enc Tryz.prog W 0 (fun _ => true) true m 4 (([c0, c1, c2, c3, c4, c5, c6, c7, c8, c9, c10, c11, c12, c13, c14].drop 7).take (Tryz.prog.cellsOf 4)) = some x1 := hf 1 _ rfl
      rw [show Tryz.prog.cellsOf 4 = 1 from by kernel_rfl] at f1
      obtain ⟨n1, e1, _⟩ := DataW.trod_bool Tryz.underlying4 f1
      simp at e1
      have f2 : DataW.trod enc Tryz.prog W 0 (fun _ => true) true m 4 (([c0, c1, c2, c3, c4, c5, c6, c7, c8, c9, c10, c11, c12, c13, c14].drop 8).take (Tryz.prog.cellsOf 4)) = some x2 := hf 2 _ rfl
      rw [show Tryz.prog.cellsOf 4 = 1 from by kernel_rfl] at f2
      obtain ⟨n2, e2, _⟩ := DataW.trod_bool Tryz.underlying4 f2
      simp at e2
      have f3 : DataW.trod enc Tryz.prog W 0 (fun _ => true) true m 43 (([c0, c1, c2, c3, c4, c5, c6, c7, c8, c9, c10, c11, c12, c13, c14].drop 9).take (Tryz.prog.cellsOf 43)) = some x3 := hf 3 _ rfl
      rw [show Tryz.prog.cellsOf 43 = 1 from by kernel_rfl] at f3
      obtain ⟨s3, p3, l3, e3, g3, o3, b3, -⟩ := slv_openb (⟨0, 0, 0, 0⟩) lnkE (fun a => 0 ≤ a.id ∧ a.id < 4294967296 ∧ 0 ≤ a.data ∧ a.data < 4294967296) (fun _ => 0) Tryz.underlying43 (by kernel_rfl : Tryz.prog.cellsOf 161 = 4) (by omega) (fun _ => rfl) lnk_open f3
      have f4 : DataW.trod enc Tryz.prog W 0 (fun _ => true) true m 44 (([c0, c1, c2, c3, c4, c5, c6, c7, c8, c9, c10, c11, c12, c13, c14].drop 10).take (Tryz.prog.cellsOf 44)) = some x4 := hf 4 _ rfl
      rw [show Tryz.prog.cellsOf 44 = 1 from by kernel_rfl] at f4
      obtain ⟨s4, p4, l4, e4, g4, o4, b4, -⟩ := slv_openb (0) u32E (fun a => 0 ≤ a ∧ a < 4294967296) (fun _ => 0) Tryz.underlying44 (by kernel_rfl : Tryz.prog.cellsOf 22 = 1) (by omega) (fun _ => rfl) word_open f4
      have f5 : DataW.trod enc Tryz.prog W 0 (fun _ => true) true m 3 (([c0, c1, c2, c3, c4, c5, c6, c7, c8, c9, c10, c11, c12, c13, c14].drop 11).take (Tryz.prog.cellsOf 3)) = some x5 := hf 5 _ rfl
      rw [show Tryz.prog.cellsOf 3 = 1 from by kernel_rfl] at f5
      obtain ⟨n5, e5, _, w5⟩ := DataW.trod_int Tryz.underlying3 f5
      simp at e5
      have f6 : DataW.trod enc Tryz.prog W 0 (fun _ => true) true m 4 (([c0, c1, c2, c3, c4, c5, c6, c7, c8, c9, c10, c11, c12, c13, c14].drop 12).take (Tryz.prog.cellsOf 4)) = some x6 := hf 6 _ rfl
      rw [show Tryz.prog.cellsOf 4 = 1 from by kernel_rfl] at f6
      obtain ⟨n6, e6, _⟩ := DataW.trod_bool Tryz.underlying4 f6
      simp at e6
      have f7 : DataW.trod enc Tryz.prog W 0 (fun _ => true) true m 45 (([c0, c1, c2, c3, c4, c5, c6, c7, c8, c9, c10, c11, c12, c13, c14].drop 13).take (Tryz.prog.cellsOf 45)) = some x7 := hf 7 _ rfl
      rw [show Tryz.prog.cellsOf 45 = 1 from by kernel_rfl] at f7
      obtain ⟨n7, e7, _, w7⟩ := DataW.trod_int Tryz.underlying45 f7
      simp at e7
      have f8 : DataW.trod enc Tryz.prog W 0 (fun _ => true) true m 3 (([c0, c1, c2, c3, c4, c5, c6, c7, c8, c9, c10, c11, c12, c13, c14].drop 14).take (Tryz.prog.cellsOf 3)) = some x8 := hf 8 _ rfl
      rw [show Tryz.prog.cellsOf 3 = 1 from by kernel_rfl] at f8
      obtain ⟨n8, e8, _, w8⟩ := DataW.trod_int Tryz.underlying3 f8
      simp at e8
      have hB : Rows.uptoBulk x.1 = Rows.uptoBulkAll ([x0, x1, x2, x3, x4, x5, x6, x7, x8].map (·.1)) + 1 := by rw [hx0]; simp only [Rows.uptoBulk]
      simp only [List.map_cons, List.map_nil, Rows.uptoBulkAll] at hB
      have h7 := u32_of_wf w7
      subst q0 q1 q2 q3 q4 q5 q6 e1 e2 e3 e4 e5 e6 e7 e8
      exact ⟨⟨⟨t, id, len, r, seq, age, sum, n1, n2, s3, l3.length, p3, s4, l4.length, p4, n5, n6, n7, n8⟩, l3, l4⟩, rfl, ⟨⟨i0, i1, r0, r1, h7.1, h7.2⟩, g3, o3, g4, o4⟩, Nat.zero_le _⟩

theorem db_open {fuel : Nat} {v : Value} {x : DataW H × List MemPlace} (h : DataW.trod enc Tryz.prog W 0 (fun _ => true) true fuel 32 [v] = some x) : ∃ db : List LsaD, DbAt W v db := by
  obtain ⟨a, c, l, rfl, g, o, -⟩ := slv_openb (⟨default, [], []⟩ : LsaD) (fun d => lsaE d.x) (DIn W) (fun _ => 0) Tryz.underlying32 (by kernel_rfl : Tryz.prog.cellsOf 47 = 15) (by omega) (fun _ => rfl) lsd_open h
  refine ⟨l, ?_, o⟩
  show SlV 15 W _ ((l.map LsaD.x).map lsaE)
  rw [List.map_map]; exact g
theorem reach_open {fuel : Nat} {v : Value} {x : DataW H × List MemPlace} (h : DataW.trod enc Tryz.prog W 0 (fun _ => true) true fuel 28 [v] = some x) : ∃ l : List Rch, ReachAt W v l ∧ hopSum l ≤ Rows.uptoBulk x.1 := by
  obtain ⟨a, c, l, rfl, g, o, _, b⟩ := slv_openb (⟨0, 0, false, false, false, 0, none, 0, 0, []⟩ : Rch) rchE (fun r => HopsAt W (.slice r.ha r.hn r.hc) r.hops) (fun r => r.hops.length) Tryz.underlying28 (by kernel_rfl : Tryz.prog.cellsOf 50 = 7) (by omega) (fun _ => rfl) rch_open h
  exact ⟨l, ⟨g, o⟩, by unfold hopSum; omega⟩
theorem routes_open {fuel : Nat} {v : Value} {x : DataW H × List MemPlace} (h : DataW.trod enc Tryz.prog W 0 (fun _ => true) true fuel 27 [v] = some x) : ∃ l : List RtH, RoutesAt W v l ∧ (∀ y ∈ l, OkP y.rt.pfx) ∧ (l.map fun y => y.hops.length).sum ≤ Rows.uptoBulk x.1 := by
  obtain ⟨a, c, l, rfl, g, o, _, b⟩ := slv_openb (default : RtH) (fun r => rtE r.rt) (fun r => HopsAt W r.rt.hv r.hops ∧ OkP r.rt.pfx) (fun r => r.hops.length) Tryz.underlying27 (by kernel_rfl : Tryz.prog.cellsOf 57 = 9) (by omega) (fun _ => rfl) (fun n cs x h => by obtain ⟨r, h1, ⟨h2, h3, _⟩, h4⟩ := rth_open n cs x h; exact ⟨r, h1, ⟨h2, h3⟩, h4⟩) h
  exact ⟨l, ⟨g, fun y hy => (o y hy).1⟩, fun y hy => (o y hy).2, by omega⟩
set_option maxRecDepth 100000 in
theorem arg_open (n : Nat) (cs : List Value) (x : DataW H × List MemPlace) (h : DataW.trod enc Tryz.prog W 0 (fun _ => true) true n 77 cs = some x) : ∃ g : Arg, cs = agE g ∧ OkP g.pfx ∧ 0 ≤ Rows.uptoBulk x.1 := by
  obtain ⟨xs, m, _, hx0, hcl, hxl, hf⟩ := DataW.trod_struct Tryz.underlying77 h
  rw [show Tryz.prog.cellsOf 77 = 4 from by kernel_rfl] at hcl
  match cs, hcl with
  | [c0, c1, c2, c3], _ =>
    have hx : xs.length = 3 := hxl
    match xs, hx with
    | [x0, x1, x2], _ =>
      have f0 : DataW.trod enc Tryz.prog W 0 (fun _ => true) true m 22 (([c0, c1, c2, c3].drop 0).take (Tryz.prog.cellsOf 22)) = some x0 := hf 0 _ rfl
      rw [show Tryz.prog.cellsOf 22 = 1 from by kernel_rfl] at f0
      obtain ⟨n0, e0, _, w0⟩ := DataW.trod_int Tryz.underlying22 f0
      simp at e0
      have f1 : DataW.trod enc Tryz.prog W 0 (fun _ => true) true m 55 (([c0, c1, c2, c3].drop 1).take (Tryz.prog.cellsOf 55)) = some x1 := hf 1 _ rfl
      rw [show Tryz.prog.cellsOf 55 = 2 from by kernel_rfl] at f1
      obtain ⟨q, e1, okq⟩ := pfx_open _ _ _ f1
      simp at e1
      have f2 : DataW.trod enc Tryz.prog W 0 (fun _ => true) true m 4 (([c0, c1, c2, c3].drop 3).take (Tryz.prog.cellsOf 4)) = some x2 := hf 2 _ rfl
      rw [show Tryz.prog.cellsOf 4 = 1 from by kernel_rfl] at f2
      obtain ⟨n2, e2, _⟩ := DataW.trod_bool Tryz.underlying4 f2
      simp at e2
      have hB : Rows.uptoBulk x.1 = Rows.uptoBulkAll ([x0, x1, x2].map (·.1)) + 1 := by rw [hx0]; simp only [Rows.uptoBulk]
      simp only [List.map_cons, List.map_nil, Rows.uptoBulkAll] at hB
      obtain ⟨e1, e1'⟩ := e1
      subst e0 e1 e1' e2
      exact ⟨⟨n0, q, n2⟩, rfl, okq, Nat.zero_le _⟩

set_option maxRecDepth 100000 in
theorem cfg_open (n : Nat) (cs : List Value) (x : DataW H × List MemPlace) (h : DataW.trod enc Tryz.prog W 0 (fun _ => true) true n 26 cs = some x) : ∃ (C : Cfg) (lr : List Arg), cs = cfgE C ∧ RngsAt W (.slice C.ra C.rn C.rc) lr ∧ ∀ o ∈ lr, OkP o.pfx := by
  obtain ⟨xs, m, _, hx0, hcl, hxl, hf⟩ := DataW.trod_struct Tryz.underlying26 h
  rw [show Tryz.prog.cellsOf 26 = 3 from by kernel_rfl] at hcl
  match cs, hcl with
  | [c0, c1, c2], _ =>
    have hx : xs.length = 3 := hxl
    match xs, hx with
    | [x0, x1, x2], _ =>
      have f0 : DataW.trod enc Tryz.prog W 0 (fun _ => true) true m 22 (([c0, c1, c2].drop 0).take (Tryz.prog.cellsOf 22)) = some x0 := hf 0 _ rfl
      rw [show Tryz.prog.cellsOf 22 = 1 from by kernel_rfl] at f0
      obtain ⟨n0, e0, _, w0⟩ := DataW.trod_int Tryz.underlying22 f0
      simp at e0
      have f1 : DataW.trod enc Tryz.prog W 0 (fun _ => true) true m 23 (([c0, c1, c2].drop 1).take (Tryz.prog.cellsOf 23)) = some x1 := hf 1 _ rfl
      rw [show Tryz.prog.cellsOf 23 = 1 from by kernel_rfl] at f1
      have e1 : ∃ a k c, c1 = .slice a k c := by
        rcases open_slice Tryz.underlying23 f1 with ⟨hcs, _⟩ | ⟨a, len, cap, _, _, _, _, hcs, _⟩
        · exact ⟨none, 0, 0, by simpa using hcs⟩
        · exact ⟨some a, len, cap, by simpa using hcs⟩
      obtain ⟨a1, k1, d1, e1⟩ := e1
      have f2 : DataW.trod enc Tryz.prog W 0 (fun _ => true) true m 24 (([c0, c1, c2].drop 2).take (Tryz.prog.cellsOf 24)) = some x2 := hf 2 _ rfl
      rw [show Tryz.prog.cellsOf 24 = 1 from by kernel_rfl] at f2
      obtain ⟨s2, p2, l2, e2, g2, o2, b2, -⟩ := slv_openb (default) agE (fun o => OkP o.pfx) (fun _ => 0) Tryz.underlying24 (by kernel_rfl : Tryz.prog.cellsOf 77 = 4) (by omega) (fun _ => rfl) arg_open f2
      have hB : Rows.uptoBulk x.1 = Rows.uptoBulkAll ([x0, x1, x2].map (·.1)) + 1 := by rw [hx0]; simp only [Rows.uptoBulk]
      simp only [List.map_cons, List.map_nil, Rows.uptoBulkAll] at hB
      subst e0 e1
      subst e2
      exact ⟨⟨n0, a1, k1, d1, s2, l2.length, p2⟩, l2, rfl, g2, o2⟩

set_option maxRecDepth 100000 in
theorem area_open (n : Nat) (cs : List Value) (x : DataW H × List MemPlace) (h : DataW.trod enc Tryz.prog W 0 (fun _ => true) true n 36 cs = some x) : ∃ (n0 : Int) (vd : Value) (db : List LsaD), cs = [.int .u32 n0, vd] ∧ DbAt W vd db := by
  obtain ⟨xs, m, _, hx0, hcl, hxl, hf⟩ := DataW.trod_struct Tryz.underlying36 h
  rw [show Tryz.prog.cellsOf 36 = 2 from by kernel_rfl] at hcl
  match cs, hcl with
  | [c0, c1], _ =>
    have hx : xs.length = 2 := hxl
    match xs, hx with
    | [x0, x1], _ =>
      have f0 : DataW.trod enc Tryz.prog W 0 (fun _ => true) true m 22 (([c0, c1].drop 0).take (Tryz.prog.cellsOf 22)) = some x0 := hf 0 _ rfl
      rw [show Tryz.prog.cellsOf 22 = 1 from by kernel_rfl] at f0
      obtain ⟨n0, e0, _, w0⟩ := DataW.trod_int Tryz.underlying22 f0
      simp at e0
      have f1 : DataW.trod enc Tryz.prog W 0 (fun _ => true) true m 32 (([c0, c1].drop 1).take (Tryz.prog.cellsOf 32)) = some x1 := hf 1 _ rfl
      rw [show Tryz.prog.cellsOf 32 = 1 from by kernel_rfl] at f1
      obtain ⟨db, hdb⟩ := db_open f1
      have hB : Rows.uptoBulk x.1 = Rows.uptoBulkAll ([x0, x1].map (·.1)) + 1 := by rw [hx0]; simp only [Rows.uptoBulk]
      simp only [List.map_cons, List.map_nil, Rows.uptoBulkAll] at hB
      subst e0
      exact ⟨n0, _, db, rfl, hdb⟩

set_option maxRecDepth 100000 in
theorem cfgv_open {v : Value} {d : DataW H} {p : List MemPlace} {base : Nat} (hv : Value.okWide Tryz.prog W .any base 26 v) (h : DataW.Trod enc Tryz.prog W 0 (fun _ => true) true 26 v d p) : ∃ (C : Cfg) (lr : List Arg), v = .agg (cfgE C).toArray ∧ RngsAt W (.slice C.ra C.rn C.rc) lr ∧ ∀ o ∈ lr, OkP o.pfx := by
  obtain ⟨cs, rfl, _⟩ := okWide_struct (t := 26) Tryz.underlying26 hv
  obtain ⟨fuel, hf⟩ := h
  obtain ⟨C, lr, hr, h2⟩ := cfg_open _ _ _ hf
  refine ⟨C, lr, ?_, h2⟩
  have : cs.toList = cfgE C := hr
  rw [← this]
set_option maxRecDepth 100000 in
theorem areav_open {v : Value} {d : DataW H} {p : List MemPlace} {base : Nat} (hv : Value.okWide Tryz.prog W .any base 36 v) (h : DataW.Trod enc Tryz.prog W 0 (fun _ => true) true 36 v d p) : ∃ (n0 : Int) (vd : Value) (db : List LsaD), v = .agg #[.int .u32 n0, vd] ∧ DbAt W vd db := by
  obtain ⟨cs, rfl, _⟩ := okWide_struct (t := 36) Tryz.underlying36 hv
  obtain ⟨fuel, hf⟩ := h
  obtain ⟨n0, vd, db, hr, h2⟩ := area_open _ _ _ hf
  refine ⟨n0, vd, db, ?_, h2⟩
  have : cs.toList = [.int .u32 n0, vd] := hr
  rw [← this]
end

end Go.Proofs.YtogdconliofblaaGreat

namespace Go.Proofs.YtogdconliofblaaGreat
open Go.ChangeShapes Go.WideShapes Go.ChangeAt Go.RowKit

section
variable {H : Type} {enc : TypeId × Value → H} {P : Program}

theorem trodAll_stays (hl : laidOutB P = true) {W W' : World} {base : Nat} {sp' : Nat → Bool} : ∀ {ts : List TypeId} {vs : List Value} {ds : List (DataW H)} {ps : List MemPlace},
    (ts.all fun t => P.readableRec t && decide (t < P.types.size)) = true → DataW.TrodAll enc P W base (fun _ => true) true ts vs ds ps → (∀ p ∈ ps, W.sameAt W' p) → (∀ p ∈ ps, sp' p.block = true) → DataW.TrodAll enc P W' base sp' true ts vs ds ps
  | [], [], [], _, _, h, _, _ => h
  | t :: ts, v :: vs, d :: ds, _, ht, ⟨p, q, h1, h2, e⟩, hm, hs => by
    simp only [List.all_cons, Bool.and_eq_true, decide_eq_true_eq] at ht
    refine ⟨p, q, WideElems.Trod_stays hl ht.1.1 ht.1.2 h1 (fun x hx => hm x (by rw [e]; exact List.mem_append_left _ hx)) (fun x hx => hs x (by rw [e]; exact List.mem_append_left _ hx)),
      trodAll_stays hl ht.2 h2 (fun x hx => hm x (by rw [e]; exact List.mem_append_right _ hx)) (fun x hx => hs x (by rw [e]; exact List.mem_append_right _ hx)), e⟩

/-- the last step of a row that says 'true for every input' and lists no variable -/
theorem post_true (hl : laidOutB P = true) {f : Func} {s : ChangeSpec} {apart fresh handsOn : Bool} {W W' : World} {args : Array Value} {ds : List (DataW H)} {before : List MemPlace}
    (hv : s.vars = []) (hp : (f.params.toList.all fun t => P.readableRec t && decide (t < P.types.size)) = true) (hr : f.resultTypes = #[4]) (h4 : P.underlying 4 = some .bool)
    (hfn : (s.fn H ds).results = [.lit (.bool true)] ∧ (s.fn H ds).args = ds ∧ (s.fn H ds).vars = [])
    (hW : DataW.Whole enc P f.params.toList s.vars apart W args.toList ds [] before) (hb : Below W.heap.size W W') :
    s.post enc P f apart fresh handsOn false W args (.bool true) W' := by
  have hlt := fun p hp => hW.lt p hp
  have hW' := hW
  obtain ⟨p, q, hA, hV, hpq, hz, hn⟩ := hW
  rw [hv] at hV
  obtain ⟨_, hq⟩ := trodVars_none hV
  rw [hq, List.append_nil] at hpq
  subst hpq
  refine ⟨ds, [], before, [], before, [], hW', ?_, ?_, ?_, ?_, fun h => by cases h⟩
  · rw [List.append_nil, hfn.1, hr]
    exact trodAll_cons_mk (shut_bool h4 _) trodAll_mk0
  · rw [List.append_nil, hfn.2.1]
    exact trodAll_stays hl hp hA (fun x hx => hb.same (hlt x hx)) (fun x hx => by simpa using hlt x hx)
  · rw [List.append_nil, hfn.2.2, hv]; rfl
  · exact hb.frame _

end
end Go.Proofs.YtogdconliofblaaGreat

namespace Go.Proofs.YtogdconliofblaaGreat
open Go.ChangeShapes Go.WideShapes Go.ChangeAt Go.RowKit Go.Deep

theorem hop_le_sum {l : List RtH} {y : RtH} (h : y ∈ l) : y.hops.length ≤ (l.map fun x => x.hops.length).sum := by
  induction l with
  | nil => cases h
  | cons a l ih =>
    rw [List.map_cons, List.sum_cons]
    rcases List.mem_cons.1 h with h | h
    · subst h; omega
    · have := ih h; omega

theorem ownG : ownKnob Tryz.prog.godebug = none := by kernel_rfl

set_option maxRecDepth 100000 in
theorem interChoosesUpto_contract (H : Type) (enc : TypeId × Value → H) (W : World) (base : Nat) (args : Array Value) (ds gs : List (DataW H)) (before : List MemPlace)
    (hval : ∀ (j : Nat) t v, Tryz.f7.params[j]? = some t → args[j]? = some v → Value.okWide Tryz.prog W .any base t v)
    (hW : DataW.Whole enc Tryz.prog Tryz.f7.params.toList Rows.interChoosesSpec.vars false W args.toList ds gs before) (hk : Rows.uptoSmall H (ds ++ gs) = true) :
    Calls Tryz.prog 7 args W fun e W' => ∃ v, e = .returned v ∧ Rows.interChoosesSpec.post enc Tryz.prog Tryz.f7 false true false false W args v W' := by
  have hW' := hW
  obtain ⟨p, q, hA0, hV, rfl, hfz, hnd⟩ := hW
  have hA : DataW.TrodAll enc Tryz.prog W 0 (fun _ => true) true Tryz.f7.params.toList args.toList ds p := hA0
  rw [Tryz.params7] at hA hval
  obtain ⟨v0, vs0, d0, ds0, p0, q0, hargs, rfl, rfl, h0, r0⟩ := trodAll_cons hA
  obtain ⟨v1, vs1, d1, ds1, p1, q1, rfl, rfl, rfl, h1, r1⟩ := trodAll_cons r0
  obtain ⟨rfl, rfl, rfl⟩ := trodAll_nil r1
  obtain rfl : args = #[v0, v1] := by cases args; simp_all
  obtain ⟨rfl, rfl⟩ := trodVars_none hV
  clear hA0
  obtain ⟨a0, n0, c0, rfl⟩ := okWide_slice Tryz.underlying27 (hval 0 27 v0 rfl rfl)
  obtain ⟨a1, n1, c1, rfl⟩ := okWide_slice Tryz.underlying27 (hval 1 27 v1 rfl rfl)
  obtain ⟨fuel0, hf0⟩ := h0
  obtain ⟨fuel1, hf1⟩ := h1
  obtain ⟨la, hla, -, bla⟩ := routes_open hf0
  obtain ⟨lb, hlb, -, blb⟩ := routes_open hf1
  simp only [List.append_nil] at hW' hk
  have hbk : Rows.uptoBulkAll [d0, d1] ≤ 1048576 := of_decide_eq_true hk
  simp only [Rows.uptoBulkAll] at hbk
  have hM : ∀ x ∈ la ++ lb, x.hops.length ≤ 1048576 := fun x hx => by
    rcases List.mem_append.1 hx with h | h
    · have := hop_le_sum h
      simp only at bla; omega
    · have := hop_le_sum h
      simp only at blb; omega
  refine (ichoose_law W _ _ la lb hla hlb hM).mono fun e W' ⟨he, hb⟩ => ?_
  subst he
  exact ⟨_, rfl, post_true (by kernel_rfl) rfl (by kernel_rfl) rfl Tryz.underlying4 ⟨rfl, rfl, rfl⟩ hW' hb⟩

set_option maxRecDepth 100000 in
theorem interChoosesUpto_lifted (os : Os) (started : os.Started) (H : Type) (enc : TypeId × Value → H) (F : Stop.Interp) :
    ReturnsInHanded {} Tryz.checked os 7 .any ((Rows.OpenSpec.upto Rows.interChoosesSpec).pre6 enc Tryz.prog Tryz.f7 Rows.interChoosesUptoRow.domain false) (((Rows.OpenSpec.upto Rows.interChoosesSpec).at F).post enc Tryz.prog Tryz.f7 false true false false) := by
  refine returnsInHanded_of_cond (C := Tryz.checked) (s := Rows.OpenSpec.upto Rows.interChoosesSpec) (k := Rows.uptoSmall) rfl ownG started (by kernel_rfl) Tryz.func7
    (OpenSpec.witness (enc := enc) (C := Tryz.checked) (s := Rows.OpenSpec.upto Rows.interChoosesSpec) (k := Rows.uptoSmall) rfl false ⟨#[], #[.slice none 0 0, .slice none 0 0], []⟩ 8 (by kernel_rfl) (by kernel_rfl) (by kernel_rfl)
      (x := ([.nil, .nil], [], [])) (by kernel_rfl) rfl (by kernel_rfl)) ?_
  intro W base args ds gs before hval hW _ hk _
  exact interChoosesUpto_contract H enc W base args ds gs before hval hW hk

theorem interChoosesUpto_holds : Rows.InterChoosesUptoSaid :=
  OpenClaim.holds_of_cond 7 Tryz.f7 rfl rfl rfl rfl rfl rfl rfl ⟨rfl, rfl, rfl, rfl, rfl⟩ rfl rfl rfl rfl rfl (by kernel_rfl) Tryz.func7 (by kernel_rfl)
    (of_decide_eq_true (by kernel_rfl)) (by unfold Func.isWrapper; first | (rw [if_pos (by decide +kernel)]; kernel_rfl) | (rw [if_neg (by decide +kernel)]; exact ⟨rfl, rfl⟩))
    (fun os started H enc _ F => interChoosesUpto_lifted os started H enc F)
#print axioms interChoosesUpto_holds

end Go.Proofs.YtogdconliofblaaGreat
