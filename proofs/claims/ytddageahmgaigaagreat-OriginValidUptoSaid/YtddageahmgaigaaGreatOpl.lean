import Derived.Test.YtddageahmgaigaaGreatOpa
import Derived.Test.YtddageahmgaigaaGreatRtp
namespace Go.Proofs.YtddageahmgaigaaGreat
open Go.ChangeShapes Go.WideShapes Go.ChangeAt Go.RowKit Go.Deep

instance : Inhabited Nb := ⟨⟨0, 0, 0, 0, 0, 0, 0, false, 0, ⟨none, 0, 0⟩, ⟨none, 0, 0⟩, false, ⟨none, 0, 0⟩, ⟨none, 0, 0⟩, 0⟩⟩
instance : Inhabited IfD := ⟨⟨default, []⟩⟩
def hdT (a : Int × Int × Int × Int × Int × Int × Int) : List Value := [.int .i64 a.1, .int .u32 a.2.1, .int .i64 a.2.2.1, .int .u32 a.2.2.2.1, .int .i64 a.2.2.2.2.1, .int .i64 a.2.2.2.2.2.1, .int .i64 a.2.2.2.2.2.2]
def nbW (n : Nb) : Nat := 1 + (n.v9.n + n.v10.n + n.v12.n + n.v13.n)
def ifW (d : IfD) : Nat := 1 + (d.nb.map nbW).sum
def NbG (W : World) (n : Nb) : Prop := NbIn W n ∧ 0 ≤ n.r ∧ n.r < 4294967296 ∧ 0 ≤ n.a ∧ n.a < 4294967296
structure IfG (W : World) (d : IfD) : Prop where
  inn : IfIn W d
  nb : ∀ n ∈ d.nb, NbG W n
  pa0 : 0 ≤ d.x.pa
  pa1 : d.x.pa < 4294967296
  ad0 : 0 ≤ d.x.ad
  ad1 : d.x.ad < 4294967296
  ar0 : 0 ≤ d.x.area
  ar1 : d.x.area < 4294967296
  dr0 : 0 ≤ d.x.dr
  dr1 : d.x.dr < 4294967296
theorem len_nbW (l : List Nb) : l.length ≤ (l.map nbW).sum := by
  induction l with
  | nil => simp
  | cons x r ih => simp only [List.length_cons, List.map_cons, List.sum_cons, nbW]; omega

section
variable {H : Type} {enc : TypeId × Value → H} {W : World}

theorem hdrT_open (n : Nat) (cs : List Value) (x : DataW H × List MemPlace) (h : DataW.trod enc Tryz.prog W 0 (fun _ => true) true n 37 cs = some x) : ∃ a, cs = hdT a ∧ True ∧ 0 ≤ Rows.uptoBulk x.1 := by
  obtain ⟨t, id, len, r, seq, age, sum, e, -⟩ := hdr_open n cs x h
  exact ⟨(t, id, len, r, seq, age, sum), e, trivial, Nat.zero_le _⟩

theorem hds_open {fuel : Nat} {v : Value} {x : DataW H × List MemPlace} (h : DataW.trod enc Tryz.prog W 0 (fun _ => true) true fuel 70 [v] = some x) : ∃ a n c, v = .slice a n c ∧ HdsAt W (.slice a n c) ∧ n + 1 ≤ Rows.uptoBulk x.1 := by
  obtain ⟨a, c, l, rfl, g, o, b1, b2⟩ := slv_openb ((0, 0, 0, 0, 0, 0, 0) : Int × Int × Int × Int × Int × Int × Int) hdT (fun _ => True) (fun _ => 0) Tryz.underlying70 (by kernel_rfl : Tryz.prog.cellsOf 37 = 7) (by omega) (fun _ => rfl) hdrT_open h
  refine ⟨a, l.length, c, rfl, ⟨l.map hdT, g, fun q hq => ?_, fun q hq u hu => ?_⟩, b1⟩
  · obtain ⟨z, -, rfl⟩ := List.mem_map.1 hq; rfl
  · obtain ⟨z, -, rfl⟩ := List.mem_map.1 hq
    simp only [hdT, List.mem_cons, List.not_mem_nil, or_false] at hu
    rcases hu with rfl | rfl | rfl | rfl | rfl | rfl | rfl <;> rfl

set_option maxRecDepth 100000 in
theorem nb_open (n : Nat) (cs : List Value) (x : DataW H × List MemPlace) (h : DataW.trod enc Tryz.prog W 0 (fun _ => true) true n 72 cs = some x) : ∃ a : Nb, cs = nbE a ∧ NbG W a ∧ nbW a ≤ Rows.uptoBulk x.1 := by
  obtain ⟨xs, m, _, hx0, hcl, hxl, hf⟩ := DataW.trod_struct Tryz.underlying72 h
  rw [show Tryz.prog.cellsOf 72 = 15 from by kernel_rfl] at hcl
  match cs, hcl with
  | [c0, c1, c2, c3, c4, c5, c6, c7, c8, c9, c10, c11, c12, c13, c14], _ =>
    have hx : xs.length = 15 := hxl
    match xs, hx with
    | [x0, x1, x2, x3, x4, x5, x6, x7, x8, x9, x10, x11, x12, x13, x14], _ =>
      have f0 : DataW.trod enc Tryz.prog W 0 (fun _ => true) true m 22 (([c0, c1, c2, c3, c4, c5, c6, c7, c8, c9, c10, c11, c12, c13, c14].drop 0).take (Tryz.prog.cellsOf 22)) = some x0 := hf 0 _ rfl
      rw [show Tryz.prog.cellsOf 22 = 1 from by kernel_rfl] at f0
      obtain ⟨n0, e0, _, w0⟩ := DataW.trod_int Tryz.underlying22 f0
      simp at e0
      have f1 : DataW.trod enc Tryz.prog W 0 (fun _ => true) true m 40 (([c0, c1, c2, c3, c4, c5, c6, c7, c8, c9, c10, c11, c12, c13, c14].drop 1).take (Tryz.prog.cellsOf 40)) = some x1 := hf 1 _ rfl
      rw [show Tryz.prog.cellsOf 40 = 1 from by kernel_rfl] at f1
      obtain ⟨n1, e1, _, w1⟩ := DataW.trod_int Tryz.underlying40 f1
      simp at e1
      have f2 : DataW.trod enc Tryz.prog W 0 (fun _ => true) true m 3 (([c0, c1, c2, c3, c4, c5, c6, c7, c8, c9, c10, c11, c12, c13, c14].drop 2).take (Tryz.prog.cellsOf 3)) = some x2 := hf 2 _ rfl
      rw [show Tryz.prog.cellsOf 3 = 1 from by kernel_rfl] at f2
      obtain ⟨n2, e2, _, w2⟩ := DataW.trod_int Tryz.underlying3 f2
      simp at e2
      have f3 : DataW.trod enc Tryz.prog W 0 (fun _ => true) true m 22 (([c0, c1, c2, c3, c4, c5, c6, c7, c8, c9, c10, c11, c12, c13, c14].drop 3).take (Tryz.prog.cellsOf 22)) = some x3 := hf 3 _ rfl
      rw [show Tryz.prog.cellsOf 22 = 1 from by kernel_rfl] at f3
      obtain ⟨n3, e3, _, w3⟩ := DataW.trod_int Tryz.underlying22 f3
      simp at e3
      have f4 : DataW.trod enc Tryz.prog W 0 (fun _ => true) true m 22 (([c0, c1, c2, c3, c4, c5, c6, c7, c8, c9, c10, c11, c12, c13, c14].drop 4).take (Tryz.prog.cellsOf 22)) = some x4 := hf 4 _ rfl
      rw [show Tryz.prog.cellsOf 22 = 1 from by kernel_rfl] at f4
      obtain ⟨n4, e4, _, w4⟩ := DataW.trod_int Tryz.underlying22 f4
      simp at e4
      have f5 : DataW.trod enc Tryz.prog W 0 (fun _ => true) true m 3 (([c0, c1, c2, c3, c4, c5, c6, c7, c8, c9, c10, c11, c12, c13, c14].drop 5).take (Tryz.prog.cellsOf 3)) = some x5 := hf 5 _ rfl
      rw [show Tryz.prog.cellsOf 3 = 1 from by kernel_rfl] at f5
      obtain ⟨n5, e5, _, w5⟩ := DataW.trod_int Tryz.underlying3 f5
      simp at e5
      have f6 : DataW.trod enc Tryz.prog W 0 (fun _ => true) true m 3 (([c0, c1, c2, c3, c4, c5, c6, c7, c8, c9, c10, c11, c12, c13, c14].drop 6).take (Tryz.prog.cellsOf 3)) = some x6 := hf 6 _ rfl
      rw [show Tryz.prog.cellsOf 3 = 1 from by kernel_rfl] at f6
      obtain ⟨n6, e6, _, w6⟩ := DataW.trod_int Tryz.underlying3 f6
      simp at e6
      have f7 : DataW.trod enc Tryz.prog W 0 (fun _ => true) true m 4 (([c0, c1, c2, c3, c4, c5, c6, c7, c8, c9, c10, c11, c12, c13, c14].drop 7).take (Tryz.prog.cellsOf 4)) = some x7 := hf 7 _ rfl
      rw [show Tryz.prog.cellsOf 4 = 1 from by kernel_rfl] at f7
      obtain ⟨n7, e7, _⟩ := DataW.trod_bool Tryz.underlying4 f7
      simp at e7
      have f8 : DataW.trod enc Tryz.prog W 0 (fun _ => true) true m 3 (([c0, c1, c2, c3, c4, c5, c6, c7, c8, c9, c10, c11, c12, c13, c14].drop 8).take (Tryz.prog.cellsOf 3)) = some x8 := hf 8 _ rfl
      rw [show Tryz.prog.cellsOf 3 = 1 from by kernel_rfl] at f8
      obtain ⟨n8, e8, _, w8⟩ := DataW.trod_int Tryz.underlying3 f8
      simp at e8
      have f9 : DataW.trod enc Tryz.prog W 0 (fun _ => true) true m 70 (([c0, c1, c2, c3, c4, c5, c6, c7, c8, c9, c10, c11, c12, c13, c14].drop 9).take (Tryz.prog.cellsOf 70)) = some x9 := hf 9 _ rfl
      rw [show Tryz.prog.cellsOf 70 = 1 from by kernel_rfl] at f9
      obtain ⟨a9, l9, p9, e9, g9, b9⟩ := hds_open f9
      have f10 : DataW.trod enc Tryz.prog W 0 (fun _ => true) true m 70 (([c0, c1, c2, c3, c4, c5, c6, c7, c8, c9, c10, c11, c12, c13, c14].drop 10).take (Tryz.prog.cellsOf 70)) = some x10 := hf 10 _ rfl
      rw [show Tryz.prog.cellsOf 70 = 1 from by kernel_rfl] at f10
      obtain ⟨a10, l10, p10, e10, g10, b10⟩ := hds_open f10
      have f11 : DataW.trod enc Tryz.prog W 0 (fun _ => true) true m 4 (([c0, c1, c2, c3, c4, c5, c6, c7, c8, c9, c10, c11, c12, c13, c14].drop 11).take (Tryz.prog.cellsOf 4)) = some x11 := hf 11 _ rfl
      rw [show Tryz.prog.cellsOf 4 = 1 from by kernel_rfl] at f11
      obtain ⟨n11, e11, _⟩ := DataW.trod_bool Tryz.underlying4 f11
      simp at e11
      have f12 : DataW.trod enc Tryz.prog W 0 (fun _ => true) true m 70 (([c0, c1, c2, c3, c4, c5, c6, c7, c8, c9, c10, c11, c12, c13, c14].drop 12).take (Tryz.prog.cellsOf 70)) = some x12 := hf 12 _ rfl
      rw [show Tryz.prog.cellsOf 70 = 1 from by kernel_rfl] at f12
      obtain ⟨a12, l12, p12, e12, g12, b12⟩ := hds_open f12
      have f13 : DataW.trod enc Tryz.prog W 0 (fun _ => true) true m 70 (([c0, c1, c2, c3, c4, c5, c6, c7, c8, c9, c10, c11, c12, c13, c14].drop 13).take (Tryz.prog.cellsOf 70)) = some x13 := hf 13 _ rfl
      rw [show Tryz.prog.cellsOf 70 = 1 from by kernel_rfl] at f13
      obtain ⟨a13, l13, p13, e13, g13, b13⟩ := hds_open f13
      have f14 : DataW.trod enc Tryz.prog W 0 (fun _ => true) true m 3 (([c0, c1, c2, c3, c4, c5, c6, c7, c8, c9, c10, c11, c12, c13, c14].drop 14).take (Tryz.prog.cellsOf 3)) = some x14 := hf 14 _ rfl
      rw [show Tryz.prog.cellsOf 3 = 1 from by kernel_rfl] at f14
      obtain ⟨n14, e14, _, w14⟩ := DataW.trod_int Tryz.underlying3 f14
      simp at e14
      have hB : Rows.uptoBulk x.1 = Rows.uptoBulkAll ([x0, x1, x2, x3, x4, x5, x6, x7, x8, x9, x10, x11, x12, x13, x14].map (·.1)) + 1 := by rw [hx0]; simp only [Rows.uptoBulk]
      simp only [List.map_cons, List.map_nil, Rows.uptoBulkAll] at hB
      have h0 := u32_of_wf w0
      have h1 := u32_of_wf w1
      subst e0 e1 e2 e3 e4 e5 e6 e7 e8 e9 e10 e11 e12 e13 e14
      exact ⟨⟨n0, n1, n2, n3, n4, n5, n6, n7, n8, ⟨a9, l9, p9⟩, ⟨a10, l10, p10⟩, n11, ⟨a12, l12, p12⟩, ⟨a13, l13, p13⟩, n14⟩, rfl, ⟨⟨g9, g10, g12, g13⟩, h0.1, h0.2, h1.1, h1.2⟩, by simp only [nbW]; omega⟩

set_option maxRecDepth 100000 in
theorem pfx_open (n : Nat) (cs : List Value) (x : DataW H × List MemPlace) (h : DataW.trod enc Tryz.prog W 0 (fun _ => true) true n 64 cs = some x) : ∃ a l : Int, cs = [.int .u32 a, .int .i64 l] ∧ 0 ≤ a ∧ a < 4294967296 := by
  obtain ⟨xs, m, _, hx0, hcl, hxl, hf⟩ := DataW.trod_struct Tryz.underlying64 h
  rw [show Tryz.prog.cellsOf 64 = 2 from by kernel_rfl] at hcl
  match cs, hcl with
  | [c0, c1], _ =>
    have hx : xs.length = 2 := hxl
    match xs, hx with
    | [x0, x1], _ =>
      have f0 : DataW.trod enc Tryz.prog W 0 (fun _ => true) true m 40 (([c0, c1].drop 0).take (Tryz.prog.cellsOf 40)) = some x0 := hf 0 _ rfl
      rw [show Tryz.prog.cellsOf 40 = 1 from by kernel_rfl] at f0
      obtain ⟨n0, e0, _, w0⟩ := DataW.trod_int Tryz.underlying40 f0
      simp at e0
      have f1 : DataW.trod enc Tryz.prog W 0 (fun _ => true) true m 3 (([c0, c1].drop 1).take (Tryz.prog.cellsOf 3)) = some x1 := hf 1 _ rfl
      rw [show Tryz.prog.cellsOf 3 = 1 from by kernel_rfl] at f1
      obtain ⟨n1, e1, _, w1⟩ := DataW.trod_int Tryz.underlying3 f1
      simp at e1
      have hB : Rows.uptoBulk x.1 = Rows.uptoBulkAll ([x0, x1].map (·.1)) + 1 := by rw [hx0]; simp only [Rows.uptoBulk]
      simp only [List.map_cons, List.map_nil, Rows.uptoBulkAll] at hB
      have h0 := u32_of_wf w0
      subst e0 e1
      exact ⟨n0, n1, rfl, h0.1, h0.2⟩

set_option maxRecDepth 100000 in
theorem ifc_open (n : Nat) (cs : List Value) (x : DataW H × List MemPlace) (h : DataW.trod enc Tryz.prog W 0 (fun _ => true) true n 66 cs = some x) : ∃ kind pa pl ad area cost prio hel dead : Int, cs = [.int .i64 kind, .int .u32 pa, .int .i64 pl, .int .u32 ad, .int .u32 area, .int .i64 cost, .int .i64 prio, .int .i64 hel, .int .i64 dead] ∧ 0 ≤ pa ∧ pa < 4294967296 ∧ 0 ≤ ad ∧ ad < 4294967296 ∧ 0 ≤ area ∧ area < 4294967296 := by
  obtain ⟨xs, m, _, hx0, hcl, hxl, hf⟩ := DataW.trod_struct Tryz.underlying66 h
  rw [show Tryz.prog.cellsOf 66 = 9 from by kernel_rfl] at hcl
  match cs, hcl with
  | [c0, c1, c2, c3, c4, c5, c6, c7, c8], _ =>
    have hx : xs.length = 8 := hxl
    match xs, hx with
    | [x0, x1, x2, x3, x4, x5, x6, x7], _ =>
      have f0 : DataW.trod enc Tryz.prog W 0 (fun _ => true) true m 3 (([c0, c1, c2, c3, c4, c5, c6, c7, c8].drop 0).take (Tryz.prog.cellsOf 3)) = some x0 := hf 0 _ rfl
      rw [show Tryz.prog.cellsOf 3 = 1 from by kernel_rfl] at f0
      obtain ⟨n0, e0, _, w0⟩ := DataW.trod_int Tryz.underlying3 f0
      simp at e0
      have f1 : DataW.trod enc Tryz.prog W 0 (fun _ => true) true m 64 (([c0, c1, c2, c3, c4, c5, c6, c7, c8].drop 1).take (Tryz.prog.cellsOf 64)) = some x1 := hf 1 _ rfl
      rw [show Tryz.prog.cellsOf 64 = 2 from by kernel_rfl] at f1
      obtain ⟨pa, pl, e1, q0, q1⟩ := pfx_open _ _ _ f1
      simp at e1
      obtain ⟨k0, k1⟩ := e1
      have f2 : DataW.trod enc Tryz.prog W 0 (fun _ => true) true m 40 (([c0, c1, c2, c3, c4, c5, c6, c7, c8].drop 3).take (Tryz.prog.cellsOf 40)) = some x2 := hf 2 _ rfl
      rw [show Tryz.prog.cellsOf 40 = 1 from by kernel_rfl] at f2
      obtain ⟨n2, e2, _, w2⟩ := DataW.trod_int Tryz.underlying40 f2
      simp at e2
      have f3 : DataW.trod enc Tryz.prog W 0 (fun _ => true) true m 22 (([c0, c1, c2, c3, c4, c5, c6, c7, c8].drop 4).take (Tryz.prog.cellsOf 22)) = some x3 := hf 3 _ rfl
      rw [show Tryz.prog.cellsOf 22 = 1 from by kernel_rfl] at f3
      obtain ⟨n3, e3, _, w3⟩ := DataW.trod_int Tryz.underlying22 f3
      simp at e3
      have f4 : DataW.trod enc Tryz.prog W 0 (fun _ => true) true m 3 (([c0, c1, c2, c3, c4, c5, c6, c7, c8].drop 5).take (Tryz.prog.cellsOf 3)) = some x4 := hf 4 _ rfl
      rw [show Tryz.prog.cellsOf 3 = 1 from by kernel_rfl] at f4
      obtain ⟨n4, e4, _, w4⟩ := DataW.trod_int Tryz.underlying3 f4
      simp at e4
      have f5 : DataW.trod enc Tryz.prog W 0 (fun _ => true) true m 3 (([c0, c1, c2, c3, c4, c5, c6, c7, c8].drop 6).take (Tryz.prog.cellsOf 3)) = some x5 := hf 5 _ rfl
      rw [show Tryz.prog.cellsOf 3 = 1 from by kernel_rfl] at f5
      obtain ⟨n5, e5, _, w5⟩ := DataW.trod_int Tryz.underlying3 f5
      simp at e5
      have f6 : DataW.trod enc Tryz.prog W 0 (fun _ => true) true m 3 (([c0, c1, c2, c3, c4, c5, c6, c7, c8].drop 7).take (Tryz.prog.cellsOf 3)) = some x6 := hf 6 _ rfl
      rw [show Tryz.prog.cellsOf 3 = 1 from by kernel_rfl] at f6
      obtain ⟨n6, e6, _, w6⟩ := DataW.trod_int Tryz.underlying3 f6
      simp at e6
      have f7 : DataW.trod enc Tryz.prog W 0 (fun _ => true) true m 3 (([c0, c1, c2, c3, c4, c5, c6, c7, c8].drop 8).take (Tryz.prog.cellsOf 3)) = some x7 := hf 7 _ rfl
      rw [show Tryz.prog.cellsOf 3 = 1 from by kernel_rfl] at f7
      obtain ⟨n7, e7, _, w7⟩ := DataW.trod_int Tryz.underlying3 f7
      simp at e7
      have hB : Rows.uptoBulk x.1 = Rows.uptoBulkAll ([x0, x1, x2, x3, x4, x5, x6, x7].map (·.1)) + 1 := by rw [hx0]; simp only [Rows.uptoBulk]
      simp only [List.map_cons, List.map_nil, Rows.uptoBulkAll] at hB
      have h2 := u32_of_wf w2
      have h3 := u32_of_wf w3
      subst e0 k0 k1 e2 e3 e4 e5 e6 e7
      exact ⟨n0, pa, pl, n2, n3, n4, n5, n6, n7, rfl, q0, q1, h2.1, h2.2, h3.1, h3.2⟩

set_option maxRecDepth 100000 in
theorem if_open (n : Nat) (cs : List Value) (x : DataW H × List MemPlace) (h : DataW.trod enc Tryz.prog W 0 (fun _ => true) true n 69 cs = some x) : ∃ d : IfD, cs = ifE d.x ∧ IfG W d ∧ ifW d ≤ Rows.uptoBulk x.1 := by
  obtain ⟨xs, m, _, hx0, hcl, hxl, hf⟩ := DataW.trod_struct Tryz.underlying69 h
  rw [show Tryz.prog.cellsOf 69 = 15 from by kernel_rfl] at hcl
  match cs, hcl with
  | [c0, c1, c2, c3, c4, c5, c6, c7, c8, c9, c10, c11, c12, c13, c14], _ =>
    have hx : xs.length = 7 := hxl
    match xs, hx with
    | [x0, x1, x2, x3, x4, x5, x6], _ =>
      have f0 : DataW.trod enc Tryz.prog W 0 (fun _ => true) true m 66 (([c0, c1, c2, c3, c4, c5, c6, c7, c8, c9, c10, c11, c12, c13, c14].drop 0).take (Tryz.prog.cellsOf 66)) = some x0 := hf 0 _ rfl
      rw [show Tryz.prog.cellsOf 66 = 9 from by kernel_rfl] at f0
      obtain ⟨kind, pa, pl, ad, area, cost, prio, hel, dead, e0, q0, q1, q2, q3, q4, q5⟩ := ifc_open _ _ _ f0
      simp at e0
      obtain ⟨k0, k1, k2, k3, k4, k5, k6, k7, k8⟩ := e0
      have f1 : DataW.trod enc Tryz.prog W 0 (fun _ => true) true m 4 (([c0, c1, c2, c3, c4, c5, c6, c7, c8, c9, c10, c11, c12, c13, c14].drop 9).take (Tryz.prog.cellsOf 4)) = some x1 := hf 1 _ rfl
      rw [show Tryz.prog.cellsOf 4 = 1 from by kernel_rfl] at f1
      obtain ⟨n1, e1, _⟩ := DataW.trod_bool Tryz.underlying4 f1
      simp at e1
      have f2 : DataW.trod enc Tryz.prog W 0 (fun _ => true) true m 22 (([c0, c1, c2, c3, c4, c5, c6, c7, c8, c9, c10, c11, c12, c13, c14].drop 10).take (Tryz.prog.cellsOf 22)) = some x2 := hf 2 _ rfl
      rw [show Tryz.prog.cellsOf 22 = 1 from by kernel_rfl] at f2
      obtain ⟨n2, e2, _, w2⟩ := DataW.trod_int Tryz.underlying22 f2
      simp at e2
      have f3 : DataW.trod enc Tryz.prog W 0 (fun _ => true) true m 22 (([c0, c1, c2, c3, c4, c5, c6, c7, c8, c9, c10, c11, c12, c13, c14].drop 11).take (Tryz.prog.cellsOf 22)) = some x3 := hf 3 _ rfl
      rw [show Tryz.prog.cellsOf 22 = 1 from by kernel_rfl] at f3
      obtain ⟨n3, e3, _, w3⟩ := DataW.trod_int Tryz.underlying22 f3
      simp at e3
      have f4 : DataW.trod enc Tryz.prog W 0 (fun _ => true) true m 3 (([c0, c1, c2, c3, c4, c5, c6, c7, c8, c9, c10, c11, c12, c13, c14].drop 12).take (Tryz.prog.cellsOf 3)) = some x4 := hf 4 _ rfl
      rw [show Tryz.prog.cellsOf 3 = 1 from by kernel_rfl] at f4
      obtain ⟨n4, e4, _, w4⟩ := DataW.trod_int Tryz.underlying3 f4
      simp at e4
      have f5 : DataW.trod enc Tryz.prog W 0 (fun _ => true) true m 3 (([c0, c1, c2, c3, c4, c5, c6, c7, c8, c9, c10, c11, c12, c13, c14].drop 13).take (Tryz.prog.cellsOf 3)) = some x5 := hf 5 _ rfl
      rw [show Tryz.prog.cellsOf 3 = 1 from by kernel_rfl] at f5
      obtain ⟨n5, e5, _, w5⟩ := DataW.trod_int Tryz.underlying3 f5
      simp at e5
      have f6 : DataW.trod enc Tryz.prog W 0 (fun _ => true) true m 67 (([c0, c1, c2, c3, c4, c5, c6, c7, c8, c9, c10, c11, c12, c13, c14].drop 14).take (Tryz.prog.cellsOf 67)) = some x6 := hf 6 _ rfl
      rw [show Tryz.prog.cellsOf 67 = 1 from by kernel_rfl] at f6
      obtain ⟨s6, p6, l6, e6, g6, o6, b6, t6⟩ := slv_openb (default : Nb) nbE (NbG W) nbW Tryz.underlying67 (by kernel_rfl : Tryz.prog.cellsOf 72 = 15) (by omega) (fun _ => rfl) nb_open f6
      have hB : Rows.uptoBulk x.1 = Rows.uptoBulkAll ([x0, x1, x2, x3, x4, x5, x6].map (·.1)) + 1 := by rw [hx0]; simp only [Rows.uptoBulk]
      simp only [List.map_cons, List.map_nil, Rows.uptoBulkAll] at hB
      have h2 := u32_of_wf w2
      subst k0 k1 k2 k3 k4 k5 k6 k7 k8 e1 e2 e3 e4 e5 e6
      exact ⟨⟨⟨kind, pa, pl, ad, area, cost, prio, hel, dead, n1, n2, n3, n4, n5, s6, l6.length, p6⟩, l6⟩, rfl, ⟨⟨⟨g6, fun n hn => (o6 n hn).1⟩⟩, o6, q0, q1, q2, q3, q4, q5, h2.1, h2.2⟩, by simp only [ifW]; omega⟩

set_option maxRecDepth 100000 in
theorem ifv_open {v : Value} {d : DataW H} {p : List MemPlace} {base : Nat} (hv : Value.okWide Tryz.prog W .any base 69 v) (h : DataW.Trod enc Tryz.prog W 0 (fun _ => true) true 69 v d p) : ∃ b : IfD, v = .agg (ifE b.x).toArray ∧ IfG W b ∧ ifW b ≤ Rows.uptoBulk d := by
  obtain ⟨cs, rfl, _⟩ := okWide_struct (t := 69) Tryz.underlying69 hv
  obtain ⟨fuel, hf⟩ := h
  obtain ⟨b, hr, h2, h3⟩ := if_open _ _ _ hf
  refine ⟨b, ?_, h2, h3⟩
  have : cs.toList = ifE b.x := hr
  rw [← this]

end

end Go.Proofs.YtddageahmgaigaaGreat
