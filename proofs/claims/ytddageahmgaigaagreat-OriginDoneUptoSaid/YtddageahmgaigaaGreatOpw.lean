import Derived.Test.YtddageahmgaigaaGreatOpa
import Derived.Test.YtddageahmgaigaaGreatPlq
namespace Go.Proofs.YtddageahmgaigaaGreat
open Go.ChangeShapes Go.WideShapes Go.ChangeAt Go.RowKit Go.Deep

section
variable {H : Type} {enc : TypeId × Value → H} {W : World}

set_option maxRecDepth 100000 in
theorem hdrk_open (n : Nat) (cs : List Value) (x : DataW H × List MemPlace) (h : DataW.trod enc Tryz.prog W 0 (fun _ => true) true n 37 cs = some x) : ∃ t id len r seq age sum : Int, cs = [.int .i64 t, .int .u32 id, .int .i64 len, .int .u32 r, .int .i64 seq, .int .i64 age, .int .i64 sum] ∧ lkOk ⟨t, id, len, r⟩ := by
  obtain ⟨xs, m, _, hx0, hcl, hxl, hf⟩ := DataW.trod_struct Tryz.underlying37 h
  rw [show Tryz.prog.cellsOf 37 = 7 from by kernel_rfl] at hcl
  match cs, hcl with
  | [c0, c1, c2, c3, c4, c5, c6], _ =>
    have hx : xs.length = 7 := hxl
    match xs, hx with
    | [x0, x1, x2, x3, x4, x5, x6], _ =>
      have f0 : DataW.trod enc Tryz.prog W 0 (fun _ => true) true m 3 (([c0, c1, c2, c3, c4, c5, c6].drop 0).take (Tryz.prog.cellsOf 3)) = some x0 := hf 0 _ rfl
      rw [show Tryz.prog.cellsOf 3 = 1 from by kernel_rfl] at f0
      obtain ⟨n0, e0, _, w0⟩ := DataW.trod_int Tryz.underlying3 f0
      simp at e0
      have f1 : DataW.trod enc Tryz.prog W 0 (fun _ => true) true m 22 (([c0, c1, c2, c3, c4, c5, c6].drop 1).take (Tryz.prog.cellsOf 22)) = some x1 := hf 1 _ rfl
      rw [show Tryz.prog.cellsOf 22 = 1 from by kernel_rfl] at f1
      obtain ⟨n1, e1, _, w1⟩ := DataW.trod_int Tryz.underlying22 f1
      simp at e1
      have f2 : DataW.trod enc Tryz.prog W 0 (fun _ => true) true m 3 (([c0, c1, c2, c3, c4, c5, c6].drop 2).take (Tryz.prog.cellsOf 3)) = some x2 := hf 2 _ rfl
      rw [show Tryz.prog.cellsOf 3 = 1 from by kernel_rfl] at f2
      obtain ⟨n2, e2, _, w2⟩ := DataW.trod_int Tryz.underlying3 f2
      simp at e2
      have f3 : DataW.trod enc Tryz.prog W 0 (fun _ => true) true m 22 (([c0, c1, c2, c3, c4, c5, c6].drop 3).take (Tryz.prog.cellsOf 22)) = some x3 := hf 3 _ rfl
      rw [show Tryz.prog.cellsOf 22 = 1 from by kernel_rfl] at f3
      obtain ⟨n3, e3, _, w3⟩ := DataW.trod_int Tryz.underlying22 f3
      simp at e3
      have f4 : DataW.trod enc Tryz.prog W 0 (fun _ => true) true m 3 (([c0, c1, c2, c3, c4, c5, c6].drop 4).take (Tryz.prog.cellsOf 3)) = some x4 := hf 4 _ rfl
      rw [show Tryz.prog.cellsOf 3 = 1 from by kernel_rfl] at f4
      obtain ⟨n4, e4, _, w4⟩ := DataW.trod_int Tryz.underlying3 f4
      simp at e4
      have f5 : DataW.trod enc Tryz.prog W 0 (fun _ => true) true m 3 (([c0, c1, c2, c3, c4, c5, c6].drop 5).take (Tryz.prog.cellsOf 3)) = some x5 := hf 5 _ rfl
      rw [show Tryz.prog.cellsOf 3 = 1 from by kernel_rfl] at f5
      obtain ⟨n5, e5, _, w5⟩ := DataW.trod_int Tryz.underlying3 f5
      simp at e5
      have f6 : DataW.trod enc Tryz.prog W 0 (fun _ => true) true m 3 (([c0, c1, c2, c3, c4, c5, c6].drop 6).take (Tryz.prog.cellsOf 3)) = some x6 := hf 6 _ rfl
      rw [show Tryz.prog.cellsOf 3 = 1 from by kernel_rfl] at f6
      obtain ⟨n6, e6, _, w6⟩ := DataW.trod_int Tryz.underlying3 f6
      simp at e6
      have hB : Rows.uptoBulk x.1 = Rows.uptoBulkAll ([x0, x1, x2, x3, x4, x5, x6].map (·.1)) + 1 := by rw [hx0]; simp only [Rows.uptoBulk]
      simp only [List.map_cons, List.map_nil, Rows.uptoBulkAll] at hB
      subst e0 e1 e2 e3 e4 e5 e6
      exact ⟨n0, n1, n2, n3, n4, n5, n6, rfl, w0, w1, w2, w3⟩

set_option maxRecDepth 100000 in
theorem lsdk_open (n : Nat) (cs : List Value) (x : DataW H × List MemPlace) (h : DataW.trod enc Tryz.prog W 0 (fun _ => true) true n 42 cs = some x) : ∃ d : LsaD, cs = lsaE d.x ∧ (DIn W d ∧ lkOk (keyD d)) ∧ d.lk.length + d.att.length ≤ Rows.uptoBulk x.1 := by
  obtain ⟨xs, m, _, hx0, hcl, hxl, hf⟩ := DataW.trod_struct Tryz.underlying42 h
  rw [show Tryz.prog.cellsOf 42 = 15 from by kernel_rfl] at hcl
  match cs, hcl with
  | [c0, c1, c2, c3, c4, c5, c6, c7, c8, c9, c10, c11, c12, c13, c14], _ =>
    have hx : xs.length = 9 := hxl
    match xs, hx with
    | [x0, x1, x2, x3, x4, x5, x6, x7, x8], _ =>
      have f0 : DataW.trod enc Tryz.prog W 0 (fun _ => true) true m 37 (([c0, c1, c2, c3, c4, c5, c6, c7, c8, c9, c10, c11, c12, c13, c14].drop 0).take (Tryz.prog.cellsOf 37)) = some x0 := hf 0 _ rfl
      rw [show Tryz.prog.cellsOf 37 = 7 from by kernel_rfl] at f0
      obtain ⟨t, id, len, r, seq, age, sum, e0, i0, i1, r0, r1⟩ := hdr_open _ _ _ f0
      obtain ⟨t', id', len', r', seq', age', sum', e0', ko⟩ := hdrk_open _ _ _ f0
      simp at e0'
      simp at e0
      obtain ⟨q0, q1, q2, q3, q4, q5, q6⟩ := e0
      obtain ⟨y0, y1, y2, y3, -, -, -⟩ := e0'
      rw [q0] at y0
      rw [q1] at y1
      rw [q2] at y2
      rw [q3] at y3
      cases y0
      cases y1
      cases y2
      cases y3
      have f1 : DataW.trod enc Tryz.prog W 0 (fun _ => true) true m 4 (([c0, c1, c2, c3, c4, c5, c6, c7, c8, c9, c10, c11, c12, c13, c14].drop 7).take (Tryz.prog.cellsOf 4)) = some x1 := hf 1 _ rfl
      rw [show Tryz.prog.cellsOf 4 = 1 from by kernel_rfl] at f1
      obtain ⟨n1, e1, _⟩ := DataW.trod_bool Tryz.underlying4 f1
      simp at e1
      have f2 : DataW.trod enc Tryz.prog W 0 (fun _ => true) true m 4 (([c0, c1, c2, c3, c4, c5, c6, c7, c8, c9, c10, c11, c12, c13, c14].drop 8).take (Tryz.prog.cellsOf 4)) = some x2 := hf 2 _ rfl
      rw [show Tryz.prog.cellsOf 4 = 1 from by kernel_rfl] at f2
      obtain ⟨n2, e2, _⟩ := DataW.trod_bool Tryz.underlying4 f2
      simp at e2
      have f3 : DataW.trod enc Tryz.prog W 0 (fun _ => true) true m 38 (([c0, c1, c2, c3, c4, c5, c6, c7, c8, c9, c10, c11, c12, c13, c14].drop 9).take (Tryz.prog.cellsOf 38)) = some x3 := hf 3 _ rfl
      rw [show Tryz.prog.cellsOf 38 = 1 from by kernel_rfl] at f3
      obtain ⟨s3, p3, l3, e3, g3, o3, b3, -⟩ := slv_openb (⟨0, 0, 0, 0⟩) lnkE (fun a => 0 ≤ a.id ∧ a.id < 4294967296 ∧ 0 ≤ a.data ∧ a.data < 4294967296) (fun _ => 0) Tryz.underlying38 (by kernel_rfl : Tryz.prog.cellsOf 82 = 4) (by omega) (fun _ => rfl) lnk_open f3
      have f4 : DataW.trod enc Tryz.prog W 0 (fun _ => true) true m 39 (([c0, c1, c2, c3, c4, c5, c6, c7, c8, c9, c10, c11, c12, c13, c14].drop 10).take (Tryz.prog.cellsOf 39)) = some x4 := hf 4 _ rfl
      rw [show Tryz.prog.cellsOf 39 = 1 from by kernel_rfl] at f4
      obtain ⟨s4, p4, l4, e4, g4, o4, b4, -⟩ := slv_openb (0) u32E (fun a => 0 ≤ a ∧ a < 4294967296) (fun _ => 0) Tryz.underlying39 (by kernel_rfl : Tryz.prog.cellsOf 22 = 1) (by omega) (fun _ => rfl) word_open f4
      have f5 : DataW.trod enc Tryz.prog W 0 (fun _ => true) true m 3 (([c0, c1, c2, c3, c4, c5, c6, c7, c8, c9, c10, c11, c12, c13, c14].drop 11).take (Tryz.prog.cellsOf 3)) = some x5 := hf 5 _ rfl
      rw [show Tryz.prog.cellsOf 3 = 1 from by kernel_rfl] at f5
      obtain ⟨n5, e5, _, w5⟩ := DataW.trod_int Tryz.underlying3 f5
      simp at e5
      have f6 : DataW.trod enc Tryz.prog W 0 (fun _ => true) true m 4 (([c0, c1, c2, c3, c4, c5, c6, c7, c8, c9, c10, c11, c12, c13, c14].drop 12).take (Tryz.prog.cellsOf 4)) = some x6 := hf 6 _ rfl
      rw [show Tryz.prog.cellsOf 4 = 1 from by kernel_rfl] at f6
      obtain ⟨n6, e6, _⟩ := DataW.trod_bool Tryz.underlying4 f6
      simp at e6
      have f7 : DataW.trod enc Tryz.prog W 0 (fun _ => true) true m 40 (([c0, c1, c2, c3, c4, c5, c6, c7, c8, c9, c10, c11, c12, c13, c14].drop 13).take (Tryz.prog.cellsOf 40)) = some x7 := hf 7 _ rfl
      rw [show Tryz.prog.cellsOf 40 = 1 from by kernel_rfl] at f7
      obtain ⟨n7, e7, _, w7⟩ := DataW.trod_int Tryz.underlying40 f7
      simp at e7
      have f8 : DataW.trod enc Tryz.prog W 0 (fun _ => true) true m 3 (([c0, c1, c2, c3, c4, c5, c6, c7, c8, c9, c10, c11, c12, c13, c14].drop 14).take (Tryz.prog.cellsOf 3)) = some x8 := hf 8 _ rfl
      rw [show Tryz.prog.cellsOf 3 = 1 from by kernel_rfl] at f8
      obtain ⟨n8, e8, _, w8⟩ := DataW.trod_int Tryz.underlying3 f8
      simp at e8
      have hB : Rows.uptoBulk x.1 = Rows.uptoBulkAll ([x0, x1, x2, x3, x4, x5, x6, x7, x8].map (·.1)) + 1 := by rw [hx0]; simp only [Rows.uptoBulk]
      simp only [List.map_cons, List.map_nil, Rows.uptoBulkAll] at hB
      have h7 := u32_of_wf w7
      subst q0 q1 q2 q3 q4 q5 q6 e1 e2 e3 e4 e5 e6 e7 e8
      exact ⟨⟨⟨t, id, len, r, seq, age, sum, n1, n2, s3, l3.length, p3, s4, l4.length, p4, n5, n6, n7, n8⟩, l3, l4⟩, rfl, ⟨⟨⟨i0, i1, r0, r1, h7.1, h7.2⟩, g3, o3, g4, o4⟩, ko⟩, by simp only; omega⟩

theorem dbk_open {fuel : Nat} {v : Value} {x : DataW H × List MemPlace} (h : DataW.trod enc Tryz.prog W 0 (fun _ => true) true fuel 29 [v] = some x) : ∃ db : List LsaD, DbAt W v db ∧ (∀ d ∈ db, lkOk (keyD d)) ∧ db.length ≤ Rows.uptoBulk x.1 ∧ (db.map fun d => d.lk.length + d.att.length).sum ≤ Rows.uptoBulk x.1 := by
  obtain ⟨a, c, l, rfl, g, o, b1, b2⟩ := slv_openb (⟨default, [], []⟩ : LsaD) (fun d => lsaE d.x) (fun d => DIn W d ∧ lkOk (keyD d)) (fun d => d.lk.length + d.att.length) Tryz.underlying29 (by kernel_rfl : Tryz.prog.cellsOf 42 = 15) (by omega) (fun _ => rfl) lsdk_open h
  refine ⟨l, ⟨?_, fun d hd => (o d hd).1⟩, fun d hd => (o d hd).2, by omega, by omega⟩
  show SlV 15 W _ ((l.map LsaD.x).map lsaE)
  rw [List.map_map]; exact g

end

end Go.Proofs.YtddageahmgaigaaGreat
