import Derived.Test.YtddageahmgaigaaGreatDnh
import Derived.Test.YtddageahmgaigaaGreatNwr
import Derived.Deep.DeepCutAuto
namespace Go.Proofs.YtddageahmgaigaaGreat
open Go.RowKit

theorem plan_newer {db : List LsaD} {rt : Int} {wt l : List LsaD} (D : DbOk db) (h : PlanIs db rt wt 0 l) {y : LsaD} (hy : y ∈ l) {d' : LsaD} (hd : d' ∈ db) (e : lkOf d'.x = lkOf y.x) : Nwr y.x.seq y.x.age y.x.sum d'.x.seq d'.x.age d'.x.sum := by
  rcases h with ⟨-, h, -⟩ | ⟨-, -, h, -⟩ | ⟨-, -, s, -, -, ⟨i, hi, -, h1, h2, -⟩ | ⟨-, -, -, hm⟩⟩
  · exact absurd h (by decide)
  · exact absurd h (by decide)
  · exact absurd rfl h2
  · rcases (hm y).1 hy with ⟨d, -, hok, rfl⟩ | ⟨d, hdb, -, ha, -, rfl⟩
    · rcases nx_is db d with ⟨e1, -⟩ | ⟨e1, -⟩ | ⟨-, -, s, e1, -, e2⟩
      · rw [hok] at e1; cases e1
      · rw [hok] at e1; cases e1
      · rw [e1] at e ⊢
        rcases e2 with ⟨-, no⟩ | ⟨d2, m2, k2, es, -, -⟩
        · exact absurd e (no _ hd)
        · have k := D.one hd m2 (e.trans k2.symm)
          subst k
          exact .inl (by show d'.x.seq < s; omega)
    · have k := D.one hd hdb e
      subst k
      exact .inr ⟨rfl, rfl, rfl, by omega⟩

set_option maxHeartbeats 16000000 in
set_option maxRecDepth 100000 in
theorem newerlaw (w : World) (v v2 : Value) (db wt : List LsaD) (rt : Int) (H : PlHy w v v2 db wt) :
    Calls Tryz.prog 7 #[v, .int .u32 rt, v2] w fun e w' => e = .returned (.bool true) ∧ Below w.heap.size w w' := by
  have LV := Lib.hid lives_calls
  have CK := Lib.hid (dbcheck_calls w v db H.hdb)
  have BD := Lib.hid (fun W (hb : Below w.heap.size w W) => bodies_calls W v2 (wt.map LsaD.x) (H.hwt.1.below hb))
  have PP := Lib.hid (fun (D : DbOk db) (hn : db.length ≤ 2000) W (hb : Below w.heap.size w W) => plan_calls W v v2 db wt rt ⟨H.hdb.below hb, H.hl, D⟩ (by omega) (H.hwt.below hb) H.wl H.wk (D.keys H.hdb) H.wn)
  have CM := Lib.hid (fun W (hb : Below w.heap.size w W) => cmp25_calls W v (db.map LsaD.x) (H.hdb.1.below hb))
  obtain ⟨wa, wc, rfl, -, -⟩ := H.hwt.1.get
  obtain ⟨nv, hnv⟩ : ∃ nv, (wt.map LsaD.x).length = nv := ⟨_, rfl⟩
  obtain ⟨wx, hwx⟩ : ∃ wx, wt.map LsaD.x = wx := ⟨_, rfl⟩
  rw [hwx] at hnv
  rw [hwx, hnv] at BD PP
  rw [hwx, hnv]
  clear H hnv hwx
  go_enter Tryz.func7, Tryz.ntmps7
  go_wp2_with fail
  refine CK.out.mono ?_
  rintro e w1 ⟨c, rfl, B1, HC⟩
  have HB1 := Lib.hid B1
  have HDB := Lib.hid HC
  clear B1 HC CK
  by_cases hc : c = 0
  case neg =>
    have q1 : (c != 0) = true := by simpa using hc
    clear hc BD PP CM
    go_wp2_with fail
    refine (LV.out _).mono ?_
    rintro e w4 ⟨rfl, B4⟩
    have FIN := Lib.hid (HB1.out.trans (B4.mono HB1.out.size))
    clear B4
    go_wp2_with fail
    go_ret
    exact ⟨rfl, FIN.out⟩
  case pos =>
  subst hc
  have DD := Lib.hid (HDB.out rfl)
  clear HDB
  have BD1 := Lib.hid (BD.out w1 HB1.out)
  clear BD
  go_wp2_with fail
  refine BD1.out.mono ?_
  rintro e w2 ⟨rfl, G2⟩
  have HB2 := Lib.hid (HB1.out.trans (G2.b.mono HB1.out.size))
  clear BD1 G2 HB1
  cases hbb : bodB wx with
  | false =>
    clear hbb PP CM
    go_wp2_with fail
    refine (LV.out _).mono ?_
    rintro e w4 ⟨rfl, B4⟩
    have FIN := Lib.hid (HB2.out.trans (B4.mono HB2.out.size))
    clear B4
    go_wp2_with fail
    go_ret
    exact ⟨rfl, FIN.out⟩
  | true =>
  clear hbb
  by_cases hn : 200 < nv
  case pos =>
    have q2 : decide (200 < nv) = true := decide_eq_true hn
    have q3 : decide ((200 : Int) < (nv : Int)) = true := decide_eq_true (by omega)
    clear hn PP CM
    go_wp2_with fail
    refine (LV.out _).mono ?_
    rintro e w4 ⟨rfl, B4⟩
    have FIN := Lib.hid (HB2.out.trans (B4.mono HB2.out.size))
    clear B4
    go_wp2_with fail
    go_ret
    exact ⟨rfl, FIN.out⟩
  case neg =>
  have q2 : decide (200 < nv) = false := decide_eq_false hn
  have q3 : decide ((200 : Int) < (nv : Int)) = false := decide_eq_false (by omega)
  have PP2 := Lib.hid (PP.out DD.out.2 DD.out.1 w2 HB2.out)
  clear hn PP
  go_wp2_with fail
  refine PP2.out.mono ?_
  rintro e w3 ⟨c1, l1, p1, xs, hi1, rfl, R1, e1, B3⟩
  have HB3 := Lib.hid (HB2.out.trans (B3.mono HB2.out.size))
  have HR1 := Lib.hid R1
  have HI := Lib.hid hi1
  clear PP2 B3 HB2 R1 hi1
  by_cases hc : c1 = 0
  case neg =>
    have q1 : (c1 != 0) = true := by simpa using hc
    clear hc CM HI HR1 e1
    go_wp2_with fail
    refine (LV.out _).mono ?_
    rintro e w4 ⟨rfl, B4⟩
    have FIN := Lib.hid (HB3.out.trans (B4.mono HB3.out.size))
    clear B4
    go_wp2_with fail
    go_ret
    exact ⟨rfl, FIN.out⟩
  case pos =>
  subst hc
  obtain ⟨a1, ca1, rfl, hlen, hc1⟩ := HR1.out.row.get
  rw [List.length_map] at hlen
  have CN := Lib.hid (fun k (ck : k < xs.length) W (hb : Below w.heap.size w W) => CM.out W hb xs[k].x.typ xs[k].x.id xs[k].x.len xs[k].x.router xs[k].x.seq xs[k].x.age xs[k].x.sum (fun x hx e => by
    obtain ⟨d', hd, rfl⟩ := List.mem_map.1 hx
    exact plan_newer DD.out.2 HI.out (y := nrm xs[k]) (by rw [← e1]; exact List.mem_map_of_mem (List.getElem_mem ck)) hd e))
  have HCC := Lib.hid (fun k (ck : k < xs.length) => (by
    obtain ⟨b, off, ea, hb, hcc⟩ := hc1 (by rw [List.length_map]; omega)
    have h := hcc k (by rw [List.length_map]; exact ck)
    rw [List.getElem_map] at h
    exact ⟨b, off, ea, hb, h⟩ : ∃ b off, a1 = some ⟨b, off, none⟩ ∧ b < w3.heap.size ∧ LsaCells w3 b (off + k * 15) xs[k].x))
  rw [List.length_map]
  obtain ⟨nx, hnx⟩ : ∃ nx, xs.length = nx := ⟨_, rfl⟩
  have NV := Lib.hid hnx
  rw [hnx] at hlen ⊢
  clear hc1 hnx CM HR1 HI DD e1
  go_wp2_with fail
  go_loopw [36] (fun i wr => ∃ k : Nat, i = .int .i64 k ∧ k ≤ nx ∧ Hid (Below w3.heap.size w3 wr)) (fun i _ => nx - (intOf i).toNat)
  case atStart => exact ⟨0, rfl, Nat.zero_le _, Lib.hid (Below.refl _ _)⟩
  case round =>
    obtain ⟨k, rfl, hk, R⟩ := hrel
    by_cases c : k < nx
    · have ck : k < xs.length := by rw [NV.out]; exact c
      obtain ⟨b1, o1, rfl, hb1, hcc1⟩ := HCC.out k ck
      obtain ⟨⟨d0, d1, d2, d3, d4⟩, ⟨d5, d6, -, -, -⟩, -⟩ := hcc1.below R.out hb1
      have CN1 := Lib.hid (CN.out k ck wr (HB3.out.trans (R.out.mono HB3.out.size)))
      have KC := Lib.hid c
      have i0 : (0 : Int) ≤ (k : Int) := by omega
      have i1 : (k : Int) < (nx : Int) := by omega
      have s3 : ((k : Int)).toNat = k := by omega
      clear hcc1
      generalize xs[k].x = x at *
      clear ck
      obtain ⟨xtyp, xid, xlen, xrouter, xseq, xage, xsum, xborder, xboundary, xla, xln, xlc, xaa, xan, xac, xcost, xsecond, xfwd, xtag⟩ := x
      simp only at d0 d1 d2 d3 d4 d5 d6 CN1
      go_wp2_with fail
      refine CN1.out.mono ?_
      rintro e w5 ⟨rfl, G5⟩
      have NX : Hid (Below w3.heap.size w3 w5) := Lib.hid (R.out.trans (G5.b.mono R.out.size))
      clear G5 R CN1 d0 d1 d2 d3 d4 d5 d6
      go_wp2_with fail
      go_roundw
      case rel => exact ⟨k + 1, by go_num, KC.out, NX⟩
      case measure => simp [intOf]; have := KC.out; omega
    · obtain rfl : k = nx := by omega
      have HB4 := Lib.hid (HB3.out.trans (R.out.mono HB3.out.size))
      clear R HB3 HCC CN
      go_wp2_with fail
      refine (LV.out _).mono ?_
      rintro e w6 ⟨rfl, B6⟩
      have FIN := Lib.hid (HB4.out.trans (B6.mono HB4.out.size))
      clear B6
      go_wp2_with fail
      go_ret
      exact ⟨rfl, FIN.out⟩

end Go.Proofs.YtddageahmgaigaaGreat
