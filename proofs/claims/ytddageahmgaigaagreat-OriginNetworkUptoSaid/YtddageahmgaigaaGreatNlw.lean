import Derived.Test.YtddageahmgaigaaGreatRnw
import Derived.Test.YtddageahmgaigaaGreatRds
import Derived.Test.YtddageahmgaigaaGreatC26
import Derived.Test.YtddageahmgaigaaGreatOpl
import Derived.Test.YtddageahmgaigaaGreatLiv
import Derived.Test.YtddageahmgaigaaGreatRsb
import Derived.Deep.DeepCutAuto
namespace Go.Proofs.YtddageahmgaigaaGreat
open Go.RowKit

theorem words00 (w : World) : WordsAt w (.slice none 0 0) [] := ⟨none, 0, rfl, Nat.le_refl _, by unfold maxLen; omega, fun _ => rfl, fun h => absurd h (by simp)⟩
theorem lnks00 (w : World) : LnksAt w (.slice none 0 0) [] := ⟨none, 0, rfl, Nat.le_refl _, by unfold maxLen; omega, fun _ => rfl, fun h => absurd h (by simp)⟩
theorem ifs_one {w : World} {b : Nat} {d : IfD} (h : w.heap[b]? = some (.cells (ifE d.x).toArray 69 (0, 0))) (i : IfIn w d) : IfsAt w (.slice (some ⟨b, 0, none⟩) 1 1) [d] := by
  refine ⟨⟨some ⟨b, 0, none⟩, 1, rfl, Nat.le_refl _, by unfold maxLen; omega, fun e => (by cases e), fun _ => ⟨b, 0, rfl, blk_lt h, ?_⟩⟩, fun d' hd => by simp at hd; subst hd; exact i⟩
  intro i hi j u hu
  have hi0 : i = 0 := by simpa using hi
  subst hi0
  simp only [List.map_cons, List.map_nil, List.getElem_cons_zero] at hu
  rw [show 0 + 0 * 15 + j = j by omega]
  exact blk_cell h (by simpa using hu)

def FdB (w : World) (nb : List Nb) (r : Int) (e : Ending) (w' : World) : Prop := ∃ (n : Nb) (own : Bool), e = .returned (.tuple #[.agg (nbE n).toArray, .bool own]) ∧ (own = false → ∀ m ∈ nb, m.r ≠ r) ∧ Below w.heap.size w w'
theorem FfPost.b {w : World} {nb : List Nb} {r : Int} {e : Ending} {w' : World} (h : FfPost w nb r e w') : FdB w nb r e w' := by
  obtain ⟨h | ⟨n, k, c, h1, h2, h3, h4⟩, hb⟩ := h
  · exact ⟨nbZ, false, h.1, fun _ => h.2, hb⟩
  · exact ⟨n, true, h1, (fun h => by cases h), hb⟩

def NwY (w : World) (ok : Bool) (x : Ifc) (rt : Int) (att : List Int) (y : Lsa) : Prop := (ok = false → y = lsaZ) ∧ (ok = true → ∃ a c, y = nwL x rt a att.length c ∧ WordsAt w (.slice a att.length c) att)
theorem NwY.below {w w' : World} {ok : Bool} {x : Ifc} {rt : Int} {att : List Int} {y : Lsa} (h : NwY w ok x rt att y) (hb : Below w.heap.size w w') : NwY w' ok x rt att y := ⟨h.1, fun e => by obtain ⟨a, c, h1, h2⟩ := h.2 e; exact ⟨a, c, h1, h2.below hb⟩⟩
theorem nw_same {w w' : World} {ok : Bool} {x : Ifc} {rt : Int} {att : List Int} {e : Ending} (P : NwPost w ok x rt att e w') : ∃ y, e = .returned (.tuple #[.agg (lsaE y).toArray, .bool ok]) ∧ NwY w' ok x rt att y ∧ Below w.heap.size w w' := by
  rcases P with ⟨rfl, h1, h2⟩ | ⟨rfl, a, c, h1, h2, h3⟩
  · exact ⟨lsaZ, h1, ⟨fun _ => rfl, (fun h => by cases h)⟩, h2⟩
  · exact ⟨_, h1, ⟨(fun h => by cases h), fun _ => ⟨a, c, rfl, h2⟩⟩, h3⟩

set_option maxHeartbeats 16000000 in
set_option maxRecDepth 100000 in
theorem nw_tail (w wc : World) (d : IfD) (rt : Int) (hg : IfG w d) (hs : ifW d ≤ 1048576) (hb : Below w.heap.size w wc) (hx : wc.heap[w.heap.size]? = some (.cells (ifE d.x).toArray 69 (0, 0))) (o : NbOrd d.nb) (no : ∀ n ∈ d.nb, n.r ≠ rt) (u0 u3 u4 u5 u6 u7 u8 u9 u10 u11 u12 u13 u14 u15 u16 u17 u18 u19 u20 u21 u22 u23 u24 u25 u26 u27 u28 u29 u30 u31 u32 u33 u34 u35 u36 u37 u38 u39 u40 u41 u42 u43 u44 u45 u46 u47 u48 u49 u50 u51 u52 u53 u54 u55 u56 u57 : Value) :
    Code.wp Tryz.prog (dropS 3 (Tryz.f8.body.getD .skip)) (bodyPost Tryz.prog Tryz.f8 fun e w' => e = .returned (.bool true) ∧ Below w.heap.size w w') ⟨#[u0, .int .u32 rt, .pointer (some ⟨w.heap.size, 0, none⟩), u3, u4, u5, u6, u7, u8, u9, u10, u11, u12, u13, u14, u15, u16, u17, u18, u19, u20, u21, u22, u23, u24, u25, u26, u27, u28, u29, u30, u31, u32, u33, u34, u35, u36, u37, u38, u39, u40, u41, u42, u43, u44, u45, u46, u47, u48, u49, u50, u51, u52, u53, u54, u55, u56, u57], []⟩ wc := by
  have LV := Lib.hid lives_calls
  have HL : Hid (d.nb.length ≤ 1048576) := Lib.hid (by have h2 := len_nbW d.nb; have h3 : ifW d = 1 + (d.nb.map nbW).sum := rfl; omega)
  have NW := Lib.hid (fun W (hb : Below w.heap.size w W) => (network_calls d.x d.nb rt W (hg.inn.nb.below hb) HL.out).mono fun e w' h => nw_same h)
  have RN6 := Lib.hid (fun W (hb : Below w.heap.size w W) => (rnetwork_calls d.x d.nb rt W (hg.inn.nb.below hb) HL.out o no).mono fun e w' h => nw_same h)
  generalize nwB d.x rt d.nb = ok at *
  generalize fullsS d.nb rt = att at *
  have SM : Hid (∀ W y y', NwY W ok d.x rt att y → NwY W ok d.x rt att y' → Calls Tryz.prog 13 #[.agg (lsaE y).toArray, .agg (lsaE y').toArray] W (EqPost W true)) := Lib.hid (fun W y y' h1 h2 => by
    cases ok with
    | false =>
      obtain rfl := h1.1 rfl
      obtain rfl := h2.1 rfl
      have hc := rsame_calls lsaZ lsaZ [] [] [] [] W (lnks00 W) (lnks00 W) (words00 W) (words00 W)
      rw [decide_eq_true (show SameH lsaZ lsaZ ∧ SameB lsaZ lsaZ [] [] [] [] from ⟨⟨rfl, rfl, rfl, rfl, rfl, rfl, rfl⟩, rfl, rfl, rfl, rfl, rfl, rfl, rfl, rfl, rfl⟩)] at hc
      exact hc
    | true =>
      obtain ⟨a, c, rfl, g1⟩ := h1.2 rfl
      obtain ⟨a', c', rfl, g2⟩ := h2.2 rfl
      have hc := rsame_calls (nwL d.x rt a att.length c) (nwL d.x rt a' att.length c') [] [] att att W (lnks00 W) (lnks00 W) g1 g2
      rw [decide_eq_true (show SameH (nwL d.x rt a att.length c) (nwL d.x rt a' att.length c') ∧ SameB (nwL d.x rt a att.length c) (nwL d.x rt a' att.length c') [] [] att att from ⟨⟨rfl, rfl, rfl, rfl, rfl, rfl, rfl⟩, rfl, rfl, rfl, rfl, rfl, rfl, rfl, rfl, rfl⟩)] at hc
      exact hc)
  have mixed : Tryz.prog.follows .mixedOrders = true := by kernel_rfl
  obtain ⟨ga, gc, e1, -, -⟩ := hg.inn.nb.get
  clear hg hs o no
  obtain ⟨⟨kind, pa, pl, ad, area, cost, prio, hel, dead, up, dr, bdr, el, nh, a1, nn, c1⟩, nb⟩ := d
  simp only at e1
  simp only [Value.slice.injEq] at e1
  obtain ⟨rfl, rfl, rfl⟩ := e1
  simp only [ifE] at NW RN6 hx
  simp only at SM
  have B6 := Lib.hid hb
  have X6 := Lib.hid hx
  clear hb hx HL
  conv => enter [2]; whnf
  have NW6 := Lib.hid (NW.out wc B6.out)
  clear NW
  have y0 : wc.cell? ⟨w.heap.size, 0, none⟩ = some (.int .i64 kind) := blk_cell X6.out rfl
  have y1 : wc.cell? ⟨w.heap.size, 1, none⟩ = some (.int .u32 pa) := blk_cell X6.out rfl
  have y2 : wc.cell? ⟨w.heap.size, 2, none⟩ = some (.int .i64 pl) := blk_cell X6.out rfl
  have y3 : wc.cell? ⟨w.heap.size, 3, none⟩ = some (.int .u32 ad) := blk_cell X6.out rfl
  have y4 : wc.cell? ⟨w.heap.size, 4, none⟩ = some (.int .u32 area) := blk_cell X6.out rfl
  have y5 : wc.cell? ⟨w.heap.size, 5, none⟩ = some (.int .i64 cost) := blk_cell X6.out rfl
  have y6 : wc.cell? ⟨w.heap.size, 6, none⟩ = some (.int .i64 prio) := blk_cell X6.out rfl
  have y7 : wc.cell? ⟨w.heap.size, 7, none⟩ = some (.int .i64 hel) := blk_cell X6.out rfl
  have y8 : wc.cell? ⟨w.heap.size, 8, none⟩ = some (.int .i64 dead) := blk_cell X6.out rfl
  have y9 : wc.cell? ⟨w.heap.size, 9, none⟩ = some (.bool up) := blk_cell X6.out rfl
  have y10 : wc.cell? ⟨w.heap.size, 10, none⟩ = some (.int .u32 dr) := blk_cell X6.out rfl
  have y11 : wc.cell? ⟨w.heap.size, 11, none⟩ = some (.int .u32 bdr) := blk_cell X6.out rfl
  have y12 : wc.cell? ⟨w.heap.size, 12, none⟩ = some (.int .i64 el) := blk_cell X6.out rfl
  have y13 : wc.cell? ⟨w.heap.size, 13, none⟩ = some (.int .i64 nh) := blk_cell X6.out rfl
  have y14 : wc.cell? ⟨w.heap.size, 14, none⟩ = some (.slice a1 nb.length c1) := blk_cell X6.out rfl
  go_wp2_with fail
  refine NW6.out.mono ?_
  rintro e w7 ⟨⟨atyp, aid, alen, arouter, aseq, aage, asum, aborder, aboundary, ala, aln, alc, aaa, aan, aac, acost, asecond, afwd, atag⟩, rfl, H7, G7⟩
  simp only [lsaE]
  have B7 := Lib.hid (B6.out.trans (G7.mono B6.out.size))
  have X7 := Lib.hid ((G7.block _ (blk_lt X6.out)).trans X6.out)
  have K7 := Lib.hid H7
  clear G7 H7 NW6 B6 X6 y0 y1 y2 y3 y4 y5 y6 y7 y8 y9 y10 y11 y12 y13 y14
  go_upto_region 5 with fail
  obtain ⟨w8, hw8⟩ : ∃ w8, w7.alloc (.cells #[.int .i64 atyp, .int .u32 aid, .int .i64 alen, .int .u32 arouter, .int .i64 aseq, .int .i64 aage, .int .i64 asum, .bool aborder, .bool aboundary, .slice ala aln alc, .slice aaa aan aac, .int .i64 acost, .bool asecond, .int .u32 afwd, .int .i64 atag] 42) = w8 := ⟨_, rfl⟩
  rw [hw8]
  have C8 : Below w7.heap.size w7 w8 := by rw [← hw8]; exact (Below.refl _ _).alloc (Nat.le_refl _) _
  have N8 := Lib.hid ((show w8.heap[w7.heap.size]? = some (.cells #[.int .i64 atyp, .int .u32 aid, .int .i64 alen, .int .u32 arouter, .int .i64 aseq, .int .i64 aage, .int .i64 asum, .bool aborder, .bool aboundary, .slice ala aln alc, .slice aaa aan aac, .int .i64 acost, .bool asecond, .int .u32 afwd, .int .i64 atag] 42 (0, 0)) by rw [← hw8]; exact alloc_new _ _))
  have B8 := Lib.hid (B7.out.trans (C8.mono B7.out.size))
  have X8 := Lib.hid ((C8.block _ (blk_lt X7.out)).trans X7.out)
  have K8 := Lib.hid (K7.out.below C8)
  have RN8 := Lib.hid (RN6.out w8 B8.out)
  clear hw8 C8 B7 X7 K7 RN6
  have y0 : w8.cell? ⟨w.heap.size, 0, none⟩ = some (.int .i64 kind) := blk_cell X8.out rfl
  have y1 : w8.cell? ⟨w.heap.size, 1, none⟩ = some (.int .u32 pa) := blk_cell X8.out rfl
  have y2 : w8.cell? ⟨w.heap.size, 2, none⟩ = some (.int .i64 pl) := blk_cell X8.out rfl
  have y3 : w8.cell? ⟨w.heap.size, 3, none⟩ = some (.int .u32 ad) := blk_cell X8.out rfl
  have y4 : w8.cell? ⟨w.heap.size, 4, none⟩ = some (.int .u32 area) := blk_cell X8.out rfl
  have y5 : w8.cell? ⟨w.heap.size, 5, none⟩ = some (.int .i64 cost) := blk_cell X8.out rfl
  have y6 : w8.cell? ⟨w.heap.size, 6, none⟩ = some (.int .i64 prio) := blk_cell X8.out rfl
  have y7 : w8.cell? ⟨w.heap.size, 7, none⟩ = some (.int .i64 hel) := blk_cell X8.out rfl
  have y8 : w8.cell? ⟨w.heap.size, 8, none⟩ = some (.int .i64 dead) := blk_cell X8.out rfl
  have y9 : w8.cell? ⟨w.heap.size, 9, none⟩ = some (.bool up) := blk_cell X8.out rfl
  have y10 : w8.cell? ⟨w.heap.size, 10, none⟩ = some (.int .u32 dr) := blk_cell X8.out rfl
  have y11 : w8.cell? ⟨w.heap.size, 11, none⟩ = some (.int .u32 bdr) := blk_cell X8.out rfl
  have y12 : w8.cell? ⟨w.heap.size, 12, none⟩ = some (.int .i64 el) := blk_cell X8.out rfl
  have y13 : w8.cell? ⟨w.heap.size, 13, none⟩ = some (.int .i64 nh) := blk_cell X8.out rfl
  have y14 : w8.cell? ⟨w.heap.size, 14, none⟩ = some (.slice a1 nb.length c1) := blk_cell X8.out rfl
  go_wp2_with fail
  refine RN8.out.mono ?_
  rintro e w9 ⟨⟨btyp, bid, blen, brouter, bseq, bage, bsum, bborder, bboundary, bla, bln, blc, baa, ban, bac, bcost, bsecond, bfwd, btag⟩, rfl, H9, G9⟩
  simp only [lsaE]
  have B9 := Lib.hid (B8.out.trans (G9.mono B8.out.size))
  have N9 := Lib.hid ((G9.block _ (blk_lt N8.out)).trans N8.out)
  have K9 := Lib.hid (K8.out.below G9)
  have M9 := Lib.hid H9
  clear G9 H9 RN8 B8 X8 K8 N8 y0 y1 y2 y3 y4 y5 y6 y7 y8 y9 y10 y11 y12 y13 y14
  go_upto_region 6 with fail
  obtain ⟨wa, hwa⟩ : ∃ wa, w9.alloc (.cells #[.int .i64 btyp, .int .u32 bid, .int .i64 blen, .int .u32 brouter, .int .i64 bseq, .int .i64 bage, .int .i64 bsum, .bool bborder, .bool bboundary, .slice bla bln blc, .slice baa ban bac, .int .i64 bcost, .bool bsecond, .int .u32 bfwd, .int .i64 btag] 42) = wa := ⟨_, rfl⟩
  rw [hwa]
  have CC : Below w9.heap.size w9 wa := by rw [← hwa]; exact (Below.refl _ _).alloc (Nat.le_refl _) _
  have NA := Lib.hid ((show wa.heap[w9.heap.size]? = some (.cells #[.int .i64 btyp, .int .u32 bid, .int .i64 blen, .int .u32 brouter, .int .i64 bseq, .int .i64 bage, .int .i64 bsum, .bool bborder, .bool bboundary, .slice bla bln blc, .slice baa ban bac, .int .i64 bcost, .bool bsecond, .int .u32 bfwd, .int .i64 btag] 42 (0, 0)) by rw [← hwa]; exact alloc_new _ _))
  have BA := Lib.hid (B9.out.trans (CC.mono B9.out.size))
  have MA := Lib.hid ((CC.block _ (blk_lt N9.out)).trans N9.out)
  have SMA := Lib.hid (SM.out wa _ _ (K9.out.below CC) (M9.out.below CC))
  simp only [lsaE] at SMA
  clear hwa CC B9 N9 K9 M9 SM
  obtain ⟨⟨⟨p0, p1, p2, p3, p4⟩, ⟨p5, p6, p7, p8, p9⟩, ⟨p10, p11, p12, p13, p14⟩⟩, -⟩ := blk15 MA.out
  obtain ⟨⟨⟨r0, r1, r2, r3, r4⟩, ⟨r5, r6, r7, r8, r9⟩, ⟨r10, r11, r12, r13, r14⟩⟩, -⟩ := blk15 NA.out
  clear MA NA
  cases ok <;>
  · go_wp2_with fail
    refine SMA.out.mono ?_
    rintro e wb ⟨rfl, GB⟩
    have BB := Lib.hid (BA.out.trans (GB.b.mono BA.out.size))
    clear GB SMA BA p0 p1 p2 p3 p4 p5 p6 p7 p8 p9 p10 p11 p12 p13 p14 r0 r1 r2 r3 r4 r5 r6 r7 r8 r9 r10 r11 r12 r13 r14
    go_wp2_with fail
    refine (LV.out _).mono ?_
    rintro e wz ⟨rfl, BZ⟩
    have FIN := Lib.hid (BB.out.trans (BZ.mono BB.out.size))
    clear BZ
    go_wp2_with fail
    go_ret
    exact ⟨rfl, FIN.out⟩

set_option maxHeartbeats 16000000 in
set_option maxRecDepth 100000 in
theorem nwlaw (w : World) (d : IfD) (rt : Int) (hg : IfG w d) (hs : ifW d ≤ 1048576) :
    Calls Tryz.prog 8 #[.agg (ifE d.x).toArray, .int .u32 rt] w fun e w' => e = .returned (.bool true) ∧ Below w.heap.size w w' := by
  have LV := Lib.hid lives_calls
  have HL : Hid (d.nb.length ≤ 1048576) := Lib.hid (by have h2 := len_nbW d.nb; have h3 : ifW d = 1 + (d.nb.map nbW).sum := rfl; omega)
  have FD := Lib.hid (fun W (hb : Below w.heap.size w W) => (rfind26_calls d.x d.nb rt W (hg.inn.nb.below hb)).mono fun e w' h => h.b)
  have OD := Lib.hid (fun W b (hb : Below w.heap.size w W) h => ordered_calls W _ [d] (ifs_one (w := W) (b := b) h (hg.inn.below hb)))
  have AC := Lib.hid (fun W b (hb : Below w.heap.size w W) h => accepted_calls W _ [d] (ifs_one (w := W) (b := b) h (hg.inn.below hb)) (fun d' hd => by simp at hd; subst hd; exact ⟨hg.pa0, hg.pa1, hg.ad0, hg.ad1⟩))
  have HG := Lib.hid hg
  have HS := Lib.hid hs
  have mixed : Tryz.prog.follows .mixedOrders = true := by kernel_rfl
  obtain ⟨ga, gc, e1, -, -⟩ := hg.inn.nb.get
  clear hg hs
  obtain ⟨⟨kind, pa, pl, ad, area, cost, prio, hel, dead, up, dr, bdr, el, nh, a1, nn, c1⟩, nb⟩ := d
  simp only at e1
  simp only [Value.slice.injEq] at e1
  obtain ⟨rfl, rfl, rfl⟩ := e1
  simp only [ifE] at FD OD AC ⊢
  clear HL
  obtain ⟨W0, hW0⟩ : ∃ W0, w.alloc (.cells #[.int .i64 kind, .int .u32 pa, .int .i64 pl, .int .u32 ad, .int .u32 area, .int .i64 cost, .int .i64 prio, .int .i64 hel, .int .i64 dead, .bool up, .int .u32 dr, .int .u32 bdr, .int .i64 el, .int .i64 nh, .slice a1 nb.length c1] 69) = W0 := ⟨_, rfl⟩
  have B0 : Hid (Below w.heap.size w W0) := Lib.hid (by rw [← hW0]; exact (Below.refl _ _).alloc (Nat.le_refl _) _)
  have X0 : Hid (W0.heap[w.heap.size]? = some (.cells #[.int .i64 kind, .int .u32 pa, .int .i64 pl, .int .u32 ad, .int .u32 area, .int .i64 cost, .int .i64 prio, .int .i64 hel, .int .i64 dead, .bool up, .int .u32 dr, .int .u32 bdr, .int .i64 el, .int .i64 nh, .slice a1 nb.length c1] 69 (0, 0))) := Lib.hid (by rw [← hW0]; exact alloc_new _ _)
  have HW0 := Lib.hid hW0
  have FD0 := Lib.hid (FD.out W0 B0.out)
  clear hW0 FD
  have y0 : W0.cell? ⟨w.heap.size, 0, none⟩ = some (.int .i64 kind) := blk_cell X0.out rfl
  have y1 : W0.cell? ⟨w.heap.size, 1, none⟩ = some (.int .u32 pa) := blk_cell X0.out rfl
  have y2 : W0.cell? ⟨w.heap.size, 2, none⟩ = some (.int .i64 pl) := blk_cell X0.out rfl
  have y3 : W0.cell? ⟨w.heap.size, 3, none⟩ = some (.int .u32 ad) := blk_cell X0.out rfl
  have y4 : W0.cell? ⟨w.heap.size, 4, none⟩ = some (.int .u32 area) := blk_cell X0.out rfl
  have y5 : W0.cell? ⟨w.heap.size, 5, none⟩ = some (.int .i64 cost) := blk_cell X0.out rfl
  have y6 : W0.cell? ⟨w.heap.size, 6, none⟩ = some (.int .i64 prio) := blk_cell X0.out rfl
  have y7 : W0.cell? ⟨w.heap.size, 7, none⟩ = some (.int .i64 hel) := blk_cell X0.out rfl
  have y8 : W0.cell? ⟨w.heap.size, 8, none⟩ = some (.int .i64 dead) := blk_cell X0.out rfl
  have y9 : W0.cell? ⟨w.heap.size, 9, none⟩ = some (.bool up) := blk_cell X0.out rfl
  have y10 : W0.cell? ⟨w.heap.size, 10, none⟩ = some (.int .u32 dr) := blk_cell X0.out rfl
  have y11 : W0.cell? ⟨w.heap.size, 11, none⟩ = some (.int .u32 bdr) := blk_cell X0.out rfl
  have y12 : W0.cell? ⟨w.heap.size, 12, none⟩ = some (.int .i64 el) := blk_cell X0.out rfl
  have y13 : W0.cell? ⟨w.heap.size, 13, none⟩ = some (.int .i64 nh) := blk_cell X0.out rfl
  have y14 : W0.cell? ⟨w.heap.size, 14, none⟩ = some (.slice a1 nb.length c1) := blk_cell X0.out rfl
  go_enter Tryz.func8, Tryz.ntmps8
  go_upto_region 1 with fail
  rw [HW0.out]
  go_wp2_with fail
  refine FD0.out.mono ?_
  rintro e w1 ⟨⟨nr, na, nprio, ndr, nbdr, nst, ntil, nmas, nseq, ⟨v9a, v9n, v9c⟩, ⟨vAa, vAn, vAc⟩, nmore, ⟨vCa, vCn, vCc⟩, ⟨vDa, vDn, vDc⟩, nres⟩, own, rfl, NO, G1⟩
  simp only [nbE]
  have NOO := Lib.hid NO
  have B1 := Lib.hid (B0.out.trans (G1.mono B0.out.size))
  have X1 := Lib.hid ((G1.block _ (blk_lt X0.out)).trans X0.out)
  clear G1 NO FD0 B0 X0 HW0 y0 y1 y2 y3 y4 y5 y6 y7 y8 y9 y10 y11 y12 y13 y14
  go_upto_region 2 with fail
  obtain ⟨w2, hw2⟩ : ∃ w2, w1.alloc (.cells #[.int .u32 nr, .int .u32 na, .int .i64 nprio, .int .u32 ndr, .int .u32 nbdr, .int .i64 nst, .int .i64 ntil, .bool nmas, .int .i64 nseq, .slice v9a v9n v9c, .slice vAa vAn vAc, .bool nmore, .slice vCa vCn vCc, .slice vDa vDn vDc, .int .i64 nres] 72) = w2 := ⟨_, rfl⟩
  rw [hw2]
  have C2 : Below w1.heap.size w1 w2 := by rw [← hw2]; exact (Below.refl _ _).alloc (Nat.le_refl _) _
  have B2 := Lib.hid (B1.out.trans (C2.mono B1.out.size))
  have X2 := Lib.hid ((C2.block _ (blk_lt X1.out)).trans X1.out)
  clear hw2 C2 B1 X1
  rename_i KO hKO KI hKI
  go_cut [33] (fun s33 wx => ∃ bb : Bool, s33 = .bool bb ∧ (bb = false → NbOrd nb ∧ ∀ m ∈ nb, m.r ≠ rt) ∧ Below w.heap.size w wx ∧ wx.heap[w.heap.size]? = some (.cells #[.int .i64 kind, .int .u32 pa, .int .i64 pl, .int .u32 ad, .int .u32 area, .int .i64 cost, .int .i64 prio, .int .i64 hel, .int .i64 dead, .bool up, .int .u32 dr, .int .u32 bdr, .int .i64 el, .int .i64 nh, .slice a1 nb.length c1] 69 (0, 0)))
  case first =>
    · clear LV
      have YES : Hid (∀ wx, Below w.heap.size w wx → wx.heap[w.heap.size]? = some (.cells #[.int .i64 kind, .int .u32 pa, .int .i64 pl, .int .u32 ad, .int .u32 area, .int .i64 cost, .int .i64 prio, .int .i64 hel, .int .i64 dead, .bool up, .int .u32 dr, .int .u32 bdr, .int .i64 el, .int .i64 nh, .slice a1 nb.length c1] 69 (0, 0)) → ∃ bb : Bool, Value.bool true = .bool bb ∧ (bb = false → NbOrd nb ∧ ∀ m ∈ nb, m.r ≠ rt) ∧ Below w.heap.size w wx ∧ wx.heap[w.heap.size]? = some (.cells #[.int .i64 kind, .int .u32 pa, .int .i64 pl, .int .u32 ad, .int .u32 area, .int .i64 cost, .int .i64 prio, .int .i64 hel, .int .i64 dead, .bool up, .int .u32 dr, .int .u32 bdr, .int .i64 el, .int .i64 nh, .slice a1 nb.length c1] 69 (0, 0))) := Lib.hid (fun wx h1 h2 => ⟨true, rfl, (fun h => by cases h), h1, h2⟩)
      cases own with
      | true =>
        clear OD AC NOO
        go_wp2_with fail
        go_meet
        case rel => exact YES.out _ B2.out X2.out
      | false =>
      have NN := Lib.hid (NOO.out rfl)
      clear NOO
      by_cases q0 : rt = 0
      · subst q0
        clear OD AC NN
        go_wp2_with fail
        go_meet
        case rel => exact YES.out _ B2.out X2.out
      have q0' : (rt == 0) = false := by simpa using q0
      have y0 : w2.cell? ⟨w.heap.size, 0, none⟩ = some (.int .i64 kind) := blk_cell X2.out rfl
      have y1 : w2.cell? ⟨w.heap.size, 1, none⟩ = some (.int .u32 pa) := blk_cell X2.out rfl
      have y2 : w2.cell? ⟨w.heap.size, 2, none⟩ = some (.int .i64 pl) := blk_cell X2.out rfl
      have y3 : w2.cell? ⟨w.heap.size, 3, none⟩ = some (.int .u32 ad) := blk_cell X2.out rfl
      have y4 : w2.cell? ⟨w.heap.size, 4, none⟩ = some (.int .u32 area) := blk_cell X2.out rfl
      have y5 : w2.cell? ⟨w.heap.size, 5, none⟩ = some (.int .i64 cost) := blk_cell X2.out rfl
      have y6 : w2.cell? ⟨w.heap.size, 6, none⟩ = some (.int .i64 prio) := blk_cell X2.out rfl
      have y7 : w2.cell? ⟨w.heap.size, 7, none⟩ = some (.int .i64 hel) := blk_cell X2.out rfl
      have y8 : w2.cell? ⟨w.heap.size, 8, none⟩ = some (.int .i64 dead) := blk_cell X2.out rfl
      have y9 : w2.cell? ⟨w.heap.size, 9, none⟩ = some (.bool up) := blk_cell X2.out rfl
      have y10 : w2.cell? ⟨w.heap.size, 10, none⟩ = some (.int .u32 dr) := blk_cell X2.out rfl
      have y11 : w2.cell? ⟨w.heap.size, 11, none⟩ = some (.int .u32 bdr) := blk_cell X2.out rfl
      have y12 : w2.cell? ⟨w.heap.size, 12, none⟩ = some (.int .i64 el) := blk_cell X2.out rfl
      have y13 : w2.cell? ⟨w.heap.size, 13, none⟩ = some (.int .i64 nh) := blk_cell X2.out rfl
      have y14 : w2.cell? ⟨w.heap.size, 14, none⟩ = some (.slice a1 nb.length c1) := blk_cell X2.out rfl
      obtain ⟨w3, hw3⟩ : ∃ w3, w2.alloc (.cells #[.int .i64 kind, .int .u32 pa, .int .i64 pl, .int .u32 ad, .int .u32 area, .int .i64 cost, .int .i64 prio, .int .i64 hel, .int .i64 dead, .bool up, .int .u32 dr, .int .u32 bdr, .int .i64 el, .int .i64 nh, .slice a1 nb.length c1] 69) = w3 := ⟨_, rfl⟩
      have C3 : Below w2.heap.size w2 w3 := by rw [← hw3]; exact (Below.refl _ _).alloc (Nat.le_refl _) _
      have N3 : Hid (w3.heap[w2.heap.size]? = some (.cells #[.int .i64 kind, .int .u32 pa, .int .i64 pl, .int .u32 ad, .int .u32 area, .int .i64 cost, .int .i64 prio, .int .i64 hel, .int .i64 dead, .bool up, .int .u32 dr, .int .u32 bdr, .int .i64 el, .int .i64 nh, .slice a1 nb.length c1] 69 (0, 0))) := Lib.hid (by rw [← hw3]; exact alloc_new _ _)
      have B3 := Lib.hid (B2.out.trans (C3.mono B2.out.size))
      have X3 := Lib.hid ((C3.block _ (blk_lt X2.out)).trans X2.out)
      have OD3 := Lib.hid (OD.out w3 w2.heap.size B3.out N3.out)
      have HW3 := Lib.hid hw3
      clear hw3 C3 OD q0 N3
      go_wp2_with (rw [HW3.out])
      refine OD3.out.mono ?_
      rintro e w4 ⟨ob, rfl, G4, HO⟩
      have B4 := Lib.hid (B3.out.trans (G4.b.mono B3.out.size))
      have X4 := Lib.hid ((G4.b.block _ (blk_lt X3.out)).trans X3.out)
      have HOO := Lib.hid HO
      clear G4 HO OD3 HW3 B2 X2 B3 X3 y0 y1 y2 y3 y4 y5 y6 y7 y8 y9 y10 y11 y12 y13 y14
      cases ob with
      | false =>
        clear AC NN
        go_wp2_with fail
        go_meet
        case rel => exact YES.out _ B4.out X4.out
      | true =>
      have O := Lib.hid (HOO.out rfl _ (List.mem_singleton.2 rfl))
      clear HOO
      have y0 : w4.cell? ⟨w.heap.size, 0, none⟩ = some (.int .i64 kind) := blk_cell X4.out rfl
      have y1 : w4.cell? ⟨w.heap.size, 1, none⟩ = some (.int .u32 pa) := blk_cell X4.out rfl
      have y2 : w4.cell? ⟨w.heap.size, 2, none⟩ = some (.int .i64 pl) := blk_cell X4.out rfl
      have y3 : w4.cell? ⟨w.heap.size, 3, none⟩ = some (.int .u32 ad) := blk_cell X4.out rfl
      have y4 : w4.cell? ⟨w.heap.size, 4, none⟩ = some (.int .u32 area) := blk_cell X4.out rfl
      have y5 : w4.cell? ⟨w.heap.size, 5, none⟩ = some (.int .i64 cost) := blk_cell X4.out rfl
      have y6 : w4.cell? ⟨w.heap.size, 6, none⟩ = some (.int .i64 prio) := blk_cell X4.out rfl
      have y7 : w4.cell? ⟨w.heap.size, 7, none⟩ = some (.int .i64 hel) := blk_cell X4.out rfl
      have y8 : w4.cell? ⟨w.heap.size, 8, none⟩ = some (.int .i64 dead) := blk_cell X4.out rfl
      have y9 : w4.cell? ⟨w.heap.size, 9, none⟩ = some (.bool up) := blk_cell X4.out rfl
      have y10 : w4.cell? ⟨w.heap.size, 10, none⟩ = some (.int .u32 dr) := blk_cell X4.out rfl
      have y11 : w4.cell? ⟨w.heap.size, 11, none⟩ = some (.int .u32 bdr) := blk_cell X4.out rfl
      have y12 : w4.cell? ⟨w.heap.size, 12, none⟩ = some (.int .i64 el) := blk_cell X4.out rfl
      have y13 : w4.cell? ⟨w.heap.size, 13, none⟩ = some (.int .i64 nh) := blk_cell X4.out rfl
      have y14 : w4.cell? ⟨w.heap.size, 14, none⟩ = some (.slice a1 nb.length c1) := blk_cell X4.out rfl
      obtain ⟨w5, hw5⟩ : ∃ w5, w4.alloc (.cells #[.int .i64 kind, .int .u32 pa, .int .i64 pl, .int .u32 ad, .int .u32 area, .int .i64 cost, .int .i64 prio, .int .i64 hel, .int .i64 dead, .bool up, .int .u32 dr, .int .u32 bdr, .int .i64 el, .int .i64 nh, .slice a1 nb.length c1] 69) = w5 := ⟨_, rfl⟩
      have C5 : Below w4.heap.size w4 w5 := by rw [← hw5]; exact (Below.refl _ _).alloc (Nat.le_refl _) _
      have N5 : Hid (w5.heap[w4.heap.size]? = some (.cells #[.int .i64 kind, .int .u32 pa, .int .i64 pl, .int .u32 ad, .int .u32 area, .int .i64 cost, .int .i64 prio, .int .i64 hel, .int .i64 dead, .bool up, .int .u32 dr, .int .u32 bdr, .int .i64 el, .int .i64 nh, .slice a1 nb.length c1] 69 (0, 0))) := Lib.hid (by rw [← hw5]; exact alloc_new _ _)
      have B5 := Lib.hid (B4.out.trans (C5.mono B4.out.size))
      have X5 := Lib.hid ((C5.block _ (blk_lt X4.out)).trans X4.out)
      have AC5 := Lib.hid (AC.out w5 w4.heap.size B5.out N5.out)
      have HW5 := Lib.hid hw5
      clear hw5 C5 AC N5
      go_wp2_with (rw [HW5.out])
      refine AC5.out.mono ?_
      rintro e w6 ⟨rfl, G6⟩
      have B6 := Lib.hid (B5.out.trans (G6.b.mono B5.out.size))
      have X6 := Lib.hid ((G6.b.block _ (blk_lt X5.out)).trans X5.out)
      clear G6 AC5 HW5 B4 X4 B5 X5 y0 y1 y2 y3 y4 y5 y6 y7 y8 y9 y10 y11 y12 y13 y14
      generalize accB _ = acb
      cases acb with
      | false =>
        clear NN
        go_wp2_with fail
        go_meet
        case rel => exact YES.out _ B6.out X6.out
      | true =>
        go_wp2_with fail
        go_meet
        case rel => exact ⟨false, rfl, fun _ => ⟨O.out, NN.out⟩, B6.out, X6.out⟩
  case rest =>
  obtain ⟨bb, rfl, hbb, hB6, hX6⟩ := hcut
  have HBB := Lib.hid hbb
  have B6 := Lib.hid hB6
  have X6 := Lib.hid hX6
  clear hbb hB6 hX6 OD AC NOO B2 X2
  refine hKI _ _ ?_
  clear hKI
  go_cut [] (fun wx => (NbOrd nb ∧ ∀ m ∈ nb, m.r ≠ rt) ∧ Below w.heap.size w wx ∧ wx.heap[w.heap.size]? = some (.cells #[.int .i64 kind, .int .u32 pa, .int .i64 pl, .int .u32 ad, .int .u32 area, .int .i64 cost, .int .i64 prio, .int .i64 hel, .int .i64 dead, .bool up, .int .u32 dr, .int .u32 bdr, .int .i64 el, .int .i64 nh, .slice a1 nb.length c1] 69 (0, 0)))
  case first =>
    cases bb with
    | true =>
      clear HBB
      go_wp2_with fail
      refine (LV.out _).mono ?_
      rintro e wz ⟨rfl, BZ⟩
      have FIN := Lib.hid (B6.out.trans (BZ.mono B6.out.size))
      clear BZ
      go_wp2_with fail
      go_ret
      exact ⟨rfl, FIN.out⟩
    | false =>
      have HB2 := Lib.hid (HBB.out rfl)
      clear HBB
      go_wp2_with fail
      go_meet
      case rel => exact ⟨HB2.out, B6.out, X6.out⟩
  case rest =>
  obtain ⟨hO, hB, hX⟩ := hcut
  refine hKO _ _ ?_
  exact nw_tail w _ ⟨⟨kind, pa, pl, ad, area, cost, prio, hel, dead, up, dr, bdr, el, nh, a1, nb.length, c1⟩, nb⟩ rt HG.out HS.out hB hX hO.1 hO.2 _ _ _ _ _ _ _ _ _ _ _ _ _ _ _ _ _ _ _ _ _ _ _ _ _ _ _ _ _ _ _ _ _ _ _ _ _ _ _ _ _ _ _ _ _ _ _ _ _ _ _ _ _ _ _ _

end Go.Proofs.YtddageahmgaigaaGreat
