import Derived.Test.YtddageahmgaigaaGreatKys
import Derived.Test.YtddageahmgaigaaGreatSla
import Derived.Test.YtddageahmgaigaaGreatNfd
import Derived.Test.YtddageahmgaigaaGreatRn2
import Derived.Test.YtddageahmgaigaaGreatRn3
import Derived.Test.YtddageahmgaigaaGreatRsb
import Derived.Test.YtddageahmgaigaaGreatLcf
import Derived.IntWalk
import Derived.Handy
namespace Go.Proofs.YtddageahmgaigaaGreat
open Go.RowKit

def bodP (x : Lsa) : Bool := (decide (x.seq = 0) && decide (x.age = 0)) && decide (x.sum = 0)
def bodB (l : List Lsa) : Bool := l.all bodP
theorem bodB_false {l : List Lsa} {k : Nat} (c : k < l.length) (h : bodP l[k] = false) : bodB l = false := by
  unfold bodB
  rw [List.all_eq_false]
  exact ⟨l[k], List.getElem_mem c, by simp [h]⟩
theorem bodB_true {l : List Lsa} (h : ∀ i, (hi : i < l.length) → bodP l[i] = true) : bodB l = true := by
  unfold bodB
  rw [List.all_eq_true]
  intro x hx
  obtain ⟨i, hi, rfl⟩ := List.getElem_of_mem hx
  exact h i hi

def BdPost (w : World) (l : List Lsa) (e : Ending) (w' : World) : Prop := e = .returned (.bool (bodB l)) ∧ Gr w w'

set_option maxHeartbeats 8000000 in
set_option maxRecDepth 100000 in
theorem bodies_calls (w : World) (v : Value) (l : List Lsa) (h : LsasAt w v l) : Calls Tryz.prog 19 #[v] w (BdPost w l) := by
  obtain ⟨a1, c1, rfl, hlen, hc1⟩ := h.get
  have HC1 := Lib.hid hc1
  clear h hc1
  go_enter Tryz.func19, Tryz.ntmps19
  go_wp2_with fail
  go_loopw [6, 3] (fun i _ wr => ∃ k : Nat, i = .int .i64 k ∧ k ≤ l.length ∧ Hid (Gr w wr) ∧ Hid (∀ m, (hm : m < l.length) → m < k → bodP l[m] = true)) (fun i _ _ => l.length - (intOf i).toNat)
  case atStart => exact ⟨0, rfl, Nat.zero_le _, Lib.hid (Gr.refl _), Lib.hid (fun m _ hm => absurd hm (by omega))⟩
  case round =>
    obtain ⟨k, rfl, hk, GG, NO⟩ := hrel
    by_cases c : k < l.length
    · obtain ⟨b1, o1, rfl, hb1, hcc1⟩ := HC1.out (by omega)
      obtain ⟨⟨d0, d1, d2, d3, d4⟩, ⟨d5, d6, d7, d8, d9⟩, -⟩ := (hcc1 k c).below GG.out.b hb1
      have KC := Lib.hid c
      have i0 : (0 : Int) ≤ (k : Int) := by omega
      have i1 : (k : Int) < (l.length : Int) := by omega
      have s3 : ((k : Int)).toNat = k := by omega
      have YES : Hid (bodP l[k] = false → BdPost w l (.returned (.bool false)) wr) := Lib.hid (fun e => ⟨by rw [bodB_false c e], GG.out⟩)
      have NXT : Hid (bodP l[k] = true → ∀ m, (hm : m < l.length) → m < k + 1 → bodP l[m] = true) := Lib.hid (fun e m hm h => by
        rcases Nat.lt_or_ge m k with h' | h'
        · exact NO.out m hm h'
        · obtain rfl : m = k := by omega
          exact e)
      clear hcc1 NO
      generalize l[k] = x at *
      clear c
      obtain ⟨xtyp, xid, xlen, xrouter, xseq, xage, xsum, xborder, xboundary, xla, xln, xlc, xaa, xan, xac, xcost, xsecond, xfwd, xtag⟩ := x
      simp only at d4 d5 d6
      simp only [bodP] at YES NXT
      clear d0 d1 d2 d3 d7 d8 d9
      by_cases q4 : xseq = 0
      · subst q4
        by_cases q5 : xage = 0
        · subst q5
          by_cases q6 : xsum = 0
          · subst q6
            have N := Lib.hid (NXT.out rfl)
            clear YES NXT
            go_wp2_with fail
            go_roundw
            case rel => exact ⟨k + 1, by go_num, KC.out, GG, N⟩
            case measure => simp [intOf]; have := KC.out; omega
          · have q' : (xsum != 0) = true := by simpa using q6
            have Y := Lib.hid (YES.out (by simp [q6]))
            clear YES NXT q6
            go_wp2_with fail
            go_returns
            exact Y.out
        · have q' : (xage != 0) = true := by simpa using q5
          have Y := Lib.hid (YES.out (by simp [q5]))
          clear YES NXT q5
          go_wp2_with fail
          go_returns
          exact Y.out
      · have q' : (xseq != 0) = true := by simpa using q4
        have Y := Lib.hid (YES.out (by simp [q4]))
        clear YES NXT q4
        go_wp2_with fail
        go_returns
        exact Y.out
    · have E : Hid (BdPost w l (.returned (.bool true)) wr) := Lib.hid ⟨by rw [bodB_true fun i hi => NO.out i hi (by omega)], GG.out⟩
      clear NO
      go_wp2_with fail
      go_ret
      exact E.out

end Go.Proofs.YtddageahmgaigaaGreat

namespace Go.Proofs.YtddageahmgaigaaGreat
open Go.RowKit

theorem fd_ex (db : List LsaD) (x : Lsa) : ∃ fd, FdIs db x fd := by
  by_cases c : ∃ d ∈ db, lkOf d.x = lkOf x
  · obtain ⟨d, h1, h2⟩ := c
    exact ⟨some d, .inr ⟨d, h1, rfl, h2⟩⟩
  · exact ⟨none, .inl ⟨rfl, fun d h1 h2 => c ⟨d, h1, h2⟩⟩⟩

theorem next_calls (w : World) (v : Value) (db : List LsaD) (h : LsasAt w v (db.map LsaD.x)) (hd : ∀ d ∈ db, LL w d.x d.lk d.att) (x : Lsa) (lk : List Lnk) (att : List Int) (hx : DIn w ⟨x, lk, att⟩) (nl : lk.length ≤ 1048576) (na : att.length ≤ 1048576)
    (un : ∀ d ∈ db, ∀ d' ∈ db, lkOf d'.x = lkOf d.x → d' = d) (hq : ∀ d ∈ db, 1 ≤ d.x.seq) (fd : Option LsaD) (hf : FdIs db x fd) : Calls Tryz.prog 20 #[v, .agg (lsaE x).toArray] w (NxPost w fd x lk att) := by
  rcases hf with ⟨rfl, no⟩ | ⟨d, hdm, rfl, hk⟩
  · have N : Calls Tryz.prog 20 #[v, .agg (lsaE x).toArray] w (NxSeal w { x with seq := 1, age := 0, sum := 0 } lk att) := by
      exact next_none w v db h hd x lk att hx nl na no
    exact N.mono fun e w' hp => .inr ⟨(fun _ h => by cases h), .inr ⟨(fun _ h => by cases h), hp⟩⟩
  · have un' : ∀ d' ∈ db, lkOf d'.x = lkOf x → d' = d := fun d' h1 h2 => un d hdm d' h1 (h2.trans hk.symm)
    have stopB : 2147483647 ≤ d.x.seq → (¬ (SameB d.x x d.lk lk d.att att ∧ d.x.age < 1800)) → ∀ e w', NxStop w 8 e w' → NxPost w (some d) x lk att e w' := fun c1 c2 e w' hp =>
      .inr ⟨(fun _ h => by cases h; exact c2), .inl ⟨⟨d, rfl, c1⟩, hp.1, hp.2⟩⟩
    have goD : d.x.seq < 2147483647 → (¬ (SameB d.x x d.lk lk d.att att ∧ d.x.age < 1800)) → ∀ e w', NxSeal w { x with seq := d.x.seq + 1, age := 0, sum := 0 } lk att e w' → NxPost w (some d) x lk att e w' := fun c1 c2 e w' hp =>
      .inr ⟨(fun _ h => by cases h; exact c2), .inr ⟨(fun _ h => by cases h; exact c1), hp⟩⟩
    by_cases ha : d.x.age < 1800
    · by_cases hs : SameB d.x x d.lk lk d.att att
      · exact (next_A w v db h hd x lk att hx d hdm hk un' hs ha).mono fun e w' hp => .inl ⟨⟨d, rfl, hs, ha⟩, hp.1, hp.2⟩
      · have nq : ¬ (SameB d.x x d.lk lk d.att att ∧ d.x.age < 1800) := fun q => hs q.1
        by_cases hq2 : 2147483647 ≤ d.x.seq
        · exact (next_nB w v db h hd x lk att hx d hdm hk un' hs hq2).mono (stopB hq2 nq)
        · by_cases hz : LsaIs { x with seq := d.x.seq + 1, age := 0, sum := 0 } lk att 0
          · exact (next_nD0 w v db h hd x lk att hx nl na d hdm hk un' hs (by omega) (hq d hdm) hz).mono (goD (by omega) nq)
          · exact (next_nD1 w v db h hd x lk att hx nl na d hdm hk un' hs (by omega) (hq d hdm) hz).mono (goD (by omega) nq)
    · have nq : ¬ (SameB d.x x d.lk lk d.att att ∧ d.x.age < 1800) := fun q => ha q.2
      by_cases hq2 : 2147483647 ≤ d.x.seq
      · by_cases hs : SameB d.x x d.lk lk d.att att
        · exact (next_oB w v db h hd x lk att hx d hdm hk un' hs ha hq2).mono (stopB hq2 nq)
        · exact (next_nB w v db h hd x lk att hx d hdm hk un' hs hq2).mono (stopB hq2 nq)
      · by_cases hz : LsaIs { x with seq := d.x.seq + 1, age := 0, sum := 0 } lk att 0
        · by_cases hs : SameB d.x x d.lk lk d.att att
          · exact (next_oD0 w v db h hd x lk att hx nl na d hdm hk un' hs ha (by omega) (hq d hdm) hz).mono (goD (by omega) nq)
          · exact (next_nD0 w v db h hd x lk att hx nl na d hdm hk un' hs (by omega) (hq d hdm) hz).mono (goD (by omega) nq)
        · by_cases hs : SameB d.x x d.lk lk d.att att
          · exact (next_oD1 w v db h hd x lk att hx nl na d hdm hk un' hs ha (by omega) (hq d hdm) hz).mono (goD (by omega) nq)
          · exact (next_nD1 w v db h hd x lk att hx nl na d hdm hk un' hs (by omega) (hq d hdm) hz).mono (goD (by omega) nq)

theorem rnext_calls (w : World) (v : Value) (db : List LsaD) (h : LsasAt w v (db.map LsaD.x)) (hd : ∀ d ∈ db, LL w d.x d.lk d.att) (x : Lsa) (lk : List Lnk) (att : List Int) (hx : DIn w ⟨x, lk, att⟩) (nl : lk.length ≤ 1048576) (na : att.length ≤ 1048576)
    (un : ∀ d ∈ db, ∀ d' ∈ db, lkOf d'.x = lkOf d.x → d' = d) (hq : ∀ d ∈ db, 1 ≤ d.x.seq) (fd : Option LsaD) (hf : FdIs db x fd) : Calls Tryz.prog 21 #[v, .agg (lsaE x).toArray] w (NxPost w fd x lk att) := by
  rcases hf with ⟨rfl, no⟩ | ⟨d, hdm, rfl, hk⟩
  · have N : Calls Tryz.prog 21 #[v, .agg (lsaE x).toArray] w (NxSeal w { x with seq := 1, age := 0, sum := 0 } lk att) := by
      by_cases hz : LsaIs { x with seq := 1, age := 0, sum := 0 } lk att 0
      · exact rnext_none0 w v db h hd x lk att hx nl na no hz
      · exact rnext_none1 w v db h hd x lk att hx nl na no hz
    exact N.mono fun e w' hp => .inr ⟨(fun _ h => by cases h), .inr ⟨(fun _ h => by cases h), hp⟩⟩
  · have un' : ∀ d' ∈ db, lkOf d'.x = lkOf x → d' = d := fun d' h1 h2 => un d hdm d' h1 (h2.trans hk.symm)
    have stopB : 2147483647 ≤ d.x.seq → (¬ (SameB d.x x d.lk lk d.att att ∧ d.x.age < 1800)) → ∀ e w', NxStop w 8 e w' → NxPost w (some d) x lk att e w' := fun c1 c2 e w' hp =>
      .inr ⟨(fun _ h => by cases h; exact c2), .inl ⟨⟨d, rfl, c1⟩, hp.1, hp.2⟩⟩
    have goD : d.x.seq < 2147483647 → (¬ (SameB d.x x d.lk lk d.att att ∧ d.x.age < 1800)) → ∀ e w', NxSeal w { x with seq := d.x.seq + 1, age := 0, sum := 0 } lk att e w' → NxPost w (some d) x lk att e w' := fun c1 c2 e w' hp =>
      .inr ⟨(fun _ h => by cases h; exact c2), .inr ⟨(fun _ h => by cases h; exact c1), hp⟩⟩
    by_cases ha : d.x.age < 1800
    · by_cases hs : SameB d.x x d.lk lk d.att att
      · exact (rnext_A w v db h hd x lk att hx d hdm hk un' hs ha).mono fun e w' hp => .inl ⟨⟨d, rfl, hs, ha⟩, hp.1, hp.2⟩
      · have nq : ¬ (SameB d.x x d.lk lk d.att att ∧ d.x.age < 1800) := fun q => hs q.1
        by_cases hq2 : 2147483647 ≤ d.x.seq
        · exact (rnext_nB w v db h hd x lk att hx d hdm hk un' hs ha hq2).mono (stopB hq2 nq)
        · by_cases hz : LsaIs { x with seq := d.x.seq + 1, age := 0, sum := 0 } lk att 0
          · exact (rnext_nD0 w v db h hd x lk att hx nl na d hdm hk un' hs ha (by omega) (hq d hdm) hz).mono (goD (by omega) nq)
          · exact (rnext_nD1 w v db h hd x lk att hx nl na d hdm hk un' hs ha (by omega) (hq d hdm) hz).mono (goD (by omega) nq)
    · have nq : ¬ (SameB d.x x d.lk lk d.att att ∧ d.x.age < 1800) := fun q => ha q.2
      by_cases hq2 : 2147483647 ≤ d.x.seq
      · exact (rnext_oB w v db h hd x lk att hx d hdm hk un' ha hq2).mono (stopB hq2 nq)
      · by_cases hz : LsaIs { x with seq := d.x.seq + 1, age := 0, sum := 0 } lk att 0
        · exact (rnext_oD0 w v db h hd x lk att hx nl na d hdm hk un' ha (by omega) (hq d hdm) hz).mono (goD (by omega) nq)
        · exact (rnext_oD1 w v db h hd x lk att hx nl na d hdm hk un' ha (by omega) (hq d hdm) hz).mono (goD (by omega) nq)

end Go.Proofs.YtddageahmgaigaaGreat

namespace Go.Proofs.YtddageahmgaigaaGreat
open Go.RowKit

theorem kk_neg (a b : Kk) : kkCmp a b < 0 ↔ (a.typ < b.typ ∨ a.typ = b.typ ∧ (a.id < b.id ∨ a.id = b.id ∧ (a.len < b.len ∨ a.len = b.len ∧ a.router < b.router))) := by
  unfold kkCmp
  have h : ∀ x y : Int, cmpI x y < 0 ↔ x < y := fun x y => by unfold cmpI; split <;> (try split) <;> omega
  have hz : ∀ x y : Int, cmpI x y = 0 ↔ x = y := fun x y => by unfold cmpI; split <;> (try split) <;> omega
  by_cases h1 : a.typ = b.typ
  · rw [(hz _ _).2 h1]
    by_cases h2 : a.id = b.id
    · rw [(hz _ _).2 h2]
      by_cases h3 : a.len = b.len
      · rw [(hz _ _).2 h3]
        by_cases h4 : a.router = b.router
        · rw [(hz _ _).2 h4]; simp [orI, h1, h2, h3, h4]
        · have : ¬ cmpI a.router b.router = 0 := fun z => h4 ((hz _ _).1 z)
          simp [orI, this, h1, h2, h3, h]
      · have : ¬ cmpI a.len b.len = 0 := fun z => h3 ((hz _ _).1 z)
        simp [orI, this, h1, h2, h, h3]
    · have : ¬ cmpI a.id b.id = 0 := fun z => h2 ((hz _ _).1 z)
      simp [orI, this, h1, h, h2]
  · have : ¬ cmpI a.typ b.typ = 0 := fun z => h1 ((hz _ _).1 z)
    simp [orI, this, h, h1]

theorem DbOk.asc {db : List LsaD} (h : DbOk db) : ∀ n i, i + n + 1 < db.length → kkCmp (lkOf (dAt db i).x) (lkOf (dAt db (i + n + 1)).x) < 0
  | 0, i, hi => (h (i + 1) hi).2 (by omega)
  | n + 1, i, hi => by
    have h1 := DbOk.asc h n i (by omega)
    have h2 : kkCmp (lkOf (dAt db (i + n + 1)).x) (lkOf (dAt db (i + (n + 1) + 1)).x) < 0 := (h (i + (n + 1) + 1) hi).2 (by omega)
    rw [kk_neg] at h1 h2 ⊢
    omega

theorem dAt_get {db : List LsaD} {i : Nat} (hi : i < db.length) : dAt db i = db[i] := by
  unfold dAt
  rw [List.getD_eq_getElem?_getD, List.getElem?_eq_getElem hi, Option.getD_some]

theorem DbOk.un {db : List LsaD} (h : DbOk db) : ∀ d ∈ db, ∀ d' ∈ db, lkOf d'.x = lkOf d.x → d' = d := by
  intro d hd d' hd' e
  obtain ⟨i, hi, rfl⟩ := List.getElem_of_mem hd
  obtain ⟨j, hj, rfl⟩ := List.getElem_of_mem hd'
  rcases Nat.lt_trichotomy i j with c | c | c
  · exfalso
    have := h.asc (j - i - 1) i (by omega)
    rw [show i + (j - i - 1) + 1 = j from by omega, dAt_get hi, dAt_get hj, kk_neg, e] at this
    omega
  · subst c; rfl
  · exfalso
    have := h.asc (i - j - 1) j (by omega)
    rw [show j + (i - j - 1) + 1 = i from by omega, dAt_get hi, dAt_get hj, kk_neg, e] at this
    omega

theorem DbOk.at {db : List LsaD} (h : DbOk db) {d : LsaD} (hd : d ∈ db) : LsaOk d := by
  obtain ⟨i, hi, rfl⟩ := List.getElem_of_mem hd
  rw [← dAt_get hi]; exact (h i hi).1

theorem LsaOk.seq {d : LsaD} (h : LsaOk d) : 1 ≤ d.x.seq := by
  have hx : headX d.x = 0 := by
    rcases h with ⟨h1, h2⟩ | ⟨_, _, h2⟩ | ⟨h1, _⟩
    · exact absurd h2.symm h1
    · cases h2
    · exact h1
  unfold headX at hx
  unfold headP at hx
  split at hx
  · cases hx
  · split at hx
    · cases hx
    · rename_i h2
      have h3 : withinB d.x.seq 1 2147483647 = true := by
        cases e : withinB d.x.seq 1 2147483647 with
        | true => rfl
        | false => exact absurd (.inr (.inl e)) h2
      unfold withinB at h3
      simp at h3
      exact h3.1

def NxR (w : World) (Y : Lsa) (ok : Bool) (c : Int) (lk : List Lnk) (att : List Int) (e : Ending) (w' : World) : Prop := ∃ la lc aa ac, e = .returned (.tuple #[.agg (lsaE (atL Y la lc aa ac)).toArray, .bool ok, .int .i64 c]) ∧ LnksAt w' (.slice la Y.ln lc) lk ∧ WordsAt w' (.slice aa Y.an ac) att ∧ Below w.heap.size w w'

theorem lnks_zero (w : World) : LnksAt w (.slice none 0 0) [] := ⟨none, 0, rfl, Nat.le_refl _, by unfold maxLen; omega, fun _ => rfl, fun h => absurd h (by simp)⟩
theorem words_zero (w : World) : WordsAt w (.slice none 0 0) [] := ⟨none, 0, rfl, Nat.le_refl _, by unfold maxLen; omega, fun _ => rfl, fun h => absurd h (by simp)⟩

end Go.Proofs.YtddageahmgaigaaGreat
