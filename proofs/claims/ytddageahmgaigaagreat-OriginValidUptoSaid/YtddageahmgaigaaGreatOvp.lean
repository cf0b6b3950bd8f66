import Derived.Test.YtddageahmgaigaaGreatRnv
import Derived.Test.YtddageahmgaigaaGreatC26
import Derived.Test.YtddageahmgaigaaGreatOvd
import Derived.Test.YtddageahmgaigaaGreatLcf
import Derived.Test.YtddageahmgaigaaGreatRtp
namespace Go.Proofs.YtddageahmgaigaaGreat
open Go.RowKit

structure VIf (rt : Int) (d : IfD) : Prop where
  c : chk26 d.x = 0
  n : d.nb.length ≤ 63
  k : d.x.kind = 1 → d.nb.length ≤ 1
  r0 : ∀ m ∈ d.nb, m.r ≠ 0
  rr : ∀ m ∈ d.nb, m.r ≠ rt

theorem chk26_all {x : Ifc} (h : chk26 x = 0) : withinB x.kind 1 3 = true ∧ fitsB x.pa x.pl = true ∧ x.ad ≠ 0 ∧ withinB x.cost 1 65535 = true := by
  unfold chk26 at h
  split at h
  · cases h
  · rename_i h1
    split at h
    · cases h
    · rename_i h2
      split at h
      · cases h
      · rename_i h3
        refine ⟨by simpa using h1, ?_, fun e => h2 (.inr (.inl e)), ?_⟩
        · cases e : fitsB x.pa x.pl with
          | true => rfl
          | false => exact absurd (.inl e) h2
        · cases e : withinB x.cost 1 65535 with
          | true => rfl
          | false => exact absurd (.inl e) h3

theorem fullsS_perm (nb : List Nb) (rt : Int) : (fullsS nb rt).Perm (fulls nb ++ [rt]) := List.mergeSort_perm _ _
theorem fullsS_len (nb : List Nb) (rt : Int) : (fullsS nb rt).length = (fulls nb).length + 1 := by rw [(fullsS_perm nb rt).length_eq]; simp
theorem fullsS_asc {nb : List Nb} {rt : Int} (ho : NbOrd nb) (no : ∀ m ∈ nb, m.r ≠ rt) : (fullsS nb rt).Pairwise (· < ·) := by
  have h2 : (fullsS nb rt).Pairwise (fun a b => decide (a ≤ b) = true) := List.pairwise_mergeSort (fun a b c h1 h2 => by simp at *; omega) (fun a b => by simp; omega) _
  have nd : (fulls nb ++ [rt]).Nodup := by
    refine List.nodup_append.2 ⟨(fulls_asc ho).imp fun h => by omega, by simp, ?_⟩
    intro a ha b hb
    simp at hb
    subst hb
    obtain ⟨n, hn, rfl⟩ := fulls_of ha
    exact no n hn
  have nd' : (fullsS nb rt).Nodup := (fullsS_perm nb rt).nodup_iff.2 nd
  exact (nd'.and h2).imp fun ⟨h, k⟩ => by simp at k; omega

theorem net_ok {d : IfD} {rt : Int} (v : VIf rt d) (ho : NbOrd d.nb) (hr : rt ≠ 0) (a : Option Addr) (cp : Nat) (c : Int) (h : LsaIs { nwL d.x rt a (fullsS d.nb rt).length cp with seq := 1 } [] (fullsS d.nb rt) c) : c = 0 := by
  obtain ⟨-, c2, c3, -⟩ := chk26_all v.c
  obtain ⟨l0, l1⟩ := fitsB_len c2
  refine h.one ?_
  refine .inr (.inr ⟨?_, ?_, .inr (.inl ⟨rfl, ?_⟩)⟩)
  · simp [headX, headP, nwL, withinB, hr, c3, l0, l1]
  · simp [unusedP, nwL]
  · have len : (fullsS d.nb rt).length ≤ 64 := by have h1 := fullsS_len d.nb rt; have h2 := fulls_len d.nb; have := v.n; omega
    have asc := fullsS_asc ho v.rr
    have nz : ∀ r ∈ fullsS d.nb rt, r ≠ 0 := by
      intro r hm
      have := (fullsS_perm d.nb rt).mem_iff.1 hm
      rcases List.mem_append.1 this with h1 | h1
      · obtain ⟨n, hn, rfl⟩ := fulls_of h1; exact v.r0 n hn
      · simp at h1; subst h1; exact hr
    refine .inr ⟨len, .inr ⟨fun k hk => ?_, ?_⟩⟩
    · have e1 : (fullsS d.nb rt).getD k 0 = (fullsS d.nb rt)[k] := by simp [List.getD, hk]
      have n0 := nz _ (List.getElem_mem hk)
      unfold attBad
      rw [e1]
      cases k with
      | zero => simp [n0]
      | succ k =>
        have e2 : (fullsS d.nb rt).getD (k + 1 - 1) 0 = (fullsS d.nb rt)[k] := by simp [List.getD, show k < (fullsS d.nb rt).length by omega]
        have lt := List.pairwise_iff_getElem.1 asc k (k + 1) (by omega) hk (by omega)
        rw [e2, decide_eq_false n0, decide_eq_false (show ¬ (fullsS d.nb rt)[k + 1] ≤ (fullsS d.nb rt)[k] by omega), Bool.and_false, Bool.or_false]
    · have : rt ∈ fullsS d.nb rt := (fullsS_perm d.nb rt).mem_iff.2 (by simp)
      simp [this, nwL]

def LnkV (rt : Int) (x : Lnk) : Prop := withinB x.kind 1 3 = true ∧ withinB x.cost 1 65535 = true ∧ (x.kind = 1 → x.id ≠ 0 ∧ x.id ≠ rt) ∧ (x.kind = 3 → x.data ≤ 32 ∧ fitsB x.id x.data = true)
theorem stub_v {rt : Int} {d : IfD} (v : VIf rt d) : LnkV rt (stubL d.x) := by
  obtain ⟨-, c2, -, c4⟩ := chk26_all v.c
  obtain ⟨l0, l1⟩ := fitsB_len c2
  exact ⟨rfl, c4, (fun h => by cases h), fun _ => ⟨l1, c2⟩⟩
theorem lks_v {rt : Int} {d : IfD} (v : VIf rt d) : ∀ x ∈ lksOf rt d, LnkV rt x := by
  obtain ⟨-, -, -, c4⟩ := chk26_all v.c
  intro x hx
  unfold lksOf at hx
  split at hx
  · obtain rfl := List.mem_singleton.1 hx; exact stub_v v
  · split at hx
    · rcases List.mem_cons.1 hx with rfl | hx
      · exact stub_v v
      · obtain ⟨r, hr, rfl⟩ := List.mem_map.1 hx
        obtain ⟨n, hn, rfl⟩ := fulls_of hr
        exact ⟨rfl, c4, fun _ => ⟨v.r0 n hn, v.rr n hn⟩, (fun h => by cases h)⟩
    · split at hx
      · split at hx
        · obtain rfl := List.mem_singleton.1 hx
          exact ⟨rfl, c4, (fun h => by cases h), (fun h => by cases h)⟩
        · obtain rfl := List.mem_singleton.1 hx; exact stub_v v
      · cases hx
theorem lks_two {rt : Int} {d : IfD} (v : VIf rt d) : (lksOf rt d).length ≤ 2 := by
  unfold lksOf
  split
  · simp
  · split
    · rename_i h
      have h1 := v.k h
      have h2 := fulls_len d.nb
      simp; omega
    · split
      · split <;> simp
      · simp
theorem linksK_two {rt area : Int} : ∀ l : List IfD, (∀ d ∈ l, VIf rt d) → (linksK rt area l l.length).length ≤ 2 * l.length := by
  intro l
  unfold linksK
  rw [List.take_length]
  induction l with
  | nil => intro _; simp
  | cons d r ih =>
    intro h
    have h1 := ih (fun x hx => h x (List.mem_cons_of_mem _ hx))
    have h2 := lks_two (h d (by simp))
    cases e : selI area d with
    | true => rw [List.filter_cons_of_pos e, List.flatMap_cons, List.length_append, List.length_cons]; omega
    | false => rw [List.filter_cons_of_neg (by simp [e]), List.length_cons]; omega
theorem linksK_v {rt area : Int} {l : List IfD} (h : ∀ d ∈ l, VIf rt d) : ∀ x ∈ linksK rt area l l.length, LnkV rt x := by
  intro x hx
  unfold linksK at hx
  obtain ⟨d, hd, hx⟩ := List.mem_flatMap.1 hx
  rw [List.take_length] at hd
  exact lks_v (h d (List.mem_filter.1 hd).1) x hx

theorem sub_len {α : Type} [DecidableEq α] : ∀ l m : List α, l.Nodup → (∀ x ∈ l, x ∈ m) → l.length ≤ m.length
  | [], _, _, _ => Nat.zero_le _
  | x :: l, m, nd, h => by
    obtain ⟨h1, h2⟩ := List.nodup_cons.1 nd
    have hx := h x (by simp)
    have h3 := sub_len l (m.erase x) h2 (fun y hy => (List.mem_erase_of_ne (fun e => h1 (by rw [← e]; exact hy))).2 (h y (List.mem_cons_of_mem _ hy)))
    have h4 := List.length_erase_of_mem hx
    have h5 := List.length_pos_of_mem hx
    simp; omega

theorem links_mem {L out : List Lnk} (h : LinksOf L out) : ∀ x ∈ out, x ∈ L := by
  intro x hx
  obtain ⟨⟨y, h1, h2, h3⟩, -⟩ := (h.2 x).1 hx
  rwa [lnk_ext h2 h3] at h1
theorem links_len {L out : List Lnk} (h : LinksOf L out) : out.length ≤ L.length := by
  have nd : (out.map plOf).Nodup := List.pairwise_map.2 (h.1.imp fun {a b} k (e : plOf a = plOf b) => by rw [e] at k; exact plLt_irr _ k)
  have := sub_len (out.map plOf) (L.map plOf) nd (fun p hp => by
    obtain ⟨x, hx, rfl⟩ := List.mem_map.1 hp
    exact List.mem_map.2 ⟨x, links_mem h x hx, rfl⟩)
  simpa using this

theorem rtr_ok {rt area : Int} {ifs : List IfD} {bo ba : Bool} {lk : List Lnk} (v : ∀ d ∈ ifs, VIf rt d) (hl : ifs.length ≤ 16) (hr : rt ≠ 0) (H : LinksOf (linksK rt area ifs ifs.length) lk) (a : Option Addr) (cp : Nat) (c : Int)
    (h : LsaIs { lsaLk (rtL rt bo ba) a lk.length cp with seq := 1 } lk [] c) : c = 0 := by
  have len : lk.length ≤ 64 := by have h1 := links_len H; have h2 := linksK_two (rt := rt) (area := area) ifs v; omega
  have hv : ∀ x ∈ lk, LnkV rt x := fun x hx => linksK_v v x (links_mem H x hx)
  refine h.one ?_
  refine .inr (.inr ⟨?_, ?_, .inl ⟨rfl, ?_⟩⟩)
  · simp [headX, headP, lsaLk, rtL, withinB, hr]
  · simp [unusedP, lsaLk, rtL]
  · refine .inr ⟨len, .inl ⟨fun k hk => ?_, rfl⟩⟩
    have e1 : lnkAt lk k = lk[k] := by simp [lnkAt, List.getD, hk]
    obtain ⟨v1, v2, v3, v4⟩ := hv _ (List.getElem_mem hk)
    unfold lnkErr
    rw [e1, if_neg (by rw [v1]; decide), if_neg (by rw [v2]; decide)]
    rw [if_neg (fun ⟨q1, q2⟩ => by
      have := v3 q1
      rcases q2 with q2 | q2
      · exact this.1 q2
      · exact this.2 q2)]
    rw [if_neg (fun ⟨q1, q2⟩ => by
      have := v4 q1
      rcases q2 with q2 | q2
      · omega
      · rw [this.2] at q2; cases q2)]
    rw [if_neg]
    rintro ⟨q1, q2⟩
    cases k with
    | zero => omega
    | succ k =>
      have e2 : lnkAt lk (k + 1 - 1) = lk[k] := by simp [lnkAt, List.getD, show k < lk.length by omega]
      rw [e2] at q2
      have := (lnk_neg _ _).2 (List.pairwise_iff_getElem.1 H.1 k (k + 1) (by omega) hk (by omega))
      omega

end Go.Proofs.YtddageahmgaigaaGreat
