/-
  slices.swapRangeCmpFunc at routes.
-/
/-
  A stable sort: insertion keeps the order of equals.
-/
/-
  slices.rotateCmpFunc at routes.
-/
/-
  slices.symMergeCmpFunc at routes: one element on the left.
-/
/-
  slices.symMergeCmpFunc at routes: one element on the right.
-/
import Derived.Test.YtogdconliofblaaGreatSyd
import Derived.Test.YtogdconliofblaaGreatSrr
import Derived.Shelf.SlSortCmp.ReverseRangeK
import Derived.Sort.WalkB2
import Derived.Sort.WalkB12
import Derived.Deep.LoopGhost
import Derived.Shelf.SlSortCmp.PartitionK
namespace Go.Proofs.YtogdconliofblaaGreat
open Go.RowKit Go.Shelf Go.Lib Go.Sort

theorem put2_swp {β : Type} [Inhabited β] {d : Array β} {F : Nat → β} {i j : Nat} (hi : i < d.size) (hj : j < d.size) (h : (fun t => d[t]!) = F) : (fun t => (swp d i j)[t]!) = put2 F i j := by
  subst h
  funext t
  unfold put2
  by_cases e1 : t = i
  · subst e1
    rw [if_pos rfl]
    by_cases e3 : t = j
    · subst e3
      rw [swp_right d t t hj]
    · rw [swp_left d t j hi e3]
  · rw [if_neg e1]
    by_cases e2 : t = j
    · subst e2
      rw [if_pos rfl, swp_right d i t hj]
    · rw [if_neg e2, swp_other d i j t e1 e2]

set_option maxHeartbeats 4000000 in
set_option maxRecDepth 1000000 in
theorem swaprange_calls {β : Type} [Inhabited β] (k : Nat) (aE : ∀ w, (isAgg 57).run Tryz.prog w = .ok true w) (zE : ∀ w, (Go.sizeOf 57).run Tryz.prog w = .ok k w) (enc : β → List Value) (g : Nat) (cb : Array Value) (blk off cap a b n : Nat) (d0 d : Array β) (w0 w : World)
    (R : RowK enc k w0 blk off d0) (hs : d0.size = d.size) (S : SWK enc k w0 blk off d w) (hab : a + n ≤ b) (hb : b + n ≤ d.size) (hsz : d.size < 4611686018427387904) :
    Calls Tryz.prog 185 #[.slice (some ⟨blk, off, none⟩) d.size cap, .int .i64 a, .int .i64 b, .int .i64 n, .func (.func g) #[] cb] w fun e w' => e = .returned (.tuple #[]) ∧ ∃ d' : Array β, d'.size = d.size ∧ (fun t => d'[t]!) = swpF (fun t => d[t]!) a b n ∧ SWK enc k w0 blk off d' w' := by
  have S0 : Aside (SWK enc k w0 blk off d w) := S
  have F0 : Hid ((fun t => d[t]!) = swpF (fun t => d[t]!) a b 0) := Lib.hid (by rw [swpF_zero])
  have mixed : Tryz.prog.follows .mixedOrders = true := by kernel_rfl
  clear S
  go_enter Tryz.func185, Tryz.ntmps185
  go_wp2
  go_loopg [10] n (fun kx s10 wr => ∃ (i : Nat) (dk : Array β), s10 = .int .i64 i ∧ i ≤ n ∧ n - i ≤ kx ∧ dk.size = d.size ∧ Aside (SWK enc k w0 blk off dk wr) ∧ Hid ((fun t => dk[t]!) = swpF (fun t => d[t]!) a b i))
  case atStart => exact ⟨0, d, rfl, by omega, by omega, rfl, S0, F0⟩
  case round =>
    clear S0 F0
    obtain ⟨i, dk, rfl, hin, hkx, hds, S1, HF⟩ := hrel
    by_cases hlt : i < n
    · have hltz : (i : Int) < (n : Int) := by omega
      go_wp2_with fail
      have ea : ((a : Int) + (i : Int)).toNat = a + i := by omega
      have pa : (0 : Int) ≤ (a : Int) + (i : Int) := by omega
      have ba : (a : Int) + (i : Int) < (d.size : Int) := by omega
      have ra : IntKind.i64.wrap ((a : Int) + (i : Int)) = (a : Int) + (i : Int) := by rw [IntKind.wrap_i64]; omega
      have ec : ((b : Int) + (i : Int)).toNat = b + i := by omega
      have pc : (0 : Int) ≤ (b : Int) + (i : Int) := by omega
      have bc : (b : Int) + (i : Int) < (d.size : Int) := by omega
      have rc : IntKind.i64.wrap ((b : Int) + (i : Int)) = (b : Int) + (i : Int) := by rw [IntKind.wrap_i64]; omega
      have S2 : Aside (SWK enc k w0 blk off (swp dk (a + i) (b + i)) ((wr.drew.setCells blk (off + (a + i) * k) (enc dk[b + i]!)).setCells blk (off + (b + i) * k) (enc dk[a + i]!))) := S1.out.swapped R (a + i) (b + i) (by omega) (by omega)
      have l44a := S1.out.ld1 R (by omega) Tryz.prog (a + i) (by omega)
      have l44b := S1.out.ld1 R (by omega) Tryz.prog (b + i) (by omega)
      have s44a := S1.out.st1 R (by omega) Tryz.prog (a + i) (by omega) dk[b + i]!
      have s44b := S1.out.st2 R (by omega) Tryz.prog (a + i) (b + i) (by omega) (by omega) dk[b + i]! dk[a + i]!
      have n44a : (enc dk[a + i]!).length = k := R.hk _
      have n44b : (enc dk[b + i]!).length = k := R.hk _
      have NF : Hid ((fun t => (swp dk (a + i) (b + i))[t]!) = swpF (fun t => d[t]!) a b (i + 1)) := Lib.hid (by
        rw [swpF_succ _ (by omega)]
        exact put2_swp (by omega) (by omega) HF.out)
      generalize enc dk[a + i]! = cI44 at S2 l44a s44b n44a
      generalize enc dk[b + i]! = cJ44 at S2 l44b s44a s44b n44b
      clear S1 HF
      go_wp2_with fail
      go_big_region_o
      clear l44a l44b s44a s44b
      generalize (wr.drew.setCells blk (off + (a + i) * k) cJ44).setCells blk (off + (b + i) * k) cI44 = w2 at S2 ⊢
      go_wp2
      go_roundg (n - (i + 1))
      case measure => omega
      case rel => exact ⟨i + 1, swp dk (a + i) (b + i), by go_num, hlt, Nat.le_refl _, by rw [size_swp]; exact hds, S2, NF⟩
    · obtain rfl : i = n := by omega
      go_wp2
      go_end0
      exact ⟨rfl, dk, hds, HF.out, S1.out⟩

end Go.Proofs.YtogdconliofblaaGreat

namespace Go.Proofs.YtogdconliofblaaGreat
open Go.Sort

section
variable {β : Type} {lt : β → β → Bool} {τ : β → Nat}
/-- less, or equal and earlier -/
def StL (lt : β → β → Bool) (τ : β → Nat) (x y : β) : Prop := lt x y = true ∨ (lt y x = false ∧ τ x < τ y)
theorem StL.tr (S : SWO lt) : ∀ x y z, StL lt τ x y → StL lt τ y z → StL lt τ x z := by
  rintro x y z (h1 | ⟨h1, h2⟩) (h3 | ⟨h3, h4⟩)
  · exact .inl (S.trans _ _ _ h1 h3)
  · left
    cases e : lt x z with
    | true => rfl
    | false => rw [S.ntrans _ _ _ e h3] at h1; cases h1
  · left
    cases e : lt x z with
    | true => rfl
    | false => rw [S.ntrans _ _ _ h1 e] at h3; cases h3
  · exact .inr ⟨S.ntrans _ _ _ h3 h1, by omega⟩
theorem StL.yes {x y : β} (h : lt x y = true) : StL lt τ x y := .inl h
theorem StL.no {x y : β} (h : lt x y = false) (ht : τ y < τ x) : StL lt τ y x := .inr ⟨h, ht⟩
theorem StL.iff {x y : β} (ht : τ y < τ x) : StL lt τ x y ↔ lt x y = true := ⟨fun h => by rcases h with h | ⟨_, h⟩; exact h; omega, .inl⟩

variable [Inhabited β]
theorem ins_inner (S : SWO lt) {a i : Nat} (D : Array β) (hi : i < D.size) (hs : SrtF (StL lt τ) (fun t => D[t]!) a i) (ht : ∀ k, a ≤ k → k < i → τ D[k]! < τ D[i]!) :
    ∀ (j : Nat) (d : Array β), a ≤ j → j ≤ i → d.size = D.size → (fun t => d[t]!) = rotF (fun t => D[t]!) j i (i + 1) → (∀ k, j ≤ k → k < i → StL lt τ D[i]! D[k]!) →
      (insInner lt a j d).size = D.size ∧ SrtF (StL lt τ) (fun t => (insInner lt a j d)[t]!) a (i + 1) ∧ SameF (fun t => (insInner lt a j d)[t]!) (fun t => D[t]!) a (i + 1) := by
  intro j
  have stop : ∀ (j : Nat) (d : Array β), a ≤ j → j ≤ i → d.size = D.size → (fun t => d[t]!) = rotF (fun t => D[t]!) j i (i + 1) → (∀ k, j ≤ k → k < i → StL lt τ D[i]! D[k]!) → (∀ k, a ≤ k → k < j → StL lt τ D[k]! D[i]!) →
      d.size = D.size ∧ SrtF (StL lt τ) (fun t => d[t]!) a (i + 1) ∧ SameF (fun t => d[t]!) (fun t => D[t]!) a (i + 1) := by
    intro j d h1 h2 h3 h4 h5 h6
    refine ⟨h3, ?_⟩
    rw [h4]
    exact dn_srt (R := StL lt τ) (c := fun t => D[t]!) hs h1 h2 h6 h5
  induction j with
  | zero =>
    intro d h1 h2 h3 h4 h5
    rw [insInner_stop lt _ _ _ (.inl (by omega))]
    exact stop 0 d h1 h2 h3 h4 h5 (fun k _ hk => by omega)
  | succ j ih =>
    intro d h1 h2 h3 h4 h5
    have ex : d[j + 1]! = D[i]! := by
      have := congrFun h4 (j + 1)
      rw [this, rot2 _ (Nat.le_refl _) (by omega)]
      congr 1; omega
    have ep : d[j]! = D[j]! := by
      have := congrFun h4 j
      rw [this, rot1 _ (by omega)]
    by_cases ha : a < j + 1
    · cases hl : lt d[j + 1]! d[j]! with
      | true =>
        rw [insInner_go lt _ _ _ ha (by simpa using hl)]
        rw [Nat.add_sub_cancel]
        refine ih _ (by omega) (by omega) (by rw [size_swp]; exact h3) ?_ ?_
        · rw [put2_swp (by omega) (by omega) h4]
          exact dn_step _ h2
        · intro k hk1 hk2
          by_cases e : k = j
          · subst e
            rw [← ex, ← ep]; exact StL.yes hl
          · exact h5 k (by omega) hk2
      | false =>
        rw [insInner_stop lt _ _ _ (.inr (by simpa using hl))]
        refine stop (j + 1) d h1 h2 h3 h4 h5 (fun k hk1 hk2 => ?_)
        have hj : StL lt τ D[j]! D[i]! := StL.no (by rw [← ex, ← ep]; exact hl) (ht j (by omega) (by omega))
        by_cases e : k = j
        · subst e; exact hj
        · exact StL.tr S _ _ _ (hs k j hk1 (by omega) (by omega)) hj
    · rw [insInner_stop lt _ _ _ (.inl (by omega))]
      exact stop (j + 1) d h1 h2 h3 h4 h5 (fun k hk1 hk2 => by omega)

theorem ins_outer (S : SWO lt) {a b : Nat} (D : Array β) (hb : b ≤ D.size) (ht : ∀ k l, a ≤ k → k < l → l < b → τ D[k]! < τ D[l]!) :
    ∀ (n i : Nat) (d : Array β), b - i ≤ n → a ≤ i → i ≤ b → d.size = D.size → SrtF (StL lt τ) (fun t => d[t]!) a i → SameF (fun t => d[t]!) (fun t => D[t]!) a i →
      (insOuter lt a b i d).size = D.size ∧ SrtF (StL lt τ) (fun t => (insOuter lt a b i d)[t]!) a b ∧ SameF (fun t => (insOuter lt a b i d)[t]!) (fun t => D[t]!) a b := by
  intro n
  induction n with
  | zero =>
    intro i d h0 h1 h2 h3 h4 h5
    obtain rfl : i = b := by omega
    rw [insOuter_stop lt _ _ _ _ (by omega)]
    exact ⟨h3, h4, h5⟩
  | succ n ih =>
    intro i d h0 h1 h2 h3 h4 h5
    by_cases c : i < b
    · rw [insOuter_go lt _ _ _ _ c]
      obtain ⟨q1, q2, q3⟩ := ins_inner S (τ := τ) (a := a) (i := i) d (by omega) h4 (fun k hk1 hk2 => by
        obtain ⟨u, u1, u2, u3⟩ := h5.mem k hk1 hk2
        have e := h5.out i (.inr (Nat.le_refl _))
        rw [u3, e]
        exact ht u i u1 u2 c) i d h1 (Nat.le_refl _) rfl (dn_start _ _).symm (fun k _ _ => by omega)
      exact ih (i + 1) _ (by omega) (by omega) (by omega) (by omega) q2 (q3.trans (h5.wide (Nat.le_refl _) (by omega)))
    · obtain rfl : i = b := by omega
      rw [insOuter_stop lt _ _ _ _ c]
      exact ⟨h3, h4, h5⟩

theorem ins_stable (S : SWO lt) {a b : Nat} (D : Array β) (hab : a ≤ b) (hb : b ≤ D.size) (ht : ∀ k l, a ≤ k → k < l → l < b → τ D[k]! < τ D[l]!) :
    (insertionSort lt D a b).size = D.size ∧ SrtF (StL lt τ) (fun t => (insertionSort lt D a b)[t]!) a b ∧ SameF (fun t => (insertionSort lt D a b)[t]!) (fun t => D[t]!) a b := by
  unfold insertionSort
  by_cases c : a = b
  · subst c
    rw [insOuter_stop lt _ _ _ _ (by omega)]
    exact ⟨rfl, fun i j h1 h2 h3 => by omega, SameF.refl _ _ _⟩
  · exact ins_outer S (τ := τ) D hb ht (b - (a + 1)) (a + 1) D (Nat.le_refl _) (by omega) (by omega) rfl (fun i j h1 h2 h3 => by omega) (SameF.refl _ _ _)
end

end Go.Proofs.YtogdconliofblaaGreat

namespace Go.Proofs.YtogdconliofblaaGreat
open Go.RowKit Go.Shelf Go.Lib Go.Sort

set_option maxHeartbeats 4000000 in
set_option maxRecDepth 1000000 in
theorem rotate_calls {β : Type} [Inhabited β] (k : Nat) (aE : ∀ w, (isAgg 57).run Tryz.prog w = .ok true w) (zE : ∀ w, (Go.sizeOf 57).run Tryz.prog w = .ok k w) (enc : β → List Value) (g : Nat) (cb : Array Value) (blk off cap a m b : Nat) (d0 d : Array β) (w0 w : World)
    (R : RowK enc k w0 blk off d0) (hs : d0.size = d.size) (S : SWK enc k w0 blk off d w) (ham : a < m) (hmb : m < b) (hb : b ≤ d.size) (hsz : d.size < 4611686018427387904) :
    Calls Tryz.prog 156 #[.slice (some ⟨blk, off, none⟩) d.size cap, .int .i64 a, .int .i64 m, .int .i64 b, .func (.func g) #[] cb] w fun e w' => e = .returned (.tuple #[]) ∧ ∃ d' : Array β, d'.size = d.size ∧ (fun t => d'[t]!) = rotF (fun t => d[t]!) a m b ∧ SWK enc k w0 blk off d' w' := by
  have S0 : Aside (SWK enc k w0 blk off d w) := S
  have SC := Lib.hid (fun (dk : Array β) (h : dk.size = d.size) (x y n : Nat) (W : World) (S : SWK enc k w0 blk off dk W) (h1 : x + n ≤ y) (h2 : y + n ≤ d.size) => (by
    have := swaprange_calls k aE zE enc g cb blk off cap x y n d0 dk w0 W R (by omega) S h1 (by omega) (by omega)
    rw [h] at this; exact this :
    Calls Tryz.prog 185 #[.slice (some ⟨blk, off, none⟩) d.size cap, .int .i64 x, .int .i64 y, .int .i64 n, .func (.func g) #[] cb] W fun e w' => e = .returned (.tuple #[]) ∧ ∃ d' : Array β, d'.size = d.size ∧ (fun t => d'[t]!) = swpF (fun t => dk[t]!) x y n ∧ SWK enc k w0 blk off d' w'))
  have e1 : ((m : Int) - (a : Int)) = ((m - a : Nat) : Int) := by omega
  have e2 : ((b : Int) - (m : Int)) = ((b - m : Nat) : Int) := by omega
  have r1 : IntKind.i64.wrap ((m : Int) - (a : Int)) = ((m - a : Nat) : Int) := by rw [IntKind.wrap_i64]; omega
  have r2 : IntKind.i64.wrap ((b : Int) - (m : Int)) = ((b - m : Nat) : Int) := by rw [IntKind.wrap_i64]; omega
  have F0 : Hid (rotF (fun t => d[t]!) (m - (m - a)) m (m + (b - m)) = rotF (fun t => d[t]!) a m b) := Lib.hid (by
    rw [show m - (m - a) = a by omega, show m + (b - m) = b by omega])
  clear S
  go_enter Tryz.func156, Tryz.ntmps156
  go_wp2
  go_loopg [10, 11] (b - a) (fun kx s10 s11 wr => ∃ (i j : Nat) (dk : Array β), s10 = .int .i64 i ∧ s11 = .int .i64 j ∧ 0 < i ∧ 0 < j ∧ i ≤ m - a ∧ j ≤ b - m ∧ i + j ≤ kx ∧ dk.size = d.size ∧ Aside (SWK enc k w0 blk off dk wr) ∧ Hid (rotF (fun t => dk[t]!) (m - i) m (m + j) = rotF (fun t => d[t]!) a m b))
  case atStart => exact ⟨m - a, b - m, d, by go_num, by go_num, by omega, by omega, by omega, by omega, by omega, rfl, S0, F0⟩
  case round =>
    clear S0 F0 e1 e2 r1 r2
    obtain ⟨i, j, dk, rfl, rfl, hi0, hj0, hi, hj, hkx, hds, S1, HF⟩ := hrel
    have e3 : ((m : Int) - (i : Int)) = ((m - i : Nat) : Int) := by omega
    have r3 : IntKind.i64.wrap ((m : Int) - (i : Int)) = ((m - i : Nat) : Int) := by rw [IntKind.wrap_i64]; omega
    by_cases hne : i = j
    · subst hne
      have q : ((i : Int) != (i : Int)) = false := by simp
      have C1 := Lib.hid (SC.out dk hds (m - i) m i wr S1.out (by omega) (by omega))
      have FE : Hid (swpF (fun t => dk[t]!) (m - i) m i = rotF (fun t => d[t]!) a m b) := Lib.hid ((rotF_eq _ (by omega)).trans HF.out)
      clear S1 HF SC
      go_wp2_with fail
      refine C1.out.mono ?_
      rintro e w' ⟨rfl, d', hd', hf', S2⟩
      have FIN := Lib.hid (And.intro hd' (And.intro (hf'.trans FE.out) S2))
      clear hd' hf' S2
      go_wp2_with fail
      go_end0
      exact ⟨rfl, d', FIN.out⟩
    · have q : ((i : Int) != (j : Int)) = true := by simp; omega
      by_cases hgt : j < i
      · have hgz : (j : Int) < (i : Int) := by omega
        have C1 := Lib.hid (SC.out dk hds (m - i) m j wr S1.out (by omega) (by omega))
        clear S1
        go_wp2_with fail
        refine C1.out.mono ?_
        rintro e w' ⟨rfl, d', hd', hf', S2⟩
        have NF : Hid (rotF (fun t => d'[t]!) (m - (i - j)) m (m + j) = rotF (fun t => d[t]!) a m b) := Lib.hid (by
          rw [hf', show m - (i - j) = m - i + j by omega, rotF_gt _ (by omega) hgt]; exact HF.out)
        have S3 : Aside (SWK enc k w0 blk off d' w') := S2
        have r4 : IntKind.i64.wrap ((i : Int) - (j : Int)) = ((i - j : Nat) : Int) := by rw [IntKind.wrap_i64]; omega
        have e4 : ((i : Int) - (j : Int)) = ((i - j : Nat) : Int) := by omega
        clear hf' S2 HF C1
        go_wp2_with fail
        go_roundg (i - j + j)
        case measure => omega
        case rel => exact ⟨i - j, j, d', by go_num, rfl, by omega, hj0, by omega, hj, by omega, hd', S3, NF⟩
      · have hgz : ¬ (j : Int) < (i : Int) := by omega
        have C1 := Lib.hid (SC.out dk hds (m - i) (m + j - i) i wr S1.out (by omega) (by omega))
        have e5 : ((m : Int) + (j : Int) - (i : Int)) = ((m + j - i : Nat) : Int) := by omega
        clear S1
        go_wp2_with fail
        refine C1.out.mono ?_
        rintro e w' ⟨rfl, d', hd', hf', S2⟩
        have NF : Hid (rotF (fun t => d'[t]!) (m - i) m (m + (j - i)) = rotF (fun t => d[t]!) a m b) := Lib.hid (by
          rw [hf', rotF_lt _ (by omega) (by omega)]; exact HF.out)
        have S3 : Aside (SWK enc k w0 blk off d' w') := S2
        have r4 : IntKind.i64.wrap ((j : Int) - (i : Int)) = ((j - i : Nat) : Int) := by rw [IntKind.wrap_i64]; omega
        clear hf' S2 HF C1
        go_wp2_with fail
        go_roundg (i + (j - i))
        case measure => omega
        case rel => exact ⟨i, j - i, d', rfl, by go_num, hi0, by omega, hi, by omega, by omega, hd', S3, NF⟩

end Go.Proofs.YtogdconliofblaaGreat

namespace Go.Proofs.YtogdconliofblaaGreat
open Go.RowKit Go.Shelf Go.Lib Go.Sort

def SymPost {β : Type} [Inhabited β] (enc : β → List Value) (k : Nat) (cf : β → β → Int) (τ : β → Nat) (w0 : World) (blk off : Nat) (d : Array β) (a b : Nat) (e : Ending) (w' : World) : Prop :=
  e = .returned (.tuple #[]) ∧ ∃ d' : Array β, d'.size = d.size ∧ SrtF (StL (ltOf cf) τ) (fun t => d'[t]!) a b ∧ SameF (fun t => d'[t]!) (fun t => d[t]!) a b ∧ SWK enc k w0 blk off d' w'

set_option maxHeartbeats 4000000 in
set_option maxRecDepth 1000000 in
theorem sym_left {β : Type} [Inhabited β] (k : Nat) (aE : ∀ w, (isAgg 57).run Tryz.prog w = .ok true w) (zE : ∀ w, (Go.sizeOf 57).run Tryz.prog w = .ok k w) (enc : β → List Value) (cf : β → β → Int) (SW : SWO (ltOf cf)) (τ : β → Nat) (g : Nat) (cb : Array Value)
    (eg : ∀ args w, (callFunc g args).run Tryz.prog w = .ok (.enter g args) w) (blk off cap a m b : Nat) (hm : m = a + 1) (d0 d : Array β) (w0 w : World) (hC : CmpLays Tryz.prog g cb enc k cf blk off d0.size w0)
    (R : RowK enc k w0 blk off d0) (hs : d0.size = d.size) (S : SWK enc k w0 blk off d w) (hmb : a + 1 < b) (hb : b ≤ d.size) (hsz : d.size < 4611686018427387904)
    (hr : SrtF (StL (ltOf cf) τ) (fun t => d[t]!) (a + 1) b) (ht : ∀ j, a + 1 ≤ j → j < b → τ d[a]! < τ d[j]!) :
    Calls Tryz.prog 135 #[.slice (some ⟨blk, off, none⟩) d.size cap, .int .i64 a, .int .i64 m, .int .i64 b, .func (.func g) #[] cb] w (SymPost enc k cf τ w0 blk off d a b) := by
  have S0 : Aside (SWK enc k w0 blk off d w) := S
  have HC : Aside _ := hC
  have HR := Lib.hid hr
  have HT := Lib.hid ht
  have mixed : Tryz.prog.follows .mixedOrders = true := by kernel_rfl
  have r1 : IntKind.i64.wrap ((m : Int) - (a : Int)) = 1 := by rw [IntKind.wrap_i64]; omega
  have hm1 : a < m := by omega
  have hm2 : m < a + 2 := by omega
  clear hm
  clear S hC hr ht
  go_enter Tryz.func135, Tryz.ntmps135
  go_wp2
  go_loopg [10, 11] b (fun kx s10 s11 wr => ∃ (i j : Nat), s10 = .int .i64 i ∧ s11 = .int .i64 j ∧ a + 1 ≤ i ∧ i ≤ j ∧ j ≤ b ∧ j - i ≤ kx ∧ Aside (SWK enc k w0 blk off d wr) ∧ Hid ((∀ k, a + 1 ≤ k → k < i → StL (ltOf cf) τ d[k]! d[a]!) ∧ (∀ k, j ≤ k → k < b → StL (ltOf cf) τ d[a]! d[k]!)))
  case atStart => exact ⟨m, b, rfl, rfl, by omega, by omega, Nat.le_refl _, by omega, S0, Lib.hid ⟨fun k _ _ => by omega, fun k _ _ => by omega⟩⟩
  case round =>
    clear S0
    obtain ⟨i, j, rfl, rfl, hai, hij, hjb, hkx, S1, HK⟩ := hrel
    by_cases hlt : i < j
    · have hltz : (i : Int) < (j : Int) := by omega
      obtain ⟨h, hh, hih, hhj⟩ : ∃ h : Nat, ((i : Int) + (j : Int)) / 2 = (h : Int) ∧ i ≤ h ∧ h < j := ⟨(i + j) / 2, by omega, by omega, by omega⟩
      go_wp2_with fail
      have ea : ((h : Int)).toNat = h := by omega
      have pa : (0 : Int) ≤ (h : Int) := by omega
      have ba : (h : Int) < (d.size : Int) := by omega
      have ra : IntKind.i64.wrap ((h : Int)) = (h : Int) := by rw [IntKind.wrap_i64]; omega
      have ec : ((a : Int)).toNat = a := by omega
      have pc : (0 : Int) ≤ (a : Int) := by omega
      have bc : (a : Int) < (d.size : Int) := by omega
      have rc : IntKind.i64.wrap ((a : Int)) = (a : Int) := by rw [IntKind.wrap_i64]; omega
      have UP : Hid (ltOf cf d[h]! d[a]! = true → ∀ k, a + 1 ≤ k → k < h + 1 → StL (ltOf cf) τ d[k]! d[a]!) := Lib.hid (fun hl k hk1 hk2 => by
        by_cases e : k = h
        · subst e; exact StL.yes hl
        · exact StL.tr SW _ _ _ (HR.out k h hk1 (by omega) (by omega)) (StL.yes hl))
      have DN : Hid (ltOf cf d[h]! d[a]! = false → ∀ k, h ≤ k → k < b → StL (ltOf cf) τ d[a]! d[k]!) := Lib.hid (fun hl k hk1 hk2 => by
        have q := StL.no (τ := τ) hl (HT.out h (by omega) (by omega))
        by_cases e : k = h
        · subst e; exact q
        · exact StL.tr SW _ _ _ q (HR.out h k (by omega) (by omega) hk2))
      obtain ⟨x90, hx90⟩ : ∃ x, x = d[h]! := ⟨_, rfl⟩
      obtain ⟨y90, hy90⟩ : ∃ x, x = d[a]! := ⟨_, rfl⟩
      have l90a := S1.out.ld R (by omega) Tryz.prog h (by omega)
      have l90b := S1.out.ld R (by omega) Tryz.prog a (by omega)
      rw [← hx90] at l90a
      rw [← hy90] at l90b
      have hc90 := S1.out.cmp HC.out (by omega) x90 y90
      cases hlv : (ltOf cf) d[h]! d[a]! with
      | true =>
        have NK : Hid ((∀ k, a + 1 ≤ k → k < h + 1 → StL (ltOf cf) τ d[k]! d[a]!) ∧ (∀ k, j ≤ k → k < b → StL (ltOf cf) τ d[a]! d[k]!)) := Lib.hid ⟨UP.out hlv, HK.out.2⟩
        have hv90 : cf x90 y90 < 0 := by rw [hx90, hy90]; exact of_decide_eq_true hlv
        have hd90 : decide (cf x90 y90 < 0) = true := decide_eq_true hv90
        clear hx90 hy90 UP DN HK
        go_quiet_grown (first | (go_at_fn g; refine Calls.grown_of (hc90 _ _)))
        have S2 : Aside (SWK enc k w0 blk off d (grow (wr.drewN nq) osq)) := S1.out.grown nq osq
        clear l90a l90b hc90 S1
        generalize grow (wr.drewN nq) osq = w2 at S2 ⊢
        clear nq osq
        go_wp2
        go_roundg (j - (h + 1))
        case measure => omega
        case rel => exact ⟨h + 1, j, by go_num, rfl, by omega, by omega, hjb, by omega, S2, NK⟩
      | false =>
        have NK : Hid ((∀ k, a + 1 ≤ k → k < i → StL (ltOf cf) τ d[k]! d[a]!) ∧ (∀ k, h ≤ k → k < b → StL (ltOf cf) τ d[a]! d[k]!)) := Lib.hid ⟨HK.out.1, DN.out hlv⟩
        have hv90 : ¬ cf x90 y90 < 0 := by rw [hx90, hy90]; exact of_decide_eq_false hlv
        have hd90 : decide (cf x90 y90 < 0) = false := decide_eq_false hv90
        clear hx90 hy90 UP DN HK
        go_quiet_grown (first | (go_at_fn g; refine Calls.grown_of (hc90 _ _)))
        have S2 : Aside (SWK enc k w0 blk off d (grow (wr.drewN nq) osq)) := S1.out.grown nq osq
        clear l90a l90b hc90 S1
        generalize grow (wr.drewN nq) osq = w2 at S2 ⊢
        clear nq osq
        go_wp2
        go_roundg (h - i)
        case measure => omega
        case rel => exact ⟨i, h, rfl, rfl, hai, hih, by omega, by omega, S2, NK⟩
    · obtain rfl : i = j := by omega
      have FIN := Lib.hid (up_srt (R := StL (ltOf cf) τ) (c := fun t => d[t]!) HR.out hai hjb HK.out.1 HK.out.2)
      have F1 : Hid ((fun t => d[t]!) = rotF (fun t => d[t]!) a (a + 1) (a + 1)) := Lib.hid (up_start _ _).symm
      have ri : IntKind.i64.wrap ((i : Int) - 1) = (i : Int) - 1 := by rw [IntKind.wrap_i64]; omega
      clear HK HR HT
      go_wp2_with fail
      go_loopg [13] i (fun kx s13 wr2 => ∃ (x : Nat) (dk : Array β), s13 = .int .i64 x ∧ a ≤ x ∧ x + 1 ≤ i ∧ i - x ≤ kx + 1 ∧ dk.size = d.size ∧ Aside (SWK enc k w0 blk off dk wr2) ∧ Hid ((fun t => dk[t]!) = rotF (fun t => d[t]!) a (a + 1) (x + 1)))
      case atStart => exact ⟨a, d, rfl, Nat.le_refl _, hai, by omega, rfl, S1, F1⟩
      case round =>
        clear S1 F1
        obtain ⟨x, dk, rfl, hax, hxi, hkx2, hds, S2, HF⟩ := hrel
        by_cases hx : x + 1 < i
        · have hxz : (x : Int) < (i : Int) - 1 := by omega
          go_wp2_with fail
          have ea : ((x : Int)).toNat = x := by omega
          have pa : (0 : Int) ≤ (x : Int) := by omega
          have ba : (x : Int) < (d.size : Int) := by omega
          have ra : IntKind.i64.wrap ((x : Int)) = (x : Int) := by rw [IntKind.wrap_i64]; omega
          have ec : ((x : Int) + 1).toNat = x + 1 := by omega
          have pc : (0 : Int) ≤ (x : Int) + 1 := by omega
          have bc : (x : Int) + 1 < (d.size : Int) := by omega
          have rc : IntKind.i64.wrap ((x : Int) + 1) = (x : Int) + 1 := by rw [IntKind.wrap_i64]; omega
          have S3 : Aside (SWK enc k w0 blk off (swp dk x (x + 1)) ((wr.drew.setCells blk (off + x * k) (enc dk[x + 1]!)).setCells blk (off + (x + 1) * k) (enc dk[x]!))) := S2.out.swapped R x (x + 1) (by omega) (by omega)
          have l44a := S2.out.ld1 R (by omega) Tryz.prog x (by omega)
          have l44b := S2.out.ld1 R (by omega) Tryz.prog (x + 1) (by omega)
          have s44a := S2.out.st1 R (by omega) Tryz.prog x (by omega) dk[x + 1]!
          have s44b := S2.out.st2 R (by omega) Tryz.prog x (x + 1) (by omega) (by omega) dk[x + 1]! dk[x]!
          have n44a : (enc dk[x]!).length = k := R.hk _
          have n44b : (enc dk[x + 1]!).length = k := R.hk _
          have NF : Hid ((fun t => (swp dk x (x + 1))[t]!) = rotF (fun t => d[t]!) a (a + 1) (x + 1 + 1)) := Lib.hid (by
            rw [put2_swp (by omega) (by omega) HF.out]; exact up_step _ hax)
          generalize enc dk[x]! = cI44 at S3 l44a s44b n44a
          generalize enc dk[x + 1]! = cJ44 at S3 l44b s44a s44b n44b
          clear S2 HF
          go_big_region_o
          clear l44a l44b s44a s44b
          generalize (wr.drew.setCells blk (off + x * k) cJ44).setCells blk (off + (x + 1) * k) cI44 = w2 at S3 ⊢
          go_wp2
          go_roundg (i - (x + 1) - 1)
          case measure => omega
          case rel => exact ⟨x + 1, swp dk x (x + 1), by go_num, by omega, by omega, by omega, by rw [size_swp]; exact hds, S3, NF⟩
        · have hxz : ¬ (x : Int) < (i : Int) - 1 := by omega
          have e9 : x + 1 = i := by omega
          have PO : Hid (SymPost enc k cf τ w0 blk off d a b (.returned (.tuple #[])) wr) := Lib.hid (by
            have h1 := HF.out
            rw [e9] at h1
            refine ⟨rfl, dk, hds, ?_, ?_, S2.out⟩
            · rw [h1]; exact FIN.out.1
            · rw [h1]; exact FIN.out.2)
          clear S2 HF
          go_wp2
          refine bodyPost_ret (results_none rfl _ _ _) rfl ?_
          exact PO.out

end Go.Proofs.YtogdconliofblaaGreat

namespace Go.Proofs.YtogdconliofblaaGreat
open Go.RowKit Go.Shelf Go.Lib Go.Sort

set_option maxHeartbeats 4000000 in
set_option maxRecDepth 1000000 in
theorem sym_right {β : Type} [Inhabited β] (k : Nat) (aE : ∀ w, (isAgg 57).run Tryz.prog w = .ok true w) (zE : ∀ w, (Go.sizeOf 57).run Tryz.prog w = .ok k w) (enc : β → List Value) (cf : β → β → Int) (SW : SWO (ltOf cf)) (τ : β → Nat) (g : Nat) (cb : Array Value)
    (eg : ∀ args w, (callFunc g args).run Tryz.prog w = .ok (.enter g args) w) (blk off cap a m b : Nat) (hm : b = m + 1) (d0 d : Array β) (w0 w : World) (hC : CmpLays Tryz.prog g cb enc k cf blk off d0.size w0)
    (R : RowK enc k w0 blk off d0) (hs : d0.size = d.size) (S : SWK enc k w0 blk off d w) (ham : a + 1 < m) (hb : b ≤ d.size) (hsz : d.size < 4611686018427387904)
    (hr : SrtF (StL (ltOf cf) τ) (fun t => d[t]!) a m) (ht : ∀ j, a ≤ j → j < m → τ d[j]! < τ d[m]!) :
    Calls Tryz.prog 135 #[.slice (some ⟨blk, off, none⟩) d.size cap, .int .i64 a, .int .i64 m, .int .i64 b, .func (.func g) #[] cb] w (SymPost enc k cf τ w0 blk off d a b) := by
  have S0 : Aside (SWK enc k w0 blk off d w) := S
  have HC : Aside _ := hC
  have HR := Lib.hid hr
  have HT := Lib.hid ht
  have mixed : Tryz.prog.follows .mixedOrders = true := by kernel_rfl
  have r1 : IntKind.i64.wrap ((m : Int) - (a : Int)) = (m : Int) - (a : Int) := by rw [IntKind.wrap_i64]; omega
  have q1 : ((m : Int) - (a : Int) == 1) = false := beq_eq_false_iff_ne.2 (by omega)
  have r2 : IntKind.i64.wrap ((b : Int) - (m : Int)) = 1 := by rw [IntKind.wrap_i64]; omega
  have HB := Lib.hid hm
  have hm1 : m < b := by omega
  have hm2 : b < m + 2 := by omega
  clear hm
  clear S hC hr ht
  go_enter Tryz.func135, Tryz.ntmps135
  go_wp2
  go_loopg [14, 15] b (fun kx s14 s15 wr => ∃ (i j : Nat), s14 = .int .i64 i ∧ s15 = .int .i64 j ∧ a ≤ i ∧ i ≤ j ∧ j ≤ m ∧ j - i ≤ kx ∧ Aside (SWK enc k w0 blk off d wr) ∧ Hid ((∀ k, a ≤ k → k < i → StL (ltOf cf) τ d[k]! d[m]!) ∧ (∀ k, j ≤ k → k < m → StL (ltOf cf) τ d[m]! d[k]!)))
  case atStart => exact ⟨a, m, rfl, rfl, by omega, by omega, Nat.le_refl _, by omega, S0, Lib.hid ⟨fun k _ _ => by omega, fun k _ _ => by omega⟩⟩
  case round =>
    clear S0
    obtain ⟨i, j, rfl, rfl, hai, hij, hjb, hkx, S1, HK⟩ := hrel
    by_cases hlt : i < j
    · have hltz : (i : Int) < (j : Int) := by omega
      obtain ⟨h, hh, hih, hhj⟩ : ∃ h : Nat, ((i : Int) + (j : Int)) / 2 = (h : Int) ∧ i ≤ h ∧ h < j := ⟨(i + j) / 2, by omega, by omega, by omega⟩
      go_wp2_with fail
      have ea : ((m : Int)).toNat = m := by omega
      have pa : (0 : Int) ≤ (m : Int) := by omega
      have ba : (m : Int) < (d.size : Int) := by omega
      have ra : IntKind.i64.wrap ((m : Int)) = (m : Int) := by rw [IntKind.wrap_i64]; omega
      have ec : ((h : Int)).toNat = h := by omega
      have pc : (0 : Int) ≤ (h : Int) := by omega
      have bc : (h : Int) < (d.size : Int) := by omega
      have rc : IntKind.i64.wrap ((h : Int)) = (h : Int) := by rw [IntKind.wrap_i64]; omega
      have DN : Hid (ltOf cf d[m]! d[h]! = true → ∀ k, h ≤ k → k < m → StL (ltOf cf) τ d[m]! d[k]!) := Lib.hid (fun hl k hk1 hk2 => by
        by_cases e : k = h
        · subst e; exact StL.yes hl
        · exact StL.tr SW _ _ _ (StL.yes hl) (HR.out h k (by omega) (by omega) hk2))
      have UP : Hid (ltOf cf d[m]! d[h]! = false → ∀ k, a ≤ k → k < h + 1 → StL (ltOf cf) τ d[k]! d[m]!) := Lib.hid (fun hl k hk1 hk2 => by
        have q := StL.no (τ := τ) hl (HT.out h (by omega) (by omega))
        by_cases e : k = h
        · subst e; exact q
        · exact StL.tr SW _ _ _ (HR.out k h hk1 (by omega) (by omega)) q)
      obtain ⟨x90, hx90⟩ : ∃ x, x = d[m]! := ⟨_, rfl⟩
      obtain ⟨y90, hy90⟩ : ∃ x, x = d[h]! := ⟨_, rfl⟩
      have l90a := S1.out.ld R (by omega) Tryz.prog m (by omega)
      have l90b := S1.out.ld R (by omega) Tryz.prog h (by omega)
      rw [← hx90] at l90a
      rw [← hy90] at l90b
      have hc90 := S1.out.cmp HC.out (by omega) x90 y90
      cases hlv : (ltOf cf) d[m]! d[h]! with
      | false =>
        have NK : Hid ((∀ k, a ≤ k → k < h + 1 → StL (ltOf cf) τ d[k]! d[m]!) ∧ (∀ k, j ≤ k → k < m → StL (ltOf cf) τ d[m]! d[k]!)) := Lib.hid ⟨UP.out hlv, HK.out.2⟩
        have hv90 : ¬ cf x90 y90 < 0 := by rw [hx90, hy90]; exact of_decide_eq_false hlv
        have hd90 : decide (cf x90 y90 < 0) = false := decide_eq_false hv90
        clear hx90 hy90 UP DN HK
        go_quiet_grown (first | (go_at_fn g; refine Calls.grown_of (hc90 _ _)))
        have S2 : Aside (SWK enc k w0 blk off d (grow (wr.drewN nq) osq)) := S1.out.grown nq osq
        clear l90a l90b hc90 S1
        generalize grow (wr.drewN nq) osq = w2 at S2 ⊢
        clear nq osq
        go_wp2
        go_roundg (j - (h + 1))
        case measure => omega
        case rel => exact ⟨h + 1, j, by go_num, rfl, by omega, by omega, hjb, by omega, S2, NK⟩
      | true =>
        have NK : Hid ((∀ k, a ≤ k → k < i → StL (ltOf cf) τ d[k]! d[m]!) ∧ (∀ k, h ≤ k → k < m → StL (ltOf cf) τ d[m]! d[k]!)) := Lib.hid ⟨HK.out.1, DN.out hlv⟩
        have hv90 : cf x90 y90 < 0 := by rw [hx90, hy90]; exact of_decide_eq_true hlv
        have hd90 : decide (cf x90 y90 < 0) = true := decide_eq_true hv90
        clear hx90 hy90 UP DN HK
        go_quiet_grown (first | (go_at_fn g; refine Calls.grown_of (hc90 _ _)))
        have S2 : Aside (SWK enc k w0 blk off d (grow (wr.drewN nq) osq)) := S1.out.grown nq osq
        clear l90a l90b hc90 S1
        generalize grow (wr.drewN nq) osq = w2 at S2 ⊢
        clear nq osq
        go_wp2
        go_roundg (h - i)
        case measure => omega
        case rel => exact ⟨i, h, rfl, rfl, hai, hih, by omega, by omega, S2, NK⟩
    · obtain rfl : i = j := by omega
      have FIN := Lib.hid (dn_srt (R := StL (ltOf cf) τ) (c := fun t => d[t]!) HR.out hai hjb HK.out.1 HK.out.2)
      have F1 : Hid ((fun t => d[t]!) = rotF (fun t => d[t]!) m m (m + 1)) := Lib.hid (dn_start _ _).symm
      clear HK HR HT
      go_wp2_with fail
      go_loopg [17] m (fun kx s17 wr2 => ∃ (x : Nat) (dk : Array β), s17 = .int .i64 x ∧ i ≤ x ∧ x ≤ m ∧ x ≤ kx ∧ dk.size = d.size ∧ Aside (SWK enc k w0 blk off dk wr2) ∧ Hid ((fun t => dk[t]!) = rotF (fun t => d[t]!) x m (m + 1)))
      case atStart => exact ⟨m, d, rfl, hjb, Nat.le_refl _, Nat.le_refl _, rfl, S1, F1⟩
      case round =>
        clear S1 F1
        obtain ⟨x, dk, rfl, hix, hxm, hkx2, hds, S2, HF⟩ := hrel
        by_cases hx : i < x
        · obtain ⟨y, rfl⟩ : ∃ y, x = y + 1 := ⟨x - 1, by omega⟩
          have hxz : (i : Int) < (y : Int) + 1 := by omega
          have ry : IntKind.i64.wrap ((y : Int)) = (y : Int) := by rw [IntKind.wrap_i64]; omega
          go_wp2_with fail
          have ea : ((y : Int) + 1).toNat = y + 1 := by omega
          have pa : (0 : Int) ≤ (y : Int) + 1 := by omega
          have ba : (y : Int) + 1 < (d.size : Int) := by omega
          have ra : IntKind.i64.wrap ((y : Int) + 1) = (y : Int) + 1 := by rw [IntKind.wrap_i64]; omega
          have ec : ((y : Int)).toNat = y := by omega
          have pc : (0 : Int) ≤ (y : Int) := by omega
          have bc : (y : Int) < (d.size : Int) := by omega
          have S3 : Aside (SWK enc k w0 blk off (swp dk (y + 1) y) ((wr.drew.setCells blk (off + (y + 1) * k) (enc dk[y]!)).setCells blk (off + y * k) (enc dk[y + 1]!))) := S2.out.swapped R (y + 1) y (by omega) (by omega)
          have l44a := S2.out.ld1 R (by omega) Tryz.prog (y + 1) (by omega)
          have l44b := S2.out.ld1 R (by omega) Tryz.prog y (by omega)
          have s44a := S2.out.st1 R (by omega) Tryz.prog (y + 1) (by omega) dk[y]!
          have s44b := S2.out.st2 R (by omega) Tryz.prog (y + 1) y (by omega) (by omega) dk[y]! dk[y + 1]!
          have n44a : (enc dk[y + 1]!).length = k := R.hk _
          have n44b : (enc dk[y]!).length = k := R.hk _
          have NF : Hid ((fun t => (swp dk (y + 1) y)[t]!) = rotF (fun t => d[t]!) y m (m + 1)) := Lib.hid (by
            rw [put2_swp (by omega) (by omega) HF.out]; exact dn_step _ hxm)
          generalize enc dk[y + 1]! = cI44 at S3 l44a s44b n44a
          generalize enc dk[y]! = cJ44 at S3 l44b s44a s44b n44b
          clear S2 HF
          go_big_region_o
          clear l44a l44b s44a s44b
          generalize (wr.drew.setCells blk (off + (y + 1) * k) cJ44).setCells blk (off + y * k) cI44 = w2 at S3 ⊢
          go_wp2
          go_roundg y
          case measure => omega
          case rel => exact ⟨y, swp dk (y + 1) y, by go_num, by omega, by omega, Nat.le_refl _, by rw [size_swp]; exact hds, S3, NF⟩
        · have hxz : ¬ (i : Int) < (x : Int) := by omega
          have PO : Hid (SymPost enc k cf τ w0 blk off d a b (.returned (.tuple #[])) wr) := Lib.hid (by
            have h1 := HF.out
            rw [show x = i by omega] at h1
            rw [HB.out]
            refine ⟨rfl, dk, hds, ?_, ?_, S2.out⟩
            · rw [h1]; exact FIN.out.1
            · rw [h1]; exact FIN.out.2)
          clear S2 HF
          go_wp2
          refine bodyPost_ret (results_none rfl _ _ _) rfl ?_
          exact PO.out

end Go.Proofs.YtogdconliofblaaGreat
