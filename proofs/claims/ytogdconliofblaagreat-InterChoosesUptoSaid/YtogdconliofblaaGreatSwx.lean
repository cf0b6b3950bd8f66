/-
  slices.symMergeCmpFunc at routes, whole; slices.stableCmpFunc at routes.
-/
import Derived.Test.YtogdconliofblaaGreatSww
import Derived.Test.YtogdconliofblaaGreatSyg
import Derived.Test.YtogdconliofblaaGreatMrg
import Derived.Shelf.SlSortCmp.WholeK
namespace Go.Proofs.YtogdconliofblaaGreat
open Go.RowKit Go.Shelf Go.Lib Go.Sort

theorem sym_calls {β : Type} [Inhabited β] (k : Nat) (aE : ∀ w, (isAgg 57).run Tryz.prog w = .ok true w) (zE : ∀ w, (Go.sizeOf 57).run Tryz.prog w = .ok k w) (enc : β → List Value) (cf : β → β → Int) (SW : SWO (ltOf cf)) (τ : β → Nat) (g : Nat) (cb : Array Value)
    (eg : ∀ args w, (callFunc g args).run Tryz.prog w = .ok (.enter g args) w) (blk off cap : Nat) (d0 : Array β) (w0 : World) (hC : CmpLays Tryz.prog g cb enc k cf blk off d0.size w0)
    (R : RowK enc k w0 blk off d0) (hsz : d0.size < 4611686018427387904) : ∀ len, SymIH enc k cf τ g cb w0 blk off cap d0.size len := by
  intro len
  induction len with
  | zero => intro a m b d w h1 h2; omega
  | succ len ih =>
    intro a m b d w hd hl ham hmb hb S hr1 hr2 ht
    have ih2 : SymIH enc k cf τ g cb w0 blk off cap d.size (b - a) := by
      rw [hd]
      intro a' m' b' d' w' h1 h2 h3 h4 h5 h6 h7 h8 h9
      exact ih a' m' b' d' w' h1 (by omega) h3 h4 h5 h6 h7 h8 h9
    rw [← hd]
    by_cases c1 : m = a + 1
    · subst c1
      exact sym_left k aE zE enc cf SW τ g cb eg blk off cap a (a + 1) b rfl d0 d w0 w hC R hd.symm S (by omega) (by omega) (by omega) hr2 (fun j h1 h2 => ht a j (Nat.le_refl _) (by omega) h1 h2)
    · by_cases c2 : b = m + 1
      · subst c2
        exact sym_right k aE zE enc cf SW τ g cb eg blk off cap a m (m + 1) rfl d0 d w0 w hC R hd.symm S (by omega) (by omega) (by omega) hr1 (fun j h1 h2 => ht j m h1 h2 (Nat.le_refl _) (by omega))
      · exact sym_gen k aE zE enc cf SW τ g cb eg blk off cap a m b d0 d w0 w hC R hd.symm S (by omega) (by omega) (by omega) (by omega) hr1 hr2 ht ih2

theorem insr_calls {β : Type} [Inhabited β] (enc : β → List Value) (cf : β → β → Int) (SW : SWO (ltOf cf)) (τ : β → Nat) (g : Nat) (cb : Array Value)
    (eg : ∀ args w, (callFunc g args).run Tryz.prog w = .ok (.enter g args) w) (blk off cap a b : Nat) (d0 d : Array β) (w0 w : World) (hC : CmpLays Tryz.prog g cb enc 9 cf blk off d0.size w0)
    (R : RowK enc 9 w0 blk off d0) (hs : d0.size = d.size) (S : SWK enc 9 w0 blk off d w) (hab : a ≤ b) (hb : b ≤ d.size) (hsz : d.size < 4611686018427387904) (ht : ∀ x y, a ≤ x → x < y → y < b → τ d[x]! < τ d[y]!) :
    Calls Tryz.prog 127 #[.slice (some ⟨blk, off, none⟩) d.size cap, .int .i64 a, .int .i64 b, .func (.func g) #[] cb] w (SymPost enc 9 cf τ w0 blk off d a b) := by
  have h := AnyQ.insertionSortCmpFunc_w (P := Tryz.prog) (ρ := Tryz.sortRoute_ren) { Tryz.sortRoute with } 9 Tryz.isAgg57 Tryz.sizeOf57 enc cf g cb blk off cap a b d0 d w0 w eg hC R hs S SW hab hb hsz
  change Calls Tryz.prog 127 _ _ _ at h
  refine h.mono ?_
  rintro e w' ⟨rfl, S'⟩
  obtain ⟨q1, q2, q3⟩ := ins_stable SW (τ := τ) (a := a) (b := b) d hab hb ht
  exact ⟨rfl, _, q1, q2, q3, S'⟩

def StbPost {β : Type} [Inhabited β] (enc : β → List Value) (cf : β → β → Int) (τ : β → Nat) (w0 : World) (blk off : Nat) (d : Array β) (e : Ending) (w' : World) : Prop := SymPost enc 9 cf τ w0 blk off d 0 d.size e w'

set_option maxHeartbeats 4000000 in
set_option maxRecDepth 1000000 in
theorem stable_calls {β : Type} [Inhabited β] (enc : β → List Value) (cf : β → β → Int) (SW : SWO (ltOf cf)) (τ : β → Nat) (g : Nat) (cb : Array Value)
    (eg : ∀ args w, (callFunc g args).run Tryz.prog w = .ok (.enter g args) w) (blk off cap n : Nat) (d : Array β) (w : World) (hn : d.size = n) (hC : CmpLays Tryz.prog g cb enc 9 cf blk off d.size w)
    (R : RowK enc 9 w blk off d) (hsz : n < 1152921504606846976) (ht : ∀ x y, x < y → y < n → τ d[x]! < τ d[y]!) :
    Calls Tryz.prog 91 #[.slice (some ⟨blk, off, none⟩) n cap, .int .i64 n, .func (.func g) #[] cb] w fun e w' => e = .returned (.tuple #[]) ∧ ∃ d' : Array β, d'.size = n ∧ SrtF (StL (ltOf cf) τ) (fun t => d'[t]!) 0 n ∧ SameF (fun t => d'[t]!) (fun t => d[t]!) 0 n ∧ SWK enc 9 w blk off d' w' := by
  have S0 : Aside (SWK enc 9 w blk off d w) := SWK.start R.hH
  have IC := Lib.hid (fun (a b : Nat) (dk : Array β) (W : World) (hs : dk.size = n) (S : SWK enc 9 w blk off dk W) (hab : a ≤ b) (hb : b ≤ n) (ht : ∀ x y, a ≤ x → x < y → y < b → τ dk[x]! < τ dk[y]!) => (by
    have := insr_calls enc cf SW τ g cb eg blk off cap a b d dk w W hC R (by omega) S hab (by omega) (by omega) ht
    rw [hs] at this; exact this :
    Calls Tryz.prog 127 #[.slice (some ⟨blk, off, none⟩) n cap, .int .i64 a, .int .i64 b, .func (.func g) #[] cb] W (SymPost enc 9 cf τ w blk off dk a b)))
  have SY := Lib.hid (fun (a m b : Nat) (dk : Array β) (W : World) (hs : dk.size = n) (S : SWK enc 9 w blk off dk W) (ham : a < m) (hmb : m < b) (hb : b ≤ n) (h1 : SrtF (StL (ltOf cf) τ) (fun t => dk[t]!) a m) (h2 : SrtF (StL (ltOf cf) τ) (fun t => dk[t]!) m b) (h3 : TagF τ (fun t => dk[t]!) a m b) => (by
    have := sym_calls 9 Tryz.isAgg57 Tryz.sizeOf57 enc cf SW τ g cb eg blk off cap d w hC R (by omega) (b - a + 1) a m b dk W (by omega) (by omega) ham hmb (by omega) S h1 h2 h3
    rw [hn] at this; exact this :
    Calls Tryz.prog 135 #[.slice (some ⟨blk, off, none⟩) n cap, .int .i64 a, .int .i64 m, .int .i64 b, .func (.func g) #[] cb] W (SymPost enc 9 cf τ w blk off dk a b)))
  have HT := Lib.hid ht
  have HN := Lib.hid hn
  clear ht hC R eg hn
  go_enter Tryz.func91, Tryz.ntmps91
  go_wp2_with fail
  go_loopg [7, 8] (n + 20) (fun kx s7 s8 wr => ∃ (q a b : Nat) (dk : Array β), s7 = .int .i64 a ∧ s8 = .int .i64 b ∧ a + 20 ≤ b ∧ b ≤ a + 20 ∧ a ≤ n ∧ n + 20 ≤ kx + a ∧ dk.size = n ∧ Aside (SWK enc 9 w blk off dk wr) ∧ Hid (a = q * 20 ∧ InsB (StL (ltOf cf) τ) τ (fun t => d[t]!) (fun t => dk[t]!) 20 q n))
  case atStart => exact ⟨0, 0, 20, d, rfl, rfl, Nat.le_refl _, Nat.le_refl _, Nat.zero_le _, by omega, HN.out, S0, Lib.hid ⟨by omega, InsB.start HT.out⟩⟩
  case round =>
    clear S0
    obtain ⟨q, a, b, dk, rfl, rfl, hab1, hab2, han, hkx, hds, S1, HI⟩ := hrel
    by_cases hlt : b ≤ n
    · have hltz : (b : Int) ≤ (n : Int) := by omega
      have C1 := Lib.hid (IC.out a b dk wr hds S1.out (by omega) hlt (fun x y h1 h2 h3 => by
        have e := HI.out.1
        have r1 := HI.out.2.rest x (by omega)
        have r2 := HI.out.2.rest y (by omega)
        rw [r1, r2]; exact HT.out x y h2 (by omega)))
      have rb : IntKind.i64.wrap ((b : Int) + 20) = ((b + 20 : Nat) : Int) := by rw [IntKind.wrap_i64]; omega
      clear S1
      go_wp2_with fail
      refine C1.out.mono ?_
      rintro e w' ⟨rfl, d', hd', s1, s2, S2⟩
      have NI : Hid (b = (q + 1) * 20 ∧ InsB (StL (ltOf cf) τ) τ (fun t => d[t]!) (fun t => d'[t]!) 20 (q + 1) n) := Lib.hid (by
        obtain ⟨e1, I⟩ := HI.out
        obtain rfl : b = a + 20 := by omega
        subst e1
        exact ⟨by omega, I.step hlt s1 s2⟩)
      have hd2 : d'.size = n := by omega
      have S3 : Aside (SWK enc 9 w blk off d' w') := S2
      clear s1 s2 S2 C1 HI hd' hds
      go_wp2_with fail
      go_roundg (n + 20 - b)
      case measure => omega
      case rel => exact ⟨q + 1, b, b + 20, d', rfl, by go_num, by omega, by omega, by omega, by omega, hd2, S3, NI⟩
    · have hltz : ¬ (b : Int) ≤ (n : Int) := by omega
      have C1 := Lib.hid (IC.out a n dk wr hds S1.out (by omega) (Nat.le_refl _) (fun x y h1 h2 h3 => by
        have e := HI.out.1
        have r1 := HI.out.2.rest x (by omega)
        have r2 := HI.out.2.rest y (by omega)
        rw [r1, r2]; exact HT.out x y h2 (by omega)))
      clear S1
      go_wp2_with fail
      refine C1.out.mono ?_
      rintro e w' ⟨rfl, d', hd', s1, s2, S2⟩
      have NI : Hid (BlkS (StL (ltOf cf) τ) (fun t => d'[t]!) 20 n ∧ BlkT τ (fun t => d'[t]!) 20 n ∧ SameF (fun t => d'[t]!) (fun t => d[t]!) 0 n) := Lib.hid (by
        obtain ⟨e1, I⟩ := HI.out
        subst e1
        exact I.last han (by omega) s1 s2)
      have hd2 : d'.size = n := by omega
      have S3 : Aside (SWK enc 9 w blk off d' w') := S2
      clear s1 s2 S2 C1 HI hd' hds IC HT
      go_wp2_with fail
      go_loopg [6, 7, 8, 9] n (fun kx s6 s7 s8 s9 wr => ∃ (s : Nat) (dk : Array β), s6 = .int .i64 s ∧ 20 ≤ s ∧ n ≤ kx + s ∧ dk.size = n ∧ Aside (SWK enc 9 w blk off dk wr) ∧ Hid (BlkS (StL (ltOf cf) τ) (fun t => dk[t]!) s n ∧ BlkT τ (fun t => dk[t]!) s n ∧ SameF (fun t => dk[t]!) (fun t => d[t]!) 0 n))
      case atStart => exact ⟨20, d', rfl, Nat.le_refl _, by omega, hd2, S3, NI⟩
      case round =>
        clear S3 NI hltz hlt
        obtain ⟨s, dC, rfl, hs1, hkz, hds, S1, HB⟩ := hrel
        by_cases hlt : s < n
        · have hltz : (s : Int) < (n : Int) := by omega
          obtain ⟨z, hz1, hz2⟩ : ∃ z : Nat, z ≤ 2 * s ∧ 2 * s ≤ z := ⟨2 * s, Nat.le_refl _, Nat.le_refl _⟩
          have rz : IntKind.i64.wrap (2 * (s : Int)) = (z : Int) := by rw [IntKind.wrap_i64]; omega
          have rz2 : IntKind.i64.wrap ((s : Int) * 2) = (z : Int) := by rw [IntKind.wrap_i64]; omega
          go_wp2_with fail
          go_loopg [7, 8] n (fun kx s7 s8 wr => ∃ (q a b : Nat) (dk : Array β), s7 = .int .i64 a ∧ s8 = .int .i64 b ∧ a + z ≤ b ∧ b ≤ a + z ∧ a ≤ n ∧ n ≤ kx + a ∧ dk.size = n ∧ Aside (SWK enc 9 w blk off dk wr) ∧ Hid (a = q * (2 * s) ∧ MrgB (StL (ltOf cf) τ) τ (fun t => dC[t]!) (fun t => dk[t]!) s q n))
          case atStart => exact ⟨0, 0, z, dC, rfl, rfl, by omega, by omega, Nat.zero_le _, by omega, hds, S1, Lib.hid ⟨by omega, MrgB.start HB.out.2.1⟩⟩
          case round =>
            clear S1
            obtain ⟨q, a, b, dk, rfl, rfl, hab1, hab2, han, hkw, hdk, S1, HM⟩ := hrel
            obtain ⟨m, hm1, hm2⟩ : ∃ m : Nat, m ≤ a + s ∧ a + s ≤ m := ⟨a + s, Nat.le_refl _, Nat.le_refl _⟩
            have rm : IntKind.i64.wrap ((a : Int) + (s : Int)) = (m : Int) := by rw [IntKind.wrap_i64]; omega
            by_cases hbn : b ≤ n
            · have hbz : (b : Int) ≤ (n : Int) := by omega
              have C1 := Lib.hid (SY.out a m b dk wr hdk S1.out (by omega) (by omega) hbn (by
                have h := HM.out.2.left HB.out.1 (by rw [← HM.out.1]; omega)
                rw [← HM.out.1] at h
                rw [show m = a + s by omega]; exact h) (by
                have h := HM.out.2.right HB.out.1 (v := b) (by rw [← HM.out.1]; omega) hbn
                rw [← HM.out.1] at h
                rw [show m = a + s by omega]; exact h) (by
                have h := HM.out.2.tags HB.out.2.1 hbn
                rw [← HM.out.1] at h
                rw [show m = a + s by omega]; exact h))
              have rb : IntKind.i64.wrap ((b : Int) + (z : Int)) = ((b + z : Nat) : Int) := by rw [IntKind.wrap_i64]; omega
              clear S1
              go_wp2_with fail
              refine C1.out.mono ?_
              rintro e w' ⟨rfl, d', hd', s1, s2, S2⟩
              have NI : Hid (b = (q + 1) * (2 * s) ∧ MrgB (StL (ltOf cf) τ) τ (fun t => dC[t]!) (fun t => d'[t]!) s (q + 1) n) := Lib.hid (by
                obtain ⟨e1, I⟩ := HM.out
                obtain rfl : b = a + 2 * s := by omega
                subst e1
                exact ⟨by rw [Nat.add_mul, Nat.one_mul], I.step hbn s1 s2⟩)
              have hd2 : d'.size = n := by omega
              have S3 : Aside (SWK enc 9 w blk off d' w') := S2
              clear s1 s2 S2 C1 HM hd' hdk
              go_wp2_with fail
              go_roundg (n - b)
              case measure => omega
              case rel => exact ⟨q + 1, b, b + z, d', rfl, by go_num, by omega, by omega, by omega, by omega, hd2, S3, NI⟩
            · have hbz : ¬ (b : Int) ≤ (n : Int) := by omega
              by_cases hmn : m < n
              · have hmz : (m : Int) < (n : Int) := by omega
                have C1 := Lib.hid (SY.out a m n dk wr hdk S1.out (by omega) hmn (Nat.le_refl _) (by
                  have h := HM.out.2.left HB.out.1 (by rw [← HM.out.1]; omega)
                  rw [← HM.out.1] at h
                  rw [show m = a + s by omega]; exact h) (by
                  have h := HM.out.2.right HB.out.1 (v := n) (by rw [← HM.out.1]; omega) (Nat.le_refl _)
                  rw [← HM.out.1] at h
                  rw [show m = a + s by omega]; exact h) (by
                  have h := HM.out.2.tags HB.out.2.1 (Nat.le_refl n)
                  rw [← HM.out.1] at h
                  rw [show m = a + s by omega]; exact h))
                clear S1
                go_wp2_with fail
                refine C1.out.mono ?_
                rintro e w' ⟨rfl, d', hd', s1, s2, S2⟩
                have NB : Hid (BlkS (StL (ltOf cf) τ) (fun t => d'[t]!) z n ∧ BlkT τ (fun t => d'[t]!) z n ∧ SameF (fun t => d'[t]!) (fun t => d[t]!) 0 n) := Lib.hid (by
                  obtain ⟨e1, I⟩ := HM.out
                  obtain rfl : z = 2 * s := by omega
                  subst e1
                  obtain ⟨u1, u2, u3⟩ := I.last han (by omega) s1 s2
                  exact ⟨u1, u2, u3.trans HB.out.2.2⟩)
                have hd2 : d'.size = n := by omega
                have S3 : Aside (SWK enc 9 w blk off d' w') := S2
                clear s1 s2 S2 C1 HM hd' hdk HB
                go_wp2_with fail
                go_roundg (n - z)
                case measure => omega
                case rel => exact ⟨z, d', rfl, by omega, by omega, hd2, S3, NB⟩
              · have hmz : ¬ (m : Int) < (n : Int) := by omega
                have NB : Hid (BlkS (StL (ltOf cf) τ) (fun t => dk[t]!) z n ∧ BlkT τ (fun t => dk[t]!) z n ∧ SameF (fun t => dk[t]!) (fun t => d[t]!) 0 n) := Lib.hid (by
                  obtain ⟨e1, I⟩ := HM.out
                  obtain rfl : z = 2 * s := by omega
                  subst e1
                  obtain ⟨u1, u2, u3⟩ := I.none HB.out.1 han (by omega) (by omega)
                  exact ⟨u1, u2, u3.trans HB.out.2.2⟩)
                clear HM HB
                go_wp2_with fail
                go_roundg (n - z)
                case measure => omega
                case rel => exact ⟨z, dk, rfl, by omega, by omega, hdk, S1, NB⟩
        · have hltz : ¬ (s : Int) < (n : Int) := by omega
          have FIN := Lib.hid (And.intro hds (And.intro (HB.out.1.all (by omega)) (And.intro HB.out.2.2 S1.out)))
          clear S1 HB
          go_wp2_with fail
          go_end0
          exact ⟨rfl, dC, FIN.out⟩

end Go.Proofs.YtogdconliofblaaGreat
