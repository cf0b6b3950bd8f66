/-
  slices.symMergeCmpFunc at routes: more than one element on each side.
-/
import Derived.Test.YtogdconliofblaaGreatSwv
import Derived.Test.YtogdconliofblaaGreatSyg
import Derived.Deep.DeepCutAuto
namespace Go.Proofs.YtogdconliofblaaGreat
open Go.RowKit Go.Shelf Go.Lib Go.Sort

/-- the call of itself on shorter rows -/
def SymIH {β : Type} [Inhabited β] (enc : β → List Value) (k : Nat) (cf : β → β → Int) (τ : β → Nat) (g : Nat) (cb : Array Value) (w0 : World) (blk off cap size len : Nat) : Prop :=
  ∀ (a m b : Nat) (d : Array β) (w : World), d.size = size → b - a < len → a < m → m < b → b ≤ size → SWK enc k w0 blk off d w → SrtF (StL (ltOf cf) τ) (fun t => d[t]!) a m → SrtF (StL (ltOf cf) τ) (fun t => d[t]!) m b →
    TagF τ (fun t => d[t]!) a m b →
    Calls Tryz.prog 135 #[.slice (some ⟨blk, off, none⟩) size cap, .int .i64 a, .int .i64 m, .int .i64 b, .func (.func g) #[] cb] w (SymPost enc k cf τ w0 blk off d a b)

/-- behind the rotation -/
def SymRot {β : Type} [Inhabited β] (enc : β → List Value) (k : Nat) (w0 : World) (blk off : Nat) (d : Array β) (s m e : Nat) (wx : World) : Prop :=
  ∃ d1 : Array β, d1.size = d.size ∧ Aside (SWK enc k w0 blk off d1 wx) ∧ Hid ((fun t => d1[t]!) = rotF (fun t => d[t]!) s m e)
/-- behind the first half -/
def SymOne {β : Type} [Inhabited β] (enc : β → List Value) (k : Nat) (cf : β → β → Int) (τ : β → Nat) (w0 : World) (blk off : Nat) (d1 : Array β) (a mid : Nat) (wx : World) : Prop :=
  ∃ d2 : Array β, d2.size = d1.size ∧ Aside (SWK enc k w0 blk off d2 wx) ∧ Hid (SrtF (StL (ltOf cf) τ) (fun t => d2[t]!) a mid ∧ SameF (fun t => d2[t]!) (fun t => d1[t]!) a mid)

set_option maxHeartbeats 100000000 in
set_option maxRecDepth 1000000 in
theorem sym_gen {β : Type} [Inhabited β] (k : Nat) (aE : ∀ w, (isAgg 57).run Tryz.prog w = .ok true w) (zE : ∀ w, (Go.sizeOf 57).run Tryz.prog w = .ok k w) (enc : β → List Value) (cf : β → β → Int) (SW : SWO (ltOf cf)) (τ : β → Nat) (g : Nat) (cb : Array Value)
    (eg : ∀ args w, (callFunc g args).run Tryz.prog w = .ok (.enter g args) w) (blk off cap a m b : Nat) (d0 d : Array β) (w0 w : World) (hC : CmpLays Tryz.prog g cb enc k cf blk off d0.size w0)
    (R : RowK enc k w0 blk off d0) (hs : d0.size = d.size) (S : SWK enc k w0 blk off d w) (ham : a + 1 < m) (hmb : m + 1 < b) (hb : b ≤ d.size) (hsz : d.size < 4611686018427387904)
    (hr1 : SrtF (StL (ltOf cf) τ) (fun t => d[t]!) a m) (hr2 : SrtF (StL (ltOf cf) τ) (fun t => d[t]!) m b) (ht : TagF τ (fun t => d[t]!) a m b)
    (IH : SymIH enc k cf τ g cb w0 blk off cap d.size (b - a)) :
    Calls Tryz.prog 135 #[.slice (some ⟨blk, off, none⟩) d.size cap, .int .i64 a, .int .i64 m, .int .i64 b, .func (.func g) #[] cb] w (SymPost enc k cf τ w0 blk off d a b) := by
  have S0 : Aside (SWK enc k w0 blk off d w) := S
  have HC : Aside _ := hC
  have HR1 := Lib.hid hr1
  have HR2 := Lib.hid hr2
  have HT := Lib.hid ht
  have HIH := Lib.hid IH
  have RT := Lib.hid (fun (s e : Nat) (W : World) (S : SWK enc k w0 blk off d W) (h1 : s < m) (h2 : m < e) (h3 : e ≤ d.size) =>
    rotate_calls k aE zE enc g cb blk off cap s m e d0 d w0 W R hs S h1 h2 h3 hsz)
  have mixed : Tryz.prog.follows .mixedOrders = true := by kernel_rfl
  have r1 : IntKind.i64.wrap ((m : Int) - (a : Int)) = (m : Int) - (a : Int) := by rw [IntKind.wrap_i64]; omega
  have q1 : ((m : Int) - (a : Int) == 1) = false := beq_eq_false_iff_ne.2 (by omega)
  have r2 : IntKind.i64.wrap ((b : Int) - (m : Int)) = (b : Int) - (m : Int) := by rw [IntKind.wrap_i64]; omega
  have q2 : ((b : Int) - (m : Int) == 1) = false := beq_eq_false_iff_ne.2 (by omega)
  obtain ⟨mid, hmid, hma, hmb2, hmc⟩ : ∃ mid : Nat, ((a : Int) + (b : Int)) / 2 = (mid : Int) ∧ a < mid ∧ mid < b ∧ a + b ≤ 2 * mid + 1 := ⟨(a + b) / 2, by omega, by omega, by omega, by omega⟩
  have hmd : 2 * mid ≤ a + b := by omega
  have rn : IntKind.i64.wrap ((mid : Int) + (m : Int)) = (mid : Int) + (m : Int) := by rw [IntKind.wrap_i64]; omega
  have rp : IntKind.i64.wrap ((mid : Int) + (m : Int) - 1) = (mid : Int) + (m : Int) - 1 := by rw [IntKind.wrap_i64]; omega
  clear S hC hr1 hr2 ht IH
  go_enter Tryz.func135, Tryz.ntmps135
  go_upto_if 140 with fail
  go_cut [20, 21] (fun s20 s21 wx => ∃ lo hi : Nat, s20 = .int .i64 lo ∧ s21 = .int .i64 hi ∧ wx = w ∧ a ≤ lo ∧ lo ≤ hi ∧ hi ≤ m ∧ hi ≤ mid ∧ mid + m ≤ b + lo ∧ Hid ((mid < m ∧ lo = mid + m - b ∧ hi = mid) ∨ (m ≤ mid ∧ lo = a ∧ hi = m)))
  case first => as_aux_lemma =>
    by_cases hgt : mid < m
    · have hgz : (mid : Int) < (m : Int) := by omega
      obtain ⟨lo, hlo⟩ : ∃ lo : Nat, (mid : Int) + (m : Int) - (b : Int) = (lo : Int) := ⟨mid + m - b, by omega⟩
      have rl : IntKind.i64.wrap ((mid : Int) + (m : Int) - (b : Int)) = (lo : Int) := by rw [IntKind.wrap_i64]; omega
      go_wp2_with fail
      go_meet
      exact ⟨lo, mid, rfl, rfl, rfl, by omega, by omega, by omega, by omega, by omega, Lib.hid (.inl ⟨hgt, by omega, rfl⟩)⟩
    · have hgz : ¬ (mid : Int) < (m : Int) := by omega
      go_wp2_with fail
      go_meet
      exact ⟨a, m, rfl, rfl, rfl, by omega, by omega, by omega, by omega, by omega, Lib.hid (.inr ⟨by omega, rfl, rfl⟩)⟩
  case rest =>
  obtain ⟨lo, hi, rfl, rfl, rfl, hl1, hl5, hl2, hl3, hl4, HLH⟩ := hcut
  go_wp2_with fail
  go_loopg [20, 21] b (fun kx s20 s21 wr => ∃ (i j : Nat), s20 = .int .i64 i ∧ s21 = .int .i64 j ∧ lo ≤ i ∧ i ≤ j ∧ j ≤ hi ∧ j - i ≤ kx ∧ Aside (SWK enc k w0 blk off d wr) ∧ Hid ((∀ k, lo ≤ k → k < i → ¬ StL (ltOf cf) τ d[mid + m - 1 - k]! d[k]!) ∧ (∀ k, j ≤ k → k < hi → StL (ltOf cf) τ d[mid + m - 1 - k]! d[k]!)))
  case atStart => exact ⟨lo, hi, rfl, rfl, Nat.le_refl _, hl5, Nat.le_refl _, by omega, S0, Lib.hid ⟨fun k _ _ => by omega, fun k _ _ => by omega⟩⟩
  case round =>
    clear S0
    obtain ⟨i, j, rfl, rfl, hai, hij, hjb, hkx, S1, HK⟩ := hrel
    by_cases hlt : i < j
    · have hltz : (i : Int) < (j : Int) := by omega
      obtain ⟨h, hh, hih, hhj⟩ : ∃ h : Nat, ((i : Int) + (j : Int)) / 2 = (h : Int) ∧ i ≤ h ∧ h < j := ⟨(i + j) / 2, by omega, by omega, by omega⟩
      obtain ⟨p, hp⟩ : ∃ p : Nat, p = mid + m - 1 - h := ⟨_, rfl⟩
      have hpm : m ≤ p := by omega
      have hpb : p < b := by omega
      go_wp2_with fail
      have ea : ((p : Int)).toNat = p := by omega
      have pa : (0 : Int) ≤ (p : Int) := by omega
      have ba : (p : Int) < (d.size : Int) := by omega
      have ra : IntKind.i64.wrap ((mid : Int) + (m : Int) - 1 - (h : Int)) = (p : Int) := by rw [IntKind.wrap_i64]; omega
      have rb : IntKind.i64.wrap ((p : Int)) = (p : Int) := by rw [IntKind.wrap_i64]; omega
      have ec : ((h : Int)).toNat = h := by omega
      have pc : (0 : Int) ≤ (h : Int) := by omega
      have bc : (h : Int) < (d.size : Int) := by omega
      have rc : IntKind.i64.wrap ((h : Int)) = (h : Int) := by rw [IntKind.wrap_i64]; omega
      have DN : Hid (ltOf cf d[p]! d[h]! = true → ∀ k, h ≤ k → k < hi → StL (ltOf cf) τ d[mid + m - 1 - k]! d[k]!) := Lib.hid (fun hl k hk1 hk2 =>
        look_up (c := fun t => d[t]!) (p := mid + m - 1) (k := k) (q := h) (StL.tr SW) HR1.out HR2.out (by omega) hk1 (by omega) (by omega) (by omega) (by omega) (by rw [← hp]; exact StL.yes hl))
      have UP : Hid (ltOf cf d[p]! d[h]! = false → ∀ k, lo ≤ k → k < h + 1 → ¬ StL (ltOf cf) τ d[mid + m - 1 - k]! d[k]!) := Lib.hid (fun hl k hk1 hk2 =>
        look_dn (c := fun t => d[t]!) (p := mid + m - 1) (k := k) (q := h) (StL.tr SW) HR1.out HR2.out (by omega) (by omega) (by omega) (by omega) (by omega) (by omega) (by
          rw [← hp]
          show ¬ StL (ltOf cf) τ d[p]! d[h]!
          rw [StL.iff (HT.out h p (by omega) (by omega) hpm hpb), hl]; simp))
      obtain ⟨x90, hx90⟩ : ∃ x, x = d[p]! := ⟨_, rfl⟩
      obtain ⟨y90, hy90⟩ : ∃ x, x = d[h]! := ⟨_, rfl⟩
      have l90a := S1.out.ld R (by omega) Tryz.prog p (by omega)
      have l90b := S1.out.ld R (by omega) Tryz.prog h (by omega)
      rw [← hx90] at l90a
      rw [← hy90] at l90b
      have hc90 := S1.out.cmp HC.out (by omega) x90 y90
      cases hlv : (ltOf cf) d[p]! d[h]! with
      | false =>
        have NK : Hid ((∀ k, lo ≤ k → k < h + 1 → ¬ StL (ltOf cf) τ d[mid + m - 1 - k]! d[k]!) ∧ (∀ k, j ≤ k → k < hi → StL (ltOf cf) τ d[mid + m - 1 - k]! d[k]!)) := Lib.hid ⟨UP.out hlv, HK.out.2⟩
        have hv90 : ¬ cf x90 y90 < 0 := by rw [hx90, hy90]; exact of_decide_eq_false hlv
        have hd90 : decide (cf x90 y90 < 0) = false := decide_eq_false hv90
        clear hx90 hy90 UP DN HK hp
        go_quiet_grown (first | (go_at_fn g; refine Calls.grown_of (hc90 _ _)))
        have S2 : Aside (SWK enc k w0 blk off d (grow (wr.drewN nq) osq)) := S1.out.grown nq osq
        clear l90a l90b hc90 S1
        generalize grow (wr.drewN nq) osq = w2 at S2 ⊢
        clear nq osq
        go_wp2
        go_roundg (j - (h + 1))
        case measure => omega
        case rel => exact ⟨h + 1, j, by go_num, rfl, by omega, by omega, hjb, by omega, S2, NK⟩
      | true =>
        have NK : Hid ((∀ k, lo ≤ k → k < i → ¬ StL (ltOf cf) τ d[mid + m - 1 - k]! d[k]!) ∧ (∀ k, h ≤ k → k < hi → StL (ltOf cf) τ d[mid + m - 1 - k]! d[k]!)) := Lib.hid ⟨HK.out.1, DN.out hlv⟩
        have hv90 : cf x90 y90 < 0 := by rw [hx90, hy90]; exact of_decide_eq_true hlv
        have hd90 : decide (cf x90 y90 < 0) = true := decide_eq_true hv90
        clear hx90 hy90 UP DN HK hp
        go_quiet_grown (first | (go_at_fn g; refine Calls.grown_of (hc90 _ _)))
        have S2 : Aside (SWK enc k w0 blk off d (grow (wr.drewN nq) osq)) := S1.out.grown nq osq
        clear l90a l90b hc90 S1
        generalize grow (wr.drewN nq) osq = w2 at S2 ⊢
        clear nq osq
        go_wp2
        go_roundg (h - i)
        case measure => omega
        case rel => exact ⟨i, h, rfl, rfl, hai, hih, by omega, by omega, S2, NK⟩
    · obtain rfl : i = j := by omega
      obtain ⟨e, he1, he2⟩ : ∃ e : Nat, e + i ≤ mid + m ∧ mid + m ≤ e + i := ⟨mid + m - i, by omega, by omega⟩
      have MF : MidF (StL (ltOf cf) τ) (fun t => d[t]!) a m b i (mid + m - i) := mid_of (lo := lo) (hi := hi) (StL.tr SW) HR1.out HR2.out (fun x y h1 h2 h3 h4 h5 => StL.no (by
          cases c : ltOf cf d[y]! d[x]! with
          | false => rfl
          | true => exact absurd (StL.yes c) h5) (HT.out x y h1 h2 h3 h4)) hmb2 hai hjb HLH.out (fun _ => .inr hl1) hl1 HK.out.1 HK.out.2 (by omega)
      rw [show mid + m - i = e by omega] at MF
      have HV := Lib.hid (MF.halv (mid := mid) HR1.out HR2.out HT.out (by omega))
      have b1 := MF.sm
      have b2 := MF.me
      have b3 := MF.eb
      have b4 := MF.la
      clear MF HK HLH HR1 HR2 HT
      have hltz : ¬ (i : Int) < (i : Int) := by omega
      have re : IntKind.i64.wrap ((mid : Int) + (m : Int) - (i : Int)) = (e : Int) := by rw [IntKind.wrap_i64]; omega
      go_upto_region 39 with fail
      obtain ⟨tb, htb⟩ : ∃ tb : Bool, tb = decide (i < m ∧ m < e) := ⟨_, rfl⟩
      have TB := Lib.hid htb
      clear htb
      go_cut [185] (fun sx wx => sx = .bool tb ∧ wx = wr)
      case first => as_aux_lemma =>
        have htb := TB.out
        clear TB
        by_cases g1 : i < m
        · have g1z : (i : Int) < (m : Int) := by omega
          by_cases g2 : m < e
          · have g2z : (m : Int) < (e : Int) := by omega
            obtain rfl : tb = true := by rw [htb]; simp [g1, g2]
            clear htb
            go_wp2_with fail
            go_meet
            exact ⟨rfl, rfl⟩
          · have g2z : ¬ (m : Int) < (e : Int) := by omega
            obtain rfl : tb = false := by rw [htb]; simp [g2]
            clear htb
            go_wp2_with fail
            go_meet
            exact ⟨rfl, rfl⟩
        · have g1z : ¬ (i : Int) < (m : Int) := by omega
          obtain rfl : tb = false := by rw [htb]; simp [g1]
          clear htb
          go_wp2_with fail
          go_meet
          exact ⟨rfl, rfl⟩
      case rest =>
      obtain ⟨rfl, rfl⟩ := hcut
      go_upto_if 185 with fail
      obtain ⟨MID, hMID⟩ : ∃ MID : World → Prop, MID = SymRot enc k w0 blk off d i m e := ⟨_, rfl⟩
      have HMID := Lib.hid hMID
      clear hMID
      go_cut [] (fun wx => MID wx)
      case first => as_aux_lemma =>
        clear HV HIH
        cases tb with
        | true =>
          obtain ⟨g1, g2⟩ : i < m ∧ m < e := of_decide_eq_true TB.out.symm
          have C1 := Lib.hid (RT.out i e wc S1.out g1 g2 (by omega))
          clear S1 RT TB
          go_wp2_with fail
          refine C1.out.mono ?_
          rintro e' w' ⟨rfl, d', hd', hf', S3⟩
          have FIN := Lib.hid (And.intro hd' (And.intro hf' S3))
          clear hd' hf' S3 C1
          go_wp2_with fail
          go_meet
          rw [HMID.out]
          exact ⟨d', FIN.out.1, FIN.out.2.2, Lib.hid FIN.out.2.1⟩
        | false =>
          have FIN := Lib.hid (rotF_id (fun t => d[t]!) b1 b2 (s := i) (m := m) (e := e) (of_decide_eq_false TB.out.symm))
          have S2 : Aside (SWK enc k w0 blk off d wc) := S1
          clear S1 RT TB
          go_wp2_with fail
          go_meet
          rw [HMID.out]
          exact ⟨d, rfl, S2, Lib.hid FIN.out.symm⟩
      case rest =>
      rw [HMID.out] at hcut
      obtain ⟨d1, hd1, S2, HF⟩ := hcut
      have HW : Hid (HalvF (StL (ltOf cf) τ) τ (fun t => d[t]!) (fun t => d1[t]!) a i mid e b) := Lib.hid (by rw [HF.out]; exact HV.out)
      clear HV HF S1 RT TB HMID
      clear MID tb
      obtain ⟨w1, hw1⟩ : ∃ w1, w1 = wc := ⟨_, rfl⟩
      subst hw1
      go_upto_region 41 with fail
      obtain ⟨tb, htb⟩ : ∃ tb : Bool, tb = decide (a < i ∧ i < mid) := ⟨_, rfl⟩
      have TB := Lib.hid htb
      clear htb
      go_cut [199] (fun sx wx => sx = .bool tb ∧ wx = w1)
      case first => as_aux_lemma =>
        have htb := TB.out
        clear TB
        by_cases g1 : a < i
        · have g1z : (a : Int) < (i : Int) := by omega
          by_cases g2 : i < mid
          · have g2z : (i : Int) < (mid : Int) := by omega
            obtain rfl : tb = true := by rw [htb]; simp [g1, g2]
            clear htb
            go_wp2_with fail
            go_meet
            exact ⟨rfl, rfl⟩
          · have g2z : ¬ (i : Int) < (mid : Int) := by omega
            obtain rfl : tb = false := by rw [htb]; simp [g2]
            clear htb
            go_wp2_with fail
            go_meet
            exact ⟨rfl, rfl⟩
        · have g1z : ¬ (a : Int) < (i : Int) := by omega
          obtain rfl : tb = false := by rw [htb]; simp [g1]
          clear htb
          go_wp2_with fail
          go_meet
          exact ⟨rfl, rfl⟩
      case rest =>
      obtain ⟨rfl, rfl⟩ := hcut
      go_upto_if 199 with fail
      obtain ⟨MID, hMID⟩ : ∃ MID : World → Prop, MID = SymOne enc k cf τ w0 blk off d1 a mid := ⟨_, rfl⟩
      have HMID := Lib.hid hMID
      clear hMID
      go_cut [] (fun wx => MID wx)
      case first => as_aux_lemma =>
        cases tb with
        | true =>
          obtain ⟨g1, g2⟩ : a < i ∧ i < mid := of_decide_eq_true TB.out.symm
          have C1 := Lib.hid (HIH.out a i mid d1 wc hd1 (by omega) g1 g2 (by omega) S2.out HW.out.rf.h1 HW.out.rf.h2 HW.out.t1)
          clear S2 HIH HW TB
          go_wp2_with fail
          refine C1.out.mono ?_
          rintro e' w' ⟨rfl, d', hd', s1, s2, S3⟩
          have FIN := Lib.hid (And.intro hd' (And.intro s1 (And.intro s2 S3)))
          clear hd' s1 s2 S3 C1
          go_wp2_with fail
          go_meet
          rw [HMID.out]
          exact ⟨d', FIN.out.1, FIN.out.2.2.2, Lib.hid ⟨FIN.out.2.1, FIN.out.2.2.1⟩⟩
        | false =>
          have FIN := Lib.hid (HW.out.skip1 (of_decide_eq_false TB.out.symm))
          have S3 : Aside (SWK enc k w0 blk off d1 wc) := S2
          clear S2 HIH HW TB
          go_wp2_with fail
          go_meet
          rw [HMID.out]
          exact ⟨d1, rfl, S3, Lib.hid ⟨FIN.out, SameF.refl _ _ _⟩⟩
      case rest =>
      rw [HMID.out] at hcut
      obtain ⟨d2, hd2, S3, HF⟩ := hcut
      clear HMID TB S2
      clear MID tb
      obtain ⟨w2, hw2⟩ : ∃ w2, w2 = wc := ⟨_, rfl⟩
      subst hw2
      go_upto_region 43 with fail
      obtain ⟨tb, htb⟩ : ∃ tb : Bool, tb = decide (mid < e ∧ e < b) := ⟨_, rfl⟩
      have TB := Lib.hid htb
      clear htb
      go_cut [213] (fun sx wx => sx = .bool tb ∧ wx = w2)
      case first => as_aux_lemma =>
        have htb := TB.out
        clear TB
        by_cases g1 : mid < e
        · have g1z : (mid : Int) < (e : Int) := by omega
          by_cases g2 : e < b
          · have g2z : (e : Int) < (b : Int) := by omega
            obtain rfl : tb = true := by rw [htb]; simp [g1, g2]
            clear htb
            go_wp2_with fail
            go_meet
            exact ⟨rfl, rfl⟩
          · have g2z : ¬ (e : Int) < (b : Int) := by omega
            obtain rfl : tb = false := by rw [htb]; simp [g2]
            clear htb
            go_wp2_with fail
            go_meet
            exact ⟨rfl, rfl⟩
        · have g1z : ¬ (mid : Int) < (e : Int) := by omega
          obtain rfl : tb = false := by rw [htb]; simp [g1]
          clear htb
          go_wp2_with fail
          go_meet
          exact ⟨rfl, rfl⟩
      case rest =>
      obtain ⟨rfl, rfl⟩ := hcut
      go_upto_if 213 with fail
      cases tb with
      | true =>
        obtain ⟨g1, g2⟩ : mid < e ∧ e < b := of_decide_eq_true TB.out.symm
        have C1 := Lib.hid (by
          obtain ⟨t1, t2, t3⟩ := HW.out.two HF.out.2
          exact HIH.out mid e b d2 wc (by omega) (by omega) g1 g2 hb S3.out t1 t2 t3)
        clear S3 HIH TB
        go_wp2_with fail
        refine C1.out.mono ?_
        rintro e' w' ⟨rfl, d', hd', s1, s2, S3⟩
        have FIN : SymPost enc k cf τ w0 blk off d a b (.returned (.tuple #[])) w' := by
          obtain ⟨q1, q2⟩ := HW.out.fin HF.out.1 HF.out.2 s1 s2
          exact ⟨rfl, d', by omega, q1, q2, S3⟩
        have FINH := Lib.hid FIN
        clear hd' s1 s2 S3 C1 HW HF FIN
        go_wp2_with fail
        go_end0
        exact FINH.out
      | false =>
        have FINH : Hid (SymPost enc k cf τ w0 blk off d a b (.returned (.tuple #[])) wc) := Lib.hid (by
          obtain ⟨q1, q2⟩ := HW.out.fin HF.out.1 HF.out.2 (HW.out.skip2 HF.out.2 (of_decide_eq_false TB.out.symm)) (SameF.refl _ _ _)
          exact ⟨rfl, d2, by omega, q1, q2, S3⟩)
        clear HIH S3 HW HF TB
        go_wp2_with fail
        go_end0
        exact FINH.out

end Go.Proofs.YtogdconliofblaaGreat
