/-
  ExternalChecks: the law walked.
-/
import Derived.Test.YtiemmejpaahbpaaExk
import Derived.Test.YtiemmejpaahbpaaCkw
import Derived.Test.YtiemmejpaahbpaaLiv
namespace Go.Proofs.Ytiemmejpaahbpaa
open Go.RowKit

set_option maxHeartbeats 2000000 in
theorem checks_law (w : World) (v : Value) (l : List Ext) (h : ExtsAt w v l) (ok : ∀ x ∈ l, OkP x.pfx) : Calls Try.prog 5 #[v] w (LivPost w) := by
  have C1 := Lib.hid (xcheck_calls w v l h ok)
  have C2 := Lib.hid (fun W (hb : Below w.heap.size w W) => ckr_calls W v l (h.below hb) ok)
  obtain ⟨a, cap, rfl, hl, -⟩ := h.get
  clear h ok hl
  go_enter Try.func5, Try.ntmps5
  go_wp2_with fail
  refine C1.out.mono ?_
  rintro e w1 ⟨c, rfl, K1, B1⟩
  have HB1 := Lib.hid B1
  have HK := Lib.hid K1
  clear B1 K1
  go_wp2_with fail
  refine (C2.out _ HB1.out).mono ?_
  rintro e w2 ⟨d, rfl, K2, G2⟩
  have e12 := HK.out.one K2
  subst e12
  have LV := Lib.hid (lives_calls w2)
  have HB2 := Lib.hid (HB1.out.trans (G2.b.mono HB1.out.size))
  clear G2 K2 HK C1 C2
  have q : (c == c) = true := by simp
  go_wp2_with fail
  refine LV.out.mono ?_
  rintro e w9 ⟨rfl, B9⟩
  have FIN := Lib.hid (HB2.out.trans (B9.mono HB2.out.size))
  clear B9 LV
  go_wp2_with fail
  go_ret
  exact ⟨rfl, FIN.out⟩

end Go.Proofs.Ytiemmejpaahbpaa
