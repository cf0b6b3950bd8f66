import Derived.Test.YtombnejipaoinaaGreatExo
import Derived.Test.YtombnejipaoinaaGreatProg
import Derived.KernelRfl
namespace Go.Ex
open Go
set_option maxRecDepth 1000000
noncomputable def liveF : Func := Go.Proofs.Tryz.prog.funcs.toList.getD 4 default
noncomputable def liveC : Code := liveF.body.getD .skip
def tl1 : List (Nat × Value) := [(1, .pointer (some ⟨21, 0, none⟩)),
  (3, .pointer (some ⟨43, 0, none⟩)),
  (2, .int .i64 0),
  (4, .int .i64 0)]
def hl1 : List (Nat × VObj) := [(42, .row [.int .u32 0, .slice none 0 0] 50),
  (38, .row [.int .i64 1, .int .u32 167772160, .int .i64 30, .int .u32 167772162, .int .u32 0, .int .i64 5, .int .i64 0, .int .i64 10, .int .i64 40, .bool false, .int .u32 0, .int .u32 0, .int .i64 0, .int .i64 0, .slice none 0 0] 73),
  (34, .row [.int .i64 1, .int .u32 167772160, .int .i64 30, .int .u32 167772162, .int .u32 0, .int .i64 5, .int .i64 0, .int .i64 10, .int .i64 40] 70),
  (43, .row [.int .u32 2, .slice (some ⟨34, 0, none⟩) 1 1180591620717412352009, .slice none 0 0, .int .i64 100, .slice (some ⟨38, 0, none⟩) 1 1180591620717412352015, .slice (some ⟨42, 0, none⟩) 1 1180591620717412352002, .slice none 0 0, .slice none 0 0] 33),
  (20, .row [.int .u32 0, .slice none 0 0] 50),
  (16, .row [.int .i64 1, .int .u32 167772160, .int .i64 30, .int .u32 167772161, .int .u32 0, .int .i64 5, .int .i64 0, .int .i64 10, .int .i64 40, .bool false, .int .u32 0, .int .u32 0, .int .i64 0, .int .i64 0, .slice none 0 0] 73),
  (12, .row [.int .i64 1, .int .u32 167772160, .int .i64 30, .int .u32 167772161, .int .u32 0, .int .i64 5, .int .i64 0, .int .i64 10, .int .i64 40] 70),
  (21, .row [.int .u32 1, .slice (some ⟨12, 0, none⟩) 1 1180591620717412352009, .slice none 0 0, .int .i64 100, .slice (some ⟨16, 0, none⟩) 1 1180591620717412352015, .slice (some ⟨20, 0, none⟩) 1 1180591620717412352002, .slice none 0 0, .slice none 0 0] 33)]
theorem piece1 : keepB 0 tl1 hl1 44 (runL (envOf Go.Proofs.Tryz.prog) 100000 151 (headC 4 (tailC 0 liveC)) ⟨.nil, 0, []⟩ ⟨.nil, 0, 0⟩) = true := by kernel_rfl
end Go.Ex
