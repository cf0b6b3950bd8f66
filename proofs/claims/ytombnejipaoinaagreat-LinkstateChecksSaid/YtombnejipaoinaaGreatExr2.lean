import Derived.Test.YtombnejipaoinaaGreatExo
import Derived.Test.YtombnejipaoinaaGreatProg
import Derived.KernelRfl
import Derived.Test.YtombnejipaoinaaGreatExr1
namespace Go.Ex
open Go
set_option maxRecDepth 1000000
def tl2 : List (Nat × Value) := [(3, .pointer (some ⟨43, 0, none⟩)),
  (2, .int .i64 0),
  (4, .int .i64 0),
  (5, .slice (some ⟨887, 0, none⟩) 1 1180591620717412352003),
  (1, .pointer (some ⟨21, 0, none⟩))]
def hl2 : List (Nat × VObj) := [(69, .row [] 56),
  (479, .row [.int .i64 3, .int .u32 167772160, .int .u32 30, .int .i64 5] 270),
  (475, .row [.int .i64 1, .int .u32 1, .int .i64 0, .int .u32 1, .int .i64 1, .int .i64 0, .int .i64 7074, .bool false, .bool false, .slice (some ⟨479, 0, none⟩) 1 1180591620717412352004, .slice none 0 0, .int .i64 0, .bool false, .int .u32 0, .int .i64 0] 56),
  (57, .row [.int .u32 0, .slice (some ⟨475, 0, none⟩) 1 1180591620717412352015] 50),
  (488, .row [.int .i64 1, .int .u32 167772160, .int .i64 30, .int .u32 167772161, .int .u32 0, .int .i64 5, .int .i64 0, .int .i64 10, .int .i64 40, .bool true, .int .u32 0, .int .u32 0, .int .i64 0, .int .i64 110, .slice none 0 0] 73),
  (55, .row [.int .i64 1, .int .u32 167772160, .int .i64 30, .int .u32 167772161, .int .u32 0, .int .i64 5, .int .i64 0, .int .i64 10, .int .i64 40] 70),
  (21, .row [.int .u32 1, .slice (some ⟨55, 0, none⟩) 1 1180591620717412352009, .slice none 0 0, .int .i64 100, .slice (some ⟨488, 0, none⟩) 1 1, .slice (some ⟨57, 0, none⟩) 1 1180591620717412352002, .slice (some ⟨69, 0, none⟩) 0 0, .slice none 0 0] 33),
  (879, .row [.int .u8 1, .int .u8 1, .int .u8 0, .int .u8 33, .int .u8 0, .int .u8 0, .int .u8 0, .int .u8 1, .int .u8 0, .int .u8 0, .int .u8 0, .int .u8 0, .int .u8 10, .int .u8 0, .int .u8 0, .int .u8 1, .int .u8 164, .int .u8 219, .int .u8 30, .int .u8 0, .int .u8 10, .int .u8 0, .int .u8 40, .int .u8 0, .int .u8 0, .int .u8 0, .int .u8 0, .int .u8 0, .int .u8 0, .int .u8 0, .int .u8 0, .int .u8 0, .int .u8 0] 5),
  (887, .row [.int .i64 0, .int .u32 0, .slice (some ⟨879, 0, none⟩) 33 1180591620717445906433] 58),
  (42, .row [.int .u32 0, .slice none 0 0] 50),
  (38, .row [.int .i64 1, .int .u32 167772160, .int .i64 30, .int .u32 167772162, .int .u32 0, .int .i64 5, .int .i64 0, .int .i64 10, .int .i64 40, .bool false, .int .u32 0, .int .u32 0, .int .i64 0, .int .i64 0, .slice none 0 0] 73),
  (34, .row [.int .i64 1, .int .u32 167772160, .int .i64 30, .int .u32 167772162, .int .u32 0, .int .i64 5, .int .i64 0, .int .i64 10, .int .i64 40] 70),
  (43, .row [.int .u32 2, .slice (some ⟨34, 0, none⟩) 1 1180591620717412352009, .slice none 0 0, .int .i64 100, .slice (some ⟨38, 0, none⟩) 1 1180591620717412352015, .slice (some ⟨42, 0, none⟩) 1 1180591620717412352002, .slice none 0 0, .slice none 0 0] 33)]
theorem piece2 : keepB 0 tl2 hl2 901 (runL (envOf Go.Proofs.Tryz.prog) 100000 151 (headC 1 (tailC 4 liveC)) (mkTm tl1 0) (mkSt hl1 44)) = true := by kernel_rfl
end Go.Ex
