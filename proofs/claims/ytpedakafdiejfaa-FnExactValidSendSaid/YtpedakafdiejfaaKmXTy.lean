/- A part of the proof: an abstract machine over the program (sound by its theorems), or definitions printed by it. There is no condition. -/
import Derived.Test.YtpedakafdiejfaaKmXData
import Derived.Test.YtpedakafdiejfaaProg
namespace Km.X
open Go Km Go.Proofs
set_option linter.unusedVariables false
set_option maxRecDepth 100000
def tbl : List (Nat × TI K TyK) := [
  (2, ⟨1, 8, .int .i64, [.lit (.int .i64 0)]⟩),
  (3, ⟨1, 8, .int .i64, [.lit (.int .i64 0)]⟩),
  (4, ⟨1, 1, .bool, [.lit (.bool false)]⟩),
  (5, ⟨1, 1, .int .u8, [.lit (.int .u8 0)]⟩),
  (9, ⟨1, 16, .str, [.lit (.string ⟨#[]⟩)]⟩),
  (12, ⟨1, 8, .int .u64, [.lit (.int .u64 0)]⟩),
  (21, ⟨1, 4, .int .i32, [.lit (.int .i32 0)]⟩),
  (25, ⟨1, 24, .slice 54 .part, [.nil .part]⟩),
  (30, ⟨1, 24, .slice 68 .item, [.nil .item]⟩),
  (32, ⟨2, 32, .struct [(0, 3), (1, 30)], [.lit (.int .i64 0), .nil .item]⟩),
  (35, ⟨1, 24, .slice 59 .item, [.nil .item]⟩),
  (37, ⟨2, 32, .struct [(0, 3), (1, 35)], [.lit (.int .i64 0), .nil .item]⟩),
  (42, ⟨9, 80, .struct [(0, 3), (1, 3), (2, 3), (3, 3), (4, 3), (5, 3), (6, 3), (7, 4), (8, 9)], [.lit (.int .i64 0), .lit (.int .i64 0), .lit (.int .i64 0), .lit (.int .i64 0), .lit (.int .i64 0), .lit (.int .i64 0), .lit (.int .i64 0), .lit (.bool false), .lit (.string ⟨#[]⟩)]⟩),
  (45, ⟨9, 80, .struct [(0, 3), (1, 3), (2, 3), (3, 3), (4, 3), (5, 3), (6, 3), (7, 4), (8, 9)], [.lit (.int .i64 0), .lit (.int .i64 0), .lit (.int .i64 0), .lit (.int .i64 0), .lit (.int .i64 0), .lit (.int .i64 0), .lit (.int .i64 0), .lit (.bool false), .lit (.string ⟨#[]⟩)]⟩),
  (49, ⟨1, 8, .int .u64, [.lit (.int .u64 0)]⟩),
  (50, ⟨1, 24, .slice 5 .byte, [.nil .byte]⟩),
  (51, ⟨8, 8, .arr 8 5 .byte, [.lit (.int .u8 0), .lit (.int .u8 0), .lit (.int .u8 0), .lit (.int .u8 0), .lit (.int .u8 0), .lit (.int .u8 0), .lit (.int .u8 0), .lit (.int .u8 0)]⟩),
  (52, ⟨1, 8, .int .u64, [.lit (.int .u64 0)]⟩),
  (54, ⟨2, 24, .struct [(0, 9), (1, 4)], [.lit (.string ⟨#[]⟩), .lit (.bool false)]⟩),
  (59, ⟨4, 40, .struct [(0, 54), (2, 4), (3, 3)], [.lit (.string ⟨#[]⟩), .lit (.bool false), .lit (.bool false), .lit (.int .i64 0)]⟩),
  (66, ⟨2, 24, .struct [(0, 9), (1, 4)], [.lit (.string ⟨#[]⟩), .lit (.bool false)]⟩),
  (68, ⟨4, 40, .struct [(0, 66), (2, 4), (3, 3)], [.lit (.string ⟨#[]⟩), .lit (.bool false), .lit (.bool false), .lit (.int .i64 0)]⟩),
  (80, ⟨1, 4, .int .u32, [.lit (.int .u32 0)]⟩),
  (84, ⟨1, 8, .other, [.lit (.pointer none)]⟩)]
abbrev T := lookT tbl
theorem row2 : RowOk Try.prog cod T 2 ⟨1, 8, .int .i64, [.lit (.int .i64 0)]⟩ := ⟨_, _, _, Try.type2, rfl, rfl, rfl, by kernel_rfl, by kernel_rfl, Try.underlying2, by kernel_rfl, rfl⟩
theorem row3 : RowOk Try.prog cod T 3 ⟨1, 8, .int .i64, [.lit (.int .i64 0)]⟩ := ⟨_, _, _, Try.type3, rfl, rfl, rfl, by kernel_rfl, by kernel_rfl, Try.underlying3, by kernel_rfl, rfl⟩
theorem row4 : RowOk Try.prog cod T 4 ⟨1, 1, .bool, [.lit (.bool false)]⟩ := ⟨_, _, _, Try.type4, rfl, rfl, rfl, by kernel_rfl, by kernel_rfl, Try.underlying4, by kernel_rfl, rfl⟩
theorem row5 : RowOk Try.prog cod T 5 ⟨1, 1, .int .u8, [.lit (.int .u8 0)]⟩ := ⟨_, _, _, Try.type5, rfl, rfl, rfl, by kernel_rfl, by kernel_rfl, Try.underlying5, by kernel_rfl, rfl⟩
theorem row9 : RowOk Try.prog cod T 9 ⟨1, 16, .str, [.lit (.string ⟨#[]⟩)]⟩ := ⟨_, _, _, Try.type9, rfl, rfl, rfl, by kernel_rfl, by kernel_rfl, Try.underlying9, by kernel_rfl, rfl⟩
theorem row12 : RowOk Try.prog cod T 12 ⟨1, 8, .int .u64, [.lit (.int .u64 0)]⟩ := ⟨_, _, _, Try.type12, rfl, rfl, rfl, by kernel_rfl, by kernel_rfl, Try.underlying12, by kernel_rfl, rfl⟩
theorem row21 : RowOk Try.prog cod T 21 ⟨1, 4, .int .i32, [.lit (.int .i32 0)]⟩ := ⟨_, _, _, Try.type21, rfl, rfl, rfl, by kernel_rfl, by kernel_rfl, Try.underlying21, by kernel_rfl, rfl⟩
theorem row25 : RowOk Try.prog cod T 25 ⟨1, 24, .slice 54 .part, [.nil .part]⟩ := ⟨_, _, _, Try.type25, rfl, rfl, rfl, by kernel_rfl, by kernel_rfl, Try.underlying25, by kernel_rfl, ⟨⟨rfl, _, Try.type54, by kernel_rfl, by kernel_rfl⟩, _, _, Try.type54, rfl, by kernel_rfl, by kernel_rfl, by decide⟩⟩
theorem row30 : RowOk Try.prog cod T 30 ⟨1, 24, .slice 68 .item, [.nil .item]⟩ := ⟨_, _, _, Try.type30, rfl, rfl, rfl, by kernel_rfl, by kernel_rfl, Try.underlying30, by kernel_rfl, ⟨⟨rfl, _, Try.type68, by kernel_rfl, by kernel_rfl⟩, _, _, Try.type68, rfl, by kernel_rfl, by kernel_rfl, by decide⟩⟩
theorem row32 : RowOk Try.prog cod T 32 ⟨2, 32, .struct [(0, 3), (1, 30)], [.lit (.int .i64 0), .nil .item]⟩ := ⟨_, _, _, Try.type32, rfl, rfl, rfl, by kernel_rfl, by kernel_rfl, Try.underlying32, by kernel_rfl, ⟨_, rfl, by kernel_rfl, by kernel_rfl⟩⟩
theorem row35 : RowOk Try.prog cod T 35 ⟨1, 24, .slice 59 .item, [.nil .item]⟩ := ⟨_, _, _, Try.type35, rfl, rfl, rfl, by kernel_rfl, by kernel_rfl, Try.underlying35, by kernel_rfl, ⟨⟨rfl, _, Try.type59, by kernel_rfl, by kernel_rfl⟩, _, _, Try.type59, rfl, by kernel_rfl, by kernel_rfl, by decide⟩⟩
theorem row37 : RowOk Try.prog cod T 37 ⟨2, 32, .struct [(0, 3), (1, 35)], [.lit (.int .i64 0), .nil .item]⟩ := ⟨_, _, _, Try.type37, rfl, rfl, rfl, by kernel_rfl, by kernel_rfl, Try.underlying37, by kernel_rfl, ⟨_, rfl, by kernel_rfl, by kernel_rfl⟩⟩
theorem row42 : RowOk Try.prog cod T 42 ⟨9, 80, .struct [(0, 3), (1, 3), (2, 3), (3, 3), (4, 3), (5, 3), (6, 3), (7, 4), (8, 9)], [.lit (.int .i64 0), .lit (.int .i64 0), .lit (.int .i64 0), .lit (.int .i64 0), .lit (.int .i64 0), .lit (.int .i64 0), .lit (.int .i64 0), .lit (.bool false), .lit (.string ⟨#[]⟩)]⟩ := ⟨_, _, _, Try.type42, rfl, rfl, rfl, by kernel_rfl, by kernel_rfl, Try.underlying42, by kernel_rfl, ⟨_, rfl, by kernel_rfl, by kernel_rfl⟩⟩
theorem row45 : RowOk Try.prog cod T 45 ⟨9, 80, .struct [(0, 3), (1, 3), (2, 3), (3, 3), (4, 3), (5, 3), (6, 3), (7, 4), (8, 9)], [.lit (.int .i64 0), .lit (.int .i64 0), .lit (.int .i64 0), .lit (.int .i64 0), .lit (.int .i64 0), .lit (.int .i64 0), .lit (.int .i64 0), .lit (.bool false), .lit (.string ⟨#[]⟩)]⟩ := ⟨_, _, _, Try.type45, rfl, rfl, rfl, by kernel_rfl, by kernel_rfl, Try.underlying45, by kernel_rfl, ⟨_, rfl, by kernel_rfl, by kernel_rfl⟩⟩
theorem row49 : RowOk Try.prog cod T 49 ⟨1, 8, .int .u64, [.lit (.int .u64 0)]⟩ := ⟨_, _, _, Try.type49, rfl, rfl, rfl, by kernel_rfl, by kernel_rfl, Try.underlying49, by kernel_rfl, rfl⟩
theorem row50 : RowOk Try.prog cod T 50 ⟨1, 24, .slice 5 .byte, [.nil .byte]⟩ := ⟨_, _, _, Try.type50, rfl, rfl, rfl, by kernel_rfl, by kernel_rfl, Try.underlying50, by kernel_rfl, ⟨⟨rfl, _, Try.type5, by kernel_rfl, by kernel_rfl⟩, _, _, Try.type5, rfl, by kernel_rfl, by kernel_rfl, by decide⟩⟩
theorem row51 : RowOk Try.prog cod T 51 ⟨8, 8, .arr 8 5 .byte, [.lit (.int .u8 0), .lit (.int .u8 0), .lit (.int .u8 0), .lit (.int .u8 0), .lit (.int .u8 0), .lit (.int .u8 0), .lit (.int .u8 0), .lit (.int .u8 0)]⟩ := ⟨_, _, _, Try.type51, rfl, rfl, rfl, by kernel_rfl, by kernel_rfl, Try.underlying51, by kernel_rfl, ⟨rfl, ⟨_, Try.type5, by kernel_rfl, by kernel_rfl⟩, _, rfl, by kernel_rfl, by kernel_rfl⟩⟩
theorem row52 : RowOk Try.prog cod T 52 ⟨1, 8, .int .u64, [.lit (.int .u64 0)]⟩ := ⟨_, _, _, Try.type52, rfl, rfl, rfl, by kernel_rfl, by kernel_rfl, Try.underlying52, by kernel_rfl, rfl⟩
theorem row54 : RowOk Try.prog cod T 54 ⟨2, 24, .struct [(0, 9), (1, 4)], [.lit (.string ⟨#[]⟩), .lit (.bool false)]⟩ := ⟨_, _, _, Try.type54, rfl, rfl, rfl, by kernel_rfl, by kernel_rfl, Try.underlying54, by kernel_rfl, ⟨_, rfl, by kernel_rfl, by kernel_rfl⟩⟩
theorem row59 : RowOk Try.prog cod T 59 ⟨4, 40, .struct [(0, 54), (2, 4), (3, 3)], [.lit (.string ⟨#[]⟩), .lit (.bool false), .lit (.bool false), .lit (.int .i64 0)]⟩ := ⟨_, _, _, Try.type59, rfl, rfl, rfl, by kernel_rfl, by kernel_rfl, Try.underlying59, by kernel_rfl, ⟨_, rfl, by kernel_rfl, by kernel_rfl⟩⟩
theorem row66 : RowOk Try.prog cod T 66 ⟨2, 24, .struct [(0, 9), (1, 4)], [.lit (.string ⟨#[]⟩), .lit (.bool false)]⟩ := ⟨_, _, _, Try.type66, rfl, rfl, rfl, by kernel_rfl, by kernel_rfl, Try.underlying66, by kernel_rfl, ⟨_, rfl, by kernel_rfl, by kernel_rfl⟩⟩
theorem row68 : RowOk Try.prog cod T 68 ⟨4, 40, .struct [(0, 66), (2, 4), (3, 3)], [.lit (.string ⟨#[]⟩), .lit (.bool false), .lit (.bool false), .lit (.int .i64 0)]⟩ := ⟨_, _, _, Try.type68, rfl, rfl, rfl, by kernel_rfl, by kernel_rfl, Try.underlying68, by kernel_rfl, ⟨_, rfl, by kernel_rfl, by kernel_rfl⟩⟩
theorem row80 : RowOk Try.prog cod T 80 ⟨1, 4, .int .u32, [.lit (.int .u32 0)]⟩ := ⟨_, _, _, Try.type80, rfl, rfl, rfl, by kernel_rfl, by kernel_rfl, Try.underlying80, by kernel_rfl, rfl⟩
theorem row84 : RowOk Try.prog cod T 84 ⟨1, 8, .other, [.lit (.pointer none)]⟩ := ⟨_, _, _, Try.type84, rfl, rfl, rfl, by kernel_rfl, by kernel_rfl, Try.underlying84, by kernel_rfl, trivial⟩
theorem rows : ∀ e ∈ tbl, RowOk Try.prog cod T e.1 e.2 :=
  all_cons row2 (all_cons row3 (all_cons row4 (all_cons row5 (all_cons row9 (all_cons row12 (all_cons row21 (all_cons row25 (all_cons row30 (all_cons row32 (all_cons row35 (all_cons row37 (all_cons row42 (all_cons row45 (all_cons row49 (all_cons row50 (all_cons row51 (all_cons row52 (all_cons row54 (all_cons row59 (all_cons row66 (all_cons row68 (all_cons row80 (all_cons row84 (all_nil))))))))))))))))))))))))
theorem tok : TOk Try.prog cod T := TOk.of rows
theorem eok : EOk Try.prog cod T := EOk.of rows
theorem mixed : Try.prog.follows .mixedOrders = true := by kernel_rfl
end Km.X