/-
  Laws of the executor, and walks of functions (part 8). The conditions stand with each law.
-/
import Derived.Test.YthaigkamfnjfbaaChecked
import Derived.Test.YthaigkamfnjfbaaMtsg
namespace Go.Proofs.Ythaigkamfnjfbaa
open Go.Sx
theorem ti3 : TI.ok Try.prog 3 ⟨1, [.int .i64 0], .int .i64, none, some (.int .i64 0)⟩ := ⟨by kernel_rfl, by kernel_rfl, by kernel_rfl, (show (Try.prog.info? 3).map (·.zero) = some (some (.int .i64 0)) by kernel_rfl)⟩
theorem ti4 : TI.ok Try.prog 4 ⟨1, [.bool false], .bool, none, some (.bool false)⟩ := ⟨by kernel_rfl, by kernel_rfl, by kernel_rfl, (show (Try.prog.info? 4).map (·.zero) = some (some (.bool false)) by kernel_rfl)⟩
theorem ti5 : TI.ok Try.prog 5 ⟨1, [.int .u8 0], .int .u8, none, some (.int .u8 0)⟩ := ⟨by kernel_rfl, by kernel_rfl, by kernel_rfl, (show (Try.prog.info? 5).map (·.zero) = some (some (.int .u8 0)) by kernel_rfl)⟩
theorem ti22 : TI.ok Try.prog 22 ⟨1, [.slice none 0 0], .slc 5 1 1, none, some (.slice none 0 0)⟩ := ⟨by kernel_rfl, by kernel_rfl, by kernel_rfl, (show (Try.prog.info? 22).map (·.zero) = some (some (.slice none 0 0)) by kernel_rfl)⟩
theorem ti23 : TI.ok Try.prog 23 ⟨1, [.slice none 0 0], .slc 39 2 2, none, some (.slice none 0 0)⟩ := ⟨by kernel_rfl, by kernel_rfl, by kernel_rfl, (show (Try.prog.info? 23).map (·.zero) = some (some (.slice none 0 0)) by kernel_rfl)⟩
theorem ti25 : TI.ok Try.prog 25 ⟨7, [.int .u8 0, .int .u8 0, .int .u8 0, .slice none 0 0, .int .u8 0, .slice none 0 0, .int .u8 0], .str [(0, 1, false), (1, 1, false), (2, 1, false), (3, 1, false), (4, 1, false), (5, 1, false), (6, 1, false)], none, none⟩ := ⟨by kernel_rfl, by kernel_rfl, by kernel_rfl, trivial⟩
theorem ti27 : TI.ok Try.prog 27 ⟨3, [.int .i64 0, .int .i64 0, .int .i64 0], .str [(0, 1, false), (1, 1, false), (2, 1, false)], some 3, none⟩ := ⟨by kernel_rfl, by kernel_rfl, by kernel_rfl, trivial⟩
theorem ti28 : TI.ok Try.prog 28 ⟨1, [.slice none 0 0], .slc 3 1 8, none, some (.slice none 0 0)⟩ := ⟨by kernel_rfl, by kernel_rfl, by kernel_rfl, (show (Try.prog.info? 28).map (·.zero) = some (some (.slice none 0 0)) by kernel_rfl)⟩
theorem ti29 : TI.ok Try.prog 29 ⟨1, [.slice none 0 0], .slc 28 1 24, none, some (.slice none 0 0)⟩ := ⟨by kernel_rfl, by kernel_rfl, by kernel_rfl, (show (Try.prog.info? 29).map (·.zero) = some (some (.slice none 0 0)) by kernel_rfl)⟩
theorem ti30 : TI.ok Try.prog 30 ⟨1, [.slice none 0 0], .slc 45 2 16, none, some (.slice none 0 0)⟩ := ⟨by kernel_rfl, by kernel_rfl, by kernel_rfl, (show (Try.prog.info? 30).map (·.zero) = some (some (.slice none 0 0)) by kernel_rfl)⟩
theorem ti31 : TI.ok Try.prog 31 ⟨1, [.int .i64 0], .int .i64, none, some (.int .i64 0)⟩ := ⟨by kernel_rfl, by kernel_rfl, by kernel_rfl, (show (Try.prog.info? 31).map (·.zero) = some (some (.int .i64 0)) by kernel_rfl)⟩
theorem ti36 : TI.ok Try.prog 36 ⟨2, [.int .i64 0, .int .i64 0], .str [(0, 1, false), (1, 1, false)], some 2, none⟩ := ⟨by kernel_rfl, by kernel_rfl, by kernel_rfl, trivial⟩
theorem ti37 : TI.ok Try.prog 37 ⟨1, [.slice none 0 0], .slc 36 2 16, none, some (.slice none 0 0)⟩ := ⟨by kernel_rfl, by kernel_rfl, by kernel_rfl, (show (Try.prog.info? 37).map (·.zero) = some (some (.slice none 0 0)) by kernel_rfl)⟩
theorem ti38 : TI.ok Try.prog 38 ⟨1, [.map none], .map 36 4, none, some (.map none)⟩ := ⟨by kernel_rfl, by kernel_rfl, by kernel_rfl, (show (Try.prog.info? 38).map (·.zero) = some (some (.map none)) by kernel_rfl)⟩
theorem ti39 : TI.ok Try.prog 39 ⟨2, [.int .u8 0, .int .u8 0], .arr 2 1 false, none, none⟩ := ⟨by kernel_rfl, by kernel_rfl, by kernel_rfl, trivial⟩
theorem ti45 : TI.ok Try.prog 45 ⟨2, [.int .i64 0, .int .i64 0], .str [(0, 1, false), (1, 1, false)], some 2, none⟩ := ⟨by kernel_rfl, by kernel_rfl, by kernel_rfl, trivial⟩
theorem ti46 : TI.ok Try.prog 46 ⟨1, [.pointer none], .ptr, none, some (.pointer none)⟩ := ⟨by kernel_rfl, by kernel_rfl, by kernel_rfl, (show (Try.prog.info? 46).map (·.zero) = some (some (.pointer none)) by kernel_rfl)⟩
theorem ti54 : TI.ok Try.prog 54 ⟨1, [.slice none 0 0], .slc 88 8 64, none, some (.slice none 0 0)⟩ := ⟨by kernel_rfl, by kernel_rfl, by kernel_rfl, (show (Try.prog.info? 54).map (·.zero) = some (some (.slice none 0 0)) by kernel_rfl)⟩
theorem ti55 : TI.ok Try.prog 55 ⟨1, [.slice none 0 0], .slc 126 4 32, none, some (.slice none 0 0)⟩ := ⟨by kernel_rfl, by kernel_rfl, by kernel_rfl, (show (Try.prog.info? 55).map (·.zero) = some (some (.slice none 0 0)) by kernel_rfl)⟩
theorem ti57 : TI.ok Try.prog 57 ⟨3, [.slice none 0 0, .int .i64 0, .slice none 0 0], .str [(0, 1, false), (1, 1, false), (2, 1, false)], none, none⟩ := ⟨by kernel_rfl, by kernel_rfl, by kernel_rfl, trivial⟩
theorem ti61 : TI.ok Try.prog 61 ⟨1, [.map none], .map 45 4, none, some (.map none)⟩ := ⟨by kernel_rfl, by kernel_rfl, by kernel_rfl, (show (Try.prog.info? 61).map (·.zero) = some (some (.map none)) by kernel_rfl)⟩
theorem ti64 : TI.ok Try.prog 64 ⟨1, [.nilFunc], .fn, none, some (.nilFunc)⟩ := ⟨by kernel_rfl, by kernel_rfl, by kernel_rfl, (show (Try.prog.info? 64).map (·.zero) = some (some (.nilFunc)) by kernel_rfl)⟩
theorem ti67 : TI.ok Try.prog 67 ⟨2, [.bool false, .slice none 0 0], .str [(0, 1, false), (1, 1, false)], none, none⟩ := ⟨by kernel_rfl, by kernel_rfl, by kernel_rfl, trivial⟩
theorem ti75 : TI.ok Try.prog 75 ⟨2, [.int .i64 0, .int .i64 0], .str [(0, 1, false), (1, 1, false)], some 2, none⟩ := ⟨by kernel_rfl, by kernel_rfl, by kernel_rfl, trivial⟩
theorem ti82 : TI.ok Try.prog 82 ⟨3, [.slice none 0 0, .int .i64 0, .slice none 0 0], .str [(0, 3, true)], none, none⟩ := ⟨by kernel_rfl, by kernel_rfl, by kernel_rfl, trivial⟩
theorem ti88 : TI.ok Try.prog 88 ⟨8, [.int .i64 0, .int .i64 0, .int .i64 0, .int .i64 0, .int .i64 0, .int .i64 0, .int .i64 0, .int .i64 0], .str [(0, 1, false), (1, 1, false), (2, 1, false), (3, 1, false), (4, 1, false), (5, 1, false), (6, 1, false), (7, 1, false)], some 8, none⟩ := ⟨by kernel_rfl, by kernel_rfl, by kernel_rfl, trivial⟩
theorem ti91 : TI.ok Try.prog 91 ⟨1, [.pointer none], .ptr, none, some (.pointer none)⟩ := ⟨by kernel_rfl, by kernel_rfl, by kernel_rfl, (show (Try.prog.info? 91).map (·.zero) = some (some (.pointer none)) by kernel_rfl)⟩
theorem ti93 : TI.ok Try.prog 93 ⟨1, [.pointer none], .ptr, none, some (.pointer none)⟩ := ⟨by kernel_rfl, by kernel_rfl, by kernel_rfl, (show (Try.prog.info? 93).map (·.zero) = some (some (.pointer none)) by kernel_rfl)⟩
theorem ti95 : TI.ok Try.prog 95 ⟨1, [.slice none 0 0], .str [(0, 1, false)], none, none⟩ := ⟨by kernel_rfl, by kernel_rfl, by kernel_rfl, trivial⟩
theorem ti99 : TI.ok Try.prog 99 ⟨1, [.nilFunc], .fn, none, some (.nilFunc)⟩ := ⟨by kernel_rfl, by kernel_rfl, by kernel_rfl, (show (Try.prog.info? 99).map (·.zero) = some (some (.nilFunc)) by kernel_rfl)⟩
theorem ti101 : TI.ok Try.prog 101 ⟨1, [.pointer none], .ptr, none, some (.pointer none)⟩ := ⟨by kernel_rfl, by kernel_rfl, by kernel_rfl, (show (Try.prog.info? 101).map (·.zero) = some (some (.pointer none)) by kernel_rfl)⟩
theorem ti103 : TI.ok Try.prog 103 ⟨1, [.pointer none], .ptr, none, some (.pointer none)⟩ := ⟨by kernel_rfl, by kernel_rfl, by kernel_rfl, (show (Try.prog.info? 103).map (·.zero) = some (some (.pointer none)) by kernel_rfl)⟩
theorem ti106 : TI.ok Try.prog 106 ⟨1, [.pointer none], .ptr, none, some (.pointer none)⟩ := ⟨by kernel_rfl, by kernel_rfl, by kernel_rfl, (show (Try.prog.info? 106).map (·.zero) = some (some (.pointer none)) by kernel_rfl)⟩
theorem ti110 : TI.ok Try.prog 110 ⟨1, [.map none], .map 3 55, none, some (.map none)⟩ := ⟨by kernel_rfl, by kernel_rfl, by kernel_rfl, (show (Try.prog.info? 110).map (·.zero) = some (some (.map none)) by kernel_rfl)⟩
theorem ti111 : TI.ok Try.prog 111 ⟨1, [.map none], .map 3 55, none, some (.map none)⟩ := ⟨by kernel_rfl, by kernel_rfl, by kernel_rfl, (show (Try.prog.info? 111).map (·.zero) = some (some (.map none)) by kernel_rfl)⟩
theorem ti113 : TI.ok Try.prog 113 ⟨1, [.slice none 0 0], .slc 119 2 16, none, some (.slice none 0 0)⟩ := ⟨by kernel_rfl, by kernel_rfl, by kernel_rfl, (show (Try.prog.info? 113).map (·.zero) = some (some (.slice none 0 0)) by kernel_rfl)⟩
theorem ti114 : TI.ok Try.prog 114 ⟨16, [.slice none 0 0, .slice none 0 0, .slice none 0 0, .slice none 0 0, .slice none 0 0, .slice none 0 0, .slice none 0 0, .slice none 0 0, .slice none 0 0, .slice none 0 0, .slice none 0 0, .slice none 0 0, .slice none 0 0, .slice none 0 0, .slice none 0 0, .slice none 0 0], .arr 16 1 false, none, none⟩ := ⟨by kernel_rfl, by kernel_rfl, by kernel_rfl, trivial⟩
theorem ti115 : TI.ok Try.prog 115 ⟨16, [.slice none 0 0, .slice none 0 0, .slice none 0 0, .slice none 0 0, .slice none 0 0, .slice none 0 0, .slice none 0 0, .slice none 0 0, .slice none 0 0, .slice none 0 0, .slice none 0 0, .slice none 0 0, .slice none 0 0, .slice none 0 0, .slice none 0 0, .slice none 0 0], .arr 16 1 false, none, none⟩ := ⟨by kernel_rfl, by kernel_rfl, by kernel_rfl, trivial⟩
theorem ti117 : TI.ok Try.prog 117 ⟨22, [.slice none 0 0, .int .i64 0, .slice none 0 0, .map none, .int .i64 0, .slice none 0 0, .slice none 0 0, .slice none 0 0, .slice none 0 0, .slice none 0 0, .slice none 0 0, .slice none 0 0, .slice none 0 0, .slice none 0 0, .slice none 0 0, .slice none 0 0, .slice none 0 0, .slice none 0 0, .slice none 0 0, .slice none 0 0, .slice none 0 0, .slice none 0 0], .str [(0, 3, true), (3, 1, false), (4, 1, false), (5, 1, false), (6, 16, true)], none, none⟩ := ⟨by kernel_rfl, by kernel_rfl, by kernel_rfl, trivial⟩
theorem ti119 : TI.ok Try.prog 119 ⟨2, [.int .i64 0, .int .i64 0], .str [(0, 1, false), (1, 1, false)], some 2, none⟩ := ⟨by kernel_rfl, by kernel_rfl, by kernel_rfl, trivial⟩
theorem ti123 : TI.ok Try.prog 123 ⟨1, [.nilFunc], .fn, none, some (.nilFunc)⟩ := ⟨by kernel_rfl, by kernel_rfl, by kernel_rfl, (show (Try.prog.info? 123).map (·.zero) = some (some (.nilFunc)) by kernel_rfl)⟩
theorem ti126 : TI.ok Try.prog 126 ⟨4, [.int .i64 0, .int .i64 0, .int .i64 0, .int .i64 0], .str [(0, 1, false), (1, 1, false), (2, 1, false), (3, 1, false)], some 4, none⟩ := ⟨by kernel_rfl, by kernel_rfl, by kernel_rfl, trivial⟩
theorem ti136 : TI.ok Try.prog 136 ⟨11, [.int .i64 0, .int .i64 0, .int .i64 0, .int .i64 0, .int .i64 0, .int .i64 0, .int .i64 0, .int .i64 0, .int .i64 0, .int .i64 0, .nilFunc], .str [(0, 8, true), (8, 2, true), (10, 1, false)], none, none⟩ := ⟨by kernel_rfl, by kernel_rfl, by kernel_rfl, trivial⟩
theorem ti137 : TI.ok Try.prog 137 ⟨1, [.nilFunc], .fn, none, some (.nilFunc)⟩ := ⟨by kernel_rfl, by kernel_rfl, by kernel_rfl, (show (Try.prog.info? 137).map (·.zero) = some (some (.nilFunc)) by kernel_rfl)⟩
theorem ti139 : TI.ok Try.prog 139 ⟨2, [.int .i64 0, .nilFunc], .str [(0, 1, false), (1, 1, false)], none, none⟩ := ⟨by kernel_rfl, by kernel_rfl, by kernel_rfl, trivial⟩
theorem ti72 : TI.ok Try.prog 72 ⟨1, [.nilFunc], .fn, none, some (.nilFunc)⟩ := ⟨by kernel_rfl, by kernel_rfl, by kernel_rfl, (show (Try.prog.info? 72).map (·.zero) = some (some (.nilFunc)) by kernel_rfl)⟩
theorem ti85 : TI.ok Try.prog 85 ⟨1, [.nilFunc], .fn, none, some (.nilFunc)⟩ := ⟨by kernel_rfl, by kernel_rfl, by kernel_rfl, (show (Try.prog.info? 85).map (·.zero) = some (some (.nilFunc)) by kernel_rfl)⟩
theorem ti122 : TI.ok Try.prog 122 ⟨1, [.nilFunc], .fn, none, some (.nilFunc)⟩ := ⟨by kernel_rfl, by kernel_rfl, by kernel_rfl, (show (Try.prog.info? 122).map (·.zero) = some (some (.nilFunc)) by kernel_rfl)⟩
theorem ti131 : TI.ok Try.prog 131 ⟨1, [.pointer none], .ptr, none, some (.pointer none)⟩ := ⟨by kernel_rfl, by kernel_rfl, by kernel_rfl, (show (Try.prog.info? 131).map (·.zero) = some (some (.pointer none)) by kernel_rfl)⟩
theorem ti134 : TI.ok Try.prog 134 ⟨1, [.nilFunc], .fn, none, some (.nilFunc)⟩ := ⟨by kernel_rfl, by kernel_rfl, by kernel_rfl, (show (Try.prog.info? 134).map (·.zero) = some (some (.nilFunc)) by kernel_rfl)⟩
theorem ti98 : TI.ok Try.prog 98 ⟨1, [.nilFunc], .fn, none, some (.nilFunc)⟩ := ⟨by kernel_rfl, by kernel_rfl, by kernel_rfl, (show (Try.prog.info? 98).map (·.zero) = some (some (.nilFunc)) by kernel_rfl)⟩
theorem ti104 : TI.ok Try.prog 104 ⟨1, [.nilFunc], .fn, none, some (.nilFunc)⟩ := ⟨by kernel_rfl, by kernel_rfl, by kernel_rfl, (show (Try.prog.info? 104).map (·.zero) = some (some (.nilFunc)) by kernel_rfl)⟩
theorem ti127 : TI.ok Try.prog 127 ⟨1, [.nilFunc], .fn, none, some (.nilFunc)⟩ := ⟨by kernel_rfl, by kernel_rfl, by kernel_rfl, (show (Try.prog.info? 127).map (·.zero) = some (some (.nilFunc)) by kernel_rfl)⟩
theorem ti128 : TI.ok Try.prog 128 ⟨1, [.nilFunc], .fn, none, some (.nilFunc)⟩ := ⟨by kernel_rfl, by kernel_rfl, by kernel_rfl, (show (Try.prog.info? 128).map (·.zero) = some (some (.nilFunc)) by kernel_rfl)⟩
theorem ti9 : TI.ok Try.prog 9 ⟨1, [.string ⟨#[]⟩], .string, none, some (.string ⟨#[]⟩)⟩ := ⟨by kernel_rfl, by kernel_rfl, by kernel_rfl, (show (Try.prog.info? 9).map (·.zero) = some (some (.string ⟨#[]⟩)) by kernel_rfl)⟩
def tab : Tab := [(3, ⟨1, [.int .i64 0], .int .i64, none, some (.int .i64 0)⟩),
  (4, ⟨1, [.bool false], .bool, none, some (.bool false)⟩),
  (5, ⟨1, [.int .u8 0], .int .u8, none, some (.int .u8 0)⟩),
  (22, ⟨1, [.slice none 0 0], .slc 5 1 1, none, some (.slice none 0 0)⟩),
  (23, ⟨1, [.slice none 0 0], .slc 39 2 2, none, some (.slice none 0 0)⟩),
  (25, ⟨7, [.int .u8 0, .int .u8 0, .int .u8 0, .slice none 0 0, .int .u8 0, .slice none 0 0, .int .u8 0], .str [(0, 1, false), (1, 1, false), (2, 1, false), (3, 1, false), (4, 1, false), (5, 1, false), (6, 1, false)], none, none⟩),
  (27, ⟨3, [.int .i64 0, .int .i64 0, .int .i64 0], .str [(0, 1, false), (1, 1, false), (2, 1, false)], some 3, none⟩),
  (28, ⟨1, [.slice none 0 0], .slc 3 1 8, none, some (.slice none 0 0)⟩),
  (29, ⟨1, [.slice none 0 0], .slc 28 1 24, none, some (.slice none 0 0)⟩),
  (30, ⟨1, [.slice none 0 0], .slc 45 2 16, none, some (.slice none 0 0)⟩),
  (31, ⟨1, [.int .i64 0], .int .i64, none, some (.int .i64 0)⟩),
  (36, ⟨2, [.int .i64 0, .int .i64 0], .str [(0, 1, false), (1, 1, false)], some 2, none⟩),
  (37, ⟨1, [.slice none 0 0], .slc 36 2 16, none, some (.slice none 0 0)⟩),
  (38, ⟨1, [.map none], .map 36 4, none, some (.map none)⟩),
  (39, ⟨2, [.int .u8 0, .int .u8 0], .arr 2 1 false, none, none⟩),
  (45, ⟨2, [.int .i64 0, .int .i64 0], .str [(0, 1, false), (1, 1, false)], some 2, none⟩),
  (46, ⟨1, [.pointer none], .ptr, none, some (.pointer none)⟩),
  (54, ⟨1, [.slice none 0 0], .slc 88 8 64, none, some (.slice none 0 0)⟩),
  (55, ⟨1, [.slice none 0 0], .slc 126 4 32, none, some (.slice none 0 0)⟩),
  (57, ⟨3, [.slice none 0 0, .int .i64 0, .slice none 0 0], .str [(0, 1, false), (1, 1, false), (2, 1, false)], none, none⟩),
  (61, ⟨1, [.map none], .map 45 4, none, some (.map none)⟩),
  (64, ⟨1, [.nilFunc], .fn, none, some (.nilFunc)⟩),
  (67, ⟨2, [.bool false, .slice none 0 0], .str [(0, 1, false), (1, 1, false)], none, none⟩),
  (75, ⟨2, [.int .i64 0, .int .i64 0], .str [(0, 1, false), (1, 1, false)], some 2, none⟩),
  (82, ⟨3, [.slice none 0 0, .int .i64 0, .slice none 0 0], .str [(0, 3, true)], none, none⟩),
  (88, ⟨8, [.int .i64 0, .int .i64 0, .int .i64 0, .int .i64 0, .int .i64 0, .int .i64 0, .int .i64 0, .int .i64 0], .str [(0, 1, false), (1, 1, false), (2, 1, false), (3, 1, false), (4, 1, false), (5, 1, false), (6, 1, false), (7, 1, false)], some 8, none⟩),
  (91, ⟨1, [.pointer none], .ptr, none, some (.pointer none)⟩),
  (93, ⟨1, [.pointer none], .ptr, none, some (.pointer none)⟩),
  (95, ⟨1, [.slice none 0 0], .str [(0, 1, false)], none, none⟩),
  (99, ⟨1, [.nilFunc], .fn, none, some (.nilFunc)⟩),
  (101, ⟨1, [.pointer none], .ptr, none, some (.pointer none)⟩),
  (103, ⟨1, [.pointer none], .ptr, none, some (.pointer none)⟩),
  (106, ⟨1, [.pointer none], .ptr, none, some (.pointer none)⟩),
  (110, ⟨1, [.map none], .map 3 55, none, some (.map none)⟩),
  (111, ⟨1, [.map none], .map 3 55, none, some (.map none)⟩),
  (113, ⟨1, [.slice none 0 0], .slc 119 2 16, none, some (.slice none 0 0)⟩),
  (114, ⟨16, [.slice none 0 0, .slice none 0 0, .slice none 0 0, .slice none 0 0, .slice none 0 0, .slice none 0 0, .slice none 0 0, .slice none 0 0, .slice none 0 0, .slice none 0 0, .slice none 0 0, .slice none 0 0, .slice none 0 0, .slice none 0 0, .slice none 0 0, .slice none 0 0], .arr 16 1 false, none, none⟩),
  (115, ⟨16, [.slice none 0 0, .slice none 0 0, .slice none 0 0, .slice none 0 0, .slice none 0 0, .slice none 0 0, .slice none 0 0, .slice none 0 0, .slice none 0 0, .slice none 0 0, .slice none 0 0, .slice none 0 0, .slice none 0 0, .slice none 0 0, .slice none 0 0, .slice none 0 0], .arr 16 1 false, none, none⟩),
  (117, ⟨22, [.slice none 0 0, .int .i64 0, .slice none 0 0, .map none, .int .i64 0, .slice none 0 0, .slice none 0 0, .slice none 0 0, .slice none 0 0, .slice none 0 0, .slice none 0 0, .slice none 0 0, .slice none 0 0, .slice none 0 0, .slice none 0 0, .slice none 0 0, .slice none 0 0, .slice none 0 0, .slice none 0 0, .slice none 0 0, .slice none 0 0, .slice none 0 0], .str [(0, 3, true), (3, 1, false), (4, 1, false), (5, 1, false), (6, 16, true)], none, none⟩),
  (119, ⟨2, [.int .i64 0, .int .i64 0], .str [(0, 1, false), (1, 1, false)], some 2, none⟩),
  (123, ⟨1, [.nilFunc], .fn, none, some (.nilFunc)⟩),
  (126, ⟨4, [.int .i64 0, .int .i64 0, .int .i64 0, .int .i64 0], .str [(0, 1, false), (1, 1, false), (2, 1, false), (3, 1, false)], some 4, none⟩),
  (136, ⟨11, [.int .i64 0, .int .i64 0, .int .i64 0, .int .i64 0, .int .i64 0, .int .i64 0, .int .i64 0, .int .i64 0, .int .i64 0, .int .i64 0, .nilFunc], .str [(0, 8, true), (8, 2, true), (10, 1, false)], none, none⟩),
  (137, ⟨1, [.nilFunc], .fn, none, some (.nilFunc)⟩),
  (139, ⟨2, [.int .i64 0, .nilFunc], .str [(0, 1, false), (1, 1, false)], none, none⟩),
  (72, ⟨1, [.nilFunc], .fn, none, some (.nilFunc)⟩),
  (85, ⟨1, [.nilFunc], .fn, none, some (.nilFunc)⟩),
  (122, ⟨1, [.nilFunc], .fn, none, some (.nilFunc)⟩),
  (131, ⟨1, [.pointer none], .ptr, none, some (.pointer none)⟩),
  (134, ⟨1, [.nilFunc], .fn, none, some (.nilFunc)⟩),
  (98, ⟨1, [.nilFunc], .fn, none, some (.nilFunc)⟩),
  (104, ⟨1, [.nilFunc], .fn, none, some (.nilFunc)⟩),
  (127, ⟨1, [.nilFunc], .fn, none, some (.nilFunc)⟩),
  (128, ⟨1, [.nilFunc], .fn, none, some (.nilFunc)⟩),
  (9, ⟨1, [.string ⟨#[]⟩], .string, none, some (.string ⟨#[]⟩)⟩)]
theorem tab_ok : Tab.oks Try.prog tab := ⟨ti3, ti4, ti5, ti22, ti23, ti25, ti27, ti28, ti29, ti30, ti31, ti36, ti37, ti38, ti39, ti45, ti46, ti54, ti55, ti57, ti61, ti64, ti67, ti75, ti82, ti88, ti91, ti93, ti95, ti99, ti101, ti103, ti106, ti110, ti111, ti113, ti114, ti115, ti117, ti119, ti123, ti126, ti136, ti137, ti139, ti72, ti85, ti122, ti131, ti134, ti98, ti104, ti127, ti128, ti9, trivial⟩
abbrev cuts60 : List (Nat × Nat) := [(4, 6)]
abbrev cuts63 : List (Nat × Nat) := [(4, 28), (8, 12)]
set_option maxRecDepth 100000
theorem mixed : Try.prog.follows .mixedOrders = true := by kernel_rfl
theorem ent (f : FuncId) (fn : Func) (h1 : Try.prog.funcs[f]? = some fn) (h2 : (fn.name == "runtime.NumGoroutine") = false) (h3 : fn.body.isNone = false) : Enters Try.prog f := ⟨fn, h1, h2, h3⟩
/-- 'lo <= n && n <= hi'. -/
def wi (n lo hi : Int) : Bool := decide (lo ≤ n) && decide (n ≤ hi)
def F3_v (f : Int → Int → Int → Value) : List SV → Option SV
  | [.v (.int .i64 a), .v (.int .i64 b), .v (.int .i64 c)] => some (.v (f a b c))
  | _ => none
abbrev F3 (f : Int → Int → Int → Value) : Mem → List SV → Option (List Nat × SV) := plainF (F3_v f)
theorem PureV.of3 {g : FuncId} {f : Int → Int → Int → Value} (he : Enters Try.prog g) (h : ∀ a b c w, Calls Try.prog g #[.int .i64 a, .int .i64 b, .int .i64 c] w fun e w' => e = .returned (f a b c) ∧ Ext w w') : PureV Try.prog g (F3_v f) where
  ent := he
  sc S args v hv _ := by
    unfold F3_v at hv
    split at hv
    · obtain rfl := Option.some.inj hv; trivial
    · cases hv
  run ρ args v w hv := by
    unfold F3_v at hv
    split at hv
    · obtain rfl := Option.some.inj hv; exact h _ _ _ w
    · cases hv
theorem Pure.of3 {g : FuncId} {f : Int → Int → Int → Value} (he : Enters Try.prog g) (h : ∀ a b c w, Calls Try.prog g #[.int .i64 a, .int .i64 b, .int .i64 c] w fun e w' => e = .returned (f a b c) ∧ Ext w w') : Pure Try.prog g (F3 f) := (PureV.of3 he h).lift
theorem within_run (n lo hi : Int) (w : World) : Calls Try.prog 68 #[.int .i64 n, .int .i64 lo, .int .i64 hi] w fun e w' => e = .returned (.bool (wi n lo hi)) ∧ Ext w w' := by
  refine Run.start0 (tab := tab) (pf := []) (cuts := []) mixed tab_ok trivial Try.func68 rfl [.v (.int .i64 n), .v (.int .i64 lo), .v (.int .i64 hi)] 100 ⟨trivial, trivial, trivial, trivial⟩ rfl ?_
  conv => whnf
  cases h : decide (lo ≤ n)
  all_goals
    conv => whnf
    exact ⟨fun ρ w' hW _ => ⟨by simp [SV.conc, wi, h], hW.toExt⟩⟩
theorem within_pure : Pure Try.prog 68 (F3 fun n lo hi => .bool (wi n lo hi)) := Pure.of3 (ent _ _ Try.func68 (by kernel_rfl) rfl) within_run
theorem bounded_run (n lo hi : Int) (w : World) : Calls Try.prog 70 #[.int .i64 n, .int .i64 lo, .int .i64 hi] w fun e w' => e = .returned (.int .i64 (max lo (min hi n))) ∧ Ext w w' := by
  refine Run.start0 (tab := tab) (pf := []) (cuts := []) mixed tab_ok trivial Try.func70 rfl [.v (.int .i64 n), .v (.int .i64 lo), .v (.int .i64 hi)] 100 ⟨trivial, trivial, trivial, trivial⟩ rfl ?_
  conv => whnf
  exact ⟨fun ρ w' hW _ => ⟨rfl, hW.toExt⟩⟩
theorem bounded_pure : Pure Try.prog 70 (F3 fun n lo hi => .int .i64 (max lo (min hi n))) := Pure.of3 (ent _ _ Try.func70 (by kernel_rfl) rfl) bounded_run
structure Prm where
  lk : Int
  leak : Int
  bias : Int
  thr : Int
  rk : Int
  reset : Int
  floor : Int
  rest : Int
abbrev ii (n : Int) : SV := .v (.int .i64 n)
def Prm.cells (p : Prm) : List SV := [ii p.lk, ii p.leak, ii p.bias, ii p.thr, ii p.rk, ii p.reset, ii p.floor, ii p.rest]
def Prm.sv (p : Prm) : SV := .agg p.cells
def prmOf : List SV → Option Prm
  | [.v (.int .i64 a), .v (.int .i64 b), .v (.int .i64 c), .v (.int .i64 d), .v (.int .i64 e), .v (.int .i64 f), .v (.int .i64 g), .v (.int .i64 h)] => some ⟨a, b, c, d, e, f, g, h⟩
  | _ => none
theorem prmOf_eq {l : List SV} {p : Prm} (h : prmOf l = some p) : l = p.cells := by
  unfold prmOf at h
  split at h
  · obtain rfl := Option.some.inj h; rfl
  · cases h
def lfun (k : Int) : Value := if k = 0 then .func (.func 71) #[] #[] else if k = 1 then .func (.func 72) #[] #[] else .func (.func 73) #[] #[]
def Fleaks_v : List SV → Option SV
  | [.v (.int .i64 k)] => match k == 0 with
    | true => some (.tup [.agg [ii 0, .v (.func (.func 71) #[] #[])], .v (.bool true)])
    | false => match k == 1 with
      | true => some (.tup [.agg [ii 1048576, .v (.func (.func 72) #[] #[])], .v (.bool true)])
      | false => match k == 2 with
        | true => some (.tup [.agg [ii 256, .v (.func (.func 73) #[] #[])], .v (.bool true)])
        | false => some (.tup [.agg [ii 0, .v .nilFunc], .v (.bool false)])
  | _ => none
abbrev Fleaks : Mem → List SV → Option (List Nat × SV) := plainF (Fleaks_v)
theorem leaks_run (ρ : Env) (k : Int) (w : World) (v : SV) (hv : Fleaks_v [ii k] = some v) : Calls Try.prog 67 #[.int .i64 k] w fun e w' => e = .returned (v.conc ρ) ∧ Ext w w' := by
  refine Run.start0 (tab := tab) (pf := []) (cuts := []) mixed tab_ok trivial Try.func67 rfl [ii k] 200 ⟨trivial, trivial⟩ rfl ?_
  simp only [Fleaks_v, ii] at hv
  conv => whnf
  cases h0 : k == 0
  · conv => whnf
    cases h1 : k == 1
    · conv => whnf
      cases h2 : k == 2
      · conv => whnf
        simp only [h0, h1, h2, Option.some.injEq] at hv
        subst hv
        exact ⟨fun ρ w' hW _ => ⟨rfl, hW.toExt⟩⟩
      · conv => whnf
        simp only [h0, h1, h2, Option.some.injEq] at hv
        subst hv
        exact ⟨fun ρ w' hW _ => ⟨rfl, hW.toExt⟩⟩
    · conv => whnf
      simp only [h0, h1, Option.some.injEq] at hv
      subst hv
      exact ⟨fun ρ w' hW _ => ⟨rfl, hW.toExt⟩⟩
  · conv => whnf
    simp only [h0, Option.some.injEq] at hv
    subst hv
    exact ⟨fun ρ w' hW _ => ⟨rfl, hW.toExt⟩⟩
theorem leaks_pure_v : PureV Try.prog 67 Fleaks_v where
  ent := ent _ _ Try.func67 (by kernel_rfl) rfl
  sc S args v hv _ := by
    unfold Fleaks_v at hv
    split at hv
    · repeat' (split at hv)
      all_goals (obtain rfl := Option.some.inj hv; simp [SV.sc, SV.scs])
    · cases hv
  run ρ args v w hv := by
    have hv' := hv
    unfold Fleaks_v at hv'
    split at hv'
    · exact leaks_run ρ _ w v hv
    · cases hv'
theorem leaks_pure : Pure Try.prog 67 Fleaks := (leaks_pure_v).lift
def W (n : Int) : Int := IntKind.i64.wrap n
/-- What the leak of kind 'k' makes of a potential, as the code reckons it. -/
def leakW (k l v : Int) : Int := if k = 0 then v else if k = 1 then (if v < 0 then min 0 (W (v + l)) else max 0 (W (v - l))) else W (v - W ((W (v * l)).tdiv 256))
def FPI_v (f : Prm → Int → Value) : List SV → Option SV
  | [x, .v (.int .i64 v)] => match prmOf x.cells with
    | some p => some (.v (f p v))
    | none => none
  | _ => none
abbrev FPI (f : Prm → Int → Value) : Mem → List SV → Option (List Nat × SV) := plainF (FPI_v f)
theorem prm_conc {x : SV} {p : Prm} (ρ : Env) (h : prmOf x.cells = some p) : x.conc ρ = .agg (SV.concs ρ p.cells).toArray := by
  have := prmOf_eq h
  cases x with
  | agg cs => simp only [SV.cells] at this; subst this; rfl
  | v y =>
    cases y with
    | agg cs =>
      simp only [SV.cells] at this
      have h2 := congrArg (SV.concs ρ) this
      rw [concs_v] at h2
      simp only [SV.conc, ← h2, Array.toArray_toList]
    | _ => simp [SV.cells, Prm.cells] at this
  | _ => simp [SV.cells, Prm.cells] at this
theorem leak1_run (p : Prm) (v : Int) (w : World) : Calls Try.prog 71 #[p.sv.conc env0, .int .i64 v] w fun e w' => e = .returned (.int .i64 v) ∧ Ext w w' := by
  refine Run.start0 (tab := tab) (pf := []) (cuts := []) mixed tab_ok trivial Try.func71 rfl [p.sv, ii v] 200 (by simp [SV.scs, SV.sc, Prm.sv, Prm.cells]) rfl ?_
  conv => whnf
  exact ⟨fun ρ w' hW _ => ⟨rfl, hW.toExt⟩⟩
theorem leak2_run (p : Prm) (v : Int) (w : World) : Calls Try.prog 72 #[p.sv.conc env0, .int .i64 v] w fun e w' => e = .returned (.int .i64 (if v < 0 then min 0 (W (v + p.leak)) else max 0 (W (v - p.leak)))) ∧ Ext w w' := by
  refine Run.start0 (tab := tab) (pf := []) (cuts := []) mixed tab_ok trivial Try.func72 rfl [p.sv, ii v] 200 (by simp [SV.scs, SV.sc, Prm.sv, Prm.cells]) rfl ?_
  conv => whnf
  cases h : decide (v < 0)
  · conv => whnf
    have : ¬ v < 0 := of_decide_eq_false h
    exact ⟨fun ρ w' hW _ => ⟨by rw [if_neg this]; rfl, hW.toExt⟩⟩
  · conv => whnf
    have : v < 0 := of_decide_eq_true h
    exact ⟨fun ρ w' hW _ => ⟨by rw [if_pos this]; rfl, hW.toExt⟩⟩
theorem leak3_run (p : Prm) (v : Int) (w : World) : Calls Try.prog 73 #[p.sv.conc env0, .int .i64 v] w fun e w' => e = .returned (.int .i64 (W (v - W ((W (v * p.leak)).tdiv 256)))) ∧ Ext w w' := by
  refine Run.start0 (tab := tab) (pf := []) (cuts := []) mixed tab_ok trivial Try.func73 rfl [p.sv, ii v] 200 (by simp [SV.scs, SV.sc, Prm.sv, Prm.cells]) rfl ?_
  conv => whnf
  refine ⟨by decide, ?_⟩
  conv => whnf
  exact ⟨fun ρ w' hW _ => ⟨rfl, hW.toExt⟩⟩
theorem PureV.ofPI {g : FuncId} {f : Prm → Int → Value} (he : Enters Try.prog g) (h : ∀ (p : Prm) v w, Calls Try.prog g #[p.sv.conc env0, .int .i64 v] w fun e w' => e = .returned (f p v) ∧ Ext w w') : PureV Try.prog g (FPI_v f) where
  ent := he
  sc S args v hv _ := by
    unfold FPI_v at hv
    split at hv
    · split at hv
      · obtain rfl := Option.some.inj hv; trivial
      · cases hv
    · cases hv
  run ρ args v w hv := by
    unfold FPI_v at hv
    split at hv
    · split at hv
      · rename_i x n _ p hp
        obtain rfl := Option.some.inj hv
        have := h p n w
        simp only [SV.concs, prm_conc ρ hp]
        exact this
      · cases hv
    · cases hv
theorem Pure.ofPI {g : FuncId} {f : Prm → Int → Value} (he : Enters Try.prog g) (h : ∀ (p : Prm) v w, Calls Try.prog g #[p.sv.conc env0, .int .i64 v] w fun e w' => e = .returned (f p v) ∧ Ext w w') : Pure Try.prog g (FPI f) := (PureV.ofPI he h).lift
theorem leak1_pure : Pure Try.prog 71 (FPI fun _ v => .int .i64 v) := Pure.ofPI (ent _ _ Try.func71 (by kernel_rfl) rfl) leak1_run
theorem leak2_pure : Pure Try.prog 72 (FPI fun p v => .int .i64 (if v < 0 then min 0 (W (v + p.leak)) else max 0 (W (v - p.leak)))) := Pure.ofPI (ent _ _ Try.func72 (by kernel_rfl) rfl) leak2_run
theorem leak3_pure : Pure Try.prog 73 (FPI fun p v => .int .i64 (W (v - W ((W (v * p.leak)).tdiv 256)))) := Pure.ofPI (ent _ _ Try.func73 (by kernel_rfl) rfl) leak3_run
def most (k : Int) : Int := if k = 0 then 0 else if k = 1 then 1048576 else 256
/-- Neuron's error: 0 (none), 2 (ErrArg), 3 (ErrRange). -/
def chk (p : Prm) : Int :=
  if !(p.lk == 0 || p.lk == 1 || p.lk == 2) || !wi p.rk 0 1 then 2
  else if !wi p.leak (min 1 (most p.lk)) (most p.lk) || !wi p.bias (-1048576) 1048576 || !wi p.floor (-1048576) 0 || !wi p.thr 1 1048576 || !wi p.rest 0 64 ||
    !wi p.reset (if p.rk == 1 then 0 else p.floor) (if p.rk == 1 then 0 else W (p.thr - 1)) then 3 else 0
abbrev pf1 : PF := [(68, F3 fun n lo hi => .bool (wi n lo hi)), (70, F3 fun n lo hi => .int .i64 (max lo (min hi n))), (67, Fleaks)]
theorem pf1_ok : PF.oks Try.prog pf1 := ⟨within_pure, bounded_pure, leaks_pure, trivial⟩
theorem check_known (p : Prm) (hk : p.lk = 0 ∨ p.lk = 1 ∨ p.lk = 2) (w : World) : Calls Try.prog 60 #[p.sv.conc env0] w fun e w' => e = .returned (.int .i64 (chk p)) ∧ Ext w w' := by
  obtain ⟨lk, leak, bias, thr, rk, reset, floor, rest⟩ := p
  have fin : ∀ x : Int, chk ⟨lk, leak, bias, thr, rk, reset, floor, rest⟩ = x → ∀ {c : Cx} {M : List (Nat × SObj)} {n : Nat}, c.w0 = w → c.L = [] → RetOk c M n (.v (.int .i64 x)) (fun e w' => e = .returned (.int .i64 (chk ⟨lk, leak, bias, thr, rk, reset, floor, rest⟩)) ∧ Ext w w') :=
    fun x hx c M n hw hL => ⟨fun ρ w' hW _ => ⟨by rw [hx]; rfl, by rw [hw, hL] at hW; exact hW.toExt⟩⟩
  rcases hk with hk | hk | hk
  all_goals
    simp only at hk
    subst hk
    refine Run.start0 (tab := tab) (pf := pf1) (cuts := cuts60) mixed tab_ok pf1_ok Try.func60 rfl [.agg [ii _, ii leak, ii bias, ii thr, ii rk, ii reset, ii floor, ii rest]] 1000 (by simp [SV.scs, SV.sc]) rfl ?_
    conv => whnf
    cases h0 : wi rk 0 1
    · conv => whnf
      exact fin 2 (by simp [chk, h0]) rfl rfl
    · conv => whnf
      refine ⟨by kernel_rfl, ?_⟩
      conv => whnf
      cases h1 : rk == 1
      all_goals
        conv => whnf
        iterate 6
          all_goals try (split <;> (rename_i h; (try simp only [h]); conv => whnf))
        all_goals first
          | exact fin 3 (by simp only [chk, most, h0, h1]; clear h0 h1; simp [W, *]) rfl rfl
          | exact fin 0 (by simp only [chk, most, h0, h1]; clear h0 h1; simp [W, *]) rfl rfl
theorem check_other (p : Prm) (h0 : (p.lk == 0) = false) (h1 : (p.lk == 1) = false) (h2 : (p.lk == 2) = false) (w : World) : Calls Try.prog 60 #[p.sv.conc env0] w fun e w' => e = .returned (.int .i64 (chk p)) ∧ Ext w w' := by
  obtain ⟨lk, leak, bias, thr, rk, reset, floor, rest⟩ := p
  simp only at h0 h1 h2
  refine Run.start0 (tab := tab) (pf := []) (cuts := cuts60) mixed tab_ok trivial Try.func60 rfl [.agg [ii lk, ii leak, ii bias, ii thr, ii rk, ii reset, ii floor, ii rest]] 1000 (by simp [SV.scs, SV.sc]) rfl ?_
  conv => whnf
  refine Run.callE (vs := [ii lk]) (caps := []) (.tup [.agg [ii 0, .v .nilFunc], .v (.bool false)]) (fun ρ w _ => leaks_run ρ lk w _ ?_) leaks_pure.ent rfl rfl rfl rfl rfl rfl rfl (by simp [SV.sc, SV.scs]) ?_
  · simp [Fleaks_v, h0, h1, h2]
  · refine Run.of_wpK ⟨tab_ok, (show PF.oks Try.prog [] from trivial), Try.func60, mixed, fun _ h => by cases h⟩ 1000 _ ?_
    conv => whnf
    exact ⟨fun ρ w' hW _ => ⟨by simp [chk, h0, h1, h2, SV.conc], hW.toExt⟩⟩
theorem check_run (p : Prm) (w : World) : Calls Try.prog 60 #[p.sv.conc env0] w fun e w' => e = .returned (.int .i64 (chk p)) ∧ Ext w w' := by
  by_cases h : p.lk = 0 ∨ p.lk = 1 ∨ p.lk = 2
  · exact check_known p h w
  · exact check_other p (by simp; omega) (by simp; omega) (by simp; omega) w
def FP_v (f : Prm → Value) : List SV → Option SV
  | [x] => match prmOf x.cells with
    | some p => some (.v (f p))
    | none => none
  | _ => none
abbrev FP (f : Prm → Value) : Mem → List SV → Option (List Nat × SV) := plainF (FP_v f)
theorem PureV.ofP {g : FuncId} {f : Prm → Value} (he : Enters Try.prog g) (h : ∀ (p : Prm) w, Calls Try.prog g #[p.sv.conc env0] w fun e w' => e = .returned (f p) ∧ Ext w w') : PureV Try.prog g (FP_v f) where
  ent := he
  sc S args v hv _ := by
    unfold FP_v at hv
    split at hv
    · split at hv
      · obtain rfl := Option.some.inj hv; trivial
      · cases hv
    · cases hv
  run ρ args v w hv := by
    unfold FP_v at hv
    split at hv
    · split at hv
      · rename_i x _ p hp
        obtain rfl := Option.some.inj hv
        have := h p w
        simp only [SV.concs, prm_conc ρ hp]
        exact this
      · cases hv
    · cases hv
theorem Pure.ofP {g : FuncId} {f : Prm → Value} (he : Enters Try.prog g) (h : ∀ (p : Prm) w, Calls Try.prog g #[p.sv.conc env0] w fun e w' => e = .returned (f p) ∧ Ext w w') : Pure Try.prog g (FP f) := (PureV.ofP he h).lift
theorem check_pure : Pure Try.prog 60 (FP fun p => .int .i64 (chk p)) := Pure.ofP (ent _ _ Try.func60 (by kernel_rfl) rfl) check_run
structure Ste where
  v : Int
  rest : Int
def Ste.cells (s : Ste) : List SV := [ii s.v, ii s.rest]
def Ste.sv (s : Ste) : SV := .agg s.cells
def steOf : List SV → Option Ste
  | [.v (.int .i64 a), .v (.int .i64 b)] => some ⟨a, b⟩
  | _ => none
theorem steOf_eq {l : List SV} {s : Ste} (h : steOf l = some s) : l = s.cells := by
  unfold steOf at h
  split at h
  · obtain rfl := Option.some.inj h; rfl
  · cases h
theorem ste_conc {x : SV} {s : Ste} (ρ : Env) (h : steOf x.cells = some s) : x.conc ρ = .agg (SV.concs ρ s.cells).toArray := by
  have := steOf_eq h
  cases x with
  | agg cs => simp only [SV.cells] at this; subst this; rfl
  | v y =>
    cases y with
    | agg cs =>
      simp only [SV.cells] at this
      have h2 := congrArg (SV.concs ρ) this
      rw [concs_v] at h2
      simp only [SV.conc, ← h2, Array.toArray_toList]
    | _ => simp [SV.cells, Ste.cells] at this
  | _ => simp [SV.cells, Ste.cells] at this
def vld (p : Prm) (s : Ste) : Int := if chk p != 0 then chk p else if !wi s.v p.floor 1048576 || !wi s.rest 0 p.rest then 3 else 0
abbrev pf2 : PF := (60, FP fun p => .int .i64 (chk p)) :: pf1
theorem pf2_ok : PF.oks Try.prog pf2 := ⟨check_pure, pf1_ok⟩
theorem valid_run (p : Prm) (s : Ste) (w : World) : Calls Try.prog 69 #[p.sv.conc env0, s.sv.conc env0] w fun e w' => e = .returned (.int .i64 (vld p s)) ∧ Ext w w' := by
  obtain ⟨lk, leak, bias, thr, rk, reset, floor, rest⟩ := p
  obtain ⟨sv, sr⟩ := s
  refine Run.start0 (tab := tab) (pf := pf2) (cuts := []) mixed tab_ok pf2_ok Try.func69 rfl [.agg [ii lk, ii leak, ii bias, ii thr, ii rk, ii reset, ii floor, ii rest], .agg [ii sv, ii sr]] 1000 (by simp [SV.scs, SV.sc]) rfl ?_
  conv => whnf
  cases hc : chk ⟨lk, leak, bias, thr, rk, reset, floor, rest⟩ != 0
  · conv => whnf
    cases h1 : wi sv floor 1048576
    · conv => whnf
      exact ⟨fun ρ w' hW _ => ⟨by simp only [vld, hc, h1]; rfl, hW.toExt⟩⟩
    · conv => whnf
      cases h2 : wi sr 0 rest
      all_goals
        conv => whnf
        exact ⟨fun ρ w' hW _ => ⟨by simp only [vld, hc, h1, h2]; rfl, hW.toExt⟩⟩
  · conv => whnf
    exact ⟨fun ρ w' hW _ => ⟨by simp only [vld, hc]; rfl, hW.toExt⟩⟩
def FPS_v (f : Prm → Ste → Value) : List SV → Option SV
  | [x, y] => match prmOf x.cells with
    | some p => match steOf y.cells with
      | some s => some (.v (f p s))
      | none => none
    | none => none
  | _ => none
abbrev FPS (f : Prm → Ste → Value) : Mem → List SV → Option (List Nat × SV) := plainF (FPS_v f)
theorem PureV.ofPS {g : FuncId} {f : Prm → Ste → Value} (he : Enters Try.prog g) (h : ∀ (p : Prm) (s : Ste) w, Calls Try.prog g #[p.sv.conc env0, s.sv.conc env0] w fun e w' => e = .returned (f p s) ∧ Ext w w') : PureV Try.prog g (FPS_v f) where
  ent := he
  sc S args v hv _ := by
    unfold FPS_v at hv
    split at hv
    · split at hv
      · split at hv
        · obtain rfl := Option.some.inj hv; trivial
        · cases hv
      · cases hv
    · cases hv
  run ρ args v w hv := by
    unfold FPS_v at hv
    split at hv
    · split at hv
      · rename_i x y _ p hp
        split at hv
        · rename_i s hs
          obtain rfl := Option.some.inj hv
          have := h p s w
          simp only [SV.concs, prm_conc ρ hp, ste_conc ρ hs]
          exact this
        · cases hv
      · cases hv
    · cases hv
theorem Pure.ofPS {g : FuncId} {f : Prm → Ste → Value} (he : Enters Try.prog g) (h : ∀ (p : Prm) (s : Ste) w, Calls Try.prog g #[p.sv.conc env0, s.sv.conc env0] w fun e w' => e = .returned (f p s) ∧ Ext w w') : Pure Try.prog g (FPS f) := (PureV.ofPS he h).lift
theorem valid_pure : Pure Try.prog 69 (FPS fun p s => .int .i64 (vld p s)) := Pure.ofPS (ent _ _ Try.func69 (by kernel_rfl) rfl) valid_run
abbrev pf3 : PF := (69, FPS fun p s => .int .i64 (vld p s)) :: pf2
theorem pf3_ok : PF.oks Try.prog pf3 := ⟨valid_pure, pf2_ok⟩
theorem chk_known {p : Prm} (h : chk p = 0) : p.lk = 0 ∨ p.lk = 1 ∨ p.lk = 2 := by
  unfold chk at h
  split at h
  · cases h
  · rename_i hn
    simp at hn
    omega
theorem vld_zero {p : Prm} {s : Ste} (h : vld p s = 0) : chk p = 0 ∧ wi s.v p.floor 1048576 = true ∧ wi s.rest 0 p.rest = true := by
  unfold vld at h
  split at h
  · rename_i hn; simp [h] at hn
  · rename_i hn
    split at h
    · cases h
    · rename_i h2; simp at hn h2; exact ⟨hn, h2⟩
/-- The cell's contents. -/
def cellOf (p : Prm) (s : Ste) : List SV := p.cells ++ s.cells ++ [.v (lfun p.lk)]
def CellAt (b : Nat) (p : Prm) (s : Ste) (w : World) : Prop := w.heap[b]? = some (.cells (SV.concs env0 (cellOf p s)).toArray 136 (0, 0))
theorem newCell_bad (p : Prm) (s : Ste) (h : vld p s ≠ 0) (w : World) : Calls Try.prog 62 #[p.sv.conc env0, s.sv.conc env0] w fun e w' => e = .returned (.tuple #[.pointer none, .int .i64 (vld p s)]) ∧ Ext w w' := by
  obtain ⟨lk, leak, bias, thr, rk, reset, floor, rest⟩ := p
  obtain ⟨sv, sr⟩ := s
  refine Run.start0 (tab := tab) (pf := pf3) (cuts := []) mixed tab_ok pf3_ok Try.func62 rfl [.agg [ii lk, ii leak, ii bias, ii thr, ii rk, ii reset, ii floor, ii rest], .agg [ii sv, ii sr]] 1000 (by simp [SV.scs, SV.sc]) rfl ?_
  conv => whnf
  cases hc : vld ⟨lk, leak, bias, thr, rk, reset, floor, rest⟩ ⟨sv, sr⟩ != 0
  · exact absurd (by simpa using hc) h
  · conv => whnf
    exact ⟨fun ρ w' hW _ => ⟨rfl, hW.toExt⟩⟩
theorem newCell_ok (p : Prm) (s : Ste) (h : vld p s = 0) (w : World) : Calls Try.prog 62 #[p.sv.conc env0, s.sv.conc env0] w fun e w' =>
    ∃ b, e = .returned (.tuple #[.pointer (some ⟨b, 0, none⟩), .int .i64 0]) ∧ Ext w w' ∧ w.heap.size ≤ b ∧ CellAt b p s w' := by
  have hk := chk_known (vld_zero h).1
  obtain ⟨lk, leak, bias, thr, rk, reset, floor, rest⟩ := p
  obtain ⟨sv, sr⟩ := s
  rcases hk with hk | hk | hk
  all_goals
    simp only at hk
    subst hk
    refine Run.start0 (tab := tab) (pf := pf3) (cuts := []) mixed tab_ok pf3_ok Try.func62 rfl [.agg [ii _, ii leak, ii bias, ii thr, ii rk, ii reset, ii floor, ii rest], .agg [ii sv, ii sr]] 1000 (by simp [SV.scs, SV.sc]) rfl ?_
    conv => whnf
    split
    · rename_i hc; exfalso; rw [h] at hc; cases hc
    · conv => whnf
      refine ⟨fun ρ w' hW _ => ?_⟩
      obtain ⟨_, _, ho, hh⟩ := hW.mem 3 _ rfl
      have hn := hW.new 3 _ rfl trivial
      refine ⟨ρ.s 3, ?_, hW.toExt, ?_, hh⟩
      · show Ending.returned (.tuple #[.pointer (some ⟨ρ.s 3, ρ.o 3 + 0, none⟩), .int .i64 0]) = _
        rw [ho]
      · rcases hn with ⟨q, hq, _⟩ | hn
        · cases hq
        · exact hn
def stepV (p : Prm) (s : Ste) (x : Int) : Int := max p.floor (min 1048576 (W (W (leakW p.lk p.leak s.v + p.bias) + max (-4194304) (min 4194304 x))))
def stepS (p : Prm) (s : Ste) (x : Int) : Ste :=
  if 0 < s.rest then ⟨s.v, W (s.rest - 1)⟩
  else if stepV p s x < p.thr then ⟨stepV p s x, s.rest⟩
  else if p.rk = 1 then ⟨W (stepV p s x - p.thr), p.rest⟩ else ⟨p.reset, p.rest⟩
def stepB (p : Prm) (s : Ste) (x : Int) : Bool := if 0 < s.rest then false else if stepV p s x < p.thr then false else true
def envB (b : Nat) : Env := ⟨fun _ => b, fun _ => 0, fun _ => (none, 0, 0)⟩
abbrev pf4 : PF := (71, FPI fun _ v => .int .i64 v) :: (72, FPI fun p v => .int .i64 (if v < 0 then min 0 (W (v + p.leak)) else max 0 (W (v - p.leak)))) ::
  (73, FPI fun p v => .int .i64 (W (v - W ((W (v * p.leak)).tdiv 256)))) :: pf3
theorem pf4_ok : PF.oks Try.prog pf4 := ⟨leak1_pure, leak2_pure, leak3_pure, pf3_ok⟩
theorem tick_run (p : Prm) (s : Ste) (x : Int) (hk : p.lk = 0 ∨ p.lk = 1 ∨ p.lk = 2) (b : Nat) (w : World) (hb : CellAt b p s w) : Calls Try.prog 63 #[.pointer (some ⟨b, 0, none⟩), .int .i64 x] w fun e w' =>
    e = .returned (.bool (stepB p s x)) ∧ Mod w b w' ∧ CellAt b p (stepS p s x) w' := by
  obtain ⟨lk, leak, bias, thr, rk, reset, floor, rest⟩ := p
  obtain ⟨sv, sr⟩ := s
  have hW0 := WI.startL (w := w) (i := 0) (b := b) (n := 1) (ρ := envB b) (o := .cells (cellOf ⟨lk, leak, bias, thr, rk, reset, floor, rest⟩ ⟨sv, sr⟩) 136) (by omega) rfl (by simp [SObj.sc, cellOf, Prm.cells, Ste.cells, SV.scs, SV.sc]) ⟨rfl, hb⟩
  have fin : ∀ {c : Cx} {M : List (Nat × SObj)} {n : Nat} {v r : Int} {bb : Bool}, c.w0 = w → c.L = [(0, b)] → Sx.look M 0 = some (.cells (cellOf ⟨lk, leak, bias, thr, rk, reset, floor, rest⟩ ⟨v, r⟩) 136) →
      stepS ⟨lk, leak, bias, thr, rk, reset, floor, rest⟩ ⟨sv, sr⟩ x = ⟨v, r⟩ → stepB ⟨lk, leak, bias, thr, rk, reset, floor, rest⟩ ⟨sv, sr⟩ x = bb →
      RetOk c M n (.v (.bool bb)) (fun e w' => e = .returned (.bool (stepB ⟨lk, leak, bias, thr, rk, reset, floor, rest⟩ ⟨sv, sr⟩ x)) ∧ Sx.Mod w b w' ∧ CellAt b ⟨lk, leak, bias, thr, rk, reset, floor, rest⟩ (stepS ⟨lk, leak, bias, thr, rk, reset, floor, rest⟩ ⟨sv, sr⟩ x) w') := by
    intro c M n v r bb hw hL hM h1 h2
    refine ⟨fun ρ w' hW _ => ?_⟩
    rw [hw, hL] at hW
    have hs : ρ.s 0 = b := (hW.lid (0, b) (by simp)).2
    have hh := (hW.mem 0 _ hM).2.2.2
    rw [hs] at hh
    exact ⟨by rw [h2]; rfl, hW.toMod, by rw [h1]; exact hh⟩
  rcases hk with hk | hk | hk
  all_goals
    simp only at hk
    subst hk
    refine Run.calls (tab := tab) (pf := pf4) (cuts := cuts63) Try.func63 rfl (envB b) [.ptr 0 0, ii x] _ 1 (by simp [SV.scs, SV.sc]) rfl hW0 (Run.of_wpK ⟨tab_ok, pf4_ok, Try.func63, mixed, fun _ h => by cases h⟩ 2000 _ ?_)
    conv => whnf
    split
    · rename_i h0
      conv => whnf
      have h0 := of_decide_eq_true h0
      exact fin rfl rfl rfl (by simp only [stepS]; rw [if_pos h0]) (by simp only [stepB]; rw [if_pos h0])
    · rename_i h0
      conv => whnf
      have h0 := of_decide_eq_false h0
      refine ⟨by kernel_rfl, ?_⟩
      conv => whnf
      split
      · rename_i h1
        have h1 := of_decide_eq_true h1
        simp only [W] at h1
        conv => whnf
        exact fin rfl rfl rfl (by simp only [stepS, stepV, leakW, W, Int.reduceEq, ↓reduceIte]; rw [if_neg h0, if_pos h1]) (by simp only [stepB, stepV, leakW, W, Int.reduceEq, ↓reduceIte]; rw [if_neg h0, if_pos h1])
      · rename_i h1
        have h1 := of_decide_eq_false h1
        simp only [W] at h1
        conv => whnf
        refine ⟨by kernel_rfl, ?_⟩
        conv => whnf
        split
        · rename_i h2
          have h2 : rk = 1 := by simpa using h2
          conv => whnf
          exact fin rfl rfl rfl (by simp only [stepS, stepV, leakW, W, Int.reduceEq, ↓reduceIte]; rw [if_neg h0, if_neg h1, if_pos h2]; rfl) (by simp only [stepB, stepV, leakW, W, Int.reduceEq, ↓reduceIte]; rw [if_neg h0, if_neg h1])
        · rename_i h2
          have h2 : ¬ rk = 1 := by simpa using h2
          conv => whnf
          exact fin rfl rfl rfl (by simp only [stepS, stepV, leakW, W, Int.reduceEq, ↓reduceIte]; rw [if_neg h0, if_neg h1, if_neg h2]) (by simp only [stepB, stepV, leakW, W, Int.reduceEq, ↓reduceIte]; rw [if_neg h0, if_neg h1])
section
variable {c : Cx} {T : List (Nat × SV)} {M : List (Nat × SObj)} {n : Nat} {D : List Deferred} {ops : Array Oper} {i : Nat} {r : List Nat} {k : List Item} {R : Ending → World → Prop} {o : Oper} {f : Operand} {args : Array Operand} {ts : Array TypeId} {fv : SV}
theorem Run.newCell (p : Prm) (s : Ste) (hv : vld p s = 0) (hP : c.P = Try.prog) (ho : get ops.toList i = some o) (hop : o.op = .call { callee := .value f, args := args, argTypes := ts }) (hw : wantS ops.toList (Sx.look T) o = some true) (hd : okD c.fn.ntmps o.dst = true)
    (hf : ev (Sx.look T) f = some fv) (hfv : calleeOf fv = some (62, [])) (hvs : evs (Sx.look T) args.toList = some [p.sv, s.sv])
    (h : Run c ⟨putS T o.dst (.tup [.ptr n 0, ii 0]), (n, .cells (cellOf p s) 136) :: M, n + 1, D, .inRegion ops r :: k⟩ R) : Run c ⟨T, M, n, D, .inRegion ops (i :: r) :: k⟩ R := by
  refine Run.callG ho hop hw hd hf hfv hvs (by rw [hP]; exact ent _ _ Try.func62 (by kernel_rfl) rfl) (fun v M' n' => v = .tup [.ptr n 0, ii 0] ∧ M' = (n, .cells (cellOf p s) 136) :: M ∧ n' = n + 1) (fun ρ w _ hW => ?_) (fun v M' n' hp => ?_)
  · rw [hP]
    refine (newCell_ok p s hv w).mono fun e w' ⟨b, he, hx, hb, hc⟩ => ?_
    obtain ⟨h1, h2⟩ := hW.adopt hx (i := n) (b := b) (o := .cells (cellOf p s) 136) (Nat.lt_irrefl n) hb (by simp [SObj.sc, cellOf, Prm.cells, Ste.cells, SV.scs, SV.sc]) (fun ρ' _ hs h0 => ⟨h0, by rw [hs]; exact hc⟩)
    refine ⟨_, _, _, _, ?_, h2, Nat.le_succ n, ?_, ?_, rfl, rfl, rfl⟩
    · rw [he]
      simp [SV.conc, SV.concs, Env.bind]
    · exact ⟨Nat.lt_succ_self n, trivial, trivial⟩
    · rw [look_upd]
      exact h1.mono fun j hj => by omega
  · obtain ⟨rfl, rfl, rfl⟩ := hp; exact h
theorem Run.newCell_bad (p : Prm) (s : Ste) (hv : vld p s ≠ 0) (hP : c.P = Try.prog) (ho : get ops.toList i = some o) (hop : o.op = .call { callee := .value f, args := args, argTypes := ts }) (hw : wantS ops.toList (Sx.look T) o = some true) (hd : okD c.fn.ntmps o.dst = true)
    (hf : ev (Sx.look T) f = some fv) (hfv : calleeOf fv = some (62, [])) (hvs : evs (Sx.look T) args.toList = some [p.sv, s.sv])
    (h : Run c ⟨putS T o.dst (.tup [.v (.pointer none), ii (vld p s)]), M, n, D, .inRegion ops r :: k⟩ R) : Run c ⟨T, M, n, D, .inRegion ops (i :: r) :: k⟩ R := by
  refine Run.callE (.tup [.v (.pointer none), ii (vld p s)]) (fun ρ w _ => ?_) (by rw [hP]; exact ent _ _ Try.func62 (by kernel_rfl) rfl) ho hop hw hd hf hfv hvs ⟨trivial, trivial, trivial⟩ h
  rw [hP]
  exact Go.Proofs.Ythaigkamfnjfbaa.newCell_bad p s hv w
theorem Run.tick (p : Prm) (s : Ste) (x : Int) (j : Nat) (hk : p.lk = 0 ∨ p.lk = 1 ∨ p.lk = 2) (hj : Sx.look M j = some (.cells (cellOf p s) 136)) (hP : c.P = Try.prog) (ho : get ops.toList i = some o) (hop : o.op = .call { callee := .value f, args := args, argTypes := ts }) (hw : wantS ops.toList (Sx.look T) o = some true) (hd : okD c.fn.ntmps o.dst = true)
    (hf : ev (Sx.look T) f = some fv) (hfv : calleeOf fv = some (63, [])) (hvs : evs (Sx.look T) args.toList = some [.ptr j 0, ii x])
    (h : Run c ⟨putS T o.dst (.v (.bool (stepB p s x))), (j, .cells (cellOf p (stepS p s x)) 136) :: M, n, D, .inRegion ops r :: k⟩ R) : Run c ⟨T, M, n, D, .inRegion ops (i :: r) :: k⟩ R := by
  refine Run.callG ho hop hw hd hf hfv hvs (by rw [hP]; exact ent _ _ Try.func63 (by kernel_rfl) rfl) (fun v M' n' => v = .v (.bool (stepB p s x)) ∧ M' = (j, .cells (cellOf p (stepS p s x)) 136) :: M ∧ n' = n) (fun ρ w _ hW => ?_) (fun v M' n' hp => ?_)
  · rw [hP]
    obtain ⟨h1, h2, h3, h4⟩ := hW.mem j _ hj
    have := tick_run p s x hk (ρ.s j) w h4
    have ha : (SV.concs ρ ([.ptr j 0, ii x] ++ [])).toArray = #[.pointer (some ⟨ρ.s j, 0, none⟩), .int .i64 x] := by simp [SV.concs, SV.conc, h3]
    rw [ha]
    refine this.mono fun e w' ⟨he, hm, hc⟩ => ⟨ρ, .v (.bool (stepB p s x)), _, _, he, Env.agree.refl _ _, Nat.le_refl _, trivial, ?_, rfl, rfl, rfl⟩
    rw [look_upd]
    exact hW.modify hj trivial hm (by simp [SObj.sc, cellOf, Prm.cells, Ste.cells, SV.scs, SV.sc]) ⟨h3, hc⟩
  · obtain ⟨rfl, rfl, rfl⟩ := hp; exact h
end
/-- The state, whether it fired, the error. -/
def tickV (p : Prm) (s : Ste) (x : Int) : Value :=
  if vld p s = 0 then .tuple #[.agg #[.int .i64 (stepS p s x).v, .int .i64 (stepS p s x).rest], .bool (stepB p s x), .int .i64 0]
  else .tuple #[.agg #[.int .i64 0, .int .i64 0], .bool false, .int .i64 (vld p s)]
theorem Tick_run (p : Prm) (s : Ste) (x : Int) (w : World) : Calls Try.prog 55 #[p.sv.conc env0, s.sv.conc env0, .int .i64 x] w fun e w' => e = .returned (tickV p s x) ∧ Ext w w' := by
  have hc : ∀ (q : Cx), q = ⟨Try.prog, tab, [], 55, Try.f55, [], w, [], none⟩ → q.ok := by
    rintro _ rfl
    exact ⟨tab_ok, trivial, Try.func55, mixed, fun _ h => by cases h⟩
  by_cases h : vld p s = 0
  · refine Run.start0 (tab := tab) (pf := []) (cuts := []) mixed tab_ok trivial Try.func55 rfl [p.sv, s.sv, ii x] 1000 (by simp [SV.scs, SV.sc, Prm.sv, Prm.cells, Ste.sv, Ste.cells]) rfl ?_
    conv => whnf
    refine Run.newCell p s h rfl rfl rfl rfl rfl rfl rfl rfl ?_
    refine Run.of_wpK (hc _ rfl) 1000 _ ?_
    conv => whnf
    refine Run.tick p s x _ (chk_known (vld_zero h).1) rfl rfl rfl rfl rfl rfl rfl rfl rfl ?_
    refine Run.of_wpK (hc _ rfl) 1000 _ ?_
    conv => whnf
    exact ⟨fun ρ w' hW _ => ⟨by rw [tickV, if_pos h]; rfl, hW.toExt⟩⟩
  · refine Run.start0 (tab := tab) (pf := []) (cuts := []) mixed tab_ok trivial Try.func55 rfl [p.sv, s.sv, ii x] 1000 (by simp [SV.scs, SV.sc, Prm.sv, Prm.cells, Ste.sv, Ste.cells]) rfl ?_
    conv => whnf
    refine Run.newCell_bad p s h rfl rfl rfl rfl rfl rfl rfl rfl ?_
    refine Run.of_wpK (hc _ rfl) 1000 _ ?_
    conv => whnf
    split
    · rename_i hn
      conv => whnf
      exact ⟨fun ρ w' hW _ => ⟨by rw [tickV, if_neg h]; rfl, hW.toExt⟩⟩
    · rename_i hn
      exact absurd (by simpa using hn) h
end Go.Proofs.Ythaigkamfnjfbaa
namespace Go.Proofs.Ythaigkamfnjfbaa
open Go.Sx
set_option maxRecDepth 100000
theorem W_eq (a : Int) : W a = (a + 9223372036854775808) % 18446744073709551616 - 9223372036854775808 := IntKind.wrap_i64 a
theorem chk_parts {p : Prm} (h : chk p = 0) : (p.rk = 0 ∨ p.rk = 1) ∧ (p.lk = 1 → 1 ≤ p.leak ∧ p.leak ≤ 1048576) := by
  have h1 : ¬ (!(p.lk == 0 || p.lk == 1 || p.lk == 2) || !wi p.rk 0 1) = true := fun hc => by rw [chk, if_pos hc] at h; cases h
  rw [chk, if_neg h1, ite_eq_right_iff] at h
  simp only [Bool.not_eq_true', Bool.or_eq_true, not_or, Bool.not_eq_false] at h1
  refine ⟨by simp [wi] at h1; omega, fun hk => ?_⟩
  cases hl : wi p.leak (min 1 (most p.lk)) (most p.lk)
  · exact absurd (h (by simp [hl])) (by decide)
  · rw [hk] at hl
    simp [wi, most] at hl
    omega
/-- A neuron without error. -/
structure Good (p : Prm) : Prop where
  lk : (p.lk = 0 ∧ p.leak = 0) ∨ (p.lk = 1 ∧ 1 ≤ p.leak ∧ p.leak ≤ 1048576) ∨ (p.lk = 2 ∧ 1 ≤ p.leak ∧ p.leak ≤ 256)
  bias : -1048576 ≤ p.bias ∧ p.bias ≤ 1048576
  floor : -1048576 ≤ p.floor ∧ p.floor ≤ 0
  thr : 1 ≤ p.thr ∧ p.thr ≤ 1048576
  rest : 0 ≤ p.rest ∧ p.rest ≤ 64
  reset : (p.rk = 0 ∧ p.floor ≤ p.reset ∧ p.reset ≤ p.thr - 1) ∨ (p.rk = 1 ∧ p.reset = 0)
theorem W_id {a : Int} (h : -9223372036854775808 ≤ a) (h2 : a ≤ 9223372036854775807) : W a = a := by rw [W_eq]; omega
theorem chk_good {p : Prm} : chk p = 0 ↔ Good p := by
  obtain ⟨lk, leak, bias, thr, rk, reset, floor, rest⟩ := p
  constructor
  · intro h
    have h1 := chk_known h
    have h2 := (chk_parts h).1
    simp only at h1 h2
    have hthr : wi thr 1 1048576 = true := by
      cases ht : wi thr 1 1048576
      · exfalso
        unfold chk at h
        simp only [ht] at h
        rcases h1 with rfl | rfl | rfl <;> rcases h2 with rfl | rfl <;> simp [wi] at h
      · rfl
    have hthr' : 1 ≤ thr ∧ thr ≤ 1048576 := by simpa [wi] using hthr
    have hw : W (thr - 1) = thr - 1 := W_id (by omega) (by omega)
    unfold chk at h
    simp only [hthr, hw] at h
    rcases h1 with rfl | rfl | rfl <;> rcases h2 with rfl | rfl <;> simp [wi, most] at h <;>
      exact ⟨by simp; omega, by simp only; omega, by simp only; omega, hthr', by simp only; omega, by simp; omega⟩
  · rintro ⟨h1, h2, h3, h4, h5, h6⟩
    simp only at h1 h2 h3 h4 h5 h6
    have hw : W (thr - 1) = thr - 1 := W_id (by omega) (by omega)
    unfold chk
    rcases h1 with ⟨rfl, h1⟩ | ⟨rfl, h1⟩ | ⟨rfl, h1⟩ <;> rcases h6 with ⟨rfl, h6⟩ | ⟨rfl, h6⟩ <;> simp [wi, most, hw] <;> omega
theorem vld_good {p : Prm} {s : Ste} : vld p s = 0 ↔ Good p ∧ (p.floor ≤ s.v ∧ s.v ≤ 1048576) ∧ 0 ≤ s.rest ∧ s.rest ≤ p.rest := by
  constructor
  · intro h
    obtain ⟨h1, h2, h3⟩ := vld_zero h
    exact ⟨chk_good.1 h1, by simpa [wi] using h2, by simpa [wi] using h3⟩
  · rintro ⟨h1, h2, h3⟩
    have h1 := chk_good.2 h1
    simp [vld, h1, wi, h2, h3]
/-- What the leak makes of a potential. -/
def lkI (k l v : Int) : Int := if k = 0 then v else if k = 1 then (if v < 0 then min 0 (v + l) else max 0 (v - l)) else v - (v * l).tdiv 256
theorem mul_bound {v l : Int} (hv : -1048576 ≤ v ∧ v ≤ 1048576) (hl : 0 ≤ l ∧ l ≤ 1048576) : -1099511627776 ≤ v * l ∧ v * l ≤ 1099511627776 := by
  constructor
  · have h1 : -1048576 * l ≤ v * l := Int.mul_le_mul_of_nonneg_right hv.1 hl.1
    omega
  · have h1 : v * l ≤ 1048576 * l := Int.mul_le_mul_of_nonneg_right hv.2 hl.1
    omega
theorem tdiv_bound {a b : Int} : -(a.natAbs : Int) ≤ a.tdiv b ∧ a.tdiv b ≤ (a.natAbs : Int) := by
  have h1 : (a.tdiv b).natAbs ≤ a.natAbs := by
    rw [Int.natAbs_tdiv]; exact Nat.div_le_self _ _
  omega
theorem leakW_lk {p : Prm} (h : Good p) {v : Int} (hv : -1048576 ≤ v ∧ v ≤ 1048576) : leakW p.lk p.leak v = lkI p.lk p.leak v := by
  unfold leakW lkI
  rcases h.lk with ⟨e, hl⟩ | ⟨e, hl⟩ | ⟨e, hl⟩
  · rw [e]; rfl
  · have e1 : W (v + p.leak) = v + p.leak := W_id (by omega) (by omega)
    have e2 : W (v - p.leak) = v - p.leak := W_id (by omega) (by omega)
    rw [e, e1, e2]
    rfl
  · have hm := mul_bound hv ⟨by omega, by omega⟩ (l := p.leak)
    have ht := tdiv_bound (a := v * p.leak) (b := 256)
    have e1 : W (v * p.leak) = v * p.leak := W_id (by omega) (by omega)
    have e2 : W ((v * p.leak).tdiv 256) = (v * p.leak).tdiv 256 := W_id (by omega) (by omega)
    have e3 : W (v - (v * p.leak).tdiv 256) = v - (v * p.leak).tdiv 256 := W_id (by omega) (by omega)
    have e4 : W (v + p.leak) = v + p.leak := W_id (by omega) (by omega)
    have e5 : W (v - p.leak) = v - p.leak := W_id (by omega) (by omega)
    rw [e, e1, e2, e3, e4, e5]
theorem lk_bound {p : Prm} (h : Good p) {v : Int} (hv : -1048576 ≤ v ∧ v ≤ 1048576) : -1048576 ≤ lkI p.lk p.leak v ∧ lkI p.lk p.leak v ≤ 1048576 := by
  unfold lkI
  rcases h.lk with ⟨e, hl⟩ | ⟨e, hl⟩ | ⟨e, hl⟩
  · rw [e]; simpa using hv
  · rw [e, if_neg (by decide), if_pos rfl]
    split <;> omega
  · rw [e, if_neg (by decide), if_neg (by decide)]
    have hm : 0 ≤ v → 0 ≤ v * p.leak ∧ v * p.leak ≤ v * 256 := fun h0 => ⟨Int.mul_nonneg h0 (by omega), Int.mul_le_mul_of_nonneg_left hl.2 h0⟩
    have hm2 : v ≤ 0 → v * 256 ≤ v * p.leak ∧ v * p.leak ≤ 0 := fun h0 => ⟨by
      have := Int.mul_le_mul_of_nonneg_left hl.2 (show 0 ≤ -v by omega)
      rw [Int.neg_mul, Int.neg_mul] at this; omega, Int.mul_nonpos_of_nonpos_of_nonneg h0 (by omega)⟩
    generalize v * p.leak = m at hm hm2
    rcases Int.le_total 0 v with h0 | h0
    · obtain ⟨h1, h2⟩ := hm h0
      have : m.tdiv 256 = m / 256 := Int.tdiv_eq_ediv_of_nonneg h1
      rw [this]; omega
    · obtain ⟨h1, h2⟩ := hm2 h0
      have : m.tdiv 256 = -((-m) / 256) := by
        have := Int.neg_tdiv (a := -m) (b := 256)
        rw [Int.neg_neg, Int.tdiv_eq_ediv_of_nonneg (a := -m) (b := 256) (by omega)] at this
        exact this
      rw [this]; omega
/-- The potential behind a tick, ere the threshold is looked at. -/
def stI (p : Prm) (v x : Int) : Int := max p.floor (min 1048576 (lkI p.lk p.leak v + p.bias + max (-4194304) (min 4194304 x)))
theorem stepV_st {p : Prm} (h : Good p) {s : Ste} (hv : -1048576 ≤ s.v ∧ s.v ≤ 1048576) (x : Int) : stepV p s x = stI p s.v x := by
  unfold stepV stI
  have hb := lk_bound h hv
  have h2 := h.bias
  rw [leakW_lk h hv, W_id (a := lkI p.lk p.leak s.v + p.bias) (by omega) (by omega), W_id (by omega) (by omega)]
theorem st_bound {p : Prm} (h : Good p) (v x : Int) : p.floor ≤ stI p v x ∧ stI p v x ≤ 1048576 := by
  unfold stI
  have := h.floor
  omega
theorem vld_step {p : Prm} {s : Ste} (h : vld p s = 0) (x : Int) : vld p (stepS p s x) = 0 := by
  obtain ⟨hg, hv, hr⟩ := vld_good.1 h
  have h1 := hg.floor
  have h2 := hg.rest
  have h3 := hg.thr
  have h4 := hg.reset
  have hs := st_bound hg s.v x
  refine vld_good.2 ⟨hg, ?_⟩
  unfold stepS
  rw [stepV_st hg ⟨by omega, hv.2⟩]
  split
  · rw [W_id (by omega) (by omega)]
    exact ⟨hv, by simp only; omega⟩
  · split
    · exact ⟨hs, hr⟩
    · split
      · rw [W_id (by omega) (by omega)]
        exact ⟨by simp only; omega, by simp only; omega⟩
      · exact ⟨by simp only; omega, by simp only; omega⟩
end Go.Proofs.Ythaigkamfnjfbaa
namespace Go.Sx
end Go.Sx
namespace Go.Proofs.Ythaigkamfnjfbaa
open Go.Sx
theorem wrap_succ {i : Nat} (h : i < 4611686018427387904) : IntKind.i64.wrap ((i : Int) + 1) = ((i + 1 : Nat) : Int) := by
  have h1 : W ((i : Int) + 1) = _ := W_eq ((i : Int) + 1)
  simp only [W] at h1
  rw [h1]; omega
theorem scs_i (S : Nat → Prop) : ∀ (l : List Int), SV.scs S (l.map fun x => .v (.int .i64 x))
  | [] => trivial
  | _ :: l => ⟨trivial, scs_i S l⟩
def ints (xs : List Int) : List Value := xs.map fun x => .int .i64 x
set_option maxRecDepth 100000
/-- A rule. -/
structure Rul where
  kind : Int
  up : Int
  down : Int
  shift : Int
  gain : Int
  keep : Int
  fade : Int
  lo : Int
  hi : Int
  sum : Bool
theorem nwithin_run (n lo hi : Int) (w : World) : Calls Try.prog 50 #[.int .i64 n, .int .i64 lo, .int .i64 hi] w fun e w' => e = .returned (.bool (wi n lo hi)) ∧ Ext w w' := by
  refine Run.start0 (tab := tab) (pf := []) (cuts := []) mixed tab_ok trivial Try.func50 rfl [ii n, ii lo, ii hi] 100 ⟨trivial, trivial, trivial, trivial⟩ rfl ?_
  conv => whnf
  cases h : decide (lo ≤ n)
  all_goals
    conv => whnf
    exact ⟨fun ρ w' hW _ => ⟨by simp [SV.conc, wi, h], hW.toExt⟩⟩
theorem nwithin_pure : Pure Try.prog 50 (F3 fun n lo hi => .bool (wi n lo hi)) := Pure.of3 (ent _ _ Try.func50 (by kernel_rfl) rfl) nwithin_run
/-- The error of a rule. -/
def rchk (r : Rul) : Int :=
  if !(r.kind == 1 || r.kind == 2) then 2 else
  if wi r.up 0 255 && wi r.down 0 255 && wi r.shift 0 16 && wi r.gain 1 4096 && wi r.keep 0 255 && wi r.fade 0 (if r.kind == 1 then 0 else 255) && wi r.lo (-255) r.hi && !decide (255 < r.hi) then 0 else 3
def rrchk (r : Rul) : Int :=
  if !(r.kind == 1 || r.kind == 2) then 2 else
  if wi r.up 0 255 && wi r.down 0 255 && wi r.shift 0 16 && wi r.gain 1 4096 && wi r.keep 0 255 && wi r.fade 0 255 && !(r.kind == 1 && !(r.fade == 0)) && !decide (r.lo < -255) && !decide (255 < r.hi) && !decide (r.hi < r.lo) then 0 else 3
theorem rrchk_eq (r : Rul) : rrchk r = rchk r := by
  obtain ⟨kind, up, down, shift, gain, keep, fade, lo, hi, sum⟩ := r
  unfold rrchk rchk
  by_cases h1 : kind = 1
  · subst h1
    have e : (wi fade 0 255 && !((1 : Int) == 1 && !(fade == 0)) && !decide (lo < -255) && !decide (255 < hi) && !decide (hi < lo)) = (wi fade 0 0 && wi lo (-255) hi && !decide (255 < hi)) := by
      apply Bool.eq_iff_iff.2
      simp [wi]
      omega
    simp only [Bool.and_assoc] at e ⊢
    simp only [e]
    rfl
  · by_cases h2 : kind = 2
    · subst h2
      have e : (wi fade 0 255 && !((2 : Int) == 1 && !(fade == 0)) && !decide (lo < -255) && !decide (255 < hi) && !decide (hi < lo)) = (wi fade 0 255 && wi lo (-255) hi && !decide (255 < hi)) := by
        apply Bool.eq_iff_iff.2
        simp [wi]
        omega
      simp only [Bool.and_assoc] at e ⊢
      simp only [e]
      rfl
    · simp [h1, h2]
/-- A rule without error. -/
structure GoodR (r : Rul) : Prop where
  kind : r.kind = 1 ∨ r.kind = 2
  up : 0 ≤ r.up ∧ r.up ≤ 255
  down : 0 ≤ r.down ∧ r.down ≤ 255
  shift : 0 ≤ r.shift ∧ r.shift ≤ 16
  gain : 1 ≤ r.gain ∧ r.gain ≤ 4096
  keep : 0 ≤ r.keep ∧ r.keep ≤ 255
  fade : 0 ≤ r.fade ∧ r.fade ≤ 255
  fade1 : r.kind = 1 → r.fade = 0
  bounds : -255 ≤ r.lo ∧ r.lo ≤ r.hi ∧ r.hi ≤ 255
theorem rchk_good {r : Rul} : rchk r = 0 ↔ GoodR r := by
  rw [← rrchk_eq]
  obtain ⟨kind, up, down, shift, gain, keep, fade, lo, hi, sum⟩ := r
  unfold rrchk
  constructor
  · intro h
    split at h
    · cases h
    · rename_i h1
      split at h
      · rename_i h2
        simp [wi] at h1 h2
        refine ⟨?_, ?_, ?_, ?_, ?_, ?_, ?_, ?_, ?_⟩ <;> simp only <;> omega
      · cases h
  · rintro ⟨h1, h2, h3, h4, h5, h6, h7, h8, h9⟩
    simp only at h1 h2 h3 h4 h5 h6 h7 h8 h9
    rw [if_neg (by simp; omega), if_pos (by simp [wi]; omega)]
end Go.Proofs.Ythaigkamfnjfbaa
namespace Go.Sx
/-- A slice of n elements of e cells each, and its cells. -/
def RowsAt (w : World) (v : Value) (e n : Nat) (vs : List Value) : Prop :=
  vs.length = n * e ∧ ∃ p cap, v = .slice p n cap ∧ n ≤ cap ∧ (n = 0 ∨ ∃ blk off, p = some ⟨blk, off, none⟩ ∧ blk < w.heap.size ∧ ∀ j x, vs[j]? = some x → w.cell? ⟨blk, off + j, none⟩ = some x)
theorem RowsAt.move {w w' : World} {v : Value} {e n : Nat} {vs : List Value} (h : RowsAt w v e n vs) (hs : w.heap.size ≤ w'.heap.size) (hb : ∀ b, v.ownBlock = some b → w'.heap[b]? = w.heap[b]?) : RowsAt w' v e n vs := by
  obtain ⟨h1, p, cap, rfl, h2, h3⟩ := h
  refine ⟨h1, p, cap, rfl, h2, ?_⟩
  rcases h3 with h3 | ⟨blk, off, rfl, h4, h5⟩
  · exact .inl h3
  · refine .inr ⟨blk, off, rfl, by omega, fun j x hj => ?_⟩
    have := h5 j x hj
    have hbb := hb blk rfl
    simp only [World.cell?] at this ⊢
    rw [hbb]; exact this
theorem RowsAt.ext {w w' : World} {v : Value} {e n : Nat} {vs : List Value} (h : RowsAt w v e n vs) (x : Ext w w') : RowsAt w' v e n vs := by
  obtain ⟨h1, p, cap, rfl, h2, h3⟩ := h
  refine ⟨h1, p, cap, rfl, h2, ?_⟩
  rcases h3 with h3 | ⟨blk, off, rfl, h4, h5⟩
  · exact .inl h3
  · refine .inr ⟨blk, off, rfl, Nat.lt_of_lt_of_le h4 x.size, fun j y hj => ?_⟩
    have := h5 j y hj
    simp only [World.cell?] at this ⊢
    rw [x.keep blk h4]; exact this
/-- What is told at the beginning of a call. -/
theorem WI.tell {w : World} {ρ : Env} {L : List (Nat × Nat)} {M : List (Nat × SObj)} {n : Nat} (hM : ∀ x ∈ M, x.1 < n ∧ x.2.sc (· < n) ∧ x.2.holds w L ρ x.1 w) (hd : ∀ x ∈ M, ∀ y ∈ M, x.1 ≠ y.1 → x.2.occ ρ x.1 → y.2.occ ρ y.1 → ρ.s x.1 ≠ ρ.s y.1)
    (hn : ∀ x ∈ M, x.2.occ ρ x.1 → ∃ p ∈ L, p.2 = ρ.s x.1) (hL : ∀ p ∈ L, p.1 < n ∧ ρ.s p.1 = p.2) : WI w L ρ (look M) (· < n) w where
  mem _ _ h := hM _ (look_mem h)
  dist _ _ _ _ h h' hne := hd _ (look_mem h) _ (look_mem h') hne
  new _ _ h ho := .inl (hn _ (look_mem h) ho)
  lid := hL
  keep _ _ _ := rfl
  size := Nat.le_refl _
  os := rfl
  tape := rfl
  output := rfl
def ptrOf : Value → Option Addr × Nat × Nat
  | .slice p l c => (p, l, c)
  | _ => (none, 0, 0)
/-- The environment in which the numbers stand for these slices. -/
def envW (l : List Value) : Env where
  s j := match (ptrOf (l.getD j .nilFunc)).1 with
    | some a => a.block
    | none => 0
  o j := match (ptrOf (l.getD j .nilFunc)).1 with
    | some a => a.off
    | none => 0
  h j := ptrOf (l.getD j .nilFunc)
theorem envW_holds {w : World} {l : List Value} {j : Nat} {v : Value} {e n : Nat} {vs : List Value} (hj : l.getD j .nilFunc = v) (h : RowsAt w v e n vs) : (SObj.rwin e n vs).holds w [] (envW l) j w := by
  obtain ⟨h1, p, cap, rfl, h2, h3⟩ := h
  simp only [SObj.holds, envW, hj, ptrOf]
  refine ⟨h1, trivial, h2, ?_⟩
  rcases h3 with h3 | ⟨blk, off, rfl, h4, h5⟩
  · exact .inl h3
  · exact .inr ⟨rfl, h4, fun p hp => (by cases hp), h5⟩
theorem envW_conc {w : World} {l : List Value} {j : Nat} {v : Value} {e n : Nat} {vs : List Value} (hj : l.getD j .nilFunc = v) (h : RowsAt w v e n vs) : (SV.opq j).conc (envW l) = v := by
  obtain ⟨h1, p, cap, rfl, h2, h3⟩ := h
  simp only [SV.conc, envW, hj, ptrOf]
theorem run_eqNilS {P : Program} {w : World} {t e : TypeId} {X Y : Operand} (hd : P.underlying t = some (.slice e)) (p : Option Addr) (l c : Nat) :
    (eqGuard .eql t X Y (.slice p l c) (.slice none 0 0) >>= fun _ => Go.binOp .eql t (.slice p l c) (.slice none 0 0)).run P w = .ok (.bool p.isNone) w := by
  have h : ∀ d, (Op.equalIn (d + 1) t (.slice p l c) (.slice none 0 0)).run P w = .ok p.isNone w := by
    intro d
    cases p <;> simp [Op.equalIn, run_und hd]
  exact (eq_of_equalIn h X Y (fun op => by cases op <;> rfl) rfl rfl).1
/-- A slice compared with nil. -/
theorem Run.eqNilS {c : Cx} {T : List (Nat × SV)} {M : List (Nat × SObj)} {n : Nat} {D : List Deferred} {ops : Array Oper} {i : Nat} {r : List Nat} {k : List Item} {R : Ending → World → Prop} {o : Oper} {x y : Operand} {t t2 e : TypeId} {p : Option Addr} {l cc : Nat}
    (ho : get ops.toList i = some o) (hop : o.op = .binOp .eql t x y t2) (hw : wantS ops.toList (look T) o = some true) (hd : okD c.fn.ntmps o.dst = true) (hx : ev (look T) x = some (.v (.slice p l cc))) (hy : ev (look T) y = some (.v (.slice none 0 0))) (ht : c.P.underlying t = some (.slice e))
    (h : Run c ⟨putS T o.dst (.v (.bool p.isNone)), M, n, D, .inRegion ops r :: k⟩ R) : Run c ⟨T, M, n, D, .inRegion ops (i :: r) :: k⟩ R := by
  refine ⟨fun ρ a w hi => ?_⟩
  rw [get_eq, Array.getElem?_toList] at ho
  refine TW.op ho (wantS_ok hi.tm hw) ?_
  obtain ⟨h1, _⟩ := ev_ok hi.tm hx
  obtain ⟨h2, _⟩ := ev_ok hi.tm hy
  simp only [SV.conc] at h1 h2
  have hr := run_eqNilS (w := w) (X := x) (Y := y) ht p l cc
  refine Oc.value (w' := w) (v := .bool p.isNone) ?_ ?_
  · simp only [execOp, hop, h1, h2]
    rw [Sem.run_bind, hr]
    rfl
  · exact h.go ρ _ w (hi.put hd (Env.agree.refl _ ρ) (Nat.le_refl _) (v := .v (.bool p.isNone)) trivial hi.wi _)
/-- 'append' of the elements of a slice that is told as a plain value. -/
theorem Run.appendV {c : Cx} (hc : c.ok) {T : List (Nat × SV)} {M : List (Nat × SObj)} {n : Nat} {D : List Deferred} {ops : Array Oper} {i : Nat} {r : List Nat} {k : List Item} {R : Ending → World → Prop} {o : Oper} {x y : Operand} {t : TypeId}
    (ho : get ops.toList i = some o) (hop : o.op = .call { callee := .builtin .append, args := #[x, y], argTypes := #[t, t] }) (hw : wantS ops.toList (look T) o = some true) (hd : okD c.fn.ntmps o.dst = true)
    {j e m : Nat} {xs : List SV} {te : TypeId} (hx : ev (look T) x = some (.opq j)) (hj : look M j = some (.row e m xs te))
    {len cap : Nat} {ad : Addr} (news : List Value) (hy : ev (look T) y = some (.v (.slice (some ad) len cap))) (hnl : news.length = len * e) (hcell0 : ∀ ρ w, WI c.w0 c.L ρ (look M) (· < n) w → ∀ jj u, news[jj]? = some u → w.cell? (ad.add jj) = some u) (hone' : ∀ u ∈ news, u.oneCell' = true)
    {ti tie : TI} {bytes : Nat} (hti : look c.tab t = some ti) (hsh : ti.sh = .slc te e bytes) (hte : look c.tab te = some tie) (hz : tie.zero.length = e) (he : 0 < e)
    (hfit : (m + len) * bytes ≤ 140737488355328 ∧ m + len < 9223372036854775808) (M' : List (Nat × SObj)) (hM' : ∀ p ∈ M', look M p.1 = some p.2 ∧ p.1 ≠ j)
    (h : Run c ⟨putS T o.dst (.opq n), (n, .row e (m + len) (xs ++ news.map .v) te) :: M', n + 1, D, .inRegion ops r :: k⟩ R) : Run c ⟨T, M, n, D, .inRegion ops (i :: r) :: k⟩ R := by
  refine ⟨fun ρ a w hi => ?_⟩
  rw [get_eq, Array.getElem?_toList] at ho
  refine TW.op ho (wantS_ok hi.tm hw) ?_
  obtain ⟨h1, _⟩ := ev_ok hi.tm hx
  obtain ⟨h2, _⟩ := ev_ok hi.tm hy
  have hti := Tab.ok_look hc.tab hti
  have hte := Tab.ok_look hc.tab hte
  obtain ⟨d, hd1, hd2⟩ := hti.desc
  obtain ⟨inf, rfl, g2, g3, g4⟩ := sh_desc.2.2.2.2.1 te e bytes (hd2.trans hsh)
  obtain ⟨inf', z, i1, _, i3, i4⟩ := hte.infos
  rw [g2] at i1
  obtain rfl := Option.some.inj i1
  have hzs : z.cells.size = e := by rw [← hz, ← i4]; simp
  obtain ⟨_, hscr, _⟩ := hi.wi.mem j _ hj
  have hscn : SV.scs (· < n) (news.map .v) := scs_v _ news
  have hcell := hcell0 ρ w hi.wi
  have hown := hi.wi.owns hj he
  obtain ⟨v', w', row, r1, r2, r3, r4, r5⟩ := run_append_two (P := c.P) w t o.type te inf z e hd1 g2 i3 g3 hzs he _ m _ hown ad len cap news hnl hcell hone' (by simp only [maxLen]; omega) (by rw [g4]; exact hfit.1)
  have hrun : (execOp a.eval o).run c.P w = .ok (.value v') w' := by
    simp only [SV.conc] at h1 h2 r1
    simp [execOp, hop, resolve, invoke, builtin, h1, h2, r1]
  rw [← concs_v ρ news, ← concs_append] at r2
  have hsub : ∀ kk oo, look M' kk = some oo → look M kk = some oo := fun kk oo hk => (hM' _ (look_mem hk)).1
  have hjocc : ∀ b, ((SV.opq j).conc ρ).ownBlock = some b → (SObj.row e m xs te).occ ρ j ∧ ρ.s j = b := by
    intro b hb
    obtain ⟨_, _, _, _, hh⟩ := hi.wi.mem j _ hj
    rcases hh with ⟨hh, _⟩ | ⟨cap', sp, hh, _⟩
    · simp [SV.conc, hh, Value.ownBlock] at hb
    · simp only [SV.conc, hh, Value.ownBlock, Option.some.injEq] at hb
      exact ⟨by simp [SObj.occ, hh], hb⟩
  obtain ⟨hW', hag⟩ := hi.wi.rowTo hsub (i := n) (Nat.lt_irrefl n) (xs := xs ++ news.map .v) (t := te) (e := e) (n := m + len) r3 (fun b hb => by
    rcases r4 with r4 | r4
    · rw [r4] at hb; cases hb
    · rw [r4] at hb
      obtain ⟨hocc, hs⟩ := hjocc b hb
      refine ⟨fun kk oo hk ck => ?_, ?_⟩
      · rw [← hs]
        exact hi.wi.dist kk j oo _ (hsub kk oo hk) hj (hM' _ (look_mem hk)).2 ck hocc
      · rw [← hs]; exact hi.wi.new j _ hj hocc) r5 r2 (scs_append hscr hscn)
  refine Oc.value hrun ?_
  have hW2 : WI c.w0 c.L (ρ.bindV n v') (look ((n, .row e (m + len) (xs ++ news.map .v) te) :: M')) (· < n + 1) w' := by
    rw [look_upd]; exact hW'.mono fun q hq => by have hq : q < n ∨ q = n := hq; omega
  have hinv := hi.put (ρ' := ρ.bindV n v') hd hag (Nat.le_succ n) (v := .opq n) (Nat.lt_succ_self n) hW2 (.inRegion ops r :: k)
  rw [conc_bindV r2] at hinv
  exact h.go _ _ w' hinv
/-- A slice over a block of its own, told as a row of elements of e cells. -/
theorem Run.slcRowE {c : Cx} {T T' : List (Nat × SV)} {M M' : List (Nat × SObj)} {n : Nat} {D : List Deferred} {todo : List Item} {R : Ending → World → Prop} (j e m : Nat) (cs : List SV) (te : TypeId)
    (hj : look M j = some (.cells cs te)) (hme : cs.length = m * e) (hlen : m ≤ 1000000) (hT : ∀ x ∈ T', look T x.1 = some x.2 ∨ (look T x.1 = some (.slc j 0 m m) ∧ x.2 = .opq n)) (hM : ∀ x ∈ M', look M x.1 = some x.2 ∧ x.1 ≠ j)
    (h : Run c ⟨T', (n, .row e m cs te) :: M', n + 1, D, todo⟩ R) : Run c ⟨T, M, n, D, todo⟩ R := by
  refine ⟨fun ρ a w hi => ?_⟩
  obtain ⟨hSj, hscj, h0, hc⟩ := hi.wi.mem j _ hj
  have ho : w.ownsRow 0 te e (.slice (some ⟨ρ.s j, 0, none⟩) m m) m (SV.concs ρ cs) :=
    ⟨by rw [concs_length, hme], .inr ⟨ρ.s j, m, (SV.concs ρ cs).toArray, rfl, Nat.zero_le _, hc, Nat.le_refl _, by simp only [maxLen]; omega, by simp [concs_length, hme], by
      exact List.take_of_length_le (by simp [concs_length, hme])⟩⟩
  have hsub : ∀ k o, look M' k = some o → look M k = some o := fun k o hk => (hM _ (look_mem hk)).1
  obtain ⟨hW', hag⟩ := hi.wi.rowTo (w' := w) (M1 := look M') hsub (i := n) (Nat.lt_irrefl n) (v := .slice (some ⟨ρ.s j, 0, none⟩) m m) (row := some (ρ.s j)) ⟨rfl, rfl, rfl, Nat.le_refl _, fun _ _ _ => rfl⟩ (fun b hb => by
    obtain rfl := Option.some.inj hb
    exact ⟨fun k o hk ck => hi.wi.dist k j o _ (hsub k o hk) hj (hM _ (look_mem hk)).2 ck trivial, hi.wi.new j _ hj trivial⟩)
    (fun g hg => .inl hg) ho hscj
  have hbv := conc_bindV ho ρ n
  refine h.go (ρ.bindV n (.slice (some ⟨ρ.s j, 0, none⟩) m m)) a w ⟨hi.sz, fun t v ht => ?_, hi.df, ?_⟩
  · rcases hT _ (look_mem ht) with h1 | ⟨h1, h2⟩
    · obtain ⟨g1, g2, g3⟩ := hi.tm t v h1
      exact ⟨g1, by rw [conc_agree hag _ g3]; exact g2, SV.sc_mono (fun q hq => by have hq : q < n := hq; show q < n + 1; omega) _ g3⟩
    · simp only at h2
      subst h2
      obtain ⟨g1, g2, g3⟩ := hi.tm t _ h1
      refine ⟨g1, ?_, Nat.lt_succ_self n⟩
      rw [hbv, g2]
      simp only [SV.conc, h0, Nat.add_zero]
  · rw [look_upd]
    exact hW'.mono fun q hq => by have hq : q < n ∨ q = n := hq; show q < n + 1; omega
end Go.Sx
namespace Go.Proofs.Ythaigkamfnjfbaa
open Go.Sx
set_option maxRecDepth 100000
/-- A copy of a slice. -/
def ClonePost (te e n : Nat) (vs : List Value) (w : World) (en : Ending) (w' : World) : Prop := ∃ l, en = .returned l ∧ Ext w w' ∧ w'.ownsRow w.heap.size te e l n vs
theorem cloneParams (v : Value) (n : Nat) (vs : List Value) (w : World) (hr : RowsAt w v 8 n vs) (h1 : ∀ u ∈ vs, u.oneCell' = true) (hn : n ≤ 1000000) : Calls Try.prog 52 #[v] w (ClonePost 88 8 n vs w) := by
  have hc : ∀ f fn cuts L, Try.prog.funcs[f]? = some fn → Cx.ok ⟨Try.prog, tab, [], f, fn, cuts, w, L, none⟩ := fun f fn cuts L h => ⟨tab_ok, trivial, h, mixed, fun _ h => by cases h⟩
  obtain ⟨hl, p, cap, rfl, hcap, hp⟩ := hr
  refine Run.start0 (tab := tab) (pf := []) (cuts := []) mixed tab_ok trivial Try.func52 rfl [.v (.slice p n cap)] 100 ⟨trivial, trivial⟩ rfl ?_
  conv => whnf
  refine Run.eqNilS rfl rfl rfl rfl rfl rfl Try.underlying54 ?_
  cases p with
  | none =>
    refine Run.of_wpK (hc _ _ _ _ Try.func52) 100 _ ?_
    conv => whnf
    have h0 : n = 0 := by
      rcases hp with hp | ⟨_, _, hp, _⟩
      · exact hp
      · cases hp
    subst h0
    have hvs : vs = [] := List.eq_nil_of_length_eq_zero (by simpa using hl)
    subst hvs
    exact ⟨fun ρ w' hW _ => ⟨.slice none 0 0, rfl, hW.toExt, World.ownsRow_nil _ _ _ _⟩⟩
  | some ad =>
    refine Run.of_wpK (hc _ _ _ _ Try.func52) 100 _ ?_
    conv => whnf
    refine Run.slcRowE (T' := [(5, .opq 1), (6, .v (.slice (some ad) n cap))]) (M' := []) 0 8 0 [] 88 rfl rfl (by omega) (AllP.mem ⟨.inr ⟨rfl, rfl⟩, .inl rfl, trivial⟩) (fun x hx => by cases hx) ?_
    refine Run.appendV (hc _ _ _ _ Try.func52) rfl rfl rfl rfl rfl rfl vs rfl hl (fun ρ w1 hW jj u hu => ?_) h1 rfl rfl rfl rfl (by omega) ⟨by omega, by omega⟩ [] (fun x hx => by cases hx) ?_
    · have hr2 : RowsAt w (.slice (some ad) n cap) 8 n vs := ⟨hl, some ad, cap, rfl, hcap, hp⟩
      obtain ⟨_, p2, cap2, h2, _, h3⟩ := hr2.ext hW.toExt
      simp only [Value.slice.injEq] at h2
      obtain ⟨rfl, _, rfl⟩ := h2
      rcases h3 with h3 | ⟨blk, off, h3, h4, h5⟩
      · subst h3
        have hvs : vs = [] := List.eq_nil_of_length_eq_zero (by simpa using hl)
        subst hvs
        cases hu
      · obtain rfl := Option.some.inj h3
        rw [addr_add]; exact h5 jj u hu
    refine Run.of_wpK (hc _ _ _ _ Try.func52) 100 _ ?_
    conv => whnf
    refine ⟨fun ρ w' hW _ => ⟨(SV.opq 2).conc ρ, rfl, hW.toExt, ?_⟩⟩
    have := hW.ownsNew (i := 2) (e := 8) rfl (by omega)
    rw [List.nil_append, concs_v, Nat.zero_add] at this
    exact this
end Go.Proofs.Ythaigkamfnjfbaa
namespace Go.Sx
section
variable {α β : Type} {f : α → List β} {e : Nat}
theorem drop_flat (hf : ∀ a, (f a).length = e) : ∀ (l : List α) (i : Nat), (l.flatMap f).drop (i * e) = (l.drop i).flatMap f
  | [], i => by simp
  | a :: l, 0 => by simp
  | a :: l, i + 1 => by
    have h1 : (i + 1) * e = e + i * e := by rw [Nat.succ_mul]; omega
    rw [List.flatMap_cons, h1, ← List.drop_drop, List.drop_left' (hf a), drop_flat hf l i]; rfl
theorem flat_length (hf : ∀ a, (f a).length = e) (l : List α) : (l.flatMap f).length = l.length * e := by
  induction l with
  | nil => simp
  | cons a l ih => rw [List.flatMap_cons, List.length_append, hf, ih, List.length_cons, Nat.succ_mul]; omega
theorem takeD_of {γ : Type} : ∀ (l : List γ) (i n : Nat), i + n ≤ l.length → takeD l i n = some ((l.drop i).take n)
  | l, 0, 0, _ => by cases l <;> simp [takeD]
  | [], 0, n + 1, h => by simp at h
  | a :: l, 0, n + 1, h => by
    have := takeD_of l 0 n (by simp at h; omega)
    simp [takeD, this]
  | [], i + 1, n, h => by simp at h
  | a :: l, i + 1, n, h => by
    have := takeD_of l i n (by simp at h; omega)
    simp [takeD, this]
theorem writeD_of {γ : Type} : ∀ (l : List γ) (i : Nat) (r : List γ), i + r.length ≤ l.length → writeD l i r = some (l.take i ++ r ++ l.drop (i + r.length))
  | l, 0, [], _ => by cases l <;> simp [writeD]
  | [], 0, _ :: _, h => by simp at h
  | a :: l, 0, b :: r, h => by
    have := writeD_of l 0 r (by simp at h ⊢; omega)
    simp [writeD, this]
  | [], i + 1, r, h => by simp at h
  | a :: l, i + 1, r, h => by
    have := writeD_of l i r (by simp at h; omega)
    rw [show i + 1 + r.length = (i + r.length) + 1 by omega]
    cases r <;> simp [writeD, this]
theorem takeD_flat (hf : ∀ a, (f a).length = e) {l : List α} {i : Nat} (hi : i < l.length) : takeD (l.flatMap f) (i * e) e = some (f l[i]) := by
  have hl : i * e + e ≤ (l.flatMap f).length := by
    rw [flat_length hf, ← Nat.succ_mul]; exact Nat.mul_le_mul_right _ hi
  rw [takeD_of _ _ _ hl, drop_flat hf, List.drop_eq_getElem_cons hi, List.flatMap_cons, List.take_append_of_le_length (by rw [hf]; omega), List.take_of_length_le (by rw [hf]; omega)]
theorem get_flat (hf : ∀ a, (f a).length = e) {l : List α} {i k : Nat} (hi : i < l.length) (hk : k < e) : get (l.flatMap f) (i * e + k) = get (f l[i]) k := by
  rw [get_eq, get_eq, ← List.getElem?_drop, drop_flat hf, List.drop_eq_getElem_cons hi, List.flatMap_cons, List.getElem?_append_left (by rw [hf]; exact hk)]
theorem take_flat (hf : ∀ a, (f a).length = e) : ∀ (l : List α) (i : Nat), (l.flatMap f).take (i * e) = (l.take i).flatMap f
  | [], i => by simp
  | a :: l, 0 => by simp
  | a :: l, i + 1 => by
    have h1 : (i + 1) * e = e + i * e := by rw [Nat.succ_mul]; omega
    rw [List.flatMap_cons, h1, List.take_append, hf, List.take_of_length_le (by rw [hf]; omega), Nat.add_sub_cancel_left, take_flat hf l i]; rfl
theorem set_flat {l : List α} {i : Nat} (hi : i < l.length) (a : α) : (l.set i a).flatMap f = (l.take i).flatMap f ++ f a ++ (l.drop (i + 1)).flatMap f := by
  rw [List.set_eq_take_append_cons_drop, if_pos hi]
  simp
theorem writeD_flat (hf : ∀ a, (f a).length = e) {l : List α} {i : Nat} (hi : i < l.length) (a : α) : writeD (l.flatMap f) (i * e) (f a) = some ((l.set i a).flatMap f) := by
  have hl : i * e + e ≤ (l.flatMap f).length := by
    rw [flat_length hf, ← Nat.succ_mul]; exact Nat.mul_le_mul_right _ hi
  rw [writeD_of _ _ _ (by rw [hf]; exact hl), set_flat hi, take_flat hf, hf, ← Nat.succ_mul, drop_flat hf]
end
section
variable {α : Type} {tab : Tab} {pf : PF} {T : Tm} {M : Mem} {n : Nat} {t : TypeId} {x y : Operand} {ti : TI} {j off e m : Nat}
theorem opF_loadW {f : α → List Value} {l : List α} (i : Nat) (ht : look tab t = some ti) (hx : ev T x = some (.ptr j off)) (hM : M j = some (.rwin e m (l.flatMap f))) (hag : ti.sh.isAgg = true) (hsz : ti.size = e) (hf : ∀ a, (f a).length = e) (hoff : off = i * e) (hi : i < l.length) :
    opF tab pf T M n (.load t x) = some (.val none (.agg ((f l[i]).map .v))) := by
  subst hoff
  simp only [opF, opLoad, ht, hx, hM, hag, hsz, takeD_flat hf hi]
theorem opF_loadWf {f : α → List Value} {l : List α} {c : Value} (i k : Nat) (ht : look tab t = some ti) (hx : ev T x = some (.ptr j off)) (hM : M j = some (.rwin e m (l.flatMap f))) (hag : ti.sh.isAgg = false) (hf : ∀ a, (f a).length = e) (hoff : off = i * e + k) (hi : i < l.length) (hk : k < e)
    (hc : get (f l[i]) k = some c) : opF tab pf T M n (.load t x) = some (.val none (.v c)) := by
  subst hoff
  simp only [opF, opLoad, ht, hx, hM, hag, get_flat hf hi hk, hc]
theorem opF_loadR {f : α → List SV} {l : List α} {te : TypeId} (i : Nat) (ht : look tab t = some ti) (hx : ev T x = some (.ptr j off)) (hM : M j = some (.row e m (l.flatMap f) te)) (hag : ti.sh.isAgg = true) (hsz : ti.size = e) (hf : ∀ a, (f a).length = e) (hoff : off = i * e) (hi : i < l.length) :
    opF tab pf T M n (.load t x) = some (.val none (.agg (f l[i]))) := by
  subst hoff
  simp only [opF, opLoad, ht, hx, hM, hag, hsz, SObj.list, takeD_flat hf hi]
theorem opF_loadRf {f : α → List SV} {l : List α} {te : TypeId} {c : SV} (i k : Nat) (ht : look tab t = some ti) (hx : ev T x = some (.ptr j off)) (hM : M j = some (.row e m (l.flatMap f) te)) (hag : ti.sh.isAgg = false) (hf : ∀ a, (f a).length = e) (hoff : off = i * e + k) (hi : i < l.length) (hk : k < e)
    (hc : get (f l[i]) k = some c) : opF tab pf T M n (.load t x) = some (.val none c) := by
  subst hoff
  simp only [opF, opLoad, ht, hx, hM, hag, SObj.list, get_flat hf hi hk, hc]
/-- One element stored. -/
theorem opF_storeR {f : α → List SV} {l : List α} {te : TypeId} {v : SV} (i : Nat) (a : α) (ht : look tab t = some ti) (hx : ev T x = some (.ptr j off)) (hy : ev T y = some v) (hM : M j = some (.row e m (l.flatMap f) te)) (hsz : ti.size = e) (hf : ∀ a, (f a).length = e) (hoff : off = i * e) (hi : i < l.length) (he : 0 < e)
    (hv : v.cells = f a) (hone : allOne (f a) = true) : opF tab pf T M n (.store t x y) = some (.wr j (.row e m ((l.set i a).flatMap f) te)) := by
  subst hoff
  have h1 : Nat.beq (f a).length e = true := by rw [hf]; exact Nat.beq_refl e
  have h2 := writeD_flat hf hi a
  cases hc : f a with
  | nil => have := hf a; rw [hc] at this; simp at this; omega
  | cons c r =>
    rw [hc] at h1 h2 hone
    rw [hc] at hv
    simp only [opF, opStore, ht, hx, hy, hM, SObj.list, hv, hsz, h1, hone, h2, SObj.put]
theorem opF_loadR1 {l : List SV} {te : TypeId} {c : SV} (i : Nat) (ht : look tab t = some ti) (hx : ev T x = some (.ptr j off)) (hM : M j = some (.row e m l te)) (hag : ti.sh.isAgg = false) (hoff : off = i) (hc : l[i]? = some c) : opF tab pf T M n (.load t x) = some (.val none c) := by
  subst hoff
  simp only [opF, opLoad, ht, hx, hM, hag, SObj.list, get_eq, hc]
theorem opF_storeR1 {l : List SV} {te : TypeId} {v : SV} (i : Nat) (ht : look tab t = some ti) (hx : ev T x = some (.ptr j off)) (hy : ev T y = some v) (hM : M j = some (.row e m l te)) (hsz : ti.size = 1) (hoff : off = i) (hi : i < l.length) (hv : v.cells = [v]) (hone : v.one = true) :
    opF tab pf T M n (.store t x y) = some (.wr j (.row e m (l.set i v) te)) := by
  subst hoff
  have h2 : writeD l off [v] = some (l.set off v) := by
    rw [writeD_of _ _ _ (by simp; omega), List.set_eq_take_append_cons_drop, if_pos hi]; simp
  simp only [opF, opStore, ht, hx, hy, hM, SObj.list, hv, hsz, List.length_singleton, show Nat.beq 1 1 = true from rfl, allOne, hone, h2, SObj.put]
end
theorem idx_nat (i sz : Nat) : idx (i : Int) sz = i * sz := by rw [idx_eq, Int.toNat_natCast]
theorem Run.upToJ {c : Cx} {T : Nat → List (Nat × SV)} {M : Nat → List (Nat × SObj)} {n : Nat} {D : List Deferred} {todo : List Item} {R : Ending → World → Prop} (J : Nat → Prop) (N : Nat) (h0 : J 0)
    (hstep : ∀ i, i < N → J i → (J (i + 1) → Run c ⟨T (i + 1), M (i + 1), n, D, todo⟩ R) → Run c ⟨T i, M i, n, D, todo⟩ R) (hend : J N → Run c ⟨T N, M N, n, D, todo⟩ R) : Run c ⟨T 0, M 0, n, D, todo⟩ R := by
  have : ∀ k i, N - i = k → i ≤ N → J i → Run c ⟨T i, M i, n, D, todo⟩ R := by
    intro k
    induction k with
    | zero =>
      intro i hk hi hj
      have e : i = N := by omega
      subst e
      exact hend hj
    | succ k ih => intro i hk hi hj; exact hstep i (by omega) hj (fun hj' => ih (i + 1) (by omega) (by omega) hj')
  exact this _ 0 rfl (Nat.zero_le _) h0
def rowsM : Nat → List (Value × Nat × Nat × List Value) → List (Nat × SObj)
  | _, [] => []
  | i, x :: l => (i, .rwin x.2.1 x.2.2.1 x.2.2.2) :: rowsM (i + 1) l
theorem rowsM_mem : ∀ (l : List (Value × Nat × Nat × List Value)) (i : Nat) (y : Nat × SObj), y ∈ rowsM i l → ∃ k x, l[k]? = some x ∧ y.1 = i + k ∧ y.2 = .rwin x.2.1 x.2.2.1 x.2.2.2
  | [], i, y, h => by simp [rowsM] at h
  | x :: l, i, y, h => by
    rcases List.mem_cons.1 h with rfl | h
    · exact ⟨0, x, rfl, rfl, rfl⟩
    · obtain ⟨k, x', h1, h2, h3⟩ := rowsM_mem l (i + 1) y h
      exact ⟨k + 1, x', by simpa using h1, by omega, h3⟩
theorem WI.rows (w : World) (l : List (Value × Nat × Nat × List Value)) (h : AllP (fun x => RowsAt w x.1 x.2.1 x.2.2.1 x.2.2.2) l) : WI w [] (envW (l.map (·.1))) (look (rowsM 0 l)) (· < l.length) w := by
  refine WI.tell (fun y hy => ?_) (fun y hy z _ _ ho => ?_) (fun y hy ho => ?_) (fun p hp => by cases hp)
  · obtain ⟨k, x, h1, h2, h3⟩ := rowsM_mem l 0 y hy
    have hx := AllP.mem h x (List.mem_of_getElem? h1)
    have hk : k < l.length := (List.getElem?_eq_some_iff.1 h1).1
    rw [h3, h2, Nat.zero_add]
    refine ⟨hk, trivial, envW_holds (v := x.1) ?_ hx⟩
    simp [List.getD_eq_getElem?_getD, h1]
  · obtain ⟨k, x, _, _, h3⟩ := rowsM_mem l 0 y hy
    rw [h3] at ho; exact ho.elim
  · obtain ⟨k, x, _, _, h3⟩ := rowsM_mem l 0 y hy
    rw [h3] at ho; exact ho.elim
theorem conc_rows {w : World} {l : List (Value × Nat × Nat × List Value)} (h : AllP (fun x => RowsAt w x.1 x.2.1 x.2.2.1 x.2.2.2) l) {k : Nat} {v : Value} (hk : (l.map (·.1))[k]? = some v) : (SV.opq k).conc (envW (l.map (·.1))) = v := by
  simp only [List.getElem?_map] at hk
  cases hx : l[k]? with
  | none => simp [hx] at hk
  | some x =>
    simp [hx] at hk
    subst hk
    exact envW_conc (by simp [List.getD_eq_getElem?_getD, hx]) (AllP.mem h x (List.mem_of_getElem? hx))
/-- A call whose arguments hold slices that are only read. -/
theorem Run.startW {P : Program} {tab : Tab} {pf : PF} {cuts : List (Nat × Nat)} {f : FuncId} {fn : Func} {cd : Code} {w : World} {R : Ending → World → Prop} (hf : P.funcs[f]? = some fn) (hb : fn.body = some cd) (l : List (Value × Nat × Nat × List Value)) (h : AllP (fun x => RowsAt w x.1 x.2.1 x.2.2.1 x.2.2.2) l)
    (args : List SV) (vals : List Value) (M : List (Nat × SObj)) (n : Nat) (hM : rowsM 0 l = M) (hn : l.length = n) (hv : SV.concs (envW (l.map (·.1))) args = vals) (hs : SV.scs (· < n) args) (hN : Nat.ble (lenL args) fn.ntmps = true)
    (hr : Run ⟨P, tab, pf, f, fn, cuts, w, [], none⟩ ⟨numb 0 args, M, n, [], [.code cd]⟩ R) : Calls P f vals.toArray w R := by
  subst hM hn
  rw [← hv]
  exact Run.calls hf hb _ args (rowsM 0 l) l.length hs hN (WI.rows w l h) hr
end Go.Sx
namespace Go.Proofs.Ythaigkamfnjfbaa
open Go.Sx
set_option maxRecDepth 100000
structure Syn where
  fr : Int
  to : Int
  w : Int
  d : Int
structure Net where
  N : List Prm
  inp : Int
  S : List Syn
def Prm.vals (p : Prm) : List Value := [.int .i64 p.lk, .int .i64 p.leak, .int .i64 p.bias, .int .i64 p.thr, .int .i64 p.rk, .int .i64 p.reset, .int .i64 p.floor, .int .i64 p.rest]
def Syn.vals (s : Syn) : List Value := [.int .i64 s.fr, .int .i64 s.to, .int .i64 s.w, .int .i64 s.d]
theorem Prm.vlen (p : Prm) : p.vals.length = 8 := rfl
theorem Syn.vlen (s : Syn) : s.vals.length = 4 := rfl
def IsNet (w : World) (vN vS : Value) (n : Net) : Prop := RowsAt w vN 8 n.N.length (n.N.flatMap Prm.vals) ∧ RowsAt w vS 4 n.S.length (n.S.flatMap Syn.vals)
def netV (vN vS : Value) (n : Net) : Value := .agg #[vN, .int .i64 n.inp, vS]
def FSrc (f : Nat → Int → Int → Bool) : Mem → List SV → Option (List Nat × SV) := fun M args => match args with
  | [.agg [.opq a, .v (.int .i64 inp), .opq _], .v (.int .i64 fr)] => match M a with
    | some (.rwin _ m _) => some ([a], .v (.bool (f m inp fr)))
    | _ => none
  | _ => none
theorem Pure.ofSrc {g : FuncId} {f : Nat → Int → Int → Bool} (he : Enters Try.prog g) (h : ∀ (p : Option Addr) m cap inp (p2 : Option Addr) m2 cap2 fr w, Calls Try.prog g #[.agg #[.slice p m cap, .int .i64 inp, .slice p2 m2 cap2], .int .i64 fr] w fun e w' => e = .returned (.bool (f m inp fr)) ∧ Ext w w') : Pure Try.prog g (FSrc f) where
  ent := he
  sc S M args bs v hv _ := by
    unfold FSrc at hv
    split at hv
    · split at hv
      · obtain ⟨rfl, rfl⟩ := Prod.mk.inj (Option.some.inj hv); trivial
      · cases hv
    · cases hv
  cong M M' args bs v hv hb := by
    unfold FSrc at hv ⊢
    split at hv
    · rename_i a inp x fr
      split at hv
      · rename_i e m vs hM
        obtain ⟨rfl, rfl⟩ := Prod.mk.inj (Option.some.inj hv)
        have := hb a (by simp)
        simp only [this, hM]
      · cases hv
    · cases hv
  run w0 L ρ M S args bs v w hW hv := by
    unfold FSrc at hv
    split at hv
    · rename_i a inp x fr
      split at hv
      · rename_i e m vs hM
        obtain ⟨rfl, rfl⟩ := Prod.mk.inj (Option.some.inj hv)
        obtain ⟨_, _, _, hm, _⟩ := hW.mem a _ hM
        have := h (ρ.h a).1 m (ρ.h a).2.2 inp (ρ.h x).1 (ρ.h x).2.1 (ρ.h x).2.2 fr w
        simp only [SV.concs, SV.conc, hm]
        exact this
      · cases hv
    · cases hv
def srcB (m : Nat) (inp fr : Int) : Bool := wi fr (W (-inp)) (W ((m : Int) - 1))
theorem source_run (p : Option Addr) (m cap : Nat) (inp : Int) (p2 : Option Addr) (m2 cap2 : Nat) (fr : Int) (w : World) : Calls Try.prog 61 #[.agg #[.slice p m cap, .int .i64 inp, .slice p2 m2 cap2], .int .i64 fr] w fun e w' => e = .returned (.bool (srcB m inp fr)) ∧ Ext w w' := by
  refine Run.start0 (tab := tab) (pf := [(50, F3 fun n lo hi => .bool (wi n lo hi))]) (cuts := []) mixed tab_ok ⟨nwithin_pure, trivial⟩ Try.func61 rfl [.agg [.v (.slice p m cap), ii inp, .v (.slice p2 m2 cap2)], ii fr] 100 (by simp [SV.scs, SV.sc]) rfl ?_
  conv => whnf
  exact ⟨fun ρ w' hW _ => ⟨rfl, hW.toExt⟩⟩
theorem source_pure : Pure Try.prog 61 (FSrc srcB) := Pure.ofSrc (ent _ _ Try.func61 (by kernel_rfl) rfl) source_run
/-- The first error in a list. -/
def firstE {α : Type} (f : α → Int) : List α → Int
  | [] => 0
  | a :: l => if f a = 0 then firstE f l else f a
theorem firstE_all {α : Type} {f : α → Int} : ∀ {l : List α}, (∀ i (h : i < l.length), f l[i] = 0) → firstE f l = 0
  | [], _ => rfl
  | a :: l, h => by
    have h0 := h 0 (by simp)
    simp only [List.getElem_cons_zero] at h0
    rw [firstE, if_pos h0]
    exact firstE_all fun i hi => by have := h (i + 1) (by simp; omega); simpa using this
theorem firstE_at {α : Type} {f : α → Int} : ∀ {l : List α} {i : Nat} (hi : i < l.length), (∀ j (h : j < l.length), j < i → f l[j] = 0) → f l[i] ≠ 0 → firstE f l = f l[i]
  | [], i, hi, _, _ => by simp at hi
  | a :: l, 0, hi, _, h0 => by simp only [List.getElem_cons_zero] at h0 ⊢; rw [firstE, if_neg h0]
  | a :: l, i + 1, hi, h, h0 => by
    have ha := h 0 (by simp) (by omega)
    simp only [List.getElem_cons_zero] at ha
    rw [firstE, if_pos ha]
    simp only [List.getElem_cons_succ] at h0 ⊢
    exact firstE_at (by simpa using hi) (fun j hj hji => by have := h (j + 1) (by simp; omega) (by omega); simpa using this) h0
def synOk (m : Nat) (inp : Int) (s : Syn) : Bool := srcB m inp s.fr && wi s.to 0 (W ((m : Int) - 1)) && wi s.w (-32768) 32768 && wi s.d 1 16
def netChk (n : Net) : Int :=
  if (n.N.length : Int) = 0 then 2 else if decide (1024 < (n.N.length : Int)) || decide (256 < n.inp) || decide (8192 < (n.S.length : Int)) then 9 else if n.inp < 0 then 3 else
  if firstE chk n.N = 0 then firstE (fun s => if synOk n.N.length n.inp s then 0 else 3) n.S else firstE chk n.N
theorem upJ {n i : Nat} {P : (j : Nat) → j < n → Prop} (hJ : ∀ j (h : j < n), j < i → P j h) (hi : i < n) (hp : P i hi) : ∀ j (h : j < n), j < i + 1 → P j h := fun j hj hji => by
  rcases Nat.lt_or_ge j i with h | h
  · exact hJ j hj h
  · have e : j = i := by omega
    subst e; exact hp
abbrev pfn1 (ck : Prm → Int) (sb : Nat → Int → Int → Bool) : PF := [(60, FP fun p => .int .i64 (ck p)), (61, FSrc sb), (50, F3 fun n lo hi => .bool (wi n lo hi))]
theorem netCheck_run (vN vS : Value) (n : Net) (w : World) (hn : IsNet w vN vS n) : Calls Try.prog 49 #[netV vN vS n] w fun e w' => e = .returned (.int .i64 (netChk n)) ∧ Ext w w' := by
  obtain ⟨ck, hck⟩ : ∃ ck, chk = ck := ⟨_, rfl⟩
  obtain ⟨sb, hsb⟩ : ∃ sb, srcB = sb := ⟨_, rfl⟩
  have hpf : PF.oks Try.prog (pfn1 ck sb) := by rw [← hck, ← hsb]; exact ⟨check_pure, source_pure, nwithin_pure, trivial⟩
  have hc : ∀ L, Cx.ok ⟨Try.prog, tab, pfn1 ck sb, 49, Try.f49, [], w, L, none⟩ := fun L => ⟨tab_ok, hpf, Try.func49, mixed, fun _ h => by cases h⟩
  obtain ⟨h1, h2⟩ := hn
  obtain ⟨N, inp, S⟩ := n
  simp only at h1 h2
  have hrows : AllP (fun x : Value × Nat × Nat × List Value => RowsAt w x.1 x.2.1 x.2.2.1 x.2.2.2) [(vN, 8, N.length, N.flatMap Prm.vals), (vS, 4, S.length, S.flatMap Syn.vals)] := ⟨h1, h2, trivial⟩
  refine Run.startW Try.func49 rfl _ hrows [.agg [.opq 0, ii inp, .opq 1]] [netV vN vS ⟨N, inp, S⟩] [(0, .rwin 8 N.length (N.flatMap Prm.vals)), (1, .rwin 4 S.length (S.flatMap Syn.vals))] 2 rfl rfl
    (by show [Value.agg [(SV.opq 0).conc _, .int .i64 inp, (SV.opq 1).conc _].toArray] = _; rw [conc_rows hrows (k := 0) rfl, conc_rows hrows (k := 1) rfl]; rfl) (by simp [SV.scs, SV.sc]) rfl (Run.of_wpK (hc _) 1000 _ ?_)
  conv => whnf
  have fin : ∀ x : Int, netChk ⟨N, inp, S⟩ = x → ∀ {M : List (Nat × SObj)} {n : Nat} {c : Cx}, c.w0 = w → c.L = [] → RetOk c M n (.v (.int .i64 x)) (fun e w' => e = .returned (.int .i64 (netChk ⟨N, inp, S⟩)) ∧ Ext w w') :=
    fun x hx M n c hw hL => ⟨fun ρ w' hW _ => ⟨by rw [hx]; rfl, by rw [hw, hL] at hW; exact hW.toExt⟩⟩
  cases e1 : ((N.length : Int) == 0)
  case true =>
    conv => whnf
    exact fin 2 (by have : (N.length : Int) = 0 := by simpa using e1
                    simp only [netChk]; rw [if_pos this]) rfl rfl
  have e1' : ¬ (N.length : Int) = 0 := by simpa using e1
  conv => whnf
  have nine : (decide (1024 < (N.length : Int)) || decide (256 < inp) || decide (8192 < (S.length : Int))) = true → netChk ⟨N, inp, S⟩ = 9 := fun h => by simp only [netChk]; rw [if_neg e1', if_pos h]
  cases e2 : decide (1024 < (N.length : Int))
  case true =>
    conv => whnf
    exact fin 9 (nine (by rw [e2]; rfl)) rfl rfl
  conv => whnf
  cases e3 : decide (256 < inp)
  case true =>
    conv => whnf
    exact fin 9 (nine (by rw [e2, e3]; rfl)) rfl rfl
  conv => whnf
  cases e4 : decide (8192 < (S.length : Int))
  case true =>
    conv => whnf
    exact fin 9 (nine (by rw [e2, e3, e4]; rfl)) rfl rfl
  conv => whnf
  have e5 : ¬ (decide (1024 < (N.length : Int)) || decide (256 < inp) || decide (8192 < (S.length : Int))) = true := by rw [e2, e3, e4]; decide
  have hNl : N.length ≤ 1024 := by have := of_decide_eq_false e2; omega
  have hSl : S.length ≤ 8192 := by have := of_decide_eq_false e4; omega
  cases e6 : decide (inp < 0)
  case true =>
    conv => whnf
    exact fin 3 (by simp only [netChk]; rw [if_neg e1', if_neg e5, if_pos (of_decide_eq_true e6)]) rfl rfl
  have e6' := of_decide_eq_false e6
  conv => whnf
  refine Run.trim (T' := [(1, .ptr 2 0), (2, ii 0), (34, .opq 0), (35, ii (N.length : Int)), (36, ii ((0 : Nat) : Int))]) (M' := [(2, .cells [.opq 0, ii inp, .opq 1] 57), (0, .rwin 8 N.length (N.flatMap Prm.vals)), (1, .rwin 4 S.length (S.flatMap Syn.vals))]) 3 ⟨⟨rfl, (show 2 < 3 by decide)⟩, ⟨rfl, trivial⟩, ⟨rfl, (show 0 < 3 by decide)⟩, ⟨rfl, trivial⟩, ⟨rfl, trivial⟩, trivial⟩ ⟨⟨rfl, (show 2 < 3 by decide), by simp [SObj.sc, SV.scs, SV.sc]⟩, ⟨rfl, (show 0 < 3 by decide), trivial⟩, ⟨rfl, (show 1 < 3 by decide), trivial⟩, trivial⟩ (fun q hq => by cases hq) ?_
  refine Run.upToJ (T := fun i => [(1, .ptr 2 0), (2, ii 0), (34, .opq 0), (35, ii (N.length : Int)), (36, ii (i : Int))]) (M := fun i => [(2, .cells [.opq 0, ii inp, .opq 1] 57), (0, .rwin 8 N.length (N.flatMap Prm.vals)), (1, .rwin 4 S.length (S.flatMap Syn.vals))]) (fun i => ∀ j (h : j < N.length), j < i → ck N[j] = 0) (N.length) ?_ ?_ ?_
  · exact (fun j _ h => absurd h (by omega))
  · intro i hi hJ ih
    refine Run.of_wpK (hc _) 1000 _ ?_
    conv => whnf
    rw [decide_eq_true (show (i : Int) < (N.length : Int) by omega)]
    conv => whnf
    refine ⟨by omega, ?_⟩
    conv => whnf
    rw [opF_loadW (f := Prm.vals) (l := N) i rfl rfl rfl rfl rfl Prm.vlen (idx_nat i 8) hi]
    conv => whnf
    cases e7 : ck N[i] != 0
    case true =>
      conv => whnf
      have e7' : ck N[i] ≠ 0 := by simpa using e7
      exact fin _ (by simp only [netChk]; rw [if_neg e1', if_neg e5, if_neg e6', hck, firstE_at hi (fun j hj hji => hJ j hj hji) e7', if_neg e7']) rfl rfl
    have e7' : ck N[i] = 0 := by simpa using e7
    conv => whnf
    rw [wrap_succ (i := i) (by omega)]
    exact Run.trim (T' := [(1, .ptr 2 0), (2, ii 0), (34, .opq 0), (35, ii (N.length : Int)), (36, ii ((i + 1 : Nat) : Int))]) (M' := [(2, .cells [.opq 0, ii inp, .opq 1] 57), (0, .rwin 8 N.length (N.flatMap Prm.vals)), (1, .rwin 4 S.length (S.flatMap Syn.vals))]) 3 ⟨⟨rfl, (show 2 < 3 by decide)⟩, ⟨rfl, trivial⟩, ⟨rfl, (show 0 < 3 by decide)⟩, ⟨rfl, trivial⟩, ⟨rfl, trivial⟩, trivial⟩ ⟨⟨rfl, (show 2 < 3 by decide), by simp [SObj.sc, SV.scs, SV.sc]⟩, ⟨rfl, (show 0 < 3 by decide), trivial⟩, ⟨rfl, (show 1 < 3 by decide), trivial⟩, trivial⟩ (fun q hq => by cases hq) (ih (upJ hJ hi e7'))
  · intro hJ
    refine Run.of_wpK (hc _) 1000 _ ?_
    conv => whnf
    rw [decide_eq_false (show ¬ (N.length : Int) < (N.length : Int) by omega)]
    conv => whnf
    have hN0 : firstE ck N = 0 := firstE_all fun j hj => hJ j hj hj
    refine Run.trim (T' := [(1, .ptr 2 0), (2, ii 0), (47, .opq 1), (48, ii (S.length : Int)), (49, ii ((0 : Nat) : Int))]) (M' := [(2, .cells [.opq 0, ii inp, .opq 1] 57), (0, .rwin 8 N.length (N.flatMap Prm.vals)), (1, .rwin 4 S.length (S.flatMap Syn.vals))]) 3 ⟨⟨rfl, (show 2 < 3 by decide)⟩, ⟨rfl, trivial⟩, ⟨rfl, (show 1 < 3 by decide)⟩, ⟨rfl, trivial⟩, ⟨rfl, trivial⟩, trivial⟩ ⟨⟨rfl, (show 2 < 3 by decide), by simp [SObj.sc, SV.scs, SV.sc]⟩, ⟨rfl, (show 0 < 3 by decide), trivial⟩, ⟨rfl, (show 1 < 3 by decide), trivial⟩, trivial⟩ (fun q hq => by cases hq) ?_
    refine Run.upToJ (T := fun i => [(1, .ptr 2 0), (2, ii 0), (47, .opq 1), (48, ii (S.length : Int)), (49, ii (i : Int))]) (M := fun i => [(2, .cells [.opq 0, ii inp, .opq 1] 57), (0, .rwin 8 N.length (N.flatMap Prm.vals)), (1, .rwin 4 S.length (S.flatMap Syn.vals))]) (fun i => ∀ j (h : j < S.length), j < i → synOk N.length inp S[j] = true) (S.length) ?_ ?_ ?_
    · exact (fun j _ h => absurd h (by omega))
    · intro i hi hJ ih
      refine Run.of_wpK (hc _) 1000 _ ?_
      conv => whnf
      rw [decide_eq_true (show (i : Int) < (S.length : Int) by omega)]
      conv => whnf
      refine ⟨by omega, ?_⟩
      conv => whnf
      rw [opF_loadW (f := Syn.vals) (l := S) i rfl rfl rfl rfl rfl Syn.vlen (idx_nat i 4) hi]
      conv => whnf
      have three : synOk N.length inp S[i] = false → netChk ⟨N, inp, S⟩ = 3 := fun h => by
        have hz : firstE (fun s => if synOk N.length inp s then (0 : Int) else 3) S = 3 := by
          have := firstE_at (f := fun s => if synOk N.length inp s then (0 : Int) else 3) hi (fun j hj hji => by simp [hJ j hj hji]) (by simp [h])
          rw [this]; simp [h]
        simp only [netChk]; rw [if_neg e1', if_neg e5, if_neg e6', hck, if_pos hN0, hz]
      cases b1 : sb N.length inp S[i].fr
      case false =>
        conv => whnf
        exact fin 3 (three (by simp only [synOk]; rw [hsb, b1]; rfl)) rfl rfl
      conv => whnf
      cases b2 : wi S[i].to 0 (IntKind.i64.wrap ((N.length : Int) - 1))
      case false =>
        conv => whnf
        exact fin 3 (three (by simp only [synOk, W]; rw [hsb, b1, b2]; rfl)) rfl rfl
      conv => whnf
      cases b3 : wi S[i].w (-32768) 32768
      case false =>
        conv => whnf
        exact fin 3 (three (by simp only [synOk, W]; rw [hsb, b1, b2, b3]; rfl)) rfl rfl
      conv => whnf
      cases b4 : wi S[i].d 1 16
      case false =>
        conv => whnf
        exact fin 3 (three (by simp only [synOk, W]; rw [hsb, b1, b2, b3, b4]; rfl)) rfl rfl
      conv => whnf
      have e8 : synOk N.length inp S[i] = true := by simp only [synOk, W]; rw [hsb, b1, b2, b3, b4]; rfl
      rw [wrap_succ (i := i) (by omega)]
      exact Run.trim (T' := [(1, .ptr 2 0), (2, ii 0), (47, .opq 1), (48, ii (S.length : Int)), (49, ii ((i + 1 : Nat) : Int))]) (M' := [(2, .cells [.opq 0, ii inp, .opq 1] 57), (0, .rwin 8 N.length (N.flatMap Prm.vals)), (1, .rwin 4 S.length (S.flatMap Syn.vals))]) 3 ⟨⟨rfl, (show 2 < 3 by decide)⟩, ⟨rfl, trivial⟩, ⟨rfl, (show 1 < 3 by decide)⟩, ⟨rfl, trivial⟩, ⟨rfl, trivial⟩, trivial⟩ ⟨⟨rfl, (show 2 < 3 by decide), by simp [SObj.sc, SV.scs, SV.sc]⟩, ⟨rfl, (show 0 < 3 by decide), trivial⟩, ⟨rfl, (show 1 < 3 by decide), trivial⟩, trivial⟩ (fun q hq => by cases hq) (ih (upJ hJ hi e8))
    · intro hJ
      refine Run.of_wpK (hc _) 1000 _ ?_
      conv => whnf
      rw [decide_eq_false (show ¬ (S.length : Int) < (S.length : Int) by omega)]
      conv => whnf
      exact fin 0 (by simp only [netChk]; rw [if_neg e1', if_neg e5, if_neg e6', hck, if_pos hN0]; exact firstE_all (f := fun s => if synOk N.length inp s then (0 : Int) else 3) (fun j hj => by simp [hJ j hj hj])) rfl rfl
end Go.Proofs.Ythaigkamfnjfbaa
namespace Go.Sx
section
variable {w0 w : World} {L : List (Nat × Nat)} {ρ : Env} {M : Mem} {S : Nat → Prop}
theorem WI.rowsAt (hW : WI w0 L ρ M S w) {i e n : Nat} {vs : List Value} (hi : M i = some (.rwin e n vs)) : RowsAt w ((SV.opq i).conc ρ) e n vs := by
  obtain ⟨_, _, h1, h2, h3, h4⟩ := hW.mem i _ hi
  refine ⟨h1, (ρ.h i).1, (ρ.h i).2.2, by simp only [SV.conc, h2], h3, ?_⟩
  rcases h4 with h4 | ⟨h4, h5, h6, h7⟩
  · exact .inl h4
  · refine .inr ⟨ρ.s i, ρ.o i, h4, Nat.lt_of_lt_of_le h5 hW.size, fun j x hj => ?_⟩
    have := h7 j x hj
    simp only [World.cell?] at this ⊢
    rw [hW.keep _ h5 h6]; exact this
theorem WI.rowsAtR (hW : WI w0 L ρ M S w) {i e n : Nat} {xs : List SV} {t : TypeId} (hi : M i = some (.row e n xs t)) (he : 0 < e) : RowsAt w ((SV.opq i).conc ρ) e n (SV.concs ρ xs) := by
  obtain ⟨_, _, h0, h1, h2⟩ := hW.mem i _ hi
  rcases h2 with ⟨h2, h3⟩ | ⟨cap, sp, h2, ⟨h3, _⟩, h4⟩
  · subst h3
    exact ⟨by rw [concs_length, h1], none, 0, by simp only [SV.conc, h2], Nat.le_refl _, .inl rfl⟩
  · have hcap : n ≤ cap := Nat.le_of_mul_le_mul_right (c := e) (by omega) he
    refine ⟨by rw [concs_length, h1], some ⟨ρ.s i, 0, none⟩, cap, by simp only [SV.conc, h2], hcap, .inr ⟨ρ.s i, 0, rfl, (Array.getElem?_eq_some_iff.1 h4).1, fun j x hj => ?_⟩⟩
    have hjl : j < (SV.concs ρ xs).length := by
      rcases Nat.lt_or_ge j (SV.concs ρ xs).length with h | h
      · exact h
      · rw [List.getElem?_eq_none h] at hj; cases hj
    simp only [World.cell?, h4, Nat.zero_add, Option.isSome_none, Bool.false_eq_true, if_false]
    rw [← Array.getElem?_toList]
    simp only [List.getElem?_append_left hjl, hj]
theorem WI.rowsAtS (hW : WI w0 L ρ M S w) {i e n cap : Nat} {cs : List SV} {t : TypeId} (hi : M i = some (.cells cs t)) (hn : cs.length = n * e) (hc : n ≤ cap) : RowsAt w ((SV.slc i 0 n cap).conc ρ) e n (SV.concs ρ cs) := by
  obtain ⟨_, _, h0, h1⟩ := hW.mem i _ hi
  refine ⟨by rw [concs_length, hn], some ⟨ρ.s i, ρ.o i + 0, none⟩, cap, rfl, hc, .inr ⟨ρ.s i, ρ.o i + 0, rfl, (Array.getElem?_eq_some_iff.1 h1).1, fun j x hj => ?_⟩⟩
  simp [World.cell?, h1, h0, hj]
end
def Covers (q : Nat) (pl : List (Nat × Nat × Nat × (Option Addr × Nat × Nat))) : Prop := (∀ p ∈ pl, p.1 < q) ∧ ∀ i, i < q → ∃ x, (i, x) ∈ pl
theorem pin_agree {ρ ρ' : Env} {q : Nat} {pl : List (Nat × Nat × Nat × (Option Addr × Nat × Nat))} (hc : Covers q pl) (h : ∀ p ∈ pl, ρ.s p.1 = p.2.1 ∧ ρ.o p.1 = p.2.2.1 ∧ ρ.h p.1 = p.2.2.2) (h' : ∀ p ∈ pl, ρ'.s p.1 = p.2.1 ∧ ρ'.o p.1 = p.2.2.1 ∧ ρ'.h p.1 = p.2.2.2) : Env.agree (· < q) ρ ρ' := by
  intro i hi
  obtain ⟨x, hx⟩ := hc.2 i hi
  obtain ⟨a1, a2, a3⟩ := h _ hx
  obtain ⟨b1, b2, b3⟩ := h' _ hx
  exact ⟨b1.trans a1.symm, b2.trans a2.symm, b3.trans a3.symm⟩
theorem WI.pinAgree {w0 w w' w1 : World} {L L' : List (Nat × Nat)} {ρ ρ' : Env} {M M' : Mem} {S S' : Nat → Prop} {q : Nat} {pl : List (Nat × Nat × Nat × (Option Addr × Nat × Nat))} (hc : Covers q pl) (hW : WI w0 L ρ M S w) (hq : M q = some (.pin pl)) (hW' : WI w1 L' ρ' M' S' w') (hq' : M' q = some (.pin pl)) : Env.agree (· < q) ρ ρ' :=
  pin_agree hc (hW.mem q _ hq).2.2 (hW'.mem q _ hq').2.2
theorem Run.pinAll {c : Cx} {T : List (Nat × SV)} {M : List (Nat × SObj)} {n : Nat} {D : List Deferred} {todo : List Item} {R : Ending → World → Prop} (h : ∀ pl, Covers n pl → Run c ⟨T, (n, .pin pl) :: M, n + 1, D, todo⟩ R) : Run c ⟨T, M, n, D, todo⟩ R := by
  refine ⟨fun ρ a w hi => ?_⟩
  let pl : List (Nat × Nat × Nat × (Option Addr × Nat × Nat)) := (List.range n).map fun i => (i, ρ.s i, ρ.o i, ρ.h i)
  have hcov : Covers n pl := ⟨fun p hp => by
    obtain ⟨i, hi, rfl⟩ := List.mem_map.1 hp
    exact List.mem_range.1 hi, fun i hi => ⟨_, List.mem_map.2 ⟨i, List.mem_range.2 hi, rfl⟩⟩⟩
  have hW := hi.wi.addR (i := n) (Env.agree.refl _ ρ) (o := .pin pl) hcov.1 (fun _ _ h => h) (fun p hp => by
    obtain ⟨i, hi, rfl⟩ := List.mem_map.1 hp
    exact ⟨rfl, rfl, rfl⟩)
  refine (h pl hcov).go ρ a w ⟨hi.sz, hi.tm.mono fun j (hj : j < n) => Nat.lt_succ_of_lt hj, hi.df, ?_⟩
  rw [look_upd]
  exact hW.mono fun j hj => by have hj : j < n ∨ j = n := hj; show j < n + 1; omega
/-- A callee that is run on the caller's own blocks. -/
theorem Run.inlineF {c : Cx} {T T0 : List (Nat × SV)} {M : List (Nat × SObj)} {n : Nat} {D : List Deferred} {ops : Array Oper} {i : Nat} {r : List Nat} {k : List Item} {R : Ending → World → Prop} {o : Oper} {f : Operand} {args : Array Operand} {ts : Array TypeId}
    {fv : SV} {g : FuncId} {caps vs : List SV} (ho : get ops.toList i = some o) (hop : o.op = .call { callee := .value f, args := args, argTypes := ts }) (hw : wantS ops.toList (look T) o = some true) (hd : okD c.fn.ntmps o.dst = true)
    (hf : ev (look T) f = some fv) (hfv : calleeOf fv = some (g, caps)) (hvs : evs (look T) args.toList = some vs) (hg : Enters c.P g) {fn' : Func} {cd : Code} (hfn : c.P.funcs[g]? = some fn') (hb : fn'.body = some cd) (hN : Nat.ble (lenL (vs ++ caps)) fn'.ntmps = true)
    (cuts' : List (Nat × Nat)) (pf' : PF) {q : Nat} {pl : List (Nat × Nat × Nat × (Option Addr × Nat × Nat))} (hcov : Covers q pl) (hq : look M q = some (.pin pl)) (Post : SV → List (Nat × SObj) → Nat → Prop)
    (hT0 : ∀ y ∈ T0, look T y.1 = some y.2 ∧ y.2.sc (· < q))
    (hrun : Run { c with f := g, fn := fn', cuts := cuts', pf := pf', rd := none } ⟨numb 0 (vs ++ caps), M, n, [], [.code cd]⟩ (fun e w' => ∃ ρ' v M' n', e = .returned (v.conc ρ') ∧ look M' q = some (.pin pl) ∧ v.sc (· < n') ∧ WI c.w0 c.L ρ' (look M') (· < n') w' ∧ Post v M' n'))
    (h : ∀ v M' n', Post v M' n' → Run c ⟨putS T0 o.dst v, M', n', D, .inRegion ops r :: k⟩ R) : Run c ⟨T, M, n, D, .inRegion ops (i :: r) :: k⟩ R := by
  refine ⟨fun ρ a w hi => ?_⟩
  rw [get_eq, Array.getElem?_toList] at ho
  refine TW.op ho (wantS_ok hi.tm hw) ?_
  obtain ⟨h1, h2⟩ := ev_ok hi.tm hf
  obtain ⟨h3, h4⟩ := calleeOf_ok (ρ := ρ) (S := (· < n)) hfv
  obtain ⟨h5, h6⟩ := evs_ok hi.tm hvs
  have hr := run_callValue (P := c.P) (w := w) (o := o) hg (h1.trans h3) hop
  have hargs : args.map a.eval ++ (SV.concs ρ caps).toArray = (SV.concs ρ (vs ++ caps)).toArray := by
    rw [concs_append, ← h5]; apply Array.ext'; simp
  unfold Oc
  rw [hr]
  simp only
  rw [hargs]
  have hcalls := Run.callsAt (c := { c with f := g, fn := fn', cuts := cuts', pf := pf', rd := none }) rfl hfn hb ρ (vs ++ caps) M n (scs_append h6 (h4 h2)) hN hi.wi hrun
  refine hcalls.mono fun e w' ⟨ρ', v, M', n', he, hq', hv, hW', hp⟩ => ⟨v.conc ρ', he, ?_⟩
  have hag := hi.wi.pinAgree hcov hq hW' hq'
  have hqn : q < n' := (hW'.mem q _ hq').1
  have hi' : Inv c ρ' ⟨T0, M', n', D, .inRegion ops (i :: r) :: k⟩ a w' := by
    refine ⟨hi.sz, fun t u ht => ?_, hi.df, hW'⟩
    obtain ⟨hT, hsc⟩ := hT0 _ (look_mem ht)
    obtain ⟨g1, g2, _⟩ := hi.tm t u hT
    exact ⟨g1, by rw [conc_agree hag u hsc]; exact g2, SV.sc_mono (fun j (hj : j < q) => Nat.lt_trans hj hqn) _ hsc⟩
  exact (h v M' n' hp).go ρ' _ w' (hi'.put hd (Env.agree.refl _ _) (Nat.le_refl _) hv hW' _)
/-- 'w'' is 'w' but for the blocks F, and for new blocks. -/
structure ModF (w : World) (F : Nat → Prop) (w' : World) : Prop where
  keep : ∀ k, k < w.heap.size → ¬ F k → w'.heap[k]? = w.heap[k]?
  size : w.heap.size ≤ w'.heap.size
  os : w'.os = w.os
  tape : w'.tape = w.tape
  output : w'.output = w.output
theorem Ext.modF {w w' : World} (h : Ext w w') (F : Nat → Prop) : ModF w F w' := ⟨fun k hk _ => h.keep k hk, h.size, h.os, h.tape, h.output⟩
theorem WI.toModF {w0 w : World} {L : List (Nat × Nat)} {ρ : Env} {M : Mem} {S : Nat → Prop} (h : WI w0 L ρ M S w) : ModF w0 (fun k => ∃ p ∈ L, p.2 = k) w :=
  ⟨fun k hk hn => h.keep k hk fun p hp he => hn ⟨p, hp, he⟩, h.size, h.os, h.tape, h.output⟩
theorem RowsAt.modF {w w' : World} {v : Value} {e n : Nat} {vs : List Value} {F : Nat → Prop} (h : RowsAt w v e n vs) (x : ModF w F w') (hv : n = 0 ∨ ∀ b, v.ownBlock = some b → ¬ F b) : RowsAt w' v e n vs := by
  obtain ⟨h1, p, cap, rfl, h2, h3⟩ := h
  refine ⟨h1, p, cap, rfl, h2, ?_⟩
  rcases h3 with h3 | ⟨blk, off, rfl, h4, h5⟩
  · exact .inl h3
  · rcases hv with hv | hv
    · exact .inl hv
    · refine .inr ⟨blk, off, rfl, Nat.lt_of_lt_of_le h4 x.size, fun j y hj => ?_⟩
      have := h5 j y hj
      simp only [World.cell?] at this ⊢
      rw [x.keep blk h4 (hv blk rfl)]; exact this
theorem Run.callW {c : Cx} {T : List (Nat × SV)} {M : List (Nat × SObj)} {n : Nat} {D : List Deferred} {ops : Array Oper} {i : Nat} {r : List Nat} {k : List Item} {R : Ending → World → Prop} {o : Oper} {f : Operand} {args : Array Operand} {ts : Array TypeId}
    {fv : SV} {g : FuncId} {caps vs : List SV} (Q : Env → World → Ending → World → Prop) (hcall : ∀ ρ w, WI c.w0 c.L ρ (look M) (· < n) w → Calls c.P g (SV.concs ρ (vs ++ caps)).toArray w (Q ρ w)) (hg : Enters c.P g)
    (ho : get ops.toList i = some o) (hop : o.op = .call { callee := .value f, args := args, argTypes := ts }) (hw : wantS ops.toList (look T) o = some true) (hd : okD c.fn.ntmps o.dst = true)
    (hf : ev (look T) f = some fv) (hfv : calleeOf fv = some (g, caps)) (hvs : evs (look T) args.toList = some vs)
    (hnext : ∀ ρ w e w', WI c.w0 c.L ρ (look M) (· < n) w → Q ρ w e w' → ∃ v T' ρ' M' n' L', e = .returned (v.conc ρ') ∧ v.sc (· < n') ∧ (∀ x ∈ T', ∃ u, look T x.1 = some u ∧ u.conc ρ = x.2.conc ρ' ∧ x.2.sc (· < n')) ∧ WI w' L' ρ' (look M') (· < n') w' ∧
      Run { c with w0 := w', L := L' } ⟨putS T' o.dst v, M', n', D, .inRegion ops r :: k⟩ R) : Run c ⟨T, M, n, D, .inRegion ops (i :: r) :: k⟩ R := by
  refine ⟨fun ρ a w hi => ?_⟩
  rw [get_eq, Array.getElem?_toList] at ho
  refine TW.op ho (wantS_ok hi.tm hw) ?_
  obtain ⟨h1, h2⟩ := ev_ok hi.tm hf
  obtain ⟨h3, h4⟩ := calleeOf_ok (ρ := ρ) (S := (· < n)) hfv
  obtain ⟨h5, h6⟩ := evs_ok hi.tm hvs
  have hr := run_callValue (P := c.P) (w := w) (o := o) hg (h1.trans h3) hop
  have hargs : args.map a.eval ++ (SV.concs ρ caps).toArray = (SV.concs ρ (vs ++ caps)).toArray := by
    rw [concs_append, ← h5]; apply Array.ext'; simp
  unfold Oc
  rw [hr]
  simp only
  rw [hargs]
  refine (hcall ρ w hi.wi).mono fun e w' hQ => ?_
  obtain ⟨v, T', ρ', M', n', L', he, hv, hT, hW, hR⟩ := hnext ρ w e w' hi.wi hQ
  refine ⟨_, he, ?_⟩
  have hi' : Inv { c with w0 := w', L := L' } ρ' ⟨T', M', n', D, .inRegion ops (i :: r) :: k⟩ a w' := by
    refine ⟨hi.sz, fun t v ht => ?_, hi.df, hW⟩
    obtain ⟨u, h1, h2, h3⟩ := hT _ (look_mem ht)
    obtain ⟨g1, g2, _⟩ := hi.tm t _ h1
    exact ⟨g1, by rw [← h2]; exact g2, h3⟩
  exact hR.go ρ' _ w' (hi'.put hd (Env.agree.refl _ _) (Nat.le_refl _) hv hW _)
/-- An object that may be told anew: its block is none of F. -/
def SObj.away (ρ : Env) (F : Nat → Prop) (i : Nat) : SObj → Prop
  | .rwin _ n _ => n = 0 ∨ ¬ F (ρ.s i)
  | .row _ _ _ _ => (ρ.h i).1 ≠ none → ¬ F (ρ.s i)
  | .kmap _ _ _ => ρ.o i = 0 → ¬ F (ρ.s i)
  | .kwin _ _ => ρ.o i = 0 → ¬ F (ρ.s i)
  | .pin _ => True
  | .swin _ _ _ => ∀ b, ¬ F b
  | _ => ¬ F (ρ.s i)
theorem WI.rebase {w0 w w' : World} {L : List (Nat × Nat)} {ρ : Env} {M : List (Nat × SObj)} {n : Nat} {F : Nat → Prop} (hW : WI w0 L ρ (look M) (· < n) w) (hF : ModF w F w') (is : List Nat) (M' : List (Nat × SObj)) (his : ∀ i ∈ is, i < n ∧ ∃ o, look M i = some o ∧ o.occ ρ i)
    (hM' : ∀ x ∈ M', look M x.1 = some x.2 ∧ x.2.away ρ F x.1 ∧ (x.2.occ ρ x.1 → x.1 ∈ is)) : WI w' (is.map fun i => (i, ρ.s i)) ρ (look M') (· < n) w' := by
  have hLw : ∀ b, b < w0.heap.size → (∀ p ∈ L, p.2 ≠ b) → ∀ p ∈ is.map (fun i => (i, ρ.s i)), p.2 ≠ b := by
    intro b hb hL p hp
    obtain ⟨i, hi, rfl⟩ := List.mem_map.1 hp
    obtain ⟨_, o, ho, hocc⟩ := his i hi
    rcases hW.new i o ho hocc with ⟨p, hp, hpe⟩ | hge
    · exact fun e => hL p hp (hpe.trans e)
    · show ρ.s i ≠ b; omega
  have hlt : ∀ b, b < w0.heap.size → b < w'.heap.size := fun b hb => by have := hW.size; have := hF.size; omega
  have heq : ∀ b, b < w0.heap.size → (∀ p ∈ L, p.2 ≠ b) → ¬ F b → w'.heap[b]? = w0.heap[b]? := fun b hb hL hf => (hF.keep b (by have := hW.size; omega) hf).trans (hW.keep b hb hL)
  refine ⟨fun i o hi => ?_, fun i j oi oj hi hj => hW.dist i j oi oj (hM' _ (look_mem hi)).1 (hM' _ (look_mem hj)).1, fun i o hi ho => .inl ⟨(i, ρ.s i), List.mem_map.2 ⟨i, (hM' _ (look_mem hi)).2.2 ho, rfl⟩, rfl⟩, fun p hp => ?_, fun _ _ _ => rfl, Nat.le_refl _, rfl, rfl, rfl⟩
  · obtain ⟨h1, h2, _⟩ := hM' _ (look_mem hi)
    obtain ⟨g1, g2, g3⟩ := hW.mem i o h1
    refine ⟨g1, g2, ?_⟩
    have key : (o.occ ρ i → ¬ F (ρ.s i)) → (∀ vs, o ≠ .win vs) → (∀ e n vs, o ≠ .rwin e n vs) → (∀ p l, o ≠ .kwin p l) → (∀ e n f, o ≠ .swin e n f) → o.holds w' (is.map fun i => (i, ρ.s i)) ρ i w' := by
      intro hoc n1 n2 n3 n4
      have := SObj.holds_agree (w' := w') (Env.agree.refl (· < n) ρ) g1 g2 (fun ho => hF.keep _ (SObj.holds_lt g3 ho) (hoc ho)) g3
      cases o <;> first
        | exact absurd rfl (n1 _)
        | exact absurd rfl (n2 _ _ _)
        | exact absurd rfl (n3 _ _)
        | exact absurd rfl (n4 _ _ _)
        | exact this
    cases o with
    | win vs =>
      obtain ⟨k1, k2, k3⟩ := g3
      refine ⟨hlt _ k1, hLw _ k1 k2, fun j x hj => ?_⟩
      have := k3 j x hj
      simp only [World.cell?] at this ⊢
      rw [heq _ k1 k2 h2]; exact this
    | rwin e m vs =>
      obtain ⟨k0, k00, k01, kk⟩ := g3
      refine ⟨k0, k00, k01, ?_⟩
      rcases kk with kk | ⟨k, k1, k2, k3⟩
      · exact .inl kk
      · rcases h2 with h2 | h2
        · exact .inl h2
        · refine .inr ⟨k, hlt _ k1, hLw _ k1 k2, fun j x hj => ?_⟩
          have := k3 j x hj
          simp only [World.cell?] at this ⊢
          rw [heq _ k1 k2 h2]; exact this
    | kwin pk l =>
      obtain ⟨k0, kk⟩ := g3
      refine ⟨k0, kk.imp (fun ⟨k, k1, k2, k3⟩ => ⟨k, hlt _ k1, hLw _ k1 k2, ?_⟩) id⟩
      rw [heq _ k1 k2 (h2 k)]; exact k3
    | swin e m f =>
      exact ⟨g3.1, g3.2.mono fun b hb => ⟨⟨hlt _ hb.1, hLw _ hb.1 hb.2⟩, heq _ hb.1 hb.2 (h2 b)⟩⟩
    | cells cs t => exact key (fun _ => h2) (fun _ => by simp) (fun _ _ _ => by simp) (fun _ _ => by simp) (fun _ _ _ => by simp)
    | row e m xs t => exact key h2 (fun _ => by simp) (fun _ _ _ => by simp) (fun _ _ => by simp) (fun _ _ _ => by simp)
    | obj o => exact key (fun _ => h2) (fun _ => by simp) (fun _ _ _ => by simp) (fun _ _ => by simp) (fun _ _ _ => by simp)
    | mid pre post cs t => exact key (fun _ => h2) (fun _ => by simp) (fun _ _ _ => by simp) (fun _ _ => by simp) (fun _ _ _ => by simp)
    | kmap pk nn l => exact key h2 (fun _ => by simp) (fun _ _ _ => by simp) (fun _ _ => by simp) (fun _ _ _ => by simp)
    | pin l => exact key (fun h => h.elim) (fun _ => by simp) (fun _ _ _ => by simp) (fun _ _ => by simp) (fun _ _ _ => by simp)
  · obtain ⟨i, hi, rfl⟩ := List.mem_map.1 hp
    exact ⟨(his i hi).1, rfl⟩
end Go.Sx
namespace Go.Proofs.Ythaigkamfnjfbaa
open Go.Sx
set_option maxRecDepth 100000
/-- The error of a number of a rule, for a synapse. -/
def plErr (rs : List Rul) (x : Int × Syn) : Int :=
  if wi x.1 (-1) (W ((rs.length : Int) - 1)) = false then 3 else if 0 ≤ x.1 then match rs[x.1.toNat]? with
    | some r => if wi x.2.w r.lo r.hi then 0 else 21
    | none => 0
  else 0
def learnChk (n : Net) (rs : List Rul) (pl : List Int) : Int :=
  if netChk n ≠ 0 then netChk n else if 16 < (rs.length : Int) then 9 else if firstE rchk rs ≠ 0 then firstE rchk rs else if (pl.length : Int) ≠ (n.S.length : Int) then 13 else firstE (plErr rs) (pl.zip n.S)
end Go.Proofs.Ythaigkamfnjfbaa
namespace Go.Sx
/-- What may be told of an object instead: the same; a slice, or a map, that is only read from now on. -/
def Conv (o o' : SObj) : Prop := o' = o ∨ (∃ e n t vs, 0 < e ∧ o = .row e n (vs.map .v) t ∧ o' = .rwin e n vs) ∨ (∃ pk nn l, o = .kmap pk nn l ∧ o' = .kwin pk l)
theorem Conv.refl (o : SObj) : Conv o o := .inl rfl
theorem Conv.row {e n : Nat} {xs : List SV} {t : TypeId} {vs : List Value} (he : 0 < e) (h : xs = vs.map .v) : Conv (.row e n xs t) (.rwin e n vs) := .inr (.inl ⟨e, n, t, vs, he, by rw [h], rfl⟩)
/-- It goes by the world at the beginning. -/
def SObj.wnd : SObj → Bool
  | .win _ | .rwin _ _ _ | .kwin _ _ | .swin _ _ _ => true
  | _ => false
theorem WI.again {w0 w w' : World} {L : List (Nat × Nat)} {ρ : Env} {M : List (Nat × SObj)} {n : Nat} {F : Nat → Prop} (hW : WI w0 L ρ (look M) (· < n) w) (hF : ModF w F w') (r : Nat → Nat) (L' : List (Nat × Nat)) (M' : List (Nat × SObj)) (n' : Nat)
    (hL1 : ∀ p ∈ L', p.1 < n' ∧ p.2 = ρ.s (r p.1) ∧ (∃ y ∈ M', y.1 = p.1) ∧ ∃ o, look M (r p.1) = some o ∧ o.occ ρ (r p.1))
    (hM' : ∀ x ∈ M', x.1 < n' ∧ x.2.sc (· < n') ∧ (x.2.occ (ρ.ren r) x.1 → ∃ p ∈ L', p.1 = x.1) ∧ ∃ o, look M (r x.1) = some o ∧ Conv o (x.2.ren r) ∧ o.away ρ F (r x.1) ∧ (x.2.wnd = true → ∀ p ∈ L', p.1 ≠ x.1))
    (hinj : ∀ x ∈ M', ∀ y ∈ M', x.1 ≠ y.1 → r x.1 ≠ r y.1) : WI w' L' (ρ.ren r) (look M') (· < n') w' := by
  have hLw : ∀ b, b < w0.heap.size → (∀ p ∈ L, p.2 ≠ b) → ∀ p ∈ L', p.2 ≠ b := by
    intro b hb hL p hp
    obtain ⟨_, h2, _, o, ho, hocc⟩ := hL1 p hp
    rw [h2]
    rcases hW.new _ o ho hocc with ⟨p', hp', hpe⟩ | hge
    · rw [← hpe]; exact hL p' hp'
    · omega
  have hlt : ∀ b, b < w0.heap.size → b < w'.heap.size := fun b hb => by have := hW.size; have := hF.size; omega
  have hltw : ∀ b, b < w.heap.size → b < w'.heap.size := fun b hb => by have := hF.size; omega
  have heq : ∀ b, b < w0.heap.size → (∀ p ∈ L, p.2 ≠ b) → ¬ F b → w'.heap[b]? = w0.heap[b]? := fun b hb hL hf => (hF.keep b (by have := hW.size; omega) hf).trans (hW.keep b hb hL)
  have hocc' : ∀ x ∈ M', x.2.occ (ρ.ren r) x.1 → ∃ o, look M (r x.1) = some o ∧ o.occ ρ (r x.1) := by
    intro x hx ho
    obtain ⟨_, _, _, o, h4, h5, _⟩ := hM' x hx
    rcases h5 with h5 | ⟨e, m, t, vs, _, _, h5⟩ | ⟨pk, nn, l, _, h5⟩
    · refine ⟨o, h4, ?_⟩
      rw [← h5]; exact occ_ren.2 ho
    · have := occ_ren (ρ := ρ) (r := r) (i := x.1) (o := x.2) |>.2 ho
      rw [h5] at this; exact this.elim
    · have := occ_ren (ρ := ρ) (r := r) (i := x.1) (o := x.2) |>.2 ho
      rw [h5] at this; exact this.elim
  refine ⟨fun i o hi => ?_, fun i j oi oj hi hj hne ho ho' => ?_, fun i o hi ho => ?_, fun p hp => ⟨(hL1 p hp).1, (hL1 p hp).2.1.symm⟩, fun _ _ _ => rfl, Nat.le_refl _, rfl, rfl, rfl⟩
  · have hx := look_mem hi
    obtain ⟨h1, h2, _, ob, h4, h5, h6, h7⟩ := hM' _ hx
    refine ⟨h1, h2, ?_⟩
    simp only at h4 h5 h6 h7
    obtain ⟨g1, g2, g3⟩ := hW.mem _ ob h4
    rw [← holds_ren]
    have hnw : o.wnd = true → ∀ b, ob.occ ρ (r i) → ρ.s (r i) = b → ∀ p ∈ L', p.2 ≠ b := by
      intro hwd b hocc hb p hp
      obtain ⟨_, k2, ⟨y, hy, hye⟩, o2, k4, k5⟩ := hL1 p hp
      rw [k2, ← hb]
      refine hW.dist _ _ o2 ob k4 h4 ?_ k5 hocc
      have := hinj y hy _ hx (by rw [hye]; exact h7 hwd p hp)
      rwa [hye] at this
    rcases h5 with h5 | ⟨e, m, t, vs, he, h5, h5'⟩ | ⟨pk, nn, l, h5, h5'⟩
    · rw [h5]
      have key : (ob.occ ρ (r i) → ¬ F (ρ.s (r i))) → (∀ vs, ob ≠ .win vs) → (∀ e n vs, ob ≠ .rwin e n vs) → (∀ p l, ob ≠ .kwin p l) → (∀ e n f, ob ≠ .swin e n f) → ob.holds w' L' ρ (r i) w' := by
        intro hoc n1 n2 n3 n4
        have := SObj.holds_agree (w' := w') (Env.agree.refl (· < n) ρ) g1 g2 (fun ho => hF.keep _ (SObj.holds_lt g3 ho) (hoc ho)) g3
        cases ob <;> first
          | exact absurd rfl (n1 _)
          | exact absurd rfl (n2 _ _ _)
          | exact absurd rfl (n3 _ _)
          | exact absurd rfl (n4 _ _ _)
          | exact this
      cases ob with
      | win vs =>
        obtain ⟨k1, k2, k3⟩ := g3
        refine ⟨hlt _ k1, hLw _ k1 k2, fun j x hj => ?_⟩
        have := k3 j x hj
        simp only [World.cell?] at this ⊢
        rw [heq _ k1 k2 h6]; exact this
      | rwin e m vs =>
        obtain ⟨k0, k00, k01, kk⟩ := g3
        refine ⟨k0, k00, k01, ?_⟩
        rcases kk with kk | ⟨k, k1, k2, k3⟩
        · exact .inl kk
        · rcases h6 with h6 | h6
          · exact .inl h6
          · refine .inr ⟨k, hlt _ k1, hLw _ k1 k2, fun j x hj => ?_⟩
            have := k3 j x hj
            simp only [World.cell?] at this ⊢
            rw [heq _ k1 k2 h6]; exact this
      | kwin pk l =>
        obtain ⟨k0, kk⟩ := g3
        refine ⟨k0, kk.imp (fun ⟨k, k1, k2, k3⟩ => ⟨k, hlt _ k1, hLw _ k1 k2, ?_⟩) id⟩
        rw [heq _ k1 k2 (h6 k)]; exact k3
      | swin e m f =>
        exact ⟨g3.1, g3.2.mono fun b hb => ⟨⟨hlt _ hb.1, hLw _ hb.1 hb.2⟩, heq _ hb.1 hb.2 (h6 b)⟩⟩
      | cells cs t => exact key (fun _ => h6) (fun _ => by simp) (fun _ _ _ => by simp) (fun _ _ => by simp) (fun _ _ _ => by simp)
      | row e m xs t => exact key h6 (fun _ => by simp) (fun _ _ _ => by simp) (fun _ _ => by simp) (fun _ _ _ => by simp)
      | obj o => exact key (fun _ => h6) (fun _ => by simp) (fun _ _ _ => by simp) (fun _ _ => by simp) (fun _ _ _ => by simp)
      | mid pre post cs t => exact key (fun _ => h6) (fun _ => by simp) (fun _ _ _ => by simp) (fun _ _ => by simp) (fun _ _ _ => by simp)
      | kmap pk nn l => exact key h6 (fun _ => by simp) (fun _ _ _ => by simp) (fun _ _ => by simp) (fun _ _ _ => by simp)
      | pin l => exact key (fun h => h.elim) (fun _ => by simp) (fun _ _ _ => by simp) (fun _ _ => by simp) (fun _ _ _ => by simp)
    · rw [h5']
      have ho : o = .rwin e m vs := by cases o <;> simp [SObj.ren] at h5' ⊢ <;> exact h5'
      subst h5
      obtain ⟨k0, k1, k2⟩ := g3
      rw [concs_v] at k2
      refine ⟨by simpa using k1, ?_⟩
      rcases k2 with ⟨k2, k3⟩ | ⟨cap, sp, k2, ⟨k3, _⟩, k4⟩
      · subst k3
        exact ⟨by rw [k2], by rw [k2]; exact Nat.le_refl _, .inl rfl⟩
      · have hcap : m ≤ cap := Nat.le_of_mul_le_mul_right (c := e) (by omega) he
        have hocc : (SObj.row e m (vs.map .v) t).occ ρ (r i) := by simp [SObj.occ, k2]
        have hb : ρ.s (r i) < w.heap.size := (Array.getElem?_eq_some_iff.1 k4).1
        refine ⟨by rw [k2], by rw [k2]; exact hcap, .inr ⟨by rw [k2, k0], hltw _ hb, hnw (by rw [ho]; rfl) _ hocc rfl, fun j x hj => ?_⟩⟩
        have hjl : j < vs.length := by
          rcases Nat.lt_or_ge j vs.length with h | h
          · exact h
          · rw [List.getElem?_eq_none h] at hj; cases hj
        simp only [World.cell?, k0, Nat.zero_add, Option.isSome_none, Bool.false_eq_true, if_false]
        rw [hF.keep _ hb (h6 hocc), k4]
        simp only
        rw [← Array.getElem?_toList]
        simp only [List.getElem?_append_left hjl, hj]
    · rw [h5']
      have ho : o = .kwin pk l := by cases o <;> simp [SObj.ren] at h5' ⊢ <;> exact h5'
      subst h5
      obtain ⟨k0, k1⟩ := g3
      refine ⟨k0, ?_⟩
      rcases k1 with ⟨k1, k2⟩ | ⟨_, k1, k2⟩
      · have hb : ρ.s (r i) < w.heap.size := (Array.getElem?_eq_some_iff.1 k2).1
        refine .inl ⟨k1, hltw _ hb, hnw (by rw [ho]; rfl) _ k1 rfl, ?_⟩
        rw [hF.keep _ hb (h6 k1)]; exact k2
      · exact .inr ⟨k1, k2⟩
  · obtain ⟨o1, k1, k2⟩ := hocc' _ (look_mem hi) ho
    obtain ⟨o2, k3, k4⟩ := hocc' _ (look_mem hj) ho'
    exact hW.dist _ _ o1 o2 k1 k3 (hinj _ (look_mem hi) _ (look_mem hj) hne) k2 k4
  · obtain ⟨p, hp, hpe⟩ := (hM' _ (look_mem hi)).2.2.1 ho
    refine .inl ⟨p, hp, ?_⟩
    rw [(hL1 p hp).2.1, hpe]; rfl
def sh (B n i : Nat) : Nat :=
  match Nat.blt i B with
  | true => i
  | false => n + (i - B)
theorem sh_lt {B n i : Nat} (h : i < B) : sh B n i = i := by
  unfold sh; rw [show Nat.blt i B = true by simpa [Nat.blt_eq] using h]
theorem sh_ge {B n i : Nat} (h : B ≤ i) : sh B n i = n + (i - B) := by
  unfold sh
  have : Nat.blt i B = false := by
    cases hb : Nat.blt i B with
    | false => rfl
    | true => have : i < B := by simpa [Nat.blt_eq] using hb
              omega
  rw [this]
def Env.join (ρ : Env) (B n : Nat) (ρ' : Env) : Env where
  s j := if j < n then ρ.s j else ρ'.s (j - n + B)
  o j := if j < n then ρ.o j else ρ'.o (j - n + B)
  h j := if j < n then ρ.h j else ρ'.h (j - n + B)
theorem Env.join_agree (ρ : Env) (B n : Nat) (ρ' : Env) : Env.agree (· < n) ρ (ρ.join B n ρ') := fun i (hi : i < n) => by simp [Env.join, hi]
theorem Env.join_ren {ρ ρ' : Env} {B n : Nat} (hB : B ≤ n) (hag : Env.agree (· < B) ρ ρ') : (ρ.join B n ρ').ren (sh B n) = ρ' := by
  have key : ∀ i, (ρ.join B n ρ').s (sh B n i) = ρ'.s i ∧ (ρ.join B n ρ').o (sh B n i) = ρ'.o i ∧ (ρ.join B n ρ').h (sh B n i) = ρ'.h i := by
    intro i
    rcases Nat.lt_or_ge i B with h | h
    · rw [sh_lt h]
      obtain ⟨a1, a2, a3⟩ := hag i h
      have : i < n := by omega
      simp [Env.join, this, a1, a2, a3]
    · rw [sh_ge h]
      have e1 : ¬ n + (i - B) < n := by omega
      have e2 : n + (i - B) - n + B = i := by omega
      simp only [Env.join, if_neg e1, e2, and_self]
  cases ρ' with
  | mk s o h =>
    unfold Env.ren
    congr 1
    · funext i; exact (key i).1
    · funext i; exact (key i).2.1
    · funext i; exact (key i).2.2
mutual
theorem SV.sc_ren {S S' : Nat → Prop} {r : Nat → Nat} (h : ∀ i, S i → S' (r i)) : ∀ (v : SV), v.sc S → (v.ren r).sc S'
  | .v _, _ => trivial
  | .ptr _ _, hs => h _ hs
  | .slc _ _ _ _, hs => h _ hs
  | .opq _, hs => h _ hs
  | .mp _, hs => h _ hs
  | .fn _ caps, hs => SV.scs_ren h caps hs
  | .agg cs, hs => SV.scs_ren h cs hs
  | .tup vs, hs => SV.scs_ren h vs hs
theorem SV.scs_ren {S S' : Nat → Prop} {r : Nat → Nat} (h : ∀ i, S i → S' (r i)) : ∀ (l : List SV), SV.scs S l → SV.scs S' (SV.rens r l)
  | [], _ => trivial
  | a :: l, hs => ⟨SV.sc_ren h a hs.1, SV.scs_ren h l hs.2⟩
end
theorem SObj.sc_ren {S S' : Nat → Prop} {r : Nat → Nat} (h : ∀ i, S i → S' (r i)) {o : SObj} (ho : o.sc S) : (o.ren r).sc S' := by
  cases o with
  | cells cs t => exact SV.scs_ren h cs ho
  | row e n xs t => exact SV.scs_ren h xs ho
  | mid pre post cs t => exact SV.scs_ren h cs ho
  | pin l =>
    intro p hp
    obtain ⟨q, hq, rfl⟩ := List.mem_map.1 hp
    exact h _ (ho q hq)
  | _ => trivial
theorem WI.mergeP {w0 w w' : World} {L L' : List (Nat × Nat)} {ρ ρ' : Env} {M M1 : List (Nat × SObj)} {n n1 B : Nat} (hW : WI w0 L ρ (look M) (· < n) w) (hB : B ≤ n) (hC : WI w L' ρ' (look M1) (· < n1) w') (hB1 : B ≤ n1) (hag : Env.agree (· < B) ρ ρ')
    (hL' : ∀ p ∈ L', p.1 < B ∧ ∃ o, look M p.1 = some o ∧ o.occ ρ p.1) (M2 : List (Nat × SObj))
    (hM2 : ∀ x ∈ M2, (look M x.1 = some x.2 ∧ ∀ p ∈ L', p.1 ≠ x.1) ∨ ∃ i o, sh B n i = x.1 ∧ look M1 i = some o ∧ x.2 = o.ren (sh B n) ∧ o.wnd = false) :
    WI w0 L (ρ.join B n ρ') (look M2) (· < n + (n1 - B)) w' ∧ Env.agree (· < n) ρ (ρ.join B n ρ') := by
  have hj := ρ.join_agree B n ρ'
  have hr := Env.join_ren hB hag
  have hLs : ∀ p ∈ L', p.2 = ρ.s p.1 := fun p hp => by rw [← (hC.lid p hp).2, (hag p.1 (hL' p hp).1).1]
  have hup : ∀ i, i < n → i < n + (n1 - B) := fun i hi => by omega
  -- kept objects
  have kept : ∀ i o, look M i = some o → (∀ p ∈ L', p.1 ≠ i) → i < n + (n1 - B) ∧ o.sc (· < n + (n1 - B)) ∧ o.holds w0 L (ρ.join B n ρ') i w' := by
    intro i o hi hp
    obtain ⟨g1, g2, g3⟩ := hW.mem i o hi
    refine ⟨hup i g1, SObj.sc_mono hup g2, SObj.holds_agree hj g1 g2 (fun ho => hC.keep _ (SObj.holds_lt g3 ho) fun p hp' he => ?_) g3⟩
    obtain ⟨_, o2, ho2, hocc2⟩ := hL' p hp'
    exact hW.dist p.1 i o2 o ho2 hi (hp p hp') hocc2 ho ((hLs p hp').symm.trans he)
  have keptB : ∀ i o, look M i = some o → o.occ (ρ.join B n ρ') i → o.occ ρ i := fun i o hi ho => (SObj.occ_agree hj (hW.mem i o hi).1).1 ho
  -- the callee's
  have theirs : ∀ i o, look M1 i = some o → o.wnd = false → sh B n i < n + (n1 - B) ∧ (o.ren (sh B n)).sc (· < n + (n1 - B)) ∧ (o.ren (sh B n)).holds w0 L (ρ.join B n ρ') (sh B n i) w' := by
    intro i o hi hwd
    obtain ⟨g1, g2, g3⟩ := hC.mem i o hi
    have hs : ∀ k, k < n1 → sh B n k < n + (n1 - B) := by
      intro k hk
      rcases Nat.lt_or_ge k B with h | h
      · rw [sh_lt h]; omega
      · rw [sh_ge h]; omega
    refine ⟨hs i g1, SObj.sc_ren hs g2, ?_⟩
    rw [holds_ren, hr]
    cases o <;> first
      | exact g3
      | cases hwd
  have theirB : ∀ (i : Nat) (o : SObj), (o.ren (sh B n)).occ (ρ.join B n ρ') (sh B n i) → o.occ ρ' i := fun i o ho => by
    have := (occ_ren (ρ := ρ.join B n ρ') (r := sh B n) (i := i) (o := o)).1 ho
    rwa [hr] at this
  have theirS : ∀ i, (ρ.join B n ρ').s (sh B n i) = ρ'.s i := fun i => by
    have := congrArg Env.s hr
    exact congrFun this i
  have place : ∀ i o, look M1 i = some o → o.occ ρ' i → (∃ p ∈ L', p.2 = ρ'.s i) ∨ w.heap.size ≤ ρ'.s i := fun i o hi ho => hC.new i o hi ho
  have cross : ∀ i o j o', look M i = some o → (∀ p ∈ L', p.1 ≠ i) → o.occ ρ i → look M1 j = some o' → o'.occ ρ' j → ρ.s i ≠ ρ'.s j := by
    intro i o j o' hi hp ho hj' ho' he
    rcases place j o' hj' ho' with ⟨p, hp', hpe⟩ | hge
    · obtain ⟨_, o2, ho2, hocc2⟩ := hL' p hp'
      exact hW.dist p.1 i o2 o ho2 hi (hp p hp') hocc2 ho (by rw [he, ← hpe, hLs p hp'])
    · have := SObj.holds_lt (hW.mem i o hi).2.2 ho
      omega
  refine ⟨⟨fun i o hi => ?_, fun i j oi oj hi hj' hne ho ho' => ?_, fun i o hi ho => ?_, fun p hp => ?_, fun k hk hL => ?_, Nat.le_trans hW.size hC.size, hC.os.trans hW.os, hC.tape.trans hW.tape, hC.output.trans hW.output⟩, hj⟩
  · rcases hM2 _ (look_mem hi) with ⟨h1, h2⟩ | ⟨i', o', h1, h2, h3, h4⟩
    · exact kept i o h1 h2
    · simp only at h1 h3
      subst h1 h3
      exact theirs i' o' h2 h4
  · rcases hM2 _ (look_mem hi) with ⟨a1, a2⟩ | ⟨i', oi', a1, a2, a3, a4⟩
    · rcases hM2 _ (look_mem hj') with ⟨b1, b2⟩ | ⟨j', oj', b1, b2, b3, b4⟩
      · rw [(hj i (hW.mem i oi a1).1).1, (hj j (hW.mem j oj b1).1).1]
        exact hW.dist i j oi oj a1 b1 hne (keptB i oi a1 ho) (keptB j oj b1 ho')
      · simp only at b1 b3
        subst b1 b3
        rw [(hj i (hW.mem i oi a1).1).1, theirS]
        exact cross i oi j' oj' a1 a2 (keptB i oi a1 ho) b2 (theirB j' oj' ho')
    · simp only at a1 a3
      subst a1 a3
      rcases hM2 _ (look_mem hj') with ⟨b1, b2⟩ | ⟨j', oj', b1, b2, b3, b4⟩
      · rw [(hj j (hW.mem j oj b1).1).1, theirS]
        exact (cross j oj i' oi' b1 b2 (keptB j oj b1 ho') a2 (theirB i' oi' ho)).symm
      · simp only at b1 b3
        subst b1 b3
        rw [theirS, theirS]
        exact hC.dist i' j' oi' oj' a2 b2 (fun e => hne (by rw [e])) (theirB i' oi' ho) (theirB j' oj' ho')
  · rcases hM2 _ (look_mem hi) with ⟨a1, a2⟩ | ⟨i', oi', a1, a2, a3, a4⟩
    · rw [(hj i (hW.mem i o a1).1).1]
      exact hW.new i o a1 (keptB i o a1 ho)
    · simp only at a1 a3
      subst a1 a3
      rw [theirS]
      rcases place i' oi' a2 (theirB i' oi' ho) with ⟨p, hp, hpe⟩ | hge
      · obtain ⟨_, o2, ho2, hocc2⟩ := hL' p hp
        rw [← hpe, hLs p hp]
        exact hW.new p.1 o2 ho2 hocc2
      · right; have := hW.size; omega
  · obtain ⟨h1, h2⟩ := hW.lid p hp
    exact ⟨hup _ h1, by rw [(hj _ h1).1, h2]⟩
  · rw [hC.keep k (by have := hW.size; omega) (fun p hp he => ?_)]
    · exact hW.keep k hk hL
    · obtain ⟨_, o2, ho2, hocc2⟩ := hL' p hp
      rcases hW.new p.1 o2 ho2 hocc2 with ⟨p', hp', hpe⟩ | hge
      · exact hL p' hp' (by rw [hpe, ← hLs p hp, he])
      · rw [← hLs p hp, he] at hge; omega
/-- A contract over told blocks: the numbers below B stand for the caller's blocks; 'is': those that may be written; the callee leaves M1, and v. -/
def BSpec (P : Program) (g : FuncId) (args : List SV) (Mc : List (Nat × SObj)) (B : Nat) (is : List Nat) (v : SV) (M1 : List (Nat × SObj)) (n1 : Nat) : Prop :=
  ∀ ρ w L', WI w L' ρ (look Mc) (· < B) w → (∀ p ∈ L', p.1 ∈ is) → Calls P g (SV.concs ρ args).toArray w fun e w' => ∃ ρ', e = .returned (v.conc ρ') ∧ v.sc (· < n1) ∧ Env.agree (· < B) ρ ρ' ∧ WI w L' ρ' (look M1) (· < n1) w'
/-- What a callee is told, out of what the caller knows. -/
theorem WI.enter {w0 w : World} {L : List (Nat × Nat)} {ρ : Env} {M : List (Nat × SObj)} {n : Nat} (hW : WI w0 L ρ (look M) (· < n) w) (Mc : List (Nat × SObj)) (B : Nat) (is : List Nat)
    (hMc : AllP (fun x => x.1 < B ∧ x.2.sc (· < B) ∧ (∃ o, look M x.1 = some o ∧ Conv o x.2) ∧ (x.2.wnd = true ∨ x.1 ∈ is) ∧ (x.2.wnd = true → x.1 ∉ is)) Mc) (his : ∀ i ∈ is, i < B ∧ ∃ o, look Mc i = some o) :
    ∃ L', (∀ p ∈ L', p.1 ∈ is ∧ p.2 = ρ.s p.1 ∧ ∃ o, look M p.1 = some o ∧ o.occ ρ p.1) ∧ WI w L' ρ (look Mc) (· < B) w := by
  classical
  let L' : List (Nat × Nat) := (is.filter fun i => decide (∃ o, look M i = some o ∧ o.occ ρ i)).map fun i => (i, ρ.s i)
  have hL' : ∀ p ∈ L', p.1 ∈ is ∧ p.2 = ρ.s p.1 ∧ ∃ o, look M p.1 = some o ∧ o.occ ρ p.1 := by
    intro p hp
    obtain ⟨i, hi, rfl⟩ := List.mem_map.1 hp
    obtain ⟨h1, h2⟩ := List.mem_filter.1 hi
    exact ⟨h1, rfl, of_decide_eq_true h2⟩
  refine ⟨L', hL', ?_⟩
  have hid : ρ.ren id = ρ := rfl
  have h := hW.again ((Ext.refl w).modF fun _ => False) id L' Mc B (fun p hp => ?_) (fun x hx => ?_) (fun _ _ _ _ h => h)
  · rw [hid] at h; exact h
  · obtain ⟨h1, h2, h3⟩ := hL' p hp
    obtain ⟨h4, o, h5⟩ := his p.1 h1
    exact ⟨h4, h2, ⟨_, look_mem h5, rfl⟩, h3⟩
  · obtain ⟨h1, h2, ⟨o, h3, h4⟩, h5, h6⟩ := hMc.mem x hx
    refine ⟨h1, h2, fun ho => ?_, o, h3, by rw [oren_id]; exact h4, ?_, fun hwd p hp he => h6 hwd (by rw [← he]; exact (hL' p hp).1)⟩
    · rw [hid] at ho
      rcases h5 with h5 | h5
      · exfalso
        cases hx2 : x.2 <;> rw [hx2] at h5 ho <;> first | cases h5; done | exact ho.elim
      · refine ⟨(x.1, ρ.s x.1), List.mem_map.2 ⟨x.1, List.mem_filter.2 ⟨h5, decide_eq_true ⟨o, h3, ?_⟩⟩, rfl⟩, rfl⟩
        rcases h4 with h4 | ⟨e, m, t, vs, _, _, h4⟩ | ⟨pk, nn, l, _, h4⟩
        · rw [← h4]; exact ho
        · rw [h4] at ho; exact ho.elim
        · rw [h4] at ho; exact ho.elim
    · cases o <;> simp [SObj.away]
/-- A call by a contract over told blocks. -/
theorem Run.callP {c : Cx} {T : List (Nat × SV)} {M : List (Nat × SObj)} {n : Nat} {D : List Deferred} {ops : Array Oper} {i : Nat} {r : List Nat} {k : List Item} {R : Ending → World → Prop} {o : Oper} {f : Operand} {args : Array Operand} {ts : Array TypeId}
    {fv : SV} {g : FuncId} {caps vs : List SV} {Mc : List (Nat × SObj)} {B : Nat} {is : List Nat} {v : SV} {M1 : List (Nat × SObj)} {n1 : Nat} (hspec : BSpec c.P g (vs ++ caps) Mc B is v M1 n1) (hg : Enters c.P g)
    (ho : get ops.toList i = some o) (hop : o.op = .call { callee := .value f, args := args, argTypes := ts }) (hw : wantS ops.toList (look T) o = some true) (hd : okD c.fn.ntmps o.dst = true)
    (hf : ev (look T) f = some fv) (hfv : calleeOf fv = some (g, caps)) (hvs : evs (look T) args.toList = some vs) (hB : B ≤ n) (hB1 : B ≤ n1)
    (hMc : AllP (fun x => x.1 < B ∧ x.2.sc (· < B) ∧ (∃ o, look M x.1 = some o ∧ Conv o x.2) ∧ (x.2.wnd = true ∨ x.1 ∈ is) ∧ (x.2.wnd = true → x.1 ∉ is)) Mc) (his : ∀ i ∈ is, i < B ∧ ∃ o, look Mc i = some o)
    (v2 : SV) (M2 : List (Nat × SObj)) (n2 : Nat) (hv2 : v2 = v.ren (sh B n)) (hn2 : n2 = n + (n1 - B)) (hM2 : AllP (fun x => (look M x.1 = some x.2 ∧ x.1 ∉ is) ∨ ∃ i o, sh B n i = x.1 ∧ look M1 i = some o ∧ x.2 = o.ren (sh B n) ∧ o.wnd = false) M2)
    (h : Run c ⟨putS T o.dst v2, M2, n2, D, .inRegion ops r :: k⟩ R) : Run c ⟨T, M, n, D, .inRegion ops (i :: r) :: k⟩ R := by
  subst hv2 hn2
  refine Run.callG ho hop hw hd hf hfv hvs hg (fun v' M' n' => v' = v.ren (sh B n) ∧ M' = M2 ∧ n' = n + (n1 - B)) (fun ρ w _ hW => ?_) (fun v' M' n' hp => ?_)
  · obtain ⟨L', hL', hWc⟩ := hW.enter Mc B is hMc his
    refine (hspec ρ w L' hWc fun p hp => (hL' p hp).1).mono fun e w' ⟨ρ', he, hv, hag, hW'⟩ => ?_
    obtain ⟨hW2, hag2⟩ := hW.mergeP hB hW' hB1 hag (fun p hp => ⟨(his _ (hL' p hp).1).1, (hL' p hp).2.2⟩) M2 (fun x hx => by
      rcases hM2.mem x hx with ⟨h1, h2⟩ | h1
      · exact .inl ⟨h1, fun p hp he => h2 (by rw [← he]; exact (hL' p hp).1)⟩
      · exact .inr h1)
    refine ⟨ρ.join B n ρ', _, _, _, ?_, hag2, by omega, ?_, hW2, rfl, rfl, rfl⟩
    · rw [he, conc_ren, Env.join_ren hB hag]
    · refine SV.sc_ren (fun j (hj : j < n1) => ?_) v hv
      show sh B n j < n + (n1 - B)
      rcases Nat.lt_or_ge j B with h | h
      · rw [sh_lt h]; omega
      · rw [sh_ge h]; omega
  · obtain ⟨rfl, rfl, rfl⟩ := hp; exact h
/-- What is left to show of a function that is called by such a contract. -/
def SpecR (w : World) (L' : List (Nat × Nat)) (pl : List (Nat × Nat × Nat × (Option Addr × Nat × Nat))) (v : SV) (M1 : List (Nat × SObj)) (n1 : Nat) (e : Ending) (w' : World) : Prop :=
  ∃ ρ', e = .returned (v.conc ρ') ∧ v.sc (· < n1) ∧ (∀ p ∈ pl, ρ'.s p.1 = p.2.1 ∧ ρ'.o p.1 = p.2.2.1 ∧ ρ'.h p.1 = p.2.2.2) ∧ WI w L' ρ' (look M1) (· < n1) w'
theorem BSpec.start {P : Program} {tab : Tab} {pf : PF} {cuts : List (Nat × Nat)} {g : FuncId} {fn : Func} {cd : Code} {args : List SV} {Mc : List (Nat × SObj)} {B : Nat} {is : List Nat} {v : SV} {M1 : List (Nat × SObj)} {n1 : Nat} (hf : P.funcs[g]? = some fn) (hb : fn.body = some cd) (hs : SV.scs (· < B) args) (hN : Nat.ble (lenL args) fn.ntmps = true)
    (h : ∀ w L' pl, (∀ p ∈ L', p.1 ∈ is) → (∀ p ∈ L', p.1 < B) → Covers B pl → Run ⟨P, tab, pf, g, fn, cuts, w, L', none⟩ ⟨numb 0 args, (B, .pin pl) :: Mc, B + 1, [], [.code cd]⟩ (SpecR w L' pl v M1 n1)) : BSpec P g args Mc B is v M1 n1 := by
  intro ρ w L' hW hL
  let pl : List (Nat × Nat × Nat × (Option Addr × Nat × Nat)) := (List.range B).map fun i => (i, ρ.s i, ρ.o i, ρ.h i)
  have hcov : Covers B pl := ⟨fun p hp => by
    obtain ⟨i, hi, rfl⟩ := List.mem_map.1 hp
    exact List.mem_range.1 hi, fun i hi => ⟨_, List.mem_map.2 ⟨i, List.mem_range.2 hi, rfl⟩⟩⟩
  have hpl : ∀ p ∈ pl, ρ.s p.1 = p.2.1 ∧ ρ.o p.1 = p.2.2.1 ∧ ρ.h p.1 = p.2.2.2 := fun p hp => by
    obtain ⟨i, hi, rfl⟩ := List.mem_map.1 hp
    exact ⟨rfl, rfl, rfl⟩
  have hW1 := hW.addR (i := B) (Env.agree.refl _ ρ) (o := .pin pl) hcov.1 (fun _ _ h => h) hpl
  have hW2 : WI w L' ρ (look ((B, .pin pl) :: Mc)) (· < B + 1) w := by
    rw [look_upd]
    exact hW1.mono fun j hj => by have hj : j < B ∨ j = B := hj; omega
  refine (Run.calls hf hb ρ args _ (B + 1) (SV.scs_mono (fun j (hj : j < B) => Nat.lt_succ_of_lt hj) _ hs) hN hW2 (h w L' pl hL (fun p hp => (hW.lid p hp).1) hcov)).mono fun e w' ⟨ρ', he, hv, hp, hW'⟩ => ⟨ρ', he, hv, pin_agree hcov hpl hp, hW'⟩
theorem sh_inj {B k i j : Nat} (hk : B ≤ k) (h : i ≠ j) : sh B k i ≠ sh B k j := by
  rcases Nat.lt_or_ge i B with hi | hi <;> rcases Nat.lt_or_ge j B with hj | hj
  · rw [sh_lt hi, sh_lt hj]; exact h
  · rw [sh_lt hi, sh_ge hj]; omega
  · rw [sh_ge hi, sh_lt hj]; omega
  · rw [sh_ge hi, sh_ge hj]; omega
/-- At the return: what is new has numbers from k on. -/
theorem SpecR.intro {c : Cx} {M M1 : List (Nat × SObj)} {n n1 B : Nat} {pl : List (Nat × Nat × Nat × (Option Addr × Nat × Nat))} {v v0 : SV} (k : Nat) (hk : B ≤ k) (hL : ∀ p ∈ c.L, p.1 < B) (hB : B ≤ n1) (hcov : Covers B pl) (hq : look M B = some (.pin pl)) (hv : v.ren (sh B k) = v0) (hvs : v.sc (· < n1))
    (hM1 : AllP (fun x => look M (sh B k x.1) = some (x.2.ren (sh B k)) ∧ x.1 < n1 ∧ x.2.sc (· < n1)) M1) : RetOk c M n v0 (SpecR c.w0 c.L pl v M1 n1) := by
  refine ⟨fun ρ w hW _ => ⟨ρ.ren (sh B k), by rw [← hv, conc_ren], hvs, fun p hp => ?_, WI.less (r := sh B k) ⟨hM1.mem, fun x _ y _ h => sh_inj hk h, fun p hp => ⟨sh_lt (hL p hp), by have := hL p hp; omega⟩⟩ hW⟩⟩
  have h1 := hcov.1 p hp
  have h2 := (hW.mem B _ hq).2.2 p hp
  simp only [Env.ren, sh_lt h1]
  exact h2
end Go.Sx
namespace Go.Proofs.Ythaigkamfnjfbaa
open Go.Sx
set_option maxRecDepth 100000
end Go.Proofs.Ythaigkamfnjfbaa
namespace Go.Sx
theorem look_some_of_mem {α : Type} : ∀ {l : List (Nat × α)} {i : Nat} {x : α}, (i, x) ∈ l → ∃ y, look l i = some y
  | [], i, x, h => by cases h
  | (k, y) :: l, i, x, h => by
    rw [look_cons]
    by_cases e : k = i
    · exact ⟨y, if_pos e⟩
    · rw [if_neg e]
      rcases List.mem_cons.1 h with h | h
      · exact absurd (Prod.mk.inj h).1.symm e
      · exact look_some_of_mem h
mutual
theorem ren_fix {S : Nat → Prop} {r : Nat → Nat} (h : ∀ i, S i → r i = i) : ∀ (v : SV), v.sc S → v.ren r = v
  | .v _, _ => rfl
  | .ptr i _, hs => by simp only [SV.ren, h i hs]
  | .slc i _ _ _, hs => by simp only [SV.ren, h i hs]
  | .opq i, hs => by simp only [SV.ren, h i hs]
  | .mp i, hs => by simp only [SV.ren, h i hs]
  | .fn _ caps, hs => by simp only [SV.ren, rens_fix h caps hs]
  | .agg cs, hs => by simp only [SV.ren, rens_fix h cs hs]
  | .tup vs, hs => by simp only [SV.ren, rens_fix h vs hs]
theorem rens_fix {S : Nat → Prop} {r : Nat → Nat} (h : ∀ i, S i → r i = i) : ∀ (l : List SV), SV.scs S l → SV.rens r l = l
  | [], _ => rfl
  | a :: l, hs => by simp only [SV.rens, ren_fix h a hs.1, rens_fix h l hs.2]
end
theorem Widens.refl (w0 : World) (L : List (Nat × Nat)) : Widens w0 L L := ⟨fun _ h => h, fun p hp => .inl ⟨p, hp, rfl⟩⟩
theorem SpecR.introN {c : Cx} {Lo : List (Nat × Nat)} {M M1 : List (Nat × SObj)} {n n1 B : Nat} {pl : List (Nat × Nat × Nat × (Option Addr × Nat × Nat))} {v v0 : SV} (k : Nat) (hk : B ≤ k) (hwid : Widens c.w0 Lo c.L) (hL : ∀ p ∈ Lo, p.1 < B) (hB : B ≤ n1) (hcov : Covers B pl) (hq : look M B = some (.pin pl)) (hv : v.ren (sh B k) = v0) (hvs : v.sc (· < n1))
    (hM1 : AllP (fun x => look M (sh B k x.1) = some (x.2.ren (sh B k)) ∧ x.1 < n1 ∧ x.2.sc (· < n1)) M1) : RetOk c M n v0 (SpecR c.w0 Lo pl v M1 n1) := by
  refine ⟨fun ρ w hW _ => ⟨ρ.ren (sh B k), by rw [← hv, conc_ren], hvs, fun p hp => ?_, WI.less (r := sh B k) ⟨hM1.mem, fun x _ y _ h => sh_inj hk h, fun p hp => ⟨sh_lt (hL p hp), by have := hL p hp; omega⟩⟩ (hW.narrow hwid)⟩⟩
  have h1 := hcov.1 p hp
  have h2 := (hW.mem B _ hq).2.2 p hp
  simp only [Env.ren, sh_lt h1]
  exact h2
theorem sh_fix {B n : Nat} (i : Nat) (h : i < B) : sh B n i = i := sh_lt h
theorem SV.scs_lt {a b : Nat} (h : a ≤ b) {l : List SV} (hl : SV.scs (· < a) l) : SV.scs (· < b) l := SV.scs_mono (fun j (hj : j < a) => Nat.lt_of_lt_of_le hj h) l hl
end Go.Sx
namespace Go.Proofs.Ythaigkamfnjfbaa
open Go.Sx
set_option maxRecDepth 100000
def rul0 : Rul := ⟨0, 0, 0, 0, 0, 0, 0, 0, 0, false⟩
theorem rs_fix {a b i : Nat} (h : i < a) : rs a b i = i := by unfold rs; rw [if_neg (by omega)]
set_option maxHeartbeats 2000000
end Go.Proofs.Ythaigkamfnjfbaa
