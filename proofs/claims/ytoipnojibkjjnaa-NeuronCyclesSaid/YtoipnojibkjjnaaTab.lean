/-
  The types of the translation, as the symbolic executor reads them (written by program), each proved to be the program's own. No condition.
-/
import Derived.Test.YtoipnojibkjjnaaSxL
import Derived.Test.YtoipnojibkjjnaaChecked
namespace Go.Proofs.Ytoipnojibkjjnaa
open Go.Sx
theorem ti3 : TI.ok Try.prog 3 ⟨1, [.int .i64 0], .int .i64, none⟩ := ⟨by kernel_rfl, by kernel_rfl, by kernel_rfl⟩
theorem ti25 : TI.ok Try.prog 25 ⟨2, [.int .i64 0, .int .i64 0], .str [(0, 1, false), (1, 1, false)], some 2⟩ := ⟨by kernel_rfl, by kernel_rfl, by kernel_rfl⟩
theorem ti23 : TI.ok Try.prog 23 ⟨8, [.int .i64 0, .int .i64 0, .int .i64 0, .int .i64 0, .int .i64 0, .int .i64 0, .int .i64 0, .int .i64 0], .str [(0, 1, false), (1, 1, false), (2, 1, false), (3, 1, false), (4, 1, false), (5, 1, false), (6, 1, false), (7, 1, false)], some 8⟩ := ⟨by kernel_rfl, by kernel_rfl, by kernel_rfl⟩
theorem ti26 : TI.ok Try.prog 26 ⟨1, [.int .i64 0], .int .i64, none⟩ := ⟨by kernel_rfl, by kernel_rfl, by kernel_rfl⟩
theorem ti47 : TI.ok Try.prog 47 ⟨1, [.slice none 0 0], .slc 5 1 1, none⟩ := ⟨by kernel_rfl, by kernel_rfl, by kernel_rfl⟩
theorem ti5 : TI.ok Try.prog 5 ⟨1, [.int .u8 0], .int .u8, none⟩ := ⟨by kernel_rfl, by kernel_rfl, by kernel_rfl⟩
theorem ti31 : TI.ok Try.prog 31 ⟨1, [.slice none 0 0], .slc 3 1 8, none⟩ := ⟨by kernel_rfl, by kernel_rfl, by kernel_rfl⟩
theorem ti63 : TI.ok Try.prog 63 ⟨11, [.int .i64 0, .int .i64 0, .int .i64 0, .int .i64 0, .int .i64 0, .int .i64 0, .int .i64 0, .int .i64 0, .int .i64 0, .int .i64 0, .nilFunc], .str [(0, 8, true), (8, 2, true), (10, 1, false)], none⟩ := ⟨by kernel_rfl, by kernel_rfl, by kernel_rfl⟩
theorem ti72 : TI.ok Try.prog 72 ⟨2, [.int .i64 0, .nilFunc], .str [(0, 1, false), (1, 1, false)], none⟩ := ⟨by kernel_rfl, by kernel_rfl, by kernel_rfl⟩
theorem ti9 : TI.ok Try.prog 9 ⟨1, [.string ⟨#[]⟩], .string, none⟩ := ⟨by kernel_rfl, by kernel_rfl, by kernel_rfl⟩
theorem ti55 : TI.ok Try.prog 55 ⟨1, [.slice none 0 0], .slc 25 2 16, none⟩ := ⟨by kernel_rfl, by kernel_rfl, by kernel_rfl⟩
theorem ti37 : TI.ok Try.prog 37 ⟨1, [.int .u16 0], .int .u16, none⟩ := ⟨by kernel_rfl, by kernel_rfl, by kernel_rfl⟩
theorem ti61 : TI.ok Try.prog 61 ⟨1, [.nilFunc], .fn, none⟩ := ⟨by kernel_rfl, by kernel_rfl, by kernel_rfl⟩
theorem ti57 : TI.ok Try.prog 57 ⟨1, [.pointer none], .ptr, none⟩ := ⟨by kernel_rfl, by kernel_rfl, by kernel_rfl⟩
theorem ti79 : TI.ok Try.prog 79 ⟨1, [.int .i8 0], .int .i8, none⟩ := ⟨by kernel_rfl, by kernel_rfl, by kernel_rfl⟩
theorem ti4 : TI.ok Try.prog 4 ⟨1, [.bool false], .bool, none⟩ := ⟨by kernel_rfl, by kernel_rfl, by kernel_rfl⟩
theorem ti38 : TI.ok Try.prog 38 ⟨1, [.slice none 0 0], .slc 21 1 4, none⟩ := ⟨by kernel_rfl, by kernel_rfl, by kernel_rfl⟩
theorem ti21 : TI.ok Try.prog 21 ⟨1, [.int .i32 0], .int .i32, none⟩ := ⟨by kernel_rfl, by kernel_rfl, by kernel_rfl⟩
theorem ti39 : TI.ok Try.prog 39 ⟨1, [.slice none 0 0], .slc 37 1 2, none⟩ := ⟨by kernel_rfl, by kernel_rfl, by kernel_rfl⟩
def tab : Tab := [(3, ⟨1, [.int .i64 0], .int .i64, none⟩),
  (25, ⟨2, [.int .i64 0, .int .i64 0], .str [(0, 1, false), (1, 1, false)], some 2⟩),
  (23, ⟨8, [.int .i64 0, .int .i64 0, .int .i64 0, .int .i64 0, .int .i64 0, .int .i64 0, .int .i64 0, .int .i64 0], .str [(0, 1, false), (1, 1, false), (2, 1, false), (3, 1, false), (4, 1, false), (5, 1, false), (6, 1, false), (7, 1, false)], some 8⟩),
  (26, ⟨1, [.int .i64 0], .int .i64, none⟩),
  (47, ⟨1, [.slice none 0 0], .slc 5 1 1, none⟩),
  (5, ⟨1, [.int .u8 0], .int .u8, none⟩),
  (31, ⟨1, [.slice none 0 0], .slc 3 1 8, none⟩),
  (63, ⟨11, [.int .i64 0, .int .i64 0, .int .i64 0, .int .i64 0, .int .i64 0, .int .i64 0, .int .i64 0, .int .i64 0, .int .i64 0, .int .i64 0, .nilFunc], .str [(0, 8, true), (8, 2, true), (10, 1, false)], none⟩),
  (72, ⟨2, [.int .i64 0, .nilFunc], .str [(0, 1, false), (1, 1, false)], none⟩),
  (9, ⟨1, [.string ⟨#[]⟩], .string, none⟩),
  (55, ⟨1, [.slice none 0 0], .slc 25 2 16, none⟩),
  (37, ⟨1, [.int .u16 0], .int .u16, none⟩),
  (61, ⟨1, [.nilFunc], .fn, none⟩),
  (57, ⟨1, [.pointer none], .ptr, none⟩),
  (79, ⟨1, [.int .i8 0], .int .i8, none⟩),
  (4, ⟨1, [.bool false], .bool, none⟩),
  (38, ⟨1, [.slice none 0 0], .slc 21 1 4, none⟩),
  (21, ⟨1, [.int .i32 0], .int .i32, none⟩),
  (39, ⟨1, [.slice none 0 0], .slc 37 1 2, none⟩)]
theorem tab_ok : Tab.oks Try.prog tab := ⟨ti3, ti25, ti23, ti26, ti47, ti5, ti31, ti63, ti72, ti9, ti55, ti37, ti61, ti57, ti79, ti4, ti38, ti21, ti39, trivial⟩
abbrev cuts5 : List (Nat × Nat) := [(10, 14), (14, 15)]
abbrev cuts6 : List (Nat × Nat) := [(21, 3)]
abbrev cuts7 : List (Nat × Nat) := [(3, 22)]
abbrev cuts9 : List (Nat × Nat) := [(14, 34)]
abbrev cuts13 : List (Nat × Nat) := [(23, 8), (25, 15), (27, 28)]
abbrev cuts18 : List (Nat × Nat) := [(7, 6)]
abbrev cuts19 : List (Nat × Nat) := [(11, 11), (14, 3)]
abbrev cuts20 : List (Nat × Nat) := [(6, 8)]
abbrev cuts24 : List (Nat × Nat) := [(4, 6)]
abbrev cuts27 : List (Nat × Nat) := [(8, 6)]
abbrev cuts28 : List (Nat × Nat) := [(6, 8)]
abbrev cuts29 : List (Nat × Nat) := [(9, 5)]
abbrev cuts33 : List (Nat × Nat) := [(7, 12)]
abbrev cuts34 : List (Nat × Nat) := [(5, 31)]
abbrev cuts35 : List (Nat × Nat) := [(10, 5), (20, 8)]
abbrev cuts36 : List (Nat × Nat) := [(16, 12)]
abbrev cuts40 : List (Nat × Nat) := [(4, 28), (8, 12)]
abbrev cuts41 : List (Nat × Nat) := [(4, 12)]
abbrev cuts51 : List (Nat × Nat) := [(1, 21)]
abbrev cuts52 : List (Nat × Nat) := [(1, 15)]
end Go.Proofs.Ytoipnojibkjjnaa
