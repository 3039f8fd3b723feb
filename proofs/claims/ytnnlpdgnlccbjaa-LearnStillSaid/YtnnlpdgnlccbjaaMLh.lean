/-
  Laws of the executor, and walks of functions (part 8). The conditions stand with each law.
-/
import Derived.Test.YtnnlpdgnlccbjaaChecked
import Derived.Test.YtnnlpdgnlccbjaaMLg
namespace Go.Proofs.Ytnnlpdgnlccbjaa
open Go.Sx
theorem ti3:TI.ok Try.prog 3 ⟨1,[.int .i64 0],.int .i64,none,some (.int .i64 0)⟩:=⟨by kernel_rfl,by kernel_rfl,by kernel_rfl,(show(Try.prog.info? 3).map (·.zero)=some (some (.int .i64 0))by kernel_rfl)⟩
theorem ti25:TI.ok Try.prog 25 ⟨3,[.slice none 0 0,.int .i64 0,.slice none 0 0],.str [(0,1,false),(1,1,false),(2,1,false)],none,none⟩:=⟨by kernel_rfl,by kernel_rfl,by kernel_rfl,trivial⟩
theorem ti23:TI.ok Try.prog 23 ⟨1,[.slice none 0 0],.slc 55 4 32,none,some (.slice none 0 0)⟩:=⟨by kernel_rfl,by kernel_rfl,by kernel_rfl,(show(Try.prog.info? 23).map (·.zero)=some (some (.slice none 0 0))by kernel_rfl)⟩
theorem ti36:TI.ok Try.prog 36 ⟨10,[.int .i64 0,.int .i64 0,.int .i64 0,.int .i64 0,.int .i64 0,.int .i64 0,.int .i64 0,.int .i64 0,.int .i64 0,.bool false],.str [(0,1,false),(1,1,false),(2,1,false),(3,1,false),(4,1,false),(5,1,false),(6,1,false),(7,1,false),(8,1,false),(9,1,false)],none,none⟩:=⟨by kernel_rfl,by kernel_rfl,by kernel_rfl,trivial⟩
theorem ti45:TI.ok Try.prog 45 ⟨8,[.slice none 0 0,.int .i64 0,.slice none 0 0,.slice none 0 0,.slice none 0 0,.slice none 0 0,.slice none 0 0,.int .i64 0],.str [(0,3,true),(3,1,false),(4,1,false),(5,1,false),(6,1,false),(7,1,false)],none,none⟩:=⟨by kernel_rfl,by kernel_rfl,by kernel_rfl,trivial⟩
theorem ti27:TI.ok Try.prog 27 ⟨1,[.slice none 0 0],.slc 3 1 8,none,some (.slice none 0 0)⟩:=⟨by kernel_rfl,by kernel_rfl,by kernel_rfl,(show(Try.prog.info? 27).map (·.zero)=some (some (.slice none 0 0))by kernel_rfl)⟩
theorem ti60:TI.ok Try.prog 60 ⟨8,[.int .i64 0,.int .i64 0,.int .i64 0,.int .i64 0,.int .i64 0,.int .i64 0,.int .i64 0,.int .i64 0],.str [(0,1,false),(1,1,false),(2,1,false),(3,1,false),(4,1,false),(5,1,false),(6,1,false),(7,1,false)],some 8,none⟩:=⟨by kernel_rfl,by kernel_rfl,by kernel_rfl,trivial⟩
theorem ti26:TI.ok Try.prog 26 ⟨1,[.slice none 0 0],.slc 36 10 80,none,some (.slice none 0 0)⟩:=⟨by kernel_rfl,by kernel_rfl,by kernel_rfl,(show(Try.prog.info? 26).map (·.zero)=some (some (.slice none 0 0))by kernel_rfl)⟩
theorem ti30:TI.ok Try.prog 30 ⟨1,[.int .i64 0],.int .i64,none,some (.int .i64 0)⟩:=⟨by kernel_rfl,by kernel_rfl,by kernel_rfl,(show(Try.prog.info? 30).map (·.zero)=some (some (.int .i64 0))by kernel_rfl)⟩
theorem ti22:TI.ok Try.prog 22 ⟨1,[.slice none 0 0],.slc 60 8 64,none,some (.slice none 0 0)⟩:=⟨by kernel_rfl,by kernel_rfl,by kernel_rfl,(show(Try.prog.info? 22).map (·.zero)=some (some (.slice none 0 0))by kernel_rfl)⟩
theorem ti96:TI.ok Try.prog 96 ⟨25,[.int .i64 0,.slice none 0 0,.int .i64 0,.slice none 0 0,.slice none 0 0,.map none,.map none,.map none,.map none,.map none,.map none,.map none,.map none,.map none,.map none,.map none,.map none,.map none,.map none,.map none,.map none,.slice none 0 0,.slice none 0 0,.slice none 0 0,.map none],.str [(0,1,true),(1,20,true),(21,1,false),(22,1,false),(23,1,false),(24,1,false)],none,none⟩:=⟨by kernel_rfl,by kernel_rfl,by kernel_rfl,trivial⟩
theorem ti84:TI.ok Try.prog 84 ⟨4,[.int .i64 0,.int .i64 0,.int .i64 0,.int .i64 0],.str [(0,1,false),(1,1,false),(2,1,false),(3,1,false)],some 4,none⟩:=⟨by kernel_rfl,by kernel_rfl,by kernel_rfl,trivial⟩
theorem ti139:TI.ok Try.prog 139 ⟨2,[.int .i64 0,.int .i64 0],.str [(0,1,false),(1,1,false)],some 2,none⟩:=⟨by kernel_rfl,by kernel_rfl,by kernel_rfl,trivial⟩
theorem ti40:TI.ok Try.prog 40 ⟨10,[.int .i64 0,.int .i64 0,.int .i64 0,.int .i64 0,.int .i64 0,.int .i64 0,.int .i64 0,.int .i64 0,.int .i64 0,.bool false],.str [(0,1,false),(1,1,false),(2,1,false),(3,1,false),(4,1,false),(5,1,false),(6,1,false),(7,1,false),(8,1,false),(9,1,false)],none,none⟩:=⟨by kernel_rfl,by kernel_rfl,by kernel_rfl,trivial⟩
theorem ti64:TI.ok Try.prog 64 ⟨1,[.pointer none],.ptr,none,some (.pointer none)⟩:=⟨by kernel_rfl,by kernel_rfl,by kernel_rfl,(show(Try.prog.info? 64).map (·.zero)=some (some (.pointer none))by kernel_rfl)⟩
theorem ti141:TI.ok Try.prog 141 ⟨4,[.int .i64 0,.int .i64 0,.int .i64 0,.int .i64 0],.str [(0,1,false),(1,1,false),(2,1,false),(3,1,false)],some 4,none⟩:=⟨by kernel_rfl,by kernel_rfl,by kernel_rfl,trivial⟩
theorem ti42:TI.ok Try.prog 42 ⟨1,[.slice none 0 0],.slc 62 2 16,none,some (.slice none 0 0)⟩:=⟨by kernel_rfl,by kernel_rfl,by kernel_rfl,(show(Try.prog.info? 42).map (·.zero)=some (some (.slice none 0 0))by kernel_rfl)⟩
theorem ti88:TI.ok Try.prog 88 ⟨1,[.slice none 0 0],.slc 139 2 16,none,some (.slice none 0 0)⟩:=⟨by kernel_rfl,by kernel_rfl,by kernel_rfl,(show(Try.prog.info? 88).map (·.zero)=some (some (.slice none 0 0))by kernel_rfl)⟩
theorem ti106:TI.ok Try.prog 106 ⟨1,[.slice none 0 0],.slc 27 1 24,none,some (.slice none 0 0)⟩:=⟨by kernel_rfl,by kernel_rfl,by kernel_rfl,(show(Try.prog.info? 106).map (·.zero)=some (some (.slice none 0 0))by kernel_rfl)⟩
theorem ti188:TI.ok Try.prog 188 ⟨11,[.int .i64 0,.int .i64 0,.int .i64 0,.int .i64 0,.int .i64 0,.int .i64 0,.int .i64 0,.int .i64 0,.int .i64 0,.int .i64 0,.nilFunc],.str [(0,8,true),(8,2,true),(10,1,false)],none,none⟩:=⟨by kernel_rfl,by kernel_rfl,by kernel_rfl,trivial⟩
theorem ti108:TI.ok Try.prog 108 ⟨10,[.slice none 0 0,.int .i64 0,.slice none 0 0,.slice none 0 0,.slice none 0 0,.slice none 0 0,.slice none 0 0,.int .i64 0,.slice none 0 0,.slice none 0 0],.str [(0,3,true),(3,1,false),(4,1,false),(5,1,false),(6,1,false),(7,1,false),(8,1,false),(9,1,false)],none,none⟩:=⟨by kernel_rfl,by kernel_rfl,by kernel_rfl,trivial⟩
theorem ti55:TI.ok Try.prog 55 ⟨4,[.int .i64 0,.int .i64 0,.int .i64 0,.int .i64 0],.str [(0,1,false),(1,1,false),(2,1,false),(3,1,false)],some 4,none⟩:=⟨by kernel_rfl,by kernel_rfl,by kernel_rfl,trivial⟩
theorem ti179:TI.ok Try.prog 179 ⟨2,[.int .i64 0,.nilFunc],.str [(0,1,false),(1,1,false)],none,none⟩:=⟨by kernel_rfl,by kernel_rfl,by kernel_rfl,trivial⟩
theorem ti92:TI.ok Try.prog 92 ⟨20,[.slice none 0 0,.int .i64 0,.slice none 0 0,.slice none 0 0,.map none,.map none,.map none,.map none,.map none,.map none,.map none,.map none,.map none,.map none,.map none,.map none,.map none,.map none,.map none,.map none],.str [(0,3,true),(3,1,false),(4,16,true)],none,none⟩:=⟨by kernel_rfl,by kernel_rfl,by kernel_rfl,trivial⟩
theorem ti43:TI.ok Try.prog 43 ⟨1,[.slice none 0 0],.slc 49 3 24,none,some (.slice none 0 0)⟩:=⟨by kernel_rfl,by kernel_rfl,by kernel_rfl,(show(Try.prog.info? 43).map (·.zero)=some (some (.slice none 0 0))by kernel_rfl)⟩
theorem ti93:TI.ok Try.prog 93 ⟨1,[.slice none 0 0],.slc 84 4 32,none,some (.slice none 0 0)⟩:=⟨by kernel_rfl,by kernel_rfl,by kernel_rfl,(show(Try.prog.info? 93).map (·.zero)=some (some (.slice none 0 0))by kernel_rfl)⟩
theorem ti62:TI.ok Try.prog 62 ⟨2,[.int .i64 0,.int .i64 0],.str [(0,1,false),(1,1,false)],some 2,none⟩:=⟨by kernel_rfl,by kernel_rfl,by kernel_rfl,trivial⟩
theorem ti150:TI.ok Try.prog 150 ⟨1,[.slice none 0 0],.slc 4 1 1,none,some (.slice none 0 0)⟩:=⟨by kernel_rfl,by kernel_rfl,by kernel_rfl,(show(Try.prog.info? 150).map (·.zero)=some (some (.slice none 0 0))by kernel_rfl)⟩
theorem ti94:TI.ok Try.prog 94 ⟨1,[.map none],.map 175 3,none,some (.map none)⟩:=⟨by kernel_rfl,by kernel_rfl,by kernel_rfl,(show(Try.prog.info? 94).map (·.zero)=some (some (.map none))by kernel_rfl)⟩
theorem ti89:TI.ok Try.prog 89 ⟨1,[.map none],.map 3 4,none,some (.map none)⟩:=⟨by kernel_rfl,by kernel_rfl,by kernel_rfl,(show(Try.prog.info? 89).map (·.zero)=some (some (.map none))by kernel_rfl)⟩
theorem ti170:TI.ok Try.prog 170 ⟨22,[.slice none 0 0,.int .i64 0,.slice none 0 0,.map none,.int .i64 0,.slice none 0 0,.slice none 0 0,.slice none 0 0,.slice none 0 0,.slice none 0 0,.slice none 0 0,.slice none 0 0,.slice none 0 0,.slice none 0 0,.slice none 0 0,.slice none 0 0,.slice none 0 0,.slice none 0 0,.slice none 0 0,.slice none 0 0,.slice none 0 0,.slice none 0 0],.str [(0,3,true),(3,1,false),(4,1,false),(5,1,false),(6,16,true)],none,none⟩:=⟨by kernel_rfl,by kernel_rfl,by kernel_rfl,trivial⟩
theorem ti192:TI.ok Try.prog 192 ⟨6,[.slice none 0 0,.int .i64 0,.slice none 0 0,.int .i64 0,.slice none 0 0,.slice none 0 0],.str [(0,3,true),(3,1,false),(4,1,false),(5,1,false)],none,none⟩:=⟨by kernel_rfl,by kernel_rfl,by kernel_rfl,trivial⟩
theorem ti4:TI.ok Try.prog 4 ⟨1,[.bool false],.bool,none,some (.bool false)⟩:=⟨by kernel_rfl,by kernel_rfl,by kernel_rfl,(show(Try.prog.info? 4).map (·.zero)=some (some (.bool false))by kernel_rfl)⟩
theorem ti105:TI.ok Try.prog 105 ⟨1,[.slice none 0 0],.slc 141 4 32,none,some (.slice none 0 0)⟩:=⟨by kernel_rfl,by kernel_rfl,by kernel_rfl,(show(Try.prog.info? 105).map (·.zero)=some (some (.slice none 0 0))by kernel_rfl)⟩
theorem ti33:TI.ok Try.prog 33 ⟨1,[.slice none 0 0],.slc 40 10 80,none,some (.slice none 0 0)⟩:=⟨by kernel_rfl,by kernel_rfl,by kernel_rfl,(show(Try.prog.info? 33).map (·.zero)=some (some (.slice none 0 0))by kernel_rfl)⟩
theorem ti87:TI.ok Try.prog 87 ⟨1,[.int .i64 0],.str [(0,1,false)],some 1,none⟩:=⟨by kernel_rfl,by kernel_rfl,by kernel_rfl,trivial⟩
theorem ti124:TI.ok Try.prog 124 ⟨1,[.pointer none],.ptr,none,some (.pointer none)⟩:=⟨by kernel_rfl,by kernel_rfl,by kernel_rfl,(show(Try.prog.info? 124).map (·.zero)=some (some (.pointer none))by kernel_rfl)⟩
theorem ti165:TI.ok Try.prog 165 ⟨1,[.map none],.map 3 23,none,some (.map none)⟩:=⟨by kernel_rfl,by kernel_rfl,by kernel_rfl,(show(Try.prog.info? 165).map (·.zero)=some (some (.map none))by kernel_rfl)⟩
theorem ti183:TI.ok Try.prog 183 ⟨1,[.map none],.map 3 147,none,some (.map none)⟩:=⟨by kernel_rfl,by kernel_rfl,by kernel_rfl,(show(Try.prog.info? 183).map (·.zero)=some (some (.map none))by kernel_rfl)⟩
theorem ti49:TI.ok Try.prog 49 ⟨3,[.int .i64 0,.int .i64 0,.int .i64 0],.str [(0,1,false),(1,1,false),(2,1,false)],some 3,none⟩:=⟨by kernel_rfl,by kernel_rfl,by kernel_rfl,trivial⟩
theorem ti175:TI.ok Try.prog 175 ⟨2,[.int .i64 0,.int .i64 0],.str [(0,1,false),(1,1,false)],some 2,none⟩:=⟨by kernel_rfl,by kernel_rfl,by kernel_rfl,trivial⟩
theorem ti5:TI.ok Try.prog 5 ⟨1,[.int .u8 0],.int .u8,none,some (.int .u8 0)⟩:=⟨by kernel_rfl,by kernel_rfl,by kernel_rfl,(show(Try.prog.info? 5).map (·.zero)=some (some (.int .u8 0))by kernel_rfl)⟩
theorem ti128:TI.ok Try.prog 128 ⟨1,[.slice none 0 0],.str [(0,1,false)],none,none⟩:=⟨by kernel_rfl,by kernel_rfl,by kernel_rfl,trivial⟩
theorem ti177:TI.ok Try.prog 177 ⟨1,[.nilFunc],.fn,none,some (.nilFunc)⟩:=⟨by kernel_rfl,by kernel_rfl,by kernel_rfl,(show(Try.prog.info? 177).map (·.zero)=some (some (.nilFunc))by kernel_rfl)⟩
theorem ti99:TI.ok Try.prog 99 ⟨1,[.slice none 0 0],.slc 104 3 56,none,some (.slice none 0 0)⟩:=⟨by kernel_rfl,by kernel_rfl,by kernel_rfl,(show(Try.prog.info? 99).map (·.zero)=some (some (.slice none 0 0))by kernel_rfl)⟩
theorem ti147:TI.ok Try.prog 147 ⟨1,[.nilFunc],.fn,none,some (.nilFunc)⟩:=⟨by kernel_rfl,by kernel_rfl,by kernel_rfl,(show(Try.prog.info? 147).map (·.zero)=some (some (.nilFunc))by kernel_rfl)⟩
theorem ti90:TI.ok Try.prog 90 ⟨16,[.map none,.map none,.map none,.map none,.map none,.map none,.map none,.map none,.map none,.map none,.map none,.map none,.map none,.map none,.map none,.map none],.arr 16 1 false,none,none⟩:=⟨by kernel_rfl,by kernel_rfl,by kernel_rfl,trivial⟩
theorem ti46:TI.ok Try.prog 46 ⟨1,[.slice none 0 0],.slc 48 3 24,none,some (.slice none 0 0)⟩:=⟨by kernel_rfl,by kernel_rfl,by kernel_rfl,(show(Try.prog.info? 46).map (·.zero)=some (some (.slice none 0 0))by kernel_rfl)⟩
theorem ti168:TI.ok Try.prog 168 ⟨16,[.slice none 0 0,.slice none 0 0,.slice none 0 0,.slice none 0 0,.slice none 0 0,.slice none 0 0,.slice none 0 0,.slice none 0 0,.slice none 0 0,.slice none 0 0,.slice none 0 0,.slice none 0 0,.slice none 0 0,.slice none 0 0,.slice none 0 0,.slice none 0 0],.arr 16 1 false,none,none⟩:=⟨by kernel_rfl,by kernel_rfl,by kernel_rfl,trivial⟩
theorem ti193:TI.ok Try.prog 193 ⟨1,[.nilFunc],.fn,none,some (.nilFunc)⟩:=⟨by kernel_rfl,by kernel_rfl,by kernel_rfl,(show(Try.prog.info? 193).map (·.zero)=some (some (.nilFunc))by kernel_rfl)⟩
theorem ti100:TI.ok Try.prog 100 ⟨1,[.pointer none],.ptr,none,some (.pointer none)⟩:=⟨by kernel_rfl,by kernel_rfl,by kernel_rfl,(show(Try.prog.info? 100).map (·.zero)=some (some (.pointer none))by kernel_rfl)⟩
theorem ti174:TI.ok Try.prog 174 ⟨2,[.int .i64 0,.int .i64 0],.str [(0,1,false),(1,1,false)],some 2,none⟩:=⟨by kernel_rfl,by kernel_rfl,by kernel_rfl,trivial⟩
theorem ti95:TI.ok Try.prog 95 ⟨25,[.int .i64 0,.slice none 0 0,.int .i64 0,.slice none 0 0,.slice none 0 0,.map none,.map none,.map none,.map none,.map none,.map none,.map none,.map none,.map none,.map none,.map none,.map none,.map none,.map none,.map none,.map none,.slice none 0 0,.slice none 0 0,.slice none 0 0,.map none],.str [(0,1,true),(1,20,true),(21,1,false),(22,1,false),(23,1,false),(24,1,false)],none,none⟩:=⟨by kernel_rfl,by kernel_rfl,by kernel_rfl,trivial⟩
theorem ti91:TI.ok Try.prog 91 ⟨20,[.slice none 0 0,.int .i64 0,.slice none 0 0,.slice none 0 0,.map none,.map none,.map none,.map none,.map none,.map none,.map none,.map none,.map none,.map none,.map none,.map none,.map none,.map none,.map none,.map none],.str [(0,3,true),(3,1,false),(4,16,true)],none,none⟩:=⟨by kernel_rfl,by kernel_rfl,by kernel_rfl,trivial⟩
theorem ti86:TI.ok Try.prog 86 ⟨1,[.int .i64 0],.str [(0,1,false)],some 1,none⟩:=⟨by kernel_rfl,by kernel_rfl,by kernel_rfl,trivial⟩
theorem ti48:TI.ok Try.prog 48 ⟨3,[.int .i64 0,.int .i64 0,.int .i64 0],.str [(0,1,false),(1,1,false),(2,1,false)],some 3,none⟩:=⟨by kernel_rfl,by kernel_rfl,by kernel_rfl,trivial⟩
theorem ti104:TI.ok Try.prog 104 ⟨3,[.int .u8 0,.slice none 0 0,.slice none 0 0],.str [(0,1,false),(1,1,false),(2,1,false)],none,none⟩:=⟨by kernel_rfl,by kernel_rfl,by kernel_rfl,trivial⟩
def tab:Tab:=[(3,⟨1,[.int .i64 0],.int .i64,none,some (.int .i64 0)⟩),
 (25,⟨3,[.slice none 0 0,.int .i64 0,.slice none 0 0],.str [(0,1,false),(1,1,false),(2,1,false)],none,none⟩),
 (23,⟨1,[.slice none 0 0],.slc 55 4 32,none,some (.slice none 0 0)⟩),
 (36,⟨10,[.int .i64 0,.int .i64 0,.int .i64 0,.int .i64 0,.int .i64 0,.int .i64 0,.int .i64 0,.int .i64 0,.int .i64 0,.bool false],.str [(0,1,false),(1,1,false),(2,1,false),(3,1,false),(4,1,false),(5,1,false),(6,1,false),(7,1,false),(8,1,false),(9,1,false)],none,none⟩),
 (45,⟨8,[.slice none 0 0,.int .i64 0,.slice none 0 0,.slice none 0 0,.slice none 0 0,.slice none 0 0,.slice none 0 0,.int .i64 0],.str [(0,3,true),(3,1,false),(4,1,false),(5,1,false),(6,1,false),(7,1,false)],none,none⟩),
 (27,⟨1,[.slice none 0 0],.slc 3 1 8,none,some (.slice none 0 0)⟩),
 (60,⟨8,[.int .i64 0,.int .i64 0,.int .i64 0,.int .i64 0,.int .i64 0,.int .i64 0,.int .i64 0,.int .i64 0],.str [(0,1,false),(1,1,false),(2,1,false),(3,1,false),(4,1,false),(5,1,false),(6,1,false),(7,1,false)],some 8,none⟩),
 (26,⟨1,[.slice none 0 0],.slc 36 10 80,none,some (.slice none 0 0)⟩),
 (30,⟨1,[.int .i64 0],.int .i64,none,some (.int .i64 0)⟩),
 (22,⟨1,[.slice none 0 0],.slc 60 8 64,none,some (.slice none 0 0)⟩),
 (96,⟨25,[.int .i64 0,.slice none 0 0,.int .i64 0,.slice none 0 0,.slice none 0 0,.map none,.map none,.map none,.map none,.map none,.map none,.map none,.map none,.map none,.map none,.map none,.map none,.map none,.map none,.map none,.map none,.slice none 0 0,.slice none 0 0,.slice none 0 0,.map none],.str [(0,1,true),(1,20,true),(21,1,false),(22,1,false),(23,1,false),(24,1,false)],none,none⟩),
 (84,⟨4,[.int .i64 0,.int .i64 0,.int .i64 0,.int .i64 0],.str [(0,1,false),(1,1,false),(2,1,false),(3,1,false)],some 4,none⟩),
 (139,⟨2,[.int .i64 0,.int .i64 0],.str [(0,1,false),(1,1,false)],some 2,none⟩),
 (40,⟨10,[.int .i64 0,.int .i64 0,.int .i64 0,.int .i64 0,.int .i64 0,.int .i64 0,.int .i64 0,.int .i64 0,.int .i64 0,.bool false],.str [(0,1,false),(1,1,false),(2,1,false),(3,1,false),(4,1,false),(5,1,false),(6,1,false),(7,1,false),(8,1,false),(9,1,false)],none,none⟩),
 (64,⟨1,[.pointer none],.ptr,none,some (.pointer none)⟩),
 (141,⟨4,[.int .i64 0,.int .i64 0,.int .i64 0,.int .i64 0],.str [(0,1,false),(1,1,false),(2,1,false),(3,1,false)],some 4,none⟩),
 (42,⟨1,[.slice none 0 0],.slc 62 2 16,none,some (.slice none 0 0)⟩),
 (88,⟨1,[.slice none 0 0],.slc 139 2 16,none,some (.slice none 0 0)⟩),
 (106,⟨1,[.slice none 0 0],.slc 27 1 24,none,some (.slice none 0 0)⟩),
 (188,⟨11,[.int .i64 0,.int .i64 0,.int .i64 0,.int .i64 0,.int .i64 0,.int .i64 0,.int .i64 0,.int .i64 0,.int .i64 0,.int .i64 0,.nilFunc],.str [(0,8,true),(8,2,true),(10,1,false)],none,none⟩),
 (108,⟨10,[.slice none 0 0,.int .i64 0,.slice none 0 0,.slice none 0 0,.slice none 0 0,.slice none 0 0,.slice none 0 0,.int .i64 0,.slice none 0 0,.slice none 0 0],.str [(0,3,true),(3,1,false),(4,1,false),(5,1,false),(6,1,false),(7,1,false),(8,1,false),(9,1,false)],none,none⟩),
 (55,⟨4,[.int .i64 0,.int .i64 0,.int .i64 0,.int .i64 0],.str [(0,1,false),(1,1,false),(2,1,false),(3,1,false)],some 4,none⟩),
 (179,⟨2,[.int .i64 0,.nilFunc],.str [(0,1,false),(1,1,false)],none,none⟩),
 (92,⟨20,[.slice none 0 0,.int .i64 0,.slice none 0 0,.slice none 0 0,.map none,.map none,.map none,.map none,.map none,.map none,.map none,.map none,.map none,.map none,.map none,.map none,.map none,.map none,.map none,.map none],.str [(0,3,true),(3,1,false),(4,16,true)],none,none⟩),
 (43,⟨1,[.slice none 0 0],.slc 49 3 24,none,some (.slice none 0 0)⟩),
 (93,⟨1,[.slice none 0 0],.slc 84 4 32,none,some (.slice none 0 0)⟩),
 (62,⟨2,[.int .i64 0,.int .i64 0],.str [(0,1,false),(1,1,false)],some 2,none⟩),
 (150,⟨1,[.slice none 0 0],.slc 4 1 1,none,some (.slice none 0 0)⟩),
 (94,⟨1,[.map none],.map 175 3,none,some (.map none)⟩),
 (89,⟨1,[.map none],.map 3 4,none,some (.map none)⟩),
 (170,⟨22,[.slice none 0 0,.int .i64 0,.slice none 0 0,.map none,.int .i64 0,.slice none 0 0,.slice none 0 0,.slice none 0 0,.slice none 0 0,.slice none 0 0,.slice none 0 0,.slice none 0 0,.slice none 0 0,.slice none 0 0,.slice none 0 0,.slice none 0 0,.slice none 0 0,.slice none 0 0,.slice none 0 0,.slice none 0 0,.slice none 0 0,.slice none 0 0],.str [(0,3,true),(3,1,false),(4,1,false),(5,1,false),(6,16,true)],none,none⟩),
 (192,⟨6,[.slice none 0 0,.int .i64 0,.slice none 0 0,.int .i64 0,.slice none 0 0,.slice none 0 0],.str [(0,3,true),(3,1,false),(4,1,false),(5,1,false)],none,none⟩),
 (4,⟨1,[.bool false],.bool,none,some (.bool false)⟩),
 (105,⟨1,[.slice none 0 0],.slc 141 4 32,none,some (.slice none 0 0)⟩),
 (33,⟨1,[.slice none 0 0],.slc 40 10 80,none,some (.slice none 0 0)⟩),
 (87,⟨1,[.int .i64 0],.str [(0,1,false)],some 1,none⟩),
 (124,⟨1,[.pointer none],.ptr,none,some (.pointer none)⟩),
 (165,⟨1,[.map none],.map 3 23,none,some (.map none)⟩),
 (183,⟨1,[.map none],.map 3 147,none,some (.map none)⟩),
 (49,⟨3,[.int .i64 0,.int .i64 0,.int .i64 0],.str [(0,1,false),(1,1,false),(2,1,false)],some 3,none⟩),
 (175,⟨2,[.int .i64 0,.int .i64 0],.str [(0,1,false),(1,1,false)],some 2,none⟩),
 (5,⟨1,[.int .u8 0],.int .u8,none,some (.int .u8 0)⟩),
 (128,⟨1,[.slice none 0 0],.str [(0,1,false)],none,none⟩),
 (177,⟨1,[.nilFunc],.fn,none,some (.nilFunc)⟩),
 (99,⟨1,[.slice none 0 0],.slc 104 3 56,none,some (.slice none 0 0)⟩),
 (147,⟨1,[.nilFunc],.fn,none,some (.nilFunc)⟩),
 (90,⟨16,[.map none,.map none,.map none,.map none,.map none,.map none,.map none,.map none,.map none,.map none,.map none,.map none,.map none,.map none,.map none,.map none],.arr 16 1 false,none,none⟩),
 (46,⟨1,[.slice none 0 0],.slc 48 3 24,none,some (.slice none 0 0)⟩),
 (168,⟨16,[.slice none 0 0,.slice none 0 0,.slice none 0 0,.slice none 0 0,.slice none 0 0,.slice none 0 0,.slice none 0 0,.slice none 0 0,.slice none 0 0,.slice none 0 0,.slice none 0 0,.slice none 0 0,.slice none 0 0,.slice none 0 0,.slice none 0 0,.slice none 0 0],.arr 16 1 false,none,none⟩),
 (193,⟨1,[.nilFunc],.fn,none,some (.nilFunc)⟩),
 (100,⟨1,[.pointer none],.ptr,none,some (.pointer none)⟩),
 (174,⟨2,[.int .i64 0,.int .i64 0],.str [(0,1,false),(1,1,false)],some 2,none⟩),
 (95,⟨25,[.int .i64 0,.slice none 0 0,.int .i64 0,.slice none 0 0,.slice none 0 0,.map none,.map none,.map none,.map none,.map none,.map none,.map none,.map none,.map none,.map none,.map none,.map none,.map none,.map none,.map none,.map none,.slice none 0 0,.slice none 0 0,.slice none 0 0,.map none],.str [(0,1,true),(1,20,true),(21,1,false),(22,1,false),(23,1,false),(24,1,false)],none,none⟩),
 (91,⟨20,[.slice none 0 0,.int .i64 0,.slice none 0 0,.slice none 0 0,.map none,.map none,.map none,.map none,.map none,.map none,.map none,.map none,.map none,.map none,.map none,.map none,.map none,.map none,.map none,.map none],.str [(0,3,true),(3,1,false),(4,16,true)],none,none⟩),
 (86,⟨1,[.int .i64 0],.str [(0,1,false)],some 1,none⟩),
 (48,⟨3,[.int .i64 0,.int .i64 0,.int .i64 0],.str [(0,1,false),(1,1,false),(2,1,false)],some 3,none⟩),
 (104,⟨3,[.int .u8 0,.slice none 0 0,.slice none 0 0],.str [(0,1,false),(1,1,false),(2,1,false)],none,none⟩)]
theorem qI:Tab.oks Try.prog tab:=⟨ti3,ti25,ti23,ti36,ti45,ti27,ti60,ti26,ti30,ti22,ti96,ti84,ti139,ti40,ti64,ti141,ti42,ti88,ti106,ti188,ti108,ti55,ti179,ti92,ti43,ti93,ti62,ti150,ti94,ti89,ti170,ti192,ti4,ti105,ti33,ti87,ti124,ti165,ti183,ti49,ti175,ti5,ti128,ti177,ti99,ti147,ti90,ti46,ti168,ti193,ti100,ti174,ti95,ti91,ti86,ti48,ti104,trivial⟩
abbrev cuts74:List (Nat×Nat):=[(4,6)]
abbrev cuts102:List (Nat×Nat):=[(4,28),(8,12)]
set_option maxRecDepth 100000
theorem mixed:Try.prog.follows .mixedOrders=true:=by kernel_rfl
theorem ent (f : FuncId) (fn : Func) (h1 : Try.prog.funcs[f]? = some fn) (h2 : (fn.name == "runtime.NumGoroutine") = false) (h3 : fn.body.isNone = false) : zU Try.prog f := ⟨fn, h1, h2, h3⟩
def wi (n lo hi:Int):Bool:=decide (lo≤n)&&decide (n≤hi)
def F3_v (f:Int→Int→Int→Value):List SV→Option SV
 | [.v (.int .i64 a),.v (.int .i64 b),.v (.int .i64 c)]=>some (.v (f a b c))
 |_=>none
abbrev F3 (f:Int→Int→Int→Value):Mem→List SV→Option (List Nat×SV):=yB (F3_v f)
theorem PureV.of3 {g:FuncId}{f:Int→Int→Int→Value}(he:zU Try.prog g)(h :∀a b c w,Calls Try.prog g #[.int .i64 a,.int .i64 b,.int .i64 c] w fun e w'=>e = .returned (f a b c)∧Ext w w'):PureV Try.prog g (F3_v f) where
 ent:=he
 sc S args v hv _:=by
  unfold F3_v at hv
  split at hv
  ·obtain rfl:=Option.some.inj hv;trivial
  ·cases hv
 run ρ args v w hv:=by
  unfold F3_v at hv
  split at hv
  ·obtain rfl:=Option.some.inj hv;exact h _ _ _ w
  ·cases hv
theorem Pure.of3 {g:FuncId}{f:Int→Int→Int→Value}(he:zU Try.prog g)(h :∀a b c w,Calls Try.prog g #[.int .i64 a,.int .i64 b,.int .i64 c] w fun e w'=>e = .returned (f a b c)∧Ext w w'):Pure Try.prog g (F3 f):=(PureV.of3 he h).lift
theorem within_run (n lo hi:Int)(w:World):Calls Try.prog 97 #[.int .i64 n,.int .i64 lo,.int .i64 hi] w fun e w'=>e = .returned (.bool (wi n lo hi))∧Ext w w':=by
 refine Run.s9 (tab:=tab) (pf:=[]) (cuts:=[]) mixed qI trivial Try.func97 rfl [.v (.int .i64 n),.v (.int .i64 lo),.v (.int .i64 hi)] 100 ⟨trivial,trivial,trivial,trivial⟩ rfl ?_
 conv=>whnf
 cases h:decide (lo≤n)
 all_goals
  conv=>whnf
  exact⟨fun ρ w' hW _=>⟨by simp[SV.conc,wi,h],hW.toExt⟩⟩
theorem within_pure:Pure Try.prog 97 (F3 fun n lo hi=>.bool (wi n lo hi)):=Pure.of3 (ent _ _ Try.func97 (by kernel_rfl) rfl) within_run
theorem bounded_run (n lo hi:Int)(w:World):Calls Try.prog 112 #[.int .i64 n,.int .i64 lo,.int .i64 hi] w fun e w'=>e = .returned (.int .i64 (max lo (min hi n)))∧Ext w w':=by
 refine Run.s9 (tab:=tab) (pf:=[]) (cuts:=[]) mixed qI trivial Try.func112 rfl [.v (.int .i64 n),.v (.int .i64 lo),.v (.int .i64 hi)] 100 ⟨trivial,trivial,trivial,trivial⟩ rfl ?_
 conv=>whnf
 exact⟨fun ρ w' hW _=>⟨rfl,hW.toExt⟩⟩
theorem bounded_pure:Pure Try.prog 112 (F3 fun n lo hi=>.int .i64 (max lo (min hi n))):=Pure.of3 (ent _ _ Try.func112 (by kernel_rfl) rfl) bounded_run
structure Prm where
 lk:Int
 leak:Int
 bias:Int
 thr:Int
 rk:Int
 reset:Int
 floor:Int
 rest:Int
abbrev ii (n:Int):SV:=.v (.int .i64 n)
def Prm.cells (p:Prm):List SV:=[ii p.lk,ii p.leak,ii p.bias,ii p.thr,ii p.rk,ii p.reset,ii p.floor,ii p.rest]
def Prm.sv (p:Prm):SV:=.agg p.cells
def prmOf:List SV→Option Prm
 | [.v (.int .i64 a),.v (.int .i64 b),.v (.int .i64 c),.v (.int .i64 d),.v (.int .i64 e),.v (.int .i64 f),.v (.int .i64 g),.v (.int .i64 h)]=>some ⟨a,b,c,d,e,f,g,h⟩
 |_=>none
theorem prmOf_eq {l:List SV}{p:Prm}(h:prmOf l=some p):l=p.cells:=by
 unfold prmOf at h
 split at h
 ·obtain rfl:=Option.some.inj h;rfl
 ·cases h
def lfun (k:Int):Value:=if k=0 then .func (.func 108) #[] #[]else if k=1 then .func (.func 109) #[] #[]else .func (.func 110) #[] #[]
def vG:List SV→Option SV
 | [.v (.int .i64 k)]=>match k==0 with
  |true=>some (.tup [.agg [ii 0,.v (.func (.func 108) #[] #[])],.v (.bool true)])
  |false=>match k==1 with
   |true=>some (.tup [.agg [ii 1048576,.v (.func (.func 109) #[] #[])],.v (.bool true)])
   |false=>match k==2 with
    |true=>some (.tup [.agg [ii 256,.v (.func (.func 110) #[] #[])],.v (.bool true)])
    |false=>some (.tup [.agg [ii 0,.v .nilFunc],.v (.bool false)])
 |_=>none
abbrev Fleaks:Mem→List SV→Option (List Nat×SV):=yB (vG)
theorem leaks_run (ρ:Env)(k:Int)(w:World)(v:SV)(hv:vG [ii k]=some v):Calls Try.prog 96 #[.int .i64 k] w fun e w'=>e = .returned (v.conc ρ)∧Ext w w':=by
 refine Run.s9 (tab:=tab) (pf:=[]) (cuts:=[]) mixed qI trivial Try.func96 rfl [ii k] 200 ⟨trivial,trivial⟩ rfl ?_
 simp only[vG,ii]at hv
 conv=>whnf
 cases h0:k==0
 ·conv=>whnf
  cases h1:k==1
  ·conv=>whnf
   cases h2:k==2
   ·conv=>whnf
    simp only[h0,h1,h2,Option.some.injEq]at hv
    subst hv
    exact⟨fun ρ w' hW _=>⟨rfl,hW.toExt⟩⟩
   ·conv=>whnf
    simp only[h0,h1,h2,Option.some.injEq]at hv
    subst hv
    exact⟨fun ρ w' hW _=>⟨rfl,hW.toExt⟩⟩
  ·conv=>whnf
   simp only[h0,h1,Option.some.injEq]at hv
   subst hv
   exact⟨fun ρ w' hW _=>⟨rfl,hW.toExt⟩⟩
 ·conv=>whnf
  simp only[h0,Option.some.injEq]at hv
  subst hv
  exact⟨fun ρ w' hW _=>⟨rfl,hW.toExt⟩⟩
theorem leaks_pure_v:PureV Try.prog 96 vG where
 ent:=ent _ _ Try.func96 (by kernel_rfl) rfl
 sc S args v hv _:=by
  unfold vG at hv
  split at hv
  ·repeat' (split at hv)
   all_goals (obtain rfl:=Option.some.inj hv;simp[SV.sc,SV.scs])
  ·cases hv
 run ρ args v w hv:=by
  have hv':=hv
  unfold vG at hv'
  split at hv'
  ·exact leaks_run ρ _ w v hv
  ·cases hv'
theorem leaks_pure:Pure Try.prog 96 Fleaks:=(leaks_pure_v).lift
def W (n:Int):Int:=IntKind.i64.wrap n
def leakW (k l v:Int):Int:=if k=0 then v else if k=1 then(if v<0 then min 0 (W (v+l))else max 0 (W (v-l)))else W (v-W ((W (v*l)).tdiv 256))
def FPI_v (f:Prm→Int→Value):List SV→Option SV
 | [x,.v (.int .i64 v)]=>match prmOf x.cells with
  |some p=>some (.v (f p v))
  |none=>none
 |_=>none
abbrev FPI (f:Prm→Int→Value):Mem→List SV→Option (List Nat×SV):=yB (FPI_v f)
theorem gT {x:SV}{p:Prm}(ρ:Env)(h:prmOf x.cells=some p):x.conc ρ = .agg (SV.concs ρ p.cells).toArray:=by
 have:=prmOf_eq h
 cases x with
 |agg cs=>simp only[SV.cells]at this;subst this;rfl
 |v y=>
  cases y with
  |agg cs=>
   simp only[SV.cells]at this
   have h2:=congrArg (SV.concs ρ) this
   rw[zN]at h2
   simp only[SV.conc,←h2,Array.toArray_toList]
  |_=>simp[SV.cells,Prm.cells]at this
 |_=>simp[SV.cells,Prm.cells]at this
theorem leak1_run (p:Prm)(v:Int)(w:World):Calls Try.prog 108 #[p.sv.conc zP,.int .i64 v] w fun e w'=>e = .returned (.int .i64 v)∧Ext w w':=by
 refine Run.s9 (tab:=tab) (pf:=[]) (cuts:=[]) mixed qI trivial Try.func108 rfl [p.sv,ii v] 200 (by simp[SV.scs,SV.sc,Prm.sv,Prm.cells]) rfl ?_
 conv=>whnf
 exact⟨fun ρ w' hW _=>⟨rfl,hW.toExt⟩⟩
theorem leak2_run (p:Prm)(v:Int)(w:World):Calls Try.prog 109 #[p.sv.conc zP,.int .i64 v] w fun e w'=>e = .returned (.int .i64 (if v<0 then min 0 (W (v+p.leak))else max 0 (W (v-p.leak))))∧Ext w w':=by
 refine Run.s9 (tab:=tab) (pf:=[]) (cuts:=[]) mixed qI trivial Try.func109 rfl [p.sv,ii v] 200 (by simp[SV.scs,SV.sc,Prm.sv,Prm.cells]) rfl ?_
 conv=>whnf
 cases h:decide (v<0)
 ·conv=>whnf
  have :¬v<0:=of_decide_eq_false h
  exact⟨fun ρ w' hW _=>⟨by rw[if_neg this];rfl,hW.toExt⟩⟩
 ·conv=>whnf
  have:v<0:=of_decide_eq_true h
  exact⟨fun ρ w' hW _=>⟨by rw[if_pos this];rfl,hW.toExt⟩⟩
theorem leak3_run (p:Prm)(v:Int)(w:World):Calls Try.prog 110 #[p.sv.conc zP,.int .i64 v] w fun e w'=>e = .returned (.int .i64 (W (v-W ((W (v*p.leak)).tdiv 256))))∧Ext w w':=by
 refine Run.s9 (tab:=tab) (pf:=[]) (cuts:=[]) mixed qI trivial Try.func110 rfl [p.sv,ii v] 200 (by simp[SV.scs,SV.sc,Prm.sv,Prm.cells]) rfl ?_
 conv=>whnf
 refine⟨by decide,?_⟩
 conv=>whnf
 exact⟨fun ρ w' hW _=>⟨rfl,hW.toExt⟩⟩
theorem PureV.ofPI {g:FuncId}{f:Prm→Int→Value}(he:zU Try.prog g)(h :∀(p:Prm) v w,Calls Try.prog g #[p.sv.conc zP,.int .i64 v] w fun e w'=>e = .returned (f p v)∧Ext w w'):PureV Try.prog g (FPI_v f) where
 ent:=he
 sc S args v hv _:=by
  unfold FPI_v at hv
  split at hv
  ·split at hv
   ·obtain rfl:=Option.some.inj hv;trivial
   ·cases hv
  ·cases hv
 run ρ args v w hv:=by
  unfold FPI_v at hv
  split at hv
  ·split at hv
   ·rename_i x n _ p hp
    obtain rfl:=Option.some.inj hv
    have:=h p n w
    simp only[SV.concs,gT ρ hp]
    exact this
   ·cases hv
  ·cases hv
theorem Pure.ofPI {g:FuncId}{f:Prm→Int→Value}(he:zU Try.prog g)(h :∀(p:Prm) v w,Calls Try.prog g #[p.sv.conc zP,.int .i64 v] w fun e w'=>e = .returned (f p v)∧Ext w w'):Pure Try.prog g (FPI f):=(PureV.ofPI he h).lift
theorem leak1_pure:Pure Try.prog 108 (FPI fun _ v=>.int .i64 v):=Pure.ofPI (ent _ _ Try.func108 (by kernel_rfl) rfl) leak1_run
theorem leak2_pure:Pure Try.prog 109 (FPI fun p v=>.int .i64 (if v<0 then min 0 (W (v+p.leak))else max 0 (W (v-p.leak)))):=Pure.ofPI (ent _ _ Try.func109 (by kernel_rfl) rfl) leak2_run
theorem leak3_pure:Pure Try.prog 110 (FPI fun p v=>.int .i64 (W (v-W ((W (v*p.leak)).tdiv 256)))):=Pure.ofPI (ent _ _ Try.func110 (by kernel_rfl) rfl) leak3_run
def most (k:Int):Int:=if k=0 then 0 else if k=1 then 1048576 else 256
def chk (p:Prm):Int:=
 if !(p.lk==0||p.lk==1||p.lk==2) || !wi p.rk 0 1 then 2
 else if !wi p.leak (min 1 (most p.lk)) (most p.lk) || !wi p.bias (-1048576) 1048576 || !wi p.floor (-1048576) 0 || !wi p.thr 1 1048576 || !wi p.rest 0 64 ||
  !wi p.reset (if p.rk==1 then 0 else p.floor) (if p.rk==1 then 0 else W (p.thr-1))then 3 else 0
abbrev pf1:PF:=[(97,F3 fun n lo hi=>.bool (wi n lo hi)),(112,F3 fun n lo hi=>.int .i64 (max lo (min hi n))),(96,Fleaks)]
theorem pf1_ok:PF.oks Try.prog pf1:=⟨within_pure,bounded_pure,leaks_pure,trivial⟩
theorem check_known (p:Prm)(hk:p.lk=0∨p.lk=1∨p.lk=2)(w:World):Calls Try.prog 74 #[p.sv.conc zP] w fun e w'=>e = .returned (.int .i64 (chk p))∧Ext w w':=by
 obtain⟨lk,leak,bias,thr,rk,reset,floor,rest⟩:=p
 have fin :∀x:Int,chk ⟨lk,leak,bias,thr,rk,reset,floor,rest⟩=x → ∀{c:Cx} {M:List (Nat×SObj)} {n:Nat},c.w0=w→c.L=[]→RetOk c M n (.v (.int .i64 x)) (fun e w'=>e = .returned (.int .i64 (chk ⟨lk,leak,bias,thr,rk,reset,floor,rest⟩))∧Ext w w'):=
  fun x hx c M n hw hL=>⟨fun ρ w' hW _=>⟨by rw[hx];rfl,by rw[hw,hL]at hW;exact hW.toExt⟩⟩
 rcases hk with hk|hk|hk
 all_goals
  simp only at hk
  subst hk
  refine Run.s9 (tab:=tab) (pf:=pf1) (cuts:=cuts74) mixed qI pf1_ok Try.func74 rfl [.agg [ii _,ii leak,ii bias,ii thr,ii rk,ii reset,ii floor,ii rest]] 1000 (by simp[SV.scs,SV.sc]) rfl ?_
  conv=>whnf
  cases h0:wi rk 0 1
  ·conv=>whnf
   exact fin 2 (by simp[chk,h0]) rfl rfl
  ·conv=>whnf
   refine⟨by kernel_rfl,?_⟩
   conv=>whnf
   cases h1:rk==1
   all_goals
    conv=>whnf
    iterate 6
     all_goals try (split<;>(rename_i h;(try simp only[h]);conv=>whnf))
    all_goals first
     |exact fin 3 (by simp only[chk,most,h0,h1];clear h0 h1;simp[W, *]) rfl rfl
     |exact fin 0 (by simp only[chk,most,h0,h1];clear h0 h1;simp[W, *]) rfl rfl
theorem check_other (p:Prm)(h0:(p.lk==0)=false)(h1:(p.lk==1)=false)(h2:(p.lk==2)=false)(w:World):Calls Try.prog 74 #[p.sv.conc zP] w fun e w'=>e = .returned (.int .i64 (chk p))∧Ext w w':=by
 obtain⟨lk,leak,bias,thr,rk,reset,floor,rest⟩:=p
 simp only at h0 h1 h2
 refine Run.s9 (tab:=tab) (pf:=[]) (cuts:=cuts74) mixed qI trivial Try.func74 rfl [.agg [ii lk,ii leak,ii bias,ii thr,ii rk,ii reset,ii floor,ii rest]] 1000 (by simp[SV.scs,SV.sc]) rfl ?_
 conv=>whnf
 refine Run.rB (vs:=[ii lk]) (caps:=[]) (.tup [.agg [ii 0,.v .nilFunc],.v (.bool false)]) (fun ρ w _=>leaks_run ρ lk w _ ?_) leaks_pure.ent rfl rfl rfl rfl rfl rfl rfl (by simp[SV.sc,SV.scs]) ?_
 ·simp[vG,h0,h1,h2]
 ·refine Run.s0 ⟨qI,(show PF.oks Try.prog []from trivial),Try.func74,mixed,fun _ h=>by cases h⟩ 1000 _ ?_
  conv=>whnf
  exact⟨fun ρ w' hW _=>⟨by simp[chk,h0,h1,h2,SV.conc],hW.toExt⟩⟩
theorem check_run (p:Prm)(w:World):Calls Try.prog 74 #[p.sv.conc zP] w fun e w'=>e = .returned (.int .i64 (chk p))∧Ext w w':=by
 by_cases h:p.lk=0∨p.lk=1∨p.lk=2
 ·exact check_known p h w
 ·exact check_other p (by simp;omega) (by simp;omega) (by simp;omega) w
def FP_v (f:Prm→Value):List SV→Option SV
 | [x]=>match prmOf x.cells with
  |some p=>some (.v (f p))
  |none=>none
 |_=>none
abbrev FP (f:Prm→Value):Mem→List SV→Option (List Nat×SV):=yB (FP_v f)
theorem PureV.ofP {g:FuncId}{f:Prm→Value}(he:zU Try.prog g)(h :∀(p:Prm) w,Calls Try.prog g #[p.sv.conc zP] w fun e w'=>e = .returned (f p)∧Ext w w'):PureV Try.prog g (FP_v f) where
 ent:=he
 sc S args v hv _:=by
  unfold FP_v at hv
  split at hv
  ·split at hv
   ·obtain rfl:=Option.some.inj hv;trivial
   ·cases hv
  ·cases hv
 run ρ args v w hv:=by
  unfold FP_v at hv
  split at hv
  ·split at hv
   ·rename_i x _ p hp
    obtain rfl:=Option.some.inj hv
    have:=h p w
    simp only[SV.concs,gT ρ hp]
    exact this
   ·cases hv
  ·cases hv
theorem Pure.ofP {g:FuncId}{f:Prm→Value}(he:zU Try.prog g)(h :∀(p:Prm) w,Calls Try.prog g #[p.sv.conc zP] w fun e w'=>e = .returned (f p)∧Ext w w'):Pure Try.prog g (FP f):=(PureV.ofP he h).lift
theorem check_pure:Pure Try.prog 74 (FP fun p=>.int .i64 (chk p)):=Pure.ofP (ent _ _ Try.func74 (by kernel_rfl) rfl) check_run
structure Ste where
 v:Int
 rest:Int
def Ste.cells (s:Ste):List SV:=[ii s.v,ii s.rest]
def Ste.sv (s:Ste):SV:=.agg s.cells
def steOf:List SV→Option Ste
 | [.v (.int .i64 a),.v (.int .i64 b)]=>some ⟨a,b⟩
 |_=>none
theorem steOf_eq {l:List SV}{s:Ste}(h:steOf l=some s):l=s.cells:=by
 unfold steOf at h
 split at h
 ·obtain rfl:=Option.some.inj h;rfl
 ·cases h
theorem ste_conc {x:SV}{s:Ste}(ρ:Env)(h:steOf x.cells=some s):x.conc ρ = .agg (SV.concs ρ s.cells).toArray:=by
 have:=steOf_eq h
 cases x with
 |agg cs=>simp only[SV.cells]at this;subst this;rfl
 |v y=>
  cases y with
  |agg cs=>
   simp only[SV.cells]at this
   have h2:=congrArg (SV.concs ρ) this
   rw[zN]at h2
   simp only[SV.conc,←h2,Array.toArray_toList]
  |_=>simp[SV.cells,Ste.cells]at this
 |_=>simp[SV.cells,Ste.cells]at this
def vld (p:Prm)(s:Ste):Int:=if chk p != 0 then chk p else if !wi s.v p.floor 1048576 || !wi s.rest 0 p.rest then 3 else 0
abbrev pf2:PF:=(74,FP fun p=>.int .i64 (chk p))::pf1
theorem pf2_ok:PF.oks Try.prog pf2:=⟨check_pure,pf1_ok⟩
theorem valid_run (p:Prm)(s:Ste)(w:World):Calls Try.prog 111 #[p.sv.conc zP,s.sv.conc zP] w fun e w'=>e = .returned (.int .i64 (vld p s))∧Ext w w':=by
 obtain⟨lk,leak,bias,thr,rk,reset,floor,rest⟩:=p
 obtain⟨sv,sr⟩:=s
 refine Run.s9 (tab:=tab) (pf:=pf2) (cuts:=[]) mixed qI pf2_ok Try.func111 rfl [.agg [ii lk,ii leak,ii bias,ii thr,ii rk,ii reset,ii floor,ii rest],.agg [ii sv,ii sr]] 1000 (by simp[SV.scs,SV.sc]) rfl ?_
 conv=>whnf
 cases hc:chk ⟨lk,leak,bias,thr,rk,reset,floor,rest⟩ != 0
 ·conv=>whnf
  cases h1:wi sv floor 1048576
  ·conv=>whnf
   exact⟨fun ρ w' hW _=>⟨by simp only[vld,hc,h1];rfl,hW.toExt⟩⟩
  ·conv=>whnf
   cases h2:wi sr 0 rest
   all_goals
    conv=>whnf
    exact⟨fun ρ w' hW _=>⟨by simp only[vld,hc,h1,h2];rfl,hW.toExt⟩⟩
 ·conv=>whnf
  exact⟨fun ρ w' hW _=>⟨by simp only[vld,hc];rfl,hW.toExt⟩⟩
def FPS_v (f:Prm→Ste→Value):List SV→Option SV
 | [x,y]=>match prmOf x.cells with
  |some p=>match steOf y.cells with
   |some s=>some (.v (f p s))
   |none=>none
  |none=>none
 |_=>none
abbrev FPS (f:Prm→Ste→Value):Mem→List SV→Option (List Nat×SV):=yB (FPS_v f)
theorem PureV.ofPS {g:FuncId}{f:Prm→Ste→Value}(he:zU Try.prog g)(h :∀(p:Prm) (s:Ste) w,Calls Try.prog g #[p.sv.conc zP,s.sv.conc zP] w fun e w'=>e = .returned (f p s)∧Ext w w'):PureV Try.prog g (FPS_v f) where
 ent:=he
 sc S args v hv _:=by
  unfold FPS_v at hv
  split at hv
  ·split at hv
   ·split at hv
    ·obtain rfl:=Option.some.inj hv;trivial
    ·cases hv
   ·cases hv
  ·cases hv
 run ρ args v w hv:=by
  unfold FPS_v at hv
  split at hv
  ·split at hv
   ·rename_i x y _ p hp
    split at hv
    ·rename_i s hs
     obtain rfl:=Option.some.inj hv
     have:=h p s w
     simp only[SV.concs,gT ρ hp,ste_conc ρ hs]
     exact this
    ·cases hv
   ·cases hv
  ·cases hv
theorem Pure.ofPS {g:FuncId}{f:Prm→Ste→Value}(he:zU Try.prog g)(h :∀(p:Prm) (s:Ste) w,Calls Try.prog g #[p.sv.conc zP,s.sv.conc zP] w fun e w'=>e = .returned (f p s)∧Ext w w'):Pure Try.prog g (FPS f):=(PureV.ofPS he h).lift
theorem valid_pure:Pure Try.prog 111 (FPS fun p s=>.int .i64 (vld p s)):=Pure.ofPS (ent _ _ Try.func111 (by kernel_rfl) rfl) valid_run
abbrev pf3:PF:=(111,FPS fun p s=>.int .i64 (vld p s))::pf2
theorem pf3_ok:PF.oks Try.prog pf3:=⟨valid_pure,pf2_ok⟩
theorem tG {p:Prm}(h:chk p=0):p.lk=0∨p.lk=1∨p.lk=2:=by
 unfold chk at h
 split at h
 ·cases h
 ·rename_i hn
  simp at hn
  omega
theorem vld_zero {p:Prm}{s:Ste}(h:vld p s=0):chk p=0∧wi s.v p.floor 1048576=true∧wi s.rest 0 p.rest=true:=by
 unfold vld at h
 split at h
 ·rename_i hn;simp[h]at hn
 ·rename_i hn
  split at h
  ·cases h
  ·rename_i h2;simp at hn h2;exact⟨hn,h2⟩
def x3 (p:Prm)(s:Ste):List SV:=p.cells++s.cells++[.v (lfun p.lk)]
def CellAt (b:Nat)(p:Prm)(s:Ste)(w:World):Prop:=w.heap[b]? = some (.cells (SV.concs zP (x3 p s)).toArray 188 (0,0))
theorem newCell_bad (p:Prm)(s:Ste)(h:vld p s≠0)(w:World):Calls Try.prog 101 #[p.sv.conc zP,s.sv.conc zP] w fun e w'=>e = .returned (.tuple #[.pointer none,.int .i64 (vld p s)])∧Ext w w':=by
 obtain⟨lk,leak,bias,thr,rk,reset,floor,rest⟩:=p
 obtain⟨sv,sr⟩:=s
 refine Run.s9 (tab:=tab) (pf:=pf3) (cuts:=[]) mixed qI pf3_ok Try.func101 rfl [.agg [ii lk,ii leak,ii bias,ii thr,ii rk,ii reset,ii floor,ii rest],.agg [ii sv,ii sr]] 1000 (by simp[SV.scs,SV.sc]) rfl ?_
 conv=>whnf
 cases hc:vld ⟨lk,leak,bias,thr,rk,reset,floor,rest⟩ ⟨sv,sr⟩ != 0
 ·exact absurd (by simpa using hc) h
 ·conv=>whnf
  exact⟨fun ρ w' hW _=>⟨rfl,hW.toExt⟩⟩
theorem newCell_ok (p:Prm)(s:Ste)(h:vld p s=0)(w:World):Calls Try.prog 101 #[p.sv.conc zP,s.sv.conc zP] w fun e w'=>
  ∃b,e = .returned (.tuple #[.pointer (some ⟨b,0,none⟩),.int .i64 0])∧Ext w w'∧w.heap.size≤b∧CellAt b p s w':=by
 have hk:=tG (vld_zero h).1
 obtain⟨lk,leak,bias,thr,rk,reset,floor,rest⟩:=p
 obtain⟨sv,sr⟩:=s
 rcases hk with hk|hk|hk
 all_goals
  simp only at hk
  subst hk
  refine Run.s9 (tab:=tab) (pf:=pf3) (cuts:=[]) mixed qI pf3_ok Try.func101 rfl [.agg [ii _,ii leak,ii bias,ii thr,ii rk,ii reset,ii floor,ii rest],.agg [ii sv,ii sr]] 1000 (by simp[SV.scs,SV.sc]) rfl ?_
  conv=>whnf
  split
  ·rename_i hc;exfalso;rw[h]at hc;cases hc
  ·conv=>whnf
   refine⟨fun ρ w' hW _=> ?_⟩
   obtain⟨_,_,ho,hh⟩:=hW.mem 3 _ rfl
   have hn:=hW.new 3 _ rfl trivial
   refine⟨ρ.s 3,?_,hW.toExt,?_,hh⟩
   ·show Ending.returned (.tuple #[.pointer (some ⟨ρ.s 3,ρ.o 3+0,none⟩),.int .i64 0])=_
    rw[ho]
   ·rcases hn with⟨q,hq,_⟩|hn
    ·cases hq
    ·exact hn
def vF (p:Prm)(s:Ste)(x:Int):Int:=max p.floor (min 1048576 (W (W (leakW p.lk p.leak s.v+p.bias)+max (-4194304) (min 4194304 x))))
def jR (p:Prm)(s:Ste)(x:Int):Ste:=
 if 0<s.rest then⟨s.v,W (s.rest-1)⟩
 else if vF p s x<p.thr then⟨vF p s x,s.rest⟩
 else if p.rk=1 then⟨W (vF p s x-p.thr),p.rest⟩else⟨p.reset,p.rest⟩
def yO (p:Prm)(s:Ste)(x:Int):Bool:=if 0<s.rest then false else if vF p s x<p.thr then false else true
def envB (b:Nat):Env:=⟨fun _=>b,fun _=>0,fun _=>(none,0,0)⟩
abbrev pf4:PF:=(108,FPI fun _ v=>.int .i64 v)::(109,FPI fun p v=>.int .i64 (if v<0 then min 0 (W (v+p.leak))else max 0 (W (v-p.leak)))) ::
 (110,FPI fun p v=>.int .i64 (W (v-W ((W (v*p.leak)).tdiv 256))))::pf3
theorem pf4_ok:PF.oks Try.prog pf4:=⟨leak1_pure,leak2_pure,leak3_pure,pf3_ok⟩
theorem tick_run (p:Prm)(s:Ste)(x:Int)(hk:p.lk=0∨p.lk=1∨p.lk=2)(b:Nat)(w:World)(hb:CellAt b p s w):Calls Try.prog 102 #[.pointer (some ⟨b,0,none⟩),.int .i64 x] w fun e w'=>
  e = .returned (.bool (yO p s x))∧Mod w b w'∧CellAt b p (jR p s x) w':=by
 obtain⟨lk,leak,bias,thr,rk,reset,floor,rest⟩:=p
 obtain⟨sv,sr⟩:=s
 have hW0:=WI.startL (w:=w) (i:=0) (b:=b) (n:=1) (ρ:=envB b) (o:=.cells (x3 ⟨lk,leak,bias,thr,rk,reset,floor,rest⟩ ⟨sv,sr⟩) 188) (by omega) rfl (by simp[SObj.sc,x3,Prm.cells,Ste.cells,SV.scs,SV.sc]) ⟨rfl,hb⟩
 have fin :∀{c:Cx} {M:List (Nat×SObj)} {n:Nat} {v r:Int} {bb:Bool},c.w0=w→c.L=[(0,b)]→Sx.look M 0=some (.cells (x3 ⟨lk,leak,bias,thr,rk,reset,floor,rest⟩ ⟨v,r⟩) 188) →
   jR ⟨lk,leak,bias,thr,rk,reset,floor,rest⟩ ⟨sv,sr⟩ x=⟨v,r⟩→yO ⟨lk,leak,bias,thr,rk,reset,floor,rest⟩ ⟨sv,sr⟩ x=bb →
   RetOk c M n (.v (.bool bb)) (fun e w'=>e = .returned (.bool (yO ⟨lk,leak,bias,thr,rk,reset,floor,rest⟩ ⟨sv,sr⟩ x))∧Sx.Mod w b w'∧CellAt b ⟨lk,leak,bias,thr,rk,reset,floor,rest⟩ (jR ⟨lk,leak,bias,thr,rk,reset,floor,rest⟩ ⟨sv,sr⟩ x) w'):=by
  intro c M n v r bb hw hL hM h1 h2
  refine⟨fun ρ w' hW _=> ?_⟩
  rw[hw,hL]at hW
  have hs:ρ.s 0=b:=(hW.lid (0,b) (by simp)).2
  have hh:=(hW.mem 0 _ hM).2.2.2
  rw[hs]at hh
  exact⟨by rw[h2];rfl,hW.toMod,by rw[h1];exact hh⟩
 rcases hk with hk|hk|hk
 all_goals
  simp only at hk
  subst hk
  refine Run.calls (tab:=tab) (pf:=pf4) (cuts:=cuts102) Try.func102 rfl (envB b) [.ptr 0 0,ii x] _ 1 (by simp[SV.scs,SV.sc]) rfl hW0 (Run.s0 ⟨qI,pf4_ok,Try.func102,mixed,fun _ h=>by cases h⟩ 2000 _ ?_)
  conv=>whnf
  split
  ·rename_i h0
   conv=>whnf
   have h0:=of_decide_eq_true h0
   exact fin rfl rfl rfl (by simp only[jR];rw[if_pos h0]) (by simp only[yO];rw[if_pos h0])
  ·rename_i h0
   conv=>whnf
   have h0:=of_decide_eq_false h0
   refine⟨by kernel_rfl,?_⟩
   conv=>whnf
   split
   ·rename_i h1
    have h1:=of_decide_eq_true h1
    simp only[W]at h1
    conv=>whnf
    exact fin rfl rfl rfl (by simp only[jR,vF,leakW,W,Int.reduceEq,↓reduceIte];rw[if_neg h0,if_pos h1]) (by simp only[yO,vF,leakW,W,Int.reduceEq,↓reduceIte];rw[if_neg h0,if_pos h1])
   ·rename_i h1
    have h1:=of_decide_eq_false h1
    simp only[W]at h1
    conv=>whnf
    refine⟨by kernel_rfl,?_⟩
    conv=>whnf
    split
    ·rename_i h2
     have h2:rk=1:=by simpa using h2
     conv=>whnf
     exact fin rfl rfl rfl (by simp only[jR,vF,leakW,W,Int.reduceEq,↓reduceIte];rw[if_neg h0,if_neg h1,if_pos h2];rfl) (by simp only[yO,vF,leakW,W,Int.reduceEq,↓reduceIte];rw[if_neg h0,if_neg h1])
    ·rename_i h2
     have h2 :¬rk=1:=by simpa using h2
     conv=>whnf
     exact fin rfl rfl rfl (by simp only[jR,vF,leakW,W,Int.reduceEq,↓reduceIte];rw[if_neg h0,if_neg h1,if_neg h2]) (by simp only[yO,vF,leakW,W,Int.reduceEq,↓reduceIte];rw[if_neg h0,if_neg h1])
section
variable {c:Cx} {T:List (Nat×SV)} {M:List (Nat×SObj)} {n:Nat} {D:List Deferred} {ops:Array Oper} {i:Nat} {r:List Nat} {k:List Item} {R:Ending→World→Prop} {o:Oper} {f:Operand} {args:Array Operand} {ts:Array TypeId} {fv:SV}
theorem Run.newCell (p:Prm)(s:Ste)(hv:vld p s=0)(hP:c.P=Try.prog)(ho:get ops.toList i=some o)(hop:o.op = .call { callee:=.value f,args:=args,argTypes:=ts })(hw:zQ ops.toList (Sx.look T) o=some true)(hd:okD c.fn.ntmps o.dst=true)
  (hf:ev (Sx.look T) f=some fv) (hfv:zW fv=some (101,[])) (hvs:evs (Sx.look T) args.toList=some [p.sv,s.sv])
  (h:Run c ⟨z5 T o.dst (.tup [.ptr n 0,ii 0]),(n,.cells (x3 p s) 188)::M,n+1,D,.inRegion ops r::k⟩ R):Run c ⟨T,M,n,D,.inRegion ops (i::r)::k⟩ R:=by
 refine Run.rN ho hop hw hd hf hfv hvs (by rw[hP];exact ent _ _ Try.func101 (by kernel_rfl) rfl) (fun v M' n'=>v = .tup [.ptr n 0,ii 0]∧M'=(n,.cells (x3 p s) 188)::M∧n'=n+1) (fun ρ w _ hW=> ?_) (fun v M' n' hp=> ?_)
 ·rw[hP]
  refine(newCell_ok p s hv w).mono fun e w' ⟨b,he,hx,hb,hc⟩=> ?_
  obtain⟨h1,h2⟩:=hW.adopt hx (i:=n) (b:=b) (o:=.cells (x3 p s) 188) (Nat.lt_irrefl n) hb (by simp[SObj.sc,x3,Prm.cells,Ste.cells,SV.scs,SV.sc]) (fun ρ' _ hs h0=>⟨h0,by rw[hs];exact hc⟩)
  refine⟨_,_,_,_,?_,h2,Nat.le_succ n,?_,?_,rfl,rfl,rfl⟩
  ·rw[he]
   simp[SV.conc,SV.concs,Env.bind]
  ·exact⟨Nat.lt_succ_self n,trivial,trivial⟩
  ·rw[qX]
   exact h1.mono fun j hj=>by omega
 ·obtain⟨rfl,rfl,rfl⟩:=hp;exact h
theorem Run.newCell_bad (p:Prm)(s:Ste)(hv:vld p s≠0)(hP:c.P=Try.prog)(ho:get ops.toList i=some o)(hop:o.op = .call { callee:=.value f,args:=args,argTypes:=ts })(hw:zQ ops.toList (Sx.look T) o=some true)(hd:okD c.fn.ntmps o.dst=true)
  (hf:ev (Sx.look T) f=some fv) (hfv:zW fv=some (101,[])) (hvs:evs (Sx.look T) args.toList=some [p.sv,s.sv])
  (h:Run c ⟨z5 T o.dst (.tup [.v (.pointer none),ii (vld p s)]),M,n,D,.inRegion ops r::k⟩ R):Run c ⟨T,M,n,D,.inRegion ops (i::r)::k⟩ R:=by
 refine Run.rB (.tup [.v (.pointer none),ii (vld p s)]) (fun ρ w _=> ?_) (by rw[hP];exact ent _ _ Try.func101 (by kernel_rfl) rfl) ho hop hw hd hf hfv hvs ⟨trivial,trivial,trivial⟩ h
 rw[hP]
 exact Go.Proofs.Ytnnlpdgnlccbjaa.newCell_bad p s hv w
theorem Run.tick (p:Prm)(s:Ste)(x:Int)(j:Nat)(hk:p.lk=0∨p.lk=1∨p.lk=2)(hj:Sx.look M j=some (.cells (x3 p s) 188))(hP:c.P=Try.prog)(ho:get ops.toList i=some o)(hop:o.op = .call { callee:=.value f,args:=args,argTypes:=ts })(hw:zQ ops.toList (Sx.look T) o=some true)(hd:okD c.fn.ntmps o.dst=true)
  (hf:ev (Sx.look T) f=some fv) (hfv:zW fv=some (102,[])) (hvs:evs (Sx.look T) args.toList=some [.ptr j 0,ii x])
  (h:Run c ⟨z5 T o.dst (.v (.bool (yO p s x))),(j,.cells (x3 p (jR p s x)) 188)::M,n,D,.inRegion ops r::k⟩ R):Run c ⟨T,M,n,D,.inRegion ops (i::r)::k⟩ R:=by
 refine Run.rN ho hop hw hd hf hfv hvs (by rw[hP];exact ent _ _ Try.func102 (by kernel_rfl) rfl) (fun v M' n'=>v = .v (.bool (yO p s x))∧M'=(j,.cells (x3 p (jR p s x)) 188)::M∧n'=n) (fun ρ w _ hW=> ?_) (fun v M' n' hp=> ?_)
 ·rw[hP]
  obtain⟨h1,h2,h3,h4⟩:=hW.mem j _ hj
  have:=tick_run p s x hk (ρ.s j) w h4
  have ha:(SV.concs ρ ([.ptr j 0,ii x]++[])).toArray = #[.pointer (some ⟨ρ.s j,0,none⟩),.int .i64 x]:=by simp[SV.concs,SV.conc,h3]
  rw[ha]
  refine this.mono fun e w' ⟨he,hm,hc⟩=>⟨ρ,.v (.bool (yO p s x)),_,_,he,Env.agree.refl _ _,Nat.le_refl _,trivial,?_,rfl,rfl,rfl⟩
  rw[qX]
  exact hW.modify hj trivial hm (by simp[SObj.sc,x3,Prm.cells,Ste.cells,SV.scs,SV.sc]) ⟨h3,hc⟩
 ·obtain⟨rfl,rfl,rfl⟩:=hp;exact h
end
def tickV (p:Prm)(s:Ste)(x:Int):Value:=
 if vld p s=0 then .tuple #[.agg #[.int .i64 (jR p s x).v,.int .i64 (jR p s x).rest],.bool (yO p s x),.int .i64 0]
 else .tuple #[.agg #[.int .i64 0,.int .i64 0],.bool false,.int .i64 (vld p s)]
theorem Tick_run (p:Prm)(s:Ste)(x:Int)(w:World):Calls Try.prog 80 #[p.sv.conc zP,s.sv.conc zP,.int .i64 x] w fun e w'=>e = .returned (tickV p s x)∧Ext w w':=by
 have hc :∀(q:Cx),q=⟨Try.prog,tab,[],80,Try.f80,[],w,[],none⟩→q.ok:=by
  rintro _ rfl
  exact⟨qI,trivial,Try.func80,mixed,fun _ h=>by cases h⟩
 by_cases h:vld p s=0
 ·refine Run.s9 (tab:=tab) (pf:=[]) (cuts:=[]) mixed qI trivial Try.func80 rfl [p.sv,s.sv,ii x] 1000 (by simp[SV.scs,SV.sc,Prm.sv,Prm.cells,Ste.sv,Ste.cells]) rfl ?_
  conv=>whnf
  refine Run.newCell p s h rfl rfl rfl rfl rfl rfl rfl rfl ?_
  refine Run.W1 (hc _ rfl) ?_
  conv=>whnf
  refine Run.tick p s x _ (tG (vld_zero h).1) rfl rfl rfl rfl rfl rfl rfl rfl rfl ?_
  refine Run.W1 (hc _ rfl) ?_
  conv=>whnf
  exact⟨fun ρ w' hW _=>⟨by rw[tickV,if_pos h];rfl,hW.toExt⟩⟩
 ·refine Run.s9 (tab:=tab) (pf:=[]) (cuts:=[]) mixed qI trivial Try.func80 rfl [p.sv,s.sv,ii x] 1000 (by simp[SV.scs,SV.sc,Prm.sv,Prm.cells,Ste.sv,Ste.cells]) rfl ?_
  conv=>whnf
  refine Run.newCell_bad p s h rfl rfl rfl rfl rfl rfl rfl rfl ?_
  refine Run.W1 (hc _ rfl) ?_
  conv=>whnf
  split
  ·rename_i hn
   conv=>whnf
   exact⟨fun ρ w' hW _=>⟨by rw[tickV,if_neg h];rfl,hW.toExt⟩⟩
  ·rename_i hn
   exact absurd (by simpa using hn) h
end Go.Proofs.Ytnnlpdgnlccbjaa
namespace Go.Proofs.Ytnnlpdgnlccbjaa
open Go.Sx
set_option maxRecDepth 100000
theorem W_eq (a:Int):W a=(a+9223372036854775808) % 18446744073709551616-9223372036854775808:=IntKind.wrap_i64 a
theorem W_add (a b:Int):W (W a+b)=W (a+b):=by simp only[W_eq];omega
theorem chk_parts {p:Prm}(h:chk p=0):(p.rk=0∨p.rk=1)∧(p.lk=1→1≤p.leak∧p.leak≤1048576):=by
 have h1 :¬(!(p.lk==0||p.lk==1||p.lk==2) || !wi p.rk 0 1)=true:=fun hc=>by rw[chk,if_pos hc]at h;cases h
 rw[chk,if_neg h1,ite_eq_right_iff]at h
 simp only[Bool.not_eq_true',Bool.or_eq_true,not_or,Bool.not_eq_false]at h1
 refine⟨by simp[wi]at h1;omega,fun hk=> ?_⟩
 cases hl:wi p.leak (min 1 (most p.lk)) (most p.lk)
 ·exact absurd (h (by simp[hl])) (by decide)
 ·rw[hk]at hl
  simp[wi,most]at hl
  omega
structure Good (p:Prm):Prop where
 lk:(p.lk=0∧p.leak=0)∨(p.lk=1∧1≤p.leak∧p.leak≤1048576)∨(p.lk=2∧1≤p.leak∧p.leak≤256)
 bias : -1048576≤p.bias∧p.bias≤1048576
 floor : -1048576≤p.floor∧p.floor≤0
 thr:1≤p.thr∧p.thr≤1048576
 rest:0≤p.rest∧p.rest≤64
 reset:(p.rk=0∧p.floor≤p.reset∧p.reset≤p.thr-1)∨(p.rk=1∧p.reset=0)
theorem zL {a:Int}(h : -9223372036854775808≤a)(h2:a≤9223372036854775807):W a=a:=by rw[W_eq];omega
theorem chk_good {p:Prm}:chk p=0↔Good p:=by
 obtain⟨lk,leak,bias,thr,rk,reset,floor,rest⟩:=p
 constructor
 ·intro h
  have h1:=tG h
  have h2:=(chk_parts h).1
  simp only at h1 h2
  have hthr:wi thr 1 1048576=true:=by
   cases ht:wi thr 1 1048576
   ·exfalso
    unfold chk at h
    simp only[ht]at h
    rcases h1 with rfl|rfl|rfl<;>rcases h2 with rfl|rfl<;>simp[wi]at h
   ·rfl
  have hthr':1≤thr∧thr≤1048576:=by simpa[wi]using hthr
  have hw:W (thr-1)=thr-1:=zL (by omega) (by omega)
  unfold chk at h
  simp only[hthr,hw]at h
  rcases h1 with rfl|rfl|rfl<;>rcases h2 with rfl|rfl<;>simp[wi,most]at h<;>
   exact⟨by simp;omega,by simp only;omega,by simp only;omega,hthr',by simp only;omega,by simp;omega⟩
 ·rintro⟨h1,h2,h3,h4,h5,h6⟩
  simp only at h1 h2 h3 h4 h5 h6
  have hw:W (thr-1)=thr-1:=zL (by omega) (by omega)
  unfold chk
  rcases h1 with⟨rfl,h1⟩|⟨rfl,h1⟩|⟨rfl,h1⟩<;>rcases h6 with⟨rfl,h6⟩|⟨rfl,h6⟩<;>simp[wi,most,hw]<;>omega
theorem vld_good {p:Prm}{s:Ste}:vld p s=0↔Good p∧(p.floor≤s.v∧s.v≤1048576)∧0≤s.rest∧s.rest≤p.rest:=by
 constructor
 ·intro h
  obtain⟨h1,h2,h3⟩:=vld_zero h
  exact⟨chk_good.1 h1,by simpa[wi]using h2,by simpa[wi]using h3⟩
 ·rintro⟨h1,h2,h3⟩
  have h1:=chk_good.2 h1
  simp[vld,h1,wi,h2,h3]
def lkI (k l v:Int):Int:=if k=0 then v else if k=1 then(if v<0 then min 0 (v+l)else max 0 (v-l))else v-(v*l).tdiv 256
theorem mul_bound {v l:Int}(hv : -1048576≤v∧v≤1048576)(hl:0≤l∧l≤1048576) : -1099511627776≤v*l∧v*l≤1099511627776:=by
 constructor
 ·have h1 : -1048576*l≤v*l:=Int.mul_le_mul_of_nonneg_right hv.1 hl.1
  omega
 ·have h1:v*l≤1048576*l:=Int.mul_le_mul_of_nonneg_right hv.2 hl.1
  omega
theorem tdiv_bound {a b:Int} : -(a.natAbs:Int)≤a.tdiv b∧a.tdiv b≤(a.natAbs:Int):=by
 have h1:(a.tdiv b).natAbs≤a.natAbs:=by
  rw[Int.natAbs_tdiv];exact Nat.div_le_self _ _
 omega
theorem leakW_lk {p:Prm}(h:Good p){v:Int}(hv : -1048576≤v∧v≤1048576):leakW p.lk p.leak v=lkI p.lk p.leak v:=by
 unfold leakW lkI
 rcases h.lk with⟨e,hl⟩|⟨e,hl⟩|⟨e,hl⟩
 ·rw[e];rfl
 ·have e1:W (v+p.leak)=v+p.leak:=zL (by omega) (by omega)
  have e2:W (v-p.leak)=v-p.leak:=zL (by omega) (by omega)
  rw[e,e1,e2]
  rfl
 ·have hm:=mul_bound hv ⟨by omega,by omega⟩ (l:=p.leak)
  have ht:=tdiv_bound (a:=v*p.leak) (b:=256)
  have e1:W (v*p.leak)=v*p.leak:=zL (by omega) (by omega)
  have e2:W ((v*p.leak).tdiv 256)=(v*p.leak).tdiv 256:=zL (by omega) (by omega)
  have e3:W (v-(v*p.leak).tdiv 256)=v-(v*p.leak).tdiv 256:=zL (by omega) (by omega)
  have e4:W (v+p.leak)=v+p.leak:=zL (by omega) (by omega)
  have e5:W (v-p.leak)=v-p.leak:=zL (by omega) (by omega)
  rw[e,e1,e2,e3,e4,e5]
theorem lk_bound {p:Prm}(h:Good p){v:Int}(hv : -1048576≤v∧v≤1048576) : -1048576≤lkI p.lk p.leak v∧lkI p.lk p.leak v≤1048576:=by
 unfold lkI
 rcases h.lk with⟨e,hl⟩|⟨e,hl⟩|⟨e,hl⟩
 ·rw[e];simpa using hv
 ·rw[e,if_neg (by decide),if_pos rfl]
  split<;>omega
 ·rw[e,if_neg (by decide),if_neg (by decide)]
  have hm:0≤v→0≤v*p.leak∧v*p.leak≤v*256:=fun h0=>⟨Int.mul_nonneg h0 (by omega),Int.mul_le_mul_of_nonneg_left hl.2 h0⟩
  have hm2:v≤0→v*256≤v*p.leak∧v*p.leak≤0:=fun h0=>⟨by
   have:=Int.mul_le_mul_of_nonneg_left hl.2 (show 0 ≤ -v by omega)
   rw[Int.neg_mul,Int.neg_mul]at this;omega,Int.mul_nonpos_of_nonpos_of_nonneg h0 (by omega)⟩
  generalize v*p.leak=m at hm hm2
  rcases Int.le_total 0 v with h0|h0
  ·obtain⟨h1,h2⟩:=hm h0
   have:m.tdiv 256=m / 256:=Int.tdiv_eq_ediv_of_nonneg h1
   rw[this];omega
  ·obtain⟨h1,h2⟩:=hm2 h0
   have:m.tdiv 256 = -((-m) / 256):=by
    have:=Int.neg_tdiv (a:= -m) (b:=256)
    rw[Int.neg_neg,Int.tdiv_eq_ediv_of_nonneg (a:= -m) (b:=256) (by omega)]at this
    exact this
   rw[this];omega
def stI (p:Prm)(v x:Int):Int:=max p.floor (min 1048576 (lkI p.lk p.leak v+p.bias+max (-4194304) (min 4194304 x)))
theorem stepV_st {p:Prm}(h:Good p){s:Ste}(hv : -1048576≤s.v∧s.v≤1048576)(x:Int):vF p s x=stI p s.v x:=by
 unfold vF stI
 have hb:=lk_bound h hv
 have h2:=h.bias
 rw[leakW_lk h hv,zL (a:=lkI p.lk p.leak s.v+p.bias) (by omega) (by omega),zL (by omega) (by omega)]
theorem st_bound {p:Prm}(h:Good p)(v x:Int):p.floor≤stI p v x∧stI p v x≤1048576:=by
 unfold stI
 have:=h.floor
 omega
theorem vld_step {p:Prm}{s:Ste}(h:vld p s=0)(x:Int):vld p (jR p s x)=0:=by
 obtain⟨hg,hv,hr⟩:=vld_good.1 h
 have h1:=hg.floor
 have h2:=hg.rest
 have h3:=hg.thr
 have h4:=hg.reset
 have hs:=st_bound hg s.v x
 refine vld_good.2 ⟨hg,?_⟩
 unfold jR
 rw[stepV_st hg ⟨by omega,hv.2⟩]
 split
 ·rw[zL (by omega) (by omega)]
  exact⟨hv,by simp only;omega⟩
 ·split
  ·exact⟨hs,hr⟩
  ·split
   ·rw[zL (by omega) (by omega)]
    exact⟨by simp only;omega,by simp only;omega⟩
   ·exact⟨by simp only;omega,by simp only;omega⟩
end Go.Proofs.Ytnnlpdgnlccbjaa
namespace Go.Sx
theorem Run.modC {c:Cx}{T:List (Nat×SV)}{M:List (Nat×SObj)}{n:Nat}{D:List Deferred}{ops:Array Oper}{i:Nat}{r:List Nat}{k:List Item}{R:Ending→World→Prop}{o:Oper}{f:Operand}{args:Array Operand}{ts:Array TypeId}
  {fv:SV} {g:FuncId} {caps vs:List SV} (j:Nat) (cs cs':List SV) (t:TypeId) (v:SV)
  (hcall :∀ ρ w,WI c.w0 c.L ρ (look M) (· < n) w→ρ.o j=0→w.heap[ρ.s j]? = some (.cells (SV.concs ρ cs).toArray t (0,0))→Calls c.P g (SV.concs ρ (vs++caps)).toArray w fun e w'=>e = .returned (v.conc ρ)∧Mod w (ρ.s j) w'∧w'.heap[ρ.s j]? = some (.cells (SV.concs ρ cs').toArray t (0,0)))
  (hg:zU c.P g) (ho:get ops.toList i=some o) (hop:o.op = .call { callee:=.value f,args:=args,argTypes:=ts }) (hw:zQ ops.toList (look T) o=some true) (hd:okD c.fn.ntmps o.dst=true)
  (hf:ev (look T) f=some fv) (hfv:zW fv=some (g,caps)) (hvs:evs (look T) args.toList=some vs) (hj:look M j=some (.cells cs t)) (hsc:SV.scs (· < n) cs') (hv:v.sc (· < n))
  (h:Run c ⟨z5 T o.dst v,(j,.cells cs' t)::M,n,D,.inRegion ops r::k⟩ R):Run c ⟨T,M,n,D,.inRegion ops (i::r)::k⟩ R:=by
 refine Run.rN ho hop hw hd hf hfv hvs hg (fun v' M' n'=>v'=v∧M'=(j,.cells cs' t)::M∧n'=n) (fun ρ w _ hW=> ?_) (fun v' M' n' hp=> ?_)
 ·obtain⟨_,_,h0,hc⟩:=hW.mem j _ hj
  refine(hcall ρ w hW h0 hc).mono fun e w' ⟨he,hm,hc'⟩=>⟨ρ,v,_,n,he,Env.agree.refl _ _,Nat.le_refl _,hv,?_,rfl,rfl,rfl⟩
  rw[qX]
  exact hW.modify hj trivial hm hsc ⟨h0,hc'⟩
 ·obtain⟨rfl,rfl,rfl⟩:=hp;exact h
end Go.Sx
namespace Go.Proofs.Ytnnlpdgnlccbjaa
open Go.Sx
theorem z8 {i:Nat}(h:i<4611686018427387904):IntKind.i64.wrap ((i:Int)+1)=((i+1:Nat):Int):=by
 have h1:W ((i:Int)+1)=_:=W_eq ((i:Int)+1)
 simp only[W]at h1
 rw[h1];omega
theorem qB (S:Nat→Prop) :∀(l:List Int),SV.scs S (l.map fun x=>.v (.int .i64 x))
 | []=>trivial
 |_::l=>⟨trivial,qB S l⟩
def qD (xs:List Int):List Value:=xs.map fun x=>.int .i64 x
theorem rens_v (r:Nat→Nat) :∀(l:List Value),SV.rens r (l.map .v)=l.map .v
 | []=>rfl
 |x::l=>by simp only[List.map_cons,SV.rens,rens_v r l];rfl
end Go.Proofs.Ytnnlpdgnlccbjaa
namespace Go.Proofs.Ytnnlpdgnlccbjaa
open Go.Sx
instance (l:List Int):Vs (l.map fun x=>ii x):=⟨fun S=>qB S l⟩
instance (l:List Value):Vs (l.map SV.v):=⟨fun S=>qL S l⟩
theorem wsx {i:Nat}(h:i<4611686018427387904):some (ii (IntKind.i64.wrap ((i:Int)+1)))=some (ii ((i+1:Nat):Int)):=congrArg some (congrArg ii (z8 h))
set_option maxRecDepth 100000
structure Rul where
 kind:Int
 up:Int
 down:Int
 shift:Int
 gain:Int
 keep:Int
 fade:Int
 lo:Int
 hi:Int
 sum:Bool
def Rul.cells (r:Rul):List SV:=[ii r.kind,ii r.up,ii r.down,ii r.shift,ii r.gain,ii r.keep,ii r.fade,ii r.lo,ii r.hi,.v (.bool r.sum)]
def Rul.sv (r:Rul):SV:=.agg r.cells
structure Mrk where
 w:Int
 x:Int
 y:Int
 e:Int
def Mrk.cells (m:Mrk):List SV:=[ii m.w,ii m.x,ii m.y,ii m.e]
def Mrk.sv (m:Mrk):SV:=.agg m.cells
theorem lwithin_run (n lo hi:Int)(w:World):Calls Try.prog 44 #[.int .i64 n,.int .i64 lo,.int .i64 hi] w fun e w'=>e = .returned (.bool (wi n lo hi))∧Ext w w':=by
 refine Run.s9 (tab:=tab) (pf:=[]) (cuts:=[]) mixed qI trivial Try.func44 rfl [ii n,ii lo,ii hi] 100 ⟨trivial,trivial,trivial,trivial⟩ rfl ?_
 conv=>whnf
 cases h:decide (lo≤n)
 all_goals
  conv=>whnf
  exact⟨fun ρ w' hW _=>⟨by simp[SV.conc,wi,h],hW.toExt⟩⟩
theorem v5:Pure Try.prog 44 (F3 fun n lo hi=>.bool (wi n lo hi)):=Pure.of3 (ent _ _ Try.func44 (by kernel_rfl) rfl) lwithin_run
theorem nwithin_run (n lo hi:Int)(w:World):Calls Try.prog 76 #[.int .i64 n,.int .i64 lo,.int .i64 hi] w fun e w'=>e = .returned (.bool (wi n lo hi))∧Ext w w':=by
 refine Run.s9 (tab:=tab) (pf:=[]) (cuts:=[]) mixed qI trivial Try.func76 rfl [ii n,ii lo,ii hi] 100 ⟨trivial,trivial,trivial,trivial⟩ rfl ?_
 conv=>whnf
 cases h:decide (lo≤n)
 all_goals
  conv=>whnf
  exact⟨fun ρ w' hW _=>⟨by simp[SV.conc,wi,h],hW.toExt⟩⟩
theorem v7:Pure Try.prog 76 (F3 fun n lo hi=>.bool (wi n lo hi)):=Pure.of3 (ent _ _ Try.func76 (by kernel_rfl) rfl) nwithin_run
theorem lbounded_run (n lo hi:Int)(w:World):Calls Try.prog 82 #[.int .i64 n,.int .i64 lo,.int .i64 hi] w fun e w'=>e = .returned (.int .i64 (max lo (min hi n)))∧Ext w w':=by
 refine Run.s9 (tab:=tab) (pf:=[]) (cuts:=[]) mixed qI trivial Try.func82 rfl [ii n,ii lo,ii hi] 100 ⟨trivial,trivial,trivial,trivial⟩ rfl ?_
 conv=>whnf
 exact⟨fun ρ w' hW _=>⟨rfl,hW.toExt⟩⟩
theorem tE:Pure Try.prog 82 (F3 fun n lo hi=>.int .i64 (max lo (min hi n))):=Pure.of3 (ent _ _ Try.func82 (by kernel_rfl) rfl) lbounded_run
abbrev fpair:Value:=.func (.func 98) #[] #[]
abbrev frew:Value:=.func (.func 99) #[] #[]
def kindF (k:Int):Value:=(iget [(1,fpair),(2,frew)] k).getD .nilFunc
theorem kindF_get (k:Int):(zM (zK (zK [] (.i 1) fpair) (.i 2) frew) (.i k)).getD .nilFunc=kindF k:=by
 have e:zK (zK [] (.i 1) fpair) (.i 2) frew=[(.i 1,fpair),(.i 2,frew)]:=by simp[zK]
 rw[e]
 unfold kindF
 by_cases h1:k=1
 ·subst h1;simp[zM,iget]
 ·by_cases h2:k=2
  ·subst h2;simp[zM,iget]
  ·simp[zM,iget,h1,h2]
theorem tR (k:Int)(w:World):Calls Try.prog 77 #[.int .i64 k] w fun e w'=>e = .returned (kindF k)∧Ext w w':=by
 have hcase:kindF k=fpair∨kindF k=frew∨kindF k = .nilFunc:=by
  unfold kindF iget
  split
  ·exact .inl rfl
  ·unfold iget
   split
   ·exact .inr (.inl rfl)
   ·exact .inr (.inr rfl)
 refine Run.s9 (tab:=tab) (pf:=[]) (cuts:=[]) mixed qI trivial Try.func77 rfl [ii k] 100 ⟨trivial,trivial⟩ rfl ?_
 conv=>whnf
 rw[kindF_get k]
 rcases hcase with hk|hk|hk
 all_goals
  rw[hk]
  conv=>whnf
  exact⟨fun ρ w' hW _=>⟨rfl,hW.toExt⟩⟩
theorem kinds_1 (w:World):Calls Try.prog 77 #[.int .i64 1] w fun e w'=>e = .returned fpair∧Ext w w':=tR 1 w
theorem kinds_2 (w:World):Calls Try.prog 77 #[.int .i64 2] w fun e w'=>e = .returned frew∧Ext w w':=tR 2 w
theorem kinds_no (k:Int)(h1:k≠1)(h2:k≠2)(w:World):Calls Try.prog 77 #[.int .i64 k] w fun e w'=>e = .returned .nilFunc∧Ext w w':=by
 have:=tR k w
 rw[show kindF k = .nilFunc by simp[kindF,iget,h1,h2]]at this
 exact this
def yN (r:Rul):Int:=
 if !(r.kind==1||r.kind==2)then 2 else
 if wi r.up 0 255&&wi r.down 0 255&&wi r.shift 0 16&&wi r.gain 1 4096&&wi r.keep 0 255&&wi r.fade 0 (if r.kind==1 then 0 else 255)&&wi r.lo (-255) r.hi && !decide (255<r.hi)then 0 else 3
abbrev pfl1:PF:=[(44,F3 fun n lo hi=>.bool (wi n lo hi))]
theorem pfl1_ok:PF.oks Try.prog pfl1:=⟨v5,trivial⟩
theorem rcheck1_run (r:Rul)(w:World):Calls Try.prog 43 #[r.sv.conc zP] w fun e w'=>e = .returned (.int .i64 (yN r))∧Ext w w':=by
 obtain⟨kind,up,down,shift,gain,keep,fade,lo,hi,sum⟩:=r
 have fin :∀x:Int,yN ⟨kind,up,down,shift,gain,keep,fade,lo,hi,sum⟩=x → ∀{c:Cx} {M:List (Nat×SObj)} {n:Nat},c.w0=w→c.L=[]→RetOk c M n (.v (.int .i64 x)) (fun e w'=>e = .returned (.int .i64 (yN ⟨kind,up,down,shift,gain,keep,fade,lo,hi,sum⟩))∧Ext w w'):=
  fun x hx c M n hw hL=>⟨fun ρ w' hW _=>⟨by rw[hx];rfl,by rw[hw,hL]at hW;exact hW.toExt⟩⟩
 have hc :∀(q:Cx),q=⟨Try.prog,tab,pfl1,43,Try.f43,[],w,[],none⟩→q.ok:=by
  rintro _ rfl
  exact⟨qI,pfl1_ok,Try.func43,mixed,fun _ h=>by cases h⟩
 by_cases h1:kind=1
 ·subst h1
  refine Run.s9 (tab:=tab) (pf:=pfl1) (cuts:=[]) mixed qI pfl1_ok Try.func43 rfl [.agg [ii 1,ii up,ii down,ii shift,ii gain,ii keep,ii fade,ii lo,ii hi,.v (.bool sum)]] 1000 (by simp[SV.scs,SV.sc]) rfl ?_
  conv=>whnf
  refine Run.rB (g:=77) (vs:=[ii 1]) (caps:=[]) (.v fpair) (fun ρ w1 _=>kinds_1 w1) (ent _ _ Try.func77 (by kernel_rfl) rfl) rfl rfl rfl rfl rfl rfl rfl trivial ?_
  refine Run.W1 (hc _ rfl) ?_
  conv=>whnf
  iterate 8
   all_goals try (split<;>(rename_i h;(try simp only[h]);conv=>whnf))
  all_goals first
   |exact fin 3 (by clear hc fin;simp only[yN];simp_all) rfl rfl
   |exact fin 0 (by clear hc fin;simp only[yN];simp_all) rfl rfl
 by_cases h2:kind=2
 ·subst h2
  refine Run.s9 (tab:=tab) (pf:=pfl1) (cuts:=[]) mixed qI pfl1_ok Try.func43 rfl [.agg [ii 2,ii up,ii down,ii shift,ii gain,ii keep,ii fade,ii lo,ii hi,.v (.bool sum)]] 1000 (by simp[SV.scs,SV.sc]) rfl ?_
  conv=>whnf
  refine Run.rB (g:=77) (vs:=[ii 2]) (caps:=[]) (.v frew) (fun ρ w1 _=>kinds_2 w1) (ent _ _ Try.func77 (by kernel_rfl) rfl) rfl rfl rfl rfl rfl rfl rfl trivial ?_
  refine Run.W1 (hc _ rfl) ?_
  conv=>whnf
  iterate 8
   all_goals try (split<;>(rename_i h;(try simp only[h]);conv=>whnf))
  all_goals first
   |exact fin 3 (by clear hc fin;simp only[yN];simp_all) rfl rfl
   |exact fin 0 (by clear hc fin;simp only[yN];simp_all) rfl rfl
 ·refine Run.s9 (tab:=tab) (pf:=pfl1) (cuts:=[]) mixed qI pfl1_ok Try.func43 rfl [.agg [ii kind,ii up,ii down,ii shift,ii gain,ii keep,ii fade,ii lo,ii hi,.v (.bool sum)]] 1000 (by simp[SV.scs,SV.sc]) rfl ?_
  conv=>whnf
  refine Run.rB (g:=77) (vs:=[ii kind]) (caps:=[]) (.v .nilFunc) (fun ρ w1 _=>kinds_no kind h1 h2 w1) (ent _ _ Try.func77 (by kernel_rfl) rfl) rfl rfl rfl rfl rfl rfl rfl trivial ?_
  refine Run.W1 (hc _ rfl) ?_
  conv=>whnf
  exact fin 2 (by simp[yN,h1,h2]) rfl rfl
def rrchk (r:Rul):Int:=
 if !(r.kind==1||r.kind==2)then 2 else
 if wi r.up 0 255&&wi r.down 0 255&&wi r.shift 0 16&&wi r.gain 1 4096&&wi r.keep 0 255&&wi r.fade 0 255 && !(r.kind==1 && !(r.fade==0)) && !decide (r.lo < -255) && !decide (255<r.hi) && !decide (r.hi<r.lo)then 0 else 3
theorem rrchk_eq (r:Rul):rrchk r=yN r:=by
 obtain⟨kind,up,down,shift,gain,keep,fade,lo,hi,sum⟩:=r
 unfold rrchk yN
 by_cases h1:kind=1
 ·subst h1
  have e:(wi fade 0 255 && !((1:Int)==1 && !(fade==0)) && !decide (lo < -255) && !decide (255<hi) && !decide (hi<lo))=(wi fade 0 0&&wi lo (-255) hi && !decide (255<hi)):=by
   apply Bool.eq_iff_iff.2
   simp[wi]
   omega
  simp only[Bool.and_assoc]at e ⊢
  simp only[e]
  rfl
 ·by_cases h2:kind=2
  ·subst h2
   have e:(wi fade 0 255 && !((2:Int)==1 && !(fade==0)) && !decide (lo < -255) && !decide (255<hi) && !decide (hi<lo))=(wi fade 0 255&&wi lo (-255) hi && !decide (255<hi)):=by
    apply Bool.eq_iff_iff.2
    simp[wi]
    omega
   simp only[Bool.and_assoc]at e ⊢
   simp only[e]
   rfl
  ·simp[h1,h2]
def xO (b:Nat)(pre post:List Value)(m:Mrk)(t:TypeId)(w:World):Prop:=w.heap[b]? = some (.cells (pre++SV.concs zP m.cells++post).toArray t (0,0))
def envM (b off:Nat):Env:=⟨fun _=>b,fun _=>off,fun _=>(none,0,0)⟩
theorem _root_.Go.Sx.WI.markOut {w0 w:World}{b:Nat}{ρ:Env}{M:Mem}{S:Nat→Prop}(hW:WI w0 [(0,b)] ρ M S w){pre post:List Value}{t:TypeId}{m:Mrk}{cs:List SV}(hM:M 0=some (.mid pre post cs t))(hcs:cs=m.cells):xO b pre post m t w:=by
 subst hcs
 have hs:ρ.s 0=b:=(hW.lid (0,b) (by simp)).2
 have hh:=(hW.mem 0 _ hM).2.2.2
 rw[hs]at hh
 exact hh
def jV (r:Rul)(m:Mrk):Mrk:=⟨m.w,W ((W (m.x*r.keep)).tdiv 256),W ((W (m.y*r.keep)).tdiv 256),W ((W (m.e*r.fade)).tdiv 256)⟩
theorem fade_run (r:Rul)(m:Mrk)(b:Nat)(pre post:List Value)(t:TypeId)(w:World)(hb:xO b pre post m t w):Calls Try.prog 48 #[.pointer (some ⟨b,pre.length,none⟩),r.sv.conc zP] w fun e w'=>
  e = .returned (.tuple #[])∧Mod w b w'∧xO b pre post (jV r m) t w':=by
 have hc :∀f fn cuts L,Try.prog.funcs[f]? = some fn→Cx.ok ⟨Try.prog,tab,[],f,fn,cuts,w,L,none⟩:=fun f fn cuts L h=>⟨qI,trivial,h,mixed,fun _ h=>by cases h⟩
 have hW0:=WI.startL (w:=w) (i:=0) (b:=b) (n:=1) (ρ:=envM b pre.length) (o:=.mid pre post m.cells t) (by omega) rfl (by simp[SObj.sc,Mrk.cells,SV.scs,SV.sc]) ⟨rfl,hb⟩
 have ha : #[.pointer (some ⟨b,pre.length,none⟩),r.sv.conc zP]=(SV.concs (envM b pre.length) [.ptr 0 0,r.sv]).toArray:=by simp[SV.concs,SV.conc,envM,Rul.sv,Rul.cells]
 rw[ha]
 refine Run.calls (tab:=tab) (pf:=[]) (cuts:=[]) Try.func48 rfl (envM b pre.length) [.ptr 0 0,r.sv] _ 1 (by simp[SV.scs,SV.sc,Rul.sv,Rul.cells]) rfl hW0 (Run.s0 (hc _ _ _ _ Try.func48) 2000 _ ?_)
 conv=>whnf
 refine Run.draw (hc _ _ _ _ Try.func48) 33 ?_
 conv=>whnf
 repeat (refine⟨by decide,?_⟩;conv=>whnf)
 refine⟨by kernel_rfl,?_⟩
 refine Run.W1 (hc _ _ _ _ Try.func48) ?_
 conv=>whnf
 exact⟨fun ρ w' hW _=>⟨rfl,hW.toMod,hW.markOut rfl rfl⟩⟩
def pairM (m:Mrk)(c:Int):Mrk:=⟨W (m.w+c),m.x,m.y,m.e⟩
theorem pair_run (r:Rul)(m:Mrk)(cg rw0:Int)(b:Nat)(pre post:List Value)(t:TypeId)(w:World)(hb:xO b pre post m t w):Calls Try.prog 98 #[r.sv.conc zP,.pointer (some ⟨b,pre.length,none⟩),.int .i64 cg,.int .i64 rw0] w fun e w'=>
  e = .returned (.tuple #[])∧Mod w b w'∧xO b pre post (pairM m cg) t w':=by
 have hc :∀f fn cuts L,Try.prog.funcs[f]? = some fn→Cx.ok ⟨Try.prog,tab,[],f,fn,cuts,w,L,none⟩:=fun f fn cuts L h=>⟨qI,trivial,h,mixed,fun _ h=>by cases h⟩
 have hW0:=WI.startL (w:=w) (i:=0) (b:=b) (n:=1) (ρ:=envM b pre.length) (o:=.mid pre post m.cells t) (by omega) rfl (by simp[SObj.sc,Mrk.cells,SV.scs,SV.sc]) ⟨rfl,hb⟩
 have ha : #[r.sv.conc zP,.pointer (some ⟨b,pre.length,none⟩),.int .i64 cg,.int .i64 rw0]=(SV.concs (envM b pre.length) [r.sv,.ptr 0 0,ii cg,ii rw0]).toArray:=by simp[SV.concs,SV.conc,envM,Rul.sv,Rul.cells]
 rw[ha]
 refine Run.calls (tab:=tab) (pf:=[]) (cuts:=[]) Try.func98 rfl (envM b pre.length) [r.sv,.ptr 0 0,ii cg,ii rw0] _ 1 (by simp[SV.scs,SV.sc,Rul.sv,Rul.cells]) rfl hW0 (Run.s0 (hc _ _ _ _ Try.func98) 2000 _ ?_)
 conv=>whnf
 exact⟨fun ρ w' hW _=>⟨rfl,hW.toMod,hW.markOut rfl rfl⟩⟩
def rewM (m:Mrk)(c rw:Int):Mrk:=⟨W (m.w+W ((W (rw*max (-65535) (min 65535 (W (m.e+c))))).tdiv 256)),m.x,m.y,max (-65535) (min 65535 (W (m.e+c)))⟩
abbrev pfb:PF:=[(82,F3 fun n lo hi=>.int .i64 (max lo (min hi n)))]
theorem pfb_ok:PF.oks Try.prog pfb:=⟨tE,trivial⟩
theorem reward_run (r:Rul)(m:Mrk)(cg rw0:Int)(b:Nat)(pre post:List Value)(t:TypeId)(w:World)(hb:xO b pre post m t w):Calls Try.prog 99 #[r.sv.conc zP,.pointer (some ⟨b,pre.length,none⟩),.int .i64 cg,.int .i64 rw0] w fun e w'=>
  e = .returned (.tuple #[])∧Mod w b w'∧xO b pre post (rewM m cg rw0) t w':=by
 have hc :∀f fn cuts L,Try.prog.funcs[f]? = some fn→Cx.ok ⟨Try.prog,tab,pfb,f,fn,cuts,w,L,none⟩:=fun f fn cuts L h=>⟨qI,pfb_ok,h,mixed,fun _ h=>by cases h⟩
 have hW0:=WI.startL (w:=w) (i:=0) (b:=b) (n:=1) (ρ:=envM b pre.length) (o:=.mid pre post m.cells t) (by omega) rfl (by simp[SObj.sc,Mrk.cells,SV.scs,SV.sc]) ⟨rfl,hb⟩
 have ha : #[r.sv.conc zP,.pointer (some ⟨b,pre.length,none⟩),.int .i64 cg,.int .i64 rw0]=(SV.concs (envM b pre.length) [r.sv,.ptr 0 0,ii cg,ii rw0]).toArray:=by simp[SV.concs,SV.conc,envM,Rul.sv,Rul.cells]
 rw[ha]
 refine Run.calls (tab:=tab) (pf:=pfb) (cuts:=[]) Try.func99 rfl (envM b pre.length) [r.sv,.ptr 0 0,ii cg,ii rw0] _ 1 (by simp[SV.scs,SV.sc,Rul.sv,Rul.cells]) rfl hW0 (Run.s0 (hc _ _ _ _ Try.func99) 2000 _ ?_)
 conv=>whnf
 refine Run.draw (hc _ _ _ _ Try.func99) 12 ?_
 conv=>whnf
 repeat (refine⟨by decide,?_⟩;conv=>whnf)
 refine⟨by kernel_rfl,?_⟩
 refine Run.W1 (hc _ _ _ _ Try.func99) ?_
 conv=>whnf
 exact⟨fun ρ w' hW _=>⟨rfl,hW.toMod,hW.markOut rfl rfl⟩⟩
def chgM (r:Rul)(m:Mrk)(spike arrived:Bool):Int:=
 let c:=if spike then W (0+(W (r.up*m.x)).fdiv (2 ^ min r.shift.toNat 64))else 0
 if arrived then W (c-(W (r.down*m.y)).fdiv (2 ^ min r.shift.toNat 64))else c
theorem change_run (r:Rul)(m:Mrk)(spike arrived:Bool)(hs:0≤r.shift)(w:World):Calls Try.prog 49 #[r.sv.conc zP,m.sv.conc zP,.bool spike,.bool arrived] w fun e w'=>e = .returned (.int .i64 (chgM r m spike arrived))∧Ext w w':=by
 obtain⟨kind,up,down,shift,gain,keep,fade,lo,hi,sum⟩:=r
 simp only at hs
 refine Run.s9 (tab:=tab) (pf:=[]) (cuts:=[]) mixed qI trivial Try.func49 rfl [.agg [ii kind,ii up,ii down,ii shift,ii gain,ii keep,ii fade,ii lo,ii hi,.v (.bool sum)],m.sv,.v (.bool spike),.v (.bool arrived)] 1000 (by simp[SV.scs,SV.sc,Mrk.sv,Mrk.cells]) rfl ?_
 conv=>whnf
 cases spike
 ·conv=>whnf
  cases arrived
  ·conv=>whnf
   exact⟨fun ρ w' hW _=>⟨rfl,hW.toExt⟩⟩
  ·conv=>whnf
   refine⟨hs,?_⟩
   conv=>whnf
   exact⟨fun ρ w' hW _=>⟨rfl,hW.toExt⟩⟩
 ·conv=>whnf
  refine⟨hs,?_⟩
  conv=>whnf
  cases arrived
  ·conv=>whnf
   exact⟨fun ρ w' hW _=>⟨rfl,hW.toExt⟩⟩
  ·conv=>whnf
   refine⟨hs,?_⟩
   conv=>whnf
   exact⟨fun ρ w' hW _=>⟨rfl,hW.toExt⟩⟩
def rulOf:List SV→Option Rul
 | [.v (.int .i64 a),.v (.int .i64 b),.v (.int .i64 c),.v (.int .i64 d),.v (.int .i64 e),.v (.int .i64 f),.v (.int .i64 g),.v (.int .i64 h),.v (.int .i64 i),.v (.bool s)]=>some ⟨a,b,c,d,e,f,g,h,i,s⟩
 |_=>none
theorem rulOf_eq {l:List SV}{r:Rul}(h:rulOf l=some r):l=r.cells:=by
 unfold rulOf at h
 split at h
 ·obtain rfl:=Option.some.inj h;rfl
 ·cases h
theorem rul_conc {x:SV}{r:Rul}(ρ:Env)(h:rulOf x.cells=some r):x.conc ρ=r.sv.conc zP:=by
 have:=rulOf_eq h
 cases x with
 |agg cs=>simp only[SV.cells]at this;subst this;rfl
 |v y=>
  cases y with
  |agg cs=>
   simp only[SV.cells]at this
   have h2:=congrArg (SV.concs ρ) this
   rw[zN]at h2
   have h3:r.sv.conc zP = .agg (SV.concs ρ r.cells).toArray:=rfl
   rw[h3,←h2]
   simp only[SV.conc,Array.toArray_toList]
  |_=>simp[SV.cells,Rul.cells]at this
 |_=>simp[SV.cells,Rul.cells]at this
def FRul_v (f:Rul→Value):List SV→Option SV
 | [x]=>match rulOf x.cells with
  |some r=>some (.v (f r))
  |none=>none
 |_=>none
abbrev FRul (f:Rul→Value):Mem→List SV→Option (List Nat×SV):=yB (FRul_v f)
theorem Pure.ofRul {g:FuncId}{f:Rul→Value}(he:zU Try.prog g)(h :∀(r:Rul) w,Calls Try.prog g #[r.sv.conc zP] w fun e w'=>e = .returned (f r)∧Ext w w'):Pure Try.prog g (FRul f):=PureV.lift {
 ent:=he
 sc:=fun S args v hv _=>by
  unfold FRul_v at hv
  split at hv
  ·split at hv
   ·obtain rfl:=Option.some.inj hv;trivial
   ·cases hv
  ·cases hv
 run:=fun ρ args v w hv=>by
  unfold FRul_v at hv
  split at hv
  ·split at hv
   ·rename_i x _ r hr
    obtain rfl:=Option.some.inj hv
    have:=h r w
    simp only[SV.concs,rul_conc ρ hr]
    exact this
   ·cases hv
  ·cases hv }
theorem sN:Pure Try.prog 43 (FRul fun r=>.int .i64 (yN r)):=Pure.ofRul (ent _ _ Try.func43 (by kernel_rfl) rfl) rcheck1_run
def fadeN (r:Rul):Nat→Mrk→Mrk
 | 0,m=>m
 |n+1,m=>jV r (fadeN r n m)
def winR (r:Rul)(gap:Int):Int×Int:=
 if yN r≠0 then(0,yN r)else if wi gap (-10000) 10000=false then(0,3)else(chgM r (fadeN r (max gap (-gap)).toNat ⟨0,r.gain,r.gain,0⟩) (decide (0<gap)) (decide (gap<0)),0)
theorem rchk_shift {r:Rul}(h:yN r=0):0≤r.shift∧r.shift≤16:=by
 cases hs:wi r.shift 0 16
 ·exfalso
  unfold yN at h
  rw[hs]at h
  simp only[Bool.and_false,Bool.false_and,Bool.false_eq_true,if_false]at h
  split at h<;>cases h
 ·simpa[wi]using hs
theorem Run.fade {c:Cx}{T:List (Nat×SV)}{M:List (Nat×SObj)}{n:Nat}{D:List Deferred}{ops:Array Oper}{i:Nat}{r:List Nat}{k:List Item}{R:Ending→World→Prop}{o:Oper}{f:Operand}{args:Array Operand}{ts:Array TypeId}{fv:SV}(ru:Rul)(m:Mrk)(j:Nat)(t:TypeId)(hP:c.P=Try.prog)
  (ho:get ops.toList i=some o) (hop:o.op = .call { callee:=.value f,args:=args,argTypes:=ts }) (hw:zQ ops.toList (Sx.look T) o=some true) (hd:okD c.fn.ntmps o.dst=true)
  (hf:ev (Sx.look T) f=some fv) (hfv:zW fv=some (48,[])) (hvs:evs (Sx.look T) args.toList=some [.ptr j 0,ru.sv]) (hj:Sx.look M j=some (.cells m.cells t))
  (h:Run c ⟨z5 T o.dst (.tup []),(j,.cells (jV ru m).cells t)::M,n,D,.inRegion ops r::k⟩ R):Run c ⟨T,M,n,D,.inRegion ops (i::r)::k⟩ R:=by
 refine Run.modC j m.cells (jV ru m).cells t (.tup []) (fun ρ w hW h0 hc=> ?_) (by rw[hP];exact ent _ _ Try.func48 (by kernel_rfl) rfl) ho hop hw hd hf hfv hvs hj (by simp[Mrk.cells,SV.scs,SV.sc]) trivial h
 rw[hP]
 have:=fade_run ru m (ρ.s j) [] [] t w (by simpa[xO]using (show w.heap[ρ.s j]? = some (.cells (SV.concs zP m.cells).toArray t (0,0))from hc))
 have ha:(SV.concs ρ ([.ptr j 0,ru.sv]++[])).toArray = #[.pointer (some ⟨ρ.s j,([]:List Value).length,none⟩),ru.sv.conc zP]:=by simp[SV.concs,SV.conc,h0,Rul.sv,Rul.cells]
 rw[ha]
 exact this.mono fun e w' ⟨he,hm,hc'⟩=>⟨he,hm,by show w'.heap[ρ.s j]? = some (.cells (SV.concs zP (jV ru m).cells).toArray t (0,0));simpa[xO]using hc'⟩
theorem Window_run (r:Rul)(gap:Int)(w:World):Calls Try.prog 18 #[r.sv.conc zP,.int .i64 gap] w fun e w'=>e = .returned (.tuple #[.int .i64 (winR r gap).1,.int .i64 (winR r gap).2])∧Ext w w':=by
 obtain⟨rk,hrk⟩ :∃rk,yN=rk:=⟨_,rfl⟩
 have hpf:PF.oks Try.prog [(43,FRul fun r=>.int .i64 (rk r)),(44,F3 fun n lo hi=>.bool (wi n lo hi))]:=by rw[←hrk];exact⟨sN,v5,trivial⟩
 have hc :∀f fn cuts L,Try.prog.funcs[f]? = some fn→Cx.ok ⟨Try.prog,tab,[(43,FRul fun r=>.int .i64 (rk r)),(44,F3 fun n lo hi=>.bool (wi n lo hi))],f,fn,cuts,w,L,none⟩:=fun f fn cuts L h=>⟨qI,hpf,h,mixed,fun _ h=>by cases h⟩
 obtain⟨kind,up,down,shift,gain,keep,fade,lo,hi,sum⟩:=r
 refine Run.s9 (tab:=tab) (pf:=[(43,FRul fun r=>.int .i64 (rk r)),(44,F3 fun n lo hi=>.bool (wi n lo hi))]) (cuts:=[]) mixed qI hpf Try.func18 rfl [.agg [ii kind,ii up,ii down,ii shift,ii gain,ii keep,ii fade,ii lo,ii hi,.v (.bool sum)],ii gap] 1000 (by simp[SV.scs,SV.sc]) rfl ?_
 conv=>whnf
 cases hk:rk ⟨kind,up,down,shift,gain,keep,fade,lo,hi,sum⟩ != 0
 ·have hk0:yN ⟨kind,up,down,shift,gain,keep,fade,lo,hi,sum⟩=0:=by rw[hrk];simpa using hk
  unfold winR
  rw[if_neg (by simpa using hk0)]
  conv=>whnf
  cases hw:wi gap (-10000) 10000
  ·conv=>whnf
   exact⟨fun ρ w' hW _=>⟨rfl,hW.toExt⟩⟩
  ·rw[if_neg (by simp)]
   have hw2 : -10000≤gap∧gap≤10000:=by simpa[wi]using hw
   obtain⟨hs1,hs2⟩:=rchk_shift hk0
   have hng:W (-gap) = -gap:=zL (by omega) (by omega)
   conv=>whnf
   refine Run.s6 (T':=[(1,ii gap),(2,.ptr 0 0),(4,ii 0),(5,ii 0),(7,.ptr 1 0),(24,ii (max gap (-gap))),(25,ii ((0:Nat):Int))]) (M':=[(0,.cells [ii kind,ii up,ii down,ii shift,ii gain,ii keep,ii fade,ii lo,ii hi,.v (.bool sum)] 36),(1,.cells (fadeN ⟨kind,up,down,shift,gain,keep,fade,lo,hi,sum⟩ 0 ⟨0,gain,gain,0⟩).cells 84)]) 2 ⟨⟨rfl,trivial⟩,⟨rfl,by simp[SV.sc]⟩,⟨rfl,trivial⟩,⟨rfl,trivial⟩,⟨rfl,by simp[SV.sc]⟩,⟨by show some (ii (max gap (W (-gap))))=_;rw[hng],trivial⟩,⟨rfl,trivial⟩,trivial⟩ ⟨⟨rfl,by omega,qE _ rfl⟩,⟨rfl,by omega,by simp[SObj.sc,Mrk.cells,SV.scs,SV.sc]⟩,trivial⟩ (fun q hq=>by cases hq) ?_
   refine Run.upTo (T:=fun i=>[(1,ii gap),(2,.ptr 0 0),(4,ii 0),(5,ii 0),(7,.ptr 1 0),(24,ii (max gap (-gap))),(25,ii (i:Int))]) (M:=fun i=>[(0,.cells [ii kind,ii up,ii down,ii shift,ii gain,ii keep,ii fade,ii lo,ii hi,.v (.bool sum)] 36),(1,.cells (fadeN ⟨kind,up,down,shift,gain,keep,fade,lo,hi,sum⟩ i ⟨0,gain,gain,0⟩).cells 84)]) (max gap (-gap)).toNat ?_ ?_
   ·intro i hi' ih
    refine Run.W1 (hc _ _ _ _ Try.func18) ?_
    conv=>whnf
    rw[decide_eq_true (show(i:Int)<max gap (-gap)by omega)]
    conv=>whnf
    refine Run.fade ⟨kind,up,down,shift,gain,keep,fade,lo,hi,sum⟩ (fadeN ⟨kind,up,down,shift,gain,keep,fade,lo,hi,sum⟩ i ⟨0,gain,gain,0⟩) 1 84 rfl rfl rfl rfl rfl rfl rfl rfl rfl ?_
    refine Run.W1 (hc _ _ _ _ Try.func18) ?_
    conv=>whnf
    rw[z8 (i:=i) (by omega)]
    exact Run.s6 (T':=[(1,ii gap),(2,.ptr 0 0),(4,ii 0),(5,ii 0),(7,.ptr 1 0),(24,ii (max gap (-gap))),(25,ii ((i+1:Nat):Int))]) (M':=[(0,.cells [ii kind,ii up,ii down,ii shift,ii gain,ii keep,ii fade,ii lo,ii hi,.v (.bool sum)] 36),(1,.cells (fadeN ⟨kind,up,down,shift,gain,keep,fade,lo,hi,sum⟩ (i+1) ⟨0,gain,gain,0⟩).cells 84)]) 2 (by repeat first|exact trivial|refine⟨⟨rfl,trivial⟩,?_⟩|refine⟨⟨rfl,by simp[SV.sc]⟩,?_⟩) ⟨⟨rfl,by omega,qE _ rfl⟩,⟨rfl,by omega,by simp[SObj.sc,Mrk.cells,SV.scs,SV.sc]⟩,trivial⟩ (fun q hq=>by cases hq) ih
   ·refine Run.W1 (hc _ _ _ _ Try.func18) ?_
    conv=>whnf
    rw[decide_eq_false (show ¬(((max gap (-gap)).toNat:Nat):Int)<max gap (-gap)by omega)]
    conv=>whnf
    refine Run.rB (g:=49) (vs:=[(⟨kind,up,down,shift,gain,keep,fade,lo,hi,sum⟩:Rul).sv,(fadeN ⟨kind,up,down,shift,gain,keep,fade,lo,hi,sum⟩ (max gap (-gap)).toNat ⟨0,gain,gain,0⟩).sv,.v (.bool (decide (0<gap))),.v (.bool (decide (gap<0)))]) (caps:=[]) (ii (chgM ⟨kind,up,down,shift,gain,keep,fade,lo,hi,sum⟩ (fadeN ⟨kind,up,down,shift,gain,keep,fade,lo,hi,sum⟩ (max gap (-gap)).toNat ⟨0,gain,gain,0⟩) (decide (0<gap)) (decide (gap<0)))) (fun ρ w1 _=>change_run ⟨kind,up,down,shift,gain,keep,fade,lo,hi,sum⟩ _ _ _ hs1 w1) (ent _ _ Try.func49 (by kernel_rfl) rfl) rfl rfl rfl rfl rfl rfl rfl trivial ?_
    refine Run.W1 (hc _ _ _ _ Try.func18) ?_
    conv=>whnf
    exact⟨fun ρ w' hW _=>⟨rfl,hW.toExt⟩⟩
 ·have hk0 :¬yN ⟨kind,up,down,shift,gain,keep,fade,lo,hi,sum⟩=0:=by rw[hrk];simpa using hk
  unfold winR
  rw[if_pos hk0,hrk]
  conv=>whnf
  exact⟨fun ρ w' hW _=>⟨rfl,hW.toExt⟩⟩
structure GoodR (r:Rul):Prop where
 kind:r.kind=1∨r.kind=2
 up:0≤r.up∧r.up≤255
 down:0≤r.down∧r.down≤255
 shift:0≤r.shift∧r.shift≤16
 gain:1≤r.gain∧r.gain≤4096
 keep:0≤r.keep∧r.keep≤255
 fade:0≤r.fade∧r.fade≤255
 fade1:r.kind=1→r.fade=0
 bounds : -255≤r.lo∧r.lo≤r.hi∧r.hi≤255
theorem rchk_good {r:Rul}:yN r=0↔GoodR r:=by
 rw[←rrchk_eq]
 obtain⟨kind,up,down,shift,gain,keep,fade,lo,hi,sum⟩:=r
 unfold rrchk
 constructor
 ·intro h
  split at h
  ·cases h
  ·rename_i h1
   split at h
   ·rename_i h2
    simp[wi]at h1 h2
    refine⟨?_,?_,?_,?_,?_,?_,?_,?_,?_⟩<;>simp only<;>omega
   ·cases h
 ·rintro⟨h1,h2,h3,h4,h5,h6,h7,h8,h9⟩
  simp only at h1 h2 h3 h4 h5 h6 h7 h8 h9
  rw[if_neg (by simp;omega),if_pos (by simp[wi];omega)]
end Go.Proofs.Ytnnlpdgnlccbjaa
namespace Go.Sx
def RowsAt (w:World)(v:Value)(e n:Nat)(vs:List Value):Prop:=
 vs.length=n*e ∧ ∃p cap,v = .slice p n cap∧n≤cap∧(n=0 ∨ ∃blk off,p=some ⟨blk,off,none⟩∧blk<w.heap.size ∧ ∀j x,vs[j]? = some x→w.cell? ⟨blk,off+j,none⟩=some x)
theorem RowsAt.ext {w w':World}{v:Value}{e n:Nat}{vs:List Value}(h:RowsAt w v e n vs)(x:Ext w w'):RowsAt w' v e n vs:=by
 obtain⟨h1,p,cap,rfl,h2,h3⟩:=h
 refine⟨h1,p,cap,rfl,h2,?_⟩
 rcases h3 with h3|⟨blk,off,rfl,h4,h5⟩
 ·exact .inl h3
 ·refine .inr ⟨blk,off,rfl,Nat.lt_of_lt_of_le h4 x.size,fun j y hj=> ?_⟩
  have:=h5 j y hj
  simp only[World.cell?]at this ⊢
  rw[x.keep blk h4];exact this
theorem WI.tell {w:World}{ρ:Env}{L:List (Nat×Nat)}{M:List (Nat×SObj)}{n:Nat}(hM :∀x∈M,x.1<n∧x.2.sc (· < n)∧x.2.holds w L ρ x.1 w)(hd :∀x∈M,∀y∈M,x.1≠y.1→x.2.occ ρ x.1→y.2.occ ρ y.1→ρ.s x.1≠ρ.s y.1)
  (hn :∀x∈M,x.2.occ ρ x.1 → ∃p∈L,p.2=ρ.s x.1) (hL :∀p∈L,p.1<n∧ρ.s p.1=p.2):WI w L ρ (look M) (· < n) w where
 mem _ _ h:=hM _ (qF h)
 dist _ _ _ _ h h' hne:=hd _ (qF h) _ (qF h') hne
 new _ _ h ho:=.inl (hn _ (qF h) ho)
 lid:=hL
 keep _ _ _:=rfl
 size:=Nat.le_refl _
 os:=rfl
 tape:=rfl
 output:=rfl
def ptrOf:Value→Option Addr×Nat×Nat
 | .slice p l c=>(p,l,c)
 |_=>(none,0,0)
def envW (l:List Value):Env where
 s j:=match (ptrOf (l.getD j .nilFunc)).1 with
  |some a=>a.block
  |none=>0
 o j:=match (ptrOf (l.getD j .nilFunc)).1 with
  |some a=>a.off
  |none=>0
 h j:=ptrOf (l.getD j .nilFunc)
theorem envW_holds {w:World}{l:List Value}{j:Nat}{v:Value}{e n:Nat}{vs:List Value}(hj:l.getD j .nilFunc=v)(h:RowsAt w v e n vs):(SObj.rwin e n vs).holds w [] (envW l) j w:=by
 obtain⟨h1,p,cap,rfl,h2,h3⟩:=h
 simp only[SObj.holds,envW,hj,ptrOf]
 refine⟨h1,trivial,h2,?_⟩
 rcases h3 with h3|⟨blk,off,rfl,h4,h5⟩
 ·exact .inl h3
 ·exact .inr ⟨rfl,h4,fun p hp=>(by cases hp),h5⟩
theorem envW_conc {w:World}{l:List Value}{j:Nat}{v:Value}{e n:Nat}{vs:List Value}(hj:l.getD j .nilFunc=v)(h:RowsAt w v e n vs):(SV.opq j).conc (envW l)=v:=by
 obtain⟨h1,p,cap,rfl,h2,h3⟩:=h
 simp only[SV.conc,envW,hj,ptrOf]
theorem run_eqNilS {P:Program}{w:World}{t e:TypeId}{X Y:Operand}(hd:P.underlying t=some (.slice e))(p:Option Addr)(l c:Nat) :
  (eqGuard .eql t X Y (.slice p l c) (.slice none 0 0) >>= fun _=>Go.binOp .eql t (.slice p l c) (.slice none 0 0)).run P w = .ok (.bool p.isNone) w:=by
 have h :∀d,(Op.equalIn (d+1) t (.slice p l c) (.slice none 0 0)).run P w = .ok p.isNone w:=by
  intro d
  cases p<;>simp[Op.equalIn,zS hd]
 exact(uT h X Y (fun op=>by cases op<;>rfl) rfl rfl).1
theorem Run.eqNilS {c:Cx}{T:List (Nat×SV)}{M:List (Nat×SObj)}{n:Nat}{D:List Deferred}{ops:Array Oper}{i:Nat}{r:List Nat}{k:List Item}{R:Ending→World→Prop}{o:Oper}{x y:Operand}{t t2 e:TypeId}{p:Option Addr}{l cc:Nat}
  (ho:get ops.toList i=some o) (hop:o.op = .binOp .eql t x y t2) (hw:zQ ops.toList (look T) o=some true) (hd:okD c.fn.ntmps o.dst=true) (hx:ev (look T) x=some (.v (.slice p l cc))) (hy:ev (look T) y=some (nq)) (ht:c.P.underlying t=some (.slice e))
  (h:Run c ⟨z5 T o.dst (.v (.bool p.isNone)),M,n,D,.inRegion ops r::k⟩ R):Run c ⟨T,M,n,D,.inRegion ops (i::r)::k⟩ R:=by
 refine⟨fun ρ a w hi=> ?_⟩
 rw[q8,Array.getElem?_toList]at ho
 refine TW.op ho (zI hi.tm hw) ?_
 obtain⟨h1,_⟩:=qO hi.tm hx
 obtain⟨h2,_⟩:=qO hi.tm hy
 simp only[SV.conc]at h1 h2
 have hr:=run_eqNilS (w:=w) (X:=x) (Y:=y) ht p l cc
 refine Oc.value (w':=w) (v:=.bool p.isNone) ?_ ?_
 ·simp only[execOp,hop,h1,h2]
  rw[Sem.run_bind,hr]
  rfl
 ·exact h.go ρ _ w (hi.put hd (Env.agree.refl _ ρ) (Nat.le_refl _) (v:=.v (.bool p.isNone)) trivial hi.wi _)
theorem Run.rR {c:Cx}(hc:c.ok){T:List (Nat×SV)}{M:List (Nat×SObj)}{n:Nat}{D:List Deferred}{ops:Array Oper}{i:Nat}{r:List Nat}{k:List Item}{R:Ending→World→Prop}{o:Oper}{x y:Operand}{t:TypeId}
  (ho:get ops.toList i=some o) (hop:o.op = .call { callee:=.builtin .append,args:= #[x,y],argTypes:= #[t,t] }) (hw:zQ ops.toList (look T) o=some true) (hd:okD c.fn.ntmps o.dst=true)
  {j e m:Nat} {xs:List SV} {te:TypeId} (hx:ev (look T) x=some (.opq j)) (hj:look M j=some (.row e m xs te))
  {len cap:Nat} {ad:Addr} (news:List Value) (hy:ev (look T) y=some (.v (.slice (some ad) len cap))) (hnl:news.length=len*e) (hcell0 :∀ ρ w,WI c.w0 c.L ρ (look M) (· < n) w → ∀jj u,news[jj]? = some u→w.cell? (ad.add jj)=some u) (hone' :∀u∈news,u.oneCell'=true)
  {ti tie:TI} {bytes:Nat} (hti:look c.tab t=some ti) (hsh:ti.sh = .slc te e bytes) (hte:look c.tab te=some tie) (hz:tie.zero.length=e) (he:0<e)
  (hfit:(m+len)*bytes≤140737488355328∧m+len<9223372036854775808) (M':List (Nat×SObj)) (hM' :∀p∈M',look M p.1=some p.2∧p.1≠j)
  (h:Run c ⟨z5 T o.dst (.opq n),(n,.row e (m+len) (xs++news.map .v) te)::M',n+1,D,.inRegion ops r::k⟩ R):Run c ⟨T,M,n,D,.inRegion ops (i::r)::k⟩ R:=by
 refine⟨fun ρ a w hi=> ?_⟩
 rw[q8,Array.getElem?_toList]at ho
 refine TW.op ho (zI hi.tm hw) ?_
 obtain⟨h1,_⟩:=qO hi.tm hx
 obtain⟨h2,_⟩:=qO hi.tm hy
 have hti:=Tab.ok_look hc.tab hti
 have hte:=Tab.ok_look hc.tab hte
 obtain⟨d,hd1,hd2⟩:=hti.desc
 obtain⟨inf,rfl,g2,g3,g4⟩:=sh_desc.2.2.2.2.1 te e bytes (hd2.trans hsh)
 obtain⟨inf',z,i1,_,i3,i4⟩:=hte.infos
 rw[g2]at i1
 obtain rfl:=Option.some.inj i1
 have hzs:z.cells.size=e:=by rw[←hz,←i4];simp
 obtain⟨_,hscr,_⟩:=hi.wi.mem j _ hj
 have hscn:SV.scs (· < n) (news.map .v):=qL _ news
 have hcell:=hcell0 ρ w hi.wi
 have hown:=hi.wi.owns hj he
 obtain⟨v',w',row,r1,r2,r3,r4,r5⟩:=xS (P:=c.P) w t o.type te inf z e hd1 g2 i3 g3 hzs he _ m _ hown ad len cap news hnl hcell hone' (by simp only[maxLen];omega) (by rw[g4];exact hfit.1)
 have hrun:(execOp a.eval o).run c.P w = .ok (.value v') w':=by
  simp only[SV.conc]at h1 h2 r1
  simp[execOp,hop,resolve,invoke,builtin,h1,h2,r1]
 rw[←zN ρ news,←zZ]at r2
 have hsub :∀kk oo,look M' kk=some oo→look M kk=some oo:=fun kk oo hk=>(hM' _ (qF hk)).1
 have hjocc :∀b,((SV.opq j).conc ρ).ownBlock=some b→(SObj.row e m xs te).occ ρ j∧ρ.s j=b:=by
  intro b hb
  obtain⟨_,_,_,_,hh⟩:=hi.wi.mem j _ hj
  rcases hh with⟨hh,_⟩|⟨cap',sp,hh,_⟩
  ·simp[SV.conc,hh,Value.ownBlock]at hb
  ·simp only[SV.conc,hh,Value.ownBlock,Option.some.injEq]at hb
   exact⟨by simp[SObj.occ,hh],hb⟩
 obtain⟨hW',hag⟩:=hi.wi.rowTo hsub (i:=n) (Nat.lt_irrefl n) (xs:=xs++news.map .v) (t:=te) (e:=e) (n:=m+len) r3 (fun b hb=>by
  rcases r4 with r4|r4
  ·rw[r4]at hb;cases hb
  ·rw[r4]at hb
   obtain⟨hocc,hs⟩:=hjocc b hb
   refine⟨fun kk oo hk ck=> ?_,?_⟩
   ·rw[←hs]
    exact hi.wi.dist kk j oo _ (hsub kk oo hk) hj (hM' _ (qF hk)).2 ck hocc
   ·rw[←hs];exact hi.wi.new j _ hj hocc) r5 r2 (z4 hscr hscn)
 refine Oc.value hrun ?_
 have hW2:WI c.w0 c.L (ρ.bindV n v') (look ((n,.row e (m+len) (xs++news.map .v) te)::M')) (· < n+1) w':=by
  rw[qX];exact hW'.mono fun q hq=>by have hq:q<n∨q=n:=hq;omega
 have hinv:=hi.put (ρ':=ρ.bindV n v') hd hag (Nat.le_succ n) (v:=.opq n) (Nat.lt_succ_self n) hW2 (.inRegion ops r::k)
 rw[xA r2]at hinv
 exact h.go _ _ w' hinv
theorem Run.rJ {c:Cx}{T T':List (Nat×SV)}{M M':List (Nat×SObj)}{n:Nat}{D:List Deferred}{todo:List Item}{R:Ending→World→Prop}(j e m:Nat)(cs:List SV)(te:TypeId)
  (hj:look M j=some (.cells cs te)) (hme:cs.length=m*e) (hlen:m≤1000000) (hT :∀x∈T',look T x.1=some x.2∨(look T x.1=some (.slc j 0 m m)∧x.2 = .opq n)) (hM :∀x∈M',look M x.1=some x.2∧x.1≠j)
  (h:Run c ⟨T',(n,.row e m cs te)::M',n+1,D,todo⟩ R):Run c ⟨T,M,n,D,todo⟩ R:=by
 refine⟨fun ρ a w hi=> ?_⟩
 obtain⟨hSj,hscj,h0,hc⟩:=hi.wi.mem j _ hj
 have ho:w.ownsRow 0 te e (.slice (some ⟨ρ.s j,0,none⟩) m m) m (SV.concs ρ cs):=
  ⟨by rw[qT,hme],.inr ⟨ρ.s j,m,(SV.concs ρ cs).toArray,rfl,Nat.zero_le _,hc,Nat.le_refl _,by simp only[maxLen];omega,by simp[qT,hme],by
   exact List.take_of_length_le (by simp[qT,hme])⟩⟩
 have hsub :∀k o,look M' k=some o→look M k=some o:=fun k o hk=>(hM _ (qF hk)).1
 obtain⟨hW',hag⟩:=hi.wi.rowTo (w':=w) (M1:=look M') hsub (i:=n) (Nat.lt_irrefl n) (v:=.slice (some ⟨ρ.s j,0,none⟩) m m) (row:=some (ρ.s j)) ⟨rfl,rfl,rfl,Nat.le_refl _,fun _ _ _=>rfl⟩ (fun b hb=>by
  obtain rfl:=Option.some.inj hb
  exact⟨fun k o hk ck=>hi.wi.dist k j o _ (hsub k o hk) hj (hM _ (qF hk)).2 ck trivial,hi.wi.new j _ hj trivial⟩)
  (fun g hg=>.inl hg) ho hscj
 have hbv:=xA ho ρ n
 refine h.go (ρ.bindV n (.slice (some ⟨ρ.s j,0,none⟩) m m)) a w ⟨hi.sz,fun t v ht=> ?_,hi.df,?_⟩
 ·rcases hT _ (qF ht)with h1|⟨h1,h2⟩
  ·obtain⟨g1,g2,g3⟩:=hi.tm t v h1
   exact⟨g1,by rw[zY hag _ g3];exact g2,SV.sc_mono (fun q hq=>by have hq:q<n:=hq;show q<n+1;omega) _ g3⟩
  ·simp only at h2
   subst h2
   obtain⟨g1,g2,g3⟩:=hi.tm t _ h1
   refine⟨g1,?_,Nat.lt_succ_self n⟩
   rw[hbv,g2]
   simp only[SV.conc,h0,Nat.add_zero]
 ·rw[qX]
  exact hW'.mono fun q hq=>by have hq:q<n∨q=n:=hq;show q<n+1;omega
end Go.Sx
namespace Go.Proofs.Ytnnlpdgnlccbjaa
open Go.Sx
set_option maxRecDepth 100000
def kB (te e n:Nat)(vs:List Value)(w:World)(en:Ending)(w':World):Prop:= ∃l,en = .returned l∧Ext w w'∧w'.ownsRow w.heap.size te e l n vs
theorem cloneRules (v:Value)(n:Nat)(vs:List Value)(w:World)(hr:RowsAt w v 10 n vs)(h1 :∀u∈vs,u.oneCell'=true)(hn:n≤1000000):Calls Try.prog 62 #[v] w (kB 36 10 n vs w):=by
 have hc :∀f fn cuts L,Try.prog.funcs[f]? = some fn→Cx.ok ⟨Try.prog,tab,[],f,fn,cuts,w,L,none⟩:=fun f fn cuts L h=>⟨qI,trivial,h,mixed,fun _ h=>by cases h⟩
 obtain⟨hl,p,cap,rfl,hcap,hp⟩:=hr
 refine Run.s9 (tab:=tab) (pf:=[]) (cuts:=[]) mixed qI trivial Try.func62 rfl [.v (.slice p n cap)] 100 ⟨trivial,trivial⟩ rfl ?_
 conv=>whnf
 refine Run.eqNilS rfl rfl rfl rfl rfl rfl Try.underlying26 ?_
 cases p with
 |none=>
  refine Run.s0 (hc _ _ _ _ Try.func62) 100 _ ?_
  conv=>whnf
  have h0:n=0:=by
   rcases hp with hp|⟨_,_,hp,_⟩
   ·exact hp
   ·cases hp
  subst h0
  have hvs:vs=[]:=List.eq_nil_of_length_eq_zero (by simpa using hl)
  subst hvs
  exact⟨fun ρ w' hW _=>⟨.slice none 0 0,rfl,hW.toExt,World.ownsRow_nil _ _ _ _⟩⟩
 |some ad=>
  refine Run.s0 (hc _ _ _ _ Try.func62) 100 _ ?_
  conv=>whnf
  refine Run.rJ (T':=[(5,.opq 1),(6,.v (.slice (some ad) n cap))]) (M':=[]) 0 10 0 [] 36 rfl rfl (by omega) (AllP.mem ⟨.inr ⟨rfl,rfl⟩,.inl rfl,trivial⟩) (fun x hx=>by cases hx) ?_
  refine Run.rR (hc _ _ _ _ Try.func62) rfl rfl rfl rfl rfl rfl vs rfl hl (fun ρ w1 hW jj u hu=> ?_) h1 rfl rfl rfl rfl (by omega) ⟨by omega,by omega⟩ [] (fun x hx=>by cases hx) ?_
  ·have hr2:RowsAt w (.slice (some ad) n cap) 10 n vs:=⟨hl,some ad,cap,rfl,hcap,hp⟩
   obtain⟨_,p2,cap2,h2,_,h3⟩:=hr2.ext hW.toExt
   simp only[Value.slice.injEq]at h2
   obtain⟨rfl,_,rfl⟩:=h2
   rcases h3 with h3|⟨blk,off,h3,h4,h5⟩
   ·subst h3
    have hvs:vs=[]:=List.eq_nil_of_length_eq_zero (by simpa using hl)
    subst hvs
    cases hu
   ·obtain rfl:=Option.some.inj h3
    rw[zV];exact h5 jj u hu
  refine Run.s0 (hc _ _ _ _ Try.func62) 100 _ ?_
  conv=>whnf
  refine⟨fun ρ w' hW _=>⟨(SV.opq 2).conc ρ,rfl,hW.toExt,?_⟩⟩
  have:=hW.ownsNew (i:=2) (e:=10) rfl (by omega)
  rw[List.nil_append,zN,Nat.zero_add]at this
  exact this
theorem cloneInts (v:Value)(n:Nat)(vs:List Value)(w:World)(hr:RowsAt w v 1 n vs)(h1 :∀u∈vs,u.oneCell'=true)(hn:n≤1000000):Calls Try.prog 63 #[v] w (kB 3 1 n vs w):=by
 have hc :∀f fn cuts L,Try.prog.funcs[f]? = some fn→Cx.ok ⟨Try.prog,tab,[],f,fn,cuts,w,L,none⟩:=fun f fn cuts L h=>⟨qI,trivial,h,mixed,fun _ h=>by cases h⟩
 obtain⟨hl,p,cap,rfl,hcap,hp⟩:=hr
 refine Run.s9 (tab:=tab) (pf:=[]) (cuts:=[]) mixed qI trivial Try.func63 rfl [.v (.slice p n cap)] 100 ⟨trivial,trivial⟩ rfl ?_
 conv=>whnf
 refine Run.eqNilS rfl rfl rfl rfl rfl rfl Try.underlying27 ?_
 cases p with
 |none=>
  refine Run.s0 (hc _ _ _ _ Try.func63) 100 _ ?_
  conv=>whnf
  have h0:n=0:=by
   rcases hp with hp|⟨_,_,hp,_⟩
   ·exact hp
   ·cases hp
  subst h0
  have hvs:vs=[]:=List.eq_nil_of_length_eq_zero (by simpa using hl)
  subst hvs
  exact⟨fun ρ w' hW _=>⟨.slice none 0 0,rfl,hW.toExt,World.ownsRow_nil _ _ _ _⟩⟩
 |some ad=>
  refine Run.s0 (hc _ _ _ _ Try.func63) 100 _ ?_
  conv=>whnf
  refine Run.rJ (T':=[(5,.opq 1),(6,.v (.slice (some ad) n cap))]) (M':=[]) 0 1 0 [] 3 rfl rfl (by omega) (AllP.mem ⟨.inr ⟨rfl,rfl⟩,.inl rfl,trivial⟩) (fun x hx=>by cases hx) ?_
  refine Run.rR (hc _ _ _ _ Try.func63) rfl rfl rfl rfl rfl rfl vs rfl hl (fun ρ w1 hW jj u hu=> ?_) h1 rfl rfl rfl rfl (by omega) ⟨by omega,by omega⟩ [] (fun x hx=>by cases hx) ?_
  ·have hr2:RowsAt w (.slice (some ad) n cap) 1 n vs:=⟨hl,some ad,cap,rfl,hcap,hp⟩
   obtain⟨_,p2,cap2,h2,_,h3⟩:=hr2.ext hW.toExt
   simp only[Value.slice.injEq]at h2
   obtain⟨rfl,_,rfl⟩:=h2
   rcases h3 with h3|⟨blk,off,h3,h4,h5⟩
   ·subst h3
    have hvs:vs=[]:=List.eq_nil_of_length_eq_zero (by simpa using hl)
    subst hvs
    cases hu
   ·obtain rfl:=Option.some.inj h3
    rw[zV];exact h5 jj u hu
  refine Run.s0 (hc _ _ _ _ Try.func63) 100 _ ?_
  conv=>whnf
  refine⟨fun ρ w' hW _=>⟨(SV.opq 2).conc ρ,rfl,hW.toExt,?_⟩⟩
  have:=hW.ownsNew (i:=2) (e:=1) rfl (by omega)
  rw[List.nil_append,zN,Nat.zero_add]at this
  exact this
theorem cloneParams (v:Value)(n:Nat)(vs:List Value)(w:World)(hr:RowsAt w v 8 n vs)(h1 :∀u∈vs,u.oneCell'=true)(hn:n≤1000000):Calls Try.prog 64 #[v] w (kB 60 8 n vs w):=by
 have hc :∀f fn cuts L,Try.prog.funcs[f]? = some fn→Cx.ok ⟨Try.prog,tab,[],f,fn,cuts,w,L,none⟩:=fun f fn cuts L h=>⟨qI,trivial,h,mixed,fun _ h=>by cases h⟩
 obtain⟨hl,p,cap,rfl,hcap,hp⟩:=hr
 refine Run.s9 (tab:=tab) (pf:=[]) (cuts:=[]) mixed qI trivial Try.func64 rfl [.v (.slice p n cap)] 100 ⟨trivial,trivial⟩ rfl ?_
 conv=>whnf
 refine Run.eqNilS rfl rfl rfl rfl rfl rfl Try.underlying22 ?_
 cases p with
 |none=>
  refine Run.s0 (hc _ _ _ _ Try.func64) 100 _ ?_
  conv=>whnf
  have h0:n=0:=by
   rcases hp with hp|⟨_,_,hp,_⟩
   ·exact hp
   ·cases hp
  subst h0
  have hvs:vs=[]:=List.eq_nil_of_length_eq_zero (by simpa using hl)
  subst hvs
  exact⟨fun ρ w' hW _=>⟨.slice none 0 0,rfl,hW.toExt,World.ownsRow_nil _ _ _ _⟩⟩
 |some ad=>
  refine Run.s0 (hc _ _ _ _ Try.func64) 100 _ ?_
  conv=>whnf
  refine Run.rJ (T':=[(5,.opq 1),(6,.v (.slice (some ad) n cap))]) (M':=[]) 0 8 0 [] 60 rfl rfl (by omega) (AllP.mem ⟨.inr ⟨rfl,rfl⟩,.inl rfl,trivial⟩) (fun x hx=>by cases hx) ?_
  refine Run.rR (hc _ _ _ _ Try.func64) rfl rfl rfl rfl rfl rfl vs rfl hl (fun ρ w1 hW jj u hu=> ?_) h1 rfl rfl rfl rfl (by omega) ⟨by omega,by omega⟩ [] (fun x hx=>by cases hx) ?_
  ·have hr2:RowsAt w (.slice (some ad) n cap) 8 n vs:=⟨hl,some ad,cap,rfl,hcap,hp⟩
   obtain⟨_,p2,cap2,h2,_,h3⟩:=hr2.ext hW.toExt
   simp only[Value.slice.injEq]at h2
   obtain⟨rfl,_,rfl⟩:=h2
   rcases h3 with h3|⟨blk,off,h3,h4,h5⟩
   ·subst h3
    have hvs:vs=[]:=List.eq_nil_of_length_eq_zero (by simpa using hl)
    subst hvs
    cases hu
   ·obtain rfl:=Option.some.inj h3
    rw[zV];exact h5 jj u hu
  refine Run.s0 (hc _ _ _ _ Try.func64) 100 _ ?_
  conv=>whnf
  refine⟨fun ρ w' hW _=>⟨(SV.opq 2).conc ρ,rfl,hW.toExt,?_⟩⟩
  have:=hW.ownsNew (i:=2) (e:=8) rfl (by omega)
  rw[List.nil_append,zN,Nat.zero_add]at this
  exact this
theorem cloneSyns (v:Value)(n:Nat)(vs:List Value)(w:World)(hr:RowsAt w v 4 n vs)(h1 :∀u∈vs,u.oneCell'=true)(hn:n≤1000000):Calls Try.prog 65 #[v] w (kB 55 4 n vs w):=by
 have hc :∀f fn cuts L,Try.prog.funcs[f]? = some fn→Cx.ok ⟨Try.prog,tab,[],f,fn,cuts,w,L,none⟩:=fun f fn cuts L h=>⟨qI,trivial,h,mixed,fun _ h=>by cases h⟩
 obtain⟨hl,p,cap,rfl,hcap,hp⟩:=hr
 refine Run.s9 (tab:=tab) (pf:=[]) (cuts:=[]) mixed qI trivial Try.func65 rfl [.v (.slice p n cap)] 100 ⟨trivial,trivial⟩ rfl ?_
 conv=>whnf
 refine Run.eqNilS rfl rfl rfl rfl rfl rfl Try.underlying23 ?_
 cases p with
 |none=>
  refine Run.s0 (hc _ _ _ _ Try.func65) 100 _ ?_
  conv=>whnf
  have h0:n=0:=by
   rcases hp with hp|⟨_,_,hp,_⟩
   ·exact hp
   ·cases hp
  subst h0
  have hvs:vs=[]:=List.eq_nil_of_length_eq_zero (by simpa using hl)
  subst hvs
  exact⟨fun ρ w' hW _=>⟨.slice none 0 0,rfl,hW.toExt,World.ownsRow_nil _ _ _ _⟩⟩
 |some ad=>
  refine Run.s0 (hc _ _ _ _ Try.func65) 100 _ ?_
  conv=>whnf
  refine Run.rJ (T':=[(5,.opq 1),(6,.v (.slice (some ad) n cap))]) (M':=[]) 0 4 0 [] 55 rfl rfl (by omega) (AllP.mem ⟨.inr ⟨rfl,rfl⟩,.inl rfl,trivial⟩) (fun x hx=>by cases hx) ?_
  refine Run.rR (hc _ _ _ _ Try.func65) rfl rfl rfl rfl rfl rfl vs rfl hl (fun ρ w1 hW jj u hu=> ?_) h1 rfl rfl rfl rfl (by omega) ⟨by omega,by omega⟩ [] (fun x hx=>by cases hx) ?_
  ·have hr2:RowsAt w (.slice (some ad) n cap) 4 n vs:=⟨hl,some ad,cap,rfl,hcap,hp⟩
   obtain⟨_,p2,cap2,h2,_,h3⟩:=hr2.ext hW.toExt
   simp only[Value.slice.injEq]at h2
   obtain⟨rfl,_,rfl⟩:=h2
   rcases h3 with h3|⟨blk,off,h3,h4,h5⟩
   ·subst h3
    have hvs:vs=[]:=List.eq_nil_of_length_eq_zero (by simpa using hl)
    subst hvs
    cases hu
   ·obtain rfl:=Option.some.inj h3
    rw[zV];exact h5 jj u hu
  refine Run.s0 (hc _ _ _ _ Try.func65) 100 _ ?_
  conv=>whnf
  refine⟨fun ρ w' hW _=>⟨(SV.opq 2).conc ρ,rfl,hW.toExt,?_⟩⟩
  have:=hW.ownsNew (i:=2) (e:=4) rfl (by omega)
  rw[List.nil_append,zN,Nat.zero_add]at this
  exact this
end Go.Proofs.Ytnnlpdgnlccbjaa
namespace Go.Sx
section
variable {α β : Type} {f : α → List β} {e:Nat}
theorem yQ (hf :∀a,(f a).length=e) :∀(l:List α) (i:Nat),(l.flatMap f).drop (i*e)=(l.drop i).flatMap f
 | [],i=>by simp
 |a::l,0=>by simp
 |a::l,i+1=>by
  have h1:(i+1)*e=e+i*e:=by rw[Nat.succ_mul];omega
  rw[List.flatMap_cons,h1,←List.drop_drop,List.drop_left' (hf a),yQ hf l i];rfl
theorem j7 (hf :∀a,(f a).length=e)(l:List α):(l.flatMap f).length=l.length*e:=by
 induction l with
 |nil=>simp
 |cons a l ih=>rw[List.flatMap_cons,List.length_append,hf,ih,List.length_cons,Nat.succ_mul];omega
theorem takeD_of {γ : Type} :∀(l:List γ) (i n:Nat),i+n≤l.length→j3 l i n=some ((l.drop i).take n)
 |l,0,0,_=>by cases l<;>simp[j3]
 | [],0,n+1,h=>by simp at h
 |a::l,0,n+1,h=>by
  have:=takeD_of l 0 n (by simp at h;omega)
  simp[j3,this]
 | [],i+1,n,h=>by simp at h
 |a::l,i+1,n,h=>by
  have:=takeD_of l i n (by simp at h;omega)
  simp[j3,this]
theorem uS {γ : Type} :∀(l:List γ) (i:Nat) (r:List γ),i+r.length≤l.length→jL l i r=some (l.take i++r++l.drop (i+r.length))
 |l,0,[],_=>by cases l<;>simp[jL]
 | [],0,_::_,h=>by simp at h
 |a::l,0,b::r,h=>by
  have:=uS l 0 r (by simp at h ⊢;omega)
  simp[jL,this]
 | [],i+1,r,h=>by simp at h
 |a::l,i+1,r,h=>by
  have:=uS l i r (by simp at h;omega)
  rw[show i+1+r.length=(i+r.length)+1 by omega]
  cases r<;>simp[jL,this]
theorem takeD_flat (hf :∀a,(f a).length=e){l:List α}{i:Nat}(hi:i<l.length):j3 (l.flatMap f) (i*e) e=some (f l[i]):=by
 have hl:i*e+e≤(l.flatMap f).length:=by
  rw[j7 hf,←Nat.succ_mul];exact Nat.mul_le_mul_right _ hi
 rw[takeD_of _ _ _ hl,yQ hf,List.drop_eq_getElem_cons hi,List.flatMap_cons,List.take_append_of_le_length (by rw[hf];omega),List.take_of_length_le (by rw[hf];omega)]
theorem gK (hf :∀a,(f a).length=e){l:List α}{i k:Nat}(hi:i<l.length)(hk:k<e):get (l.flatMap f) (i*e+k)=get (f l[i]) k:=by
 rw[q8,q8,←List.getElem?_drop,yQ hf,List.drop_eq_getElem_cons hi,List.flatMap_cons,List.getElem?_append_left (by rw[hf];exact hk)]
theorem take_flat (hf :∀a,(f a).length=e) :∀(l:List α) (i:Nat),(l.flatMap f).take (i*e)=(l.take i).flatMap f
 | [],i=>by simp
 |a::l,0=>by simp
 |a::l,i+1=>by
  have h1:(i+1)*e=e+i*e:=by rw[Nat.succ_mul];omega
  rw[List.flatMap_cons,h1,List.take_append,hf,List.take_of_length_le (by rw[hf];omega),Nat.add_sub_cancel_left,take_flat hf l i];rfl
theorem splice {γ : Type}(A B C:List γ)(k:Nat)(b : γ)(hk:k<B.length):(A++B++C).take (A.length+k)++[b]++(A++B++C).drop (A.length+k+1)=A++B.set k b++C:=by
 rw[List.append_assoc A B C,List.take_length_add_append,Nat.add_assoc,List.drop_length_add_append,List.take_append_of_le_length (by omega),List.drop_append_of_le_length (by omega),List.set_eq_take_append_cons_drop,if_pos hk]
 simp
theorem flat_split {l:List α}{i:Nat}(hi:i<l.length):l.flatMap f=(l.take i).flatMap f++f l[i]++(l.drop (i+1)).flatMap f:=by
 have e0:l=l.take i++l[i]::l.drop (i+1):=(List.take_append_drop i l).symm.trans (by rw[List.drop_eq_getElem_cons hi])
 calc l.flatMap f=(l.take i++l[i]::l.drop (i+1)).flatMap f:=congrArg (List.flatMap f) e0
  _=_:=by rw[List.flatMap_append,List.flatMap_cons,List.append_assoc]
theorem set_flat {l:List α}{i:Nat}(hi:i<l.length)(a : α):(l.set i a).flatMap f=(l.take i).flatMap f++f a++(l.drop (i+1)).flatMap f:=by
 rw[List.set_eq_take_append_cons_drop,if_pos hi]
 simp
theorem writeD_flat (hf :∀a,(f a).length=e){l:List α}{i:Nat}(hi:i<l.length)(a : α):jL (l.flatMap f) (i*e) (f a)=some ((l.set i a).flatMap f):=by
 have hl:i*e+e≤(l.flatMap f).length:=by
  rw[j7 hf,←Nat.succ_mul];exact Nat.mul_le_mul_right _ hi
 rw[uS _ _ _ (by rw[hf];exact hl),set_flat hi,take_flat hf,hf,←Nat.succ_mul,yQ hf]
theorem writeD_fld (hf :∀a,(f a).length=e){l:List α}{i k:Nat}(hi:i<l.length)(hk:k<e)(b : β)(a : α)(ha:f a=(f l[i]).set k b):jL (l.flatMap f) (i*e+k) [b]=some ((l.set i a).flatMap f):=by
 have hl:i*e+e≤(l.flatMap f).length:=by
  rw[j7 hf,←Nat.succ_mul];exact Nat.mul_le_mul_right _ hi
 have hlen:=hf l[i]
 have hpre:((l.take i).flatMap f).length=i*e:=by
  rw[j7 hf,List.length_take,Nat.min_eq_left (Nat.le_of_lt hi)]
 rw[uS _ _ _ (by rw[List.length_singleton];omega),set_flat hi,ha,List.length_singleton,flat_split hi,←hpre,splice _ _ _ _ _ (by omega)]
end
section
variable {α : Type} {tab:Tab} {pf:PF} {T:Tm} {M:Mem} {n:Nat} {t:TypeId} {x y:Operand} {ti:TI} {j off e m:Nat}
theorem jI {f : α → List Value}{l:List α}(i:Nat)(ht:look tab t=some ti)(hx:ev T x=some (.ptr j off))(hM:M j=some (.rwin e m (l.flatMap f)))(hag:ti.sh.isAgg=true)(hsz:ti.size=e)(hf :∀a,(f a).length=e)(hoff:off=i*e)(hi:i<l.length) :
  opF tab pf T M n (.load t x)=some (.val none (.agg ((f l[i]).map .v))):=by
 subst hoff
 simp only[opF,xR,ht,hx,hM,hag,hsz,takeD_flat hf hi]
theorem q9 {f : α → List Value}{l:List α}{c:Value}(i k:Nat)(ht:look tab t=some ti)(hx:ev T x=some (.ptr j off))(hM:M j=some (.rwin e m (l.flatMap f)))(hag:ti.sh.isAgg=false)(hf :∀a,(f a).length=e)(hoff:off=i*e+k)(hi:i<l.length)(hk:k<e)
  (hc:get (f l[i]) k=some c):opF tab pf T M n (.load t x)=some (.val none (.v c)):=by
 subst hoff
 simp only[opF,xR,ht,hx,hM,hag,gK hf hi hk,hc]
theorem wK {f : α → List SV}{l:List α}{te:TypeId}(i:Nat)(ht:look tab t=some ti)(hx:ev T x=some (.ptr j off))(hM:M j=some (.row e m (l.flatMap f) te))(hag:ti.sh.isAgg=true)(hsz:ti.size=e)(hf :∀a,(f a).length=e)(hoff:off=i*e)(hi:i<l.length) :
  opF tab pf T M n (.load t x)=some (.val none (.agg (f l[i]))):=by
 subst hoff
 simp only[opF,xR,ht,hx,hM,hag,hsz,SObj.list,takeD_flat hf hi]
theorem yM {f : α → List SV}{l:List α}{te:TypeId}{c:SV}(i k:Nat)(ht:look tab t=some ti)(hx:ev T x=some (.ptr j off))(hM:M j=some (.row e m (l.flatMap f) te))(hag:ti.sh.isAgg=false)(hf :∀a,(f a).length=e)(hoff:off=i*e+k)(hi:i<l.length)(hk:k<e)
  (hc:get (f l[i]) k=some c):opF tab pf T M n (.load t x)=some (.val none c):=by
 subst hoff
 simp only[opF,xR,ht,hx,hM,hag,SObj.list,gK hf hi hk,hc]
theorem opF_storeR {f : α → List SV}{l:List α}{te:TypeId}{v:SV}(i:Nat)(a : α)(ht:look tab t=some ti)(hx:ev T x=some (.ptr j off))(hy:ev T y=some v)(hM:M j=some (.row e m (l.flatMap f) te))(hsz:ti.size=e)(hf :∀a,(f a).length=e)(hoff:off=i*e)(hi:i<l.length)(he:0<e)
  (hv:v.cells=f a) (hone:xP (f a)=true):opF tab pf T M n (.store t x y)=some (.wr j (.row e m ((l.set i a).flatMap f) te)):=by
 subst hoff
 have h1:Nat.beq (f a).length e=true:=by rw[hf];exact Nat.beq_refl e
 have h2:=writeD_flat hf hi a
 cases hc:f a with
 |nil=>have:=hf a;rw[hc]at this;simp at this;omega
 |cons c r=>
  rw[hc]at h1 h2 hone
  rw[hc]at hv
  simp only[opF,vT,ht,hx,hy,hM,SObj.list,hv,hsz,h1,hone,h2,SObj.put]
theorem yT {f : α → List SV}{l:List α}{te:TypeId}{v:SV}(i k:Nat)(a : α)(ht:look tab t=some ti)(hx:ev T x=some (.ptr j off))(hy:ev T y=some v)(hM:M j=some (.row e m (l.flatMap f) te))(hsz:ti.size=1)(hf :∀a,(f a).length=e)(hoff:off=i*e+k)(hi:i<l.length)(hk:k<e)
  (hv:v.cells=[v]) (hone:v.one=true) (ha:f a=(f l[i]).set k v):opF tab pf T M n (.store t x y)=some (.wr j (.row e m ((l.set i a).flatMap f) te)):=by
 subst hoff
 have h2:=writeD_fld hf hi hk v a ha
 simp only[opF,vT,ht,hx,hy,hM,SObj.list,hv,hsz,List.length_singleton,show Nat.beq 1 1=true from rfl,xP,hone,h2,SObj.put]
theorem yS {l:List Value}{c:Value}(i:Nat)(ht:look tab t=some ti)(hx:ev T x=some (.ptr j off))(hM:M j=some (.rwin e m l))(hag:ti.sh.isAgg=false)(hoff:off=i)(hc:l[i]? = some c):opF tab pf T M n (.load t x)=some (.val none (.v c)):=by
 subst hoff
 simp only[opF,xR,ht,hx,hM,hag,q8,hc]
theorem xW {l:List SV}{te:TypeId}{c:SV}(i:Nat)(ht:look tab t=some ti)(hx:ev T x=some (.ptr j off))(hM:M j=some (.row e m l te))(hag:ti.sh.isAgg=false)(hoff:off=i)(hc:l[i]? = some c):opF tab pf T M n (.load t x)=some (.val none c):=by
 subst hoff
 simp only[opF,xR,ht,hx,hM,hag,SObj.list,q8,hc]
theorem uJ {l:List SV}{te:TypeId}{v:SV}(i:Nat)(ht:look tab t=some ti)(hx:ev T x=some (.ptr j off))(hy:ev T y=some v)(hM:M j=some (.row e m l te))(hsz:ti.size=1)(hoff:off=i)(hi:i<l.length)(hv:v.cells=[v])(hone:v.one=true) :
  opF tab pf T M n (.store t x y)=some (.wr j (.row e m (l.set i v) te)):=by
 subst hoff
 have h2:jL l off [v]=some (l.set off v):=by
  rw[uS _ _ _ (by simp;omega),List.set_eq_take_append_cons_drop,if_pos hi];simp
 simp only[opF,vT,ht,hx,hy,hM,SObj.list,hv,hsz,List.length_singleton,show Nat.beq 1 1=true from rfl,xP,hone,h2,SObj.put]
end
theorem qQ (i sz:Nat):idx (i:Int) sz=i*sz:=by rw[j9,Int.toNat_natCast]
theorem Run.rD {c:Cx}{T:Nat→List (Nat×SV)}{M:Nat→List (Nat×SObj)}{n:Nat}{D:List Deferred}{todo:List Item}{R:Ending→World→Prop}(J:Nat→Prop)(N:Nat)(h0:J 0)
  (hstep :∀i,i<N→J i→(J (i+1)→Run c ⟨T (i+1),M (i+1),n,D,todo⟩ R)→Run c ⟨T i,M i,n,D,todo⟩ R) (hend:J N→Run c ⟨T N,M N,n,D,todo⟩ R):Run c ⟨T 0,M 0,n,D,todo⟩ R:=by
 have :∀k i,N-i=k→i≤N→J i→Run c ⟨T i,M i,n,D,todo⟩ R:=by
  intro k
  induction k with
  |zero=>
   intro i hk hi hj
   have e:i=N:=by omega
   subst e
   exact hend hj
  |succ k ih=>intro i hk hi hj;exact hstep i (by omega) hj (fun hj'=>ih (i+1) (by omega) (by omega) hj')
 exact this _ 0 rfl (Nat.zero_le _) h0
def rowsM:Nat→List (Value×Nat×Nat×List Value)→List (Nat×SObj)
 |_,[]=>[]
 |i,x::l=>(i,.rwin x.2.1 x.2.2.1 x.2.2.2)::rowsM (i+1) l
theorem wN :∀(l:List (Value×Nat×Nat×List Value)) (i:Nat) (y:Nat×SObj),y∈rowsM i l → ∃k x,l[k]? = some x∧y.1=i+k∧y.2 = .rwin x.2.1 x.2.2.1 x.2.2.2
 | [],i,y,h=>by simp[rowsM]at h
 |x::l,i,y,h=>by
  rcases List.mem_cons.1 h with rfl|h
  ·exact⟨0,x,rfl,rfl,rfl⟩
  ·obtain⟨k,x',h1,h2,h3⟩:=wN l (i+1) y h
   exact⟨k+1,x',by simpa using h1,by omega,h3⟩
theorem WI.rows (w:World)(l:List (Value×Nat×Nat×List Value))(h:AllP (fun x=>RowsAt w x.1 x.2.1 x.2.2.1 x.2.2.2) l):WI w [] (envW (l.map (·.1))) (look (rowsM 0 l)) (· < l.length) w:=by
 refine WI.tell (fun y hy=> ?_) (fun y hy z _ _ ho=> ?_) (fun y hy ho=> ?_) (fun p hp=>by cases hp)
 ·obtain⟨k,x,h1,h2,h3⟩:=wN l 0 y hy
  have hx:=AllP.mem h x (List.mem_of_getElem? h1)
  have hk:k<l.length:=(List.getElem?_eq_some_iff.1 h1).1
  rw[h3,h2,Nat.zero_add]
  refine⟨hk,trivial,envW_holds (v:=x.1) ?_ hx⟩
  simp[List.getD_eq_getElem?_getD,h1]
 ·obtain⟨k,x,_,_,h3⟩:=wN l 0 y hy
  rw[h3]at ho;exact ho.elim
 ·obtain⟨k,x,_,_,h3⟩:=wN l 0 y hy
  rw[h3]at ho;exact ho.elim
theorem qM {w:World}{l:List (Value×Nat×Nat×List Value)}(h:AllP (fun x=>RowsAt w x.1 x.2.1 x.2.2.1 x.2.2.2) l){k:Nat}{v:Value}(hk:(l.map (·.1))[k]? = some v):(SV.opq k).conc (envW (l.map (·.1)))=v:=by
 simp only[List.getElem?_map]at hk
 cases hx:l[k]? with
 |none=>simp[hx]at hk
 |some x=>
  simp[hx]at hk
  subst hk
  exact envW_conc (by simp[List.getD_eq_getElem?_getD,hx]) (AllP.mem h x (List.mem_of_getElem? hx))
theorem Run.rH {P:Program}{tab:Tab}{pf:PF}{cuts:List (Nat×Nat)}{f:FuncId}{fn:Func}{cd:Code}{w:World}{R:Ending→World→Prop}(hf:P.funcs[f]? = some fn)(hb:fn.body=some cd)(l:List (Value×Nat×Nat×List Value))(h:AllP (fun x=>RowsAt w x.1 x.2.1 x.2.2.1 x.2.2.2) l)
  (args:List SV) (vals:List Value) (M:List (Nat×SObj)) (n:Nat) (hM:rowsM 0 l=M) (hn:l.length=n) (hv:SV.concs (envW (l.map (·.1))) args=vals) (hs:SV.scs (· < n) args) (hN:Nat.ble (jT args) fn.ntmps=true)
  (hr:Run ⟨P,tab,pf,f,fn,cuts,w,[],none⟩ ⟨numb 0 args,M,n,[],[.code cd]⟩ R):Calls P f vals.toArray w R:=by
 subst hM hn
 rw[←hv]
 exact Run.calls hf hb _ args (rowsM 0 l) l.length hs hN (WI.rows w l h) hr
end Go.Sx
namespace Go.Proofs.Ytnnlpdgnlccbjaa
open Go.Sx
set_option maxRecDepth 100000
structure Syn where
 fr:Int
 to:Int
 w:Int
 d:Int
structure Net where
 N:List Prm
 inp:Int
 S:List Syn
def Prm.vals (p:Prm):List Value:=[.int .i64 p.lk,.int .i64 p.leak,.int .i64 p.bias,.int .i64 p.thr,.int .i64 p.rk,.int .i64 p.reset,.int .i64 p.floor,.int .i64 p.rest]
def Syn.vals (s:Syn):List Value:=[.int .i64 s.fr,.int .i64 s.to,.int .i64 s.w,.int .i64 s.d]
def Syn.cells (s:Syn):List SV:=[ii s.fr,ii s.to,ii s.w,ii s.d]
def Rul.vals (r:Rul):List Value:=[.int .i64 r.kind,.int .i64 r.up,.int .i64 r.down,.int .i64 r.shift,.int .i64 r.gain,.int .i64 r.keep,.int .i64 r.fade,.int .i64 r.lo,.int .i64 r.hi,.bool r.sum]
theorem Prm.vlen (p:Prm):p.vals.length=8:=rfl
theorem Syn.vlen (s:Syn):s.vals.length=4:=rfl
theorem Syn.clen (s:Syn):s.cells.length=4:=rfl
theorem Rul.vlen (r:Rul):r.vals.length=10:=rfl
def xU (w:World)(vN vS:Value)(n:Net):Prop:=RowsAt w vN 8 n.N.length (n.N.flatMap Prm.vals)∧RowsAt w vS 4 n.S.length (n.S.flatMap Syn.vals)
def netV (vN vS:Value)(n:Net):Value:=.agg #[vN,.int .i64 n.inp,vS]
def FSrc (f:Nat→Int→Int→Bool):Mem→List SV→Option (List Nat×SV):=fun M args=>match args with
 | [.agg [.opq a,.v (.int .i64 inp),.opq _],.v (.int .i64 fr)]=>match M a with
  |some (.rwin _ m _)=>some ([a],.v (.bool (f m inp fr)))
  |_=>none
 |_=>none
theorem Pure.ofSrc {g:FuncId}{f:Nat→Int→Int→Bool}(he:zU Try.prog g)(h :∀(p:Option Addr) m cap inp (p2:Option Addr) m2 cap2 fr w,Calls Try.prog g #[.agg #[.slice p m cap,.int .i64 inp,.slice p2 m2 cap2],.int .i64 fr] w fun e w'=>e = .returned (.bool (f m inp fr))∧Ext w w'):Pure Try.prog g (FSrc f) where
 ent:=he
 sc S M args bs v hv _:=by
  unfold FSrc at hv
  split at hv
  ·split at hv
   ·obtain⟨rfl,rfl⟩:=Prod.mk.inj (Option.some.inj hv);trivial
   ·cases hv
  ·cases hv
 cong M M' args bs v hv hb:=by
  unfold FSrc at hv ⊢
  split at hv
  ·rename_i a inp x fr
   split at hv
   ·rename_i e m vs hM
    obtain⟨rfl,rfl⟩:=Prod.mk.inj (Option.some.inj hv)
    have:=hb a (by simp)
    simp only[this,hM]
   ·cases hv
  ·cases hv
 run w0 L ρ M S args bs v w hW hv:=by
  unfold FSrc at hv
  split at hv
  ·rename_i a inp x fr
   split at hv
   ·rename_i e m vs hM
    obtain⟨rfl,rfl⟩:=Prod.mk.inj (Option.some.inj hv)
    obtain⟨_,_,_,hm,_⟩:=hW.mem a _ hM
    have:=h (ρ.h a).1 m (ρ.h a).2.2 inp (ρ.h x).1 (ρ.h x).2.1 (ρ.h x).2.2 fr w
    simp only[SV.concs,SV.conc,hm]
    exact this
   ·cases hv
  ·cases hv
def srcB (m:Nat)(inp fr:Int):Bool:=wi fr (W (-inp)) (W ((m:Int)-1))
theorem source_run (p:Option Addr)(m cap:Nat)(inp:Int)(p2:Option Addr)(m2 cap2:Nat)(fr:Int)(w:World):Calls Try.prog 75 #[.agg #[.slice p m cap,.int .i64 inp,.slice p2 m2 cap2],.int .i64 fr] w fun e w'=>e = .returned (.bool (srcB m inp fr))∧Ext w w':=by
 refine Run.s9 (tab:=tab) (pf:=[(76,F3 fun n lo hi=>.bool (wi n lo hi))]) (cuts:=[]) mixed qI ⟨v7,trivial⟩ Try.func75 rfl [.agg [.v (.slice p m cap),ii inp,.v (.slice p2 m2 cap2)],ii fr] 100 (by simp[SV.scs,SV.sc]) rfl ?_
 conv=>whnf
 exact⟨fun ρ w' hW _=>⟨rfl,hW.toExt⟩⟩
theorem source_pure:Pure Try.prog 75 (FSrc srcB):=Pure.ofSrc (ent _ _ Try.func75 (by kernel_rfl) rfl) source_run
def jH {α : Type}(f : α → Int):List α → Int
 | []=>0
 |a::l=>if f a=0 then jH f l else f a
theorem xV {α : Type}{f : α → Int} :∀{l:List α},(∀i (h:i<l.length),f l[i]=0)→jH f l=0
 | [],_=>rfl
 |a::l,h=>by
  have h0:=h 0 (by simp)
  simp only[List.getElem_cons_zero]at h0
  rw[jH,if_pos h0]
  exact xV fun i hi=>by have:=h (i+1) (by simp;omega);simpa using this
theorem vL {α : Type}{f : α → Int} :∀{l:List α} {i:Nat} (hi:i<l.length),(∀j (h:j<l.length),j<i→f l[j]=0)→f l[i]≠0→jH f l=f l[i]
 | [],i,hi,_,_=>by simp at hi
 |a::l,0,hi,_,h0=>by simp only[List.getElem_cons_zero]at h0 ⊢;rw[jH,if_neg h0]
 |a::l,i+1,hi,h,h0=>by
  have ha:=h 0 (by simp) (by omega)
  simp only[List.getElem_cons_zero]at ha
  rw[jH,if_pos ha]
  simp only[List.getElem_cons_succ]at h0 ⊢
  exact vL (by simpa using hi) (fun j hj hji=>by have:=h (j+1) (by simp;omega) (by omega);simpa using this) h0
def kA (m:Nat)(inp:Int)(s:Syn):Bool:=srcB m inp s.fr&&wi s.to 0 (W ((m:Int)-1))&&wi s.w (-32768) 32768&&wi s.d 1 16
def jA (n:Net):Int:=
 if (n.N.length:Int)=0 then 2 else if decide (1024<(n.N.length:Int))||decide (256<n.inp)||decide (8192<(n.S.length:Int))then 9 else if n.inp<0 then 3 else
 if jH chk n.N=0 then jH (fun s=>if kA n.N.length n.inp s then 0 else 3) n.S else jH chk n.N
theorem upJ {n i:Nat}{P:(j:Nat)→j<n→Prop}(hJ :∀j (h:j<n),j<i→P j h)(hi:i<n)(hp:P i hi) :∀j (h:j<n),j<i+1→P j h:=fun j hj hji=>by
 rcases Nat.lt_or_ge j i with h|h
 ·exact hJ j hj h
 ·have e:j=i:=by omega
  subst e;exact hp
abbrev pfn1 (ck:Prm→Int)(sb:Nat→Int→Int→Bool):PF:=[(74,FP fun p=>.int .i64 (ck p)),(75,FSrc sb),(76,F3 fun n lo hi=>.bool (wi n lo hi))]
theorem tV (vN vS : Value) (n : Net) (w : World) (hn : xU w vN vS n) : Calls Try.prog 42 #[netV vN vS n] w fun e w' => e = .returned (.int .i64 (jA n)) ∧ Ext w w' := by
  obtain ⟨ck,hck⟩ : ∃ ck,chk = ck := ⟨_,rfl⟩
  obtain ⟨sb,hsb⟩ : ∃ sb,srcB = sb := ⟨_,rfl⟩
  have hpf : PF.oks Try.prog (pfn1 ck sb) := by rw [← hck,← hsb]; exact ⟨check_pure,source_pure,v7,trivial⟩
  have hc : ∀ L,Cx.ok ⟨Try.prog,tab,pfn1 ck sb,42,Try.f42,[],w,L,none⟩ := fun L => ⟨qI,hpf,Try.func42,mixed,fun _ h => by cases h⟩
  obtain ⟨h1,h2⟩ := hn
  obtain ⟨N,inp,S⟩ := n
  simp only at h1 h2
  have hrows : AllP (fun x : Value × Nat × Nat × List Value => RowsAt w x.1 x.2.1 x.2.2.1 x.2.2.2) [(vN,8,N.length,N.flatMap Prm.vals),(vS,4,S.length,S.flatMap Syn.vals)] := ⟨h1,h2,trivial⟩
  refine Run.rH Try.func42 rfl _ hrows [.agg [.opq 0,ii inp,.opq 1]] [netV vN vS ⟨N,inp,S⟩] [(0,.rwin 8 N.length (N.flatMap Prm.vals)),(1,.rwin 4 S.length (S.flatMap Syn.vals))] 2 rfl rfl
    (by show [Value.agg [(SV.opq 0).conc _,.int .i64 inp,(SV.opq 1).conc _].toArray] = _; rw [qM hrows (k := 0) rfl,qM hrows (k := 1) rfl]; rfl) (by simp [SV.scs,SV.sc]) rfl (Run.s0 (hc _) 1000 _ ?_)
  conv => whnf
  have fin : ∀ x : Int,jA ⟨N,inp,S⟩ = x → ∀ {M : List (Nat × SObj)} {n : Nat} {c : Cx},c.w0 = w → c.L = [] → RetOk c M n (.v (.int .i64 x)) (fun e w' => e = .returned (.int .i64 (jA ⟨N,inp,S⟩)) ∧ Ext w w') :=
    fun x hx M n c hw hL => ⟨fun ρ w' hW _ => ⟨by rw [hx]; rfl,by rw [hw,hL] at hW; exact hW.toExt⟩⟩
  cases e1 : ((N.length : Int) == 0)
  case true =>
    conv => whnf
    exact fin 2 (by have : (N.length : Int) = 0 := by simpa using e1
                    simp only [jA]; rw [if_pos this]) rfl rfl
  have e1' : ¬ (N.length : Int) = 0 := by simpa using e1
  conv => whnf
  have nine : (decide (1024 < (N.length : Int)) || decide (256 < inp) || decide (8192 < (S.length : Int))) = true → jA ⟨N,inp,S⟩ = 9 := fun h => by simp only [jA]; rw [if_neg e1',if_pos h]
  cases e2 : decide (1024 < (N.length : Int))
  case true =>
    conv => whnf
    exact fin 9 (nine (by rw [e2]; rfl)) rfl rfl
  conv => whnf
  cases e3 : decide (256 < inp)
  case true =>
    conv => whnf
    exact fin 9 (nine (by rw [e2,e3]; rfl)) rfl rfl
  conv => whnf
  cases e4 : decide (8192 < (S.length : Int))
  case true =>
    conv => whnf
    exact fin 9 (nine (by rw [e2,e3,e4]; rfl)) rfl rfl
  conv => whnf
  have e5 : ¬ (decide (1024 < (N.length : Int)) || decide (256 < inp) || decide (8192 < (S.length : Int))) = true := by rw [e2,e3,e4]; decide
  have hNl : N.length ≤ 1024 := by have := of_decide_eq_false e2; omega
  have hSl : S.length ≤ 8192 := by have := of_decide_eq_false e4; omega
  cases e6 : decide (inp < 0)
  case true =>
    conv => whnf
    exact fin 3 (by simp only [jA]; rw [if_neg e1',if_neg e5,if_pos (of_decide_eq_true e6)]) rfl rfl
  have e6' := of_decide_eq_false e6
  conv => whnf
  refine Run.s6 (T' := [(1,.ptr 2 0),(2,ii 0),(34,.opq 0),(35,ii (N.length : Int)),(36,ii ((0 : Nat) : Int))]) (M' := [(2,.cells [.opq 0,ii inp,.opq 1] 25),(0,.rwin 8 N.length (N.flatMap Prm.vals)),(1,.rwin 4 S.length (S.flatMap Syn.vals))]) 3 ⟨⟨rfl,ltb rfl⟩,⟨rfl,trivial⟩,⟨rfl,ltb rfl⟩,⟨rfl,trivial⟩,⟨rfl,trivial⟩,trivial⟩ ⟨⟨rfl,ltb rfl,qE _ rfl⟩,⟨rfl,ltb rfl,trivial⟩,⟨rfl,ltb rfl,trivial⟩,trivial⟩ (fun q hq => by cases hq) ?_
  refine Run.rD (T := fun i => [(1,.ptr 2 0),(2,ii 0),(34,.opq 0),(35,ii (N.length : Int)),(36,ii (i : Int))]) (M := fun i => [(2,.cells [.opq 0,ii inp,.opq 1] 25),(0,.rwin 8 N.length (N.flatMap Prm.vals)),(1,.rwin 4 S.length (S.flatMap Syn.vals))]) (fun i => ∀ j (h : j < N.length),j < i → ck N[j] = 0) (N.length) ?_ ?_ ?_
  · exact (fun j _ h => absurd h (by omega))
  · intro i hi hJ ih
    refine Run.W1 (hc _) ?_
    conv => whnf
    rw [decide_eq_true (show (i : Int) < (N.length : Int) by omega)]
    conv => whnf
    refine ⟨by omega,?_⟩
    conv => whnf
    rw [jI (f := Prm.vals) (l := N) i rfl rfl rfl rfl rfl Prm.vlen (qQ i 8) hi]
    conv => whnf
    cases e7 : ck N[i] != 0
    case true =>
      conv => whnf
      have e7' : ck N[i] ≠ 0 := by simpa using e7
      exact fin _ (by simp only [jA]; rw [if_neg e1',if_neg e5,if_neg e6',hck,vL hi (fun j hj hji => hJ j hj hji) e7',if_neg e7']) rfl rfl
    have e7' : ck N[i] = 0 := by simpa using e7
    conv => whnf
    rw [z8 (i := i) (by omega)]
    exact Run.s6 (T' := [(1,.ptr 2 0),(2,ii 0),(34,.opq 0),(35,ii (N.length : Int)),(36,ii ((i + 1 : Nat) : Int))]) (M' := [(2,.cells [.opq 0,ii inp,.opq 1] 25),(0,.rwin 8 N.length (N.flatMap Prm.vals)),(1,.rwin 4 S.length (S.flatMap Syn.vals))]) 3 ⟨⟨rfl,ltb rfl⟩,⟨rfl,trivial⟩,⟨rfl,ltb rfl⟩,⟨rfl,trivial⟩,⟨rfl,trivial⟩,trivial⟩ ⟨⟨rfl,ltb rfl,qE _ rfl⟩,⟨rfl,ltb rfl,trivial⟩,⟨rfl,ltb rfl,trivial⟩,trivial⟩ (fun q hq => by cases hq) (ih (upJ hJ hi e7'))
  · intro hJ
    refine Run.W1 (hc _) ?_
    conv => whnf
    rw [decide_eq_false (show ¬ (N.length : Int) < (N.length : Int) by omega)]
    conv => whnf
    have hN0 : jH ck N = 0 := xV fun j hj => hJ j hj hj
    refine Run.s6 (T' := [(1,.ptr 2 0),(2,ii 0),(47,.opq 1),(48,ii (S.length : Int)),(49,ii ((0 : Nat) : Int))]) (M' := [(2,.cells [.opq 0,ii inp,.opq 1] 25),(0,.rwin 8 N.length (N.flatMap Prm.vals)),(1,.rwin 4 S.length (S.flatMap Syn.vals))]) 3 ⟨⟨rfl,ltb rfl⟩,⟨rfl,trivial⟩,⟨rfl,ltb rfl⟩,⟨rfl,trivial⟩,⟨rfl,trivial⟩,trivial⟩ ⟨⟨rfl,ltb rfl,qE _ rfl⟩,⟨rfl,ltb rfl,trivial⟩,⟨rfl,ltb rfl,trivial⟩,trivial⟩ (fun q hq => by cases hq) ?_
    refine Run.rD (T := fun i => [(1,.ptr 2 0),(2,ii 0),(47,.opq 1),(48,ii (S.length : Int)),(49,ii (i : Int))]) (M := fun i => [(2,.cells [.opq 0,ii inp,.opq 1] 25),(0,.rwin 8 N.length (N.flatMap Prm.vals)),(1,.rwin 4 S.length (S.flatMap Syn.vals))]) (fun i => ∀ j (h : j < S.length),j < i → kA N.length inp S[j] = true) (S.length) ?_ ?_ ?_
    · exact (fun j _ h => absurd h (by omega))
    · intro i hi hJ ih
      refine Run.W1 (hc _) ?_
      conv => whnf
      rw [decide_eq_true (show (i : Int) < (S.length : Int) by omega)]
      conv => whnf
      refine ⟨by omega,?_⟩
      conv => whnf
      rw [jI (f := Syn.vals) (l := S) i rfl rfl rfl rfl rfl Syn.vlen (qQ i 4) hi]
      conv => whnf
      have three : kA N.length inp S[i] = false → jA ⟨N,inp,S⟩ = 3 := fun h => by
        have hz : jH (fun s => if kA N.length inp s then (0 : Int) else 3) S = 3 := by
          have := vL (f := fun s => if kA N.length inp s then (0 : Int) else 3) hi (fun j hj hji => by simp [hJ j hj hji]) (by simp [h])
          rw [this]; simp [h]
        simp only [jA]; rw [if_neg e1',if_neg e5,if_neg e6',hck,if_pos hN0,hz]
      cases b1 : sb N.length inp S[i].fr
      case false =>
        conv => whnf
        exact fin 3 (three (by simp only [kA]; rw [hsb,b1]; rfl)) rfl rfl
      conv => whnf
      cases b2 : wi S[i].to 0 (IntKind.i64.wrap ((N.length : Int) - 1))
      case false =>
        conv => whnf
        exact fin 3 (three (by simp only [kA,W]; rw [hsb,b1,b2]; rfl)) rfl rfl
      conv => whnf
      cases b3 : wi S[i].w (-32768) 32768
      case false =>
        conv => whnf
        exact fin 3 (three (by simp only [kA,W]; rw [hsb,b1,b2,b3]; rfl)) rfl rfl
      conv => whnf
      cases b4 : wi S[i].d 1 16
      case false =>
        conv => whnf
        exact fin 3 (three (by simp only [kA,W]; rw [hsb,b1,b2,b3,b4]; rfl)) rfl rfl
      conv => whnf
      have e8 : kA N.length inp S[i] = true := by simp only [kA,W]; rw [hsb,b1,b2,b3,b4]; rfl
      rw [z8 (i := i) (by omega)]
      exact Run.s6 (T' := [(1,.ptr 2 0),(2,ii 0),(47,.opq 1),(48,ii (S.length : Int)),(49,ii ((i + 1 : Nat) : Int))]) (M' := [(2,.cells [.opq 0,ii inp,.opq 1] 25),(0,.rwin 8 N.length (N.flatMap Prm.vals)),(1,.rwin 4 S.length (S.flatMap Syn.vals))]) 3 ⟨⟨rfl,ltb rfl⟩,⟨rfl,trivial⟩,⟨rfl,ltb rfl⟩,⟨rfl,trivial⟩,⟨rfl,trivial⟩,trivial⟩ ⟨⟨rfl,ltb rfl,qE _ rfl⟩,⟨rfl,ltb rfl,trivial⟩,⟨rfl,ltb rfl,trivial⟩,trivial⟩ (fun q hq => by cases hq) (ih (upJ hJ hi e8))
    · intro hJ
      refine Run.W1 (hc _) ?_
      conv => whnf
      rw [decide_eq_false (show ¬ (S.length : Int) < (S.length : Int) by omega)]
      conv => whnf
      exact fin 0 (by simp only [jA]; rw [if_neg e1',if_neg e5,if_neg e6',hck,if_pos hN0]; exact xV (f := fun s => if kA N.length inp s then (0 : Int) else 3) (fun j hj => by simp [hJ j hj hj])) rfl rfl
end Go.Proofs.Ytnnlpdgnlccbjaa
namespace Go.Sx
section
variable {w0 w:World} {L:List (Nat×Nat)} {ρ:Env} {M:Mem} {S:Nat→Prop}
theorem WI.rowsAt (hW:WI w0 L ρ M S w){i e n:Nat}{vs:List Value}(hi:M i=some (.rwin e n vs)):RowsAt w ((SV.opq i).conc ρ) e n vs:=by
 obtain⟨_,_,h1,h2,h3,h4⟩:=hW.mem i _ hi
 refine⟨h1,(ρ.h i).1,(ρ.h i).2.2,by simp only[SV.conc,h2],h3,?_⟩
 rcases h4 with h4|⟨h4,h5,h6,h7⟩
 ·exact .inl h4
 ·refine .inr ⟨ρ.s i,ρ.o i,h4,Nat.lt_of_lt_of_le h5 hW.size,fun j x hj=> ?_⟩
  have:=h7 j x hj
  simp only[World.cell?]at this ⊢
  rw[hW.keep _ h5 h6];exact this
theorem WI.rowsAtR (hW:WI w0 L ρ M S w){i e n:Nat}{xs:List SV}{t:TypeId}(hi:M i=some (.row e n xs t))(he:0<e):RowsAt w ((SV.opq i).conc ρ) e n (SV.concs ρ xs):=by
 obtain⟨_,_,h0,h1,h2⟩:=hW.mem i _ hi
 rcases h2 with⟨h2,h3⟩|⟨cap,sp,h2,⟨h3,_⟩,h4⟩
 ·subst h3
  exact⟨by rw[qT,h1],none,0,by simp only[SV.conc,h2],Nat.le_refl _,.inl rfl⟩
 ·have hcap:n≤cap:=Nat.le_of_mul_le_mul_right (c:=e) (by omega) he
  refine⟨by rw[qT,h1],some ⟨ρ.s i,0,none⟩,cap,by simp only[SV.conc,h2],hcap,.inr ⟨ρ.s i,0,rfl,(Array.getElem?_eq_some_iff.1 h4).1,fun j x hj=> ?_⟩⟩
  have hjl:j<(SV.concs ρ xs).length:=by
   rcases Nat.lt_or_ge j (SV.concs ρ xs).length with h|h
   ·exact h
   ·rw[List.getElem?_eq_none h]at hj;cases hj
  simp only[World.cell?,h4,Nat.zero_add,Option.isSome_none,Bool.false_eq_true,if_false]
  rw[←Array.getElem?_toList]
  simp only[List.getElem?_append_left hjl,hj]
theorem WI.rowsAtS (hW:WI w0 L ρ M S w){i e n cap:Nat}{cs:List SV}{t:TypeId}(hi:M i=some (.cells cs t))(hn:cs.length=n*e)(hc:n≤cap):RowsAt w ((SV.slc i 0 n cap).conc ρ) e n (SV.concs ρ cs):=by
 obtain⟨_,_,h0,h1⟩:=hW.mem i _ hi
 refine⟨by rw[qT,hn],some ⟨ρ.s i,ρ.o i+0,none⟩,cap,rfl,hc,.inr ⟨ρ.s i,ρ.o i+0,rfl,(Array.getElem?_eq_some_iff.1 h1).1,fun j x hj=> ?_⟩⟩
 simp[World.cell?,h1,h0,hj]
end
def jW (q:Nat)(pl:List (Nat×Nat×Nat×(Option Addr×Nat×Nat))):Prop:=(∀p∈pl,p.1<q) ∧ ∀i,i<q → ∃x,(i,x)∈pl
theorem t4 {ρ ρ':Env}{q:Nat}{pl:List (Nat×Nat×Nat×(Option Addr×Nat×Nat))}(hc:jW q pl)(h :∀p∈pl,ρ.s p.1=p.2.1∧ρ.o p.1=p.2.2.1∧ρ.h p.1=p.2.2.2)(h' :∀p∈pl,ρ'.s p.1=p.2.1∧ρ'.o p.1=p.2.2.1∧ρ'.h p.1=p.2.2.2):Env.agree (· < q) ρ ρ':=by
 intro i hi
 obtain⟨x,hx⟩:=hc.2 i hi
 obtain⟨a1,a2,a3⟩:=h _ hx
 obtain⟨b1,b2,b3⟩:=h' _ hx
 exact⟨b1.trans a1.symm,b2.trans a2.symm,b3.trans a3.symm⟩
theorem WI.pinAgree {w0 w w' w1:World}{L L':List (Nat×Nat)}{ρ ρ':Env}{M M':Mem}{S S':Nat→Prop}{q:Nat}{pl:List (Nat×Nat×Nat×(Option Addr×Nat×Nat))}(hc:jW q pl)(hW:WI w0 L ρ M S w)(hq:M q=some (.pin pl))(hW':WI w1 L' ρ' M' S' w')(hq':M' q=some (.pin pl)):Env.agree (· < q) ρ ρ':=
 t4 hc (hW.mem q _ hq).2.2 (hW'.mem q _ hq').2.2
theorem Run.rQ {c:Cx}{T:List (Nat×SV)}{M:List (Nat×SObj)}{n:Nat}{D:List Deferred}{todo:List Item}{R:Ending→World→Prop}(h :∀pl,jW n pl→Run c ⟨T,(n,.pin pl)::M,n+1,D,todo⟩ R):Run c ⟨T,M,n,D,todo⟩ R:=by
 refine⟨fun ρ a w hi=> ?_⟩
 let pl:List (Nat×Nat×Nat×(Option Addr×Nat×Nat)):=(List.range n).map fun i=>(i,ρ.s i,ρ.o i,ρ.h i)
 have hcov:jW n pl:=⟨fun p hp=>by
  obtain⟨i,hi,rfl⟩:=List.mem_map.1 hp
  exact List.mem_range.1 hi,fun i hi=>⟨_,List.mem_map.2 ⟨i,List.mem_range.2 hi,rfl⟩⟩⟩
 have hW:=hi.wi.addR (i:=n) (Env.agree.refl _ ρ) (o:=.pin pl) hcov.1 (fun _ _ h=>h) (fun p hp=>by
  obtain⟨i,hi,rfl⟩:=List.mem_map.1 hp
  exact⟨rfl,rfl,rfl⟩)
 refine(h pl hcov).go ρ a w ⟨hi.sz,hi.tm.mono fun j (hj:j<n)=>Nat.lt_succ_of_lt hj,hi.df,?_⟩
 rw[qX]
 exact hW.mono fun j hj=>by have hj:j<n∨j=n:=hj;show j<n+1;omega
theorem Run.inlineF {c:Cx}{T T0:List (Nat×SV)}{M:List (Nat×SObj)}{n:Nat}{D:List Deferred}{ops:Array Oper}{i:Nat}{r:List Nat}{k:List Item}{R:Ending→World→Prop}{o:Oper}{f:Operand}{args:Array Operand}{ts:Array TypeId}
  {fv:SV} {g:FuncId} {caps vs:List SV} (ho:get ops.toList i=some o) (hop:o.op = .call { callee:=.value f,args:=args,argTypes:=ts }) (hw:zQ ops.toList (look T) o=some true) (hd:okD c.fn.ntmps o.dst=true)
  (hf:ev (look T) f=some fv) (hfv:zW fv=some (g,caps)) (hvs:evs (look T) args.toList=some vs) (hg:zU c.P g) {fn':Func} {cd:Code} (hfn:c.P.funcs[g]? = some fn') (hb:fn'.body=some cd) (hN:Nat.ble (jT (vs++caps)) fn'.ntmps=true)
  (cuts':List (Nat×Nat)) (pf':PF) {q:Nat} {pl:List (Nat×Nat×Nat×(Option Addr×Nat×Nat))} (hcov:jW q pl) (hq:look M q=some (.pin pl)) (Post:SV→List (Nat×SObj)→Nat→Prop)
  (hT0 :∀y∈T0,look T y.1=some y.2∧y.2.sc (· < q))
  (hrun:Run { c with f:=g,fn:=fn',cuts:=cuts',pf:=pf',rd:=none } ⟨numb 0 (vs++caps),M,n,[],[.code cd]⟩ (fun e w'=> ∃ ρ' v M' n',e = .returned (v.conc ρ')∧look M' q=some (.pin pl)∧v.sc (· < n')∧WI c.w0 c.L ρ' (look M') (· < n') w'∧Post v M' n'))
  (h :∀v M' n',Post v M' n'→Run c ⟨z5 T0 o.dst v,M',n',D,.inRegion ops r::k⟩ R):Run c ⟨T,M,n,D,.inRegion ops (i::r)::k⟩ R:=by
 refine⟨fun ρ a w hi=> ?_⟩
 rw[q8,Array.getElem?_toList]at ho
 refine TW.op ho (zI hi.tm hw) ?_
 obtain⟨h1,h2⟩:=qO hi.tm hf
 obtain⟨h3,h4⟩:=x7 (ρ:=ρ) (S:=(· < n)) hfv
 obtain⟨h5,h6⟩:=kX hi.tm hvs
 have hr:=x4 (P:=c.P) (w:=w) (o:=o) hg (h1.trans h3) hop
 have hargs:args.map a.eval++(SV.concs ρ caps).toArray=(SV.concs ρ (vs++caps)).toArray:=by
  rw[zZ,←h5];apply Array.ext';simp
 unfold Oc
 rw[hr]
 simp only
 rw[hargs]
 have hcalls:=Run.callsAt (c:={ c with f:=g,fn:=fn',cuts:=cuts',pf:=pf',rd:=none }) rfl hfn hb ρ (vs++caps) M n (z4 h6 (h4 h2)) hN hi.wi hrun
 refine hcalls.mono fun e w' ⟨ρ',v,M',n',he,hq',hv,hW',hp⟩=>⟨v.conc ρ',he,?_⟩
 have hag:=hi.wi.pinAgree hcov hq hW' hq'
 have hqn:q<n':=(hW'.mem q _ hq').1
 have hi':Inv c ρ' ⟨T0,M',n',D,.inRegion ops (i::r)::k⟩ a w':=by
  refine⟨hi.sz,fun t u ht=> ?_,hi.df,hW'⟩
  obtain⟨hT,hsc⟩:=hT0 _ (qF ht)
  obtain⟨g1,g2,_⟩:=hi.tm t u hT
  exact⟨g1,by rw[zY hag u hsc];exact g2,SV.sc_mono (fun j (hj:j<q)=>Nat.lt_trans hj hqn) _ hsc⟩
 exact(h v M' n' hp).go ρ' _ w' (hi'.put hd (Env.agree.refl _ _) (Nat.le_refl _) hv hW' _)
def IterW (P:Program)(g:FuncId)(caps:List Value)(I:World→Prop)(xs:List (List Value)):Prop:=
 ∀(l:Nat) (J:Nat→World→Prop),(∀i w w',J i w→Ext w w'→J i w')→(∀i w,J i w→I w) →
  (∀i w x,J i w→xs[i]? = some x→Yields P l x.toArray w fun b w'=>b=true∧J (i+1) w') →
  ∀w,J 0 w→Calls P g (#[.func (.yield l) #[] #[]]++caps.toArray) w fun e w'=>(∃v,e = .returned v)∧J xs.length w'
theorem Run.rangeF {c:Cx}(hrd:c.rd=none){T T0:List (Nat×SV)}{M:List (Nat×SObj)}{n:Nat}{k:List Item}{R:Ending→World→Prop}{x:Operand}{params:Array Tmp}{assign body:Code}{g:FuncId}{caps:List SV}{fv:SV}
  (hx:ev (look T) x=some fv) (hfv:zW fv=some (g,caps)) (hg:zU c.P g) {q:Nat} {pl:List (Nat×Nat×Nat×(Option Addr×Nat×Nat))} (hcov:jW q pl) (hq:look M q=some (.pin pl)) (hqn:q<n) (Mi:Nat→List (Nat×SObj)) (N:Nat) (xs:List (List Value))
  (hp:params.toList.Nodup) (hp2 :∀t∈params.toList,t<c.fn.ntmps) (hxs :∀v∈xs,v.length=params.size)
  (hN:n+2≤N) (hMi :∀i,look (Mi i) q=some (.pin pl)) (hT0 :∀y∈T0,look T y.1=some y.2∧y.2.sc (· < q)) (hM0 :∀y∈Mi 0,look M y.1=some y.2∧y.1<n)
  (I:World→Prop) (hit :∀ ρ w,WI c.w0 c.L ρ (look M) (· < n) w→IterW c.P g (SV.concs ρ caps) I xs)
  (hI :∀i L' ρ' a d w',Widens c.w0 c.L L'→WI c.w0 L' ρ' (look (inLoop n a c.f params assign body d (Mi i))) (· < N) w'→I w')
  (hround :∀i v,xs[i]? = some v → ∀L' l a d,Widens c.w0 c.L L'→(n+1,l)∈L'→(∀p∈L',p.1=n+1∨p.1=n∨p∈c.L)→Run { c with L:=L',rd:=some (n+1,l) } ⟨params.toList.zip (v.map .v)++T0,inLoop n a c.f params assign body d (Mi i),N,[],[.code assign,.beginRound,.code body]⟩
   (fun e w'=>e = .returned (.bool true) ∧ ∃ ρ,WI c.w0 L' ρ (look (inLoop n a c.f params assign body d (Mi (i+1)))) (· < N) w'))
  (hafter :∀L' a d,Widens c.w0 c.L L'→(n,d)∈L'→(∀p∈L',p.1=n+1∨p.1=n∨p∈c.L)→Run { c with L:=L' } ⟨T0,(n+1,.obj (.loop { jD a c.f params assign body d with state:=.exhausted }))::inLoop n a c.f params assign body d (Mi xs.length),N,[{ target:=.collected d,args:= #[] }],k⟩ R) :
  Run c ⟨T,M,n,[],.code (.rangeFunc x params assign body)::k⟩ R:=by
 refine⟨fun ρ a w hi=> ?_⟩
 have hrr:c.rr=none:=by simp[Cx.rr,hrd]
 rw[hrr]
 obtain⟨h1,h2⟩:=qO hi.tm hx
 obtain⟨h3,h4⟩:=x7 (ρ:=ρ) (S:=(· < n)) hfv
 refine TW.rangeFunc hg (h1.trans h3) ?_
 obtain⟨hW1,ha1⟩:=hi.wi.alloc (i:=n) (Nat.lt_irrefl n) (o:=.obj (.deferred (some []))) (x:=.deferred (some [])) trivial (fun ρ' w' _ hs _ hh=>⟨fun _ _ _=>by simp,by rw[hs];exact hh⟩)
 obtain⟨hW2,ha2⟩:=hW1.alloc (i:=n+1) (by simp) (o:=.obj (.loop (jD a c.f params assign body w.heap.size))) (x:=.loop (jD a c.f params assign body w.heap.size)) trivial (fun ρ' w' _ hs _ hh=>⟨fun _ _ _=>by simp,by rw[hs];exact hh⟩)
 generalize hρ:((ρ.bind n w.heap.size).bind (n+1) (w.alloc (.deferred (some []))).heap.size)=ρ2 at hW2 ha2
 have hl:ρ2.s (n+1)=w.heap.size+1:=by subst hρ;simp[Env.bind]
 have hd:ρ2.s n=w.heap.size:=by subst hρ;simp[Env.bind]
 have hW:WI c.w0 c.L ρ2 (look (inLoop n a c.f params assign body w.heap.size M)) (· < n+2) (World.loop w a c.f params assign body):=by
  simp only[inLoop,qX]
  exact hW2.mono fun j hj=>by have hj:(j<n∨j=n)∨j=n+1:=hj;omega
 let L':List (Nat×Nat):=(n+1,w.heap.size+1)::(n,w.heap.size)::c.L
 have hL' :∀p∈L',p.1=n+1∨p.1=n∨p∈c.L:=by
  intro p hp
  simp only[L',List.mem_cons]at hp
  rcases hp with rfl|rfl|hp
  ·exact .inl rfl
  ·exact .inr (.inl rfl)
  ·exact .inr (.inr hp)
 have hwid:Widens c.w0 c.L L':=⟨fun p hp=>by simp[L',hp],fun p hp=>by
  simp only[L',List.mem_cons]at hp
  have:=hi.wi.size
  rcases hp with rfl|rfl|hp
  ·right;show c.w0.heap.size≤w.heap.size+1;omega
  ·right;exact this
  ·exact .inl ⟨p,hp,rfl⟩⟩
 have hWL:=hW.widen hwid (fun p hp=>by
  simp only[L',List.mem_cons]at hp
  rcases hp with rfl|rfl|hp
  ·exact⟨by show n+1<n+2;omega,hl⟩
  ·exact⟨by show n<n+2;omega,hd⟩
  ·exact hW.lid p hp)
 have hW0:WI c.w0 L' ρ2 (look (inLoop n a c.f params assign body w.heap.size (Mi 0))) (· < N) (World.loop w a c.f params assign body):=by
  have hsub :∀j o,look (inLoop n a c.f params assign body w.heap.size (Mi 0)) j=some o→look (inLoop n a c.f params assign body w.heap.size M) j=some o:=by
   intro j o hj
   rw[inLoop,qP]at hj ⊢
   split at hj
   ·rename_i e;rw[if_pos e];exact hj
   ·rename_i e
    rw[if_neg e]
    rw[qP]at hj ⊢
    split at hj
    ·rename_i e2;rw[if_pos e2];exact hj
    ·rename_i e2
     rw[if_neg e2]
     exact(hM0 _ (qF hj)).1
  refine⟨fun j o hj=> ?_,fun j j' o o' hj hj'=>hWL.dist j j' o o' (hsub j o hj) (hsub j' o' hj'),fun j o hj=>hWL.new j o (hsub j o hj),fun p hp=> ?_,hWL.keep,hWL.size,hWL.os,hWL.tape,hWL.output⟩
  ·obtain⟨g1,g2,g3⟩:=hWL.mem j o (hsub j o hj)
   exact⟨by have:j<n+2:=g1;show j<N;omega,SObj.sc_mono (fun i (hi:i<n+2)=>by show i<N;omega) g2,g3⟩
  ·obtain⟨g1,g2⟩:=hWL.lid p hp
   exact⟨by have:p.1<n+2:=g1;show p.1<N;omega,g2⟩
 have hqi :∀i,look (inLoop n a c.f params assign body w.heap.size (Mi i)) q=some (.pin pl):=fun i=>by
  rw[inLoop,qP,if_neg (by omega),qP,if_neg (by omega)];exact hMi i
 have hTm :∀(ρ':Env) (i:Nat) (w':World),WI c.w0 L' ρ' (look (inLoop n a c.f params assign body w.heap.size (Mi i))) (· < N) w' → ∀t v,look T0 t=some v→t<a.tmps.size∧a.tmps.getD t undef=v.conc ρ'∧v.sc (· < N):=by
  intro ρ' i w' hW' t v ht
  obtain⟨hT,hsc⟩:=hT0 _ (qF ht)
  obtain⟨g1,g2,_⟩:=hi.tm t v hT
  have hag:=hi.wi.pinAgree hcov hq hW' (hqi i)
  exact⟨g1,by rw[zY hag v hsc];exact g2,SV.sc_mono (fun j (hj:j<q)=>by show j<N;omega) _ hsc⟩
 have hlid1 :∀(ρ':Env) (i:Nat) (w':World),WI c.w0 L' ρ' (look (inLoop n a c.f params assign body w.heap.size (Mi i))) (· < N) w'→ρ'.s (n+1)=w.heap.size+1:=fun ρ' i w' hW'=>(hW'.lid (n+1,w.heap.size+1) (by simp[L'])).2
 have hcalls:=hit ρ w hi.wi (w.heap.size+1) (fun i w'=> ∃ ρ',WI c.w0 L' ρ' (look (inLoop n a c.f params assign body w.heap.size (Mi i))) (· < N) w')
  (fun i w1 w2 ⟨ρ',h⟩ he=>⟨ρ',h.ext he⟩) (fun i w1 ⟨ρ',h⟩=>hI i L' ρ' a w.heap.size w1 hwid h) ?_ _ ⟨_,hW0⟩
 ·refine hcalls.mono fun e w' ⟨⟨v,he⟩,ρ',hW'⟩=>⟨v,he,?_⟩
  have e1:=hlid1 ρ' _ w' hW'
  have hm:(look (inLoop n a c.f params assign body w.heap.size (Mi xs.length))) (n+1)=some (.obj (.loop (jD a c.f params assign body w.heap.size))):=by
   rw[inLoop,qP,if_pos rfl]
  obtain⟨_,_,_,hh⟩:=hW'.mem _ _ hm
  rw[e1]at hh
  refine TW.endLoop hh (by simp[jD]) rfl ?_
  have hW3:=hW'.putO (o':=.loop { jD a c.f params assign body w.heap.size with state:=.exhausted }) hm (fun _ _ _=>by simp)
  rw[e1]at hW3
  have hrun:=(hafter L' a w.heap.size hwid (by simp[L']) hL').go ρ' (xQ w a) _ ⟨hi.sz,hTm ρ' _ w' hW',?_,by rw[qX];exact hW3⟩
  ·have hrr':({ c with L:=L' }:Cx).rr=none:=hrr
   rw[hrr']at hrun
   exact hrun
  ·simp only[xQ,hi.df]
 ·intro i w' v ⟨ρ',hW'⟩ hv
  have e1:=hlid1 ρ' _ w' hW'
  have hm:(look (inLoop n a c.f params assign body w.heap.size (Mi i))) (n+1)=some (.obj (.loop (jD a c.f params assign body w.heap.size))):=by
   rw[inLoop,qP,if_pos rfl]
  obtain⟨_,_,_,hh⟩:=hW'.mem _ _ hm
  rw[e1]at hh
  have hlen:v.length=params.size:=hxs v (List.mem_of_getElem? hv)
  refine⟨_,hh,by simpa[jD]using hlen,?_⟩
  have hfold:xE (jD a c.f params assign body w.heap.size) v.toArray=(params.toList.zip v).foldl (fun tmps (p:Nat×Value)=>tmps.setIfInBounds p.1 p.2) a.tmps:=by
   simp only[xE,jD]
   rw[←Array.foldl_toList]
   simp
  have hrun:=(hround i v hv L' (w.heap.size+1) a w.heap.size hwid (by simp[L']) hL').go ρ' { tmps:=xE (jD a c.f params assign body w.heap.size) v.toArray,defers:=[] } w' ⟨?_,?_,rfl,hW'⟩
  ·exact hrun.mono fun e w2 ⟨he,ρ2,h⟩=>⟨true,he,rfl,ρ2,h⟩
  ·rw[hfold,uW];exact hi.sz
  ·have hsz:a.tmps.size=c.fn.ntmps:=hi.sz
   have hzip :∀p∈params.toList.zip v,p.1<a.tmps.size:=fun p hpp=>by rw[hsz];exact hp2 _ (List.of_mem_zip hpp).1
   have hnd:((params.toList.zip v).map (·.1)).Nodup:=by
    rw[List.map_fst_zip (by simp[hlen])]
    exact hp
   intro t x ht
   rw[hfold,uW,foldl_get _ _ _ hnd hzip]
   have hz:params.toList.zip (v.map SV.v)=(params.toList.zip v).map fun p=>(p.1,SV.v p.2):=by
    rw[List.zip_map_right];rfl
   rw[sO,hz,look_map]at ht
   cases hq:look (params.toList.zip v) t with
   |some y=>
    rw[hq]at ht
    obtain rfl:SV.v y=x:=by simpa using ht
    exact⟨hzip _ (qF hq),rfl,trivial⟩
   |none=>
    rw[hq]at ht
    exact hTm ρ' i w' hW' t x (by simpa using ht)
theorem Run.tell {c:Cx}{T T':List (Nat×SV)}{M:List (Nat×SObj)}{n:Nat}{D:List Deferred}{todo:List Item}{R:Ending→World→Prop}
  (hT :∀x∈T',∃v,look T x.1=some v∧x.2.sc (· < n) ∧ ∀ ρ w,WI c.w0 c.L ρ (look M) (· < n) w→v.conc ρ=x.2.conc ρ) (h:Run c ⟨T',M,n,D,todo⟩ R):Run c ⟨T,M,n,D,todo⟩ R:=by
 refine⟨fun ρ a w hi=>h.go ρ a w ⟨hi.sz,fun t v ht=> ?_,hi.df,hi.wi⟩⟩
 obtain⟨u,h1,h2,h3⟩:=hT _ (qF ht)
 obtain⟨g1,g2,_⟩:=hi.tm t u h1
 exact⟨g1,by rw[←h3 ρ w hi.wi];exact g2,h2⟩
structure ModF (w:World) (F:Nat→Prop) (w':World):Prop where
 keep :∀k,k<w.heap.size → ¬F k→w'.heap[k]? = w.heap[k]?
 size:w.heap.size≤w'.heap.size
 os:w'.os=w.os
 tape:w'.tape=w.tape
 output:w'.output=w.output
theorem Ext.modF {w w':World}(h:Ext w w')(F:Nat→Prop):ModF w F w':=⟨fun k hk _=>h.keep k hk,h.size,h.os,h.tape,h.output⟩
theorem Run.callW {c:Cx}{T:List (Nat×SV)}{M:List (Nat×SObj)}{n:Nat}{D:List Deferred}{ops:Array Oper}{i:Nat}{r:List Nat}{k:List Item}{R:Ending→World→Prop}{o:Oper}{f:Operand}{args:Array Operand}{ts:Array TypeId}
  {fv:SV} {g:FuncId} {caps vs:List SV} (Q:Env→World→Ending→World→Prop) (hcall :∀ ρ w,WI c.w0 c.L ρ (look M) (· < n) w→Calls c.P g (SV.concs ρ (vs++caps)).toArray w (Q ρ w)) (hg:zU c.P g)
  (ho:get ops.toList i=some o) (hop:o.op = .call { callee:=.value f,args:=args,argTypes:=ts }) (hw:zQ ops.toList (look T) o=some true) (hd:okD c.fn.ntmps o.dst=true)
  (hf:ev (look T) f=some fv) (hfv:zW fv=some (g,caps)) (hvs:evs (look T) args.toList=some vs)
  (hnext :∀ ρ w e w',WI c.w0 c.L ρ (look M) (· < n) w→Q ρ w e w' → ∃v T' ρ' M' n' L',e = .returned (v.conc ρ')∧v.sc (· < n')∧(∀x∈T',∃u,look T x.1=some u∧u.conc ρ=x.2.conc ρ'∧x.2.sc (· < n'))∧WI w' L' ρ' (look M') (· < n') w' ∧
   Run { c with w0:=w',L:=L' } ⟨z5 T' o.dst v,M',n',D,.inRegion ops r::k⟩ R):Run c ⟨T,M,n,D,.inRegion ops (i::r)::k⟩ R:=by
 refine⟨fun ρ a w hi=> ?_⟩
 rw[q8,Array.getElem?_toList]at ho
 refine TW.op ho (zI hi.tm hw) ?_
 obtain⟨h1,h2⟩:=qO hi.tm hf
 obtain⟨h3,h4⟩:=x7 (ρ:=ρ) (S:=(· < n)) hfv
 obtain⟨h5,h6⟩:=kX hi.tm hvs
 have hr:=x4 (P:=c.P) (w:=w) (o:=o) hg (h1.trans h3) hop
 have hargs:args.map a.eval++(SV.concs ρ caps).toArray=(SV.concs ρ (vs++caps)).toArray:=by
  rw[zZ,←h5];apply Array.ext';simp
 unfold Oc
 rw[hr]
 simp only
 rw[hargs]
 refine(hcall ρ w hi.wi).mono fun e w' hQ=> ?_
 obtain⟨v,T',ρ',M',n',L',he,hv,hT,hW,hR⟩:=hnext ρ w e w' hi.wi hQ
 refine⟨_,he,?_⟩
 have hi':Inv { c with w0:=w',L:=L' } ρ' ⟨T',M',n',D,.inRegion ops (i::r)::k⟩ a w':=by
  refine⟨hi.sz,fun t v ht=> ?_,hi.df,hW⟩
  obtain⟨u,h1,h2,h3⟩:=hT _ (qF ht)
  obtain⟨g1,g2,_⟩:=hi.tm t _ h1
  exact⟨g1,by rw[←h2];exact g2,h3⟩
 exact hR.go ρ' _ w' (hi'.put hd (Env.agree.refl _ _) (Nat.le_refl _) hv hW _)
def SObj.away (ρ:Env)(F:Nat→Prop)(i:Nat):SObj→Prop
 | .rwin _ n _=>n=0 ∨ ¬F (ρ.s i)
 | .row _ _ _ _=>(ρ.h i).1≠none → ¬F (ρ.s i)
 | .kmap _ _ _=>ρ.o i=0 → ¬F (ρ.s i)
 | .kwin _ _=>ρ.o i=0 → ¬F (ρ.s i)
 | .pin _=>True
 | .swin _ _ _=> ∀b,¬F b
 |_=> ¬F (ρ.s i)
theorem WI.rebase {w0 w w':World}{L:List (Nat×Nat)}{ρ:Env}{M:List (Nat×SObj)}{n:Nat}{F:Nat→Prop}(hW:WI w0 L ρ (look M) (· < n) w)(hF:ModF w F w')(is:List Nat)(M':List (Nat×SObj))(his :∀i∈is,i<n ∧ ∃o,look M i=some o∧o.occ ρ i)
  (hM' :∀x∈M',look M x.1=some x.2∧x.2.away ρ F x.1∧(x.2.occ ρ x.1→x.1∈is)):WI w' (is.map fun i=>(i,ρ.s i)) ρ (look M') (· < n) w':=by
 have hLw :∀b,b<w0.heap.size→(∀p∈L,p.2≠b) → ∀p∈is.map (fun i=>(i,ρ.s i)),p.2≠b:=by
  intro b hb hL p hp
  obtain⟨i,hi,rfl⟩:=List.mem_map.1 hp
  obtain⟨_,o,ho,hocc⟩:=his i hi
  rcases hW.new i o ho hocc with⟨p,hp,hpe⟩|hge
  ·exact fun e=>hL p hp (hpe.trans e)
  ·show ρ.s i≠b;omega
 have hlt :∀b,b<w0.heap.size→b<w'.heap.size:=fun b hb=>by have:=hW.size;have:=hF.size;omega
 have heq :∀b,b<w0.heap.size→(∀p∈L,p.2≠b) → ¬F b→w'.heap[b]? = w0.heap[b]? :=fun b hb hL hf=>(hF.keep b (by have:=hW.size;omega) hf).trans (hW.keep b hb hL)
 refine⟨fun i o hi=> ?_,fun i j oi oj hi hj=>hW.dist i j oi oj (hM' _ (qF hi)).1 (hM' _ (qF hj)).1,fun i o hi ho=>.inl ⟨(i,ρ.s i),List.mem_map.2 ⟨i,(hM' _ (qF hi)).2.2 ho,rfl⟩,rfl⟩,fun p hp=> ?_,fun _ _ _=>rfl,Nat.le_refl _,rfl,rfl,rfl⟩
 ·obtain⟨h1,h2,_⟩:=hM' _ (qF hi)
  obtain⟨g1,g2,g3⟩:=hW.mem i o h1
  refine⟨g1,g2,?_⟩
  have key:(o.occ ρ i → ¬F (ρ.s i))→(∀vs,o ≠ .win vs)→(∀e n vs,o ≠ .rwin e n vs)→(∀p l,o ≠ .kwin p l)→(∀e n f,o ≠ .swin e n f)→o.holds w' (is.map fun i=>(i,ρ.s i)) ρ i w':=by
   intro hoc n1 n2 n3 n4
   have:=SObj.rG (w':=w') (Env.agree.refl (· < n) ρ) g1 g2 (fun ho=>hF.keep _ (SObj.rE g3 ho) (hoc ho)) g3
   cases o<;>first
    |exact absurd rfl (n1 _)
    |exact absurd rfl (n2 _ _ _)
    |exact absurd rfl (n3 _ _)
    |exact absurd rfl (n4 _ _ _)
    |exact this
  cases o with
  |win vs=>
   obtain⟨k1,k2,k3⟩:=g3
   refine⟨hlt _ k1,hLw _ k1 k2,fun j x hj=> ?_⟩
   have:=k3 j x hj
   simp only[World.cell?]at this ⊢
   rw[heq _ k1 k2 h2];exact this
  |rwin e m vs=>
   obtain⟨k0,k00,k01,kk⟩:=g3
   refine⟨k0,k00,k01,?_⟩
   rcases kk with kk|⟨k,k1,k2,k3⟩
   ·exact .inl kk
   ·rcases h2 with h2|h2
    ·exact .inl h2
    ·refine .inr ⟨k,hlt _ k1,hLw _ k1 k2,fun j x hj=> ?_⟩
     have:=k3 j x hj
     simp only[World.cell?]at this ⊢
     rw[heq _ k1 k2 h2];exact this
  |kwin pk l=>
   obtain⟨k0,kk⟩:=g3
   refine⟨k0,kk.imp (fun⟨k,k1,k2,k3⟩=>⟨k,hlt _ k1,hLw _ k1 k2,?_⟩) id⟩
   rw[heq _ k1 k2 (h2 k)];exact k3
  |swin e m f=>
   exact⟨g3.1,g3.2.mono fun b hb=>⟨⟨hlt _ hb.1,hLw _ hb.1 hb.2⟩,heq _ hb.1 hb.2 (h2 b)⟩⟩
  |cells cs t=>exact key (fun _=>h2) (fun _=>by simp) (fun _ _ _=>by simp) (fun _ _=>by simp) (fun _ _ _=>by simp)
  |row e m xs t=>exact key h2 (fun _=>by simp) (fun _ _ _=>by simp) (fun _ _=>by simp) (fun _ _ _=>by simp)
  |obj o=>exact key (fun _=>h2) (fun _=>by simp) (fun _ _ _=>by simp) (fun _ _=>by simp) (fun _ _ _=>by simp)
  |mid pre post cs t=>exact key (fun _=>h2) (fun _=>by simp) (fun _ _ _=>by simp) (fun _ _=>by simp) (fun _ _ _=>by simp)
  |kmap pk nn l=>exact key h2 (fun _=>by simp) (fun _ _ _=>by simp) (fun _ _=>by simp) (fun _ _ _=>by simp)
  |pin l=>exact key (fun h=>h.elim) (fun _=>by simp) (fun _ _ _=>by simp) (fun _ _=>by simp) (fun _ _ _=>by simp)
 ·obtain⟨i,hi,rfl⟩:=List.mem_map.1 hp
  exact⟨(his i hi).1,rfl⟩
end Go.Sx
namespace Go.Sx
theorem pnx {B n:Nat}{pl:List (Nat×Nat×Nat×(Option Addr×Nat×Nat))}(h:jW B pl)(hn:Nat.ble B n=true):(SObj.pin pl).sc (· < n):=fun p hp=>Nat.lt_of_lt_of_le (h.1 p hp) (Nat.le_of_ble_eq_true hn)
end Go.Sx
namespace Go.Proofs.Ytnnlpdgnlccbjaa
open Go.Sx
set_option maxRecDepth 100000
def vD (rs:List Rul)(x:Int×Syn):Int:=
 if wi x.1 (-1) (W ((rs.length:Int)-1))=false then 3 else if 0≤x.1 then match rs[x.1.toNat]? with
  |some r=>if wi x.2.w r.lo r.hi then 0 else 21
  |none=>0
 else 0
def qZ (n:Net)(rs:List Rul)(pl:List Int):Int:=
 if jA n≠0 then jA n else if 16<(rs.length:Int)then 9 else if jH yN rs≠0 then jH yN rs else if (pl.length:Int)≠(n.S.length:Int)then 13 else jH (vD rs) (pl.zip n.S)
theorem xL {l:List Int}{i:Nat}(h:i<l.length):(qD l)[i]? = some (.int .i64 l[i]):=by simp[qD,h]
theorem uE (vN vS : Value) (n : Net) (vR : Value) (rs : List Rul) (vP : Value) (pl : List Int) (w : World) (hn : xU w vN vS n) (hr : RowsAt w vR 10 rs.length (rs.flatMap Rul.vals)) (hpl : RowsAt w vP 1 pl.length (qD pl)) :
    Calls Try.prog 15 #[netV vN vS n,vR,vP] w fun e w' => e = .returned (.int .i64 (qZ n rs pl)) ∧ Ext w w' := by
  obtain ⟨rk,hrk⟩ : ∃ rk,yN = rk := ⟨_,rfl⟩
  obtain ⟨nk,hnk⟩ : ∃ nk,jA = nk := ⟨_,rfl⟩
  have hpf : PF.oks Try.prog [(43,FRul fun r => .int .i64 (rk r)),(44,F3 fun n lo hi => .bool (wi n lo hi))] := by rw [← hrk]; exact ⟨sN,v5,trivial⟩
  have hc : ∀ L,Cx.ok ⟨Try.prog,tab,[(43,FRul fun r => .int .i64 (rk r)),(44,F3 fun n lo hi => .bool (wi n lo hi))],15,Try.f15,[],w,L,none⟩ := fun L => ⟨qI,hpf,Try.func15,mixed,fun _ h => by cases h⟩
  obtain ⟨h1,h2⟩ := hn
  obtain ⟨N,inp,S⟩ := n
  simp only at h1 h2
  have hrows : AllP (fun x : Value × Nat × Nat × List Value => RowsAt w x.1 x.2.1 x.2.2.1 x.2.2.2) [(vN,8,N.length,N.flatMap Prm.vals),(vS,4,S.length,S.flatMap Syn.vals),(vR,10,rs.length,rs.flatMap Rul.vals),(vP,1,pl.length,qD pl)] := ⟨h1,h2,hr,hpl,trivial⟩
  refine Run.rH Try.func15 rfl _ hrows [.agg [.opq 0,ii inp,.opq 1],.opq 2,.opq 3] [netV vN vS ⟨N,inp,S⟩,vR,vP] [(0,.rwin 8 N.length (N.flatMap Prm.vals)),(1,.rwin 4 S.length (S.flatMap Syn.vals)),(2,.rwin 10 rs.length (rs.flatMap Rul.vals)),(3,.rwin 1 pl.length (qD pl))] 4 rfl rfl
    (by show [Value.agg [(SV.opq 0).conc _,.int .i64 inp,(SV.opq 1).conc _].toArray,(SV.opq 2).conc _,(SV.opq 3).conc _] = _; rw [qM hrows (k := 0) rfl,qM hrows (k := 1) rfl,qM hrows (k := 2) rfl,qM hrows (k := 3) rfl]; rfl) (by simp [SV.scs,SV.sc]) rfl (Run.s0 (hc _) 1000 _ ?_)
  conv => whnf
  have fin : ∀ x : Int,qZ ⟨N,inp,S⟩ rs pl = x → ∀ {M : List (Nat × SObj)} {n : Nat} {c : Cx},c.w0 = w → c.L = [] → RetOk c M n (.v (.int .i64 x)) (fun e w' => e = .returned (.int .i64 (qZ ⟨N,inp,S⟩ rs pl)) ∧ Ext w w') :=
    fun x hx M n c hw hL => ⟨fun ρ w' hW _ => ⟨by rw [hx]; rfl,by rw [hw,hL] at hW; exact hW.toExt⟩⟩
  refine Run.rB (g := 42) (vs := [.agg [.opq 0,ii inp,.opq 1]]) (caps := []) (ii (nk ⟨N,inp,S⟩)) (fun ρ w1 hW => by
    rw [← hnk]
    exact tV ((SV.opq 0).conc ρ) ((SV.opq 1).conc ρ) ⟨N,inp,S⟩ w1 ⟨hW.rowsAt rfl,hW.rowsAt rfl⟩) (ent _ _ Try.func42 (by kernel_rfl) rfl) rfl rfl rfl rfl rfl rfl rfl trivial ?_
  refine Run.W1 (hc _) ?_
  conv => whnf
  cases e1 : nk ⟨N,inp,S⟩ != 0
  case true =>
    conv => whnf
    exact fin _ (by have e1' : nk ⟨N, inp, S⟩ ≠ 0 := by simpa using e1
                    simp only [qZ]; rw [hnk,if_pos e1']) rfl rfl
  have e1' : ¬ nk ⟨N,inp,S⟩ ≠ 0 := by simpa using e1
  conv => whnf
  cases e2 : decide (16 < (rs.length : Int))
  case true =>
    conv => whnf
    exact fin 9 (by simp only [qZ]; rw [hnk,if_neg e1',if_pos (of_decide_eq_true e2)]) rfl rfl
  have e2' := of_decide_eq_false e2
  have hSl : S.length ≤ 8192 := by
    have h0 : jA ⟨N,inp,S⟩ = 0 := by rw [hnk]; simpa using e1
    unfold jA at h0
    split at h0
    · cases h0
    · split at h0
      · cases h0
      · rename_i hh
        simp at hh
        omega
  conv => whnf
  refine Run.s6 (T' := [(1,.opq 2),(2,.opq 3),(3,.ptr 4 0),(6,ii 0),(21,.opq 2),(22,ii (rs.length : Int)),(23,ii ((0 : Nat) : Int))]) (M' := [(4,.cells [.opq 0,ii inp,.opq 1] 25),(0,.rwin 8 N.length (N.flatMap Prm.vals)),(1,.rwin 4 S.length (S.flatMap Syn.vals)),(2,.rwin 10 rs.length (rs.flatMap Rul.vals)),(3,.rwin 1 pl.length (qD pl))]) 5 (by repeat first | exact trivial | refine ⟨⟨rfl,ltb rfl⟩,?_⟩ | refine ⟨⟨rfl,trivial⟩,?_⟩) (by repeat first | exact trivial | refine ⟨⟨rfl,ltb rfl,qE _ rfl⟩,?_⟩ | refine ⟨⟨rfl,ltb rfl,trivial⟩,?_⟩) (fun q hq => by cases hq) ?_
  refine Run.rD (T := fun i => [(1,.opq 2),(2,.opq 3),(3,.ptr 4 0),(6,ii 0),(21,.opq 2),(22,ii (rs.length : Int)),(23,ii (i : Int))]) (M := fun i => [(4,.cells [.opq 0,ii inp,.opq 1] 25),(0,.rwin 8 N.length (N.flatMap Prm.vals)),(1,.rwin 4 S.length (S.flatMap Syn.vals)),(2,.rwin 10 rs.length (rs.flatMap Rul.vals)),(3,.rwin 1 pl.length (qD pl))]) (fun i => ∀ j (h : j < rs.length),j < i → rk rs[j] = 0) (rs.length) ?_ ?_ ?_
  · exact (fun j _ h => absurd h (by omega))
  · intro i hi hJ ih
    refine Run.W1 (hc _) ?_
    conv => whnf
    rw [decide_eq_true (show (i : Int) < (rs.length : Int) by omega)]
    conv => whnf
    refine ⟨by omega,?_⟩
    conv => whnf
    rw [jI (f := Rul.vals) (l := rs) i rfl rfl rfl rfl rfl Rul.vlen (qQ i 10) hi]
    conv => whnf
    cases e7 : rk rs[i] != 0
    case true =>
      conv => whnf
      have e7' : rk rs[i] ≠ 0 := by simpa using e7
      exact fin _ (by simp only [qZ]; rw [hnk,if_neg e1',if_neg e2',hrk,vL hi (fun j hj hji => hJ j hj hji) e7',if_pos e7']) rfl rfl
    have e7' : rk rs[i] = 0 := by simpa using e7
    conv => whnf
    rw [z8 (i := i) (by omega)]
    exact Run.s6 (T' := [(1,.opq 2),(2,.opq 3),(3,.ptr 4 0),(6,ii 0),(21,.opq 2),(22,ii (rs.length : Int)),(23,ii ((i + 1 : Nat) : Int))]) (M' := [(4,.cells [.opq 0,ii inp,.opq 1] 25),(0,.rwin 8 N.length (N.flatMap Prm.vals)),(1,.rwin 4 S.length (S.flatMap Syn.vals)),(2,.rwin 10 rs.length (rs.flatMap Rul.vals)),(3,.rwin 1 pl.length (qD pl))]) 5 (by repeat first | exact trivial | refine ⟨⟨rfl,ltb rfl⟩,?_⟩ | refine ⟨⟨rfl,trivial⟩,?_⟩) (by repeat first | exact trivial | refine ⟨⟨rfl,ltb rfl,qE _ rfl⟩,?_⟩ | refine ⟨⟨rfl,ltb rfl,trivial⟩,?_⟩) (fun q hq => by cases hq) (ih (upJ hJ hi e7'))
  · intro hJ
    refine Run.W1 (hc _) ?_
    conv => whnf
    rw [decide_eq_false (show ¬ (rs.length : Int) < (rs.length : Int) by omega)]
    conv => whnf
    have hR0 : jH rk rs = 0 := xV fun j hj => hJ j hj hj
    cases e3 : ((pl.length : Int) != (S.length : Int))
    case true =>
      conv => whnf
      have e3' : (pl.length : Int) ≠ (S.length : Int) := by simpa using e3
      exact fin 13 (by simp only [qZ]; rw [hnk,if_neg e1',if_neg e2',hrk,hR0,if_neg (by simp),if_pos e3']) rfl rfl
    have e3' : ¬ (pl.length : Int) ≠ (S.length : Int) := by simpa using e3
    conv => whnf
    refine Run.s6 (T' := [(1,.opq 2),(3,.ptr 4 0),(6,ii 0),(39,.opq 3),(40,ii (pl.length : Int)),(41,ii ((0 : Nat) : Int))]) (M' := [(4,.cells [.opq 0,ii inp,.opq 1] 25),(0,.rwin 8 N.length (N.flatMap Prm.vals)),(1,.rwin 4 S.length (S.flatMap Syn.vals)),(2,.rwin 10 rs.length (rs.flatMap Rul.vals)),(3,.rwin 1 pl.length (qD pl))]) 5 ⟨⟨rfl,ltb rfl⟩,⟨rfl,ltb rfl⟩,⟨rfl,trivial⟩,⟨rfl,ltb rfl⟩,⟨rfl,trivial⟩,⟨rfl,trivial⟩,trivial⟩ (by repeat first | exact trivial | refine ⟨⟨rfl,ltb rfl,qE _ rfl⟩,?_⟩ | refine ⟨⟨rfl,ltb rfl,trivial⟩,?_⟩) (fun q hq => by cases hq) ?_
    refine Run.rD (T := fun i => [(1,.opq 2),(3,.ptr 4 0),(6,ii 0),(39,.opq 3),(40,ii (pl.length : Int)),(41,ii (i : Int))]) (M := fun i => [(4,.cells [.opq 0,ii inp,.opq 1] 25),(0,.rwin 8 N.length (N.flatMap Prm.vals)),(1,.rwin 4 S.length (S.flatMap Syn.vals)),(2,.rwin 10 rs.length (rs.flatMap Rul.vals)),(3,.rwin 1 pl.length (qD pl))]) (fun i => ∀ j (h : j < pl.length),j < i → ∀ h2 : j < S.length,vD rs (pl[j],S[j]) = 0) (pl.length) ?_ ?_ ?_
    · exact (fun j _ h => absurd h (by omega))
    · intro i hi hJ ih
      refine Run.W1 (hc _) ?_
      conv => whnf
      rw [decide_eq_true (show (i : Int) < (pl.length : Int) by omega)]
      conv => whnf
      refine ⟨by omega,?_⟩
      conv => whnf
      rw [yS i rfl rfl rfl rfl (by rw [qQ,Nat.mul_one]) (xL hi)]
      conv => whnf
      have hiS : i < S.length := by omega
      have hz : (pl.zip S)[i]'(by simp; omega) = (pl[i],S[i]) := by simp
      have three : ∀ x,vD rs (pl[i],S[i]) = x → x ≠ 0 → qZ ⟨N,inp,S⟩ rs pl = x := fun x hx hx0 => by
        have := vL (f := vD rs) (l := pl.zip S) (i := i) (by simp; omega) (fun j hj hji => by
          have hj' : j < pl.length ∧ j < S.length := by simp at hj; omega
          have := hJ j hj'.1 hji
          simpa using this hj'.2) (by rw [hz,hx]; exact hx0)
        simp only [qZ]; rw [hnk,if_neg e1',if_neg e2',hrk,hR0,if_neg (by simp),if_neg e3',this,hz,hx]
      cases b1 : wi pl[i] (-1) (IntKind.i64.wrap ((rs.length : Int) - 1))
      case false =>
        conv => whnf
        exact fin 3 (three 3 (by unfold vD W; rw [b1]; rfl) (by decide)) rfl rfl
      conv => whnf
      have hwr : IntKind.i64.wrap ((rs.length : Int) - 1) = (rs.length : Int) - 1 := by
        have := zL (a := (rs.length : Int) - 1) (by omega) (by omega); exact this
      have b1' : -1 ≤ pl[i] ∧ pl[i] ≤ (rs.length : Int) - 1 := by rw [hwr] at b1; simpa [wi] using b1
      refine Run.draw (hc _) 22 ?_
      rw [show qG 0 22 = qG 0 4 ++ (qG 4 5 ++ (qG 9 5 ++ (qG 14 5 ++ qG 19 3))) from rfl]
      simp only [qV]
      conv => whnf
      cases b2 : decide (0 ≤ pl[i])
      case false =>
        conv => whnf
        refine ⟨by kernel_rfl,?_⟩
        refine Run.W1 (hc _) ?_
        conv => whnf
        have e8 : vD rs (pl[i],S[i]) = 0 := by unfold vD W; rw [b1]; rw [if_neg (by simp),if_neg (of_decide_eq_false b2)]
        rw [z8 (i := i) (by omega)]
        exact Run.s6 (T' := [(1,.opq 2),(3,.ptr 4 0),(6,ii 0),(39,.opq 3),(40,ii (pl.length : Int)),(41,ii ((i + 1 : Nat) : Int))]) (M' := [(4,.cells [.opq 0,ii inp,.opq 1] 25),(0,.rwin 8 N.length (N.flatMap Prm.vals)),(1,.rwin 4 S.length (S.flatMap Syn.vals)),(2,.rwin 10 rs.length (rs.flatMap Rul.vals)),(3,.rwin 1 pl.length (qD pl))]) 5 ⟨⟨rfl,ltb rfl⟩,⟨rfl,ltb rfl⟩,⟨rfl,trivial⟩,⟨rfl,ltb rfl⟩,⟨rfl,trivial⟩,⟨rfl,trivial⟩,trivial⟩ (by repeat first | exact trivial | refine ⟨⟨rfl,ltb rfl,qE _ rfl⟩,?_⟩ | refine ⟨⟨rfl,ltb rfl,trivial⟩,?_⟩) (fun q hq => by cases hq) (ih (upJ hJ hi fun _ => e8))
      have b2' := of_decide_eq_true b2
      have hk : pl[i].toNat < rs.length := by omega
      conv => whnf
      refine ⟨by omega,?_⟩
      conv => whnf
      rw [q9 (f := Syn.vals) (l := S) (c := .int .i64 S[i].w) i 2 rfl rfl rfl rfl Syn.vlen (by rw [qQ]) hiS (by decide) rfl]
      conv => whnf
      refine ⟨by omega,?_⟩
      conv => whnf
      rw [q9 (f := Rul.vals) (l := rs) (c := .int .i64 rs[pl[i].toNat].lo) pl[i].toNat 7 rfl rfl rfl rfl Rul.vlen (by rw [j9]) hk (by decide) rfl]
      conv => whnf
      refine ⟨by omega,?_⟩
      conv => whnf
      rw [q9 (f := Rul.vals) (l := rs) (c := .int .i64 rs[pl[i].toNat].hi) pl[i].toNat 8 rfl rfl rfl rfl Rul.vlen (by rw [j9]) hk (by decide) rfl]
      conv => whnf
      refine ⟨by kernel_rfl,?_⟩
      refine Run.W1 (hc _) ?_
      conv => whnf
      have hge : rs[pl[i].toNat]? = some rs[pl[i].toNat] := List.getElem?_eq_getElem hk
      cases b3 : wi S[i].w rs[pl[i].toNat].lo rs[pl[i].toNat].hi
      case false =>
        conv => whnf
        exact fin 21 (three 21 (by unfold vD W; rw [b1]; rw [if_neg (by simp),if_pos b2']; simp only [hge,b3]; rfl) (by decide)) rfl rfl
      conv => whnf
      have e8 : vD rs (pl[i],S[i]) = 0 := by unfold vD W; rw [b1]; rw [if_neg (by simp),if_pos b2']; simp only [hge,b3]; rfl
      rw [z8 (i := i) (by omega)]
      exact Run.s6 (T' := [(1,.opq 2),(3,.ptr 4 0),(6,ii 0),(39,.opq 3),(40,ii (pl.length : Int)),(41,ii ((i + 1 : Nat) : Int))]) (M' := [(4,.cells [.opq 0,ii inp,.opq 1] 25),(0,.rwin 8 N.length (N.flatMap Prm.vals)),(1,.rwin 4 S.length (S.flatMap Syn.vals)),(2,.rwin 10 rs.length (rs.flatMap Rul.vals)),(3,.rwin 1 pl.length (qD pl))]) 5 ⟨⟨rfl,ltb rfl⟩,⟨rfl,ltb rfl⟩,⟨rfl,trivial⟩,⟨rfl,ltb rfl⟩,⟨rfl,trivial⟩,⟨rfl,trivial⟩,trivial⟩ (by repeat first | exact trivial | refine ⟨⟨rfl,ltb rfl,qE _ rfl⟩,?_⟩ | refine ⟨⟨rfl,ltb rfl,trivial⟩,?_⟩) (fun q hq => by cases hq) (ih (upJ hJ hi fun _ => e8))
    · intro hJ
      refine Run.W1 (hc _) ?_
      conv => whnf
      rw [decide_eq_false (show ¬ (pl.length : Int) < (pl.length : Int) by omega)]
      conv => whnf
      exact fin 0 (by
        simp only [qZ]; rw [hnk,if_neg e1',if_neg e2',hrk,hR0,if_neg (by simp),if_neg e3']
        exact xV fun j hj => by
          have hj' : j < pl.length ∧ j < S.length := by simp at hj; omega
          simpa using hJ j hj'.1 hj'.1 hj'.2) rfl rfl
end Go.Proofs.Ytnnlpdgnlccbjaa
namespace Go.Sx
def Conv (o o':SObj):Prop:=o'=o∨(∃e n t vs,0<e∧o = .row e n (vs.map .v) t∧o' = .rwin e n vs)∨(∃pk nn l,o = .kmap pk nn l∧o' = .kwin pk l)
theorem Conv.refl (o:SObj):Conv o o:=.inl rfl
theorem Conv.row {e n:Nat}{xs:List SV}{t:TypeId}{vs:List Value}(he:0<e)(h:xs=vs.map .v):Conv (.row e n xs t) (.rwin e n vs):=.inr (.inl ⟨e,n,t,vs,he,by rw[h],rfl⟩)
theorem Conv.map {pk nn:Bool}{l:List (Key×Value)}:Conv (.kmap pk nn l) (.kwin pk l):=.inr (.inr ⟨pk,nn,l,rfl,rfl⟩)
def SObj.wnd:SObj→Bool
 | .win _ | .rwin _ _ _ | .kwin _ _ | .swin _ _ _=>true
 |_=>false
theorem WI.again {w0 w w':World}{L:List (Nat×Nat)}{ρ:Env}{M:List (Nat×SObj)}{n:Nat}{F:Nat→Prop}(hW:WI w0 L ρ (look M) (· < n) w)(hF:ModF w F w')(r:Nat→Nat)(L':List (Nat×Nat))(M':List (Nat×SObj))(n':Nat)
  (hL1 :∀p∈L',p.1<n'∧p.2=ρ.s (r p.1)∧(∃y∈M',y.1=p.1) ∧ ∃o,look M (r p.1)=some o∧o.occ ρ (r p.1))
  (hM' :∀x∈M',x.1<n'∧x.2.sc (· < n')∧(x.2.occ (ρ.ren r) x.1 → ∃p∈L',p.1=x.1) ∧ ∃o,look M (r x.1)=some o∧Conv o (x.2.ren r)∧o.away ρ F (r x.1)∧(x.2.wnd=true → ∀p∈L',p.1≠x.1))
  (hinj :∀x∈M',∀y∈M',x.1≠y.1→r x.1≠r y.1):WI w' L' (ρ.ren r) (look M') (· < n') w':=by
 have hLw :∀b,b<w0.heap.size→(∀p∈L,p.2≠b) → ∀p∈L',p.2≠b:=by
  intro b hb hL p hp
  obtain⟨_,h2,_,o,ho,hocc⟩:=hL1 p hp
  rw[h2]
  rcases hW.new _ o ho hocc with⟨p',hp',hpe⟩|hge
  ·rw[←hpe];exact hL p' hp'
  ·omega
 have hlt :∀b,b<w0.heap.size→b<w'.heap.size:=fun b hb=>by have:=hW.size;have:=hF.size;omega
 have hltw :∀b,b<w.heap.size→b<w'.heap.size:=fun b hb=>by have:=hF.size;omega
 have heq :∀b,b<w0.heap.size→(∀p∈L,p.2≠b) → ¬F b→w'.heap[b]? = w0.heap[b]? :=fun b hb hL hf=>(hF.keep b (by have:=hW.size;omega) hf).trans (hW.keep b hb hL)
 have hocc' :∀x∈M',x.2.occ (ρ.ren r) x.1 → ∃o,look M (r x.1)=some o∧o.occ ρ (r x.1):=by
  intro x hx ho
  obtain⟨_,_,_,o,h4,h5,_⟩:=hM' x hx
  rcases h5 with h5|⟨e,m,t,vs,_,_,h5⟩|⟨pk,nn,l,_,h5⟩
  ·refine⟨o,h4,?_⟩
   rw[←h5];exact occ_ren.2 ho
  ·have:=occ_ren (ρ:=ρ) (r:=r) (i:=x.1) (o:=x.2) |>.2 ho
   rw[h5]at this;exact this.elim
  ·have:=occ_ren (ρ:=ρ) (r:=r) (i:=x.1) (o:=x.2) |>.2 ho
   rw[h5]at this;exact this.elim
 refine⟨fun i o hi=> ?_,fun i j oi oj hi hj hne ho ho'=> ?_,fun i o hi ho=> ?_,fun p hp=>⟨(hL1 p hp).1,(hL1 p hp).2.1.symm⟩,fun _ _ _=>rfl,Nat.le_refl _,rfl,rfl,rfl⟩
 ·have hx:=qF hi
  obtain⟨h1,h2,_,ob,h4,h5,h6,h7⟩:=hM' _ hx
  refine⟨h1,h2,?_⟩
  simp only at h4 h5 h6 h7
  obtain⟨g1,g2,g3⟩:=hW.mem _ ob h4
  rw[←holds_ren]
  have hnw:o.wnd=true → ∀b,ob.occ ρ (r i)→ρ.s (r i)=b → ∀p∈L',p.2≠b:=by
   intro hwd b hocc hb p hp
   obtain⟨_,k2,⟨y,hy,hye⟩,o2,k4,k5⟩:=hL1 p hp
   rw[k2,←hb]
   refine hW.dist _ _ o2 ob k4 h4 ?_ k5 hocc
   have:=hinj y hy _ hx (by rw[hye];exact h7 hwd p hp)
   rwa [hye]at this
  rcases h5 with h5|⟨e,m,t,vs,he,h5,h5'⟩|⟨pk,nn,l,h5,h5'⟩
  ·rw[h5]
   have key:(ob.occ ρ (r i) → ¬F (ρ.s (r i)))→(∀vs,ob ≠ .win vs)→(∀e n vs,ob ≠ .rwin e n vs)→(∀p l,ob ≠ .kwin p l)→(∀e n f,ob ≠ .swin e n f)→ob.holds w' L' ρ (r i) w':=by
    intro hoc n1 n2 n3 n4
    have:=SObj.rG (w':=w') (Env.agree.refl (· < n) ρ) g1 g2 (fun ho=>hF.keep _ (SObj.rE g3 ho) (hoc ho)) g3
    cases ob<;>first
     |exact absurd rfl (n1 _)
     |exact absurd rfl (n2 _ _ _)
     |exact absurd rfl (n3 _ _)
     |exact absurd rfl (n4 _ _ _)
     |exact this
   cases ob with
   |win vs=>
    obtain⟨k1,k2,k3⟩:=g3
    refine⟨hlt _ k1,hLw _ k1 k2,fun j x hj=> ?_⟩
    have:=k3 j x hj
    simp only[World.cell?]at this ⊢
    rw[heq _ k1 k2 h6];exact this
   |rwin e m vs=>
    obtain⟨k0,k00,k01,kk⟩:=g3
    refine⟨k0,k00,k01,?_⟩
    rcases kk with kk|⟨k,k1,k2,k3⟩
    ·exact .inl kk
    ·rcases h6 with h6|h6
     ·exact .inl h6
     ·refine .inr ⟨k,hlt _ k1,hLw _ k1 k2,fun j x hj=> ?_⟩
      have:=k3 j x hj
      simp only[World.cell?]at this ⊢
      rw[heq _ k1 k2 h6];exact this
   |kwin pk l=>
    obtain⟨k0,kk⟩:=g3
    refine⟨k0,kk.imp (fun⟨k,k1,k2,k3⟩=>⟨k,hlt _ k1,hLw _ k1 k2,?_⟩) id⟩
    rw[heq _ k1 k2 (h6 k)];exact k3
   |swin e m f=>
    exact⟨g3.1,g3.2.mono fun b hb=>⟨⟨hlt _ hb.1,hLw _ hb.1 hb.2⟩,heq _ hb.1 hb.2 (h6 b)⟩⟩
   |cells cs t=>exact key (fun _=>h6) (fun _=>by simp) (fun _ _ _=>by simp) (fun _ _=>by simp) (fun _ _ _=>by simp)
   |row e m xs t=>exact key h6 (fun _=>by simp) (fun _ _ _=>by simp) (fun _ _=>by simp) (fun _ _ _=>by simp)
   |obj o=>exact key (fun _=>h6) (fun _=>by simp) (fun _ _ _=>by simp) (fun _ _=>by simp) (fun _ _ _=>by simp)
   |mid pre post cs t=>exact key (fun _=>h6) (fun _=>by simp) (fun _ _ _=>by simp) (fun _ _=>by simp) (fun _ _ _=>by simp)
   |kmap pk nn l=>exact key h6 (fun _=>by simp) (fun _ _ _=>by simp) (fun _ _=>by simp) (fun _ _ _=>by simp)
   |pin l=>exact key (fun h=>h.elim) (fun _=>by simp) (fun _ _ _=>by simp) (fun _ _=>by simp) (fun _ _ _=>by simp)
  ·rw[h5']
   have ho:o = .rwin e m vs:=by cases o<;>simp[SObj.ren]at h5' ⊢<;>exact h5'
   subst h5
   obtain⟨k0,k1,k2⟩:=g3
   rw[zN]at k2
   refine⟨by simpa using k1,?_⟩
   rcases k2 with⟨k2,k3⟩|⟨cap,sp,k2,⟨k3,_⟩,k4⟩
   ·subst k3
    exact⟨by rw[k2],by rw[k2];exact Nat.le_refl _,.inl rfl⟩
   ·have hcap:m≤cap:=Nat.le_of_mul_le_mul_right (c:=e) (by omega) he
    have hocc:(SObj.row e m (vs.map .v) t).occ ρ (r i):=by simp[SObj.occ,k2]
    have hb:ρ.s (r i)<w.heap.size:=(Array.getElem?_eq_some_iff.1 k4).1
    refine⟨by rw[k2],by rw[k2];exact hcap,.inr ⟨by rw[k2,k0],hltw _ hb,hnw (by rw[ho];rfl) _ hocc rfl,fun j x hj=> ?_⟩⟩
    have hjl:j<vs.length:=by
     rcases Nat.lt_or_ge j vs.length with h|h
     ·exact h
     ·rw[List.getElem?_eq_none h]at hj;cases hj
    simp only[World.cell?,k0,Nat.zero_add,Option.isSome_none,Bool.false_eq_true,if_false]
    rw[hF.keep _ hb (h6 hocc),k4]
    simp only
    rw[←Array.getElem?_toList]
    simp only[List.getElem?_append_left hjl,hj]
  ·rw[h5']
   have ho:o = .kwin pk l:=by cases o<;>simp[SObj.ren]at h5' ⊢<;>exact h5'
   subst h5
   obtain⟨k0,k1⟩:=g3
   refine⟨k0,?_⟩
   rcases k1 with⟨k1,k2⟩|⟨_,k1,k2⟩
   ·have hb:ρ.s (r i)<w.heap.size:=(Array.getElem?_eq_some_iff.1 k2).1
    refine .inl ⟨k1,hltw _ hb,hnw (by rw[ho];rfl) _ k1 rfl,?_⟩
    rw[hF.keep _ hb (h6 k1)];exact k2
   ·exact .inr ⟨k1,k2⟩
 ·obtain⟨o1,k1,k2⟩:=hocc' _ (qF hi) ho
  obtain⟨o2,k3,k4⟩:=hocc' _ (qF hj) ho'
  exact hW.dist _ _ o1 o2 k1 k3 (hinj _ (qF hi) _ (qF hj) hne) k2 k4
 ·obtain⟨p,hp,hpe⟩:=(hM' _ (qF hi)).2.2.1 ho
  refine .inl ⟨p,hp,?_⟩
  rw[(hL1 p hp).2.1,hpe];rfl
def sh (B n i:Nat):Nat:=
 match Nat.blt i B with
 |true=>i
 |false=>n+(i-B)
theorem yY {B n i:Nat}(h:i<B):sh B n i=i:=by
 unfold sh;rw[show Nat.blt i B=true by simpa[Nat.blt_eq]using h]
theorem sh_ge {B n i : Nat} (h : B ≤ i) : sh B n i = n + (i - B) := by
  unfold sh
  have : Nat.blt i B = false := by
    cases hb : Nat.blt i B with
    | false => rfl
    | true => have : i < B := by simpa [Nat.blt_eq] using hb
              omega
  rw [this]
def Env.join (ρ:Env)(B n:Nat)(ρ':Env):Env where
 s j:=if j<n then ρ.s j else ρ'.s (j-n+B)
 o j:=if j<n then ρ.o j else ρ'.o (j-n+B)
 h j:=if j<n then ρ.h j else ρ'.h (j-n+B)
theorem Env.join_agree (ρ:Env)(B n:Nat)(ρ':Env):Env.agree (· < n) ρ (ρ.join B n ρ'):=fun i (hi:i<n)=>by simp[Env.join,hi]
theorem Env.join_ren {ρ ρ':Env}{B n:Nat}(hB:B≤n)(hag:Env.agree (· < B) ρ ρ'):(ρ.join B n ρ').ren (sh B n)=ρ':=by
 have key :∀i,(ρ.join B n ρ').s (sh B n i)=ρ'.s i∧(ρ.join B n ρ').o (sh B n i)=ρ'.o i∧(ρ.join B n ρ').h (sh B n i)=ρ'.h i:=by
  intro i
  rcases Nat.lt_or_ge i B with h|h
  ·rw[yY h]
   obtain⟨a1,a2,a3⟩:=hag i h
   have:i<n:=by omega
   simp[Env.join,this,a1,a2,a3]
  ·rw[sh_ge h]
   have e1 :¬n+(i-B)<n:=by omega
   have e2:n+(i-B)-n+B=i:=by omega
   simp only[Env.join,if_neg e1,e2,and_self]
 cases ρ' with
 |mk s o h=>
  unfold Env.ren
  congr 1
  ·funext i;exact(key i).1
  ·funext i;exact(key i).2.1
  ·funext i;exact(key i).2.2
mutual
theorem SV.sc_ren {S S':Nat→Prop}{r:Nat→Nat}(h :∀i,S i→S' (r i)) :∀(v:SV),v.sc S→(v.ren r).sc S'
 | .v _,_=>trivial
 | .ptr _ _,hs=>h _ hs
 | .slc _ _ _ _,hs=>h _ hs
 | .opq _,hs=>h _ hs
 | .mp _,hs=>h _ hs
 | .fn _ caps,hs=>SV.rO h caps hs
 | .agg cs,hs=>SV.rO h cs hs
 | .tup vs,hs=>SV.rO h vs hs
theorem SV.rO {S S':Nat→Prop}{r:Nat→Nat}(h :∀i,S i→S' (r i)) :∀(l:List SV),SV.scs S l→SV.scs S' (SV.rens r l)
 | [],_=>trivial
 |a::l,hs=>⟨SV.sc_ren h a hs.1,SV.rO h l hs.2⟩
end
theorem SObj.sc_ren {S S':Nat→Prop}{r:Nat→Nat}(h :∀i,S i→S' (r i)){o:SObj}(ho:o.sc S):(o.ren r).sc S':=by
 cases o with
 |cells cs t=>exact SV.rO h cs ho
 |row e n xs t=>exact SV.rO h xs ho
 |mid pre post cs t=>exact SV.rO h cs ho
 |pin l=>
  intro p hp
  obtain⟨q,hq,rfl⟩:=List.mem_map.1 hp
  exact h _ (ho q hq)
 |_=>trivial
theorem WI.mergeP {w0 w w':World}{L L':List (Nat×Nat)}{ρ ρ':Env}{M M1:List (Nat×SObj)}{n n1 B:Nat}(hW:WI w0 L ρ (look M) (· < n) w)(hB:B≤n)(hC:WI w L' ρ' (look M1) (· < n1) w')(hB1:B≤n1)(hag:Env.agree (· < B) ρ ρ')
  (hL' :∀p∈L',p.1<B ∧ ∃o,look M p.1=some o∧o.occ ρ p.1) (M2:List (Nat×SObj))
  (hM2 :∀x∈M2,(look M x.1=some x.2 ∧ ∀p∈L',p.1≠x.1) ∨ ∃i o,sh B n i=x.1∧look M1 i=some o∧x.2=o.ren (sh B n)∧o.wnd=false) :
  WI w0 L (ρ.join B n ρ') (look M2) (· < n+(n1-B)) w'∧Env.agree (· < n) ρ (ρ.join B n ρ'):=by
 have hj:=ρ.join_agree B n ρ'
 have hr:=Env.join_ren hB hag
 have hLs :∀p∈L',p.2=ρ.s p.1:=fun p hp=>by rw[←(hC.lid p hp).2,(hag p.1 (hL' p hp).1).1]
 have hup :∀i,i<n→i<n+(n1-B):=fun i hi=>by omega
 have kept :∀i o,look M i=some o→(∀p∈L',p.1≠i)→i<n+(n1-B)∧o.sc (· < n+(n1-B))∧o.holds w0 L (ρ.join B n ρ') i w':=by
  intro i o hi hp
  obtain⟨g1,g2,g3⟩:=hW.mem i o hi
  refine⟨hup i g1,SObj.sc_mono hup g2,SObj.rG hj g1 g2 (fun ho=>hC.keep _ (SObj.rE g3 ho) fun p hp' he=> ?_) g3⟩
  obtain⟨_,o2,ho2,hocc2⟩:=hL' p hp'
  exact hW.dist p.1 i o2 o ho2 hi (hp p hp') hocc2 ho ((hLs p hp').symm.trans he)
 have keptB :∀i o,look M i=some o→o.occ (ρ.join B n ρ') i→o.occ ρ i:=fun i o hi ho=>(SObj.rA hj (hW.mem i o hi).1).1 ho
 have theirs :∀i o,look M1 i=some o→o.wnd=false→sh B n i<n+(n1-B)∧(o.ren (sh B n)).sc (· < n+(n1-B))∧(o.ren (sh B n)).holds w0 L (ρ.join B n ρ') (sh B n i) w':=by
  intro i o hi hwd
  obtain⟨g1,g2,g3⟩:=hC.mem i o hi
  have hs :∀k,k<n1→sh B n k<n+(n1-B):=by
   intro k hk
   rcases Nat.lt_or_ge k B with h|h
   ·rw[yY h];omega
   ·rw[sh_ge h];omega
  refine⟨hs i g1,SObj.sc_ren hs g2,?_⟩
  rw[holds_ren,hr]
  cases o<;>first
   |exact g3
   |cases hwd
 have theirB :∀(i:Nat) (o:SObj),(o.ren (sh B n)).occ (ρ.join B n ρ') (sh B n i)→o.occ ρ' i:=fun i o ho=>by
  have:=(occ_ren (ρ:=ρ.join B n ρ') (r:=sh B n) (i:=i) (o:=o)).1 ho
  rwa [hr]at this
 have theirS :∀i,(ρ.join B n ρ').s (sh B n i)=ρ'.s i:=fun i=>by
  have:=congrArg Env.s hr
  exact congrFun this i
 have place :∀i o,look M1 i=some o→o.occ ρ' i→(∃p∈L',p.2=ρ'.s i)∨w.heap.size≤ρ'.s i:=fun i o hi ho=>hC.new i o hi ho
 have cross :∀i o j o',look M i=some o→(∀p∈L',p.1≠i)→o.occ ρ i→look M1 j=some o'→o'.occ ρ' j→ρ.s i≠ρ'.s j:=by
  intro i o j o' hi hp ho hj' ho' he
  rcases place j o' hj' ho' with⟨p,hp',hpe⟩|hge
  ·obtain⟨_,o2,ho2,hocc2⟩:=hL' p hp'
   exact hW.dist p.1 i o2 o ho2 hi (hp p hp') hocc2 ho (by rw[he,←hpe,hLs p hp'])
  ·have:=SObj.rE (hW.mem i o hi).2.2 ho
   omega
 refine⟨⟨fun i o hi=> ?_,fun i j oi oj hi hj' hne ho ho'=> ?_,fun i o hi ho=> ?_,fun p hp=> ?_,fun k hk hL=> ?_,Nat.le_trans hW.size hC.size,hC.os.trans hW.os,hC.tape.trans hW.tape,hC.output.trans hW.output⟩,hj⟩
 ·rcases hM2 _ (qF hi)with⟨h1,h2⟩|⟨i',o',h1,h2,h3,h4⟩
  ·exact kept i o h1 h2
  ·simp only at h1 h3
   subst h1 h3
   exact theirs i' o' h2 h4
 ·rcases hM2 _ (qF hi)with⟨a1,a2⟩|⟨i',oi',a1,a2,a3,a4⟩
  ·rcases hM2 _ (qF hj')with⟨b1,b2⟩|⟨j',oj',b1,b2,b3,b4⟩
   ·rw[(hj i (hW.mem i oi a1).1).1,(hj j (hW.mem j oj b1).1).1]
    exact hW.dist i j oi oj a1 b1 hne (keptB i oi a1 ho) (keptB j oj b1 ho')
   ·simp only at b1 b3
    subst b1 b3
    rw[(hj i (hW.mem i oi a1).1).1,theirS]
    exact cross i oi j' oj' a1 a2 (keptB i oi a1 ho) b2 (theirB j' oj' ho')
  ·simp only at a1 a3
   subst a1 a3
   rcases hM2 _ (qF hj')with⟨b1,b2⟩|⟨j',oj',b1,b2,b3,b4⟩
   ·rw[(hj j (hW.mem j oj b1).1).1,theirS]
    exact(cross j oj i' oi' b1 b2 (keptB j oj b1 ho') a2 (theirB i' oi' ho)).symm
   ·simp only at b1 b3
    subst b1 b3
    rw[theirS,theirS]
    exact hC.dist i' j' oi' oj' a2 b2 (fun e=>hne (by rw[e])) (theirB i' oi' ho) (theirB j' oj' ho')
 ·rcases hM2 _ (qF hi)with⟨a1,a2⟩|⟨i',oi',a1,a2,a3,a4⟩
  ·rw[(hj i (hW.mem i o a1).1).1]
   exact hW.new i o a1 (keptB i o a1 ho)
  ·simp only at a1 a3
   subst a1 a3
   rw[theirS]
   rcases place i' oi' a2 (theirB i' oi' ho)with⟨p,hp,hpe⟩|hge
   ·obtain⟨_,o2,ho2,hocc2⟩:=hL' p hp
    rw[←hpe,hLs p hp]
    exact hW.new p.1 o2 ho2 hocc2
   ·right;have:=hW.size;omega
 ·obtain⟨h1,h2⟩:=hW.lid p hp
  exact⟨hup _ h1,by rw[(hj _ h1).1,h2]⟩
 ·rw[hC.keep k (by have:=hW.size;omega) (fun p hp he=> ?_)]
  ·exact hW.keep k hk hL
  ·obtain⟨_,o2,ho2,hocc2⟩:=hL' p hp
   rcases hW.new p.1 o2 ho2 hocc2 with⟨p',hp',hpe⟩|hge
   ·exact hL p' hp' (by rw[hpe,←hLs p hp,he])
   ·rw[←hLs p hp,he]at hge;omega
def BSpec (P:Program)(g:FuncId)(args:List SV)(Mc:List (Nat×SObj))(B:Nat)(is:List Nat)(v:SV)(M1:List (Nat×SObj))(n1:Nat):Prop:=
 ∀ ρ w L',WI w L' ρ (look Mc) (· < B) w→(∀p∈L',p.1∈is)→Calls P g (SV.concs ρ args).toArray w fun e w'=> ∃ ρ',e = .returned (v.conc ρ')∧v.sc (· < n1)∧Env.agree (· < B) ρ ρ'∧WI w L' ρ' (look M1) (· < n1) w'
theorem WI.enter {w0 w:World}{L:List (Nat×Nat)}{ρ:Env}{M:List (Nat×SObj)}{n:Nat}(hW:WI w0 L ρ (look M) (· < n) w)(Mc:List (Nat×SObj))(B:Nat)(is:List Nat)
  (hMc:AllP (fun x=>x.1<B∧x.2.sc (· < B)∧(∃o,look M x.1=some o∧Conv o x.2)∧(x.2.wnd=true∨x.1∈is)∧(x.2.wnd=true→x.1∉is)) Mc) (his :∀i∈is,i<B ∧ ∃o,look Mc i=some o) :
  ∃L',(∀p∈L',p.1∈is∧p.2=ρ.s p.1 ∧ ∃o,look M p.1=some o∧o.occ ρ p.1)∧WI w L' ρ (look Mc) (· < B) w:=by
 classical
 let L':List (Nat×Nat):=(is.filter fun i=>decide (∃o,look M i=some o∧o.occ ρ i)).map fun i=>(i,ρ.s i)
 have hL' :∀p∈L',p.1∈is∧p.2=ρ.s p.1 ∧ ∃o,look M p.1=some o∧o.occ ρ p.1:=by
  intro p hp
  obtain⟨i,hi,rfl⟩:=List.mem_map.1 hp
  obtain⟨h1,h2⟩:=List.mem_filter.1 hi
  exact⟨h1,rfl,of_decide_eq_true h2⟩
 refine⟨L',hL',?_⟩
 have hid:ρ.ren id=ρ:=rfl
 have h:=hW.again ((Ext.refl w).modF fun _=>False) id L' Mc B (fun p hp=> ?_) (fun x hx=> ?_) (fun _ _ _ _ h=>h)
 ·rw[hid]at h;exact h
 ·obtain⟨h1,h2,h3⟩:=hL' p hp
  obtain⟨h4,o,h5⟩:=his p.1 h1
  exact⟨h4,h2,⟨_,qF h5,rfl⟩,h3⟩
 ·obtain⟨h1,h2,⟨o,h3,h4⟩,h5,h6⟩:=hMc.mem x hx
  refine⟨h1,h2,fun ho=> ?_,o,h3,by rw[qC];exact h4,?_,fun hwd p hp he=>h6 hwd (by rw[←he];exact(hL' p hp).1)⟩
  ·rw[hid]at ho
   rcases h5 with h5|h5
   ·exfalso
    cases hx2:x.2<;>rw[hx2]at h5 ho<;>first|cases h5;done|exact ho.elim
   ·refine⟨(x.1,ρ.s x.1),List.mem_map.2 ⟨x.1,List.mem_filter.2 ⟨h5,decide_eq_true ⟨o,h3,?_⟩⟩,rfl⟩,rfl⟩
    rcases h4 with h4|⟨e,m,t,vs,_,_,h4⟩|⟨pk,nn,l,_,h4⟩
    ·rw[←h4];exact ho
    ·rw[h4]at ho;exact ho.elim
    ·rw[h4]at ho;exact ho.elim
  ·cases o<;>simp[SObj.away]
theorem Run.rF {c:Cx}{T:List (Nat×SV)}{M:List (Nat×SObj)}{n:Nat}{D:List Deferred}{ops:Array Oper}{i:Nat}{r:List Nat}{k:List Item}{R:Ending→World→Prop}{o:Oper}{f:Operand}{args:Array Operand}{ts:Array TypeId}
  {fv:SV} {g:FuncId} {caps vs:List SV} {Mc:List (Nat×SObj)} {B:Nat} {is:List Nat} {v:SV} {M1:List (Nat×SObj)} {n1:Nat} (hspec:BSpec c.P g (vs++caps) Mc B is v M1 n1) (hg:zU c.P g)
  (ho:get ops.toList i=some o) (hop:o.op = .call { callee:=.value f,args:=args,argTypes:=ts }) (hw:zQ ops.toList (look T) o=some true) (hd:okD c.fn.ntmps o.dst=true)
  (hf:ev (look T) f=some fv) (hfv:zW fv=some (g,caps)) (hvs:evs (look T) args.toList=some vs) (hB:B≤n) (hB1:B≤n1)
  (hMc:AllP (fun x=>x.1<B∧x.2.sc (· < B)∧(∃o,look M x.1=some o∧Conv o x.2)∧(x.2.wnd=true∨x.1∈is)∧(x.2.wnd=true→x.1∉is)) Mc) (his :∀i∈is,i<B ∧ ∃o,look Mc i=some o)
  (v2:SV) (M2:List (Nat×SObj)) (n2:Nat) (hv2:v2=v.ren (sh B n)) (hn2:n2=n+(n1-B)) (hM2:AllP (fun x=>(look M x.1=some x.2∧x.1∉is) ∨ ∃i o,sh B n i=x.1∧look M1 i=some o∧x.2=o.ren (sh B n)∧o.wnd=false) M2)
  (h:Run c ⟨z5 T o.dst v2,M2,n2,D,.inRegion ops r::k⟩ R):Run c ⟨T,M,n,D,.inRegion ops (i::r)::k⟩ R:=by
 subst hv2 hn2
 refine Run.rN ho hop hw hd hf hfv hvs hg (fun v' M' n'=>v'=v.ren (sh B n)∧M'=M2∧n'=n+(n1-B)) (fun ρ w _ hW=> ?_) (fun v' M' n' hp=> ?_)
 ·obtain⟨L',hL',hWc⟩:=hW.enter Mc B is hMc his
  refine(hspec ρ w L' hWc fun p hp=>(hL' p hp).1).mono fun e w' ⟨ρ',he,hv,hag,hW'⟩=> ?_
  obtain⟨hW2,hag2⟩:=hW.mergeP hB hW' hB1 hag (fun p hp=>⟨(his _ (hL' p hp).1).1,(hL' p hp).2.2⟩) M2 (fun x hx=>by
   rcases hM2.mem x hx with⟨h1,h2⟩|h1
   ·exact .inl ⟨h1,fun p hp he=>h2 (by rw[←he];exact(hL' p hp).1)⟩
   ·exact .inr h1)
  refine⟨ρ.join B n ρ',_,_,_,?_,hag2,by omega,?_,hW2,rfl,rfl,rfl⟩
  ·rw[he,kC,Env.join_ren hB hag]
  ·refine SV.sc_ren (fun j (hj:j<n1)=> ?_) v hv
   show sh B n j<n+(n1-B)
   rcases Nat.lt_or_ge j B with h|h
   ·rw[yY h];omega
   ·rw[sh_ge h];omega
 ·obtain⟨rfl,rfl,rfl⟩:=hp;exact h
def SpecR (w:World)(L':List (Nat×Nat))(pl:List (Nat×Nat×Nat×(Option Addr×Nat×Nat)))(v:SV)(M1:List (Nat×SObj))(n1:Nat)(e:Ending)(w':World):Prop:=
 ∃ ρ',e = .returned (v.conc ρ')∧v.sc (· < n1)∧(∀p∈pl,ρ'.s p.1=p.2.1∧ρ'.o p.1=p.2.2.1∧ρ'.h p.1=p.2.2.2)∧WI w L' ρ' (look M1) (· < n1) w'
theorem BSpec.start {P:Program}{tab:Tab}{pf:PF}{cuts:List (Nat×Nat)}{g:FuncId}{fn:Func}{cd:Code}{args:List SV}{Mc:List (Nat×SObj)}{B:Nat}{is:List Nat}{v:SV}{M1:List (Nat×SObj)}{n1:Nat}(hf:P.funcs[g]? = some fn)(hb:fn.body=some cd)(hs:SV.scs (· < B) args)(hN:Nat.ble (jT args) fn.ntmps=true)
  (h :∀w L' pl,(∀p∈L',p.1∈is)→(∀p∈L',p.1<B)→jW B pl→Run ⟨P,tab,pf,g,fn,cuts,w,L',none⟩ ⟨numb 0 args,(B,.pin pl)::Mc,B+1,[],[.code cd]⟩ (SpecR w L' pl v M1 n1)):BSpec P g args Mc B is v M1 n1:=by
 intro ρ w L' hW hL
 let pl:List (Nat×Nat×Nat×(Option Addr×Nat×Nat)):=(List.range B).map fun i=>(i,ρ.s i,ρ.o i,ρ.h i)
 have hcov:jW B pl:=⟨fun p hp=>by
  obtain⟨i,hi,rfl⟩:=List.mem_map.1 hp
  exact List.mem_range.1 hi,fun i hi=>⟨_,List.mem_map.2 ⟨i,List.mem_range.2 hi,rfl⟩⟩⟩
 have hpl :∀p∈pl,ρ.s p.1=p.2.1∧ρ.o p.1=p.2.2.1∧ρ.h p.1=p.2.2.2:=fun p hp=>by
  obtain⟨i,hi,rfl⟩:=List.mem_map.1 hp
  exact⟨rfl,rfl,rfl⟩
 have hW1:=hW.addR (i:=B) (Env.agree.refl _ ρ) (o:=.pin pl) hcov.1 (fun _ _ h=>h) hpl
 have hW2:WI w L' ρ (look ((B,.pin pl)::Mc)) (· < B+1) w:=by
  rw[qX]
  exact hW1.mono fun j hj=>by have hj:j<B∨j=B:=hj;omega
 refine(Run.calls hf hb ρ args _ (B+1) (SV.rL (fun j (hj:j<B)=>Nat.lt_succ_of_lt hj) _ hs) hN hW2 (h w L' pl hL (fun p hp=>(hW.lid p hp).1) hcov)).mono fun e w' ⟨ρ',he,hv,hp,hW'⟩=>⟨ρ',he,hv,t4 hcov hpl hp,hW'⟩
theorem sh_inj {B k i j:Nat}(hk:B≤k)(h:i≠j):sh B k i≠sh B k j:=by
 rcases Nat.lt_or_ge i B with hi|hi<;>rcases Nat.lt_or_ge j B with hj|hj
 ·rw[yY hi,yY hj];exact h
 ·rw[yY hi,sh_ge hj];omega
 ·rw[sh_ge hi,yY hj];omega
 ·rw[sh_ge hi,sh_ge hj];omega
theorem SpecR.intro {c:Cx}{M M1:List (Nat×SObj)}{n n1 B:Nat}{pl:List (Nat×Nat×Nat×(Option Addr×Nat×Nat))}{v v0:SV}(k:Nat)(hk:B≤k)(hL :∀p∈c.L,p.1<B)(hB:B≤n1)(hcov:jW B pl)(hq:look M B=some (.pin pl))(hv:v.ren (sh B k)=v0)(hvs:v.sc (· < n1))
  (hM1:AllP (fun x=>look M (sh B k x.1)=some (x.2.ren (sh B k))∧x.1<n1∧x.2.sc (· < n1)) M1):RetOk c M n v0 (SpecR c.w0 c.L pl v M1 n1):=by
 refine⟨fun ρ w hW _=>⟨ρ.ren (sh B k),by rw[←hv,kC],hvs,fun p hp=> ?_,WI.less (r:=sh B k) ⟨hM1.mem,fun x _ y _ h=>sh_inj hk h,fun p hp=>⟨yY (hL p hp),by have:=hL p hp;omega⟩⟩ hW⟩⟩
 have h1:=hcov.1 p hp
 have h2:=(hW.mem B _ hq).2.2 p hp
 simp only[Env.ren,yY h1]
 exact h2
theorem Env.agree.symm {S:Nat→Prop}{a b:Env}(h:Env.agree S a b):Env.agree S b a:=fun i hi=>⟨(h i hi).1.symm,(h i hi).2.1.symm,(h i hi).2.2.symm⟩
theorem Run.countG {A:Type}{cx:A→Cx}{T:Nat→List (Nat×SV)}{M:A→Nat→List (Nat×SObj)}{n:Nat}{D:List Deferred}{todo:List Item}{R:Ending→World→Prop}{J:Nat→A→Prop}(N:Nat)
  (hstep :∀i a,i<N→J i a→(∀a',J (i+1) a'→Run (cx a') ⟨T (i+1),M a' (i+1),n,D,todo⟩ R)→Run (cx a) ⟨T i,M a i,n,D,todo⟩ R) (hend :∀a,J N a→Run (cx a) ⟨T N,M a N,n,D,todo⟩ R)
  (a:A) (hJ:J 0 a):Run (cx a) ⟨T 0,M a 0,n,D,todo⟩ R:=by
 have :∀k i a,N-i=k→i≤N→J i a→Run (cx a) ⟨T i,M a i,n,D,todo⟩ R:=by
  intro k
  induction k with
  |zero=>
   intro i a hk hi hj
   have e:i=N:=by omega
   subst e
   exact hend a hj
  |succ k ih=>intro i a hk hi hj;exact hstep i a (by omega) hj (fun a' hj'=>ih (i+1) a' (by omega) (by omega) hj')
 exact this _ 0 a rfl (Nat.zero_le _) hJ
theorem WI.sameExt {w w':World}{L:List (Nat×Nat)}{ρ ρ':Env}{M M':Mem}{S S':Nat→Prop}(h0:WI w L ρ M S w)(h1:WI w L ρ' M' S' w')(hp :∀p∈L,∃cs t,M p.1=some (.cells cs t)∧M' p.1=some (.cells cs t)∧SV.concs ρ' cs=SV.concs ρ cs):Ext w w':=by
 refine⟨fun k hk=> ?_,h1.size,h1.os,h1.tape,h1.output⟩
 by_cases h :∃p∈L,p.2=k
 ·obtain⟨p,hpL,rfl⟩:=h
  obtain⟨cs,t,a1,a2,a3⟩:=hp p hpL
  have b1:=(h0.mem p.1 _ a1).2.2.2
  have b2:=(h1.mem p.1 _ a2).2.2.2
  rw[(h0.lid p hpL).2]at b1
  rw[(h1.lid p hpL).2,a3]at b2
  rw[b1,b2]
 ·exact h1.keep k hk fun p hpL he=>h ⟨p,hpL,he⟩
def xC (n:Nat)(ρ:Env):List (Nat×Nat×Nat×(Option Addr×Nat×Nat)):=(List.range n).map fun i=>(i,ρ.s i,ρ.o i,ρ.h i)
theorem vC (n:Nat)(ρ:Env):jW n (xC n ρ):=⟨fun p hp=>by
 obtain⟨i,hi,rfl⟩:=List.mem_map.1 hp
 exact List.mem_range.1 hi,fun i hi=>⟨_,List.mem_map.2 ⟨i,List.mem_range.2 hi,rfl⟩⟩⟩
theorem pinsOf_agree {n:Nat}{ρ ρ':Env}:(∀p∈xC n ρ,ρ'.s p.1=p.2.1∧ρ'.o p.1=p.2.2.1∧ρ'.h p.1=p.2.2.2)↔Env.agree (· < n) ρ ρ':=by
 constructor
 ·intro h i hi
  exact h (i,ρ.s i,ρ.o i,ρ.h i) (List.mem_map.2 ⟨i,List.mem_range.2 hi,rfl⟩)
 ·intro h p hp
  obtain⟨i,hi,rfl⟩:=List.mem_map.1 hp
  exact h i (List.mem_range.1 hi)
theorem WI.addPin {w0 w:World}{L:List (Nat×Nat)}{ρ ρ0:Env}{M:List (Nat×SObj)}{n:Nat}(hW:WI w0 L ρ (look M) (· < n) w)(h:Env.agree (· < n) ρ0 ρ):WI w0 L ρ (look ((n,.pin (xC n ρ0))::M)) (· < n+1) w:=by
 have:=hW.addR (i:=n) (Env.agree.refl _ ρ) (o:=.pin (xC n ρ0)) (vC n ρ0).1 (fun _ _ h=>h) (pinsOf_agree.2 h)
 rw[qX]
 exact this.mono fun j hj=>by have hj:j<n∨j=n:=hj;show j<n+1;omega
theorem WI.agreeOf {w0 w:World}{L:List (Nat×Nat)}{ρ ρ0:Env}{M:Mem}{S:Nat→Prop}{n q:Nat}(hW:WI w0 L ρ M S w)(h:M q=some (.pin (xC n ρ0))):Env.agree (· < n) ρ0 ρ:=pinsOf_agree.1 (hW.mem q _ h).2.2
theorem allT {T T':List (Nat×SV)}{ρ ρ':Env}{n':Nat}(h:AllP (fun x=> ∃v,look T x.1=some v∧v.conc ρ=x.2.conc ρ'∧x.2.sc (· < n')) T') :∀x∈T',∃v,look T x.1=some v∧v.conc ρ=x.2.conc ρ'∧x.2.sc (· < n'):=AllP.mem h
end Go.Sx
namespace Go.Proofs.Ytnnlpdgnlccbjaa
open Go.Sx
set_option maxRecDepth 100000
def qJ (tk:SV)(inp:Int)(rg:Nat→SV)(tt:SV):List SV:=[tk,.opq 1,ii inp,.opq 2,.opq 3,rg 0,rg 1,rg 2,rg 3,rg 4,rg 5,rg 6,rg 7,rg 8,rg 9,rg 10,rg 11,rg 12,rg 13,rg 14,rg 15,.opq 4,.opq 5,.opq 6,tt]
def Mrk.vals (m:Mrk):List Value:=[.int .i64 m.w,.int .i64 m.x,.int .i64 m.y,.int .i64 m.e]
theorem Mrk.vlen (m:Mrk):m.vals.length=4:=rfl
theorem Mrk.clen (m:Mrk):m.cells.length=4:=rfl
theorem uF (l:List Mrk):l.flatMap Mrk.cells=(l.flatMap Mrk.vals).map .v:=by
 induction l with
 |nil=>rfl
 |cons a l ih=>rw[List.flatMap_cons,List.flatMap_cons,ih,List.map_append];rfl
def uB (b o:Nat)(pl:List Int):List (List Value):=(List.range pl.length).filterMap fun i=>if 0≤pl.getD i (-1)then some [.int .i64 (i:Int),.pointer (some ⟨b,o+i*4,none⟩)]else none
def plCnt (pl:List Int)(i:Nat):Nat:=((List.range i).filter fun i=>decide (0≤pl.getD i (-1))).length
theorem plCnt_zero (pl:List Int):plCnt pl 0=0:=rfl
theorem gS (pl:List Int)(i:Nat):plCnt pl (i+1)=plCnt pl i+if 0≤pl.getD i (-1)then 1 else 0:=by
 unfold plCnt
 rw[List.range_succ,List.filter_append,List.length_append]
 congr 1
 cases h:decide (0≤pl.getD i (-1))
 ·rw[if_neg (of_decide_eq_false h)];simp only[List.filter_cons,h];rfl
 ·rw[if_pos (of_decide_eq_true h)];simp only[List.filter_cons,h];rfl
theorem wO (b o:Nat)(pl:List Int) :∀n,((List.range n).filterMap fun i=>if 0≤pl.getD i (-1)then some [Value.int .i64 (i:Int),.pointer (some ⟨b,o+i*4,none⟩)]else none).length=plCnt pl n
 | 0=>rfl
 |n+1=>by
  rw[List.range_succ,List.filterMap_append,List.length_append,wO b o pl n,gS]
  congr 1
  by_cases h:0≤pl.getD n (-1)
  ·simp only[List.filterMap_cons,if_pos h];rfl
  ·simp only[List.filterMap_cons,if_neg h];rfl
theorem synXs_length (b o:Nat)(pl:List Int):(uB b o pl).length=plCnt pl pl.length:=wO b o pl pl.length
theorem synXs_get (b o:Nat)(pl:List Int){i:Nat}(hi:i<pl.length)(hp:0≤pl.getD i (-1)):(uB b o pl)[plCnt pl i]? = some [.int .i64 (i:Int),.pointer (some ⟨b,o+i*4,none⟩)]:=by
 have e:List.range pl.length=List.range i++(List.range (pl.length-i)).map (i+·):=by
  rw[←List.range_add];congr 1;omega
 unfold uB
 rw[e,List.filterMap_append,List.getElem?_append_right (by rw[wO];exact Nat.le_refl _),wO,Nat.sub_self]
 have e2:pl.length-i=(pl.length-i-1)+1:=by omega
 rw[e2,List.range_succ_eq_map]
 simp only[List.map_cons,Nat.add_zero,List.filterMap_cons]
 rw[if_pos hp]
 rfl
def itM (C:List SV)(pl:List Int)(vs:List Value):List (Nat×SObj):=[(24,.cells [.ptr 0 0] 64),(0,.cells C 96),(5,.rwin 1 pl.length (qD pl)),(6,.rwin 4 pl.length vs)]
def SynI (ρ0:Env)(C:List SV)(pl:List Int)(w:World):Prop:= ∃ ρ L vs,WI w L ρ (Sx.look (itM C pl vs)) (· < 25) w∧(∀p∈L,p.1=0∨p.1=24)∧Env.agree (· < 25) ρ0 ρ
theorem syn_iter (ρ0:Env)(tk:SV)(inp:Int)(rg:Nat→SV)(tt:SV)(pl:List Int)(hsc:SV.scs (· < 25) (qJ tk inp rg tt))(hlen:pl.length<4611686018427387904) :
  IterW Try.prog 103 [.pointer (some ⟨ρ0.s 24,0,none⟩)] (SynI ρ0 (qJ tk inp rg tt) pl) (uB (ρ0.s 6) (ρ0.o 6) pl):=by
 intro l J hext hI hy w hw
 have hc :∀w' L',Cx.ok ⟨Try.prog,tab,[],103,Try.f103,[],w',L',none⟩:=fun w' L'=>⟨qI,trivial,Try.func103,mixed,fun _ h=>by cases h⟩
 obtain⟨ρ,L,vs,hW,hL,hag⟩:=hI 0 w hw
 have hcap:Value.pointer (some ⟨ρ0.s 24,0,none⟩)=(SV.ptr 24 0).conc ρ:=by
  have h24:=hag 24 (by decide)
  have h0:ρ.o 24=0:=(hW.mem 24 _ rfl).2.2.1
  simp only[SV.conc,h24.1,h0]
 rw[hcap]
 have hsame :∀{w1 w2:World} {L:List (Nat×Nat)} {ρ1 ρ2:Env} {vs:List Value} {M':List (Nat×SObj)} {n':Nat},WI w1 L ρ1 (Sx.look (itM (qJ tk inp rg tt) pl vs)) (· < 25) w1→(∀p∈L,p.1=0∨p.1=24)→Env.agree (· < 25) ρ1 ρ2→WI w1 L ρ2 (Sx.look M') (· < n') w2 →
   Sx.look M' 0=some (.cells (qJ tk inp rg tt) 96)→Sx.look M' 24=some (.cells [.ptr 0 0] 64)→Ext w1 w2:=by
  intro w1 w2 L ρ1 ρ2 vs M' n' h1 hL ha h2 m0 m24
  refine h1.sameExt h2 fun p hp=> ?_
  rcases hL p hp with e|e
  ·exact⟨_,_,by rw[e];rfl,by rw[e];exact m0,jE ha _ hsc⟩
  ·exact⟨_,_,by rw[e];rfl,by rw[e];exact m24,jE ha _ (by simp[SV.scs,SV.sc])⟩
 have hargs:(#[.func (.yield l) #[] #[]]++[(SV.ptr 24 0).conc ρ].toArray:Array Value)=(SV.concs ρ [.v (.func (.yield l) #[] #[]),.ptr 24 0]).toArray:=by simp[SV.concs,SV.conc]
 rw[hargs]
 have hWp:=hW.addPin hag
 have hMall :∀vs,AllP (fun x=>Sx.look ((25,SObj.pin (xC 25 ρ0))::itM (qJ tk inp rg tt) pl vs) x.1=some x.2∧x.1<26∧x.2.sc (· < 26)) ((25,SObj.pin (xC 25 ρ0))::itM (qJ tk inp rg tt) pl vs):=fun vs=>
  ⟨⟨rfl,ltb rfl,fun p hp=>Nat.lt_succ_of_lt ((vC 25 ρ0).1 p hp)⟩,⟨rfl,ltb rfl,qE _ rfl⟩,⟨rfl,ltb rfl,SV.rL (fun j (hj:j<25)=>Nat.lt_succ_of_lt hj) _ hsc⟩,⟨rfl,ltb rfl,trivial⟩,⟨rfl,ltb rfl,trivial⟩,trivial⟩
 refine Run.calls (tab:=tab) (pf:=[]) (cuts:=[]) Try.func103 rfl ρ [.v (.func (.yield l) #[] #[]),.ptr 24 0] _ 26 (by simp[SV.scs,SV.sc]) rfl hWp (Run.s0 (hc w L) 2000 _ ?_)
 conv=>whnf
 refine Run.s6 (T':=[(0,.v (.func (.yield l) #[] #[])),(1,.ptr 24 0),(8,.opq 5),(9,ii (pl.length:Int)),(10,ii ((0:Nat):Int))]) (M':=(25,.pin (xC 25 ρ0))::itM (qJ tk inp rg tt) pl vs) 26 ⟨⟨rfl,trivial⟩,⟨rfl,ltb rfl⟩,⟨rfl,ltb rfl⟩,⟨rfl,trivial⟩,⟨rfl,trivial⟩,trivial⟩
  (hMall vs) (fun p hp=>by rcases hL p hp with e|e<;>rw[e]<;>decide) ?_
 refine Run.countG (A:=World×List (Nat×Nat)×List Value) (cx:=fun a=>⟨Try.prog,tab,[],103,Try.f103,[],a.1,a.2.1,none⟩) (T:=fun i=>[(0,.v (.func (.yield l) #[] #[])),(1,.ptr 24 0),(8,.opq 5),(9,ii (pl.length:Int)),(10,ii (i:Int))])
  (M:=fun a _=>(25,.pin (xC 25 ρ0))::itM (qJ tk inp rg tt) pl a.2.2) (J:=fun i a=>J (plCnt pl i) a.1∧(∀p∈a.2.1,p.1=0∨p.1=24) ∧ ∃ ρ,WI a.1 a.2.1 ρ (Sx.look (itM (qJ tk inp rg tt) pl a.2.2)) (· < 25) a.1∧Env.agree (· < 25) ρ0 ρ) pl.length ?_ ?_ (w,L,vs) ⟨hw,hL,ρ,hW,hag⟩
 ·rintro i ⟨w',L',vs'⟩ hi ⟨hJ,hL',ρ',hW',hag'⟩ ih
  simp only at hJ hL' hW' ih ⊢
  refine Run.W1 (hc w' L') ?_
  conv=>whnf
  rw[decide_eq_true (show(i:Int)<(pl.length:Int)by omega)]
  conv=>whnf
  refine⟨by omega,?_⟩
  conv=>whnf
  rw[yS i rfl rfl rfl rfl (by rw[qQ,Nat.mul_one]) (xL hi)]
  conv=>whnf
  have hgd:pl.getD i (-1)=pl[i]:=by simp[List.getD_eq_getElem?_getD,hi]
  cases hk:decide (0≤pl[i])
  ·conv=>whnf
   rw[z8 (i:=i) (by omega)]
   refine Run.s6 (T':=[(0,.v (.func (.yield l) #[] #[])),(1,.ptr 24 0),(8,.opq 5),(9,ii (pl.length:Int)),(10,ii ((i+1:Nat):Int))]) (M':=(25,.pin (xC 25 ρ0))::itM (qJ tk inp rg tt) pl vs') 26 ⟨⟨rfl,trivial⟩,⟨rfl,ltb rfl⟩,⟨rfl,ltb rfl⟩,⟨rfl,trivial⟩,⟨rfl,trivial⟩,trivial⟩
    (hMall vs') (fun p hp=>by rcases hL' p hp with e|e<;>rw[e]<;>decide) (ih (w',L',vs') ⟨?_,hL',ρ',hW',hag'⟩)
   rw[gS,hgd,if_neg (of_decide_eq_false hk)]
   exact hJ
  ·have hk':=of_decide_eq_true hk
   conv=>whnf
   refine⟨by omega,?_⟩
   conv=>whnf
   refine Run.callY rfl rfl rfl rfl rfl rfl fun ρ1 w1 hW1=> ?_
   have ha1:Env.agree (· < 25) ρ0 ρ1:=hW1.agreeOf (q:=25) rfl
   have hx1:Ext w' w1:=hsame hW' hL' (hag'.symm.trans ha1 fun _ h=>h) hW1 rfl rfl
   have hargs1:(SV.concs ρ1 [ii (i:Int),.ptr 6 (idx (i:Int) 4)]).toArray=[Value.int .i64 (i:Int),.pointer (some ⟨ρ0.s 6,ρ0.o 6+i*4,none⟩)].toArray:=by
    have h6:=ha1 6 (by decide)
    simp only[SV.concs,SV.conc,h6.1,h6.2.1,qQ]
   rw[hargs1]
   refine(hy (plCnt pl i) w1 _ (hext _ w' w1 hJ hx1) (synXs_get _ _ pl hi (by rw[hgd];exact hk'))).mono fun b w2 ⟨hb2,hJ2⟩=> ?_
   subst hb2
   have hJ3:J (plCnt pl (i+1)) w2:=by rw[gS,hgd,if_pos hk'];exact hJ2
   obtain⟨ρ2,L2,vs2,hW2,hL2,hag2⟩:=hI _ w2 hJ3
   have ha12:Env.agree (· < 25) ρ1 ρ2:=ha1.symm.trans hag2 fun _ h=>h
   refine⟨[(0,.v (.func (.yield l) #[] #[])),(1,.ptr 24 0),(8,.opq 5),(9,ii (pl.length:Int)),(10,ii (i:Int)),(17,.v (.bool true))],ρ2,(25,.pin (xC 25 ρ0))::itM (qJ tk inp rg tt) pl vs2,26,L2,?_,hW2.addPin hag2,?_⟩
   ·exact allT ⟨⟨_,rfl,rfl,trivial⟩,⟨_,rfl,(zY ha12 (.ptr 24 0) (show 24<25 by decide)).symm,(show 24<26 by decide)⟩,⟨_,rfl,(zY ha12 (.opq 5) (show 5<25 by decide)).symm,(show 5<26 by decide)⟩,⟨_,rfl,rfl,trivial⟩,⟨_,rfl,rfl,trivial⟩,⟨_,rfl,rfl,trivial⟩,trivial⟩
   refine Run.W1 (hc w2 L2) ?_
   conv=>whnf
   rw[z8 (i:=i) (by omega)]
   exact Run.s6 (T':=[(0,.v (.func (.yield l) #[] #[])),(1,.ptr 24 0),(8,.opq 5),(9,ii (pl.length:Int)),(10,ii ((i+1:Nat):Int))]) (M':=(25,.pin (xC 25 ρ0))::itM (qJ tk inp rg tt) pl vs2) 26 ⟨⟨rfl,trivial⟩,⟨rfl,ltb rfl⟩,⟨rfl,ltb rfl⟩,⟨rfl,trivial⟩,⟨rfl,trivial⟩,trivial⟩
    (hMall vs2) (fun p hp=>by rcases hL2 p hp with e|e<;>rw[e]<;>decide) (ih (w2,L2,vs2) ⟨hJ3,hL2,ρ2,hW2,hag2⟩)
 ·rintro⟨w',L',vs'⟩ ⟨hJ,hL',ρ',hW',hag'⟩
  simp only at hJ hL' hW' ⊢
  refine Run.W1 (hc w' L') ?_
  conv=>whnf
  rw[decide_eq_false (show ¬(pl.length:Int)<(pl.length:Int)by omega)]
  conv=>whnf
  refine⟨fun ρ1 w1 hW1 _=>⟨⟨_,rfl⟩,?_⟩⟩
  have ha1:Env.agree (· < 25) ρ0 ρ1:=hW1.agreeOf (q:=25) rfl
  rw[synXs_length]
  exact hext _ w' w1 hJ (hsame hW' hL' (hag'.symm.trans ha1 fun _ h=>h) hW1 rfl rfl)
end Go.Proofs.Ytnnlpdgnlccbjaa
namespace Go.Sx
def SwapOk (c:Cx)(ops:List Oper)(n0:Nat)(a b:Tr×Option Eff):Prop:= ∀T M l T' M',Runs c ops n0 (a::b::l) T M T' M'→Runs c ops n0 (b::a::l) T M T' M'
theorem Runs.frontX {c:Cx}{ops:List Oper}{n0:Nat}{b:Tr×Option Eff} :∀{p q:List (Tr×Option Eff)} {T T':Tm} {M M':Mem},Runs c ops n0 (p++b::q) T M T' M'→(∀a∈p,SwapOk c ops n0 a b)→Runs c ops n0 (b::(p++q)) T M T' M'
 | [],_,_,_,_,_,h,_=>h
 |a::p,q,T,T',M,M',h,hp=>by
  obtain⟨a1,a2⟩:=a
  obtain⟨h1,h2⟩:=h
  have:=Runs.frontX h2 (fun a' ha'=>hp a' (by simp[ha']))
  exact hp (a1,a2) (by simp) T M (p++q) T' M' ⟨h1,this⟩
theorem gameX {c:Cx}(hc:c.ok){ops:Array Oper}{n0 m:Nat}{T':Tm}{M':Mem}{D:List Deferred}{R:Ending→World→Prop}{k:List Item}(hm:m≤ops.size)
  (hlow :∀i o e,ops[i]? = some o→e∈o.after→Region.binds .any e=true→e.on<i) (htail :∀i j,m≤i→i<ops.size→j<i→TP ops j i)
  (hfin :∀ ρ a w,a.tmps.size=c.fn.ntmps→TmOk ρ T' (· < n0+ops.size) a→a.defers=D→WI c.w0 c.L ρ M' (· < n0+ops.size) w→TW c.P c.f c.rr a (.inRegion ops (qG m (ops.size-m))::k) w R) :
  ∀(fuel:Nat) (l:List (Tr×Option Eff)) (t:Nat) (listed:Array Bool) (T:Tm) (M:Mem) (S:Nat→Prop) (ρ:Env) (a:Act) (w:World),
   listed.size=ops.size→(∀i,i<ops.size→(listed.getD i true=false↔(∃x∈l,x.1.i=i)∨m≤i))→Down ops listed→l.length+(ops.size-m)≤fuel →
   l.Pairwise (fun a b=>a.1.i<b.1.i)→(∀x∈l,x.1.i<m)→l.Pairwise (fun a b=>TP ops a.1.i b.1.i∨SwapOk c ops.toList n0 a b)→Runs c ops.toList n0 l T M T' M' →
   a.tmps.size=c.fn.ntmps→TmOk ρ T S a→a.defers=D→WI c.w0 c.L ρ M S w→(∀x,S x→x<n0+ops.size)→(∀x∈l,¬S (n0+x.1.i)) →
   TW c.P c.f c.rr a (.inRegion ops (Region.linearise.go .any ops fuel t listed [])::k) w R:=by
 intro fuel
 induction fuel with
 |zero=>
  intro l t listed T M S ρ a w hls hU hD hcount hsort hlt hap hrun hsz hT hdf hW hS hfresh
  have hl:l=[]:=List.length_eq_zero_iff.1 (by omega)
  subst hl
  obtain⟨rfl,rfl⟩:=hrun
  rw[hH (ops.size-m) m 0 t listed (by omega) (by omega) hls (fun i hi=>by rw[hU i hi];simp) hD htail hlow]
  exact hfin ρ a w hsz (hT.mono hS) hdf (hW.mono hS)
 |succ fuel ih=>
  intro l t listed T M S ρ a w hls hU hD hcount hsort hlt hap hrun hsz hT hdf hW hS hfresh
  cases hl:l with
  |nil=>
   subst hl
   obtain⟨rfl,rfl⟩:=hrun
   rw[hH (ops.size-m) m (fuel+1) t listed (by omega) (by simpa using hcount) hls (fun i hi=>by rw[hU i hi];simp) hD htail hlow]
   exact hfin ρ a w hsz (hT.mono hS) hdf (hW.mono hS)
  |cons x0 l0=>
   have hx0:x0∈l:=by rw[hl];simp
   have hx0m:=hlt x0 hx0
   have hx0lt:x0.1.i<ops.size:=by omega
   have hx0un:listed.getD x0.1.i true=false:=(hU _ hx0lt).2 (.inl ⟨x0,hx0,rfl⟩)
   have hready:x0.1.i∈Region.ready .any ops listed:=by
    refine mem_ready.2 ⟨hx0lt,hx0un,fun o e ho he hb=> ?_⟩
    have hlow':=hlow _ o e ho he hb
    cases hcx:listed.getD e.on false with
    |true=>rfl
    |false=>
     have hlt':e.on<listed.size:=by omega
     have:listed.getD e.on true=false:=by
      simp[Array.getD_eq_getD_getElem?,Array.getElem?_eq_getElem hlt']at hcx ⊢;exact hcx
     rcases(hU e.on (by omega)).1 this with⟨y,hy,hye⟩|hge
     ·rw[hl]at hy hsort
      rcases List.mem_cons.1 hy with rfl|hy
      ·omega
      ·have:=(List.pairwise_cons.1 hsort).1 y hy;omega
     ·omega
   obtain⟨i,hi,hir⟩:=kQ (ops:=ops) (listed:=listed) t (by intro h;rw[h]at hready;cases hready)
   obtain⟨h1,h2,h3⟩:=mem_ready.1 hir
   have him :¬m≤i:=by
    intro hge
    have:=TP.listed hD (htail i x0.1.i hge h1 (by omega)) h3
    have:=(kN hx0un).2
    simp_all
   obtain⟨⟨b,x⟩,hbl,hbi⟩ :∃y∈l,y.1.i=i:=by
    rcases(hU i h1).1 h2 with h|h
    ·exact h
    ·exact absurd h him
   simp only at hbi
   subst hbi
   obtain⟨p,q,hpq⟩:=List.append_of_mem hbl
   rw[hpq]at hrun hap hsort
   have hapart :∀y∈p,SwapOk c ops.toList n0 y (b,x):=by
    intro y hy
    rcases(List.pairwise_append.1 hap).2.2 y hy (b,x) (by simp)with htp|h
    ·exfalso
     have e1:=TP.listed hD htp h3
     have hyl:y∈l:=by rw[hpq];simp[hy]
     have e2:=(kN ((hU y.1.i (by have:=hlt y hyl;omega)).2 (.inl ⟨y,hyl,rfl⟩))).2
     simp_all
    ·exact h
   obtain⟨hstep,hrest⟩:=Runs.frontX hrun hapart
   have hbm:b.i<m:=hlt (b,x) hbl
   have hbS :¬S (n0+b.i):=hfresh (b,x) hbl
   have hsort':(p++q).Pairwise (fun a b=>a.1.i<b.1.i):=by
    rw[List.pairwise_append]at hsort ⊢
    exact⟨hsort.1,(List.pairwise_cons.1 hsort.2.1).2,fun y hy z hz=>hsort.2.2 y hy z (by simp[hz])⟩
   have hap':(p++q).Pairwise (fun a b=>TP ops a.1.i b.1.i∨SwapOk c ops.toList n0 a b):=by
    rw[List.pairwise_append]at hap ⊢
    exact⟨hap.1,(List.pairwise_cons.1 hap.2.1).2,fun y hy z hz=>hap.2.2 y hy z (by simp[hz])⟩
   have hne :∀y∈p++q,y.1.i≠b.i:=by
    intro y hy e
    rw[List.pairwise_append]at hsort
    rcases List.mem_append.1 hy with hy|hy
    ·have:=hsort.2.2 y hy (b,x) (by simp);simp only at this;omega
    ·have:=(List.pairwise_cons.1 hsort.2.1).1 y hy;simp only at this;omega
   have hmem :∀y,y∈l↔y=(b,x)∨y∈p++q:=by intro y;rw[hpq];simp;constructor<;>(rintro(h|h|h)<;>simp[h])
   have hU' :∀j,j<ops.size→((listed.setIfInBounds b.i true).getD j true=false↔(∃y∈p++q,y.1.i=j)∨m≤j):=by
    intro j hj
    rw[yW]
    constructor
    ·intro h
     split at h
     ·cases h
     ·rename_i hnej
      rcases(hU j hj).1 h with⟨y,hy,hyj⟩|h
      ·rcases(hmem y).1 hy with rfl|hy
       ·exact absurd ⟨hyj,by omega⟩ hnej
       ·exact .inl ⟨y,hy,hyj⟩
      ·exact .inr h
    ·rintro(⟨y,hy,hyj⟩|h)
     ·rw[if_neg (fun hh=>hne y hy (hyj.trans hh.1.symm))]
      exact(hU j hj).2 (.inl ⟨y,(hmem y).2 (.inr hy),hyj⟩)
     ·rw[if_neg (by omega)]
      exact(hU j hj).2 (.inr h)
   have hlt' :∀y∈p++q,y.1.i<m:=fun y hy=>hlt y ((hmem y).2 (.inr hy))
   have hlen:(p++q).length+(ops.size-m)≤fuel:=by
    have:l.length=(p++q).length+1:=by rw[hpq];simp;omega
    omega
   rw[vO,hi]
   simp only
   obtain⟨o,s1,s2,s3,s4,s5⟩:=hstep
   rw[q8,Array.getElem?_toList]at s1
   cases x with
   |none=>
    refine TW.pass s1 (zI hT s5.1) ?_
    refine ih (p++q) _ _ _ _ S ρ _ w (by simpa using hls) hU' (hD.set h3) hlen hsort' hlt' hap' hrest (by rw[Act.put_size];exact hsz) ?_ (by rw[Act.put_defers];exact hdf) hW hS (fun y hy=>hfresh y ((hmem y).2 (.inr hy)))
    rw[s3]
    exact hT.updD hsz (Env.agree.refl S ρ) (fun _ h=>h) s2 (v:=.v undef) trivial
   |some e=>
    obtain⟨g1,g2,g3,g4,g5⟩:=s5
    refine TW.op s1 (zI hT g1) ?_
    refine(opF_ok hc.tab hc.pf hT hW hbS g2 g3).mono fun v w' hp=> ?_
    obtain⟨ρ',r1,rfl,r3,r4⟩:=hp
    have hdom :∀j,S j→e.dom S (n0+b.i) j:=fun j hj=>by cases e<;>first|exact hj|exact .inl hj
    have hdom' :∀j,e.dom S (n0+b.i) j→S j∨j=n0+b.i:=fun j hj=>by cases e<;>first|exact .inl hj|exact hj
    refine ih (p++q) _ _ _ _ (e.dom S (n0+b.i)) ρ' _ w' (by simpa using hls) hU' (hD.set h3) hlen hsort' hlt' hap' hrest (by rw[Act.put_size];exact hsz) ?_ (by rw[Act.put_defers];exact hdf) r4 ?_ ?_
    ·rw[s3]
     exact hT.updD hsz r1 hdom s2 r3
    ·intro j hj
     rcases hdom' j hj with hj|rfl
     ·exact hS j hj
     ·omega
    ·intro y hy hj
     rcases hdom' _ hj with hj|hj
     ·exact hfresh y ((hmem y).2 (.inr hy)) hj
     ·exact hne y hy (by omega)
def swapD (ops:List Oper)(oa ob:Oper):Bool:=freeB oa.dst ob.dst.toList&&freeB oa.dst (zJ ops ob)&&freeB ob.dst (zJ ops oa)
theorem swapD_ok {ops:List Oper}{oa ob:Oper}(h:swapD ops oa ob=true):(∀t,oa.dst=some t→ob.dst≠some t)∧(∀t,oa.dst=some t→t∉zJ ops ob)∧(∀t,ob.dst=some t→t∉zJ ops oa):=by
 unfold swapD at h
 simp only[Bool.and_eq_true]at h
 obtain⟨⟨h1,h2⟩,h3⟩:=h
 have fr :∀{t:Option Nat} {l:List Nat},freeB t l=true → ∀x,t=some x→x∉l:=by
  intro t l ht x hx
  subst hx
  exact uZ (by simpa[freeB]using ht)
 exact⟨fun t ht hb=>fr h1 t ht (by rw[hb];simp),fr h2,fr h3⟩
theorem sZ {tab:Tab}{T:Tm}{M:Mem}{t:TypeId}{x y:Operand}{e:Eff}(h:xX tab T M t x y=some e) :
  ∃kt tk et z kv k i pk l,kinfo tab t=some (kt,tk,et,z)∧ev T y=some kv∧keyS tk kv=some k∧ev T x=some (.mp i)∧M i=some (.kmap pk true l)∧(k.pair==pk)=true∧e = .wrv none i (.kmap pk true (j5 l k z)) (.tup [.v ((zM l k).getD z),.v (.int .i64 ((kidx l k:Nat):Int))]):=by
 unfold xX at h
 split at h
 case h_2=>cases h
 rename_i i pk l tk z hat
 unfold kP at hat
 split at hat
 case h_2=>cases hat
 rename_i kt tk' et z' hki
 split at hat
 case h_2=>cases hat
 rename_i j hx
 split at hat
 case h_2=>cases hat
 rename_i pk' nn l' hj
 split at hat
 case h_2=>cases hat
 simp only[Option.some.injEq,Prod.mk.injEq]at hat
 obtain⟨rfl,rfl,rfl,rfl,rfl⟩:=hat
 split at h
 case h_2=>cases h
 rename_i kv hkv
 split at h
 case h_2=>cases h
 rename_i k hks
 split at h
 case h_2=>cases h
 rename_i hpk
 obtain rfl:=Option.some.inj h
 exact⟨kt,_,et,_,kv,k,_,_,_,hki,hkv,hks,hx,hj,hpk,rfl⟩
theorem swap_entry {c:Cx}(hc:c.ok){ops:List Oper}{n0 ia ib:Nat}{oa ob:Oper}{t:TypeId}{x y:Operand}(ha:get ops ia=some oa)(hoa:oa.op = .lookup t x y false)(hb:get ops ib=some ob)(hob:ob.op = .mapEntry t x y)(hdd:swapD ops oa ob=true)
  {a b:Tr×Option Eff} (h1:a.1.i=ia) (h2:b.1.i=ib):SwapOk c ops n0 a b:=by
 obtain⟨ta,xa⟩:=a
 obtain⟨tb,xb⟩:=b
 simp only at h1 h2
 subst h1 h2
 obtain⟨d1,d2,d3⟩:=swapD_ok hdd
 rintro T M l T' M' ⟨hA,hB,hR⟩
 have hAi:=hA
 have hBi:=hB
 obtain⟨o1,a1,a2,a3,a4,a5⟩:=hA
 obtain⟨o2,b1,b2,b3,b4,b5⟩:=hB
 obtain rfl:oa=o1:=by rw[ha]at a1;exact Option.some.inj a1
 obtain rfl:ob=o2:=by rw[hb]at b1;exact Option.some.inj b1
 have hTb :∀q∈zJ ops ob,actT xa ta.dst T q=T q:=fun q hq=>vX fun u hu e=>d2 u (a3▸hu) (e▸hq)
 have hTa :∀q∈zJ ops oa,actT xb tb.dst T q=T q:=fun q hq=>vX fun u hu e=>d3 u (b3▸hu) (e▸hq)
 have hra :∀z∈oa.op.operands.toList,∀q∈k9 z,actT xb tb.dst T q=T q:=fun z hz q hq=>hTa q (by unfold zJ;exact List.mem_append_left _ (List.mem_flatMap.2 ⟨z,hz,hq⟩))
 have hga :∀q∈guardT ops oa,actT xb tb.dst T q=T q:=fun q hq=>hTa q (by unfold zJ;exact List.mem_append_right _ hq)
 have hrb :∀z∈ob.op.operands.toList,∀q∈k9 z,T q=actT xa ta.dst T q:=fun z hz q hq=>(hTb q (by unfold zJ;exact List.mem_append_left _ (List.mem_flatMap.2 ⟨z,hz,hq⟩))).symm
 have hgb :∀q∈guardT ops ob,T q=actT xa ta.dst T q:=fun q hq=>(hTb q (by unfold zJ;exact List.mem_append_right _ hq)).symm
 have hcomm :∀T,actT xa ta.dst (actT xb tb.dst T)=actT xb tb.dst (actT xa ta.dst T):=fun T=>actT_comm fun q hq hq'=>d1 q (a3▸hq') (b3▸hq)
 cases xa with
 |none=>
  refine⟨?_,⟨oa,a1,a2,a3,a4,by rw[j8 hga];exact a5.1,a5.2⟩,?_⟩
  ·cases xb with
   |none=>exact⟨ob,b1,b2,b3,b4,by rw[j8 hgb];exact b5.1,b5.2⟩
   |some e=>
    obtain⟨g1,g2,g3,g4,g5⟩:=b5
    exact⟨ob,b1,b2,b3,b4,by rw[j8 hgb];exact g1,wJ hc.pf g2 hrb (fun _ _=>rfl) (fun _ _=>rfl),g3,by rw[g4,kF hrb],g5⟩
  ·rw[hcomm];exact hR
 |some ea=>
  obtain⟨f1,f2,f3,f4,f5⟩:=a5
  rw[hoa]at f2
  have f2':xM c.tab T M t x y false=some ea:=f2
  have hval :∃v,ea = .val none v:=by
   unfold xM at f2'
   repeat' (split at f2')
   all_goals first
    |exact⟨_,(Option.some.inj f2').symm⟩
    |cases f2'
  obtain⟨v,rfl⟩:=hval
  cases xb with
  |none=>
   refine⟨⟨ob,b1,b2,b3,b4,by rw[j8 hgb];exact b5.1,b5.2⟩,⟨oa,a1,a2,a3,a4,?_⟩,?_⟩
   ·refine⟨by rw[j8 hga];exact f1,?_,trivial,by rw[f4,kF hra],f5⟩
    rw[←hoa]at f2
    exact wJ hc.pf f2 hra (fun _ _=>rfl) (fun _ _=>rfl)
   ·rw[hcomm];exact hR
  |some eb=>
   obtain⟨g1,g2,g3,g4,g5⟩:=b5
   have g2':opF c.tab c.pf T M (n0+tb.i) ob.op=some eb:=wJ hc.pf g2 hrb (fun _ _=>rfl) (fun _ _=>rfl)
   have g2'':xX c.tab T M t x y=some eb:=by rw[hob]at g2';exact g2'
   obtain⟨kt,tk,et,z,kv,k,i,pk,l',k1,k2,k3,k4,k5,k6,rfl⟩:=sZ g2''
   have hv:v=kO false (zM l' k) z:=by
    simp only[xM,k1,k2,k3,k4,k5,k6,Option.some.injEq,Eff.val.injEq,true_and]at f2'
    exact f2'.symm
   refine⟨⟨ob,b1,b2,b3,b4,by rw[j8 hgb];exact g1,g2',g3,by rw[g4,kF hrb],g5⟩,⟨oa,a1,a2,a3,a4,?_⟩,?_⟩
   ·refine⟨by rw[j8 hga];exact f1,?_,trivial,by rw[f4,kF hra],f5⟩
    rw[hoa]at hra ⊢
    have e1:=kE (T:=T) (T':=actT (some (Eff.wrv none i (.kmap pk true (j5 l' k z)) (.tup [.v ((zM l' k).getD z),.v (.int .i64 ((kidx l' k:Nat):Int))]))) tb.dst T) (x:=x) (hra x (by simp[Op.operands]))
    have e2:=kE (T:=T) (T':=actT (some (Eff.wrv none i (.kmap pk true (j5 l' k z)) (.tup [.v ((zM l' k).getD z),.v (.int .i64 ((kidx l' k:Nat):Int))]))) tb.dst T) (x:=y) (hra y (by simp[Op.operands]))
    have e3:actM (some (Eff.wrv none i (.kmap pk true (j5 l' k z)) (.tup [.v ((zM l' k).getD z),.v (.int .i64 ((kidx l' k:Nat):Int))]))) (n0+tb.i) M i=some (.kmap pk true (j5 l' k z)):=jO _ _ _
    show xM c.tab _ _ t x y false=_
    simp only[xM,k1,e2,k2,k3,e1,k4,e3,k6,hv,kO,kget_ent]
   ·rw[hcomm];exact hR
def pairsX (mk:List Nat)(ia ib:Nat):List Tr→Bool
 | []=>true
 |a::l=>(l.all fun b=>(jJ mk b.i).testBit a.i||apartB a b||(Nat.beq a.i ia&&Nat.beq b.i ib))&&pairsX mk ia ib l
theorem pairsX_ok {ops:Array Oper}{mk:List Nat}{ia ib:Nat}(hmk :∀k j,(jJ mk k).testBit j=true→TP ops j k) :∀{l:List Tr},pairsX mk ia ib l=true→l.Pairwise (fun a b=>TP ops a.i b.i∨Apart a b∨(a.i=ia∧b.i=ib))
 | [],_=>.nil
 |a::l,h=>by
  unfold pairsX at h
  simp only[Bool.and_eq_true]at h
  refine .cons (fun b hb=> ?_) (pairsX_ok hmk h.2)
  have:=List.all_eq_true.1 h.1 b hb
  simp only[Bool.or_eq_true,Bool.and_eq_true]at this
  rcases this with(h|h)|⟨h,h'⟩
  ·exact .inl (hmk _ _ h)
  ·exact .inr (.inl (apartB_ok h))
  ·exact .inr (.inr ⟨Nat.eq_of_beq_eq_true h,Nat.eq_of_beq_eq_true h'⟩)
def chkX (ops:List Oper)(m ia ib:Nat)(l:List Tr):Bool:=
 lowB 0 ops&&Nat.ble m (jT ops)&&(let mk:=v6 ops [];tailB mk m (jT ops)&&pairsX mk ia ib l)
theorem Run.drawX {c:Cx}(hc:c.ok){T:List (Nat×SV)}{M:List (Nat×SObj)}{n:Nat}{D:List Deferred}{id:Nat}{ops:Array Oper}{k:List Item}{R:Ending→World→Prop}(m:Nat)(ia ib:Nat){oa ob:Oper}{t:TypeId}{x y:Operand}(ha:get ops.toList ia=some oa)(hoa:oa.op = .lookup t x y false)(hb:get ops.toList ib=some ob)(hob:ob.op = .mapEntry t x y)(hdd:swapD ops.toList oa ob=true)
  (h:jP c ops.toList n (Run c ⟨T,M,n,D,.code (.region id ops true)::k⟩ R) (fun T M l=>chkX ops.toList m ia ib l=true∧Run c ⟨T,M,n+jT ops.toList,D,.inRegion ops (qG m (jT ops.toList-m))::k⟩ R) (qG 0 m) T M []) :
  Run c ⟨T,M,n,D,.code (.region id ops true)::k⟩ R:=by
 rcases u4 _ _ _ _ h with h|⟨l,T',M',h1,h2,h3,h4⟩
 ·exact h
 simp only[List.nil_append]at h3
 unfold chkX at h3
 simp only[Bool.and_eq_true]at h3
 obtain⟨⟨c1,c2⟩,c3,c4⟩:=h3
 rw[j6,Array.length_toList]at c2 c3 h4
 have hmle:=Nat.le_of_ble_eq_true c2
 have hmk :∀k j,(jJ (v6 ops.toList []) k).testBit j=true→TP ops j k:=uG ops.toList [] (by simp) (by simp[jJ])
 have hidx:l.map (·.1.i)=List.range m:=by rw[h1,tD]
 have hlm :∀x∈l,x.1.i<m:=by
  intro x hx
  have:x.1.i∈l.map (·.1.i):=List.mem_map.2 ⟨x,hx,rfl⟩
  rw[hidx]at this
  exact List.mem_range.1 this
 have hsort:l.Pairwise (fun a b=>a.1.i<b.1.i):=by
  have:(l.map (·.1.i)).Pairwise (· < ·):=by rw[hidx];exact List.pairwise_lt_range
  exact List.pairwise_map.1 this
 have hpair:l.Pairwise (fun a b=>TP ops a.1.i b.1.i∨SwapOk c ops.toList n a b):=(List.pairwise_map.1 (pairsX_ok hmk c4)).imp fun {a b} hab=>by
  rcases hab with h|h|⟨h1,h2⟩
  ·exact .inl h
  ·exact .inr fun T M l T' M' hr=>hr.swap hc.pf h
  ·exact .inr (swap_entry hc ha hoa hb hob hdd h1 h2)
 refine⟨fun ρ a w hi=> ?_⟩
 refine TW.next (todo':=.inRegion ops (Region.schedule (c.P.follows .mixedOrders) ops (w.tape w.drawn (.order c.f id)))::k) (a':=a) (w':=w.drew) (fun cs=>kV) ?_
 have hsch:Region.schedule (c.P.follows .mixedOrders) ops (w.tape w.drawn (.order c.f id))=Region.linearise.go .any ops ops.size (w.tape w.drawn (.order c.f id)) (Array.replicate ops.size false) []:=by
  simp only[Region.schedule,hc.mixed,Bool.true_or,if_true];rfl
 rw[hsch]
 have hfin :∀ ρ a w,a.tmps.size=c.fn.ntmps→TmOk ρ (look T') (· < n+ops.size) a→a.defers=D→WI c.w0 c.L ρ (look M') (· < n+ops.size) w→TW c.P c.f c.rr a (.inRegion ops (qG m (ops.size-m))::k) w R:=
  fun ρ a w q1 q2 q3 q4=>h4.go ρ a w ⟨q1,q2,q3,q4⟩
 refine gameX hc hmle (lowB_ok ops.toList 0 c1 (by simp) · · · (Nat.zero_le _)) (fun i j=>tailB_ok hmk c3 i j) hfin ops.size l _ _ _ _ _ ρ a w.drew (by simp) ?_ ?_ ?_ hsort hlm hpair h2 hi.sz hi.tm hi.df (hi.wi.ext (Ext.drew w)) (fun x hx=> ?_) (fun x _=> ?_)
 ·intro i hi'
  have e:(Array.replicate ops.size false).getD i true=false:=by simp[Array.getD_eq_getD_getElem?,hi']
  simp only[e,true_iff]
  rcases Nat.lt_or_ge i m with hlt|hge
  ·left
   have:i∈l.map (·.1.i):=by rw[hidx];exact List.mem_range.2 hlt
   obtain⟨x,hx,hxi⟩:=List.mem_map.1 this
   exact⟨x,hx,hxi⟩
  ·exact .inr hge
 ·intro i hi'
  simp[Array.getD_eq_getD_getElem?,Array.getElem?_replicate]at hi'
  split at hi'<;>simp_all
 ·have:l.length=m:=by have:=congrArg List.length hidx;simpa using this
  omega
 ·have:x<n:=hx
  show x<n+ops.size
  omega
 ·intro hlt
  have:n+x.1.i<n:=hlt
  omega
def envPl (pl:List (Nat×Nat×Nat×(Option Addr×Nat×Nat))):Env where
 s i:=match look pl i with
  |some x=>x.1
  |none=>0
 o i:=match look pl i with
  |some x=>x.2.1
  |none=>0
 h i:=match look pl i with
  |some x=>x.2.2
  |none=>(none,0,0)
theorem vJ {α : Type} :∀{l:List (Nat× α)} {i:Nat} {x : α},(i,x)∈l → ∃y,look l i=some y
 | [],i,x,h=>by cases h
 |(k,y)::l,i,x,h=>by
  rw[qP]
  by_cases e:k=i
  ·exact⟨y,if_pos e⟩
  ·rw[if_neg e]
   rcases List.mem_cons.1 h with h|h
   ·exact absurd (Prod.mk.inj h).1.symm e
   ·exact vJ h
theorem envPl_agree {ρ:Env}{n:Nat}{pl:List (Nat×Nat×Nat×(Option Addr×Nat×Nat))}(hc:jW n pl)(h :∀p∈pl,ρ.s p.1=p.2.1∧ρ.o p.1=p.2.2.1∧ρ.h p.1=p.2.2.2):Env.agree (· < n) (envPl pl) ρ:=by
 intro i hi
 obtain⟨x,hx⟩:=hc.2 i hi
 obtain⟨y,hy⟩:=vJ hx
 obtain⟨h1,h2,h3⟩:=h _ (qF hy)
 simp only[envPl,hy]
 exact⟨h1,h2,h3⟩
theorem WI.envPl {w0 w:World}{L:List (Nat×Nat)}{ρ:Env}{M:Mem}{S:Nat→Prop}{q:Nat}{pl:List (Nat×Nat×Nat×(Option Addr×Nat×Nat))}(hW:WI w0 L ρ M S w)(hc:jW q pl)(hq:M q=some (.pin pl)):Env.agree (· < q) (Sx.envPl pl) ρ:=envPl_agree hc (hW.mem q _ hq).2.2
mutual
theorem ren_fix {S:Nat→Prop}{r:Nat→Nat}(h :∀i,S i→r i=i) :∀(v:SV),v.sc S→v.ren r=v
 | .v _,_=>rfl
 | .ptr i _,hs=>by simp only[SV.ren,h i hs]
 | .slc i _ _ _,hs=>by simp only[SV.ren,h i hs]
 | .opq i,hs=>by simp only[SV.ren,h i hs]
 | .mp i,hs=>by simp only[SV.ren,h i hs]
 | .fn _ caps,hs=>by simp only[SV.ren,qY h caps hs]
 | .agg cs,hs=>by simp only[SV.ren,qY h cs hs]
 | .tup vs,hs=>by simp only[SV.ren,qY h vs hs]
theorem qY {S:Nat→Prop}{r:Nat→Nat}(h :∀i,S i→r i=i) :∀(l:List SV),SV.scs S l→SV.rens r l=l
 | [],_=>rfl
 |a::l,hs=>by simp only[SV.rens,ren_fix h a hs.1,qY h l hs.2]
end
theorem Widens.refl (w0:World)(L:List (Nat×Nat)):Widens w0 L L:=⟨fun _ h=>h,fun p hp=>.inl ⟨p,hp,rfl⟩⟩
theorem SpecR.rS {c:Cx}{Lo:List (Nat×Nat)}{M M1:List (Nat×SObj)}{n n1 B:Nat}{pl:List (Nat×Nat×Nat×(Option Addr×Nat×Nat))}{v v0:SV}(k:Nat)(hk:B≤k)(hwid:Widens c.w0 Lo c.L)(hL :∀p∈Lo,p.1<B)(hB:B≤n1)(hcov:jW B pl)(hq:look M B=some (.pin pl))(hv:v.ren (sh B k)=v0)(hvs:v.sc (· < n1))
  (hM1:AllP (fun x=>look M (sh B k x.1)=some (x.2.ren (sh B k))∧x.1<n1∧x.2.sc (· < n1)) M1):RetOk c M n v0 (SpecR c.w0 Lo pl v M1 n1):=by
 refine⟨fun ρ w hW _=>⟨ρ.ren (sh B k),by rw[←hv,kC],hvs,fun p hp=> ?_,WI.less (r:=sh B k) ⟨hM1.mem,fun x _ y _ h=>sh_inj hk h,fun p hp=>⟨yY (hL p hp),by have:=hL p hp;omega⟩⟩ (hW.narrow hwid)⟩⟩
 have h1:=hcov.1 p hp
 have h2:=(hW.mem B _ hq).2.2 p hp
 simp only[Env.ren,yY h1]
 exact h2
theorem x5 {B n:Nat}(i:Nat)(h:i<B):sh B n i=i:=yY h
theorem SV.s7 {a b:Nat}(h:a≤b){l:List SV}(hl:SV.scs (· < a) l):SV.scs (· < b) l:=SV.rL (fun j (hj:j<a)=>Nat.lt_of_lt_of_le hj h) l hl
theorem WI.ext_refl (w:World):ModF w (fun _=>False) w:=(Ext.refl w).modF _
end Go.Sx
namespace Go.Proofs.Ytnnlpdgnlccbjaa
open Go.Sx
set_option maxRecDepth 100000
def ival:Value→Int
 | .int _ n=>n
 |_=>0
def kiv (l:List (Key×Value))(k:Key):Int:=ival ((zM l k).getD (.int .i64 0))
def KInt (l:List (Key×Value)):Prop:= ∀x∈l,∃n,x.2 = .int .i64 n
theorem kget_mem :∀{l:List (Key×Value)} {k:Key} {v:Value},zM l k=some v→(k,v)∈l
 | [],k,v,h=>by cases h
 |(a,u)::l,k,v,h=>by
  unfold zM at h
  split at h
  ·rename_i e;obtain rfl:=Option.some.inj h;subst e;simp
  ·exact List.mem_cons_of_mem _ (kget_mem h)
theorem kint_get {l:List (Key×Value)}(h:KInt l)(k:Key):(zM l k).getD (.int .i64 0) = .int .i64 (kiv l k):=by
 unfold kiv
 cases hg:zM l k with
 |none=>rfl
 |some v=>
  obtain⟨n,hn⟩:=h _ (kget_mem hg)
  simp only at hn
  subst hn;rfl
theorem kput_mem :∀{l:List (Key×Value)} {k:Key} {v:Value} {x:Key×Value},x∈zK l k v→x.2=v∨x∈l
 | [],k,v,x,h=>by simp[zK]at h;subst h;exact .inl rfl
 |(a,u)::l,k,v,x,h=>by
  unfold zK at h
  split at h
  ·rcases List.mem_cons.1 h with rfl|h
   ·exact .inl rfl
   ·exact .inr (List.mem_cons_of_mem _ h)
  ·rcases List.mem_cons.1 h with rfl|h
   ·exact .inr (List.mem_cons_self ..)
   ·rcases kput_mem h with h|h
    ·exact .inl h
    ·exact .inr (List.mem_cons_of_mem _ h)
theorem KInt.put {l:List (Key×Value)}(h:KInt l)(k:Key)(n:Int):KInt (zK l k (.int .i64 n)):=fun x hx=>by
 rcases kput_mem hx with h1|h1
 ·exact⟨n,h1⟩
 ·exact h x h1
def zD (pl:List Int):List Nat:=(List.range pl.length).filter fun i=>decide (0≤pl.getD i (-1))
theorem u6 {α β : Type}(p : α → Prop)[DecidablePred p](f : α → β) :∀(l:List α),(l.filterMap fun i=>if p i then some (f i)else none)=(l.filter fun i=>decide (p i)).map f
 | []=>rfl
 |a::l=>by
  rw[List.filterMap_cons,List.filter_cons]
  by_cases h:p a
  ·simp only[if_pos h,decide_eq_true h,if_true,List.map_cons,u6 p f l]
  ·simp only[if_neg h,decide_eq_false h,Bool.false_eq_true,if_false,u6 p f l]
theorem xJ (b o:Nat)(pl:List Int):uB b o pl=(zD pl).map fun(i:Nat)=>[Value.int .i64 (i:Int),.pointer (some ⟨b,o+i*4,none⟩)]:=u6 _ _ _
theorem uQ {pl:List Int}{i:Nat}(h:i∈zD pl) :∃hi:i<pl.length,0≤pl[i]:=by
 obtain⟨h1,h2⟩:=List.mem_filter.1 h
 have h1:=List.mem_range.1 h1
 refine⟨h1,?_⟩
 have:=of_decide_eq_true h2
 simpa[List.getD_eq_getElem?_getD,h1]using this
def jB:Rul:=⟨0,0,0,0,0,0,0,0,0,false⟩
def zC:Syn:=⟨0,0,0,0⟩
def qW:Mrk:=⟨0,0,0,0⟩
def jG (S:List Syn)(rs:List Rul)(pl:List Int)(m:List Mrk)(acc:List (Key×Value))(i:Nat):List (Key×Value):=
 if (rs.getD (pl.getD i (-1)).toNat jB).sum=true then zK acc (.p (pl.getD i (-1)) (S.getD i zC).to) (.int .i64 (W (kiv acc (.p (pl.getD i (-1)) (S.getD i zC).to)+(m.getD i qW).w)))else acc
def kU (S:List Syn)(rs:List Rul)(pl:List Int)(m:List Mrk)(j:Nat):List (Key×Value):=((zD pl).take j).foldl (jG S rs pl m) []
def qH (S:List Syn)(rs:List Rul)(pl:List Int)(m:List Mrk):List (Key×Value):=(zD pl).foldl (jG S rs pl m) []
theorem sumsY_succ (S:List Syn)(rs:List Rul)(pl:List Int)(m:List Mrk){j i:Nat}(h:(zD pl)[j]? = some i):kU S rs pl m (j+1)=jG S rs pl m (kU S rs pl m j) i:=by
 have hj:=(List.getElem?_eq_some_iff.1 h).1
 have hv:=(List.getElem?_eq_some_iff.1 h).2
 unfold kU
 rw[←List.take_append_getElem hj,List.foldl_append,hv];rfl
theorem sumStep_int {S:List Syn}{rs:List Rul}{pl:List Int}{m:List Mrk}{acc:List (Key×Value)}{i:Nat}(h:KInt acc):KInt (jG S rs pl m acc i):=by
 unfold jG
 split
 ·exact h.put _ _
 ·exact h
theorem sC (S:List Syn)(rs:List Rul)(pl:List Int)(m:List Mrk) :∀j,KInt (kU S rs pl m j):=by
 have :∀(l:List Nat) (acc:List (Key×Value)),KInt acc→KInt (l.foldl (jG S rs pl m) acc):=by
  intro l
  induction l with
  |nil=>intro acc h;exact h
  |cons a l ih=>intro acc h;exact ih _ (sumStep_int h)
 exact fun j=>this _ _ (fun x hx=>by cases hx)
theorem uV:BSpec Try.prog 81 [.ptr 0 0] [] 24 [] (.fn 103 [.ptr 24 0]) [(24,.cells [.ptr 0 0] 64)] 25:=by
 have hc :∀w L',Cx.ok ⟨Try.prog,tab,[],81,Try.f81,[],w,L',none⟩:=fun w L'=>⟨qI,trivial,Try.func81,mixed,fun _ h=>by cases h⟩
 refine BSpec.start (tab:=tab) (pf:=[]) (cuts:=[]) Try.func81 rfl ⟨ltb rfl,trivial⟩ rfl fun w L' pl hL hLB hcov=>Run.s0 (hc w L') 100 _ ?_
 conv=>whnf
 exact SpecR.intro 25 (by decide) hLB (by decide) hcov rfl rfl ⟨ltb rfl,trivial⟩ ⟨⟨rfl,ltb rfl,⟨ltb rfl,trivial⟩⟩,trivial⟩
theorem qU {a b i:Nat}(h:i<a):rs a b i=i:=by unfold rs;rw[if_neg (by omega)]
theorem SynI.of {w0 w:World}{L:List (Nat×Nat)}{ρ:Env}{M:List (Nat×SObj)}{n:Nat}(hW:WI w0 L ρ (Sx.look M) (· < n) w)(kb q:Nat)(pl2:List (Nat×Nat×Nat×(Option Addr×Nat×Nat)))(C:List SV)(pl:List Int)(vs:List Value)(hcov:jW q pl2)(hq:Sx.look M q=some (.pin pl2))(hkb:kb<q)(h24:24<kb)
  (m24:Sx.look M kb=some (.cells [.ptr 0 0] 64)) (m0:Sx.look M 0=some (.cells C 96)) (m5:Sx.look M 5=some (.rwin 1 pl.length (qD pl))) (m6 :∃o,Sx.look M 6=some o∧Conv o (.rwin 4 pl.length vs)) (hC:SV.scs (· < 24) C):SynI ((envPl pl2).ren (rs 24 kb)) C pl w:=by
 refine⟨ρ.ren (rs 24 kb),[(0,ρ.s 0),(24,ρ.s kb)],vs,?_,by simp,fun i hi=> ?_⟩
 ·refine hW.again (WI.ext_refl w) (rs 24 kb) _ (itM C pl vs) 25 (fun p hp=> ?_) (fun x hx=> ?_) (fun x hx y hy h=> ?_)
  ·simp only[List.mem_cons,List.not_mem_nil,or_false]at hp
   rcases hp with rfl|rfl
   ·exact⟨by omega,rfl,⟨(0,.cells C 96),by simp[itM],rfl⟩,_,m0,trivial⟩
   ·exact⟨by omega,rfl,⟨(24,.cells [.ptr 0 0] 64),by simp[itM],rfl⟩,_,m24,trivial⟩
  ·simp only[itM,List.mem_cons,List.not_mem_nil,or_false]at hx
   rcases hx with rfl|rfl|rfl|rfl
   ·exact⟨by omega,⟨ltb rfl,trivial⟩,fun _=>⟨_,by simp;exact .inr rfl,rfl⟩,_,m24,.inl rfl,by simp[SObj.away],fun h=>by cases h⟩
   ·exact⟨by omega,SV.s7 (by decide) hC,fun _=>⟨_,by simp;exact .inl rfl,rfl⟩,_,m0,.inl (by simp only[SObj.ren];rw[qY (fun i hi=>qU hi) C hC]),by simp[SObj.away],fun h=>by cases h⟩
   ·exact⟨by omega,trivial,fun h=>h.elim,_,m5,.inl rfl,by simp[SObj.away],fun _ p hp=>by simp at hp;rcases hp with rfl|rfl<;>simp⟩
   ·obtain⟨o,ho,hco⟩:=m6
    exact⟨by omega,trivial,fun h=>h.elim,o,ho,hco,by cases o<;>simp[SObj.away],fun _ p hp=>by simp at hp;rcases hp with rfl|rfl<;>simp⟩
  ·have hx:x.1=24∨x.1<24:=by
    simp only[itM,List.mem_cons,List.not_mem_nil,or_false]at hx
    rcases hx with rfl|rfl|rfl|rfl<;>simp
   have hy:y.1=24∨y.1<24:=by
    simp only[itM,List.mem_cons,List.not_mem_nil,or_false]at hy
    rcases hy with rfl|rfl|rfl|rfl<;>simp
   unfold rs
   split<;>split<;>omega
 ·have hag:=hW.envPl hcov hq
  have hi:i<25:=hi
  have hlt:rs 24 kb i<q:=by unfold rs;split<;>omega
  exact hag _ hlt
def sumM (C:List SV)(S:List Syn)(rs:List Rul)(pl:List Int)(m:List Mrk):List (Nat×SObj):=[(0,.cells C 96),(2,.rwin 4 S.length (S.flatMap Syn.vals)),(4,.rwin 10 rs.length (rs.flatMap Rul.vals)),(5,.rwin 1 pl.length (qD pl)),(6,.rwin 4 m.length (m.flatMap Mrk.vals))]
theorem sums_spec (tk:SV)(inp:Int)(rg:Nat→SV)(tt:SV)(S:List Syn)(rs:List Rul)(pl:List Int)(m:List Mrk)(hsc:SV.scs (· < 24) (qJ tk inp rg tt))(h1:pl.length=S.length)(h2:m.length=S.length)(h3 :∀i (h:i<pl.length),pl[i]<(rs.length:Int))(hS:S.length≤8192) :
  BSpec Try.prog 66 [.ptr 0 0] (sumM (qJ tk inp rg tt) S rs pl m) 24 [0] (.mp 24) ((24,.kmap true true (qH S rs pl m))::sumM (qJ tk inp rg tt) S rs pl m) 25:=by
 have hc :∀w L' rd,(∀p,rd=some p→p∈L')→Cx.ok ⟨Try.prog,tab,[],66,Try.f66,[],w,L',rd⟩:=fun w L' rd h=>⟨qI,trivial,Try.func66,mixed,h⟩
 refine BSpec.start (tab:=tab) (pf:=[]) (cuts:=[]) Try.func66 rfl ⟨ltb rfl,trivial⟩ rfl fun w L0 plp hL hLB hcov=>Run.s0 (hc w L0 none nofun) 100 _ ?_
 conv=>whnf
 refine Run.rF (vs:=[.ptr 0 0]) (caps:=[]) uV (ent _ _ Try.func81 (by kernel_rfl) rfl) rfl rfl rfl rfl rfl rfl rfl (by decide) (by decide) trivial (fun i hi=>by cases hi) (.fn 103 [.ptr 28 0])
  [(28,.cells [.ptr 0 0] 64),(27,.cells [.mp 26] 94),(26,.kmap true true []),(25,.cells [.ptr 0 0] 64),(24,.pin plp),(0,.cells (qJ tk inp rg tt) 96),(2,.rwin 4 S.length (S.flatMap Syn.vals)),(4,.rwin 10 rs.length (rs.flatMap Rul.vals)),(5,.rwin 1 pl.length (qD pl)),(6,.rwin 4 m.length (m.flatMap Mrk.vals))] 29 rfl rfl (by repeat first|exact trivial|refine⟨.inr ⟨24,_,rfl,rfl,rfl,rfl⟩,?_⟩|refine⟨.inl ⟨rfl,by simp⟩,?_⟩) ?_
 refine Run.s0 (hc w L0 none nofun) 100 _ ?_
 conv=>whnf
 refine Run.rQ fun pl2 hcov2=> ?_
 refine Run.rangeF (T0:=[(1,.ptr 25 0),(2,.v (.map none)),(3,.ptr 27 0)]) (caps:=[.ptr 28 0]) rfl (x:=.tmp 9) rfl rfl (ent _ _ Try.func103 (by kernel_rfl) rfl) hcov2 rfl (by decide)
  (fun j=>[(29,.pin pl2),(28,.cells [.ptr 0 0] 64),(27,.cells [.mp 26] 94),(26,.kmap true true (kU S rs pl m j)),(25,.cells [.ptr 0 0] 64),(24,.pin plp),(0,.cells (qJ tk inp rg tt) 96),(2,.rwin 4 S.length (S.flatMap Syn.vals)),(4,.rwin 10 rs.length (rs.flatMap Rul.vals)),(5,.rwin 1 pl.length (qD pl)),(6,.rwin 4 m.length (m.flatMap Mrk.vals))]) 32
  (uB ((envPl pl2).s 6) ((envPl pl2).o 6) pl) (by simp) ?_ ?_ (by decide) (fun _=>rfl) ?_ ?_ (SynI ((envPl pl2).ren (Sx.rs 24 28)) (qJ tk inp rg tt) pl) ?_ ?_ ?_ ?_
 ·exact AllP.mem (l:=[10,11]) ⟨Nat.le_of_ble_eq_true rfl,Nat.le_of_ble_eq_true rfl,trivial⟩
 ·intro v hv
  rw[xJ]at hv
  obtain⟨ix,_,rfl⟩:=List.mem_map.1 hv
  rfl
 ·exact AllP.mem ⟨⟨rfl,ltb rfl⟩,⟨rfl,trivial⟩,⟨rfl,ltb rfl⟩,trivial⟩
 ·exact AllP.mem (by repeat first|exact trivial|refine⟨⟨rfl,by omega⟩,?_⟩)
 ·intro ρ w1 hW1
  have h28:=(hW1.envPl hcov2 rfl) 28 (by decide)
  have ho:ρ.o 28=0:=(hW1.mem 28 _ rfl).2.2.1
  have e:SV.concs ρ [.ptr 28 0]=[Value.pointer (some ⟨((envPl pl2).ren (Sx.rs 24 28)).s 24,0,none⟩)]:=by
   simp only[SV.concs,SV.conc,ho,h28.1];rfl
  rw[e]
  exact syn_iter _ tk inp rg tt pl (SV.s7 (by decide) hsc) (by omega)
 ·intro i L' ρ' a d w' hwid hW'
  exact SynI.of hW' 28 29 pl2 _ pl (m.flatMap Mrk.vals) hcov2 rfl (by decide) (by decide) rfl rfl rfl ⟨_,rfl,by rw[h2,h1];exact Conv.refl _⟩ hsc
 ·intro j v hv L' l a d hwid hl hLp
  have hlid :∀p∈L',p.1<32:=fun p hp=>by
   rcases hLp p hp with h|h|h
   ·omega
   ·omega
   ·have:=hLB p h;omega
  rw[xJ,List.getElem?_map]at hv
  cases hix:(zD pl)[j]? with
  |none=>rw[hix]at hv;cases hv
  |some ix=>
  rw[hix]at hv
  obtain rfl:=Option.some.inj hv
  obtain⟨hlt,hge⟩:=uQ (List.mem_of_getElem? hix)
  have hk:pl[ix].toNat<rs.length:=by have:=h3 ix hlt;omega
  refine Run.tell (T':=[(10,ii (ix:Int)),(11,.ptr 6 (ix*4)),(1,.ptr 25 0),(2,.v (.map none)),(3,.ptr 27 0)]) (AllP.mem ⟨⟨_,rfl,trivial,fun _ _ _=>rfl⟩,⟨_,rfl,(show 6<32 by decide),fun ρ w1 hW1=> ?_⟩,⟨_,rfl,(show 25<32 by decide),fun _ _ _=>rfl⟩,⟨_,rfl,trivial,fun _ _ _=>rfl⟩,⟨_,rfl,(show 27<32 by decide),fun _ _ _=>rfl⟩,trivial⟩) ?_
  ·have h6:=(hW1.envPl hcov2 rfl) 6 (by decide)
   simp only[SV.conc,h6.1,h6.2.1]
  refine Run.W1 (hc w L' (some (31,l)) (fun q hq=>by obtain rfl:=Option.some.inj hq;exact hl)) ?_
  conv=>whnf
  refine⟨by omega,?_⟩
  conv=>whnf
  rw[yS ix rfl rfl rfl rfl (by rw[qQ,Nat.mul_one]) (xL hlt)]
  conv=>whnf
  refine⟨by have:=h3 ix hlt;omega,?_⟩
  conv=>whnf
  rw[q9 (f:=Rul.vals) (l:=rs) (c:=.bool rs[pl[ix].toNat].sum) pl[ix].toNat 9 rfl rfl rfl rfl Rul.vlen (by rw[j9]) hk (by decide) rfl]
  conv=>whnf
  have hgd:pl.getD ix (-1)=pl[ix]:=by simp[List.getD_eq_getElem?_getD,hlt]
  have hrd:rs.getD pl[ix].toNat jB=rs[pl[ix].toNat]:=by simp[List.getD_eq_getElem?_getD,hk]
  have hSl:ix<S.length:=by omega
  have hml:ix<m.length:=by omega
  have hSd:S.getD ix zC=S[ix]:=by simp[List.getD_eq_getElem?_getD,hSl]
  have hmd:m.getD ix qW=m[ix]:=by simp[List.getD_eq_getElem?_getD,hml]
  have e:=sumsY_succ S rs pl m hix
  unfold jG at e
  rw[hgd,hrd,hSd,hmd]at e
  cases hs:rs[pl[ix].toNat].sum
  case false=>
   rw[hs,if_neg (by decide)]at e
   conv=>whnf
   refine⟨fun ρ w' hW _=>⟨rfl,ρ,?_⟩⟩
   exact hW.less (r:=id) ⟨AllP.mem (by exact(by repeat first|exact trivial|refine⟨⟨rfl,by omega,Os.h _⟩,?_⟩|refine⟨⟨by rw[qC];rfl,by omega,fun p hp=>Nat.lt_of_lt_of_le (hcov2.1 p hp) (by decide)⟩,?_⟩|refine⟨⟨by rw[qC];rfl,by omega,ltb rfl,trivial⟩,?_⟩|refine⟨⟨by rw[qC,e];rfl,by omega,trivial⟩,?_⟩|refine⟨⟨by rw[qC];rfl,by omega,pnx hcov rfl⟩,?_⟩|refine⟨⟨by rw[qC];rfl,by omega,SV.s7 (by decide) hsc⟩,?_⟩)),fun _ _ _ _ h=>h,fun q hq=>⟨rfl,hlid q hq⟩⟩
  case true=>
   rw[hs,if_pos rfl]at e
   conv=>whnf
   refine Run.drawX (hc w L' (some (31,l)) (fun q hq=>by obtain rfl:=Option.some.inj hq;exact hl)) 21 13 19 rfl rfl rfl rfl (by kernel_rfl) ?_
   rw[show qG 0 21=qG 0 12++(qG 12 2++(qG 14 4++(qG 18 2++qG 20 1)))from rfl]
   simp only[qV]
   conv=>whnf
   refine⟨by omega,?_⟩
   conv=>whnf
   rw[q9 (f:=Syn.vals) (l:=S) (c:=.int .i64 S[ix].to) ix 1 rfl rfl rfl rfl Syn.vlen (by rw[qQ]) hSl (by decide) rfl]
   conv=>whnf
   rw[kint_get (sC S rs pl m j)]
   conv=>whnf
   rw[q9 (f:=Mrk.vals) (l:=m) (c:=.int .i64 m[ix].w) ix 0 rfl rfl rfl rfl Mrk.vlen rfl hml (by decide) rfl]
   conv=>whnf
   rw[kint_get (sC S rs pl m j)]
   conv=>whnf
   refine⟨by kernel_rfl,?_⟩
   refine Run.W1 (hc w L' (some (31,l)) (fun q hq=>by obtain rfl:=Option.some.inj hq;exact hl)) ?_
   conv=>whnf
   refine⟨⟨by omega,by have:=kidx_lt (kU S rs pl m j) (.p pl[ix] S[ix].to) (.int .i64 0);omega⟩,?_⟩
   conv=>whnf
   have hput:kset (j5 (kU S rs pl m j) (.p pl[ix] S[ix].to) (.int .i64 0)) (((kidx (kU S rs pl m j) (.p pl[ix] S[ix].to):Nat):Int)).toNat (.int .i64 (W (kiv (kU S rs pl m j) (.p pl[ix] S[ix].to)+m[ix].w)))=kU S rs pl m (j+1):=by
    rw[Int.toNat_natCast,kset_ent,e]
   refine⟨fun ρ w' hW _=>⟨rfl,ρ,?_⟩⟩
   exact hW.less (r:=id) ⟨AllP.mem (by exact(by repeat first|exact trivial|refine⟨⟨rfl,by omega,Os.h _⟩,?_⟩|refine⟨⟨by rw[qC];rfl,by omega,fun p hp=>Nat.lt_of_lt_of_le (hcov2.1 p hp) (by decide)⟩,?_⟩|refine⟨⟨by rw[qC];rfl,by omega,ltb rfl,trivial⟩,?_⟩|refine⟨⟨by rw[qC,←hput];rfl,by omega,trivial⟩,?_⟩|refine⟨⟨by rw[qC];rfl,by omega,pnx hcov rfl⟩,?_⟩|refine⟨⟨by rw[qC];rfl,by omega,SV.s7 (by decide) hsc⟩,?_⟩)),fun _ _ _ _ h=>h,fun q hq=>⟨rfl,hlid q hq⟩⟩
 ·intro L' a d hwid hd hLp
  refine Run.W1 (hc w L' none (fun q hq=>by cases hq)) ?_
  conv=>whnf
  refine Run.retD (hc w L' none (fun q hq=>by cases hq)) rfl (29+1) d hd rfl (.inr ⟨_,rfl⟩) rfl ?_
  have hall:kU S rs pl m (uB ((envPl pl2).s 6) ((envPl pl2).o 6) pl).length=qH S rs pl m:=by
   unfold kU qH
   rw[xJ,List.length_map,List.take_length]
  refine SpecR.rS 26 (by decide) hwid hLB (by decide) hcov rfl rfl (show 24<25 by decide) ⟨⟨?_,by omega,trivial⟩,⟨?_,by omega,SV.s7 (by decide) hsc⟩,⟨rfl,by omega,Os.h _⟩,⟨rfl,by omega,Os.h _⟩,⟨rfl,by omega,Os.h _⟩,⟨rfl,by omega,Os.h _⟩,trivial⟩
  ·rw[←hall];rfl
  ·show some (SObj.cells (qJ tk inp rg tt) 96)=some (.cells (SV.rens _ (qJ tk inp rg tt)) 96)
   rw[qY (fun i hi=>x5 i hi) _ hsc]
set_option maxHeartbeats 2000000
def kZ (S:List Syn)(pl:List Int)(r p to by_:Int)(x:Int×List Mrk)(i:Nat):Int×List Mrk:=
 if x.1≠0∧pl.getD i (-1)=r∧(S.getD i zC).to=p∧(x.2.getD i qW).w≠to then(W (x.1-by_),x.2.set i { x.2.getD i qW with w:=W ((x.2.getD i qW).w+by_) })else x
def rdY (S:List Syn)(pl:List Int)(r p to by_:Int)(x:Int×List Mrk)(j:Nat):Int×List Mrk:=((zD pl).take j).foldl (kZ S pl r p to by_) x
def rdL (S:List Syn)(pl:List Int)(r p to by_:Int)(x:Int×List Mrk):Int×List Mrk:=(zD pl).foldl (kZ S pl r p to by_) x
theorem rdY_succ (S:List Syn)(pl:List Int)(r p to by_:Int)(x:Int×List Mrk){j i:Nat}(h:(zD pl)[j]? = some i):rdY S pl r p to by_ x (j+1)=kZ S pl r p to by_ (rdY S pl r p to by_ x j) i:=by
 have hj:=(List.getElem?_eq_some_iff.1 h).1
 have hv:=(List.getElem?_eq_some_iff.1 h).2
 unfold rdY
 rw[←List.take_append_getElem hj,List.foldl_append,hv];rfl
theorem rdStep_len (S:List Syn)(pl:List Int)(r p to by_:Int)(x:Int×List Mrk)(i:Nat):(kZ S pl r p to by_ x i).2.length=x.2.length:=by
 unfold kZ
 split
 ·simp
 ·rfl
theorem gV (S:List Syn)(pl:List Int)(r p to by_:Int) :∀(l:List Nat) (x:Int×List Mrk),(l.foldl (kZ S pl r p to by_) x).2.length=x.2.length
 | [],_=>rfl
 |a::l,x=>by rw[List.foldl_cons,gV S pl r p to by_ l,rdStep_len]
theorem qN (S:Nat→Prop)(l:List Mrk):SV.scs S (l.flatMap Mrk.cells):=by rw[uF];exact qL _ _
def rdM (C:List SV)(S:List Syn)(pl:List Int)(r p left:Int)(m:List Mrk):List (Nat×SObj):=[(24,.cells [.ptr 0 0] 64),(25,.cells [ii left] 3),(26,.cells [ii r,ii p] 175),(0,.cells C 96),(2,.rwin 4 S.length (S.flatMap Syn.vals)),(5,.rwin 1 pl.length (qD pl)),(6,.row 4 pl.length (m.flatMap Mrk.cells) 84)]
theorem round_spec (tk:SV)(inp:Int)(rg:Nat→SV)(tt:SV)(S:List Syn)(pl:List Int)(r p left to by_:Int)(m:List Mrk)(hsc:SV.scs (· < 24) (qJ tk inp rg tt))(h1:pl.length=S.length)(h2:m.length=S.length)(hS:S.length≤8192) :
  BSpec Try.prog 104 [ii to,ii by_,.ptr 24 0,.ptr 25 0,.ptr 26 0] (rdM (qJ tk inp rg tt) S pl r p left m) 27 [0,24,25,26,6] (.tup []) (rdM (qJ tk inp rg tt) S pl r p (rdL S pl r p to by_ (left,m)).1 (rdL S pl r p to by_ (left,m)).2) 27:=by
 have hc :∀w L' rd,(∀p,rd=some p→p∈L')→Cx.ok ⟨Try.prog,tab,[],104,Try.f104,[],w,L',rd⟩:=fun w L' rd h=>⟨qI,trivial,Try.func104,mixed,h⟩
 refine BSpec.start (tab:=tab) (pf:=[]) (cuts:=[]) Try.func104 rfl ⟨trivial,trivial,(show 24<27 by decide),(show 25<27 by decide),ltb rfl,trivial⟩ rfl fun w L0 plp hL hLB hcov=>Run.s0 (hc w L0 none nofun) 100 _ ?_
 conv=>whnf
 refine Run.rF (vs:=[.ptr 0 0]) (caps:=[]) uV (ent _ _ Try.func81 (by kernel_rfl) rfl) rfl rfl rfl rfl rfl rfl rfl (by decide) (by decide) trivial (fun i hi=>by cases hi) (.fn 103 [.ptr 30 0])
  [(30,.cells [.ptr 0 0] 64),(29,.cells [ii by_] 3),(28,.cells [ii to] 3),(27,.pin plp),(24,.cells [.ptr 0 0] 64),(25,.cells [ii left] 3),(26,.cells [ii r,ii p] 175),(0,.cells (qJ tk inp rg tt) 96),(2,.rwin 4 S.length (S.flatMap Syn.vals)),(5,.rwin 1 pl.length (qD pl)),(6,.row 4 pl.length (m.flatMap Mrk.cells) 84)] 31 rfl rfl (by repeat first|exact trivial|refine⟨.inr ⟨24,_,rfl,rfl,rfl,rfl⟩,?_⟩|refine⟨.inl ⟨rfl,by simp⟩,?_⟩) ?_
 refine Run.s0 (hc w L0 none nofun) 100 _ ?_
 conv=>whnf
 refine Run.rQ fun pl2 hcov2=> ?_
 refine Run.rangeF (T0:=[(2,.ptr 24 0),(3,.ptr 25 0),(4,.ptr 26 0),(5,.ptr 28 0),(6,.ptr 29 0)]) (caps:=[.ptr 30 0]) rfl (x:=.tmp 10) rfl rfl (ent _ _ Try.func103 (by kernel_rfl) rfl) hcov2 rfl (by decide)
  (fun j=>[(31,.pin pl2),(30,.cells [.ptr 0 0] 64),(29,.cells [ii by_] 3),(28,.cells [ii to] 3),(27,.pin plp),(24,.cells [.ptr 0 0] 64),(25,.cells [ii (rdY S pl r p to by_ (left,m) j).1] 3),(26,.cells [ii r,ii p] 175),(0,.cells (qJ tk inp rg tt) 96),(2,.rwin 4 S.length (S.flatMap Syn.vals)),(5,.rwin 1 pl.length (qD pl)),(6,.row 4 pl.length ((rdY S pl r p to by_ (left,m) j).2.flatMap Mrk.cells) 84)]) 34
  (uB ((envPl pl2).s 6) ((envPl pl2).o 6) pl) (by simp) ?_ ?_ (by decide) (fun _=>rfl) ?_ ?_ (SynI ((envPl pl2).ren (Sx.rs 24 30)) (qJ tk inp rg tt) pl) ?_ ?_ ?_ ?_
 ·exact AllP.mem (l:=[11,12]) ⟨Nat.le_of_ble_eq_true rfl,Nat.le_of_ble_eq_true rfl,trivial⟩
 ·intro v hv
  rw[xJ]at hv
  obtain⟨ix,_,rfl⟩:=List.mem_map.1 hv
  rfl
 ·exact AllP.mem (by repeat first|exact trivial|refine⟨⟨rfl,ltb rfl⟩,?_⟩)
 ·exact AllP.mem (by repeat first|exact trivial|refine⟨⟨rfl,by omega⟩,?_⟩)
 ·intro ρ w1 hW1
  have h30:=(hW1.envPl hcov2 rfl) 30 (by decide)
  have ho:ρ.o 30=0:=(hW1.mem 30 _ rfl).2.2.1
  have e:SV.concs ρ [.ptr 30 0]=[Value.pointer (some ⟨((envPl pl2).ren (Sx.rs 24 30)).s 24,0,none⟩)]:=by
   simp only[SV.concs,SV.conc,ho,h30.1];rfl
  rw[e]
  exact syn_iter _ tk inp rg tt pl (SV.s7 (by decide) hsc) (by omega)
 ·intro i L' ρ' a d w' hwid hW'
  exact SynI.of hW' 30 31 pl2 _ pl ((rdY S pl r p to by_ (left,m) i).2.flatMap Mrk.vals) hcov2 rfl (by decide) (by decide) rfl rfl rfl ⟨_,rfl,Conv.row (by decide) (uF _)⟩ hsc
 ·intro j v hv L' l a d hwid hl hLp
  have hlid :∀p∈L',p.1<34:=fun p hp=>by
   rcases hLp p hp with h|h|h
   ·omega
   ·omega
   ·have:=hLB p h;omega
  rw[xJ,List.getElem?_map]at hv
  cases hix:(zD pl)[j]? with
  |none=>rw[hix]at hv;cases hv
  |some ix=>
  rw[hix]at hv
  obtain rfl:=Option.some.inj hv
  obtain⟨hlt,hge⟩:=uQ (List.mem_of_getElem? hix)
  refine Run.tell (T':=[(11,ii (ix:Int)),(12,.ptr 6 (ix*4)),(2,.ptr 24 0),(3,.ptr 25 0),(4,.ptr 26 0),(5,.ptr 28 0),(6,.ptr 29 0)]) (AllP.mem ⟨⟨_,rfl,trivial,fun _ _ _=>rfl⟩,⟨_,rfl,(show 6<34 by decide),fun ρ w1 hW1=> ?_⟩,⟨_,rfl,(show 24<34 by decide),fun _ _ _=>rfl⟩,⟨_,rfl,(show 25<34 by decide),fun _ _ _=>rfl⟩,⟨_,rfl,(show 26<34 by decide),fun _ _ _=>rfl⟩,⟨_,rfl,(show 28<34 by decide),fun _ _ _=>rfl⟩,⟨_,rfl,(show 29<34 by decide),fun _ _ _=>rfl⟩,trivial⟩) ?_
  ·have h6:=(hW1.envPl hcov2 rfl) 6 (by decide)
   simp only[SV.conc,h6.1,h6.2.1]
  have hgd:pl.getD ix (-1)=pl[ix]:=by simp[List.getD_eq_getElem?_getD,hlt]
  have hSl:ix<S.length:=by omega
  have hSd:S.getD ix zC=S[ix]:=by simp[List.getD_eq_getElem?_getD,hSl]
  have hylen:(rdY S pl r p to by_ (left,m) j).2.length=S.length:=by unfold rdY;rw[gV];exact h2
  have hml:ix<(rdY S pl r p to by_ (left,m) j).2.length:=by omega
  have hmd:(rdY S pl r p to by_ (left,m) j).2.getD ix qW=(rdY S pl r p to by_ (left,m) j).2[ix]:=by simp[List.getD_eq_getElem?_getD,hml]
  have e:=rdY_succ S pl r p to by_ (left,m) hix
  unfold kZ at e
  rw[hgd,hSd,hmd]at e
  refine Run.W1 (hc w L' (some (33,l)) (fun q hq=>by obtain rfl:=Option.some.inj hq;exact hl)) ?_
  conv=>whnf
  refine Run.draw (hc w L' (some (33,l)) (fun q hq=>by obtain rfl:=Option.some.inj hq;exact hl)) 35 ?_
  rw[show qG 0 35=qG 0 4++(qG 4 6++(qG 10 6++(qG 16 9++(qG 25 6++(qG 31 3++qG 34 1)))))from rfl]
  simp only[qV]
  conv=>whnf
  cases b1:(rdY S pl r p to by_ (left,m) j).1 != 0
  case false=>
   have b1n:(rdY S pl r p to by_ (left,m) j).1=0:=by simpa using b1
   have e2:rdY S pl r p to by_ (left,m) (j+1)=rdY S pl r p to by_ (left,m) j:=by rw[e,if_neg (fun h=>h.1 b1n)]
   conv=>whnf
   refine⟨by kernel_rfl,?_⟩
   refine Run.W1 (hc w L' (some (33,l)) (fun q hq=>by obtain rfl:=Option.some.inj hq;exact hl)) ?_
   conv=>whnf
   refine⟨fun ρ w' hW _=>⟨rfl,ρ,?_⟩⟩
   exact hW.less (r:=id) ⟨AllP.mem (by exact(by repeat first|exact trivial|refine⟨⟨rfl,by omega,Os.h _⟩,?_⟩|refine⟨⟨by rw[qC];rfl,by omega,fun p hp=>Nat.lt_of_lt_of_le (hcov2.1 p hp) (by decide)⟩,?_⟩|refine⟨⟨by rw[qC];rfl,by omega,ltb rfl,trivial⟩,?_⟩|refine⟨⟨by rw[qC];rfl,by omega,qE _ rfl⟩,?_⟩|refine⟨⟨by rw[qC];rfl,by omega,pnx hcov rfl⟩,?_⟩|refine⟨⟨by rw[qC,e2];rfl,by omega,trivial,trivial⟩,?_⟩|refine⟨⟨by rw[qC];rfl,by omega,SV.s7 (by decide) hsc⟩,?_⟩|refine⟨⟨by rw[qC,e2];rfl,by omega,qN _ _⟩,?_⟩)),fun _ _ _ _ h=>h,fun q hq=>⟨rfl,hlid q hq⟩⟩
  have b1':(rdY S pl r p to by_ (left,m) j).1≠0:=by simpa using b1
  conv=>whnf
  refine⟨by omega,?_⟩
  conv=>whnf
  rw[yS ix rfl rfl rfl rfl (by rw[qQ,Nat.mul_one]) (xL hlt)]
  conv=>whnf
  cases b2:pl[ix]==r
  case false=>
   have b2n:pl[ix]≠r:=by simpa using b2
   have e2:rdY S pl r p to by_ (left,m) (j+1)=rdY S pl r p to by_ (left,m) j:=by rw[e,if_neg (fun h=>b2n h.2.1)]
   conv=>whnf
   refine⟨by kernel_rfl,?_⟩
   refine Run.W1 (hc w L' (some (33,l)) (fun q hq=>by obtain rfl:=Option.some.inj hq;exact hl)) ?_
   conv=>whnf
   refine⟨fun ρ w' hW _=>⟨rfl,ρ,?_⟩⟩
   exact hW.less (r:=id) ⟨AllP.mem (by exact(by repeat first|exact trivial|refine⟨⟨rfl,by omega,Os.h _⟩,?_⟩|refine⟨⟨by rw[qC];rfl,by omega,fun p hp=>Nat.lt_of_lt_of_le (hcov2.1 p hp) (by decide)⟩,?_⟩|refine⟨⟨by rw[qC];rfl,by omega,ltb rfl,trivial⟩,?_⟩|refine⟨⟨by rw[qC];rfl,by omega,qE _ rfl⟩,?_⟩|refine⟨⟨by rw[qC];rfl,by omega,pnx hcov rfl⟩,?_⟩|refine⟨⟨by rw[qC,e2];rfl,by omega,trivial,trivial⟩,?_⟩|refine⟨⟨by rw[qC];rfl,by omega,SV.s7 (by decide) hsc⟩,?_⟩|refine⟨⟨by rw[qC,e2];rfl,by omega,qN _ _⟩,?_⟩)),fun _ _ _ _ h=>h,fun q hq=>⟨rfl,hlid q hq⟩⟩
  have b2':pl[ix]=r:=by simpa using b2
  conv=>whnf
  refine⟨by omega,?_⟩
  conv=>whnf
  rw[q9 (f:=Syn.vals) (l:=S) (c:=.int .i64 S[ix].to) ix 1 rfl rfl rfl rfl Syn.vlen (by rw[qQ]) hSl (by decide) rfl]
  conv=>whnf
  cases b3:S[ix].to==p
  case false=>
   have b3n:S[ix].to≠p:=by simpa using b3
   have e2:rdY S pl r p to by_ (left,m) (j+1)=rdY S pl r p to by_ (left,m) j:=by rw[e,if_neg (fun h=>b3n h.2.2.1)]
   conv=>whnf
   refine⟨by kernel_rfl,?_⟩
   refine Run.W1 (hc w L' (some (33,l)) (fun q hq=>by obtain rfl:=Option.some.inj hq;exact hl)) ?_
   conv=>whnf
   refine⟨fun ρ w' hW _=>⟨rfl,ρ,?_⟩⟩
   exact hW.less (r:=id) ⟨AllP.mem (by exact(by repeat first|exact trivial|refine⟨⟨rfl,by omega,Os.h _⟩,?_⟩|refine⟨⟨by rw[qC];rfl,by omega,fun p hp=>Nat.lt_of_lt_of_le (hcov2.1 p hp) (by decide)⟩,?_⟩|refine⟨⟨by rw[qC];rfl,by omega,ltb rfl,trivial⟩,?_⟩|refine⟨⟨by rw[qC];rfl,by omega,qE _ rfl⟩,?_⟩|refine⟨⟨by rw[qC];rfl,by omega,pnx hcov rfl⟩,?_⟩|refine⟨⟨by rw[qC,e2];rfl,by omega,trivial,trivial⟩,?_⟩|refine⟨⟨by rw[qC];rfl,by omega,SV.s7 (by decide) hsc⟩,?_⟩|refine⟨⟨by rw[qC,e2];rfl,by omega,qN _ _⟩,?_⟩)),fun _ _ _ _ h=>h,fun q hq=>⟨rfl,hlid q hq⟩⟩
  have b3':S[ix].to=p:=by simpa using b3
  conv=>whnf
  rw[yM (f:=Mrk.cells) (l:=(rdY S pl r p to by_ (left,m) j).2) (c:=ii (rdY S pl r p to by_ (left,m) j).2[ix].w) ix 0 rfl rfl rfl rfl Mrk.clen rfl hml (by decide) rfl]
  conv=>whnf
  refine⟨by kernel_rfl,?_⟩
  refine Run.W1 (hc w L' (some (33,l)) (fun q hq=>by obtain rfl:=Option.some.inj hq;exact hl)) ?_
  conv=>whnf
  cases b4:(rdY S pl r p to by_ (left,m) j).2[ix].w != to
  case false=>
   have b4n:(rdY S pl r p to by_ (left,m) j).2[ix].w=to:=by simpa using b4
   have e2:rdY S pl r p to by_ (left,m) (j+1)=rdY S pl r p to by_ (left,m) j:=by rw[e,if_neg (fun h=>h.2.2.2 b4n)]
   conv=>whnf
   refine⟨fun ρ w' hW _=>⟨rfl,ρ,?_⟩⟩
   exact hW.less (r:=id) ⟨AllP.mem (by exact(by repeat first|exact trivial|refine⟨⟨rfl,by omega,Os.h _⟩,?_⟩|refine⟨⟨by rw[qC];rfl,by omega,fun p hp=>Nat.lt_of_lt_of_le (hcov2.1 p hp) (by decide)⟩,?_⟩|refine⟨⟨by rw[qC];rfl,by omega,ltb rfl,trivial⟩,?_⟩|refine⟨⟨by rw[qC];rfl,by omega,qE _ rfl⟩,?_⟩|refine⟨⟨by rw[qC];rfl,by omega,pnx hcov rfl⟩,?_⟩|refine⟨⟨by rw[qC,e2];rfl,by omega,trivial,trivial⟩,?_⟩|refine⟨⟨by rw[qC];rfl,by omega,SV.s7 (by decide) hsc⟩,?_⟩|refine⟨⟨by rw[qC,e2];rfl,by omega,qN _ _⟩,?_⟩)),fun _ _ _ _ h=>h,fun q hq=>⟨rfl,hlid q hq⟩⟩
  have b4':(rdY S pl r p to by_ (left,m) j).2[ix].w≠to:=by simpa using b4
  rw[if_pos ⟨b1',b2',b3',b4'⟩]at e
  conv=>whnf
  refine Run.draw (hc w L' (some (33,l)) (fun q hq=>by obtain rfl:=Option.some.inj hq;exact hl)) 5 ?_
  rw[show qG 0 5=qG 0 4++qG 4 1 from rfl]
  simp only[qV]
  conv=>whnf
  rw[yM (f:=Mrk.cells) (l:=(rdY S pl r p to by_ (left,m) j).2) (c:=ii (rdY S pl r p to by_ (left,m) j).2[ix].w) ix 0 rfl rfl rfl rfl Mrk.clen rfl hml (by decide) rfl]
  conv=>whnf
  refine⟨by kernel_rfl,?_⟩
  refine Run.W1 (hc w L' (some (33,l)) (fun q hq=>by obtain rfl:=Option.some.inj hq;exact hl)) ?_
  conv=>whnf
  rw[yT (f:=Mrk.cells) (l:=(rdY S pl r p to by_ (left,m) j).2) ix 0 { (rdY S pl r p to by_ (left,m) j).2[ix]with w:=W ((rdY S pl r p to by_ (left,m) j).2[ix].w+by_) } rfl rfl rfl rfl rfl Mrk.clen rfl hml (by decide) rfl rfl rfl]
  conv=>whnf
  have e4:rdY S pl r p to by_ (left,m) (j+1)=(W ((rdY S pl r p to by_ (left,m) j).1-by_),(rdY S pl r p to by_ (left,m) j).2.set ix { (rdY S pl r p to by_ (left,m) j).2[ix]with w:=W ((rdY S pl r p to by_ (left,m) j).2[ix].w+by_) }):=e
  refine⟨fun ρ w' hW _=>⟨rfl,ρ,?_⟩⟩
  exact hW.less (r:=id) ⟨AllP.mem (by exact(by repeat first|exact trivial|refine⟨⟨rfl,by omega,Os.h _⟩,?_⟩|refine⟨⟨by rw[qC];rfl,by omega,fun p hp=>Nat.lt_of_lt_of_le (hcov2.1 p hp) (by decide)⟩,?_⟩|refine⟨⟨by rw[qC];rfl,by omega,ltb rfl,trivial⟩,?_⟩|refine⟨⟨by rw[qC];rfl,by omega,qE _ rfl⟩,?_⟩|refine⟨⟨by rw[qC];rfl,by omega,pnx hcov rfl⟩,?_⟩|refine⟨⟨by rw[qC,e4];rfl,by omega,trivial,trivial⟩,?_⟩|refine⟨⟨by rw[qC];rfl,by omega,SV.s7 (by decide) hsc⟩,?_⟩|refine⟨⟨by rw[qC,e4];rfl,by omega,qN _ _⟩,?_⟩)),fun _ _ _ _ h=>h,fun q hq=>⟨rfl,hlid q hq⟩⟩
 ·intro L' a d hwid hd hLp
  refine Run.W1 (hc w L' none (fun q hq=>by cases hq)) ?_
  conv=>whnf
  refine Run.retD (hc w L' none (fun q hq=>by cases hq)) rfl (31+1) d hd rfl (.inl rfl) rfl ?_
  have hall:rdY S pl r p to by_ (left,m) (uB ((envPl pl2).s 6) ((envPl pl2).o 6) pl).length=rdL S pl r p to by_ (left,m):=by
   unfold rdY rdL
   rw[xJ,List.length_map,List.take_length]
  have fix :∀{cs:List SV},SV.scs (· < 27) cs→SV.rens (sh 27 28) cs=cs:=fun h=>qY (fun i hi=>x5 i hi) _ h
  refine SpecR.rS 28 (by decide) hwid hLB (by decide) hcov rfl rfl trivial ⟨⟨rfl,by omega,ltb rfl,trivial⟩,⟨?_,by omega,trivial,trivial⟩,⟨rfl,by omega,trivial,trivial,trivial⟩,⟨?_,by omega,SV.s7 (by decide) hsc⟩,⟨rfl,by omega,Os.h _⟩,⟨rfl,by omega,Os.h _⟩,⟨?_,by omega,qN _ _⟩,trivial⟩
  ·rw[←hall];rfl
  ·show some (SObj.cells (qJ tk inp rg tt) 96)=some (.cells (SV.rens _ (qJ tk inp rg tt)) 96)
   rw[fix (SV.s7 (by decide) hsc)]
  ·rw[←hall]
   show some (SObj.row 4 pl.length _ 84)=some (.row 4 pl.length (SV.rens _ _) 84)
   rw[fix (qN _ _)]
end Go.Proofs.Ytnnlpdgnlccbjaa
namespace Go.Proofs.Ytnnlpdgnlccbjaa
open Go.Sx
instance (l:List Mrk):Vs (l.flatMap Mrk.cells):=⟨fun S=>qN S l⟩
end Go.Proofs.Ytnnlpdgnlccbjaa
