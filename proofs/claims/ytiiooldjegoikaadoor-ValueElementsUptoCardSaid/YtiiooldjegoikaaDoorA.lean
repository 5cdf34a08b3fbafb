/- The program as the value machine takes it: printed by gen.py out of Lean's print of the loaded program. -/
import Derived.Test.YtiiooldjegoikaaDoorProg
import Derived.Test.YtiiooldjegoikaaDoorStLim
import Derived.KernelRfl
import GoSem.PinnedTables
namespace Go.Proofs.YtiiooldjegoikaaDoor
open Go.St
def td1 : TD := ⟨.func, 1, 8, [.nilfn]⟩
def td2 : TD := ⟨(.int .i64), 1, 8, [.int .i64 0]⟩
def td3 : TD := ⟨(.int .i64), 1, 8, [.int .i64 0]⟩
def td4 : TD := ⟨.bool, 1, 1, [.bool false]⟩
def td5 : TD := ⟨(.int .u8), 1, 1, [.int .u8 0]⟩
def td6 : TD := ⟨(.int .u8), 1, 1, [.int .u8 0]⟩
def td7 : TD := ⟨(.struct [(0, 2), (1, 3), (2, 4), (3, 6)]), 4, 24, [.int .i64 0, .int .i64 0, .bool false, .int .u8 0]⟩
def td8 : TD := ⟨(.struct [(0, 2), (1, 3), (2, 4), (3, 6)]), 4, 24, [.int .i64 0, .int .i64 0, .bool false, .int .u8 0]⟩
def td9 : TD := ⟨.str, 1, 16, [.str ⟨#[]⟩]⟩
def td10 : TD := ⟨.str, 1, 16, [.str ⟨#[]⟩]⟩
def td11 : TD := ⟨.str, 1, 16, [.str ⟨#[]⟩]⟩
def td12 : TD := ⟨(.int .u64), 1, 8, [.int .u64 0]⟩
def td13 : TD := ⟨(.struct [(0, 9), (1, 12)]), 2, 24, [.str ⟨#[]⟩, .int .u64 0]⟩
def td14 : TD := ⟨(.struct [(0, 9), (1, 12)]), 2, 24, [.str ⟨#[]⟩, .int .u64 0]⟩
def td15 : TD := ⟨(.ptr 114), 1, 8, [.nilp]⟩
def td16 : TD := ⟨(.ptr 117), 1, 8, [.nilp]⟩
def td17 : TD := ⟨(.ptr 126), 1, 8, [.nilp]⟩
def td18 : TD := ⟨(.struct [(0, 17)]), 1, 8, [.nilp]⟩
def td19 : TD := ⟨(.struct [(0, 17)]), 1, 8, [.nilp]⟩
def td20 : TD := ⟨(.iface 0), 1, 16, [.nili]⟩
def td21 : TD := ⟨(.int .i32), 1, 4, [.int .i32 0]⟩
def td22 : TD := ⟨(.slice 9), 1, 24, [.nils]⟩
def td23 : TD := ⟨(.slice 25), 1, 24, [.nils]⟩
def td24 : TD := ⟨(.struct [(0, 3), (1, 4), (2, 3), (3, 9), (4, 22), (5, 23)]), 6, 88, [.int .i64 0, .bool false, .int .i64 0, .str ⟨#[]⟩, .nils, .nils]⟩
def td25 : TD := ⟨(.struct [(0, 3), (1, 4), (2, 3), (3, 9), (4, 22), (5, 23)]), 6, 88, [.int .i64 0, .bool false, .int .i64 0, .str ⟨#[]⟩, .nils, .nils]⟩
def td26 : TD := ⟨.func, 1, 8, [.nilfn]⟩
def td27 : TD := ⟨.func, 1, 8, [.nilfn]⟩
def td28 : TD := ⟨(.int .i64), 1, 8, [.int .i64 0]⟩
def td29 : TD := ⟨.func, 1, 8, [.nilfn]⟩
def td30 : TD := ⟨.func, 1, 8, [.nilfn]⟩
def td31 : TD := ⟨.func, 1, 8, [.nilfn]⟩
def td32 : TD := ⟨.func, 1, 8, [.nilfn]⟩
def td33 : TD := ⟨.func, 1, 8, [.nilfn]⟩
def td35 : TD := ⟨.func, 1, 8, [.nilfn]⟩
def td36 : TD := ⟨(.struct [(0, 3), (1, 3), (2, 9)]), 3, 32, [.int .i64 0, .int .i64 0, .str ⟨#[]⟩]⟩
def td37 : TD := ⟨(.struct [(0, 3), (1, 3), (2, 9)]), 3, 32, [.int .i64 0, .int .i64 0, .str ⟨#[]⟩]⟩
def td39 : TD := ⟨.func, 1, 8, [.nilfn]⟩
def td41 : TD := ⟨.func, 1, 8, [.nilfn]⟩
def td43 : TD := ⟨.func, 1, 8, [.nilfn]⟩
def td45 : TD := ⟨.func, 1, 8, [.nilfn]⟩
def td46 : TD := ⟨.func, 1, 8, [.nilfn]⟩
def td48 : TD := ⟨.func, 1, 8, [.nilfn]⟩
def td49 : TD := ⟨.func, 1, 8, [.nilfn]⟩
def td50 : TD := ⟨.func, 1, 8, [.nilfn]⟩
def td51 : TD := ⟨(.ptr 25), 1, 8, [.nilp]⟩
def td52 : TD := ⟨.func, 1, 8, [.nilfn]⟩
def td53 : TD := ⟨.func, 1, 8, [.nilfn]⟩
def td54 : TD := ⟨.func, 1, 8, [.nilfn]⟩
def td55 : TD := ⟨.func, 1, 8, [.nilfn]⟩
def td56 : TD := ⟨.func, 1, 8, [.nilfn]⟩
def td57 : TD := ⟨.func, 1, 8, [.nilfn]⟩
def td58 : TD := ⟨.func, 1, 8, [.nilfn]⟩
def td59 : TD := ⟨.func, 1, 8, [.nilfn]⟩
def td61 : TD := ⟨.func, 1, 8, [.nilfn]⟩
def td62 : TD := ⟨.func, 1, 8, [.nilfn]⟩
def td63 : TD := ⟨.func, 1, 8, [.nilfn]⟩
def td64 : TD := ⟨.func, 1, 8, [.nilfn]⟩
def td65 : TD := ⟨(.struct [(0, 51), (1, 51)]), 2, 16, [.nilp, .nilp]⟩
def td66 : TD := ⟨(.struct [(0, 51), (1, 51)]), 2, 16, [.nilp, .nilp]⟩
def td67 : TD := ⟨(.slice 66), 1, 24, [.nils]⟩
def td68 : TD := ⟨.func, 1, 8, [.nilfn]⟩
def td69 : TD := ⟨.func, 1, 8, [.nilfn]⟩
def td70 : TD := ⟨.func, 1, 8, [.nilfn]⟩
def td71 : TD := ⟨.func, 1, 8, [.nilfn]⟩
def td72 : TD := ⟨.func, 1, 8, [.nilfn]⟩
def td73 : TD := ⟨(.struct [(0, 23), (1, 3)]), 2, 32, [.nils, .int .i64 0]⟩
def td74 : TD := ⟨(.struct [(0, 23), (1, 3)]), 2, 32, [.nils, .int .i64 0]⟩
def td75 : TD := ⟨(.slice 74), 1, 24, [.nils]⟩
def td76 : TD := ⟨(.ptr 74), 1, 8, [.nilp]⟩
def td77 : TD := ⟨(.map 9 3), 1, 8, [.nilm]⟩
def td78 : TD := ⟨.func, 1, 8, [.nilfn]⟩
def td79 : TD := ⟨.func, 1, 8, [.nilfn]⟩
def td80 : TD := ⟨(.int .u64), 1, 8, [.int .u64 0]⟩
def td81 : TD := ⟨.func, 1, 8, [.nilfn]⟩
def td82 : TD := ⟨(.slice 5), 1, 24, [.nils]⟩
def td83 : TD := ⟨(.slice 51), 1, 24, [.nils]⟩
def td85 : TD := ⟨.func, 1, 8, [.nilfn]⟩
def td86 : TD := ⟨.func, 1, 8, [.nilfn]⟩
def td88 : TD := ⟨.func, 1, 8, [.nilfn]⟩
def td89 : TD := ⟨.func, 1, 8, [.nilfn]⟩
def td90 : TD := ⟨.func, 1, 8, [.nilfn]⟩
def td91 : TD := ⟨.func, 1, 8, [.nilfn]⟩
def td92 : TD := ⟨(.arr 24 5), 24, 24, [.int .u8 0, .int .u8 0, .int .u8 0, .int .u8 0, .int .u8 0, .int .u8 0, .int .u8 0, .int .u8 0, .int .u8 0, .int .u8 0, .int .u8 0, .int .u8 0, .int .u8 0, .int .u8 0, .int .u8 0, .int .u8 0, .int .u8 0, .int .u8 0, .int .u8 0, .int .u8 0, .int .u8 0, .int .u8 0, .int .u8 0, .int .u8 0]⟩
def td93 : TD := ⟨.func, 1, 8, [.nilfn]⟩
def td94 : TD := ⟨.func, 1, 8, [.nilfn]⟩
def td96 : TD := ⟨.func, 1, 8, [.nilfn]⟩
def td97 : TD := ⟨(.arr 256 5), 256, 256, [.int .u8 0, .int .u8 0, .int .u8 0, .int .u8 0, .int .u8 0, .int .u8 0, .int .u8 0, .int .u8 0, .int .u8 0, .int .u8 0, .int .u8 0, .int .u8 0, .int .u8 0, .int .u8 0, .int .u8 0, .int .u8 0, .int .u8 0, .int .u8 0, .int .u8 0, .int .u8 0, .int .u8 0, .int .u8 0, .int .u8 0, .int .u8 0, .int .u8 0, .int .u8 0, .int .u8 0, .int .u8 0, .int .u8 0, .int .u8 0, .int .u8 0, .int .u8 0, .int .u8 0, .int .u8 0, .int .u8 0, .int .u8 0, .int .u8 0, .int .u8 0, .int .u8 0, .int .u8 0, .int .u8 0, .int .u8 0, .int .u8 0, .int .u8 0, .int .u8 0, .int .u8 0, .int .u8 0, .int .u8 0, .int .u8 0, .int .u8 0, .int .u8 0, .int .u8 0, .int .u8 0, .int .u8 0, .int .u8 0, .int .u8 0, .int .u8 0, .int .u8 0, .int .u8 0, .int .u8 0, .int .u8 0, .int .u8 0, .int .u8 0, .int .u8 0, .int .u8 0, .int .u8 0, .int .u8 0, .int .u8 0, .int .u8 0, .int .u8 0, .int .u8 0, .int .u8 0, .int .u8 0, .int .u8 0, .int .u8 0, .int .u8 0, .int .u8 0, .int .u8 0, .int .u8 0, .int .u8 0, .int .u8 0, .int .u8 0, .int .u8 0, .int .u8 0, .int .u8 0, .int .u8 0, .int .u8 0, .int .u8 0, .int .u8 0, .int .u8 0, .int .u8 0, .int .u8 0, .int .u8 0, .int .u8 0, .int .u8 0, .int .u8 0, .int .u8 0, .int .u8 0, .int .u8 0, .int .u8 0, .int .u8 0, .int .u8 0, .int .u8 0, .int .u8 0, .int .u8 0, .int .u8 0, .int .u8 0, .int .u8 0, .int .u8 0, .int .u8 0, .int .u8 0, .int .u8 0, .int .u8 0, .int .u8 0, .int .u8 0, .int .u8 0, .int .u8 0, .int .u8 0, .int .u8 0, .int .u8 0, .int .u8 0, .int .u8 0, .int .u8 0, .int .u8 0, .int .u8 0, .int .u8 0, .int .u8 0, .int .u8 0, .int .u8 0, .int .u8 0, .int .u8 0, .int .u8 0, .int .u8 0, .int .u8 0, .int .u8 0, .int .u8 0, .int .u8 0, .int .u8 0, .int .u8 0, .int .u8 0, .int .u8 0, .int .u8 0, .int .u8 0, .int .u8 0, .int .u8 0, .int .u8 0, .int .u8 0, .int .u8 0, .int .u8 0, .int .u8 0, .int .u8 0, .int .u8 0, .int .u8 0, .int .u8 0, .int .u8 0, .int .u8 0, .int .u8 0, .int .u8 0, .int .u8 0, .int .u8 0, .int .u8 0, .int .u8 0, .int .u8 0, .int .u8 0, .int .u8 0, .int .u8 0, .int .u8 0, .int .u8 0, .int .u8 0, .int .u8 0, .int .u8 0, .int .u8 0, .int .u8 0, .int .u8 0, .int .u8 0, .int .u8 0, .int .u8 0, .int .u8 0, .int .u8 0, .int .u8 0, .int .u8 0, .int .u8 0, .int .u8 0, .int .u8 0, .int .u8 0, .int .u8 0, .int .u8 0, .int .u8 0, .int .u8 0, .int .u8 0, .int .u8 0, .int .u8 0, .int .u8 0, .int .u8 0, .int .u8 0, .int .u8 0, .int .u8 0, .int .u8 0, .int .u8 0, .int .u8 0, .int .u8 0, .int .u8 0, .int .u8 0, .int .u8 0, .int .u8 0, .int .u8 0, .int .u8 0, .int .u8 0, .int .u8 0, .int .u8 0, .int .u8 0, .int .u8 0, .int .u8 0, .int .u8 0, .int .u8 0, .int .u8 0, .int .u8 0, .int .u8 0, .int .u8 0, .int .u8 0, .int .u8 0, .int .u8 0, .int .u8 0, .int .u8 0, .int .u8 0, .int .u8 0, .int .u8 0, .int .u8 0, .int .u8 0, .int .u8 0, .int .u8 0, .int .u8 0, .int .u8 0, .int .u8 0, .int .u8 0, .int .u8 0, .int .u8 0, .int .u8 0, .int .u8 0, .int .u8 0, .int .u8 0, .int .u8 0, .int .u8 0, .int .u8 0, .int .u8 0, .int .u8 0, .int .u8 0, .int .u8 0, .int .u8 0, .int .u8 0, .int .u8 0, .int .u8 0, .int .u8 0, .int .u8 0, .int .u8 0, .int .u8 0]⟩
def td98 : TD := ⟨(.int .u64), 1, 8, [.int .u64 0]⟩
def td99 : TD := ⟨(.struct [(0, 5), (1, 5)]), 2, 2, [.int .u8 0, .int .u8 0]⟩
def td100 : TD := ⟨(.struct [(0, 5), (1, 5)]), 2, 2, [.int .u8 0, .int .u8 0]⟩
def td101 : TD := ⟨(.arr 16 100), 32, 32, [.int .u8 0, .int .u8 0, .int .u8 0, .int .u8 0, .int .u8 0, .int .u8 0, .int .u8 0, .int .u8 0, .int .u8 0, .int .u8 0, .int .u8 0, .int .u8 0, .int .u8 0, .int .u8 0, .int .u8 0, .int .u8 0, .int .u8 0, .int .u8 0, .int .u8 0, .int .u8 0, .int .u8 0, .int .u8 0, .int .u8 0, .int .u8 0, .int .u8 0, .int .u8 0, .int .u8 0, .int .u8 0, .int .u8 0, .int .u8 0, .int .u8 0, .int .u8 0]⟩
def td102 : TD := ⟨.func, 1, 8, [.nilfn]⟩
def td103 : TD := ⟨.func, 1, 8, [.nilfn]⟩
def td104 : TD := ⟨.func, 1, 8, [.nilfn]⟩
def td105 : TD := ⟨(.arr 20 80), 20, 160, [.int .u64 0, .int .u64 0, .int .u64 0, .int .u64 0, .int .u64 0, .int .u64 0, .int .u64 0, .int .u64 0, .int .u64 0, .int .u64 0, .int .u64 0, .int .u64 0, .int .u64 0, .int .u64 0, .int .u64 0, .int .u64 0, .int .u64 0, .int .u64 0, .int .u64 0, .int .u64 0]⟩
def td106 : TD := ⟨(.int .u32), 1, 4, [.int .u32 0]⟩
def td107 : TD := ⟨(.arr 65 5), 65, 65, [.int .u8 0, .int .u8 0, .int .u8 0, .int .u8 0, .int .u8 0, .int .u8 0, .int .u8 0, .int .u8 0, .int .u8 0, .int .u8 0, .int .u8 0, .int .u8 0, .int .u8 0, .int .u8 0, .int .u8 0, .int .u8 0, .int .u8 0, .int .u8 0, .int .u8 0, .int .u8 0, .int .u8 0, .int .u8 0, .int .u8 0, .int .u8 0, .int .u8 0, .int .u8 0, .int .u8 0, .int .u8 0, .int .u8 0, .int .u8 0, .int .u8 0, .int .u8 0, .int .u8 0, .int .u8 0, .int .u8 0, .int .u8 0, .int .u8 0, .int .u8 0, .int .u8 0, .int .u8 0, .int .u8 0, .int .u8 0, .int .u8 0, .int .u8 0, .int .u8 0, .int .u8 0, .int .u8 0, .int .u8 0, .int .u8 0, .int .u8 0, .int .u8 0, .int .u8 0, .int .u8 0, .int .u8 0, .int .u8 0, .int .u8 0, .int .u8 0, .int .u8 0, .int .u8 0, .int .u8 0, .int .u8 0, .int .u8 0, .int .u8 0, .int .u8 0, .int .u8 0]⟩
def td108 : TD := ⟨.func, 1, 8, [.nilfn]⟩
def td109 : TD := ⟨.func, 1, 8, [.nilfn]⟩
def td110 : TD := ⟨(.arr 32 5), 32, 32, [.int .u8 0, .int .u8 0, .int .u8 0, .int .u8 0, .int .u8 0, .int .u8 0, .int .u8 0, .int .u8 0, .int .u8 0, .int .u8 0, .int .u8 0, .int .u8 0, .int .u8 0, .int .u8 0, .int .u8 0, .int .u8 0, .int .u8 0, .int .u8 0, .int .u8 0, .int .u8 0, .int .u8 0, .int .u8 0, .int .u8 0, .int .u8 0, .int .u8 0, .int .u8 0, .int .u8 0, .int .u8 0, .int .u8 0, .int .u8 0, .int .u8 0, .int .u8 0]⟩
def td111 : TD := ⟨(.arr 64 5), 64, 64, [.int .u8 0, .int .u8 0, .int .u8 0, .int .u8 0, .int .u8 0, .int .u8 0, .int .u8 0, .int .u8 0, .int .u8 0, .int .u8 0, .int .u8 0, .int .u8 0, .int .u8 0, .int .u8 0, .int .u8 0, .int .u8 0, .int .u8 0, .int .u8 0, .int .u8 0, .int .u8 0, .int .u8 0, .int .u8 0, .int .u8 0, .int .u8 0, .int .u8 0, .int .u8 0, .int .u8 0, .int .u8 0, .int .u8 0, .int .u8 0, .int .u8 0, .int .u8 0, .int .u8 0, .int .u8 0, .int .u8 0, .int .u8 0, .int .u8 0, .int .u8 0, .int .u8 0, .int .u8 0, .int .u8 0, .int .u8 0, .int .u8 0, .int .u8 0, .int .u8 0, .int .u8 0, .int .u8 0, .int .u8 0, .int .u8 0, .int .u8 0, .int .u8 0, .int .u8 0, .int .u8 0, .int .u8 0, .int .u8 0, .int .u8 0, .int .u8 0, .int .u8 0, .int .u8 0, .int .u8 0, .int .u8 0, .int .u8 0, .int .u8 0, .int .u8 0]⟩
def td112 : TD := ⟨.func, 1, 8, [.nilfn]⟩
def td113 : TD := ⟨(.struct [(0, 17), (1, 17), (2, 17), (3, 9)]), 4, 40, [.nilp, .nilp, .nilp, .str ⟨#[]⟩]⟩
def td114 : TD := ⟨(.struct [(0, 17), (1, 17), (2, 17), (3, 9)]), 4, 40, [.nilp, .nilp, .nilp, .str ⟨#[]⟩]⟩
def td115 : TD := ⟨(.arr 0 16), 0, 0, []⟩
def td116 : TD := ⟨(.struct [(0, 115)]), 0, 0, []⟩
def td117 : TD := ⟨(.struct [(0, 115)]), 0, 0, []⟩
def td118 : TD := ⟨.func, 1, 8, [.nilfn]⟩
def td119 : TD := ⟨(.int .u8), 1, 1, [.int .u8 0]⟩
def td120 : TD := ⟨(.int .u8), 1, 1, [.int .u8 0]⟩
def td121 : TD := ⟨.func, 1, 8, [.nilfn]⟩
def td122 : TD := ⟨(.ptr 5), 1, 8, [.nilp]⟩
def td123 : TD := ⟨(.int .i32), 1, 4, [.int .i32 0]⟩
def td124 : TD := ⟨(.int .i32), 1, 4, [.int .i32 0]⟩
def td125 : TD := ⟨(.struct [(0, 12), (1, 12), (2, 106), (3, 119), (4, 5), (5, 5), (6, 120), (7, 121), (8, 122), (9, 123), (10, 124)]), 11, 48, [.int .u64 0, .int .u64 0, .int .u32 0, .int .u8 0, .int .u8 0, .int .u8 0, .int .u8 0, .nilfn, .nilp, .int .i32 0, .int .i32 0]⟩
def td126 : TD := ⟨(.struct [(0, 12), (1, 12), (2, 106), (3, 119), (4, 5), (5, 5), (6, 120), (7, 121), (8, 122), (9, 123), (10, 124)]), 11, 48, [.int .u64 0, .int .u64 0, .int .u32 0, .int .u8 0, .int .u8 0, .int .u8 0, .int .u8 0, .nilfn, .nilp, .int .i32 0, .int .i32 0]⟩
def td127 : TD := ⟨.unsafeP, 1, 8, [.nilp]⟩
def glob3 : List AV := [.int .u8 0, .int .u8 1, .int .u8 28, .int .u8 2, .int .u8 29, .int .u8 14, .int .u8 24, .int .u8 3, .int .u8 30, .int .u8 22, .int .u8 20, .int .u8 15, .int .u8 25, .int .u8 17, .int .u8 4, .int .u8 8, .int .u8 31, .int .u8 27, .int .u8 13, .int .u8 23, .int .u8 21, .int .u8 19, .int .u8 16, .int .u8 7, .int .u8 26, .int .u8 12, .int .u8 18, .int .u8 6, .int .u8 11, .int .u8 5, .int .u8 10, .int .u8 9]
def glob4 : List AV := [.int .u8 0, .int .u8 1, .int .u8 56, .int .u8 2, .int .u8 57, .int .u8 49, .int .u8 28, .int .u8 3, .int .u8 61, .int .u8 58, .int .u8 42, .int .u8 50, .int .u8 38, .int .u8 29, .int .u8 17, .int .u8 4, .int .u8 62, .int .u8 47, .int .u8 59, .int .u8 36, .int .u8 45, .int .u8 43, .int .u8 51, .int .u8 22, .int .u8 53, .int .u8 39, .int .u8 33, .int .u8 30, .int .u8 24, .int .u8 18, .int .u8 12, .int .u8 5, .int .u8 63, .int .u8 55, .int .u8 48, .int .u8 27, .int .u8 60, .int .u8 41, .int .u8 37, .int .u8 16, .int .u8 46, .int .u8 35, .int .u8 44, .int .u8 21, .int .u8 52, .int .u8 32, .int .u8 23, .int .u8 11, .int .u8 54, .int .u8 26, .int .u8 40, .int .u8 15, .int .u8 34, .int .u8 20, .int .u8 31, .int .u8 10, .int .u8 25, .int .u8 14, .int .u8 19, .int .u8 9, .int .u8 13, .int .u8 8, .int .u8 7, .int .u8 6]
def glob2 : List AV := [.int .u64 1, .int .u64 10, .int .u64 100, .int .u64 1000, .int .u64 10000, .int .u64 100000, .int .u64 1000000, .int .u64 10000000, .int .u64 100000000, .int .u64 1000000000, .int .u64 10000000000, .int .u64 100000000000, .int .u64 1000000000000, .int .u64 10000000000000, .int .u64 100000000000000, .int .u64 1000000000000000, .int .u64 10000000000000000, .int .u64 100000000000000000, .int .u64 1000000000000000000, .int .u64 10000000000000000000]
def glob1 : List AV := [.int .u8 128, .int .u8 191, .int .u8 160, .int .u8 191, .int .u8 128, .int .u8 159, .int .u8 144, .int .u8 191, .int .u8 128, .int .u8 143, .int .u8 0, .int .u8 0, .int .u8 0, .int .u8 0, .int .u8 0, .int .u8 0, .int .u8 0, .int .u8 0, .int .u8 0, .int .u8 0, .int .u8 0, .int .u8 0, .int .u8 0, .int .u8 0, .int .u8 0, .int .u8 0, .int .u8 0, .int .u8 0, .int .u8 0, .int .u8 0, .int .u8 0, .int .u8 0]
def glob0 : List AV := Go.Pinned.utf8FirstZ.map fun (n : Nat) => AV.int .u8 (n : Int)
noncomputable def tab : List (TypeId × TD) := [(1, td1), (2, td2), (3, td3), (4, td4), (5, td5), (6, td6), (7, td7), (8, td8), (9, td9), (10, td10), (11, td11), (12, td12), (13, td13), (14, td14), (15, td15), (16, td16), (17, td17), (18, td18), (19, td19), (20, td20), (21, td21), (22, td22), (23, td23), (24, td24), (25, td25), (26, td26), (27, td27), (28, td28), (29, td29), (30, td30), (31, td31), (32, td32), (33, td33), (35, td35), (36, td36), (37, td37), (39, td39), (41, td41), (43, td43), (45, td45), (46, td46), (48, td48), (49, td49), (50, td50), (51, td51), (52, td52), (53, td53), (54, td54), (55, td55), (56, td56), (57, td57), (58, td58), (59, td59), (61, td61), (62, td62), (63, td63), (64, td64), (65, td65), (66, td66), (67, td67), (68, td68), (69, td69), (70, td70), (71, td71), (72, td72), (73, td73), (74, td74), (75, td75), (76, td76), (77, td77), (78, td78), (79, td79), (80, td80), (81, td81), (82, td82), (83, td83), (85, td85), (86, td86), (88, td88), (89, td89), (90, td90), (91, td91), (92, td92), (93, td93), (94, td94), (96, td96), (97, td97), (98, td98), (99, td99), (100, td100), (101, td101), (102, td102), (103, td103), (104, td104), (105, td105), (106, td106), (107, td107), (108, td108), (109, td109), (110, td110), (111, td111), (112, td112), (113, td113), (114, td114), (115, td115), (116, td116), (117, td117), (118, td118), (119, td119), (120, td120), (121, td121), (122, td122), (123, td123), (124, td124), (125, td125), (126, td126), (127, td127)]
noncomputable def fns : List (FuncId × Func) := [(3, Tryd.f3), (4, Tryd.f4), (5, Tryd.f5), (6, Tryd.f6), (7, Tryd.f7), (8, Tryd.f8), (9, Tryd.f9), (10, Tryd.f10), (14, Tryd.f14), (18, Tryd.f18), (22, Tryd.f22), (31, Tryd.f31), (32, Tryd.f32), (34, Tryd.f34), (35, Tryd.f35), (40, Tryd.f40), (41, Tryd.f41), (44, Tryd.f44), (45, Tryd.f45), (50, Tryd.f50), (51, Tryd.f51), (52, Tryd.f52), (53, Tryd.f53), (11, Tryd.f11), (12, Tryd.f12), (13, Tryd.f13), (15, Tryd.f15), (16, Tryd.f16), (17, Tryd.f17), (19, Tryd.f19), (20, Tryd.f20), (21, Tryd.f21), (23, Tryd.f23), (24, Tryd.f24), (25, Tryd.f25), (26, Tryd.f26), (27, Tryd.f27), (28, Tryd.f28), (29, Tryd.f29), (30, Tryd.f30), (33, Tryd.f33), (36, Tryd.f36), (37, Tryd.f37), (38, Tryd.f38), (39, Tryd.f39), (42, Tryd.f42), (43, Tryd.f43), (46, Tryd.f46), (47, Tryd.f47), (48, Tryd.f48), (49, Tryd.f49), (54, Tryd.f54), (55, Tryd.f55), (56, Tryd.f56), (57, Tryd.f57), (59, Tryd.f59), (60, Tryd.f60), (61, Tryd.f61), (62, Tryd.f62), (63, Tryd.f63), (64, Tryd.f64), (66, Tryd.f66), (67, Tryd.f67), (68, Tryd.f68), (70, Tryd.f70), (71, Tryd.f71), (76, Tryd.f76)]
noncomputable def notes : List (FuncId × Note) := [
  (3, { keeps := [], stops := [], muts := [], acts := [] }),
  (4, { keeps := [([1, 0, 1], [2, 3, 15])], stops := [[1, 0, 1]], muts := [], acts := [] }),
  (5, { keeps := [], stops := [], muts := [], acts := [] }),
  (6, { keeps := [([1, 0, 1, 1], [2, 3, 22]), ([1, 0, 1, 1, 1, 1, 1], [2, 3, 5, 7, 40])], stops := [[1, 0, 1, 1], [1, 0, 1, 1, 1, 1, 1]], muts := [], acts := [] }),
  (7, { keeps := [([1, 0, 1, 1, 1, 1, 1, 1, 1, 1, 1], [3, 7, 8, 10, 12, 14, 16, 18, 94])], stops := [[1, 0, 1, 1, 1, 1, 1, 1, 1, 1, 1]], muts := [], acts := [] }),
  (8, { keeps := [([0, 0, 1, 0, 1, 1, 1, 1, 1, 1], [1, 4, 5, 6]), ([1, 1, 0, 1, 0, 1, 0, 0, 1, 0, 0, 1, 0, 1, 1, 1, 1, 1, 1], [1, 4, 5, 6, 7, 60]), ([1, 1, 1, 1, 0, 1, 0, 0, 1, 0, 0, 1, 0, 1, 1, 1, 1, 1, 1], [1, 4, 5, 6, 7, 79]), ([1, 1, 0, 0, 1, 0, 0, 1, 0, 1, 1, 1, 1, 1, 1], [1, 4, 5, 6, 7])], stops := [[0, 0, 1, 0, 1, 1, 1, 1, 1, 1], [1, 1, 0, 1, 0, 1, 0, 0, 1, 0, 0, 1, 0, 1, 1, 1, 1, 1, 1], [1, 1, 1, 1, 0, 1, 0, 0, 1, 0, 0, 1, 0, 1, 1, 1, 1, 1, 1], [1, 1, 0, 0, 1, 0, 0, 1, 0, 1, 1, 1, 1, 1, 1]], muts := [], acts := [] }),
  (9, { keeps := [], stops := [], muts := [], acts := [] }),
  (10, { keeps := [], stops := [], muts := [], acts := [] }),
  (14, { keeps := [], stops := [], muts := [], acts := [] }),
  (18, { keeps := [], stops := [], muts := [], acts := [] }),
  (22, { keeps := [], stops := [], muts := [], acts := [] }),
  (31, { keeps := [], stops := [], muts := [], acts := [] }),
  (32, { keeps := [], stops := [], muts := [], acts := [] }),
  (34, { keeps := [], stops := [], muts := [], acts := [] }),
  (35, { keeps := [([0, 0, 1, 0, 1, 1], [0, 3, 4])], stops := [[0, 0, 1, 0, 1, 1]], muts := [], acts := [] }),
  (40, { keeps := [], stops := [], muts := [], acts := [] }),
  (41, { keeps := [([1, 0, 1, 1], [0, 1, 37]), ([0, 0, 1, 0, 1, 1, 1], [0, 1, 6])], stops := [[1, 0, 1, 1], [0, 0, 1, 0, 1, 1, 1]], muts := [], acts := [] }),
  (44, { keeps := [], stops := [], muts := [], acts := [] }),
  (45, { keeps := [([0, 0, 1, 0, 1, 1], [0, 3, 4])], stops := [[0, 0, 1, 0, 1, 1]], muts := [], acts := [] }),
  (50, { keeps := [([0, 0, 1, 0, 1, 1], [0, 1, 5])], stops := [[0, 0, 1, 0, 1, 1]], muts := [], acts := [] }),
  (51, { keeps := [([0, 0, 1, 0, 1, 1], [0, 1, 5])], stops := [[0, 0, 1, 0, 1, 1]], muts := [], acts := [] }),
  (52, { keeps := [([0, 0, 1], [0, 2])], stops := [[0, 0, 1]], muts := [], acts := [] }),
  (53, { keeps := [([0, 0, 1], [0, 2])], stops := [[0, 0, 1]], muts := [], acts := [] }),
  (11, { keeps := [([0, 1, 0, 1, 1], [2, 3, 6]), ([1, 1, 1, 1, 1, 0, 1, 0, 0, 0, 1, 0, 1, 1], [2, 5, 17])], stops := [[0, 1, 0, 1, 1], [1, 1, 1, 1, 1, 0, 1, 0, 0, 0, 1, 0, 1, 1]], muts := [], acts := [] }),
  (12, { keeps := [([0, 1, 0, 1, 1, 1], [2, 3, 8])], stops := [[0, 1, 0, 1, 1, 1]], muts := [], acts := [] }),
  (13, { keeps := [([0, 1, 0, 1, 1, 1], [2, 3, 7])], stops := [[0, 1, 0, 1, 1, 1]], muts := [], acts := [] }),
  (15, { keeps := [], stops := [], muts := [], acts := [] }),
  (16, { keeps := [], stops := [], muts := [], acts := [] }),
  (17, { keeps := [], stops := [], muts := [], acts := [] }),
  (19, { keeps := [], stops := [], muts := [], acts := [] }),
  (20, { keeps := [([0, 0, 0, 1, 1], [5]), ([0, 0, 1, 1, 0, 1, 0, 1, 0, 1, 1, 1, 1, 0, 1, 0, 0, 0, 1, 1], [5, 6, 7, 8, 109, 110]), ([1, 0, 1, 0, 1, 1, 1, 1, 0, 1, 0, 0, 0, 1, 1], [5, 6, 7, 8]), ([1, 1, 1, 1, 1, 0, 1, 0, 0, 0, 1, 1], [5, 8])], stops := [[0, 0, 0, 1, 1], [0, 0, 1, 1, 0, 1, 0, 1, 0, 1, 1, 1, 1, 0, 1, 0, 0, 0, 1, 1], [1, 0, 1, 0, 1, 1, 1, 1, 0, 1, 0, 0, 0, 1, 1], [1, 1, 1, 1, 1, 0, 1, 0, 0, 0, 1, 1]], muts := [(1, 1)], acts := [] }),
  (21, { keeps := [([1, 0, 0, 1, 1, 1, 1, 1, 1, 1, 0, 1, 0, 1, 1], [2, 3, 58]), ([0, 0, 1, 0, 1, 0, 1, 1, 1, 1, 1, 1, 1, 0, 1, 0, 1, 1], [2, 3, 5]), ([1, 0, 0, 0, 1, 0, 1, 0, 1, 1, 1, 1, 1, 1, 1, 0, 1, 0, 1, 1], [2, 3, 5, 68]), ([0, 0, 1, 1, 1, 0, 1, 1, 1, 1, 1, 1, 1, 0, 1, 0, 1, 1], [2, 3, 6]), ([1, 1, 1, 1, 1, 1, 1, 0, 1, 0, 1, 1], [2, 3, 35]), ([1, 1, 1], [])], stops := [[1, 0, 0, 1, 1, 1, 1, 1, 1, 1, 0, 1, 0, 1, 1], [0, 0, 1, 0, 1, 0, 1, 1, 1, 1, 1, 1, 1, 0, 1, 0, 1, 1], [1, 0, 0, 0, 1, 0, 1, 0, 1, 1, 1, 1, 1, 1, 1, 0, 1, 0, 1, 1], [0, 0, 1, 1, 1, 0, 1, 1, 1, 1, 1, 1, 1, 0, 1, 0, 1, 1], [1, 1, 1, 1, 1, 1, 1, 0, 1, 0, 1, 1], [1, 1, 1]], muts := [], acts := [] }),
  (23, { keeps := [], stops := [], muts := [], acts := [] }),
  (24, { keeps := [], stops := [], muts := [], acts := [] }),
  (25, { keeps := [], stops := [], muts := [], acts := [] }),
  (26, { keeps := [], stops := [], muts := [], acts := [] }),
  (27, { keeps := [([1, 1, 0, 1, 0, 1], [2, 4, 6, 22]), ([1, 1], [4])], stops := [[1, 1, 0, 1, 0, 1], [1, 1]], muts := [], acts := [] }),
  (28, { keeps := [([1, 0, 1], [1, 2, 4, 19])], stops := [[1, 0, 1]], muts := [], acts := [] }),
  (29, { keeps := [([0, 0, 1, 0, 1, 1], [1, 2, 4, 6]), ([1, 1, 1], [4])], stops := [[0, 0, 1, 0, 1, 1], [1, 1, 1]], muts := [], acts := [] }),
  (30, { keeps := [([1, 0, 1], [1, 2, 4, 19])], stops := [[1, 0, 1]], muts := [], acts := [] }),
  (33, { keeps := [([0, 0, 1, 0, 1, 1], [1, 2, 5])], stops := [[0, 0, 1, 0, 1, 1]], muts := [], acts := [] }),
  (36, { keeps := [], stops := [], muts := [], acts := [] }),
  (37, { keeps := [([1, 1, 1, 1, 1, 1, 1, 0, 0, 0, 1], [0, 6]), ([1, 1, 1, 1, 1, 0, 0, 0, 1], [0, 6]), ([1, 1, 1, 0, 0, 0, 1], [0, 6]), ([1, 0, 0, 0, 1], [0, 6]), ([1, 1, 1, 0, 0, 1], [0, 75]), ([1, 0, 0, 1], [0, 6]), ([0, 0, 1, 0, 1, 1, 1], [0, 3, 98, 99, 100]), ([1, 1, 1, 0, 0, 1, 1, 0, 0, 1, 0, 1, 1, 1], [0, 3, 98, 99, 100, 116])], stops := [[1, 1, 1, 1, 1, 1, 1, 0, 0, 0, 1], [1, 1, 1, 1, 1, 0, 0, 0, 1], [1, 1, 1, 0, 0, 0, 1], [1, 0, 0, 0, 1], [1, 1, 1, 0, 0, 1], [1, 0, 0, 1], [0, 0, 1, 0, 1, 1, 1], [1, 1, 1, 0, 0, 1, 1, 0, 0, 1, 0, 1, 1, 1]], muts := [], acts := [] }),
  (38, { keeps := [([0, 0, 1, 0, 1, 1, 1, 1, 1, 1], [1, 2, 3, 8])], stops := [[0, 0, 1, 0, 1, 1, 1, 1, 1, 1]], muts := [], acts := [] }),
  (39, { keeps := [([0, 0, 1, 0, 1, 1], [1, 3, 4])], stops := [[0, 0, 1, 0, 1, 1]], muts := [], acts := [] }),
  (42, { keeps := [], stops := [], muts := [], acts := [] }),
  (43, { keeps := [([0, 0, 1, 0, 1, 1], [0, 1, 12, 13])], stops := [[0, 0, 1, 0, 1, 1]], muts := [], acts := [] }),
  (46, { keeps := [], stops := [], muts := [], acts := [] }),
  (47, { keeps := [([0, 0, 0, 1, 1, 1], [0, 3, 4]), ([1, 0, 0, 0, 0, 1, 1, 1], [0, 3, 4, 13]), ([1, 1, 1, 1, 1], [4])], stops := [[0, 0, 0, 1, 1, 1], [1, 0, 0, 0, 0, 1, 1, 1], [1, 1, 1, 1, 1]], muts := [], acts := [] }),
  (48, { keeps := [([0, 0, 1, 0, 1], [0, 1, 7, 8])], stops := [[0, 0, 1, 0, 1]], muts := [], acts := [] }),
  (49, { keeps := [([0, 0, 0, 1, 1, 1], [2, 3, 4]), ([0, 0, 1, 1, 1, 1, 0, 1, 0, 0, 0, 1, 1, 1], [2, 3, 4, 5, 43, 44])], stops := [[0, 0, 0, 1, 1, 1], [0, 0, 1, 1, 1, 1, 0, 1, 0, 0, 0, 1, 1, 1]], muts := [(2, 0)], acts := [(6, 6), (6, 11)] }),
  (54, { keeps := [([0, 0, 1, 1], [0, 2, 4]), ([1, 0, 1, 0, 1, 0, 0, 1, 1], [0, 2, 4, 5, 40])], stops := [[0, 0, 1, 1], [1, 0, 1, 0, 1, 0, 0, 1, 1]], muts := [(1, 5)], acts := [] }),
  (55, { keeps := [], stops := [], muts := [], acts := [] }),
  (56, { keeps := [], stops := [], muts := [], acts := [] }),
  (57, { keeps := [([1, 0, 1], [1, 30]), ([1, 0, 1, 1], [1, 55]), ([1, 0, 1, 1, 1], [1, 73]), ([0, 0, 1, 0, 1, 1, 1, 1], [1, 3])], stops := [[1, 0, 1], [1, 0, 1, 1], [1, 0, 1, 1, 1], [0, 0, 1, 0, 1, 1, 1, 1]], muts := [], acts := [] }),
  (59, { keeps := [], stops := [], muts := [], acts := [] }),
  (60, { keeps := [], stops := [], muts := [(3, 2)], acts := [] }),
  (61, { keeps := [], stops := [], muts := [(3, 2)], acts := [] }),
  (62, { keeps := [([0, 0, 1, 0, 1], [0, 9])], stops := [[0, 0, 1, 0, 1]], muts := [], acts := [] }),
  (63, { keeps := [], stops := [], muts := [], acts := [] }),
  (64, { keeps := [([0, 0, 1, 0, 1, 1], [3, 4])], stops := [[0, 0, 1, 0, 1, 1]], muts := [], acts := [] }),
  (66, { keeps := [([1, 0, 1], [0, 10])], stops := [[1, 0, 1]], muts := [], acts := [] }),
  (67, { keeps := [([0, 0, 0, 1, 1], [0, 4])], stops := [[0, 0, 0, 1, 1]], muts := [], acts := [] }),
  (68, { keeps := [([0, 0, 0, 1, 1, 1, 1, 1], [3, 4, 5]), ([1, 0, 0, 0, 0, 1, 1, 1, 1, 1], [3, 4, 5, 31]), ([1, 0, 1, 0, 0, 0, 1, 1, 1, 1, 1], [3, 4, 5, 48])], stops := [[0, 0, 0, 1, 1, 1, 1, 1], [1, 0, 0, 0, 0, 1, 1, 1, 1, 1], [1, 0, 1, 0, 0, 0, 1, 1, 1, 1, 1]], muts := [], acts := [] }),
  (70, { keeps := [([1, 0, 1, 1, 1, 1, 1, 1, 1, 1, 1, 1], [0, 5, 8, 10, 57]), ([1, 0, 1, 1, 1, 1, 1, 1, 1, 1, 1, 1, 1, 1, 1], [0, 5, 8, 10, 11, 75]), ([1, 0, 1, 1, 1, 1, 1, 1, 1, 1, 1, 1, 1, 1, 1, 1, 1, 1], [5, 10, 11, 12, 98])], stops := [[1, 0, 1, 1, 1, 1, 1, 1, 1, 1, 1, 1], [1, 0, 1, 1, 1, 1, 1, 1, 1, 1, 1, 1, 1, 1, 1], [1, 0, 1, 1, 1, 1, 1, 1, 1, 1, 1, 1, 1, 1, 1, 1, 1, 1]], muts := [], acts := [] }),
  (71, { keeps := [([1, 0, 1, 1, 1], [0, 1, 5, 22]), ([1, 0, 0, 1, 0, 1, 1, 1, 1], [60]), ([1, 0, 1, 1, 1, 1], [0, 1, 5, 40]), ([1, 0, 0, 1, 0, 1, 1, 1, 1, 1], [104]), ([1, 0, 1, 1, 1, 1, 1], [0, 1, 5, 84])], stops := [[1, 0, 1, 1, 1], [1, 0, 0, 1, 0, 1, 1, 1, 1], [1, 0, 1, 1, 1, 1], [1, 0, 0, 1, 0, 1, 1, 1, 1, 1], [1, 0, 1, 1, 1, 1, 1]], muts := [], acts := [] }),
  (76, { keeps := [], stops := [], muts := [], acts := [] })]
noncomputable def ap : AProg := { fns := fns, tab := tab, eqs := [(37, [.i, .i, .s])], notes := notes, globs := [(3, glob3), (4, glob4), (2, glob2), (1, glob1), (0, glob0)], prims := [(58, .itoa)], bld := 99999, u8 := 5, draws := true, tips := [44, 45], frzs := [49] }
end Go.Proofs.YtiiooldjegoikaaDoor
