/- The program as the value machine takes it: printed by gen.py out of Lean's print of the loaded program. -/
import Derived.Test.YtmpimgnfkalhkaaDoorProg
import Derived.Test.YtmpimgnfkalhkaaDoorStLim
import Derived.KernelRfl
import GoSem.PinnedTables
namespace Go.Proofs.YtmpimgnfkalhkaaDoor
open Go.St
def td1 : TD := ⟨.func, 1, 8, [.nilfn]⟩
def td2 : TD := ⟨(.int .i64), 1, 8, [.int .i64 0]⟩
def td3 : TD := ⟨(.int .i64), 1, 8, [.int .i64 0]⟩
def td4 : TD := ⟨.bool, 1, 1, [.bool false]⟩
def td5 : TD := ⟨(.int .u8), 1, 1, [.int .u8 0]⟩
def td6 : TD := ⟨(.int .u8), 1, 1, [.int .u8 0]⟩
def td7 : TD := ⟨(.struct [(0, 2), (1, 3), (2, 4), (3, 6)]), 4, 24, [.int .i64 0, .int .i64 0, .bool false, .int .u8 0]⟩
def td8 : TD := ⟨(.struct [(0, 2), (1, 3), (2, 4), (3, 6)]), 4, 24, [.int .i64 0, .int .i64 0, .bool false, .int .u8 0]⟩
def td9 : TD := ⟨.str, 1, 16, [.str ⟨#[]⟩]⟩
def td10 : TD := ⟨.str, 1, 16, [.str ⟨#[]⟩]⟩
def td11 : TD := ⟨.str, 1, 16, [.str ⟨#[]⟩]⟩
def td12 : TD := ⟨(.int .u64), 1, 8, [.int .u64 0]⟩
def td13 : TD := ⟨(.struct [(0, 9), (1, 12)]), 2, 24, [.str ⟨#[]⟩, .int .u64 0]⟩
def td14 : TD := ⟨(.struct [(0, 9), (1, 12)]), 2, 24, [.str ⟨#[]⟩, .int .u64 0]⟩
def td15 : TD := ⟨(.ptr 116), 1, 8, [.nilp]⟩
def td16 : TD := ⟨(.ptr 119), 1, 8, [.nilp]⟩
def td17 : TD := ⟨(.ptr 129), 1, 8, [.nilp]⟩
def td18 : TD := ⟨(.struct [(0, 17)]), 1, 8, [.nilp]⟩
def td19 : TD := ⟨(.struct [(0, 17)]), 1, 8, [.nilp]⟩
def td20 : TD := ⟨(.iface 0), 1, 16, [.nili]⟩
def td21 : TD := ⟨(.int .i32), 1, 4, [.int .i32 0]⟩
def td22 : TD := ⟨(.slice 36), 1, 24, [.nils]⟩
def td23 : TD := ⟨.func, 1, 8, [.nilfn]⟩
def td24 : TD := ⟨.func, 1, 8, [.nilfn]⟩
def td25 : TD := ⟨(.ptr 60), 1, 8, [.nilp]⟩
def td26 : TD := ⟨(.int .i64), 1, 8, [.int .i64 0]⟩
def td28 : TD := ⟨.func, 1, 8, [.nilfn]⟩
def td29 : TD := ⟨.func, 1, 8, [.nilfn]⟩
def td30 : TD := ⟨(.slice 3), 1, 24, [.nils]⟩
def td31 : TD := ⟨.func, 1, 8, [.nilfn]⟩
def td33 : TD := ⟨.func, 1, 8, [.nilfn]⟩
def td34 : TD := ⟨(.slice 81), 1, 24, [.nils]⟩
def td35 : TD := ⟨(.struct [(0, 9), (1, 9), (2, 34), (3, 22)]), 4, 80, [.str ⟨#[]⟩, .str ⟨#[]⟩, .nils, .nils]⟩
def td36 : TD := ⟨(.struct [(0, 9), (1, 9), (2, 34), (3, 22)]), 4, 80, [.str ⟨#[]⟩, .str ⟨#[]⟩, .nils, .nils]⟩
def td37 : TD := ⟨.func, 1, 8, [.nilfn]⟩
def td38 : TD := ⟨.func, 1, 8, [.nilfn]⟩
def td39 : TD := ⟨.func, 1, 8, [.nilfn]⟩
def td40 : TD := ⟨.func, 1, 8, [.nilfn]⟩
def td41 : TD := ⟨.func, 1, 8, [.nilfn]⟩
def td42 : TD := ⟨.func, 1, 8, [.nilfn]⟩
def td43 : TD := ⟨.func, 1, 8, [.nilfn]⟩
def td44 : TD := ⟨.func, 1, 8, [.nilfn]⟩
def td45 : TD := ⟨(.struct [(0, 4), (1, 3), (2, 3), (3, 3), (4, 3), (5, 9), (6, 9), (7, 36)]), 11, 152, [.bool false, .int .i64 0, .int .i64 0, .int .i64 0, .int .i64 0, .str ⟨#[]⟩, .str ⟨#[]⟩, .str ⟨#[]⟩, .str ⟨#[]⟩, .nils, .nils]⟩
def td46 : TD := ⟨(.struct [(0, 4), (1, 3), (2, 3), (3, 3), (4, 3), (5, 9), (6, 9), (7, 36)]), 11, 152, [.bool false, .int .i64 0, .int .i64 0, .int .i64 0, .int .i64 0, .str ⟨#[]⟩, .str ⟨#[]⟩, .str ⟨#[]⟩, .str ⟨#[]⟩, .nils, .nils]⟩
def td48 : TD := ⟨.func, 1, 8, [.nilfn]⟩
def td49 : TD := ⟨.func, 1, 8, [.nilfn]⟩
def td50 : TD := ⟨.func, 1, 8, [.nilfn]⟩
def td51 : TD := ⟨.func, 1, 8, [.nilfn]⟩
def td52 : TD := ⟨(.slice 62), 1, 24, [.nils]⟩
def td53 : TD := ⟨.func, 1, 8, [.nilfn]⟩
def td54 : TD := ⟨(.struct [(0, 3), (1, 3), (2, 3), (3, 3), (4, 3), (5, 3), (6, 3)]), 7, 56, [.int .i64 0, .int .i64 0, .int .i64 0, .int .i64 0, .int .i64 0, .int .i64 0, .int .i64 0]⟩
def td55 : TD := ⟨(.struct [(0, 3), (1, 3), (2, 3), (3, 3), (4, 3), (5, 3), (6, 3)]), 7, 56, [.int .i64 0, .int .i64 0, .int .i64 0, .int .i64 0, .int .i64 0, .int .i64 0, .int .i64 0]⟩
def td56 : TD := ⟨.func, 1, 8, [.nilfn]⟩
def td57 : TD := ⟨.func, 1, 8, [.nilfn]⟩
def td58 : TD := ⟨.func, 1, 8, [.nilfn]⟩
def td59 : TD := ⟨(.struct [(0, 52), (1, 30), (2, 55)]), 9, 104, [.nils, .nils, .int .i64 0, .int .i64 0, .int .i64 0, .int .i64 0, .int .i64 0, .int .i64 0, .int .i64 0]⟩
def td60 : TD := ⟨(.struct [(0, 52), (1, 30), (2, 55)]), 9, 104, [.nils, .nils, .int .i64 0, .int .i64 0, .int .i64 0, .int .i64 0, .int .i64 0, .int .i64 0, .int .i64 0]⟩
def td61 : TD := ⟨(.struct [(0, 4), (1, 9), (2, 9), (3, 34), (4, 3), (5, 3), (6, 3), (7, 3), (8, 3)]), 9, 104, [.bool false, .str ⟨#[]⟩, .str ⟨#[]⟩, .nils, .int .i64 0, .int .i64 0, .int .i64 0, .int .i64 0, .int .i64 0]⟩
def td62 : TD := ⟨(.struct [(0, 4), (1, 9), (2, 9), (3, 34), (4, 3), (5, 3), (6, 3), (7, 3), (8, 3)]), 9, 104, [.bool false, .str ⟨#[]⟩, .str ⟨#[]⟩, .nils, .int .i64 0, .int .i64 0, .int .i64 0, .int .i64 0, .int .i64 0]⟩
def td63 : TD := ⟨.func, 1, 8, [.nilfn]⟩
def td64 : TD := ⟨.func, 1, 8, [.nilfn]⟩
def td65 : TD := ⟨.func, 1, 8, [.nilfn]⟩
def td66 : TD := ⟨.func, 1, 8, [.nilfn]⟩
def td67 : TD := ⟨.func, 1, 8, [.nilfn]⟩
def td68 : TD := ⟨.func, 1, 8, [.nilfn]⟩
def td69 : TD := ⟨(.ptr 36), 1, 8, [.nilp]⟩
def td70 : TD := ⟨.func, 1, 8, [.nilfn]⟩
def td71 : TD := ⟨.func, 1, 8, [.nilfn]⟩
def td72 : TD := ⟨.func, 1, 8, [.nilfn]⟩
def td73 : TD := ⟨.func, 1, 8, [.nilfn]⟩
def td74 : TD := ⟨.func, 1, 8, [.nilfn]⟩
def td75 : TD := ⟨.func, 1, 8, [.nilfn]⟩
def td76 : TD := ⟨(.struct [(0, 22), (1, 22)]), 2, 48, [.nils, .nils]⟩
def td77 : TD := ⟨(.struct [(0, 22), (1, 22)]), 2, 48, [.nils, .nils]⟩
def td78 : TD := ⟨(.slice 77), 1, 24, [.nils]⟩
def td79 : TD := ⟨.func, 1, 8, [.nilfn]⟩
def td80 : TD := ⟨(.struct [(0, 9), (1, 9)]), 2, 32, [.str ⟨#[]⟩, .str ⟨#[]⟩]⟩
def td81 : TD := ⟨(.struct [(0, 9), (1, 9)]), 2, 32, [.str ⟨#[]⟩, .str ⟨#[]⟩]⟩
def td82 : TD := ⟨.func, 1, 8, [.nilfn]⟩
def td83 : TD := ⟨.func, 1, 8, [.nilfn]⟩
def td84 : TD := ⟨.func, 1, 8, [.nilfn]⟩
def td85 : TD := ⟨.func, 1, 8, [.nilfn]⟩
def td86 : TD := ⟨.func, 1, 8, [.nilfn]⟩
def td87 : TD := ⟨.func, 1, 8, [.nilfn]⟩
def td88 : TD := ⟨(.ptr 62), 1, 8, [.nilp]⟩
def td90 : TD := ⟨.func, 1, 8, [.nilfn]⟩
def td91 : TD := ⟨.func, 1, 8, [.nilfn]⟩
def td92 : TD := ⟨.func, 1, 8, [.nilfn]⟩
def td93 : TD := ⟨.func, 1, 8, [.nilfn]⟩
def td94 : TD := ⟨(.struct [(0, 3), (1, 3), (2, 26)]), 3, 24, [.int .i64 0, .int .i64 0, .int .i64 0]⟩
def td95 : TD := ⟨(.struct [(0, 3), (1, 3), (2, 26)]), 3, 24, [.int .i64 0, .int .i64 0, .int .i64 0]⟩
def td96 : TD := ⟨.func, 1, 8, [.nilfn]⟩
def td97 : TD := ⟨.func, 1, 8, [.nilfn]⟩
def td98 : TD := ⟨.func, 1, 8, [.nilfn]⟩
def td99 : TD := ⟨.func, 1, 8, [.nilfn]⟩
def td100 : TD := ⟨.func, 1, 8, [.nilfn]⟩
def td101 : TD := ⟨.func, 1, 8, [.nilfn]⟩
def td102 : TD := ⟨.func, 1, 8, [.nilfn]⟩
def td103 : TD := ⟨.func, 1, 8, [.nilfn]⟩
def td104 : TD := ⟨(.ptr 95), 1, 8, [.nilp]⟩
def td106 : TD := ⟨.func, 1, 8, [.nilfn]⟩
def td107 : TD := ⟨(.int .u64), 1, 8, [.int .u64 0]⟩
def td108 : TD := ⟨.func, 1, 8, [.nilfn]⟩
def td109 : TD := ⟨.func, 1, 8, [.nilfn]⟩
def td110 : TD := ⟨(.arr 256 5), 256, 256, [.int .u8 0, .int .u8 0, .int .u8 0, .int .u8 0, .int .u8 0, .int .u8 0, .int .u8 0, .int .u8 0, .int .u8 0, .int .u8 0, .int .u8 0, .int .u8 0, .int .u8 0, .int .u8 0, .int .u8 0, .int .u8 0, .int .u8 0, .int .u8 0, .int .u8 0, .int .u8 0, .int .u8 0, .int .u8 0, .int .u8 0, .int .u8 0, .int .u8 0, .int .u8 0, .int .u8 0, .int .u8 0, .int .u8 0, .int .u8 0, .int .u8 0, .int .u8 0, .int .u8 0, .int .u8 0, .int .u8 0, .int .u8 0, .int .u8 0, .int .u8 0, .int .u8 0, .int .u8 0, .int .u8 0, .int .u8 0, .int .u8 0, .int .u8 0, .int .u8 0, .int .u8 0, .int .u8 0, .int .u8 0, .int .u8 0, .int .u8 0, .int .u8 0, .int .u8 0, .int .u8 0, .int .u8 0, .int .u8 0, .int .u8 0, .int .u8 0, .int .u8 0, .int .u8 0, .int .u8 0, .int .u8 0, .int .u8 0, .int .u8 0, .int .u8 0, .int .u8 0, .int .u8 0, .int .u8 0, .int .u8 0, .int .u8 0, .int .u8 0, .int .u8 0, .int .u8 0, .int .u8 0, .int .u8 0, .int .u8 0, .int .u8 0, .int .u8 0, .int .u8 0, .int .u8 0, .int .u8 0, .int .u8 0, .int .u8 0, .int .u8 0, .int .u8 0, .int .u8 0, .int .u8 0, .int .u8 0, .int .u8 0, .int .u8 0, .int .u8 0, .int .u8 0, .int .u8 0, .int .u8 0, .int .u8 0, .int .u8 0, .int .u8 0, .int .u8 0, .int .u8 0, .int .u8 0, .int .u8 0, .int .u8 0, .int .u8 0, .int .u8 0, .int .u8 0, .int .u8 0, .int .u8 0, .int .u8 0, .int .u8 0, .int .u8 0, .int .u8 0, .int .u8 0, .int .u8 0, .int .u8 0, .int .u8 0, .int .u8 0, .int .u8 0, .int .u8 0, .int .u8 0, .int .u8 0, .int .u8 0, .int .u8 0, .int .u8 0, .int .u8 0, .int .u8 0, .int .u8 0, .int .u8 0, .int .u8 0, .int .u8 0, .int .u8 0, .int .u8 0, .int .u8 0, .int .u8 0, .int .u8 0, .int .u8 0, .int .u8 0, .int .u8 0, .int .u8 0, .int .u8 0, .int .u8 0, .int .u8 0, .int .u8 0, .int .u8 0, .int .u8 0, .int .u8 0, .int .u8 0, .int .u8 0, .int .u8 0, .int .u8 0, .int .u8 0, .int .u8 0, .int .u8 0, .int .u8 0, .int .u8 0, .int .u8 0, .int .u8 0, .int .u8 0, .int .u8 0, .int .u8 0, .int .u8 0, .int .u8 0, .int .u8 0, .int .u8 0, .int .u8 0, .int .u8 0, .int .u8 0, .int .u8 0, .int .u8 0, .int .u8 0, .int .u8 0, .int .u8 0, .int .u8 0, .int .u8 0, .int .u8 0, .int .u8 0, .int .u8 0, .int .u8 0, .int .u8 0, .int .u8 0, .int .u8 0, .int .u8 0, .int .u8 0, .int .u8 0, .int .u8 0, .int .u8 0, .int .u8 0, .int .u8 0, .int .u8 0, .int .u8 0, .int .u8 0, .int .u8 0, .int .u8 0, .int .u8 0, .int .u8 0, .int .u8 0, .int .u8 0, .int .u8 0, .int .u8 0, .int .u8 0, .int .u8 0, .int .u8 0, .int .u8 0, .int .u8 0, .int .u8 0, .int .u8 0, .int .u8 0, .int .u8 0, .int .u8 0, .int .u8 0, .int .u8 0, .int .u8 0, .int .u8 0, .int .u8 0, .int .u8 0, .int .u8 0, .int .u8 0, .int .u8 0, .int .u8 0, .int .u8 0, .int .u8 0, .int .u8 0, .int .u8 0, .int .u8 0, .int .u8 0, .int .u8 0, .int .u8 0, .int .u8 0, .int .u8 0, .int .u8 0, .int .u8 0, .int .u8 0, .int .u8 0, .int .u8 0, .int .u8 0, .int .u8 0, .int .u8 0, .int .u8 0, .int .u8 0, .int .u8 0, .int .u8 0, .int .u8 0, .int .u8 0, .int .u8 0, .int .u8 0, .int .u8 0, .int .u8 0, .int .u8 0, .int .u8 0, .int .u8 0, .int .u8 0, .int .u8 0, .int .u8 0, .int .u8 0, .int .u8 0, .int .u8 0, .int .u8 0, .int .u8 0]⟩
def td111 : TD := ⟨(.struct [(0, 5), (1, 5)]), 2, 2, [.int .u8 0, .int .u8 0]⟩
def td112 : TD := ⟨(.struct [(0, 5), (1, 5)]), 2, 2, [.int .u8 0, .int .u8 0]⟩
def td113 : TD := ⟨(.arr 16 112), 32, 32, [.int .u8 0, .int .u8 0, .int .u8 0, .int .u8 0, .int .u8 0, .int .u8 0, .int .u8 0, .int .u8 0, .int .u8 0, .int .u8 0, .int .u8 0, .int .u8 0, .int .u8 0, .int .u8 0, .int .u8 0, .int .u8 0, .int .u8 0, .int .u8 0, .int .u8 0, .int .u8 0, .int .u8 0, .int .u8 0, .int .u8 0, .int .u8 0, .int .u8 0, .int .u8 0, .int .u8 0, .int .u8 0, .int .u8 0, .int .u8 0, .int .u8 0, .int .u8 0]⟩
def td114 : TD := ⟨.func, 1, 8, [.nilfn]⟩
def td115 : TD := ⟨(.struct [(0, 17), (1, 17), (2, 17), (3, 9)]), 4, 40, [.nilp, .nilp, .nilp, .str ⟨#[]⟩]⟩
def td116 : TD := ⟨(.struct [(0, 17), (1, 17), (2, 17), (3, 9)]), 4, 40, [.nilp, .nilp, .nilp, .str ⟨#[]⟩]⟩
def td117 : TD := ⟨(.arr 0 16), 0, 0, []⟩
def td118 : TD := ⟨(.struct [(0, 117)]), 0, 0, []⟩
def td119 : TD := ⟨(.struct [(0, 117)]), 0, 0, []⟩
def td120 : TD := ⟨.func, 1, 8, [.nilfn]⟩
def td121 : TD := ⟨(.int .u32), 1, 4, [.int .u32 0]⟩
def td122 : TD := ⟨(.int .u8), 1, 1, [.int .u8 0]⟩
def td123 : TD := ⟨(.int .u8), 1, 1, [.int .u8 0]⟩
def td124 : TD := ⟨.func, 1, 8, [.nilfn]⟩
def td125 : TD := ⟨(.ptr 5), 1, 8, [.nilp]⟩
def td126 : TD := ⟨(.int .i32), 1, 4, [.int .i32 0]⟩
def td127 : TD := ⟨(.int .i32), 1, 4, [.int .i32 0]⟩
def td128 : TD := ⟨(.struct [(0, 12), (1, 12), (2, 121), (3, 122), (4, 5), (5, 5), (6, 123), (7, 124), (8, 125), (9, 126), (10, 127)]), 11, 48, [.int .u64 0, .int .u64 0, .int .u32 0, .int .u8 0, .int .u8 0, .int .u8 0, .int .u8 0, .nilfn, .nilp, .int .i32 0, .int .i32 0]⟩
def td129 : TD := ⟨(.struct [(0, 12), (1, 12), (2, 121), (3, 122), (4, 5), (5, 5), (6, 123), (7, 124), (8, 125), (9, 126), (10, 127)]), 11, 48, [.int .u64 0, .int .u64 0, .int .u32 0, .int .u8 0, .int .u8 0, .int .u8 0, .int .u8 0, .nilfn, .nilp, .int .i32 0, .int .i32 0]⟩
def td130 : TD := ⟨.unsafeP, 1, 8, [.nilp]⟩
def glob2 : List AV := [.int .u8 128, .int .u8 191, .int .u8 160, .int .u8 191, .int .u8 128, .int .u8 159, .int .u8 144, .int .u8 191, .int .u8 128, .int .u8 143, .int .u8 0, .int .u8 0, .int .u8 0, .int .u8 0, .int .u8 0, .int .u8 0, .int .u8 0, .int .u8 0, .int .u8 0, .int .u8 0, .int .u8 0, .int .u8 0, .int .u8 0, .int .u8 0, .int .u8 0, .int .u8 0, .int .u8 0, .int .u8 0, .int .u8 0, .int .u8 0, .int .u8 0, .int .u8 0]
def glob1 : List AV := Go.Pinned.utf8FirstZ.map fun (n : Nat) => AV.int .u8 (n : Int)
noncomputable def tab : List (TypeId × TD) := [(1, td1), (2, td2), (3, td3), (4, td4), (5, td5), (6, td6), (7, td7), (8, td8), (9, td9), (10, td10), (11, td11), (12, td12), (13, td13), (14, td14), (15, td15), (16, td16), (17, td17), (18, td18), (19, td19), (20, td20), (21, td21), (22, td22), (23, td23), (24, td24), (25, td25), (26, td26), (28, td28), (29, td29), (30, td30), (31, td31), (33, td33), (34, td34), (35, td35), (36, td36), (37, td37), (38, td38), (39, td39), (40, td40), (41, td41), (42, td42), (43, td43), (44, td44), (45, td45), (46, td46), (48, td48), (49, td49), (50, td50), (51, td51), (52, td52), (53, td53), (54, td54), (55, td55), (56, td56), (57, td57), (58, td58), (59, td59), (60, td60), (61, td61), (62, td62), (63, td63), (64, td64), (65, td65), (66, td66), (67, td67), (68, td68), (69, td69), (70, td70), (71, td71), (72, td72), (73, td73), (74, td74), (75, td75), (76, td76), (77, td77), (78, td78), (79, td79), (80, td80), (81, td81), (82, td82), (83, td83), (84, td84), (85, td85), (86, td86), (87, td87), (88, td88), (90, td90), (91, td91), (92, td92), (93, td93), (94, td94), (95, td95), (96, td96), (97, td97), (98, td98), (99, td99), (100, td100), (101, td101), (102, td102), (103, td103), (104, td104), (106, td106), (107, td107), (108, td108), (109, td109), (110, td110), (111, td111), (112, td112), (113, td113), (114, td114), (115, td115), (116, td116), (117, td117), (118, td118), (119, td119), (120, td120), (121, td121), (122, td122), (123, td123), (124, td124), (125, td125), (126, td126), (127, td127), (128, td128), (129, td129), (130, td130)]
noncomputable def fns : List (FuncId × Func) := [(3, Tryd.f3), (4, Tryd.f4), (6, Tryd.f6), (8, Tryd.f8), (11, Tryd.f11), (17, Tryd.f17), (32, Tryd.f32), (33, Tryd.f33), (40, Tryd.f40), (53, Tryd.f53), (5, Tryd.f5), (7, Tryd.f7), (9, Tryd.f9), (10, Tryd.f10), (12, Tryd.f12), (14, Tryd.f14), (13, Tryd.f13), (15, Tryd.f15), (16, Tryd.f16), (18, Tryd.f18), (19, Tryd.f19), (20, Tryd.f20), (21, Tryd.f21), (22, Tryd.f22), (23, Tryd.f23), (24, Tryd.f24), (25, Tryd.f25), (26, Tryd.f26), (27, Tryd.f27), (28, Tryd.f28), (29, Tryd.f29), (30, Tryd.f30), (31, Tryd.f31), (34, Tryd.f34), (35, Tryd.f35), (36, Tryd.f36), (37, Tryd.f37), (39, Tryd.f39), (38, Tryd.f38), (41, Tryd.f41), (42, Tryd.f42), (43, Tryd.f43), (44, Tryd.f44), (45, Tryd.f45), (46, Tryd.f46), (47, Tryd.f47), (48, Tryd.f48), (49, Tryd.f49), (50, Tryd.f50), (51, Tryd.f51), (52, Tryd.f52), (54, Tryd.f54), (55, Tryd.f55), (56, Tryd.f56), (57, Tryd.f57), (60, Tryd.f60), (61, Tryd.f61), (62, Tryd.f62), (58, Tryd.f58), (64, Tryd.f64), (65, Tryd.f65), (66, Tryd.f66), (63, Tryd.f63), (68, Tryd.f68), (69, Tryd.f69), (70, Tryd.f70), (71, Tryd.f71)]
noncomputable def notes : List (FuncId × Note) := [
  (3, { keeps := [([0, 0, 1, 0, 1, 1, 1, 1, 1, 1, 1], [1, 5, 7, 8, 9]), ([1, 0, 1, 1, 1, 1, 1, 1, 1, 1], [5, 7, 8, 76]), ([0, 0, 1, 0, 1, 1, 1, 1, 1, 1, 1, 1, 1], [5, 7, 8, 13])], stops := [[0, 0, 1, 0, 1, 1, 1, 1, 1, 1, 1], [1, 0, 1, 1, 1, 1, 1, 1, 1, 1], [0, 0, 1, 0, 1, 1, 1, 1, 1, 1, 1, 1, 1]], muts := [], acts := [] }),
  (4, { keeps := [([1, 1, 1, 1, 1, 1, 1, 1, 1, 1, 1], [3, 6, 14])], stops := [[1, 1, 1, 1, 1, 1, 1, 1, 1, 1, 1]], muts := [], acts := [] }),
  (6, { keeps := [], stops := [], muts := [], acts := [] }),
  (8, { keeps := [], stops := [], muts := [], acts := [] }),
  (11, { keeps := [], stops := [], muts := [], acts := [] }),
  (17, { keeps := [([0, 0, 1, 0, 1, 1], [0, 1, 5])], stops := [[0, 0, 1, 0, 1, 1]], muts := [], acts := [] }),
  (32, { keeps := [], stops := [], muts := [], acts := [] }),
  (33, { keeps := [([0, 0, 1, 0, 1, 1], [0, 3, 4])], stops := [[0, 0, 1, 0, 1, 1]], muts := [], acts := [] }),
  (40, { keeps := [], stops := [], muts := [], acts := [] }),
  (53, { keeps := [([0, 0, 1, 0, 1, 1], [0, 1, 5])], stops := [[0, 0, 1, 0, 1, 1]], muts := [], acts := [] }),
  (5, { keeps := [([1, 0, 1, 1], [1, 16])], stops := [[1, 0, 1, 1]], muts := [], acts := [] }),
  (7, { keeps := [([1, 0, 1], [0, 11]), ([0, 0, 1, 0, 1, 1, 1, 1], [4, 5])], stops := [[1, 0, 1], [0, 0, 1, 0, 1, 1, 1, 1]], muts := [], acts := [] }),
  (9, { keeps := [], stops := [], muts := [], acts := [] }),
  (10, { keeps := [], stops := [], muts := [], acts := [] }),
  (12, { keeps := [([1, 1, 1, 0, 0, 1], [0, 1, 2, 3, 13]), ([0, 0, 1, 0, 1, 1], [0, 1, 2, 3, 9])], stops := [[1, 1, 1, 0, 0, 1], [0, 0, 1, 0, 1, 1]], muts := [], acts := [] }),
  (14, { keeps := [], stops := [], muts := [], acts := [] }),
  (13, { keeps := [([0, 0, 0, 1, 1], [5]), ([0, 0, 1, 1, 1, 1, 0, 1, 0, 0, 0, 1, 1], [5, 6, 37, 38]), ([1, 0, 1, 1, 0, 0, 1, 1, 0, 0, 1, 1, 1, 1, 0, 1, 0, 0, 0, 1, 1], [5, 6, 8, 9, 37, 38, 80])], stops := [[0, 0, 0, 1, 1], [0, 0, 1, 1, 1, 1, 0, 1, 0, 0, 0, 1, 1], [1, 0, 1, 1, 0, 0, 1, 1, 0, 0, 1, 1, 1, 1, 0, 1, 0, 0, 0, 1, 1]], muts := [], acts := [] }),
  (15, { keeps := [([0, 0, 1, 0, 1, 1, 1, 1], [0, 3, 4, 5, 6]), ([1, 0, 0, 0, 1, 0, 0, 1, 0, 1, 1, 1, 1], [0, 3, 4, 5, 6, 47]), ([0, 0, 1, 0, 1, 1, 1, 1, 1, 1], [0, 3, 4, 7, 8]), ([1, 0, 0, 1, 0, 1, 0, 0, 1, 0, 0, 1, 0, 1, 1, 1, 1, 1, 1], [0, 3, 4, 7, 8, 80]), ([1, 1, 1, 1, 0, 0, 1, 0, 0, 1, 0, 1, 1, 1, 1, 1, 1], [0, 3, 4, 7, 8, 93]), ([1, 1, 0, 0, 1, 0, 1, 1, 1, 1, 1, 1], [0, 3, 4, 7, 8])], stops := [[0, 0, 1, 0, 1, 1, 1, 1], [1, 0, 0, 0, 1, 0, 0, 1, 0, 1, 1, 1, 1], [0, 0, 1, 0, 1, 1, 1, 1, 1, 1], [1, 0, 0, 1, 0, 1, 0, 0, 1, 0, 0, 1, 0, 1, 1, 1, 1, 1, 1], [1, 1, 1, 1, 0, 0, 1, 0, 0, 1, 0, 1, 1, 1, 1, 1, 1], [1, 1, 0, 0, 1, 0, 1, 1, 1, 1, 1, 1]], muts := [], acts := [] }),
  (16, { keeps := [([0, 0, 1, 0, 1, 1, 1, 1, 1], [0, 5, 37, 38, 39]), ([1, 1, 1], [0, 1])], stops := [[0, 0, 1, 0, 1, 1, 1, 1, 1], [1, 1, 1]], muts := [], acts := [] }),
  (18, { keeps := [([0, 0, 1, 0, 1, 1, 1], [0, 6, 7])], stops := [[0, 0, 1, 0, 1, 1, 1]], muts := [], acts := [] }),
  (19, { keeps := [([1, 1, 1, 0, 0, 1], [0, 1, 2, 11]), ([1, 1, 1, 1], [0])], stops := [[1, 1, 1, 0, 0, 1], [1, 1, 1, 1]], muts := [], acts := [] }),
  (20, { keeps := [([1, 0, 1, 1], [0, 1, 2, 3, 26]), ([1, 1, 1, 1, 1, 1], [0])], stops := [[1, 0, 1, 1], [1, 1, 1, 1, 1, 1]], muts := [], acts := [] }),
  (21, { keeps := [], stops := [], muts := [], acts := [] }),
  (22, { keeps := [], stops := [], muts := [], acts := [] }),
  (23, { keeps := [([0, 0, 1, 0, 1, 1, 1], [3, 13, 14])], stops := [[0, 0, 1, 0, 1, 1, 1]], muts := [], acts := [] }),
  (24, { keeps := [], stops := [], muts := [], acts := [] }),
  (25, { keeps := [([0, 0, 1, 0, 1, 1], [0, 1, 5])], stops := [[0, 0, 1, 0, 1, 1]], muts := [], acts := [] }),
  (26, { keeps := [], stops := [], muts := [], acts := [] }),
  (27, { keeps := [], stops := [], muts := [], acts := [] }),
  (28, { keeps := [([0, 0, 1], [0, 2, 3])], stops := [[0, 0, 1]], muts := [], acts := [] }),
  (29, { keeps := [], stops := [], muts := [], acts := [] }),
  (30, { keeps := [], stops := [], muts := [], acts := [] }),
  (31, { keeps := [([0, 0, 1, 0, 1, 1, 1, 1, 1, 1], [0, 1, 5, 88, 89])], stops := [[0, 0, 1, 0, 1, 1, 1, 1, 1, 1]], muts := [], acts := [] }),
  (34, { keeps := [([0, 0, 1, 0, 1], [0, 7, 8, 9]), ([1, 1, 0, 0, 1, 1, 0, 0, 1, 0, 1], [0, 7, 8, 9, 34])], stops := [[0, 0, 1, 0, 1], [1, 1, 0, 0, 1, 1, 0, 0, 1, 0, 1]], muts := [], acts := [] }),
  (35, { keeps := [], stops := [], muts := [], acts := [] }),
  (36, { keeps := [], stops := [], muts := [], acts := [] }),
  (37, { keeps := [([1, 1, 1], [0, 2, 8, 9])], stops := [[1, 1, 1]], muts := [], acts := [] }),
  (39, { keeps := [([0, 0, 1, 0, 1, 1], [0, 5, 6])], stops := [[0, 0, 1, 0, 1, 1]], muts := [], acts := [] }),
  (38, { keeps := [([0, 0, 1, 0, 1, 1], [0, 1, 12, 13])], stops := [[0, 0, 1, 0, 1, 1]], muts := [], acts := [] }),
  (41, { keeps := [([0, 0, 1, 0, 1, 1, 1], [0, 1, 5, 6, 7]), ([1, 0, 1, 0, 0, 1, 0, 0, 1, 0, 1, 1, 1], [0, 1, 6, 7, 61])], stops := [[0, 0, 1, 0, 1, 1, 1], [1, 0, 1, 0, 0, 1, 0, 0, 1, 0, 1, 1, 1]], muts := [], acts := [] }),
  (42, { keeps := [([1, 1, 1, 1], [4]), ([1, 1, 1], [0, 4, 5])], stops := [[1, 1, 1, 1], [1, 1, 1]], muts := [], acts := [] }),
  (43, { keeps := [([0, 0, 1, 0, 1, 1], [0, 2, 7])], stops := [[0, 0, 1, 0, 1, 1]], muts := [], acts := [] }),
  (44, { keeps := [([1, 1, 1, 1, 1, 0, 0, 1], [14])], stops := [[1, 1, 1, 1, 1, 0, 0, 1]], muts := [], acts := [] }),
  (45, { keeps := [], stops := [], muts := [], acts := [] }),
  (46, { keeps := [], stops := [], muts := [], acts := [] }),
  (47, { keeps := [], stops := [], muts := [], acts := [] }),
  (50, { keeps := [], stops := [], muts := [], acts := [] }),
  (51, { keeps := [], stops := [], muts := [], acts := [] }),
  (52, { keeps := [], stops := [], muts := [], acts := [] }),
  (54, { keeps := [([0, 0, 1, 0, 1], [0, 1, 9, 10]), ([1, 1, 1, 1, 0, 0, 1, 1, 0, 0, 1, 0, 1], [0, 1, 9, 10, 40]), ([1, 1, 1, 0, 0, 1, 1, 0, 0, 1, 0, 1], [0, 1, 5, 6, 7, 9, 10])], stops := [[0, 0, 1, 0, 1], [1, 1, 1, 1, 0, 0, 1, 1, 0, 0, 1, 0, 1], [1, 1, 1, 0, 0, 1, 1, 0, 0, 1, 0, 1]], muts := [], acts := [] }),
  (55, { keeps := [([0, 0, 1, 0, 1], [0, 9])], stops := [[0, 0, 1, 0, 1]], muts := [], acts := [] }),
  (56, { keeps := [([0, 0, 0, 1, 1, 1], [0, 1, 2, 8, 9, 10])], stops := [[0, 0, 0, 1, 1, 1]], muts := [], acts := [] }),
  (57, { keeps := [], stops := [], muts := [], acts := [] }),
  (60, { keeps := [], stops := [], muts := [], acts := [] }),
  (61, { keeps := [([0, 0, 1, 0, 1], [0, 1, 2, 9, 10]), ([1, 1, 1, 1, 1, 0, 0, 1, 1, 0, 0, 1, 0, 1], [0, 1, 2, 9, 10, 69]), ([1, 1, 1, 0, 0, 1, 1, 0, 0, 1, 0, 1], [0, 1, 2, 7, 9, 10])], stops := [[0, 0, 1, 0, 1], [1, 1, 1, 1, 1, 0, 0, 1, 1, 0, 0, 1, 0, 1], [1, 1, 1, 0, 0, 1, 1, 0, 0, 1, 0, 1]], muts := [], acts := [] }),
  (62, { keeps := [([1, 0, 1], [0, 10])], stops := [[1, 0, 1]], muts := [], acts := [] }),
  (58, { keeps := [], stops := [], muts := [], acts := [] }),
  (64, { keeps := [], stops := [], muts := [], acts := [] }),
  (65, { keeps := [([0, 0, 1, 0, 1, 1], [0, 34, 35, 36]), ([1, 1, 0, 0, 1, 1, 0, 0, 1, 0, 1, 1], [0, 34, 35, 36, 69])], stops := [[0, 0, 1, 0, 1, 1], [1, 1, 0, 0, 1, 1, 0, 0, 1, 0, 1, 1]], muts := [], acts := [] }),
  (66, { keeps := [([1, 0, 1, 1, 1, 1, 1, 1, 1, 1, 1, 1], [0, 5, 8, 10, 57]), ([1, 0, 1, 1, 1, 1, 1, 1, 1, 1, 1, 1, 1, 1, 1], [0, 5, 8, 10, 11, 75]), ([1, 0, 1, 1, 1, 1, 1, 1, 1, 1, 1, 1, 1, 1, 1, 1, 1, 1], [5, 10, 11, 12, 98])], stops := [[1, 0, 1, 1, 1, 1, 1, 1, 1, 1, 1, 1], [1, 0, 1, 1, 1, 1, 1, 1, 1, 1, 1, 1, 1, 1, 1], [1, 0, 1, 1, 1, 1, 1, 1, 1, 1, 1, 1, 1, 1, 1, 1, 1, 1]], muts := [], acts := [] }),
  (63, { keeps := [], stops := [], muts := [], acts := [] }),
  (68, { keeps := [([0, 0, 1], [0, 2, 3])], stops := [[0, 0, 1]], muts := [], acts := [] }),
  (69, { keeps := [], stops := [], muts := [], acts := [] }),
  (70, { keeps := [], stops := [], muts := [], acts := [] }),
  (71, { keeps := [], stops := [], muts := [], acts := [] })]
noncomputable def ap : AProg := { fns := fns, tab := tab, eqs := [(55, [.i, .i, .i, .i, .i, .i, .i]), (81, [.s, .s]), (95, [.i, .i, .i])], notes := notes, globs := [(2, glob2), (1, glob1)], prims := [], bld := 99999, u8 := 5, draws := true }
end Go.Proofs.YtmpimgnfkalhkaaDoor
