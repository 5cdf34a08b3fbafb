/- The program as the value machine takes it: printed by gen.py out of Lean's print of the loaded program. -/
import Derived.Test.YtnjpbbiolngfkaaDoorProg
import Derived.Test.YtnjpbbiolngfkaaDoorStLim
import Derived.KernelRfl
import GoSem.PinnedTables
namespace Go.Proofs.YtnjpbbiolngfkaaDoor
open Go.St
def td1 : TD := ⟨.func, 1, 8, [.nilfn]⟩
def td2 : TD := ⟨(.int .i64), 1, 8, [.int .i64 0]⟩
def td3 : TD := ⟨(.int .i64), 1, 8, [.int .i64 0]⟩
def td4 : TD := ⟨.bool, 1, 1, [.bool false]⟩
def td5 : TD := ⟨(.int .u8), 1, 1, [.int .u8 0]⟩
def td6 : TD := ⟨(.int .u8), 1, 1, [.int .u8 0]⟩
def td7 : TD := ⟨(.struct [(0, 2), (1, 3), (2, 4), (3, 6)]), 4, 24, [.int .i64 0, .int .i64 0, .bool false, .int .u8 0]⟩
def td8 : TD := ⟨(.struct [(0, 2), (1, 3), (2, 4), (3, 6)]), 4, 24, [.int .i64 0, .int .i64 0, .bool false, .int .u8 0]⟩
def td9 : TD := ⟨.str, 1, 16, [.str ⟨#[]⟩]⟩
def td10 : TD := ⟨.str, 1, 16, [.str ⟨#[]⟩]⟩
def td11 : TD := ⟨.str, 1, 16, [.str ⟨#[]⟩]⟩
def td12 : TD := ⟨(.int .u64), 1, 8, [.int .u64 0]⟩
def td13 : TD := ⟨(.struct [(0, 9), (1, 12)]), 2, 24, [.str ⟨#[]⟩, .int .u64 0]⟩
def td14 : TD := ⟨(.struct [(0, 9), (1, 12)]), 2, 24, [.str ⟨#[]⟩, .int .u64 0]⟩
def td15 : TD := ⟨(.ptr 118), 1, 8, [.nilp]⟩
def td16 : TD := ⟨(.ptr 121), 1, 8, [.nilp]⟩
def td17 : TD := ⟨(.ptr 130), 1, 8, [.nilp]⟩
def td18 : TD := ⟨(.struct [(0, 17)]), 1, 8, [.nilp]⟩
def td19 : TD := ⟨(.struct [(0, 17)]), 1, 8, [.nilp]⟩
def td20 : TD := ⟨(.iface 0), 1, 16, [.nili]⟩
def td21 : TD := ⟨(.int .i32), 1, 4, [.int .i32 0]⟩
def td22 : TD := ⟨(.slice 41), 1, 24, [.nils]⟩
def td23 : TD := ⟨.func, 1, 8, [.nilfn]⟩
def td24 : TD := ⟨.func, 1, 8, [.nilfn]⟩
def td25 : TD := ⟨.func, 1, 8, [.nilfn]⟩
def td26 : TD := ⟨(.int .i64), 1, 8, [.int .i64 0]⟩
def td27 : TD := ⟨.func, 1, 8, [.nilfn]⟩
def td28 : TD := ⟨.func, 1, 8, [.nilfn]⟩
def td29 : TD := ⟨.func, 1, 8, [.nilfn]⟩
def td30 : TD := ⟨(.slice 3), 1, 24, [.nils]⟩
def td31 : TD := ⟨.func, 1, 8, [.nilfn]⟩
def td32 : TD := ⟨.func, 1, 8, [.nilfn]⟩
def td33 : TD := ⟨(.slice 35), 1, 24, [.nils]⟩
def td34 : TD := ⟨(.struct [(0, 3), (1, 3), (2, 9), (3, 33)]), 4, 56, [.int .i64 0, .int .i64 0, .str ⟨#[]⟩, .nils]⟩
def td35 : TD := ⟨(.struct [(0, 3), (1, 3), (2, 9), (3, 33)]), 4, 56, [.int .i64 0, .int .i64 0, .str ⟨#[]⟩, .nils]⟩
def td36 : TD := ⟨(.struct [(0, 9), (1, 9), (2, 4), (3, 35), (7, 3)]), 8, 104, [.str ⟨#[]⟩, .str ⟨#[]⟩, .bool false, .int .i64 0, .int .i64 0, .str ⟨#[]⟩, .nils, .int .i64 0]⟩
def td37 : TD := ⟨(.struct [(0, 9), (1, 9), (2, 4), (3, 35), (7, 3)]), 8, 104, [.str ⟨#[]⟩, .str ⟨#[]⟩, .bool false, .int .i64 0, .int .i64 0, .str ⟨#[]⟩, .nils, .int .i64 0]⟩
def td38 : TD := ⟨(.slice 37), 1, 24, [.nils]⟩
def td39 : TD := ⟨(.slice 44), 1, 24, [.nils]⟩
def td40 : TD := ⟨(.struct [(0, 3), (1, 9), (2, 38), (3, 39), (4, 33), (5, 22), (6, 22)]), 7, 144, [.int .i64 0, .str ⟨#[]⟩, .nils, .nils, .nils, .nils, .nils]⟩
def td41 : TD := ⟨(.struct [(0, 3), (1, 9), (2, 38), (3, 39), (4, 33), (5, 22), (6, 22)]), 7, 144, [.int .i64 0, .str ⟨#[]⟩, .nils, .nils, .nils, .nils, .nils]⟩
def td42 : TD := ⟨.func, 1, 8, [.nilfn]⟩
def td43 : TD := ⟨(.struct [(0, 9), (1, 4), (2, 35)]), 6, 80, [.str ⟨#[]⟩, .bool false, .int .i64 0, .int .i64 0, .str ⟨#[]⟩, .nils]⟩
def td44 : TD := ⟨(.struct [(0, 9), (1, 4), (2, 35)]), 6, 80, [.str ⟨#[]⟩, .bool false, .int .i64 0, .int .i64 0, .str ⟨#[]⟩, .nils]⟩
def td45 : TD := ⟨.func, 1, 8, [.nilfn]⟩
def td46 : TD := ⟨.func, 1, 8, [.nilfn]⟩
def td47 : TD := ⟨.func, 1, 8, [.nilfn]⟩
def td48 : TD := ⟨(.struct [(0, 3), (1, 3), (2, 3), (3, 26)]), 4, 32, [.int .i64 0, .int .i64 0, .int .i64 0, .int .i64 0]⟩
def td49 : TD := ⟨(.struct [(0, 3), (1, 3), (2, 3), (3, 26)]), 4, 32, [.int .i64 0, .int .i64 0, .int .i64 0, .int .i64 0]⟩
def td50 : TD := ⟨.func, 1, 8, [.nilfn]⟩
def td51 : TD := ⟨.func, 1, 8, [.nilfn]⟩
def td52 : TD := ⟨(.ptr 41), 1, 8, [.nilp]⟩
def td53 : TD := ⟨.func, 1, 8, [.nilfn]⟩
def td54 : TD := ⟨.func, 1, 8, [.nilfn]⟩
def td55 : TD := ⟨.func, 1, 8, [.nilfn]⟩
def td56 : TD := ⟨.func, 1, 8, [.nilfn]⟩
def td57 : TD := ⟨.func, 1, 8, [.nilfn]⟩
def td58 : TD := ⟨.func, 1, 8, [.nilfn]⟩
def td59 : TD := ⟨(.struct [(0, 3), (1, 3), (2, 3)]), 3, 24, [.int .i64 0, .int .i64 0, .int .i64 0]⟩
def td60 : TD := ⟨(.struct [(0, 3), (1, 3), (2, 3)]), 3, 24, [.int .i64 0, .int .i64 0, .int .i64 0]⟩
def td61 : TD := ⟨.func, 1, 8, [.nilfn]⟩
def td62 : TD := ⟨.func, 1, 8, [.nilfn]⟩
def td63 : TD := ⟨.func, 1, 8, [.nilfn]⟩
def td64 : TD := ⟨.func, 1, 8, [.nilfn]⟩
def td65 : TD := ⟨(.ptr 49), 1, 8, [.nilp]⟩
def td66 : TD := ⟨.func, 1, 8, [.nilfn]⟩
def td67 : TD := ⟨.func, 1, 8, [.nilfn]⟩
def td68 : TD := ⟨.func, 1, 8, [.nilfn]⟩
def td69 : TD := ⟨.func, 1, 8, [.nilfn]⟩
def td70 : TD := ⟨(.ptr 35), 1, 8, [.nilp]⟩
def td71 : TD := ⟨.func, 1, 8, [.nilfn]⟩
def td72 : TD := ⟨.func, 1, 8, [.nilfn]⟩
def td73 : TD := ⟨(.map 3 53), 1, 8, [.nilm]⟩
def td75 : TD := ⟨.func, 1, 8, [.nilfn]⟩
def td76 : TD := ⟨(.ptr 44), 1, 8, [.nilp]⟩
def td77 : TD := ⟨.func, 1, 8, [.nilfn]⟩
def td78 : TD := ⟨.func, 1, 8, [.nilfn]⟩
def td79 : TD := ⟨(.ptr 37), 1, 8, [.nilp]⟩
def td80 : TD := ⟨.func, 1, 8, [.nilfn]⟩
def td81 : TD := ⟨(.slice 9), 1, 24, [.nils]⟩
def td82 : TD := ⟨.func, 1, 8, [.nilfn]⟩
def td83 : TD := ⟨.func, 1, 8, [.nilfn]⟩
def td85 : TD := ⟨.func, 1, 8, [.nilfn]⟩
def td86 : TD := ⟨.func, 1, 8, [.nilfn]⟩
def td87 : TD := ⟨.func, 1, 8, [.nilfn]⟩
def td89 : TD := ⟨.func, 1, 8, [.nilfn]⟩
def td90 : TD := ⟨(.arr 256 5), 256, 256, [.int .u8 0, .int .u8 0, .int .u8 0, .int .u8 0, .int .u8 0, .int .u8 0, .int .u8 0, .int .u8 0, .int .u8 0, .int .u8 0, .int .u8 0, .int .u8 0, .int .u8 0, .int .u8 0, .int .u8 0, .int .u8 0, .int .u8 0, .int .u8 0, .int .u8 0, .int .u8 0, .int .u8 0, .int .u8 0, .int .u8 0, .int .u8 0, .int .u8 0, .int .u8 0, .int .u8 0, .int .u8 0, .int .u8 0, .int .u8 0, .int .u8 0, .int .u8 0, .int .u8 0, .int .u8 0, .int .u8 0, .int .u8 0, .int .u8 0, .int .u8 0, .int .u8 0, .int .u8 0, .int .u8 0, .int .u8 0, .int .u8 0, .int .u8 0, .int .u8 0, .int .u8 0, .int .u8 0, .int .u8 0, .int .u8 0, .int .u8 0, .int .u8 0, .int .u8 0, .int .u8 0, .int .u8 0, .int .u8 0, .int .u8 0, .int .u8 0, .int .u8 0, .int .u8 0, .int .u8 0, .int .u8 0, .int .u8 0, .int .u8 0, .int .u8 0, .int .u8 0, .int .u8 0, .int .u8 0, .int .u8 0, .int .u8 0, .int .u8 0, .int .u8 0, .int .u8 0, .int .u8 0, .int .u8 0, .int .u8 0, .int .u8 0, .int .u8 0, .int .u8 0, .int .u8 0, .int .u8 0, .int .u8 0, .int .u8 0, .int .u8 0, .int .u8 0, .int .u8 0, .int .u8 0, .int .u8 0, .int .u8 0, .int .u8 0, .int .u8 0, .int .u8 0, .int .u8 0, .int .u8 0, .int .u8 0, .int .u8 0, .int .u8 0, .int .u8 0, .int .u8 0, .int .u8 0, .int .u8 0, .int .u8 0, .int .u8 0, .int .u8 0, .int .u8 0, .int .u8 0, .int .u8 0, .int .u8 0, .int .u8 0, .int .u8 0, .int .u8 0, .int .u8 0, .int .u8 0, .int .u8 0, .int .u8 0, .int .u8 0, .int .u8 0, .int .u8 0, .int .u8 0, .int .u8 0, .int .u8 0, .int .u8 0, .int .u8 0, .int .u8 0, .int .u8 0, .int .u8 0, .int .u8 0, .int .u8 0, .int .u8 0, .int .u8 0, .int .u8 0, .int .u8 0, .int .u8 0, .int .u8 0, .int .u8 0, .int .u8 0, .int .u8 0, .int .u8 0, .int .u8 0, .int .u8 0, .int .u8 0, .int .u8 0, .int .u8 0, .int .u8 0, .int .u8 0, .int .u8 0, .int .u8 0, .int .u8 0, .int .u8 0, .int .u8 0, .int .u8 0, .int .u8 0, .int .u8 0, .int .u8 0, .int .u8 0, .int .u8 0, .int .u8 0, .int .u8 0, .int .u8 0, .int .u8 0, .int .u8 0, .int .u8 0, .int .u8 0, .int .u8 0, .int .u8 0, .int .u8 0, .int .u8 0, .int .u8 0, .int .u8 0, .int .u8 0, .int .u8 0, .int .u8 0, .int .u8 0, .int .u8 0, .int .u8 0, .int .u8 0, .int .u8 0, .int .u8 0, .int .u8 0, .int .u8 0, .int .u8 0, .int .u8 0, .int .u8 0, .int .u8 0, .int .u8 0, .int .u8 0, .int .u8 0, .int .u8 0, .int .u8 0, .int .u8 0, .int .u8 0, .int .u8 0, .int .u8 0, .int .u8 0, .int .u8 0, .int .u8 0, .int .u8 0, .int .u8 0, .int .u8 0, .int .u8 0, .int .u8 0, .int .u8 0, .int .u8 0, .int .u8 0, .int .u8 0, .int .u8 0, .int .u8 0, .int .u8 0, .int .u8 0, .int .u8 0, .int .u8 0, .int .u8 0, .int .u8 0, .int .u8 0, .int .u8 0, .int .u8 0, .int .u8 0, .int .u8 0, .int .u8 0, .int .u8 0, .int .u8 0, .int .u8 0, .int .u8 0, .int .u8 0, .int .u8 0, .int .u8 0, .int .u8 0, .int .u8 0, .int .u8 0, .int .u8 0, .int .u8 0, .int .u8 0, .int .u8 0, .int .u8 0, .int .u8 0, .int .u8 0, .int .u8 0, .int .u8 0, .int .u8 0, .int .u8 0, .int .u8 0, .int .u8 0, .int .u8 0, .int .u8 0, .int .u8 0, .int .u8 0, .int .u8 0, .int .u8 0, .int .u8 0, .int .u8 0, .int .u8 0, .int .u8 0, .int .u8 0, .int .u8 0, .int .u8 0, .int .u8 0, .int .u8 0]⟩
def td91 : TD := ⟨.func, 1, 8, [.nilfn]⟩
def td92 : TD := ⟨.func, 1, 8, [.nilfn]⟩
def td93 : TD := ⟨(.slice 95), 1, 24, [.nils]⟩
def td94 : TD := ⟨(.struct [(0, 3), (1, 3)]), 2, 16, [.int .i64 0, .int .i64 0]⟩
def td95 : TD := ⟨(.struct [(0, 3), (1, 3)]), 2, 16, [.int .i64 0, .int .i64 0]⟩
def td96 : TD := ⟨(.int .u32), 1, 4, [.int .u32 0]⟩
def td97 : TD := ⟨.func, 1, 8, [.nilfn]⟩
def td98 : TD := ⟨(.ptr 106), 1, 8, [.nilp]⟩
def td99 : TD := ⟨(.int .u64), 1, 8, [.int .u64 0]⟩
def td100 : TD := ⟨(.struct [(0, 5), (1, 5)]), 2, 2, [.int .u8 0, .int .u8 0]⟩
def td101 : TD := ⟨(.struct [(0, 5), (1, 5)]), 2, 2, [.int .u8 0, .int .u8 0]⟩
def td102 : TD := ⟨(.arr 16 101), 32, 32, [.int .u8 0, .int .u8 0, .int .u8 0, .int .u8 0, .int .u8 0, .int .u8 0, .int .u8 0, .int .u8 0, .int .u8 0, .int .u8 0, .int .u8 0, .int .u8 0, .int .u8 0, .int .u8 0, .int .u8 0, .int .u8 0, .int .u8 0, .int .u8 0, .int .u8 0, .int .u8 0, .int .u8 0, .int .u8 0, .int .u8 0, .int .u8 0, .int .u8 0, .int .u8 0, .int .u8 0, .int .u8 0, .int .u8 0, .int .u8 0, .int .u8 0, .int .u8 0]⟩
def td103 : TD := ⟨(.slice 109), 1, 24, [.nils]⟩
def td104 : TD := ⟨(.slice 112), 1, 24, [.nils]⟩
def td105 : TD := ⟨(.struct [(0, 103), (1, 104), (2, 3)]), 3, 56, [.nils, .nils, .int .i64 0]⟩
def td106 : TD := ⟨(.struct [(0, 103), (1, 104), (2, 3)]), 3, 56, [.nils, .nils, .int .i64 0]⟩
def td107 : TD := ⟨(.int .u16), 1, 2, [.int .u16 0]⟩
def td108 : TD := ⟨(.struct [(0, 107), (1, 107), (2, 107)]), 3, 6, [.int .u16 0, .int .u16 0, .int .u16 0]⟩
def td109 : TD := ⟨(.struct [(0, 107), (1, 107), (2, 107)]), 3, 6, [.int .u16 0, .int .u16 0, .int .u16 0]⟩
def td110 : TD := ⟨.func, 1, 8, [.nilfn]⟩
def td111 : TD := ⟨(.struct [(0, 96), (1, 96), (2, 96)]), 3, 12, [.int .u32 0, .int .u32 0, .int .u32 0]⟩
def td112 : TD := ⟨(.struct [(0, 96), (1, 96), (2, 96)]), 3, 12, [.int .u32 0, .int .u32 0, .int .u32 0]⟩
def td113 : TD := ⟨.func, 1, 8, [.nilfn]⟩
def td114 : TD := ⟨(.ptr 109), 1, 8, [.nilp]⟩
def td115 : TD := ⟨(.ptr 112), 1, 8, [.nilp]⟩
def td116 : TD := ⟨.func, 1, 8, [.nilfn]⟩
def td117 : TD := ⟨(.struct [(0, 17), (1, 17), (2, 17), (3, 9)]), 4, 40, [.nilp, .nilp, .nilp, .str ⟨#[]⟩]⟩
def td118 : TD := ⟨(.struct [(0, 17), (1, 17), (2, 17), (3, 9)]), 4, 40, [.nilp, .nilp, .nilp, .str ⟨#[]⟩]⟩
def td119 : TD := ⟨(.arr 0 16), 0, 0, []⟩
def td120 : TD := ⟨(.struct [(0, 119)]), 0, 0, []⟩
def td121 : TD := ⟨(.struct [(0, 119)]), 0, 0, []⟩
def td122 : TD := ⟨.func, 1, 8, [.nilfn]⟩
def td123 : TD := ⟨(.int .u8), 1, 1, [.int .u8 0]⟩
def td124 : TD := ⟨(.int .u8), 1, 1, [.int .u8 0]⟩
def td125 : TD := ⟨.func, 1, 8, [.nilfn]⟩
def td126 : TD := ⟨(.ptr 5), 1, 8, [.nilp]⟩
def td127 : TD := ⟨(.int .i32), 1, 4, [.int .i32 0]⟩
def td128 : TD := ⟨(.int .i32), 1, 4, [.int .i32 0]⟩
def td129 : TD := ⟨(.struct [(0, 12), (1, 12), (2, 96), (3, 123), (4, 5), (5, 5), (6, 124), (7, 125), (8, 126), (9, 127), (10, 128)]), 11, 48, [.int .u64 0, .int .u64 0, .int .u32 0, .int .u8 0, .int .u8 0, .int .u8 0, .int .u8 0, .nilfn, .nilp, .int .i32 0, .int .i32 0]⟩
def td130 : TD := ⟨(.struct [(0, 12), (1, 12), (2, 96), (3, 123), (4, 5), (5, 5), (6, 124), (7, 125), (8, 126), (9, 127), (10, 128)]), 11, 48, [.int .u64 0, .int .u64 0, .int .u32 0, .int .u8 0, .int .u8 0, .int .u8 0, .int .u8 0, .nilfn, .nilp, .int .i32 0, .int .i32 0]⟩
def td131 : TD := ⟨.unsafeP, 1, 8, [.nilp]⟩
def glob3 : List AV := [.int .u8 128, .int .u8 191, .int .u8 160, .int .u8 191, .int .u8 128, .int .u8 159, .int .u8 144, .int .u8 191, .int .u8 128, .int .u8 143, .int .u8 0, .int .u8 0, .int .u8 0, .int .u8 0, .int .u8 0, .int .u8 0, .int .u8 0, .int .u8 0, .int .u8 0, .int .u8 0, .int .u8 0, .int .u8 0, .int .u8 0, .int .u8 0, .int .u8 0, .int .u8 0, .int .u8 0, .int .u8 0, .int .u8 0, .int .u8 0, .int .u8 0, .int .u8 0]
def glob1 : List AV := [.ip [.is [.int .u16 9, .int .u16 13, .int .u16 1, .int .u16 32, .int .u16 133, .int .u16 101, .int .u16 160, .int .u16 5760, .int .u16 5600, .int .u16 8192, .int .u16 8202, .int .u16 1, .int .u16 8232, .int .u16 8233, .int .u16 1, .int .u16 8239, .int .u16 8287, .int .u16 48, .int .u16 12288, .int .u16 12288, .int .u16 1] 7 .no, .nils, .int .i64 2]]
def glob0 : List AV := [.int .u8 0, .int .u8 0, .int .u8 0, .int .u8 0, .int .u8 0, .int .u8 0, .int .u8 0, .int .u8 0, .int .u8 0, .int .u8 1, .int .u8 1, .int .u8 1, .int .u8 1, .int .u8 1, .int .u8 0, .int .u8 0, .int .u8 0, .int .u8 0, .int .u8 0, .int .u8 0, .int .u8 0, .int .u8 0, .int .u8 0, .int .u8 0, .int .u8 0, .int .u8 0, .int .u8 0, .int .u8 0, .int .u8 0, .int .u8 0, .int .u8 0, .int .u8 0, .int .u8 1, .int .u8 0, .int .u8 0, .int .u8 0, .int .u8 0, .int .u8 0, .int .u8 0, .int .u8 0, .int .u8 0, .int .u8 0, .int .u8 0, .int .u8 0, .int .u8 0, .int .u8 0, .int .u8 0, .int .u8 0, .int .u8 0, .int .u8 0, .int .u8 0, .int .u8 0, .int .u8 0, .int .u8 0, .int .u8 0, .int .u8 0, .int .u8 0, .int .u8 0, .int .u8 0, .int .u8 0, .int .u8 0, .int .u8 0, .int .u8 0, .int .u8 0, .int .u8 0, .int .u8 0, .int .u8 0, .int .u8 0, .int .u8 0, .int .u8 0, .int .u8 0, .int .u8 0, .int .u8 0, .int .u8 0, .int .u8 0, .int .u8 0, .int .u8 0, .int .u8 0, .int .u8 0, .int .u8 0, .int .u8 0, .int .u8 0, .int .u8 0, .int .u8 0, .int .u8 0, .int .u8 0, .int .u8 0, .int .u8 0, .int .u8 0, .int .u8 0, .int .u8 0, .int .u8 0, .int .u8 0, .int .u8 0, .int .u8 0, .int .u8 0, .int .u8 0, .int .u8 0, .int .u8 0, .int .u8 0, .int .u8 0, .int .u8 0, .int .u8 0, .int .u8 0, .int .u8 0, .int .u8 0, .int .u8 0, .int .u8 0, .int .u8 0, .int .u8 0, .int .u8 0, .int .u8 0, .int .u8 0, .int .u8 0, .int .u8 0, .int .u8 0, .int .u8 0, .int .u8 0, .int .u8 0, .int .u8 0, .int .u8 0, .int .u8 0, .int .u8 0, .int .u8 0, .int .u8 0, .int .u8 0, .int .u8 0, .int .u8 0, .int .u8 0, .int .u8 0, .int .u8 0, .int .u8 0, .int .u8 0, .int .u8 0, .int .u8 0, .int .u8 0, .int .u8 0, .int .u8 0, .int .u8 0, .int .u8 0, .int .u8 0, .int .u8 0, .int .u8 0, .int .u8 0, .int .u8 0, .int .u8 0, .int .u8 0, .int .u8 0, .int .u8 0, .int .u8 0, .int .u8 0, .int .u8 0, .int .u8 0, .int .u8 0, .int .u8 0, .int .u8 0, .int .u8 0, .int .u8 0, .int .u8 0, .int .u8 0, .int .u8 0, .int .u8 0, .int .u8 0, .int .u8 0, .int .u8 0, .int .u8 0, .int .u8 0, .int .u8 0, .int .u8 0, .int .u8 0, .int .u8 0, .int .u8 0, .int .u8 0, .int .u8 0, .int .u8 0, .int .u8 0, .int .u8 0, .int .u8 0, .int .u8 0, .int .u8 0, .int .u8 0, .int .u8 0, .int .u8 0, .int .u8 0, .int .u8 0, .int .u8 0, .int .u8 0, .int .u8 0, .int .u8 0, .int .u8 0, .int .u8 0, .int .u8 0, .int .u8 0, .int .u8 0, .int .u8 0, .int .u8 0, .int .u8 0, .int .u8 0, .int .u8 0, .int .u8 0, .int .u8 0, .int .u8 0, .int .u8 0, .int .u8 0, .int .u8 0, .int .u8 0, .int .u8 0, .int .u8 0, .int .u8 0, .int .u8 0, .int .u8 0, .int .u8 0, .int .u8 0, .int .u8 0, .int .u8 0, .int .u8 0, .int .u8 0, .int .u8 0, .int .u8 0, .int .u8 0, .int .u8 0, .int .u8 0, .int .u8 0, .int .u8 0, .int .u8 0, .int .u8 0, .int .u8 0, .int .u8 0, .int .u8 0, .int .u8 0, .int .u8 0, .int .u8 0, .int .u8 0, .int .u8 0, .int .u8 0, .int .u8 0, .int .u8 0, .int .u8 0, .int .u8 0, .int .u8 0, .int .u8 0, .int .u8 0, .int .u8 0, .int .u8 0, .int .u8 0, .int .u8 0, .int .u8 0, .int .u8 0, .int .u8 0, .int .u8 0, .int .u8 0, .int .u8 0, .int .u8 0, .int .u8 0, .int .u8 0, .int .u8 0]
def glob2 : List AV := Go.Pinned.utf8FirstZ.map fun (n : Nat) => AV.int .u8 (n : Int)
noncomputable def tab : List (TypeId × TD) := [(1, td1), (2, td2), (3, td3), (4, td4), (5, td5), (6, td6), (7, td7), (8, td8), (9, td9), (10, td10), (11, td11), (12, td12), (13, td13), (14, td14), (15, td15), (16, td16), (17, td17), (18, td18), (19, td19), (20, td20), (21, td21), (22, td22), (23, td23), (24, td24), (25, td25), (26, td26), (27, td27), (28, td28), (29, td29), (30, td30), (31, td31), (32, td32), (33, td33), (34, td34), (35, td35), (36, td36), (37, td37), (38, td38), (39, td39), (40, td40), (41, td41), (42, td42), (43, td43), (44, td44), (45, td45), (46, td46), (47, td47), (48, td48), (49, td49), (50, td50), (51, td51), (52, td52), (53, td53), (54, td54), (55, td55), (56, td56), (57, td57), (58, td58), (59, td59), (60, td60), (61, td61), (62, td62), (63, td63), (64, td64), (65, td65), (66, td66), (67, td67), (68, td68), (69, td69), (70, td70), (71, td71), (72, td72), (73, td73), (75, td75), (76, td76), (77, td77), (78, td78), (79, td79), (80, td80), (81, td81), (82, td82), (83, td83), (85, td85), (86, td86), (87, td87), (89, td89), (90, td90), (91, td91), (92, td92), (93, td93), (94, td94), (95, td95), (96, td96), (97, td97), (98, td98), (99, td99), (100, td100), (101, td101), (102, td102), (103, td103), (104, td104), (105, td105), (106, td106), (107, td107), (108, td108), (109, td109), (110, td110), (111, td111), (112, td112), (113, td113), (114, td114), (115, td115), (116, td116), (117, td117), (118, td118), (119, td119), (120, td120), (121, td121), (122, td122), (123, td123), (124, td124), (125, td125), (126, td126), (127, td127), (128, td128), (129, td129), (130, td130), (131, td131)]
noncomputable def fns : List (FuncId × Func) := [(3, Tryd.f3), (4, Tryd.f4), (6, Tryd.f6), (7, Tryd.f7), (9, Tryd.f9), (12, Tryd.f12), (15, Tryd.f15), (20, Tryd.f20), (21, Tryd.f21), (22, Tryd.f22), (25, Tryd.f25), (26, Tryd.f26), (27, Tryd.f27), (5, Tryd.f5), (8, Tryd.f8), (10, Tryd.f10), (11, Tryd.f11), (13, Tryd.f13), (14, Tryd.f14), (16, Tryd.f16), (17, Tryd.f17), (19, Tryd.f19), (23, Tryd.f23), (18, Tryd.f18), (24, Tryd.f24), (28, Tryd.f28), (29, Tryd.f29), (30, Tryd.f30), (31, Tryd.f31), (32, Tryd.f32), (33, Tryd.f33), (34, Tryd.f34), (36, Tryd.f36), (37, Tryd.f37), (38, Tryd.f38), (39, Tryd.f39), (40, Tryd.f40), (41, Tryd.f41), (35, Tryd.f35), (42, Tryd.f42), (43, Tryd.f43), (44, Tryd.f44), (45, Tryd.f45), (51, Tryd.f51), (52, Tryd.f52), (46, Tryd.f46), (47, Tryd.f47), (48, Tryd.f48), (49, Tryd.f49), (50, Tryd.f50), (54, Tryd.f54), (53, Tryd.f53), (57, Tryd.f57), (55, Tryd.f55), (56, Tryd.f56), (58, Tryd.f58), (59, Tryd.f59), (60, Tryd.f60)]
noncomputable def notes : List (FuncId × Note) := [
  (3, { keeps := [([1, 0, 1, 1], [0, 1, 25]), ([1, 0, 1, 1, 1, 1, 1], [0, 1, 5, 6, 7, 8, 49]), ([0, 0, 1, 0, 1, 1, 1, 1, 1, 1, 1, 1, 1], [0, 1, 5, 9, 10, 11, 12]), ([1, 0, 1, 1, 1, 1, 1, 1, 1, 1, 1, 1], [5, 10, 107]), ([0, 0, 1, 0, 1, 1, 1, 1, 1, 1, 1, 1, 1, 1, 1, 1, 1, 1], [5, 10, 13, 15])], stops := [[1, 0, 1, 1], [1, 0, 1, 1, 1, 1, 1], [0, 0, 1, 0, 1, 1, 1, 1, 1, 1, 1, 1, 1], [1, 0, 1, 1, 1, 1, 1, 1, 1, 1, 1, 1], [0, 0, 1, 0, 1, 1, 1, 1, 1, 1, 1, 1, 1, 1, 1, 1, 1, 1]], muts := [], acts := [] }),
  (4, { keeps := [([0, 0, 1, 0, 1, 1, 1, 1], [0, 5, 6, 7]), ([1, 0, 1, 1, 1, 1, 1, 1, 1], [5, 6, 8, 42])], stops := [[0, 0, 1, 0, 1, 1, 1, 1], [1, 0, 1, 1, 1, 1, 1, 1, 1]], muts := [], acts := [] }),
  (6, { keeps := [], stops := [], muts := [], acts := [] }),
  (7, { keeps := [([0, 0, 1, 0, 1, 1], [0, 3, 4])], stops := [[0, 0, 1, 0, 1, 1]], muts := [], acts := [] }),
  (9, { keeps := [], stops := [], muts := [], acts := [] }),
  (12, { keeps := [([0, 0, 1, 0, 1, 1], [0, 1, 5])], stops := [[0, 0, 1, 0, 1, 1]], muts := [], acts := [] }),
  (15, { keeps := [], stops := [], muts := [], acts := [] }),
  (20, { keeps := [([0, 0, 1, 0, 1, 1], [0, 3, 4])], stops := [[0, 0, 1, 0, 1, 1]], muts := [], acts := [] }),
  (21, { keeps := [([0, 0, 1, 0, 1, 1], [0, 3, 4])], stops := [[0, 0, 1, 0, 1, 1]], muts := [], acts := [] }),
  (22, { keeps := [([0, 0, 1, 0, 1, 1], [0, 3, 4])], stops := [[0, 0, 1, 0, 1, 1]], muts := [], acts := [] }),
  (25, { keeps := [], stops := [], muts := [], acts := [] }),
  (26, { keeps := [], stops := [], muts := [], acts := [] }),
  (27, { keeps := [], stops := [], muts := [], acts := [] }),
  (5, { keeps := [], stops := [], muts := [], acts := [] }),
  (8, { keeps := [], stops := [], muts := [], acts := [] }),
  (10, { keeps := [], stops := [], muts := [], acts := [] }),
  (11, { keeps := [], stops := [], muts := [], acts := [] }),
  (13, { keeps := [], stops := [], muts := [], acts := [] }),
  (14, { keeps := [([0, 0, 1, 0, 1, 1], [0, 1, 5]), ([1, 0, 0, 1, 0, 0, 1, 0, 1, 1], [0, 1, 5, 55])], stops := [[0, 0, 1, 0, 1, 1], [1, 0, 0, 1, 0, 0, 1, 0, 1, 1]], muts := [], acts := [] }),
  (16, { keeps := [], stops := [], muts := [], acts := [] }),
  (17, { keeps := [([0, 0, 1], [0, 1, 2, 3, 4, 11, 12]), ([1, 1, 1, 1, 1, 1, 0, 0, 1, 1, 0, 0, 1], [0, 1, 2, 3, 4, 8, 9, 11, 12]), ([1, 1, 1, 1, 1, 0, 0, 1, 1, 0, 0, 1], [0, 1, 2, 3, 4, 8, 9, 11, 12]), ([1, 1, 1, 1, 0, 0, 1, 1, 0, 0, 1], [0, 1, 2, 3, 4, 8, 9, 11, 12]), ([1, 1, 1, 0, 0, 1], [0, 1, 2, 3, 4, 11, 12])], stops := [[0, 0, 1], [1, 1, 1, 1, 1, 1, 0, 0, 1, 1, 0, 0, 1], [1, 1, 1, 1, 1, 0, 0, 1, 1, 0, 0, 1], [1, 1, 1, 1, 0, 0, 1, 1, 0, 0, 1], [1, 1, 1, 0, 0, 1]], muts := [], acts := [(8, 9), (9, 9)] }),
  (19, { keeps := [([0, 0, 1, 0, 1], [0, 1, 2, 7]), ([0, 0, 1, 0, 1, 1], [1, 2, 8]), ([0, 0, 1, 0, 1, 1, 1], [2, 9])], stops := [[0, 0, 1, 0, 1], [0, 0, 1, 0, 1, 1], [0, 0, 1, 0, 1, 1, 1]], muts := [], acts := [] }),
  (23, { keeps := [([0, 0, 1, 0, 1], [0, 1, 5, 11, 12]), ([1, 1, 1, 0, 0, 1, 1, 1, 1, 1, 0, 0, 1, 1, 0, 0, 1, 0, 1], [0, 1, 5, 8, 9, 11, 12, 46]), ([1, 1, 1, 1, 1, 1, 1, 1, 0, 0, 1, 1, 0, 0, 1, 0, 1], [0, 1, 5, 11, 12, 122]), ([1, 1, 1, 1, 1, 1, 0, 0, 1, 1, 0, 0, 1, 0, 1], [0, 1, 5, 8, 9, 11, 12])], stops := [[0, 0, 1, 0, 1], [1, 1, 1, 0, 0, 1, 1, 1, 1, 1, 0, 0, 1, 1, 0, 0, 1, 0, 1], [1, 1, 1, 1, 1, 1, 1, 1, 0, 0, 1, 1, 0, 0, 1, 0, 1], [1, 1, 1, 1, 1, 1, 0, 0, 1, 1, 0, 0, 1, 0, 1]], muts := [], acts := [(19, 12), (19, 22)] }),
  (18, { keeps := [([0, 0, 1, 0, 0, 1, 0, 1, 0, 1], [0, 16, 17]), ([0, 0, 1, 0, 0, 1, 1, 1, 0, 1, 0, 1], [0, 35, 36]), ([0, 0, 1, 0, 1, 0, 1, 1, 1, 0, 1, 0, 1], [0, 52, 53])], stops := [[0, 0, 1, 0, 0, 1, 0, 1, 0, 1], [0, 0, 1, 0, 0, 1, 1, 1, 0, 1, 0, 1], [0, 0, 1, 0, 1, 0, 1, 1, 1, 0, 1, 0, 1]], muts := [], acts := [] }),
  (24, { keeps := [([0, 0, 1, 0, 1, 1], [1, 2, 5])], stops := [[0, 0, 1, 0, 1, 1]], muts := [], acts := [] }),
  (28, { keeps := [([1, 1], [2, 4])], stops := [[1, 1]], muts := [], acts := [] }),
  (29, { keeps := [([0, 0, 1, 0, 1, 1, 1], [0, 5, 6, 33, 34]), ([1, 1, 1, 0, 0, 1, 0, 1, 1, 1], [0, 5, 6, 33, 34]), ([0, 0, 1, 0, 1, 1, 1, 1], [0, 5, 6, 59, 60]), ([1, 1, 1, 0, 0, 1, 0, 1, 1, 1, 1], [0, 5, 6, 59, 60]), ([0, 0, 1, 0, 1, 1, 1, 1, 1], [0, 5, 6, 85, 86])], stops := [[0, 0, 1, 0, 1, 1, 1], [1, 1, 1, 0, 0, 1, 0, 1, 1, 1], [0, 0, 1, 0, 1, 1, 1, 1], [1, 1, 1, 0, 0, 1, 0, 1, 1, 1, 1], [0, 0, 1, 0, 1, 1, 1, 1, 1]], muts := [], acts := [] }),
  (30, { keeps := [([1, 0, 1], [0, 55])], stops := [[1, 0, 1]], muts := [], acts := [] }),
  (31, { keeps := [([0, 0, 1, 0, 1], [0, 1, 2, 15, 16]), ([1, 1, 0, 0, 1, 1, 0, 0, 1, 0, 1], [0, 1, 2, 15, 16, 39]), ([0, 0, 1, 0, 1, 1], [0, 1, 2, 45, 46]), ([1, 1, 0, 0, 1, 1, 0, 0, 1, 0, 1, 1], [0, 1, 2, 45, 46, 69]), ([0, 0, 1, 0, 1, 1, 1], [0, 1, 2, 75, 76]), ([1, 0, 1, 1, 0, 0, 1, 1, 0, 0, 1, 0, 1, 1, 1], [0, 1, 2, 9, 10, 75, 76, 87]), ([1, 1, 1, 0, 0, 1, 1, 0, 0, 1, 0, 1, 1, 1], [0, 1, 2, 9, 10, 75, 76])], stops := [[0, 0, 1, 0, 1], [1, 1, 0, 0, 1, 1, 0, 0, 1, 0, 1], [0, 0, 1, 0, 1, 1], [1, 1, 0, 0, 1, 1, 0, 0, 1, 0, 1, 1], [0, 0, 1, 0, 1, 1, 1], [1, 0, 1, 1, 0, 0, 1, 1, 0, 0, 1, 0, 1, 1, 1], [1, 1, 1, 0, 0, 1, 1, 0, 0, 1, 0, 1, 1, 1]], muts := [], acts := [] }),
  (32, { keeps := [], stops := [], muts := [], acts := [] }),
  (33, { keeps := [([1, 0, 1], [0, 1, 25]), ([0, 0, 1, 0, 1, 1], [0, 1, 30, 31])], stops := [[1, 0, 1], [0, 0, 1, 0, 1, 1]], muts := [], acts := [] }),
  (34, { keeps := [], stops := [], muts := [], acts := [] }),
  (36, { keeps := [([0, 0, 1, 0, 1], [0, 9, 10]), ([1, 1, 1, 0, 0, 1, 1, 0, 0, 1, 0, 1], [0, 9, 10, 74])], stops := [[0, 0, 1, 0, 1], [1, 1, 1, 0, 0, 1, 1, 0, 0, 1, 0, 1]], muts := [], acts := [] }),
  (37, { keeps := [([0, 0, 1, 0, 1], [0, 9, 10]), ([1, 1, 1, 0, 0, 1, 1, 0, 0, 1, 0, 1], [0, 9, 10, 86])], stops := [[0, 0, 1, 0, 1], [1, 1, 1, 0, 0, 1, 1, 0, 0, 1, 0, 1]], muts := [], acts := [] }),
  (38, { keeps := [], stops := [], muts := [], acts := [] }),
  (39, { keeps := [], stops := [], muts := [], acts := [] }),
  (40, { keeps := [], stops := [], muts := [], acts := [] }),
  (41, { keeps := [], stops := [], muts := [], acts := [] }),
  (35, { keeps := [([0, 0, 1, 0, 1, 1], [0, 1, 2, 14, 15]), ([1, 1, 1], [1])], stops := [[0, 0, 1, 0, 1, 1], [1, 1, 1]], muts := [], acts := [] }),
  (42, { keeps := [], stops := [], muts := [], acts := [] }),
  (43, { keeps := [], stops := [], muts := [], acts := [] }),
  (44, { keeps := [], stops := [], muts := [], acts := [] }),
  (45, { keeps := [([1, 0, 1, 1], [0, 3, 4, 26]), ([0, 0, 1, 0, 1, 1, 1, 1, 1], [0, 4, 7, 150, 151]), ([1, 1, 1, 0, 0, 1, 0, 1, 1, 1, 1, 1], [0, 4, 7, 150, 151]), ([1, 1, 1, 1, 1], [0, 4, 7]), ([1, 1, 1, 1], [0, 3, 4, 7])], stops := [[1, 0, 1, 1], [0, 0, 1, 0, 1, 1, 1, 1, 1], [1, 1, 1, 0, 0, 1, 0, 1, 1, 1, 1, 1], [1, 1, 1, 1, 1], [1, 1, 1, 1]], muts := [], acts := [(21, 9)] }),
  (51, { keeps := [([0, 0, 1, 0, 1], [0, 9])], stops := [[0, 0, 1, 0, 1]], muts := [], acts := [] }),
  (52, { keeps := [([0, 0, 1, 0, 1], [0, 1, 9, 10]), ([1, 1, 1, 1, 0, 0, 1, 1, 0, 0, 1, 0, 1], [0, 1, 9, 10, 40]), ([1, 1, 1, 0, 0, 1, 1, 0, 0, 1, 0, 1], [0, 1, 5, 6, 7, 9, 10])], stops := [[0, 0, 1, 0, 1], [1, 1, 1, 1, 0, 0, 1, 1, 0, 0, 1, 0, 1], [1, 1, 1, 0, 0, 1, 1, 0, 0, 1, 0, 1]], muts := [], acts := [] }),
  (46, { keeps := [([1, 1, 1, 1, 1, 1, 1, 0, 0, 1], [28]), ([1, 1, 1, 0, 0, 1], [0, 10]), ([1, 0, 0, 1], [0, 3])], stops := [[1, 1, 1, 1, 1, 1, 1, 0, 0, 1], [1, 1, 1, 0, 0, 1], [1, 0, 0, 1]], muts := [], acts := [] }),
  (47, { keeps := [], stops := [], muts := [], acts := [] }),
  (48, { keeps := [([0, 0, 1, 0, 1], [0, 6]), ([1, 1, 0, 1, 1, 0, 0, 1, 0, 1], [0, 6, 15])], stops := [[0, 0, 1, 0, 1], [1, 1, 0, 1, 1, 0, 0, 1, 0, 1]], muts := [], acts := [] }),
  (49, { keeps := [], stops := [], muts := [], acts := [] }),
  (50, { keeps := [], stops := [], muts := [], acts := [] }),
  (54, { keeps := [([1, 0, 1], [0, 10])], stops := [[1, 0, 1]], muts := [], acts := [] }),
  (57, { keeps := [([1, 0, 1, 1, 1, 1, 1, 1, 1, 1, 1, 1], [0, 5, 8, 10, 57]), ([1, 0, 1, 1, 1, 1, 1, 1, 1, 1, 1, 1, 1, 1, 1], [0, 5, 8, 10, 11, 75]), ([1, 0, 1, 1, 1, 1, 1, 1, 1, 1, 1, 1, 1, 1, 1, 1, 1, 1], [5, 10, 11, 12, 98])], stops := [[1, 0, 1, 1, 1, 1, 1, 1, 1, 1, 1, 1], [1, 0, 1, 1, 1, 1, 1, 1, 1, 1, 1, 1, 1, 1, 1], [1, 0, 1, 1, 1, 1, 1, 1, 1, 1, 1, 1, 1, 1, 1, 1, 1, 1]], muts := [], acts := [] }),
  (56, { keeps := [([1, 0, 1, 0, 0, 1, 0, 1], [7])], stops := [[1, 0, 1, 0, 0, 1, 0, 1]], muts := [], acts := [] }),
  (58, { keeps := [([1, 1, 0, 1, 1], [0, 1, 5, 6, 32]), ([1, 0, 1, 1, 1, 1], [1, 7, 54])], stops := [[1, 1, 0, 1, 1], [1, 0, 1, 1, 1, 1]], muts := [], acts := [] }),
  (59, { keeps := [([0, 0, 1, 0, 0, 1, 0, 1], [0, 1, 19, 20]), ([1, 0, 1], [0, 1, 17]), ([0, 0, 0, 1, 1, 1, 1], [0, 1, 7, 8]), ([1, 0, 1, 1, 0, 1, 0, 0, 0, 1, 1, 1, 1], [0, 1, 7, 8, 9, 10, 85])], stops := [[0, 0, 1, 0, 0, 1, 0, 1], [1, 0, 1], [0, 0, 0, 1, 1, 1, 1], [1, 0, 1, 1, 0, 1, 0, 0, 0, 1, 1, 1, 1]], muts := [], acts := [] }),
  (60, { keeps := [([0, 0, 1, 0, 0, 1, 0, 1], [0, 1, 15, 16]), ([0, 0, 0, 1, 1, 1, 1], [0, 1, 7, 8]), ([1, 0, 1, 1, 0, 1, 0, 0, 0, 1, 1, 1, 1], [0, 1, 7, 8, 9, 10, 78])], stops := [[0, 0, 1, 0, 0, 1, 0, 1], [0, 0, 0, 1, 1, 1, 1], [1, 0, 1, 1, 0, 1, 0, 0, 0, 1, 1, 1, 1]], muts := [], acts := [] })]
noncomputable def ap : AProg := { fns := fns, tab := tab, eqs := [(49, [.i, .i, .i, .i]), (60, [.i, .i, .i])], notes := notes, globs := [(3, glob3), (1, glob1), (0, glob0), (2, glob2)], prims := [], bld := 99999, u8 := 5, draws := true, tips := [7, 20, 21, 22], raws := [17, 23, 34, 45] }
end Go.Proofs.YtnjpbbiolngfkaaDoor
