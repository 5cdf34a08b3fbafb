/- The program as the value machine takes it: printed by gen.py out of Lean's print of the loaded program. -/
import Derived.Test.YtjcpcglhjeoifaaDoorProg
import Derived.Test.YtjcpcglhjeoifaaDoorStLim
import Derived.KernelRfl
import GoSem.PinnedTables
namespace Go.Proofs.YtjcpcglhjeoifaaDoor
open Go.St
def td1 : TD := ⟨.func, 1, 8, [.nilfn]⟩
def td2 : TD := ⟨(.int .i64), 1, 8, [.int .i64 0]⟩
def td3 : TD := ⟨(.int .i64), 1, 8, [.int .i64 0]⟩
def td4 : TD := ⟨.bool, 1, 1, [.bool false]⟩
def td5 : TD := ⟨(.int .u8), 1, 1, [.int .u8 0]⟩
def td6 : TD := ⟨(.int .u8), 1, 1, [.int .u8 0]⟩
def td7 : TD := ⟨(.struct [(0, 2), (1, 3), (2, 4), (3, 6)]), 4, 24, [.int .i64 0, .int .i64 0, .bool false, .int .u8 0]⟩
def td8 : TD := ⟨(.struct [(0, 2), (1, 3), (2, 4), (3, 6)]), 4, 24, [.int .i64 0, .int .i64 0, .bool false, .int .u8 0]⟩
def td9 : TD := ⟨.str, 1, 16, [.str ⟨#[]⟩]⟩
def td10 : TD := ⟨.str, 1, 16, [.str ⟨#[]⟩]⟩
def td11 : TD := ⟨.str, 1, 16, [.str ⟨#[]⟩]⟩
def td12 : TD := ⟨(.int .u64), 1, 8, [.int .u64 0]⟩
def td13 : TD := ⟨(.struct [(0, 9), (1, 12)]), 2, 24, [.str ⟨#[]⟩, .int .u64 0]⟩
def td14 : TD := ⟨(.struct [(0, 9), (1, 12)]), 2, 24, [.str ⟨#[]⟩, .int .u64 0]⟩
def td15 : TD := ⟨(.ptr 93), 1, 8, [.nilp]⟩
def td16 : TD := ⟨(.ptr 96), 1, 8, [.nilp]⟩
def td17 : TD := ⟨(.ptr 105), 1, 8, [.nilp]⟩
def td18 : TD := ⟨(.struct [(0, 17)]), 1, 8, [.nilp]⟩
def td19 : TD := ⟨(.struct [(0, 17)]), 1, 8, [.nilp]⟩
def td20 : TD := ⟨(.iface 0), 1, 16, [.nili]⟩
def td21 : TD := ⟨(.int .i32), 1, 4, [.int .i32 0]⟩
def td22 : TD := ⟨(.slice 37), 1, 24, [.nils]⟩
def td23 : TD := ⟨.func, 1, 8, [.nilfn]⟩
def td24 : TD := ⟨.func, 1, 8, [.nilfn]⟩
def td25 : TD := ⟨(.int .i64), 1, 8, [.int .i64 0]⟩
def td26 : TD := ⟨.func, 1, 8, [.nilfn]⟩
def td27 : TD := ⟨.func, 1, 8, [.nilfn]⟩
def td29 : TD := ⟨.func, 1, 8, [.nilfn]⟩
def td31 : TD := ⟨.func, 1, 8, [.nilfn]⟩
def td32 : TD := ⟨.func, 1, 8, [.nilfn]⟩
def td33 : TD := ⟨.func, 1, 8, [.nilfn]⟩
def td34 : TD := ⟨.func, 1, 8, [.nilfn]⟩
def td35 : TD := ⟨(.slice 39), 1, 24, [.nils]⟩
def td36 : TD := ⟨(.struct [(0, 9), (1, 9), (2, 35), (3, 22)]), 4, 80, [.str ⟨#[]⟩, .str ⟨#[]⟩, .nils, .nils]⟩
def td37 : TD := ⟨(.struct [(0, 9), (1, 9), (2, 35), (3, 22)]), 4, 80, [.str ⟨#[]⟩, .str ⟨#[]⟩, .nils, .nils]⟩
def td38 : TD := ⟨(.struct [(0, 9), (1, 9)]), 2, 32, [.str ⟨#[]⟩, .str ⟨#[]⟩]⟩
def td39 : TD := ⟨(.struct [(0, 9), (1, 9)]), 2, 32, [.str ⟨#[]⟩, .str ⟨#[]⟩]⟩
def td40 : TD := ⟨.func, 1, 8, [.nilfn]⟩
def td41 : TD := ⟨.func, 1, 8, [.nilfn]⟩
def td42 : TD := ⟨.func, 1, 8, [.nilfn]⟩
def td43 : TD := ⟨.func, 1, 8, [.nilfn]⟩
def td44 : TD := ⟨(.struct [(0, 3), (1, 3), (2, 25)]), 3, 24, [.int .i64 0, .int .i64 0, .int .i64 0]⟩
def td45 : TD := ⟨(.struct [(0, 3), (1, 3), (2, 25)]), 3, 24, [.int .i64 0, .int .i64 0, .int .i64 0]⟩
def td46 : TD := ⟨.func, 1, 8, [.nilfn]⟩
def td47 : TD := ⟨(.ptr 50), 1, 8, [.nilp]⟩
def td48 : TD := ⟨(.slice 5), 1, 24, [.nils]⟩
def td49 : TD := ⟨(.struct [(0, 47), (1, 48)]), 2, 32, [.nilp, .nils]⟩
def td50 : TD := ⟨(.struct [(0, 47), (1, 48)]), 2, 32, [.nilp, .nils]⟩
def td51 : TD := ⟨.func, 1, 8, [.nilfn]⟩
def td52 : TD := ⟨.func, 1, 8, [.nilfn]⟩
def td53 : TD := ⟨.func, 1, 8, [.nilfn]⟩
def td55 : TD := ⟨.func, 1, 8, [.nilfn]⟩
def td56 : TD := ⟨.func, 1, 8, [.nilfn]⟩
def td57 : TD := ⟨(.struct [(0, 22), (1, 22)]), 2, 48, [.nils, .nils]⟩
def td58 : TD := ⟨(.struct [(0, 22), (1, 22)]), 2, 48, [.nils, .nils]⟩
def td59 : TD := ⟨(.slice 58), 1, 24, [.nils]⟩
def td60 : TD := ⟨(.ptr 37), 1, 8, [.nilp]⟩
def td61 : TD := ⟨.func, 1, 8, [.nilfn]⟩
def td62 : TD := ⟨.func, 1, 8, [.nilfn]⟩
def td63 : TD := ⟨.func, 1, 8, [.nilfn]⟩
def td64 : TD := ⟨.func, 1, 8, [.nilfn]⟩
def td65 : TD := ⟨(.ptr 45), 1, 8, [.nilp]⟩
def td66 : TD := ⟨(.iface 1), 1, 16, [.nili]⟩
def td67 : TD := ⟨(.iface 1), 1, 16, [.nili]⟩
def td69 : TD := ⟨.func, 1, 8, [.nilfn]⟩
def td70 : TD := ⟨.func, 1, 8, [.nilfn]⟩
def td71 : TD := ⟨(.ptr 5), 1, 8, [.nilp]⟩
def td72 : TD := ⟨.func, 1, 8, [.nilfn]⟩
def td73 : TD := ⟨.func, 1, 8, [.nilfn]⟩
def td74 : TD := ⟨.func, 1, 8, [.nilfn]⟩
def td75 : TD := ⟨.func, 1, 8, [.nilfn]⟩
def td76 : TD := ⟨.func, 1, 8, [.nilfn]⟩
def td77 : TD := ⟨.unsafeP, 1, 8, [.nilp]⟩
def td78 : TD := ⟨.func, 1, 8, [.nilfn]⟩
def td79 : TD := ⟨.func, 1, 8, [.nilfn]⟩
def td80 : TD := ⟨.func, 1, 8, [.nilfn]⟩
def td82 : TD := ⟨.func, 1, 8, [.nilfn]⟩
def td83 : TD := ⟨.func, 1, 8, [.nilfn]⟩
def td85 : TD := ⟨.func, 1, 8, [.nilfn]⟩
def td86 : TD := ⟨.func, 1, 8, [.nilfn]⟩
def td87 : TD := ⟨(.arr 256 5), 256, 256, [.int .u8 0, .int .u8 0, .int .u8 0, .int .u8 0, .int .u8 0, .int .u8 0, .int .u8 0, .int .u8 0, .int .u8 0, .int .u8 0, .int .u8 0, .int .u8 0, .int .u8 0, .int .u8 0, .int .u8 0, .int .u8 0, .int .u8 0, .int .u8 0, .int .u8 0, .int .u8 0, .int .u8 0, .int .u8 0, .int .u8 0, .int .u8 0, .int .u8 0, .int .u8 0, .int .u8 0, .int .u8 0, .int .u8 0, .int .u8 0, .int .u8 0, .int .u8 0, .int .u8 0, .int .u8 0, .int .u8 0, .int .u8 0, .int .u8 0, .int .u8 0, .int .u8 0, .int .u8 0, .int .u8 0, .int .u8 0, .int .u8 0, .int .u8 0, .int .u8 0, .int .u8 0, .int .u8 0, .int .u8 0, .int .u8 0, .int .u8 0, .int .u8 0, .int .u8 0, .int .u8 0, .int .u8 0, .int .u8 0, .int .u8 0, .int .u8 0, .int .u8 0, .int .u8 0, .int .u8 0, .int .u8 0, .int .u8 0, .int .u8 0, .int .u8 0, .int .u8 0, .int .u8 0, .int .u8 0, .int .u8 0, .int .u8 0, .int .u8 0, .int .u8 0, .int .u8 0, .int .u8 0, .int .u8 0, .int .u8 0, .int .u8 0, .int .u8 0, .int .u8 0, .int .u8 0, .int .u8 0, .int .u8 0, .int .u8 0, .int .u8 0, .int .u8 0, .int .u8 0, .int .u8 0, .int .u8 0, .int .u8 0, .int .u8 0, .int .u8 0, .int .u8 0, .int .u8 0, .int .u8 0, .int .u8 0, .int .u8 0, .int .u8 0, .int .u8 0, .int .u8 0, .int .u8 0, .int .u8 0, .int .u8 0, .int .u8 0, .int .u8 0, .int .u8 0, .int .u8 0, .int .u8 0, .int .u8 0, .int .u8 0, .int .u8 0, .int .u8 0, .int .u8 0, .int .u8 0, .int .u8 0, .int .u8 0, .int .u8 0, .int .u8 0, .int .u8 0, .int .u8 0, .int .u8 0, .int .u8 0, .int .u8 0, .int .u8 0, .int .u8 0, .int .u8 0, .int .u8 0, .int .u8 0, .int .u8 0, .int .u8 0, .int .u8 0, .int .u8 0, .int .u8 0, .int .u8 0, .int .u8 0, .int .u8 0, .int .u8 0, .int .u8 0, .int .u8 0, .int .u8 0, .int .u8 0, .int .u8 0, .int .u8 0, .int .u8 0, .int .u8 0, .int .u8 0, .int .u8 0, .int .u8 0, .int .u8 0, .int .u8 0, .int .u8 0, .int .u8 0, .int .u8 0, .int .u8 0, .int .u8 0, .int .u8 0, .int .u8 0, .int .u8 0, .int .u8 0, .int .u8 0, .int .u8 0, .int .u8 0, .int .u8 0, .int .u8 0, .int .u8 0, .int .u8 0, .int .u8 0, .int .u8 0, .int .u8 0, .int .u8 0, .int .u8 0, .int .u8 0, .int .u8 0, .int .u8 0, .int .u8 0, .int .u8 0, .int .u8 0, .int .u8 0, .int .u8 0, .int .u8 0, .int .u8 0, .int .u8 0, .int .u8 0, .int .u8 0, .int .u8 0, .int .u8 0, .int .u8 0, .int .u8 0, .int .u8 0, .int .u8 0, .int .u8 0, .int .u8 0, .int .u8 0, .int .u8 0, .int .u8 0, .int .u8 0, .int .u8 0, .int .u8 0, .int .u8 0, .int .u8 0, .int .u8 0, .int .u8 0, .int .u8 0, .int .u8 0, .int .u8 0, .int .u8 0, .int .u8 0, .int .u8 0, .int .u8 0, .int .u8 0, .int .u8 0, .int .u8 0, .int .u8 0, .int .u8 0, .int .u8 0, .int .u8 0, .int .u8 0, .int .u8 0, .int .u8 0, .int .u8 0, .int .u8 0, .int .u8 0, .int .u8 0, .int .u8 0, .int .u8 0, .int .u8 0, .int .u8 0, .int .u8 0, .int .u8 0, .int .u8 0, .int .u8 0, .int .u8 0, .int .u8 0, .int .u8 0, .int .u8 0, .int .u8 0, .int .u8 0, .int .u8 0, .int .u8 0, .int .u8 0, .int .u8 0, .int .u8 0, .int .u8 0, .int .u8 0, .int .u8 0, .int .u8 0, .int .u8 0, .int .u8 0, .int .u8 0, .int .u8 0, .int .u8 0, .int .u8 0, .int .u8 0, .int .u8 0, .int .u8 0, .int .u8 0, .int .u8 0, .int .u8 0]⟩
def td88 : TD := ⟨(.int .u64), 1, 8, [.int .u64 0]⟩
def td89 : TD := ⟨(.struct [(0, 5), (1, 5)]), 2, 2, [.int .u8 0, .int .u8 0]⟩
def td90 : TD := ⟨(.struct [(0, 5), (1, 5)]), 2, 2, [.int .u8 0, .int .u8 0]⟩
def td91 : TD := ⟨(.arr 16 90), 32, 32, [.int .u8 0, .int .u8 0, .int .u8 0, .int .u8 0, .int .u8 0, .int .u8 0, .int .u8 0, .int .u8 0, .int .u8 0, .int .u8 0, .int .u8 0, .int .u8 0, .int .u8 0, .int .u8 0, .int .u8 0, .int .u8 0, .int .u8 0, .int .u8 0, .int .u8 0, .int .u8 0, .int .u8 0, .int .u8 0, .int .u8 0, .int .u8 0, .int .u8 0, .int .u8 0, .int .u8 0, .int .u8 0, .int .u8 0, .int .u8 0, .int .u8 0, .int .u8 0]⟩
def td92 : TD := ⟨(.struct [(0, 17), (1, 17), (2, 17), (3, 9)]), 4, 40, [.nilp, .nilp, .nilp, .str ⟨#[]⟩]⟩
def td93 : TD := ⟨(.struct [(0, 17), (1, 17), (2, 17), (3, 9)]), 4, 40, [.nilp, .nilp, .nilp, .str ⟨#[]⟩]⟩
def td94 : TD := ⟨(.arr 0 16), 0, 0, []⟩
def td95 : TD := ⟨(.struct [(0, 94)]), 0, 0, []⟩
def td96 : TD := ⟨(.struct [(0, 94)]), 0, 0, []⟩
def td97 : TD := ⟨.func, 1, 8, [.nilfn]⟩
def td98 : TD := ⟨(.int .u32), 1, 4, [.int .u32 0]⟩
def td99 : TD := ⟨(.int .u8), 1, 1, [.int .u8 0]⟩
def td100 : TD := ⟨(.int .u8), 1, 1, [.int .u8 0]⟩
def td101 : TD := ⟨.func, 1, 8, [.nilfn]⟩
def td102 : TD := ⟨(.int .i32), 1, 4, [.int .i32 0]⟩
def td103 : TD := ⟨(.int .i32), 1, 4, [.int .i32 0]⟩
def td104 : TD := ⟨(.struct [(0, 12), (1, 12), (2, 98), (3, 99), (4, 5), (5, 5), (6, 100), (7, 101), (8, 71), (9, 102), (10, 103)]), 11, 48, [.int .u64 0, .int .u64 0, .int .u32 0, .int .u8 0, .int .u8 0, .int .u8 0, .int .u8 0, .nilfn, .nilp, .int .i32 0, .int .i32 0]⟩
def td105 : TD := ⟨(.struct [(0, 12), (1, 12), (2, 98), (3, 99), (4, 5), (5, 5), (6, 100), (7, 101), (8, 71), (9, 102), (10, 103)]), 11, 48, [.int .u64 0, .int .u64 0, .int .u32 0, .int .u8 0, .int .u8 0, .int .u8 0, .int .u8 0, .nilfn, .nilp, .int .i32 0, .int .i32 0]⟩
def glob1 : List AV := [.int .u8 128, .int .u8 191, .int .u8 160, .int .u8 191, .int .u8 128, .int .u8 159, .int .u8 144, .int .u8 191, .int .u8 128, .int .u8 143, .int .u8 0, .int .u8 0, .int .u8 0, .int .u8 0, .int .u8 0, .int .u8 0, .int .u8 0, .int .u8 0, .int .u8 0, .int .u8 0, .int .u8 0, .int .u8 0, .int .u8 0, .int .u8 0, .int .u8 0, .int .u8 0, .int .u8 0, .int .u8 0, .int .u8 0, .int .u8 0, .int .u8 0, .int .u8 0]
def glob0 : List AV := Go.Pinned.utf8FirstZ.map fun (n : Nat) => AV.int .u8 (n : Int)
noncomputable def tab : List (TypeId × TD) := [(1, td1), (2, td2), (3, td3), (4, td4), (5, td5), (6, td6), (7, td7), (8, td8), (9, td9), (10, td10), (11, td11), (12, td12), (13, td13), (14, td14), (15, td15), (16, td16), (17, td17), (18, td18), (19, td19), (20, td20), (21, td21), (22, td22), (23, td23), (24, td24), (25, td25), (26, td26), (27, td27), (29, td29), (31, td31), (32, td32), (33, td33), (34, td34), (35, td35), (36, td36), (37, td37), (38, td38), (39, td39), (40, td40), (41, td41), (42, td42), (43, td43), (44, td44), (45, td45), (46, td46), (47, td47), (48, td48), (49, td49), (50, td50), (51, td51), (52, td52), (53, td53), (55, td55), (56, td56), (57, td57), (58, td58), (59, td59), (60, td60), (61, td61), (62, td62), (63, td63), (64, td64), (65, td65), (66, td66), (67, td67), (69, td69), (70, td70), (71, td71), (72, td72), (73, td73), (74, td74), (75, td75), (76, td76), (77, td77), (78, td78), (79, td79), (80, td80), (82, td82), (83, td83), (85, td85), (86, td86), (87, td87), (88, td88), (89, td89), (90, td90), (91, td91), (92, td92), (93, td93), (94, td94), (95, td95), (96, td96), (97, td97), (98, td98), (99, td99), (100, td100), (101, td101), (102, td102), (103, td103), (104, td104), (105, td105)]
noncomputable def fns : List (FuncId × Func) := [(3, Tryd.f3), (4, Tryd.f4), (5, Tryd.f5), (6, Tryd.f6), (7, Tryd.f7), (8, Tryd.f8), (14, Tryd.f14), (18, Tryd.f18), (22, Tryd.f22), (26, Tryd.f26), (33, Tryd.f33), (34, Tryd.f34), (36, Tryd.f36), (38, Tryd.f38), (45, Tryd.f45), (46, Tryd.f46), (47, Tryd.f47), (48, Tryd.f48), (9, Tryd.f9), (10, Tryd.f10), (11, Tryd.f11), (12, Tryd.f12), (13, Tryd.f13), (15, Tryd.f15), (16, Tryd.f16), (17, Tryd.f17), (19, Tryd.f19), (20, Tryd.f20), (21, Tryd.f21), (23, Tryd.f23), (24, Tryd.f24), (25, Tryd.f25), (27, Tryd.f27), (28, Tryd.f28), (30, Tryd.f30), (31, Tryd.f31), (32, Tryd.f32), (35, Tryd.f35), (37, Tryd.f37), (39, Tryd.f39), (42, Tryd.f42), (43, Tryd.f43), (44, Tryd.f44), (49, Tryd.f49), (50, Tryd.f50), (52, Tryd.f52), (53, Tryd.f53), (54, Tryd.f54), (55, Tryd.f55), (56, Tryd.f56), (57, Tryd.f57), (59, Tryd.f59), (60, Tryd.f60), (61, Tryd.f61), (62, Tryd.f62), (63, Tryd.f63), (64, Tryd.f64), (65, Tryd.f65), (66, Tryd.f66), (67, Tryd.f67), (68, Tryd.f68)]
noncomputable def notes : List (FuncId × Note) := [
  (3, { keeps := [], stops := [], muts := [], acts := [] }),
  (4, { keeps := [([1, 0, 1], [0, 1, 15])], stops := [[1, 0, 1]], muts := [], acts := [] }),
  (5, { keeps := [([1, 0, 1, 1], [0, 1, 24]), ([1, 0, 1, 1, 1, 1, 1, 1, 1], [0, 1, 5, 6, 8, 10, 11, 60]), ([1, 0, 1, 1, 1, 1, 1, 1, 1, 1], [5, 10, 90])], stops := [[1, 0, 1, 1], [1, 0, 1, 1, 1, 1, 1, 1, 1], [1, 0, 1, 1, 1, 1, 1, 1, 1, 1]], muts := [], acts := [] }),
  (6, { keeps := [([1, 0, 1, 1, 1, 1], [6, 8, 48])], stops := [[1, 0, 1, 1, 1, 1]], muts := [], acts := [] }),
  (7, { keeps := [], stops := [], muts := [], acts := [] }),
  (8, { keeps := [([0, 0, 1, 0, 1, 1], [0, 3, 4])], stops := [[0, 0, 1, 0, 1, 1]], muts := [], acts := [] }),
  (14, { keeps := [], stops := [], muts := [], acts := [] }),
  (18, { keeps := [([1, 0, 1, 1], [0, 1, 37]), ([0, 0, 1, 0, 1, 1, 1], [0, 1, 6])], stops := [[1, 0, 1, 1], [0, 0, 1, 0, 1, 1, 1]], muts := [], acts := [] }),
  (22, { keeps := [([0, 0, 1, 0, 1, 1], [0, 3, 4])], stops := [[0, 0, 1, 0, 1, 1]], muts := [], acts := [] }),
  (26, { keeps := [], stops := [], muts := [], acts := [] }),
  (33, { keeps := [], stops := [], muts := [], acts := [] }),
  (34, { keeps := [], stops := [], muts := [], acts := [] }),
  (36, { keeps := [], stops := [], muts := [], acts := [] }),
  (38, { keeps := [], stops := [], muts := [], acts := [] }),
  (45, { keeps := [([0, 0, 1, 0, 1, 1], [0, 1, 5])], stops := [[0, 0, 1, 0, 1, 1]], muts := [], acts := [] }),
  (46, { keeps := [([0, 0, 1, 0, 1, 1], [0, 1, 5])], stops := [[0, 0, 1, 0, 1, 1]], muts := [], acts := [] }),
  (47, { keeps := [], stops := [], muts := [], acts := [] }),
  (48, { keeps := [], stops := [], muts := [], acts := [] }),
  (9, { keeps := [], stops := [], muts := [], acts := [] }),
  (10, { keeps := [], stops := [], muts := [], acts := [] }),
  (11, { keeps := [], stops := [], muts := [], acts := [] }),
  (12, { keeps := [], stops := [], muts := [], acts := [] }),
  (13, { keeps := [], stops := [], muts := [], acts := [] }),
  (15, { keeps := [], stops := [], muts := [], acts := [] }),
  (16, { keeps := [], stops := [], muts := [], acts := [] }),
  (17, { keeps := [], stops := [], muts := [], acts := [] }),
  (19, { keeps := [], stops := [], muts := [], acts := [] }),
  (20, { keeps := [([0, 0, 0, 1, 1], [5]), ([0, 0, 1, 1, 1, 1, 0, 1, 0, 0, 0, 1, 1], [5, 6, 37, 38]), ([1, 0, 1, 1, 0, 0, 1, 1, 0, 0, 1, 1, 1, 1, 0, 1, 0, 0, 0, 1, 1], [5, 6, 8, 9, 37, 38, 80])], stops := [[0, 0, 0, 1, 1], [0, 0, 1, 1, 1, 1, 0, 1, 0, 0, 0, 1, 1], [1, 0, 1, 1, 0, 0, 1, 1, 0, 0, 1, 1, 1, 1, 0, 1, 0, 0, 0, 1, 1]], muts := [(1, 3)], acts := [] }),
  (21, { keeps := [([0, 0, 1, 0, 1, 1], [0, 1, 5]), ([1, 0, 0, 0, 1, 0, 0, 1, 0, 1, 1], [0, 1, 5, 56]), ([0, 0, 1, 0, 1, 0, 0, 1, 0, 0, 1, 0, 1, 1], [0, 1, 5, 6])], stops := [[0, 0, 1, 0, 1, 1], [1, 0, 0, 0, 1, 0, 0, 1, 0, 1, 1], [0, 0, 1, 0, 1, 0, 0, 1, 0, 0, 1, 0, 1, 1]], muts := [], acts := [] }),
  (23, { keeps := [], stops := [], muts := [], acts := [] }),
  (24, { keeps := [], stops := [], muts := [], acts := [] }),
  (25, { keeps := [([0, 0, 1, 0, 1, 1], [0, 1, 5])], stops := [[0, 0, 1, 0, 1, 1]], muts := [], acts := [] }),
  (27, { keeps := [], stops := [], muts := [], acts := [] }),
  (28, { keeps := [([0, 0, 1], [0, 1, 9, 10]), ([0, 0, 1, 0, 1, 1, 1, 1, 0, 0, 1, 1, 0, 0, 1], [0, 1, 5, 9, 10, 38, 39, 40]), ([1, 1, 1, 0, 0, 1], [0, 1, 9, 10])], stops := [[0, 0, 1], [0, 0, 1, 0, 1, 1, 1, 1, 0, 0, 1, 1, 0, 0, 1], [1, 1, 1, 0, 0, 1]], muts := [], acts := [(10, 10)] }),
  (30, { keeps := [([0, 0, 1, 0, 1, 1], [0, 3, 4]), ([0, 0, 1, 0, 1, 1, 1, 0, 0, 1, 0, 0, 1, 0, 1, 1], [0, 3, 4, 5, 6]), ([1, 1, 0, 0, 1, 0, 1, 1], [0, 3, 4])], stops := [[0, 0, 1, 0, 1, 1], [0, 0, 1, 0, 1, 1, 1, 0, 0, 1, 0, 0, 1, 0, 1, 1], [1, 1, 0, 0, 1, 0, 1, 1]], muts := [], acts := [] }),
  (31, { keeps := [([0, 0, 1, 0, 1], [0, 1, 2, 8])], stops := [[0, 0, 1, 0, 1]], muts := [], acts := [] }),
  (32, { keeps := [([0, 0, 1, 0, 1, 1], [0, 3, 4])], stops := [[0, 0, 1, 0, 1, 1]], muts := [], acts := [] }),
  (35, { keeps := [([0, 0, 1, 0, 1, 1], [0, 1, 12, 13])], stops := [[0, 0, 1, 0, 1, 1]], muts := [], acts := [] }),
  (37, { keeps := [([0, 0, 1, 0, 1, 1], [0, 1, 5, 9, 10]), ([1, 1, 1, 0, 0, 1, 0, 1, 1], [0, 1, 5, 9, 10])], stops := [[0, 0, 1, 0, 1, 1], [1, 1, 1, 0, 0, 1, 0, 1, 1]], muts := [], acts := [] }),
  (39, { keeps := [([0, 0, 1, 0, 1], [0, 1, 2, 9, 10]), ([1, 1, 1, 1, 1, 0, 0, 1, 1, 0, 0, 1, 0, 1], [0, 1, 2, 9, 10, 69]), ([1, 1, 1, 0, 0, 1, 1, 0, 0, 1, 0, 1], [0, 1, 2, 7, 9, 10])], stops := [[0, 0, 1, 0, 1], [1, 1, 1, 1, 1, 0, 0, 1, 1, 0, 0, 1, 0, 1], [1, 1, 1, 0, 0, 1, 1, 0, 0, 1, 0, 1]], muts := [], acts := [] }),
  (42, { keeps := [], stops := [], muts := [], acts := [] }),
  (43, { keeps := [], stops := [], muts := [], acts := [] }),
  (44, { keeps := [([1, 0, 1, 1], [1, 30]), ([0, 0, 1, 0, 1, 1, 1], [1, 3]), ([1, 0, 0, 1, 0, 0, 1, 0, 1, 1, 1], [1, 3, 75])], stops := [[1, 0, 1, 1], [0, 0, 1, 0, 1, 1, 1], [1, 0, 0, 1, 0, 0, 1, 0, 1, 1, 1]], muts := [], acts := [] }),
  (49, { keeps := [([1, 1], [])], stops := [[1, 1]], muts := [], acts := [] }),
  (50, { keeps := [([0, 0, 1, 0, 1, 1], [0, 34, 35, 36]), ([1, 1, 0, 0, 1, 1, 0, 0, 1, 0, 1, 1], [0, 34, 35, 36, 69])], stops := [[0, 0, 1, 0, 1, 1], [1, 1, 0, 0, 1, 1, 0, 0, 1, 0, 1, 1]], muts := [], acts := [] }),
  (52, { keeps := [([0, 0, 1, 0, 1, 1], [0, 1, 5, 6]), ([1, 1, 0, 0, 1, 0, 1, 1], [0, 1, 5, 6])], stops := [[0, 0, 1, 0, 1, 1], [1, 1, 0, 0, 1, 0, 1, 1]], muts := [], acts := [] }),
  (53, { keeps := [], stops := [], muts := [], acts := [] }),
  (54, { keeps := [], stops := [], muts := [], acts := [] }),
  (55, { keeps := [], stops := [], muts := [], acts := [] }),
  (56, { keeps := [], stops := [], muts := [], acts := [] }),
  (57, { keeps := [], stops := [], muts := [], acts := [] }),
  (59, { keeps := [([1, 1, 1, 1, 1, 1, 1, 1, 1, 0, 0, 1], [17])], stops := [[1, 1, 1, 1, 1, 1, 1, 1, 1, 0, 0, 1]], muts := [], acts := [] }),
  (60, { keeps := [([0, 0, 0, 1, 1], [0, 4])], stops := [[0, 0, 0, 1, 1]], muts := [], acts := [] }),
  (61, { keeps := [([1, 0, 1], [0, 1, 24]), ([0, 0, 1, 0, 1, 1], [0, 1, 5]), ([1, 1, 0, 0, 1, 0, 0, 1, 0, 1, 1], [0, 1, 5, 52])], stops := [[1, 0, 1], [0, 0, 1, 0, 1, 1], [1, 1, 0, 0, 1, 0, 0, 1, 0, 1, 1]], muts := [], acts := [] }),
  (62, { keeps := [([0, 0, 1, 0, 1], [0, 9])], stops := [[0, 0, 1, 0, 1]], muts := [], acts := [] }),
  (63, { keeps := [], stops := [], muts := [], acts := [] }),
  (64, { keeps := [([0, 0, 1, 0, 1], [0, 1, 9, 10]), ([1, 1, 1, 1, 0, 0, 1, 1, 0, 0, 1, 0, 1], [0, 1, 9, 10, 40]), ([1, 1, 1, 0, 0, 1, 1, 0, 0, 1, 0, 1], [0, 1, 5, 6, 7, 9, 10])], stops := [[0, 0, 1, 0, 1], [1, 1, 1, 1, 0, 0, 1, 1, 0, 0, 1, 0, 1], [1, 1, 1, 0, 0, 1, 1, 0, 0, 1, 0, 1]], muts := [], acts := [] }),
  (65, { keeps := [([1, 0, 1, 1, 1], [0, 1, 5, 22]), ([1, 0, 0, 1, 0, 1, 1, 1, 1], [60]), ([1, 0, 1, 1, 1, 1], [0, 1, 5, 40]), ([1, 0, 0, 1, 0, 1, 1, 1, 1, 1], [104]), ([1, 0, 1, 1, 1, 1, 1], [0, 1, 5, 84])], stops := [[1, 0, 1, 1, 1], [1, 0, 0, 1, 0, 1, 1, 1, 1], [1, 0, 1, 1, 1, 1], [1, 0, 0, 1, 0, 1, 1, 1, 1, 1], [1, 0, 1, 1, 1, 1, 1]], muts := [], acts := [] }),
  (66, { keeps := [([1, 0, 1], [0, 10])], stops := [[1, 0, 1]], muts := [], acts := [] }),
  (67, { keeps := [], stops := [], muts := [], acts := [] }),
  (68, { keeps := [([1, 0, 1, 1, 1, 1, 1, 1, 1, 1, 1, 1], [0, 5, 8, 10, 57]), ([1, 0, 1, 1, 1, 1, 1, 1, 1, 1, 1, 1, 1, 1, 1], [0, 5, 8, 10, 11, 75]), ([1, 0, 1, 1, 1, 1, 1, 1, 1, 1, 1, 1, 1, 1, 1, 1, 1, 1], [5, 10, 11, 12, 98])], stops := [[1, 0, 1, 1, 1, 1, 1, 1, 1, 1, 1, 1], [1, 0, 1, 1, 1, 1, 1, 1, 1, 1, 1, 1, 1, 1, 1], [1, 0, 1, 1, 1, 1, 1, 1, 1, 1, 1, 1, 1, 1, 1, 1, 1, 1]], muts := [], acts := [] })]
noncomputable def ap : AProg := { fns := fns, tab := tab, eqs := [(39, [.s, .s]), (45, [.i, .i, .i])], notes := notes, globs := [(1, glob1), (0, glob0)], prims := [(29, .bldString), (40, .bldStr), (41, .bldByte)], bld := 50, u8 := 5, draws := true, tips := [22, 48] }
end Go.Proofs.YtjcpcglhjeoifaaDoor
