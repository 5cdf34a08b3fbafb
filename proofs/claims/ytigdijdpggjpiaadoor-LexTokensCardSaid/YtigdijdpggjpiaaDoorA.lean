/- The program as the value machine takes it: printed by gen.py out of Lean's print of the loaded program. -/
import Derived.Test.YtigdijdpggjpiaaDoorProg
import Derived.Test.YtigdijdpggjpiaaDoorStLim
import Derived.KernelRfl
import GoSem.PinnedTables
namespace Go.Proofs.YtigdijdpggjpiaaDoor
open Go.St
def td1 : TD := ⟨.func, 1, 8, [.nilfn]⟩
def td2 : TD := ⟨(.int .i64), 1, 8, [.int .i64 0]⟩
def td3 : TD := ⟨(.int .i64), 1, 8, [.int .i64 0]⟩
def td4 : TD := ⟨.bool, 1, 1, [.bool false]⟩
def td5 : TD := ⟨(.int .u8), 1, 1, [.int .u8 0]⟩
def td6 : TD := ⟨(.int .u8), 1, 1, [.int .u8 0]⟩
def td7 : TD := ⟨(.struct [(0, 2), (1, 3), (2, 4), (3, 6)]), 4, 24, [.int .i64 0, .int .i64 0, .bool false, .int .u8 0]⟩
def td8 : TD := ⟨(.struct [(0, 2), (1, 3), (2, 4), (3, 6)]), 4, 24, [.int .i64 0, .int .i64 0, .bool false, .int .u8 0]⟩
def td9 : TD := ⟨.str, 1, 16, [.str ⟨#[]⟩]⟩
def td10 : TD := ⟨.str, 1, 16, [.str ⟨#[]⟩]⟩
def td11 : TD := ⟨.str, 1, 16, [.str ⟨#[]⟩]⟩
def td12 : TD := ⟨(.int .u64), 1, 8, [.int .u64 0]⟩
def td13 : TD := ⟨(.struct [(0, 9), (1, 12)]), 2, 24, [.str ⟨#[]⟩, .int .u64 0]⟩
def td14 : TD := ⟨(.struct [(0, 9), (1, 12)]), 2, 24, [.str ⟨#[]⟩, .int .u64 0]⟩
def td15 : TD := ⟨(.ptr 100), 1, 8, [.nilp]⟩
def td16 : TD := ⟨(.ptr 103), 1, 8, [.nilp]⟩
def td17 : TD := ⟨(.ptr 110), 1, 8, [.nilp]⟩
def td18 : TD := ⟨(.struct [(0, 17)]), 1, 8, [.nilp]⟩
def td19 : TD := ⟨(.struct [(0, 17)]), 1, 8, [.nilp]⟩
def td20 : TD := ⟨(.iface 0), 1, 16, [.nili]⟩
def td21 : TD := ⟨(.int .i32), 1, 4, [.int .i32 0]⟩
def td22 : TD := ⟨(.slice 34), 1, 24, [.nils]⟩
def td23 : TD := ⟨(.int .i64), 1, 8, [.int .i64 0]⟩
def td25 : TD := ⟨.func, 1, 8, [.nilfn]⟩
def td27 : TD := ⟨.func, 1, 8, [.nilfn]⟩
def td28 : TD := ⟨.func, 1, 8, [.nilfn]⟩
def td29 : TD := ⟨.func, 1, 8, [.nilfn]⟩
def td30 : TD := ⟨.func, 1, 8, [.nilfn]⟩
def td31 : TD := ⟨.func, 1, 8, [.nilfn]⟩
def td32 : TD := ⟨.func, 1, 8, [.nilfn]⟩
def td33 : TD := ⟨(.struct [(0, 3), (1, 9), (2, 9), (3, 3)]), 4, 48, [.int .i64 0, .str ⟨#[]⟩, .str ⟨#[]⟩, .int .i64 0]⟩
def td34 : TD := ⟨(.struct [(0, 3), (1, 9), (2, 9), (3, 3)]), 4, 48, [.int .i64 0, .str ⟨#[]⟩, .str ⟨#[]⟩, .int .i64 0]⟩
def td35 : TD := ⟨.func, 1, 8, [.nilfn]⟩
def td36 : TD := ⟨.func, 1, 8, [.nilfn]⟩
def td37 : TD := ⟨.func, 1, 8, [.nilfn]⟩
def td39 : TD := ⟨.func, 1, 8, [.nilfn]⟩
def td40 : TD := ⟨(.ptr 42), 1, 8, [.nilp]⟩
def td41 : TD := ⟨(.struct [(0, 9), (1, 3), (2, 23), (3, 3)]), 4, 40, [.str ⟨#[]⟩, .int .i64 0, .int .i64 0, .int .i64 0]⟩
def td42 : TD := ⟨(.struct [(0, 9), (1, 3), (2, 23), (3, 3)]), 4, 40, [.str ⟨#[]⟩, .int .i64 0, .int .i64 0, .int .i64 0]⟩
def td43 : TD := ⟨.func, 1, 8, [.nilfn]⟩
def td44 : TD := ⟨.func, 1, 8, [.nilfn]⟩
def td45 : TD := ⟨.func, 1, 8, [.nilfn]⟩
def td47 : TD := ⟨.func, 1, 8, [.nilfn]⟩
def td48 : TD := ⟨(.ptr 50), 1, 8, [.nilp]⟩
def td49 : TD := ⟨(.struct [(0, 9), (1, 3), (2, 22), (3, 3), (4, 3)]), 5, 64, [.str ⟨#[]⟩, .int .i64 0, .nils, .int .i64 0, .int .i64 0]⟩
def td50 : TD := ⟨(.struct [(0, 9), (1, 3), (2, 22), (3, 3), (4, 3)]), 5, 64, [.str ⟨#[]⟩, .int .i64 0, .nils, .int .i64 0, .int .i64 0]⟩
def td51 : TD := ⟨.func, 1, 8, [.nilfn]⟩
def td52 : TD := ⟨.func, 1, 8, [.nilfn]⟩
def td54 : TD := ⟨.func, 1, 8, [.nilfn]⟩
def td55 : TD := ⟨.func, 1, 8, [.nilfn]⟩
def td56 : TD := ⟨.func, 1, 8, [.nilfn]⟩
def td57 : TD := ⟨.func, 1, 8, [.nilfn]⟩
def td58 : TD := ⟨.func, 1, 8, [.nilfn]⟩
def td59 : TD := ⟨.func, 1, 8, [.nilfn]⟩
def td60 : TD := ⟨.func, 1, 8, [.nilfn]⟩
def td61 : TD := ⟨.func, 1, 8, [.nilfn]⟩
def td62 : TD := ⟨.func, 1, 8, [.nilfn]⟩
def td63 : TD := ⟨(.ptr 66), 1, 8, [.nilp]⟩
def td64 : TD := ⟨(.slice 5), 1, 24, [.nils]⟩
def td65 : TD := ⟨(.struct [(0, 63), (1, 64)]), 2, 32, [.nilp, .nils]⟩
def td66 : TD := ⟨(.struct [(0, 63), (1, 64)]), 2, 32, [.nilp, .nils]⟩
def td67 : TD := ⟨.func, 1, 8, [.nilfn]⟩
def td68 : TD := ⟨(.iface 1), 1, 16, [.nili]⟩
def td69 : TD := ⟨(.iface 1), 1, 16, [.nili]⟩
def td71 : TD := ⟨.func, 1, 8, [.nilfn]⟩
def td72 : TD := ⟨.func, 1, 8, [.nilfn]⟩
def td73 : TD := ⟨(.slice 9), 1, 24, [.nils]⟩
def td74 : TD := ⟨.func, 1, 8, [.nilfn]⟩
def td76 : TD := ⟨.func, 1, 8, [.nilfn]⟩
def td77 : TD := ⟨.func, 1, 8, [.nilfn]⟩
def td78 : TD := ⟨.func, 1, 8, [.nilfn]⟩
def td79 : TD := ⟨.func, 1, 8, [.nilfn]⟩
def td80 : TD := ⟨.func, 1, 8, [.nilfn]⟩
def td82 : TD := ⟨.func, 1, 8, [.nilfn]⟩
def td83 : TD := ⟨(.ptr 5), 1, 8, [.nilp]⟩
def td84 : TD := ⟨(.arr 256 5), 256, 256, [.int .u8 0, .int .u8 0, .int .u8 0, .int .u8 0, .int .u8 0, .int .u8 0, .int .u8 0, .int .u8 0, .int .u8 0, .int .u8 0, .int .u8 0, .int .u8 0, .int .u8 0, .int .u8 0, .int .u8 0, .int .u8 0, .int .u8 0, .int .u8 0, .int .u8 0, .int .u8 0, .int .u8 0, .int .u8 0, .int .u8 0, .int .u8 0, .int .u8 0, .int .u8 0, .int .u8 0, .int .u8 0, .int .u8 0, .int .u8 0, .int .u8 0, .int .u8 0, .int .u8 0, .int .u8 0, .int .u8 0, .int .u8 0, .int .u8 0, .int .u8 0, .int .u8 0, .int .u8 0, .int .u8 0, .int .u8 0, .int .u8 0, .int .u8 0, .int .u8 0, .int .u8 0, .int .u8 0, .int .u8 0, .int .u8 0, .int .u8 0, .int .u8 0, .int .u8 0, .int .u8 0, .int .u8 0, .int .u8 0, .int .u8 0, .int .u8 0, .int .u8 0, .int .u8 0, .int .u8 0, .int .u8 0, .int .u8 0, .int .u8 0, .int .u8 0, .int .u8 0, .int .u8 0, .int .u8 0, .int .u8 0, .int .u8 0, .int .u8 0, .int .u8 0, .int .u8 0, .int .u8 0, .int .u8 0, .int .u8 0, .int .u8 0, .int .u8 0, .int .u8 0, .int .u8 0, .int .u8 0, .int .u8 0, .int .u8 0, .int .u8 0, .int .u8 0, .int .u8 0, .int .u8 0, .int .u8 0, .int .u8 0, .int .u8 0, .int .u8 0, .int .u8 0, .int .u8 0, .int .u8 0, .int .u8 0, .int .u8 0, .int .u8 0, .int .u8 0, .int .u8 0, .int .u8 0, .int .u8 0, .int .u8 0, .int .u8 0, .int .u8 0, .int .u8 0, .int .u8 0, .int .u8 0, .int .u8 0, .int .u8 0, .int .u8 0, .int .u8 0, .int .u8 0, .int .u8 0, .int .u8 0, .int .u8 0, .int .u8 0, .int .u8 0, .int .u8 0, .int .u8 0, .int .u8 0, .int .u8 0, .int .u8 0, .int .u8 0, .int .u8 0, .int .u8 0, .int .u8 0, .int .u8 0, .int .u8 0, .int .u8 0, .int .u8 0, .int .u8 0, .int .u8 0, .int .u8 0, .int .u8 0, .int .u8 0, .int .u8 0, .int .u8 0, .int .u8 0, .int .u8 0, .int .u8 0, .int .u8 0, .int .u8 0, .int .u8 0, .int .u8 0, .int .u8 0, .int .u8 0, .int .u8 0, .int .u8 0, .int .u8 0, .int .u8 0, .int .u8 0, .int .u8 0, .int .u8 0, .int .u8 0, .int .u8 0, .int .u8 0, .int .u8 0, .int .u8 0, .int .u8 0, .int .u8 0, .int .u8 0, .int .u8 0, .int .u8 0, .int .u8 0, .int .u8 0, .int .u8 0, .int .u8 0, .int .u8 0, .int .u8 0, .int .u8 0, .int .u8 0, .int .u8 0, .int .u8 0, .int .u8 0, .int .u8 0, .int .u8 0, .int .u8 0, .int .u8 0, .int .u8 0, .int .u8 0, .int .u8 0, .int .u8 0, .int .u8 0, .int .u8 0, .int .u8 0, .int .u8 0, .int .u8 0, .int .u8 0, .int .u8 0, .int .u8 0, .int .u8 0, .int .u8 0, .int .u8 0, .int .u8 0, .int .u8 0, .int .u8 0, .int .u8 0, .int .u8 0, .int .u8 0, .int .u8 0, .int .u8 0, .int .u8 0, .int .u8 0, .int .u8 0, .int .u8 0, .int .u8 0, .int .u8 0, .int .u8 0, .int .u8 0, .int .u8 0, .int .u8 0, .int .u8 0, .int .u8 0, .int .u8 0, .int .u8 0, .int .u8 0, .int .u8 0, .int .u8 0, .int .u8 0, .int .u8 0, .int .u8 0, .int .u8 0, .int .u8 0, .int .u8 0, .int .u8 0, .int .u8 0, .int .u8 0, .int .u8 0, .int .u8 0, .int .u8 0, .int .u8 0, .int .u8 0, .int .u8 0, .int .u8 0, .int .u8 0, .int .u8 0, .int .u8 0, .int .u8 0, .int .u8 0, .int .u8 0, .int .u8 0, .int .u8 0, .int .u8 0, .int .u8 0, .int .u8 0, .int .u8 0, .int .u8 0, .int .u8 0, .int .u8 0, .int .u8 0, .int .u8 0, .int .u8 0, .int .u8 0, .int .u8 0, .int .u8 0, .int .u8 0, .int .u8 0]⟩
def td85 : TD := ⟨(.int .u64), 1, 8, [.int .u64 0]⟩
def td86 : TD := ⟨(.struct [(0, 5), (1, 5)]), 2, 2, [.int .u8 0, .int .u8 0]⟩
def td87 : TD := ⟨(.struct [(0, 5), (1, 5)]), 2, 2, [.int .u8 0, .int .u8 0]⟩
def td88 : TD := ⟨(.arr 16 87), 32, 32, [.int .u8 0, .int .u8 0, .int .u8 0, .int .u8 0, .int .u8 0, .int .u8 0, .int .u8 0, .int .u8 0, .int .u8 0, .int .u8 0, .int .u8 0, .int .u8 0, .int .u8 0, .int .u8 0, .int .u8 0, .int .u8 0, .int .u8 0, .int .u8 0, .int .u8 0, .int .u8 0, .int .u8 0, .int .u8 0, .int .u8 0, .int .u8 0, .int .u8 0, .int .u8 0, .int .u8 0, .int .u8 0, .int .u8 0, .int .u8 0, .int .u8 0, .int .u8 0]⟩
def td90 : TD := ⟨.func, 1, 8, [.nilfn]⟩
def td91 : TD := ⟨.func, 1, 8, [.nilfn]⟩
def td92 : TD := ⟨.func, 1, 8, [.nilfn]⟩
def td93 : TD := ⟨.unsafeP, 1, 8, [.nilp]⟩
def td94 : TD := ⟨.func, 1, 8, [.nilfn]⟩
def td95 : TD := ⟨.func, 1, 8, [.nilfn]⟩
def td96 : TD := ⟨(.int .u32), 1, 4, [.int .u32 0]⟩
def td98 : TD := ⟨.func, 1, 8, [.nilfn]⟩
def td99 : TD := ⟨(.struct [(0, 17), (1, 17), (2, 17), (3, 9)]), 4, 40, [.nilp, .nilp, .nilp, .str ⟨#[]⟩]⟩
def td100 : TD := ⟨(.struct [(0, 17), (1, 17), (2, 17), (3, 9)]), 4, 40, [.nilp, .nilp, .nilp, .str ⟨#[]⟩]⟩
def td101 : TD := ⟨(.arr 0 16), 0, 0, []⟩
def td102 : TD := ⟨(.struct [(0, 101)]), 0, 0, []⟩
def td103 : TD := ⟨(.struct [(0, 101)]), 0, 0, []⟩
def td104 : TD := ⟨(.int .u8), 1, 1, [.int .u8 0]⟩
def td105 : TD := ⟨(.int .u8), 1, 1, [.int .u8 0]⟩
def td106 : TD := ⟨.func, 1, 8, [.nilfn]⟩
def td107 : TD := ⟨(.int .i32), 1, 4, [.int .i32 0]⟩
def td108 : TD := ⟨(.int .i32), 1, 4, [.int .i32 0]⟩
def td109 : TD := ⟨(.struct [(0, 12), (1, 12), (2, 96), (3, 104), (4, 5), (5, 5), (6, 105), (7, 106), (8, 83), (9, 107), (10, 108)]), 11, 48, [.int .u64 0, .int .u64 0, .int .u32 0, .int .u8 0, .int .u8 0, .int .u8 0, .int .u8 0, .nilfn, .nilp, .int .i32 0, .int .i32 0]⟩
def td110 : TD := ⟨(.struct [(0, 12), (1, 12), (2, 96), (3, 104), (4, 5), (5, 5), (6, 105), (7, 106), (8, 83), (9, 107), (10, 108)]), 11, 48, [.int .u64 0, .int .u64 0, .int .u32 0, .int .u8 0, .int .u8 0, .int .u8 0, .int .u8 0, .nilfn, .nilp, .int .i32 0, .int .i32 0]⟩
def glob1 : List AV := [.int .u8 128, .int .u8 191, .int .u8 160, .int .u8 191, .int .u8 128, .int .u8 159, .int .u8 144, .int .u8 191, .int .u8 128, .int .u8 143, .int .u8 0, .int .u8 0, .int .u8 0, .int .u8 0, .int .u8 0, .int .u8 0, .int .u8 0, .int .u8 0, .int .u8 0, .int .u8 0, .int .u8 0, .int .u8 0, .int .u8 0, .int .u8 0, .int .u8 0, .int .u8 0, .int .u8 0, .int .u8 0, .int .u8 0, .int .u8 0, .int .u8 0, .int .u8 0]
def glob0 : List AV := Go.Pinned.utf8FirstZ.map fun (n : Nat) => AV.int .u8 (n : Int)
noncomputable def tab : List (TypeId × TD) := [(1, td1), (2, td2), (3, td3), (4, td4), (5, td5), (6, td6), (7, td7), (8, td8), (9, td9), (10, td10), (11, td11), (12, td12), (13, td13), (14, td14), (15, td15), (16, td16), (17, td17), (18, td18), (19, td19), (20, td20), (21, td21), (22, td22), (23, td23), (25, td25), (27, td27), (28, td28), (29, td29), (30, td30), (31, td31), (32, td32), (33, td33), (34, td34), (35, td35), (36, td36), (37, td37), (39, td39), (40, td40), (41, td41), (42, td42), (43, td43), (44, td44), (45, td45), (47, td47), (48, td48), (49, td49), (50, td50), (51, td51), (52, td52), (54, td54), (55, td55), (56, td56), (57, td57), (58, td58), (59, td59), (60, td60), (61, td61), (62, td62), (63, td63), (64, td64), (65, td65), (66, td66), (67, td67), (68, td68), (69, td69), (71, td71), (72, td72), (73, td73), (74, td74), (76, td76), (77, td77), (78, td78), (79, td79), (80, td80), (82, td82), (83, td83), (84, td84), (85, td85), (86, td86), (87, td87), (88, td88), (90, td90), (91, td91), (92, td92), (93, td93), (94, td94), (95, td95), (96, td96), (98, td98), (99, td99), (100, td100), (101, td101), (102, td102), (103, td103), (104, td104), (105, td105), (106, td106), (107, td107), (108, td108), (109, td109), (110, td110)]
noncomputable def fns : List (FuncId × Func) := [(3, Tryd.f3), (4, Tryd.f4), (5, Tryd.f5), (6, Tryd.f6), (9, Tryd.f9), (10, Tryd.f10), (11, Tryd.f11), (7, Tryd.f7), (8, Tryd.f8), (12, Tryd.f12), (13, Tryd.f13), (14, Tryd.f14), (15, Tryd.f15), (16, Tryd.f16), (17, Tryd.f17), (18, Tryd.f18), (19, Tryd.f19), (20, Tryd.f20), (21, Tryd.f21), (22, Tryd.f22), (23, Tryd.f23), (24, Tryd.f24), (25, Tryd.f25), (26, Tryd.f26), (31, Tryd.f31), (32, Tryd.f32), (33, Tryd.f33), (34, Tryd.f34), (35, Tryd.f35), (36, Tryd.f36), (37, Tryd.f37), (38, Tryd.f38), (42, Tryd.f42), (27, Tryd.f27), (28, Tryd.f28), (29, Tryd.f29), (30, Tryd.f30), (51, Tryd.f51), (52, Tryd.f52), (53, Tryd.f53), (54, Tryd.f54), (44, Tryd.f44), (45, Tryd.f45), (46, Tryd.f46), (47, Tryd.f47), (48, Tryd.f48), (49, Tryd.f49), (50, Tryd.f50), (60, Tryd.f60), (61, Tryd.f61), (57, Tryd.f57), (58, Tryd.f58), (59, Tryd.f59)]
noncomputable def notes : List (FuncId × Note) := [
  (3, { keeps := [([1, 0, 1, 1, 1, 1], [3, 6, 9, 55])], stops := [[1, 0, 1, 1, 1, 1]], muts := [], acts := [] }),
  (4, { keeps := [([1, 0, 1, 1, 1, 1], [0, 3, 46]), ([0, 0, 1, 0, 1, 1, 1, 1, 1], [0, 3, 6]), ([1, 1, 0, 0, 1, 0, 0, 1, 0, 1, 1, 1, 1, 1], [0, 3, 6, 88])], stops := [[1, 0, 1, 1, 1, 1], [0, 0, 1, 0, 1, 1, 1, 1, 1], [1, 1, 0, 0, 1, 0, 0, 1, 0, 1, 1, 1, 1, 1]], muts := [], acts := [] }),
  (5, { keeps := [([1, 0, 1, 1, 1, 1], [0, 1, 5, 8, 46]), ([1, 0, 1, 1, 1, 1, 1, 1], [0, 5, 8, 11, 78]), ([0, 0, 1, 0, 1, 1, 1, 1, 1, 1, 1], [0, 5, 8, 11, 14])], stops := [[1, 0, 1, 1, 1, 1], [1, 0, 1, 1, 1, 1, 1, 1], [0, 0, 1, 0, 1, 1, 1, 1, 1, 1, 1]], muts := [], acts := [] }),
  (6, { keeps := [([1, 0, 1, 1, 1, 1], [0, 3, 5, 6, 8, 39]), ([1, 0, 1, 1, 1, 1, 1], [0, 3, 75])], stops := [[1, 0, 1, 1, 1, 1], [1, 0, 1, 1, 1, 1, 1]], muts := [], acts := [] }),
  (9, { keeps := [], stops := [], muts := [], acts := [] }),
  (10, { keeps := [([0, 0, 1, 0, 1, 1], [0, 1, 5])], stops := [[0, 0, 1, 0, 1, 1]], muts := [], acts := [] }),
  (11, { keeps := [([0, 0, 1], [0, 2])], stops := [[0, 0, 1]], muts := [], acts := [] }),
  (7, { keeps := [([0, 1, 0, 1, 1, 1, 1, 1], [2, 3, 4, 7, 8, 25])], stops := [[0, 1, 0, 1, 1, 1, 1, 1]], muts := [(10, 3)], acts := [] }),
  (8, { keeps := [([0, 0, 0, 1, 1, 1, 1, 1], [0, 7]), ([1, 0, 0, 0, 0, 1, 1, 1, 1, 1], [0, 7, 35])], stops := [[0, 0, 0, 1, 1, 1, 1, 1], [1, 0, 0, 0, 0, 1, 1, 1, 1, 1]], muts := [], acts := [] }),
  (12, { keeps := [], stops := [], muts := [], acts := [] }),
  (13, { keeps := [], stops := [], muts := [], acts := [] }),
  (14, { keeps := [], stops := [], muts := [], acts := [] }),
  (15, { keeps := [], stops := [], muts := [], acts := [] }),
  (16, { keeps := [([0, 0, 1, 0, 1], [0, 9])], stops := [[0, 0, 1, 0, 1]], muts := [], acts := [] }),
  (17, { keeps := [], stops := [], muts := [], acts := [] }),
  (18, { keeps := [([0, 0, 0, 1, 1], [0, 4])], stops := [[0, 0, 0, 1, 1]], muts := [], acts := [] }),
  (19, { keeps := [([1, 1, 1, 0, 1, 0, 1, 1], [0, 2, 3]), ([0, 0, 1, 1, 1, 1], [0])], stops := [[1, 1, 1, 0, 1, 0, 1, 1], [0, 0, 1, 1, 1, 1]], muts := [], acts := [(9, 6)] }),
  (20, { keeps := [], stops := [], muts := [], acts := [] }),
  (21, { keeps := [([0, 0, 0, 1, 1], [0, 2]), ([1, 0, 0, 0, 0, 1, 1], [0, 2, 29])], stops := [[0, 0, 0, 1, 1], [1, 0, 0, 0, 0, 1, 1]], muts := [], acts := [] }),
  (22, { keeps := [([0, 0, 0, 1], [0, 2]), ([1, 0, 0, 0, 0, 1], [0, 2, 34])], stops := [[0, 0, 0, 1], [1, 0, 0, 0, 0, 1]], muts := [], acts := [(3, 13)] }),
  (23, { keeps := [], stops := [], muts := [], acts := [] }),
  (24, { keeps := [([0, 0, 1, 0, 1, 1], [0, 1, 5, 9, 10]), ([1, 1, 1, 0, 0, 1, 0, 1, 1], [0, 1, 5, 9, 10])], stops := [[0, 0, 1, 0, 1, 1], [1, 1, 1, 0, 0, 1, 0, 1, 1]], muts := [], acts := [] }),
  (25, { keeps := [([1, 0, 1], [0, 10])], stops := [[1, 0, 1]], muts := [], acts := [] }),
  (26, { keeps := [([0, 0], [0, 1]), ([1, 1, 0, 1, 0, 0], [0, 1, 3])], stops := [[0, 0], [1, 1, 0, 1, 0, 0]], muts := [], acts := [] }),
  (31, { keeps := [([1, 0, 1, 1, 1], [0, 1, 5, 22]), ([1, 0, 0, 1, 0, 1, 1, 1, 1], [60]), ([1, 0, 1, 1, 1, 1], [0, 1, 5, 40]), ([1, 0, 0, 1, 0, 1, 1, 1, 1, 1], [104]), ([1, 0, 1, 1, 1, 1, 1], [0, 1, 5, 84])], stops := [[1, 0, 1, 1, 1], [1, 0, 0, 1, 0, 1, 1, 1, 1], [1, 0, 1, 1, 1, 1], [1, 0, 0, 1, 0, 1, 1, 1, 1, 1], [1, 0, 1, 1, 1, 1, 1]], muts := [], acts := [] }),
  (32, { keeps := [([0, 0, 0, 1, 1], [0, 3]), ([1, 0, 0, 0, 0, 1, 1], [0, 3, 60]), ([1, 1, 1, 1, 1], [0, 3]), ([1, 1, 1, 1], [0, 3])], stops := [[0, 0, 0, 1, 1], [1, 0, 0, 0, 0, 1, 1], [1, 1, 1, 1, 1], [1, 1, 1, 1]], muts := [], acts := [] }),
  (33, { keeps := [([0, 0, 0, 1, 1], [0, 3]), ([1, 0, 0, 0, 0, 1, 1], [0, 3, 29])], stops := [[0, 0, 0, 1, 1], [1, 0, 0, 0, 0, 1, 1]], muts := [], acts := [] }),
  (34, { keeps := [], stops := [], muts := [], acts := [] }),
  (35, { keeps := [], stops := [], muts := [], acts := [] }),
  (36, { keeps := [([1, 0, 1, 1, 1, 1], [0, 2, 39]), ([0, 0, 0, 1, 1, 1, 1, 1, 1, 1, 1, 1], [0, 2, 3, 4]), ([1, 0, 0, 0, 0, 1, 1, 1, 1, 1, 1, 1, 1, 1], [0, 2, 3, 4, 87]), ([1, 1, 1, 1, 1], [0, 2]), ([1, 1, 1, 1], [0, 2]), ([1, 1], [0, 2])], stops := [[1, 0, 1, 1, 1, 1], [0, 0, 0, 1, 1, 1, 1, 1, 1, 1, 1, 1], [1, 0, 0, 0, 0, 1, 1, 1, 1, 1, 1, 1, 1, 1], [1, 1, 1, 1, 1], [1, 1, 1, 1], [1, 1]], muts := [], acts := [(17, 16)] }),
  (37, { keeps := [([1, 0, 1, 1, 1], [0, 3, 11, 32]), ([1, 1, 1, 1], [11]), ([1, 1, 1], [0, 3, 4, 11])], stops := [[1, 0, 1, 1, 1], [1, 1, 1, 1], [1, 1, 1]], muts := [], acts := [] }),
  (38, { keeps := [([1, 1], [])], stops := [[1, 1]], muts := [], acts := [] }),
  (42, { keeps := [([1, 0, 1, 1, 1, 1, 1, 1, 1, 1, 1, 1], [0, 5, 8, 10, 57]), ([1, 0, 1, 1, 1, 1, 1, 1, 1, 1, 1, 1, 1, 1, 1], [0, 5, 8, 10, 11, 75]), ([1, 0, 1, 1, 1, 1, 1, 1, 1, 1, 1, 1, 1, 1, 1, 1, 1, 1], [5, 10, 11, 12, 98])], stops := [[1, 0, 1, 1, 1, 1, 1, 1, 1, 1, 1, 1], [1, 0, 1, 1, 1, 1, 1, 1, 1, 1, 1, 1, 1, 1, 1], [1, 0, 1, 1, 1, 1, 1, 1, 1, 1, 1, 1, 1, 1, 1, 1, 1, 1]], muts := [], acts := [] }),
  (27, { keeps := [([0, 0, 1, 0, 1, 1, 1], [0, 1, 5, 6, 21, 22, 23]), ([1, 1, 1, 0, 0, 1, 0, 1, 1, 1], [0, 1, 5, 6, 21, 22, 23])], stops := [[0, 0, 1, 0, 1, 1, 1], [1, 1, 1, 0, 0, 1, 0, 1, 1, 1]], muts := [], acts := [] }),
  (28, { keeps := [], stops := [], muts := [], acts := [] }),
  (29, { keeps := [], stops := [], muts := [], acts := [] }),
  (30, { keeps := [([0, 0, 0, 1, 1, 1, 1, 1, 1, 1, 1, 0, 1], [0, 1]), ([1, 1, 1, 0, 1], [0, 1, 5])], stops := [[0, 0, 0, 1, 1, 1, 1, 1, 1, 1, 1, 0, 1], [1, 1, 1, 0, 1]], muts := [], acts := [] }),
  (51, { keeps := [], stops := [], muts := [], acts := [] }),
  (52, { keeps := [], stops := [], muts := [], acts := [] }),
  (53, { keeps := [], stops := [], muts := [], acts := [] }),
  (54, { keeps := [([0, 0, 0, 1, 1, 1], [0, 5, 6]), ([0, 0, 1, 0, 1, 1, 1, 0, 1, 0, 0, 0, 1, 1, 1], [0, 5, 6, 7, 8, 9]), ([1, 0, 0, 0, 1, 0, 1, 1, 1, 0, 1, 0, 0, 0, 1, 1, 1], [0, 5, 6, 7, 8, 9, 34]), ([1, 1, 0, 0, 1, 0, 0, 1, 0, 1, 1, 1, 0, 1, 0, 0, 0, 1, 1, 1], [0, 5, 6, 7, 8, 9, 10, 58]), ([1, 1, 0, 0, 1, 0, 1, 1, 1, 0, 1, 0, 0, 0, 1, 1, 1], [0, 5, 6, 7, 8, 9])], stops := [[0, 0, 0, 1, 1, 1], [0, 0, 1, 0, 1, 1, 1, 0, 1, 0, 0, 0, 1, 1, 1], [1, 0, 0, 0, 1, 0, 1, 1, 1, 0, 1, 0, 0, 0, 1, 1, 1], [1, 1, 0, 0, 1, 0, 0, 1, 0, 1, 1, 1, 0, 1, 0, 0, 0, 1, 1, 1], [1, 1, 0, 0, 1, 0, 1, 1, 1, 0, 1, 0, 0, 0, 1, 1, 1]], muts := [], acts := [] }),
  (44, { keeps := [([1, 1, 1, 0, 0, 1, 1], [0, 3, 12, 35])], stops := [[1, 1, 1, 0, 0, 1, 1]], muts := [], acts := [] }),
  (45, { keeps := [], stops := [], muts := [], acts := [] }),
  (46, { keeps := [], stops := [], muts := [], acts := [] }),
  (47, { keeps := [([0, 0, 0, 1, 1], [0, 4]), ([1, 0, 1, 0, 1, 0, 0, 0, 1, 1], [0, 4, 54]), ([1, 1, 1], [0, 4])], stops := [[0, 0, 0, 1, 1], [1, 0, 1, 0, 1, 0, 0, 0, 1, 1], [1, 1, 1]], muts := [], acts := [] }),
  (48, { keeps := [([0, 0, 0, 1, 1], [0, 3]), ([1, 0, 0, 0, 0, 1, 1], [0, 3, 30])], stops := [[0, 0, 0, 1, 1], [1, 0, 0, 0, 0, 1, 1]], muts := [], acts := [] }),
  (49, { keeps := [], stops := [], muts := [], acts := [] }),
  (50, { keeps := [([1, 1, 0, 1, 1, 1, 1], [0, 1, 5, 36]), ([1, 1, 1], [0, 1, 5])], stops := [[1, 1, 0, 1, 1, 1, 1], [1, 1, 1]], muts := [], acts := [(15, 15)] }),
  (60, { keeps := [([1, 0, 1], [0, 1, 24]), ([0, 0, 1, 0, 1, 1], [0, 1, 5]), ([1, 1, 0, 0, 1, 0, 0, 1, 0, 1, 1], [0, 1, 5, 52])], stops := [[1, 0, 1], [0, 0, 1, 0, 1, 1], [1, 1, 0, 0, 1, 0, 0, 1, 0, 1, 1]], muts := [], acts := [] }),
  (61, { keeps := [([1, 1, 1, 1, 1, 1, 1, 1, 1, 0, 0, 1], [17])], stops := [[1, 1, 1, 1, 1, 1, 1, 1, 1, 0, 0, 1]], muts := [], acts := [] }),
  (57, { keeps := [([0, 0, 1, 0, 1, 1, 0, 1], [0, 5, 6]), ([0, 0, 1, 0, 1, 0, 1, 0, 0, 1, 0, 1, 1, 0, 1], [0, 5, 6, 25, 26, 27])], stops := [[0, 0, 1, 0, 1, 1, 0, 1], [0, 0, 1, 0, 1, 0, 1, 0, 0, 1, 0, 1, 1, 0, 1]], muts := [(7, 0)], acts := [] }),
  (58, { keeps := [], stops := [], muts := [], acts := [] }),
  (59, { keeps := [], stops := [], muts := [], acts := [] })]
noncomputable def ap : AProg := { fns := fns, tab := tab, eqs := [(34, [.i, .s, .s, .i]), (42, [.s, .i, .i, .i])], notes := notes, globs := [(1, glob1), (0, glob0)], prims := [(39, .bldStr), (40, .bldByte), (41, .bldString), (43, .index), (63, .indexByte)], bld := 66, u8 := 5, draws := true }
end Go.Proofs.YtigdijdpggjpiaaDoor
