/- The program as the value machine takes it: printed by gen.py out of Lean's print of the loaded program. -/
import Derived.Test.YtfbgcphjilpknaaDoorProg
import Derived.Test.YtfbgcphjilpknaaDoorStLim
import Derived.KernelRfl
namespace Go.Proofs.YtfbgcphjilpknaaDoor
open Go.St
def td1 : TD := ⟨.func, 1, 8, [.nilfn]⟩
def td2 : TD := ⟨(.int .i64), 1, 8, [.int .i64 0]⟩
def td3 : TD := ⟨(.int .i64), 1, 8, [.int .i64 0]⟩
def td4 : TD := ⟨.bool, 1, 1, [.bool false]⟩
def td5 : TD := ⟨(.int .u8), 1, 1, [.int .u8 0]⟩
def td6 : TD := ⟨(.int .u8), 1, 1, [.int .u8 0]⟩
def td7 : TD := ⟨(.struct [(0, 2), (1, 3), (2, 4), (3, 6)]), 4, 24, [.int .i64 0, .int .i64 0, .bool false, .int .u8 0]⟩
def td8 : TD := ⟨(.struct [(0, 2), (1, 3), (2, 4), (3, 6)]), 4, 24, [.int .i64 0, .int .i64 0, .bool false, .int .u8 0]⟩
def td9 : TD := ⟨.str, 1, 16, [.str ⟨#[]⟩]⟩
def td10 : TD := ⟨.str, 1, 16, [.str ⟨#[]⟩]⟩
def td11 : TD := ⟨.str, 1, 16, [.str ⟨#[]⟩]⟩
def td12 : TD := ⟨(.int .u64), 1, 8, [.int .u64 0]⟩
def td13 : TD := ⟨(.struct [(0, 9), (1, 12)]), 2, 24, [.str ⟨#[]⟩, .int .u64 0]⟩
def td14 : TD := ⟨(.struct [(0, 9), (1, 12)]), 2, 24, [.str ⟨#[]⟩, .int .u64 0]⟩
def td15 : TD := ⟨(.ptr 91), 1, 8, [.nilp]⟩
def td16 : TD := ⟨(.ptr 94), 1, 8, [.nilp]⟩
def td17 : TD := ⟨(.ptr 102), 1, 8, [.nilp]⟩
def td18 : TD := ⟨(.struct [(0, 17)]), 1, 8, [.nilp]⟩
def td19 : TD := ⟨(.struct [(0, 17)]), 1, 8, [.nilp]⟩
def td20 : TD := ⟨(.iface 0), 1, 16, [.nili]⟩
def td21 : TD := ⟨(.int .i32), 1, 4, [.int .i32 0]⟩
def td22 : TD := ⟨(.int .i64), 1, 8, [.int .i64 0]⟩
def td24 : TD := ⟨.func, 1, 8, [.nilfn]⟩
def td26 : TD := ⟨.func, 1, 8, [.nilfn]⟩
def td27 : TD := ⟨.func, 1, 8, [.nilfn]⟩
def td28 : TD := ⟨.func, 1, 8, [.nilfn]⟩
def td29 : TD := ⟨.func, 1, 8, [.nilfn]⟩
def td30 : TD := ⟨.func, 1, 8, [.nilfn]⟩
def td31 : TD := ⟨.func, 1, 8, [.nilfn]⟩
def td32 : TD := ⟨.func, 1, 8, [.nilfn]⟩
def td33 : TD := ⟨.func, 1, 8, [.nilfn]⟩
def td34 : TD := ⟨.func, 1, 8, [.nilfn]⟩
def td35 : TD := ⟨.func, 1, 8, [.nilfn]⟩
def td36 : TD := ⟨.func, 1, 8, [.nilfn]⟩
def td37 : TD := ⟨.func, 1, 8, [.nilfn]⟩
def td38 : TD := ⟨.func, 1, 8, [.nilfn]⟩
def td39 : TD := ⟨.func, 1, 8, [.nilfn]⟩
def td40 : TD := ⟨(.int .i8), 1, 1, [.int .i8 0]⟩
def td41 : TD := ⟨(.int .i16), 1, 2, [.int .i16 0]⟩
def td42 : TD := ⟨(.int .u16), 1, 2, [.int .u16 0]⟩
def td43 : TD := ⟨(.int .u32), 1, 4, [.int .u32 0]⟩
def td44 : TD := ⟨(.int .u64), 1, 8, [.int .u64 0]⟩
def td45 : TD := ⟨.func, 1, 8, [.nilfn]⟩
def td46 : TD := ⟨.func, 1, 8, [.nilfn]⟩
def td47 : TD := ⟨.func, 1, 8, [.nilfn]⟩
def td48 : TD := ⟨(.iface 1), 1, 16, [.nili]⟩
def td49 : TD := ⟨(.iface 1), 1, 16, [.nili]⟩
def td51 : TD := ⟨.func, 1, 8, [.nilfn]⟩
def td52 : TD := ⟨(.slice 5), 1, 24, [.nils]⟩
def td53 : TD := ⟨.func, 1, 8, [.nilfn]⟩
def td54 : TD := ⟨(.int .u64), 1, 8, [.int .u64 0]⟩
def td56 : TD := ⟨.func, 1, 8, [.nilfn]⟩
def td57 : TD := ⟨.func, 1, 8, [.nilfn]⟩
def td58 : TD := ⟨(.int .i64), 1, 8, [.int .i64 0]⟩
def td60 : TD := ⟨.func, 1, 8, [.nilfn]⟩
def td61 : TD := ⟨(.ptr 69), 1, 8, [.nilp]⟩
def td62 : TD := ⟨.func, 1, 8, [.nilfn]⟩
def td63 : TD := ⟨.func, 1, 8, [.nilfn]⟩
def td64 : TD := ⟨.func, 1, 8, [.nilfn]⟩
def td66 : TD := ⟨.func, 1, 8, [.nilfn]⟩
def td67 : TD := ⟨.func, 1, 8, [.nilfn]⟩
def td68 : TD := ⟨(.struct [(0, 9), (1, 9), (2, 49)]), 3, 48, [.str ⟨#[]⟩, .str ⟨#[]⟩, .nili]⟩
def td69 : TD := ⟨(.struct [(0, 9), (1, 9), (2, 49)]), 3, 48, [.str ⟨#[]⟩, .str ⟨#[]⟩, .nili]⟩
def td70 : TD := ⟨.func, 1, 8, [.nilfn]⟩
def td71 : TD := ⟨(.arr 24 5), 24, 24, [.int .u8 0, .int .u8 0, .int .u8 0, .int .u8 0, .int .u8 0, .int .u8 0, .int .u8 0, .int .u8 0, .int .u8 0, .int .u8 0, .int .u8 0, .int .u8 0, .int .u8 0, .int .u8 0, .int .u8 0, .int .u8 0, .int .u8 0, .int .u8 0, .int .u8 0, .int .u8 0, .int .u8 0, .int .u8 0, .int .u8 0, .int .u8 0]⟩
def td72 : TD := ⟨.func, 1, 8, [.nilfn]⟩
def td73 : TD := ⟨.func, 1, 8, [.nilfn]⟩
def td75 : TD := ⟨.func, 1, 8, [.nilfn]⟩
def td76 : TD := ⟨.func, 1, 8, [.nilfn]⟩
def td77 : TD := ⟨(.ptr 5), 1, 8, [.nilp]⟩
def td78 : TD := ⟨(.ptr 80), 1, 8, [.nilp]⟩
def td79 : TD := ⟨(.struct [(0, 9)]), 1, 16, [.str ⟨#[]⟩]⟩
def td80 : TD := ⟨(.struct [(0, 9)]), 1, 16, [.str ⟨#[]⟩]⟩
def td81 : TD := ⟨.func, 1, 8, [.nilfn]⟩
def td82 : TD := ⟨.func, 1, 8, [.nilfn]⟩
def td83 : TD := ⟨(.arr 20 44), 20, 160, [.int .u64 0, .int .u64 0, .int .u64 0, .int .u64 0, .int .u64 0, .int .u64 0, .int .u64 0, .int .u64 0, .int .u64 0, .int .u64 0, .int .u64 0, .int .u64 0, .int .u64 0, .int .u64 0, .int .u64 0, .int .u64 0, .int .u64 0, .int .u64 0, .int .u64 0, .int .u64 0]⟩
def td84 : TD := ⟨(.arr 65 5), 65, 65, [.int .u8 0, .int .u8 0, .int .u8 0, .int .u8 0, .int .u8 0, .int .u8 0, .int .u8 0, .int .u8 0, .int .u8 0, .int .u8 0, .int .u8 0, .int .u8 0, .int .u8 0, .int .u8 0, .int .u8 0, .int .u8 0, .int .u8 0, .int .u8 0, .int .u8 0, .int .u8 0, .int .u8 0, .int .u8 0, .int .u8 0, .int .u8 0, .int .u8 0, .int .u8 0, .int .u8 0, .int .u8 0, .int .u8 0, .int .u8 0, .int .u8 0, .int .u8 0, .int .u8 0, .int .u8 0, .int .u8 0, .int .u8 0, .int .u8 0, .int .u8 0, .int .u8 0, .int .u8 0, .int .u8 0, .int .u8 0, .int .u8 0, .int .u8 0, .int .u8 0, .int .u8 0, .int .u8 0, .int .u8 0, .int .u8 0, .int .u8 0, .int .u8 0, .int .u8 0, .int .u8 0, .int .u8 0, .int .u8 0, .int .u8 0, .int .u8 0, .int .u8 0, .int .u8 0, .int .u8 0, .int .u8 0, .int .u8 0, .int .u8 0, .int .u8 0, .int .u8 0]⟩
def td85 : TD := ⟨.func, 1, 8, [.nilfn]⟩
def td86 : TD := ⟨.func, 1, 8, [.nilfn]⟩
def td87 : TD := ⟨(.arr 32 5), 32, 32, [.int .u8 0, .int .u8 0, .int .u8 0, .int .u8 0, .int .u8 0, .int .u8 0, .int .u8 0, .int .u8 0, .int .u8 0, .int .u8 0, .int .u8 0, .int .u8 0, .int .u8 0, .int .u8 0, .int .u8 0, .int .u8 0, .int .u8 0, .int .u8 0, .int .u8 0, .int .u8 0, .int .u8 0, .int .u8 0, .int .u8 0, .int .u8 0, .int .u8 0, .int .u8 0, .int .u8 0, .int .u8 0, .int .u8 0, .int .u8 0, .int .u8 0, .int .u8 0]⟩
def td88 : TD := ⟨(.arr 64 5), 64, 64, [.int .u8 0, .int .u8 0, .int .u8 0, .int .u8 0, .int .u8 0, .int .u8 0, .int .u8 0, .int .u8 0, .int .u8 0, .int .u8 0, .int .u8 0, .int .u8 0, .int .u8 0, .int .u8 0, .int .u8 0, .int .u8 0, .int .u8 0, .int .u8 0, .int .u8 0, .int .u8 0, .int .u8 0, .int .u8 0, .int .u8 0, .int .u8 0, .int .u8 0, .int .u8 0, .int .u8 0, .int .u8 0, .int .u8 0, .int .u8 0, .int .u8 0, .int .u8 0, .int .u8 0, .int .u8 0, .int .u8 0, .int .u8 0, .int .u8 0, .int .u8 0, .int .u8 0, .int .u8 0, .int .u8 0, .int .u8 0, .int .u8 0, .int .u8 0, .int .u8 0, .int .u8 0, .int .u8 0, .int .u8 0, .int .u8 0, .int .u8 0, .int .u8 0, .int .u8 0, .int .u8 0, .int .u8 0, .int .u8 0, .int .u8 0, .int .u8 0, .int .u8 0, .int .u8 0, .int .u8 0, .int .u8 0, .int .u8 0, .int .u8 0, .int .u8 0]⟩
def td89 : TD := ⟨.func, 1, 8, [.nilfn]⟩
def td90 : TD := ⟨(.struct [(0, 17), (1, 17), (2, 17), (3, 9)]), 4, 40, [.nilp, .nilp, .nilp, .str ⟨#[]⟩]⟩
def td91 : TD := ⟨(.struct [(0, 17), (1, 17), (2, 17), (3, 9)]), 4, 40, [.nilp, .nilp, .nilp, .str ⟨#[]⟩]⟩
def td92 : TD := ⟨(.arr 0 16), 0, 0, []⟩
def td93 : TD := ⟨(.struct [(0, 92)]), 0, 0, []⟩
def td94 : TD := ⟨(.struct [(0, 92)]), 0, 0, []⟩
def td95 : TD := ⟨.func, 1, 8, [.nilfn]⟩
def td96 : TD := ⟨(.int .u8), 1, 1, [.int .u8 0]⟩
def td97 : TD := ⟨(.int .u8), 1, 1, [.int .u8 0]⟩
def td98 : TD := ⟨.func, 1, 8, [.nilfn]⟩
def td99 : TD := ⟨(.int .i32), 1, 4, [.int .i32 0]⟩
def td100 : TD := ⟨(.int .i32), 1, 4, [.int .i32 0]⟩
def td101 : TD := ⟨(.struct [(0, 12), (1, 12), (2, 43), (3, 96), (4, 5), (5, 5), (6, 97), (7, 98), (8, 77), (9, 99), (10, 100)]), 11, 48, [.int .u64 0, .int .u64 0, .int .u32 0, .int .u8 0, .int .u8 0, .int .u8 0, .int .u8 0, .nilfn, .nilp, .int .i32 0, .int .i32 0]⟩
def td102 : TD := ⟨(.struct [(0, 12), (1, 12), (2, 43), (3, 96), (4, 5), (5, 5), (6, 97), (7, 98), (8, 77), (9, 99), (10, 100)]), 11, 48, [.int .u64 0, .int .u64 0, .int .u32 0, .int .u8 0, .int .u8 0, .int .u8 0, .int .u8 0, .nilfn, .nilp, .int .i32 0, .int .i32 0]⟩
def td103 : TD := ⟨.unsafeP, 1, 8, [.nilp]⟩
def glob3 : List AV := [.int .u8 0, .int .u8 1, .int .u8 28, .int .u8 2, .int .u8 29, .int .u8 14, .int .u8 24, .int .u8 3, .int .u8 30, .int .u8 22, .int .u8 20, .int .u8 15, .int .u8 25, .int .u8 17, .int .u8 4, .int .u8 8, .int .u8 31, .int .u8 27, .int .u8 13, .int .u8 23, .int .u8 21, .int .u8 19, .int .u8 16, .int .u8 7, .int .u8 26, .int .u8 12, .int .u8 18, .int .u8 6, .int .u8 11, .int .u8 5, .int .u8 10, .int .u8 9]
def glob4 : List AV := [.int .u8 0, .int .u8 1, .int .u8 56, .int .u8 2, .int .u8 57, .int .u8 49, .int .u8 28, .int .u8 3, .int .u8 61, .int .u8 58, .int .u8 42, .int .u8 50, .int .u8 38, .int .u8 29, .int .u8 17, .int .u8 4, .int .u8 62, .int .u8 47, .int .u8 59, .int .u8 36, .int .u8 45, .int .u8 43, .int .u8 51, .int .u8 22, .int .u8 53, .int .u8 39, .int .u8 33, .int .u8 30, .int .u8 24, .int .u8 18, .int .u8 12, .int .u8 5, .int .u8 63, .int .u8 55, .int .u8 48, .int .u8 27, .int .u8 60, .int .u8 41, .int .u8 37, .int .u8 16, .int .u8 46, .int .u8 35, .int .u8 44, .int .u8 21, .int .u8 52, .int .u8 32, .int .u8 23, .int .u8 11, .int .u8 54, .int .u8 26, .int .u8 40, .int .u8 15, .int .u8 34, .int .u8 20, .int .u8 31, .int .u8 10, .int .u8 25, .int .u8 14, .int .u8 19, .int .u8 9, .int .u8 13, .int .u8 8, .int .u8 7, .int .u8 6]
def glob2 : List AV := [.int .u64 1, .int .u64 10, .int .u64 100, .int .u64 1000, .int .u64 10000, .int .u64 100000, .int .u64 1000000, .int .u64 10000000, .int .u64 100000000, .int .u64 1000000000, .int .u64 10000000000, .int .u64 100000000000, .int .u64 1000000000000, .int .u64 10000000000000, .int .u64 100000000000000, .int .u64 1000000000000000, .int .u64 10000000000000000, .int .u64 100000000000000000, .int .u64 1000000000000000000, .int .u64 10000000000000000000]
noncomputable def tab : List (TypeId × TD) := [(1, td1), (2, td2), (3, td3), (4, td4), (5, td5), (6, td6), (7, td7), (8, td8), (9, td9), (10, td10), (11, td11), (12, td12), (13, td13), (14, td14), (15, td15), (16, td16), (17, td17), (18, td18), (19, td19), (20, td20), (21, td21), (22, td22), (24, td24), (26, td26), (27, td27), (28, td28), (29, td29), (30, td30), (31, td31), (32, td32), (33, td33), (34, td34), (35, td35), (36, td36), (37, td37), (38, td38), (39, td39), (40, td40), (41, td41), (42, td42), (43, td43), (44, td44), (45, td45), (46, td46), (47, td47), (48, td48), (49, td49), (51, td51), (52, td52), (53, td53), (54, td54), (56, td56), (57, td57), (58, td58), (60, td60), (61, td61), (62, td62), (63, td63), (64, td64), (66, td66), (67, td67), (68, td68), (69, td69), (70, td70), (71, td71), (72, td72), (73, td73), (75, td75), (76, td76), (77, td77), (78, td78), (79, td79), (80, td80), (81, td81), (82, td82), (83, td83), (84, td84), (85, td85), (86, td86), (87, td87), (88, td88), (89, td89), (90, td90), (91, td91), (92, td92), (93, td93), (94, td94), (95, td95), (96, td96), (97, td97), (98, td98), (99, td99), (100, td100), (101, td101), (102, td102), (103, td103)]
noncomputable def fns : List (FuncId × Func) := [(3, Tryd.f3), (4, Tryd.f4), (5, Tryd.f5), (6, Tryd.f6), (7, Tryd.f7), (8, Tryd.f8), (13, Tryd.f13), (9, Tryd.f9), (10, Tryd.f10), (11, Tryd.f11), (12, Tryd.f12), (14, Tryd.f14), (15, Tryd.f15), (16, Tryd.f16), (17, Tryd.f17), (18, Tryd.f18), (19, Tryd.f19), (20, Tryd.f20), (21, Tryd.f21), (22, Tryd.f22), (23, Tryd.f23), (24, Tryd.f24), (25, Tryd.f25), (26, Tryd.f26), (27, Tryd.f27), (28, Tryd.f28), (29, Tryd.f29), (30, Tryd.f30), (31, Tryd.f31), (32, Tryd.f32), (33, Tryd.f33), (34, Tryd.f34), (35, Tryd.f35), (36, Tryd.f36), (39, Tryd.f39), (41, Tryd.f41), (40, Tryd.f40)]
noncomputable def notes : List (FuncId × Note) := [
  (3, { keeps := [([1, 0, 1, 1, 1], [0, 1, 2, 7, 8, 40])], stops := [[1, 0, 1, 1, 1]], muts := [], acts := [] }),
  (4, { keeps := [([1, 0, 1, 1, 1, 1], [1, 5, 6, 50])], stops := [[1, 0, 1, 1, 1, 1]], muts := [], acts := [] }),
  (5, { keeps := [([1, 0, 1, 1, 1, 1, 1], [0, 1, 5, 6, 7, 54])], stops := [[1, 0, 1, 1, 1, 1, 1]], muts := [], acts := [] }),
  (6, { keeps := [([1, 0, 1, 1, 1, 1, 1], [0, 1, 5, 6, 56])], stops := [[1, 0, 1, 1, 1, 1, 1]], muts := [], acts := [] }),
  (7, { keeps := [], stops := [], muts := [], acts := [] }),
  (8, { keeps := [([1, 0, 1, 1, 1, 1, 1, 1], [0, 1, 5, 6, 9, 10, 62]), ([1, 0, 1, 1, 1, 1, 1, 1, 1, 1], [0, 1, 9, 81]), ([1, 1, 1, 1, 1, 1, 1, 1], [0, 1, 9, 10])], stops := [[1, 0, 1, 1, 1, 1, 1, 1], [1, 0, 1, 1, 1, 1, 1, 1, 1, 1], [1, 1, 1, 1, 1, 1, 1, 1]], muts := [], acts := [] }),
  (13, { keeps := [], stops := [], muts := [], acts := [] }),
  (9, { keeps := [([1, 1, 1, 1, 1, 1, 1, 1, 1, 0, 0, 1], [0, 1, 38]), ([1, 1, 1, 1, 1, 0, 0, 1], [0, 1, 2, 23]), ([1, 0, 0, 1], [0, 1, 2, 8])], stops := [[1, 1, 1, 1, 1, 1, 1, 1, 1, 0, 0, 1], [1, 1, 1, 1, 1, 0, 0, 1], [1, 0, 0, 1]], muts := [], acts := [] }),
  (10, { keeps := [([1, 0, 1], [0, 1, 2, 19]), ([1, 0, 1, 1, 1, 1], [2, 8, 9, 31]), ([1, 0, 1, 1, 1, 1, 1], [8, 9, 41]), ([1, 1, 1, 1, 1], [2, 8, 9])], stops := [[1, 0, 1], [1, 0, 1, 1, 1, 1], [1, 0, 1, 1, 1, 1, 1], [1, 1, 1, 1, 1]], muts := [], acts := [] }),
  (11, { keeps := [], stops := [], muts := [], acts := [] }),
  (12, { keeps := [], stops := [], muts := [], acts := [] }),
  (14, { keeps := [], stops := [], muts := [], acts := [] }),
  (15, { keeps := [([1, 0, 1, 1, 1, 1], [4, 5, 32]), ([0, 0, 1, 0, 1, 1, 1, 1, 1, 1, 1], [4, 5, 6, 7, 8]), ([1, 0, 0, 0, 1, 0, 0, 1, 0, 1, 1, 1, 1, 1, 1, 1], [4, 5, 6, 7, 8, 48]), ([1, 1, 0, 0, 1, 0, 0, 1, 0, 1, 1, 1, 1, 1, 1, 1], [4, 5, 6, 7, 8]), ([1, 1, 1, 1], [0, 4, 5]), ([1, 1, 1], [0, 4, 5])], stops := [[1, 0, 1, 1, 1, 1], [0, 0, 1, 0, 1, 1, 1, 1, 1, 1, 1], [1, 0, 0, 0, 1, 0, 0, 1, 0, 1, 1, 1, 1, 1, 1, 1], [1, 1, 0, 0, 1, 0, 0, 1, 0, 1, 1, 1, 1, 1, 1, 1], [1, 1, 1, 1], [1, 1, 1]], muts := [], acts := [] }),
  (16, { keeps := [], stops := [], muts := [], acts := [] }),
  (17, { keeps := [([0, 0, 0, 1, 1, 1], [0, 3, 4]), ([1, 0, 0, 0, 0, 1, 1, 1], [0, 3, 4, 13]), ([1, 1, 1, 1, 1], [4])], stops := [[0, 0, 0, 1, 1, 1], [1, 0, 0, 0, 0, 1, 1, 1], [1, 1, 1, 1, 1]], muts := [], acts := [] }),
  (18, { keeps := [], stops := [], muts := [], acts := [] }),
  (19, { keeps := [], stops := [], muts := [], acts := [] }),
  (20, { keeps := [], stops := [], muts := [], acts := [] }),
  (21, { keeps := [], stops := [], muts := [], acts := [] }),
  (22, { keeps := [], stops := [], muts := [], acts := [] }),
  (23, { keeps := [], stops := [], muts := [], acts := [] }),
  (24, { keeps := [([1, 0, 1], [0, 1, 14]), ([0, 0, 1, 0, 1, 1, 1, 1], [0, 1, 6, 7, 8])], stops := [[1, 0, 1], [0, 0, 1, 0, 1, 1, 1, 1]], muts := [], acts := [] }),
  (25, { keeps := [([1, 0, 1], [0, 1, 12])], stops := [[1, 0, 1]], muts := [], acts := [] }),
  (26, { keeps := [], stops := [], muts := [], acts := [] }),
  (27, { keeps := [], stops := [], muts := [], acts := [] }),
  (28, { keeps := [([1, 0, 0, 1, 1, 1, 1, 1], [7, 8, 26]), ([1, 1, 1, 1, 1], [6, 7, 8, 9])], stops := [[1, 0, 0, 1, 1, 1, 1, 1], [1, 1, 1, 1, 1]], muts := [], acts := [] }),
  (29, { keeps := [], stops := [], muts := [], acts := [] }),
  (30, { keeps := [([1, 1, 0, 1, 0, 1, 1, 1], [0, 6, 7, 8])], stops := [[1, 1, 0, 1, 0, 1, 1, 1]], muts := [], acts := [] }),
  (31, { keeps := [([1, 1, 0, 1, 0, 1, 1, 1], [0, 6, 7, 8])], stops := [[1, 1, 0, 1, 0, 1, 1, 1]], muts := [], acts := [] }),
  (32, { keeps := [], stops := [], muts := [], acts := [] }),
  (33, { keeps := [], stops := [], muts := [], acts := [] }),
  (34, { keeps := [], stops := [], muts := [], acts := [] }),
  (35, { keeps := [([1, 0, 1, 1], [0, 2, 24]), ([1, 0, 1, 1, 1], [2, 29])], stops := [[1, 0, 1, 1], [1, 0, 1, 1, 1]], muts := [], acts := [] }),
  (36, { keeps := [([1, 0, 1, 1], [0, 13]), ([0, 0, 1, 0, 1, 1, 1], [0, 17, 18]), ([1, 1, 0, 0, 1, 1, 0, 0, 1, 0, 1, 1, 1], [0, 17, 18, 30]), ([1, 1, 1], [0])], stops := [[1, 0, 1, 1], [0, 0, 1, 0, 1, 1, 1], [1, 1, 0, 0, 1, 1, 0, 0, 1, 0, 1, 1, 1], [1, 1, 1]], muts := [], acts := [] }),
  (39, { keeps := [], stops := [], muts := [], acts := [] }),
  (41, { keeps := [], stops := [], muts := [], acts := [] }),
  (40, { keeps := [], stops := [], muts := [], acts := [] })]
noncomputable def ap : AProg := { fns := fns, tab := tab, eqs := [], notes := notes, globs := [(3, glob3), (4, glob4), (2, glob2)], prims := [(37, .atoi 61), (38, .itoa)], bld := 99999, u8 := 5, draws := true }
end Go.Proofs.YtfbgcphjilpknaaDoor
