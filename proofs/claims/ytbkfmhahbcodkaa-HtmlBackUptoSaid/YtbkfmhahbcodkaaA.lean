/- The program as the value machine takes it: printed by gen.py out of Lean's print of the loaded program. -/
import Derived.Test.YtbkfmhahbcodkaaProg
import Derived.Test.YtbkfmhahbcodkaaStLim
import Derived.KernelRfl
namespace Go.Proofs.Ytbkfmhahbcodkaa
open Go.St
def td1 : TD := ⟨.func, 1, 8, [.nilfn]⟩
def td2 : TD := ⟨(.int .i64), 1, 8, [.int .i64 0]⟩
def td3 : TD := ⟨(.int .i64), 1, 8, [.int .i64 0]⟩
def td4 : TD := ⟨.bool, 1, 1, [.bool false]⟩
def td5 : TD := ⟨(.int .u8), 1, 1, [.int .u8 0]⟩
def td6 : TD := ⟨(.int .u8), 1, 1, [.int .u8 0]⟩
def td7 : TD := ⟨(.struct [(0, 2), (1, 3), (2, 4), (3, 6)]), 4, 24, [.int .i64 0, .int .i64 0, .bool false, .int .u8 0]⟩
def td8 : TD := ⟨(.struct [(0, 2), (1, 3), (2, 4), (3, 6)]), 4, 24, [.int .i64 0, .int .i64 0, .bool false, .int .u8 0]⟩
def td9 : TD := ⟨.str, 1, 16, [.str ⟨#[]⟩]⟩
def td10 : TD := ⟨.str, 1, 16, [.str ⟨#[]⟩]⟩
def td11 : TD := ⟨.str, 1, 16, [.str ⟨#[]⟩]⟩
def td12 : TD := ⟨(.int .u64), 1, 8, [.int .u64 0]⟩
def td13 : TD := ⟨(.struct [(0, 9), (1, 12)]), 2, 24, [.str ⟨#[]⟩, .int .u64 0]⟩
def td14 : TD := ⟨(.struct [(0, 9), (1, 12)]), 2, 24, [.str ⟨#[]⟩, .int .u64 0]⟩
def td15 : TD := ⟨(.ptr 48), 1, 8, [.nilp]⟩
def td16 : TD := ⟨(.ptr 51), 1, 8, [.nilp]⟩
def td17 : TD := ⟨(.ptr 60), 1, 8, [.nilp]⟩
def td18 : TD := ⟨(.struct [(0, 17)]), 1, 8, [.nilp]⟩
def td19 : TD := ⟨(.struct [(0, 17)]), 1, 8, [.nilp]⟩
def td20 : TD := ⟨(.iface 0), 1, 16, [.nili]⟩
def td21 : TD := ⟨(.int .i32), 1, 4, [.int .i32 0]⟩
def td22 : TD := ⟨.func, 1, 8, [.nilfn]⟩
def td23 : TD := ⟨.func, 1, 8, [.nilfn]⟩
def td24 : TD := ⟨.func, 1, 8, [.nilfn]⟩
def td25 : TD := ⟨(.int .i64), 1, 8, [.int .i64 0]⟩
def td27 : TD := ⟨.func, 1, 8, [.nilfn]⟩
def td29 : TD := ⟨.func, 1, 8, [.nilfn]⟩
def td30 : TD := ⟨.func, 1, 8, [.nilfn]⟩
def td31 : TD := ⟨.func, 1, 8, [.nilfn]⟩
def td32 : TD := ⟨.func, 1, 8, [.nilfn]⟩
def td33 : TD := ⟨(.ptr 36), 1, 8, [.nilp]⟩
def td34 : TD := ⟨(.slice 5), 1, 24, [.nils]⟩
def td35 : TD := ⟨(.struct [(0, 33), (1, 34)]), 2, 32, [.nilp, .nils]⟩
def td36 : TD := ⟨(.struct [(0, 33), (1, 34)]), 2, 32, [.nilp, .nils]⟩
def td37 : TD := ⟨(.iface 1), 1, 16, [.nili]⟩
def td38 : TD := ⟨(.iface 1), 1, 16, [.nili]⟩
def td39 : TD := ⟨.func, 1, 8, [.nilfn]⟩
def td40 : TD := ⟨.func, 1, 8, [.nilfn]⟩
def td41 : TD := ⟨.func, 1, 8, [.nilfn]⟩
def td43 : TD := ⟨.func, 1, 8, [.nilfn]⟩
def td44 : TD := ⟨(.ptr 5), 1, 8, [.nilp]⟩
def td45 : TD := ⟨.unsafeP, 1, 8, [.nilp]⟩
def td46 : TD := ⟨.func, 1, 8, [.nilfn]⟩
def td47 : TD := ⟨(.struct [(0, 17), (1, 17), (2, 17), (3, 9)]), 4, 40, [.nilp, .nilp, .nilp, .str ⟨#[]⟩]⟩
def td48 : TD := ⟨(.struct [(0, 17), (1, 17), (2, 17), (3, 9)]), 4, 40, [.nilp, .nilp, .nilp, .str ⟨#[]⟩]⟩
def td49 : TD := ⟨(.arr 0 16), 0, 0, []⟩
def td50 : TD := ⟨(.struct [(0, 49)]), 0, 0, []⟩
def td51 : TD := ⟨(.struct [(0, 49)]), 0, 0, []⟩
def td52 : TD := ⟨.func, 1, 8, [.nilfn]⟩
def td53 : TD := ⟨(.int .u32), 1, 4, [.int .u32 0]⟩
def td54 : TD := ⟨(.int .u8), 1, 1, [.int .u8 0]⟩
def td55 : TD := ⟨(.int .u8), 1, 1, [.int .u8 0]⟩
def td56 : TD := ⟨.func, 1, 8, [.nilfn]⟩
def td57 : TD := ⟨(.int .i32), 1, 4, [.int .i32 0]⟩
def td58 : TD := ⟨(.int .i32), 1, 4, [.int .i32 0]⟩
def td59 : TD := ⟨(.struct [(0, 12), (1, 12), (2, 53), (3, 54), (4, 5), (5, 5), (6, 55), (7, 56), (8, 44), (9, 57), (10, 58)]), 11, 48, [.int .u64 0, .int .u64 0, .int .u32 0, .int .u8 0, .int .u8 0, .int .u8 0, .int .u8 0, .nilfn, .nilp, .int .i32 0, .int .i32 0]⟩
def td60 : TD := ⟨(.struct [(0, 12), (1, 12), (2, 53), (3, 54), (4, 5), (5, 5), (6, 55), (7, 56), (8, 44), (9, 57), (10, 58)]), 11, 48, [.int .u64 0, .int .u64 0, .int .u32 0, .int .u8 0, .int .u8 0, .int .u8 0, .int .u8 0, .nilfn, .nilp, .int .i32 0, .int .i32 0]⟩
noncomputable def tab : List (TypeId × TD) := [(1, td1), (2, td2), (3, td3), (4, td4), (5, td5), (6, td6), (7, td7), (8, td8), (9, td9), (10, td10), (11, td11), (12, td12), (13, td13), (14, td14), (15, td15), (16, td16), (17, td17), (18, td18), (19, td19), (20, td20), (21, td21), (22, td22), (23, td23), (24, td24), (25, td25), (27, td27), (29, td29), (30, td30), (31, td31), (32, td32), (33, td33), (34, td34), (35, td35), (36, td36), (37, td37), (38, td38), (39, td39), (40, td40), (41, td41), (43, td43), (44, td44), (45, td45), (46, td46), (47, td47), (48, td48), (49, td49), (50, td50), (51, td51), (52, td52), (53, td53), (54, td54), (55, td55), (56, td56), (57, td57), (58, td58), (59, td59), (60, td60)]
noncomputable def fns : List (FuncId × Func) := [(3, Try.f3), (4, Try.f4), (5, Try.f5), (13, Try.f13), (6, Try.f6), (7, Try.f7), (8, Try.f8), (9, Try.f9), (10, Try.f10), (11, Try.f11), (12, Try.f12), (14, Try.f14), (15, Try.f15), (17, Try.f17), (18, Try.f18), (20, Try.f20), (23, Try.f23)]
noncomputable def notes : List (FuncId × Note) := [
  (3, { keeps := [], stops := [], muts := [], acts := [] }),
  (4, { keeps := [], stops := [], muts := [], acts := [] }),
  (5, { keeps := [([1, 0, 1, 1, 1, 1], [0, 52]), ([0, 0, 1, 0, 1, 1, 1, 1, 1, 1], [9, 10]), ([1, 0, 0, 1, 0, 0, 1, 0, 1, 1, 1, 1, 1, 1], [9, 10, 82])], stops := [[1, 0, 1, 1, 1, 1], [0, 0, 1, 0, 1, 1, 1, 1, 1, 1], [1, 0, 0, 1, 0, 0, 1, 0, 1, 1, 1, 1, 1, 1]], muts := [], acts := [] }),
  (13, { keeps := [], stops := [], muts := [], acts := [] }),
  (6, { keeps := [], stops := [], muts := [], acts := [] }),
  (7, { keeps := [], stops := [], muts := [], acts := [] }),
  (8, { keeps := [], stops := [], muts := [], acts := [] }),
  (9, { keeps := [], stops := [], muts := [], acts := [] }),
  (10, { keeps := [], stops := [], muts := [], acts := [] }),
  (11, { keeps := [([0, 0, 1, 0, 1, 1, 0, 1], [0, 5, 6]), ([0, 0, 1, 0, 1, 0, 1, 0, 0, 1, 0, 1, 1, 0, 1], [0, 5, 6, 25, 26, 27])], stops := [[0, 0, 1, 0, 1, 1, 0, 1], [0, 0, 1, 0, 1, 0, 1, 0, 0, 1, 0, 1, 1, 0, 1]], muts := [(7, 0)], acts := [] }),
  (12, { keeps := [([0, 0, 0, 1, 1, 1], [0, 5, 6]), ([0, 0, 1, 0, 1, 1, 1, 0, 1, 0, 0, 0, 1, 1, 1], [0, 5, 6, 7, 8, 9]), ([1, 0, 0, 0, 1, 0, 1, 1, 1, 0, 1, 0, 0, 0, 1, 1, 1], [0, 5, 6, 7, 8, 9, 34]), ([1, 1, 0, 0, 1, 0, 0, 1, 0, 1, 1, 1, 0, 1, 0, 0, 0, 1, 1, 1], [0, 5, 6, 7, 8, 9, 10, 58]), ([1, 1, 0, 0, 1, 0, 1, 1, 1, 0, 1, 0, 0, 0, 1, 1, 1], [0, 5, 6, 7, 8, 9])], stops := [[0, 0, 0, 1, 1, 1], [0, 0, 1, 0, 1, 1, 1, 0, 1, 0, 0, 0, 1, 1, 1], [1, 0, 0, 0, 1, 0, 1, 1, 1, 0, 1, 0, 0, 0, 1, 1, 1], [1, 1, 0, 0, 1, 0, 0, 1, 0, 1, 1, 1, 0, 1, 0, 0, 0, 1, 1, 1], [1, 1, 0, 0, 1, 0, 1, 1, 1, 0, 1, 0, 0, 0, 1, 1, 1]], muts := [], acts := [] }),
  (14, { keeps := [([0, 0, 1, 0, 1, 1], [0, 1, 5, 9, 10]), ([1, 1, 1, 0, 0, 1, 0, 1, 1], [0, 1, 5, 9, 10])], stops := [[0, 0, 1, 0, 1, 1], [1, 1, 1, 0, 0, 1, 0, 1, 1]], muts := [], acts := [] }),
  (15, { keeps := [([0, 0, 1, 0, 1, 1], [0, 1, 5, 6]), ([1, 1, 0, 0, 1, 0, 1, 1], [0, 1, 5, 6])], stops := [[0, 0, 1, 0, 1, 1], [1, 1, 0, 0, 1, 0, 1, 1]], muts := [], acts := [] }),
  (17, { keeps := [([1, 1], [])], stops := [[1, 1]], muts := [], acts := [] }),
  (18, { keeps := [], stops := [], muts := [], acts := [] }),
  (20, { keeps := [([1, 1, 1, 1, 1, 1, 1, 1, 1, 0, 0, 1], [17])], stops := [[1, 1, 1, 1, 1, 1, 1, 1, 1, 0, 0, 1]], muts := [], acts := [] }),
  (23, { keeps := [], stops := [], muts := [], acts := [] })]
noncomputable def ap : AProg := { fns := fns, tab := tab, eqs := [], notes := notes, globs := [], prims := [(16, .bldByte), (19, .bldString), (21, .bldStr)], bld := 36, u8 := 5 }
end Go.Proofs.Ytbkfmhahbcodkaa
