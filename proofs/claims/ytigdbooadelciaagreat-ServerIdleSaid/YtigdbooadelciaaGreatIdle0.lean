/- ServerIdle: states, and what the calls make of them. (Printed by gen_idle.py.) -/
import Derived.Test.YtigdbooadelciaaGreatOvrI
namespace Go.Proofs.YtigdbooadelciaaGreat
set_option linter.unusedVariables false
set_option linter.unusedSimpArgs false
open Go.RowKit

def sta0 : Sta := []
def bytesV (l : List Nat) : List Value := l.map fun b => .int .u8 (.ofNat b)
def pingB (n : Nat) : List Nat := ([[76, 68, 1, 7, 1, 0, 192, 195, 213, 156], [76, 68, 1, 7, 1, 1, 183, 196, 229, 10], [76, 68, 1, 7, 1, 2, 46, 205, 180, 176], [76, 68, 1, 7, 1, 3, 89, 202, 132, 38], [76, 68, 1, 7, 1, 4, 199, 174, 17, 133], [76, 68, 1, 7, 1, 5, 176, 169, 33, 19], [76, 68, 1, 7, 1, 6, 41, 160, 112, 169], [76, 68, 1, 7, 1, 7, 94, 167, 64, 63], [76, 68, 1, 7, 1, 8, 206, 24, 93, 174], [76, 68, 1, 7, 1, 9, 185, 31, 109, 56], [76, 68, 1, 7, 1, 10, 32, 22, 60, 130], [76, 68, 1, 7, 1, 11, 87, 17, 12, 20], [76, 68, 1, 7, 1, 12, 201, 117, 153, 183], [76, 68, 1, 7, 1, 13, 190, 114, 169, 33], [76, 68, 1, 7, 1, 14, 39, 123, 248, 155], [76, 68, 1, 7, 1, 15, 80, 124, 200, 13], [76, 68, 1, 7, 1, 16, 221, 116, 197, 248], [76, 68, 1, 7, 1, 17, 170, 115, 245, 110], [76, 68, 1, 7, 1, 18, 51, 122, 164, 212], [76, 68, 1, 7, 1, 19, 68, 125, 148, 66], [76, 68, 1, 7, 1, 20, 218, 25, 1, 225], [76, 68, 1, 7, 1, 21, 173, 30, 49, 119], [76, 68, 1, 7, 1, 22, 52, 23, 96, 205], [76, 68, 1, 7, 1, 23, 67, 16, 80, 91], [76, 68, 1, 7, 1, 24, 211, 175, 77, 202], [76, 68, 1, 7, 1, 25, 164, 168, 125, 92], [76, 68, 1, 7, 1, 26, 61, 161, 44, 230], [76, 68, 1, 7, 1, 27, 74, 166, 28, 112], [76, 68, 1, 7, 1, 28, 212, 194, 137, 211], [76, 68, 1, 7, 1, 29, 163, 197, 185, 69], [76, 68, 1, 7, 1, 30, 58, 204, 232, 255], [76, 68, 1, 7, 1, 31, 77, 203, 216, 105], [76, 68, 1, 7, 1, 32, 251, 173, 245, 84], [76, 68, 1, 7, 1, 33, 140, 170, 197, 194], [76, 68, 1, 7, 1, 34, 21, 163, 148, 120], [76, 68, 1, 7, 1, 35, 98, 164, 164, 238], [76, 68, 1, 7, 1, 36, 252, 192, 49, 77], [76, 68, 1, 7, 1, 37, 139, 199, 1, 219], [76, 68, 1, 7, 1, 38, 18, 206, 80, 97], [76, 68, 1, 7, 1, 39, 101, 201, 96, 247]] : List (List Nat)).getD n []
def pongB (n : Nat) : List Nat := ([[76, 68, 1, 8, 1, 0, 203, 159, 146, 161], [76, 68, 1, 8, 1, 1, 188, 152, 162, 55], [76, 68, 1, 8, 1, 2, 37, 145, 243, 141], [76, 68, 1, 8, 1, 3, 82, 150, 195, 27], [76, 68, 1, 8, 1, 4, 204, 242, 86, 184], [76, 68, 1, 8, 1, 5, 187, 245, 102, 46], [76, 68, 1, 8, 1, 6, 34, 252, 55, 148], [76, 68, 1, 8, 1, 7, 85, 251, 7, 2], [76, 68, 1, 8, 1, 8, 197, 68, 26, 147], [76, 68, 1, 8, 1, 9, 178, 67, 42, 5], [76, 68, 1, 8, 1, 10, 43, 74, 123, 191], [76, 68, 1, 8, 1, 11, 92, 77, 75, 41], [76, 68, 1, 8, 1, 12, 194, 41, 222, 138], [76, 68, 1, 8, 1, 13, 181, 46, 238, 28], [76, 68, 1, 8, 1, 14, 44, 39, 191, 166], [76, 68, 1, 8, 1, 15, 91, 32, 143, 48], [76, 68, 1, 8, 1, 16, 214, 40, 130, 197], [76, 68, 1, 8, 1, 17, 161, 47, 178, 83], [76, 68, 1, 8, 1, 18, 56, 38, 227, 233], [76, 68, 1, 8, 1, 19, 79, 33, 211, 127], [76, 68, 1, 8, 1, 20, 209, 69, 70, 220], [76, 68, 1, 8, 1, 21, 166, 66, 118, 74], [76, 68, 1, 8, 1, 22, 63, 75, 39, 240], [76, 68, 1, 8, 1, 23, 72, 76, 23, 102], [76, 68, 1, 8, 1, 24, 216, 243, 10, 247], [76, 68, 1, 8, 1, 25, 175, 244, 58, 97], [76, 68, 1, 8, 1, 26, 54, 253, 107, 219], [76, 68, 1, 8, 1, 27, 65, 250, 91, 77], [76, 68, 1, 8, 1, 28, 223, 158, 206, 238], [76, 68, 1, 8, 1, 29, 168, 153, 254, 120], [76, 68, 1, 8, 1, 30, 49, 144, 175, 194], [76, 68, 1, 8, 1, 31, 70, 151, 159, 84], [76, 68, 1, 8, 1, 32, 240, 241, 178, 105], [76, 68, 1, 8, 1, 33, 135, 246, 130, 255], [76, 68, 1, 8, 1, 34, 30, 255, 211, 69], [76, 68, 1, 8, 1, 35, 105, 248, 227, 211], [76, 68, 1, 8, 1, 36, 247, 156, 118, 112], [76, 68, 1, 8, 1, 37, 128, 155, 70, 230], [76, 68, 1, 8, 1, 38, 25, 146, 23, 92], [76, 68, 1, 8, 1, 39, 110, 149, 39, 202]] : List (List Nat)).getD n []
def msgC (kind caps code n : Int) : Value := .agg #[.int .u8 (kind), .int .u32 (0), .int .u32 (caps), .int .u64 (0), .int .u8 (code), .int .u32 (n), .string ⟨#[]⟩, .string ⟨#[]⟩, .int .u8 (0), .int .u8 (0), .bool false, .int .u8 (0), .int .u16 (0), .slice none 0 0, .int .u32 (0), .slice none 0 0, .int .u16 (0), .int .u16 (0), .slice none 0 0, .slice none 0 0, .slice none 0 0, .int .u32 (0), .int .u32 (0), .slice none 0 0, .int .u64 (0), .slice none 0 0, .slice none 0 0, .slice none 0 0]
def msgCells (kind caps code n : Int) : List Value := [.int .u8 (kind), .int .u32 (0), .int .u32 (caps), .int .u64 (0), .int .u8 (code), .int .u32 (n), .string ⟨#[]⟩, .string ⟨#[]⟩, .int .u8 (0), .int .u8 (0), .bool false, .int .u8 (0), .int .u16 (0), .slice none 0 0, .int .u32 (0), .slice none 0 0, .int .u16 (0), .int .u16 (0), .slice none 0 0, .slice none 0 0, .slice none 0 0, .int .u32 (0), .int .u32 (0), .slice none 0 0, .int .u64 (0), .slice none 0 0, .slice none 0 0, .slice none 0 0]
def stN (idle : Int) : Sta := [(1, .cells [.slice none 0 0, .int .i64 (4), .int .u32 (3), .int .u32 (idle), .int .u32 (1000), .int .u32 (20), .pointer (some ⟨3, 0, none⟩), .pointer (some ⟨5, 0, none⟩), .map (some 7), .int .i64 (0), .int .u32 (0), .slice none 0 0] 67),
  (3, .cells [.slice none 0 0, .pointer (some ⟨9, 0, none⟩), .map (some 11), .pointer (some ⟨13, 0, none⟩), .pointer (some ⟨15, 0, none⟩), .int .u64 (0)] 108),
  (5, .cells [.int .u32 (3), .int .i64 (4), .int .u32 (1000), .map (some 17), .map (some 19), .int .u64 (0)] 112),
  (7, .mapI .i64 []),
  (9, .cells [.int .u64 (0), .map (some 21), .map (some 23), .int .i64 (0)] 147),
  (11, .mapS []),
  (13, .cells [.map (some 25), .int .u32 (0)] 150),
  (15, .cells [.int .u32 (20), .map (some 27), .int .u32 (0)] 153),
  (17, .mapI .i64 []),
  (19, .mapI .u64 []),
  (21, .mapS []),
  (23, .mapI .i64 []),
  (25, .mapI .u32 []),
  (27, .mapI .u32 [])]
theorem new_runI (idle : Int) :
    obsK (evCallN Tryz.prog extX idleO 1000 100 6 [.agg #[.slice none 0 0, .int .i64 4, .int .u32 3, .int .u32 (idle), .int .u32 1000, .int .u32 20]] ⟨(sta0).tree, 0, [], [], [], []⟩) 30 ((stN idle).keep [28, 18, 24, 26, 6, 8, 12, 16, 20, 22, 2, 4, 10, 14]) = some (.pointer (some ⟨28, 0, none⟩), [], Keep.want 30 ((stN idle).keep [28, 18, 24, 26, 6, 8, 12, 16, 20, 22, 2, 4, 10, 14])) := by kernel_rfl
def stA (idle : Int) : Sta := [(1, .cells [.slice none 0 0, .int .i64 (4), .int .u32 (3), .int .u32 (idle), .int .u32 (1000), .int .u32 (20), .pointer (some ⟨3, 0, none⟩), .pointer (some ⟨5, 0, none⟩), .map (some 7), .int .i64 (1), .int .u32 (0), .slice none 0 0] 67),
  (3, .cells [.slice none 0 0, .pointer (some ⟨9, 0, none⟩), .map (some 11), .pointer (some ⟨13, 0, none⟩), .pointer (some ⟨15, 0, none⟩), .int .u64 (0)] 108),
  (5, .cells [.int .u32 (3), .int .i64 (4), .int .u32 (1000), .map (some 17), .map (some 19), .int .u64 (0)] 112),
  (7, .mapI .i64 [((1), .pointer (some ⟨21, 0, none⟩))]),
  (9, .cells [.int .u64 (0), .map (some 23), .map (some 25), .int .i64 (0)] 147),
  (11, .mapS []),
  (13, .cells [.map (some 27), .int .u32 (0)] 150),
  (15, .cells [.int .u32 (20), .map (some 29), .int .u32 (0)] 153),
  (17, .mapI .i64 [((1), .pointer (some ⟨31, 0, none⟩))]),
  (19, .mapI .u64 []),
  (21, .cells [.pointer (some ⟨33, 0, none⟩), .slice none 0 0, .bool false, .int .u32 (0)] 74),
  (23, .mapS []),
  (25, .mapI .i64 []),
  (27, .mapI .u32 []),
  (29, .mapI .u32 []),
  (31, .cells [.int .i64 (1), .pointer none] 116),
  (33, .cells [.slice none 0 0, .int .i64 (0), .pointer (some ⟨35, 0, none⟩)] 124),
  (35, .cells (sumCells false) 165)]
theorem acc_runI (idle : Int) :
    obsK (evCallN Tryz.prog extX idleO 1000 100 9 [.pointer (some ⟨1, 0, none⟩)] ⟨(stN idle).tree, 0, [], [], [], []⟩) 8 ((stA idle).keep [1, 3, 5, 7, 9, 11, 13, 15, 17, 19, 6, 21, 23, 25, 27, 0, 4, 2]) = some (.tuple #[.int .i64 (1), .int .i64 (0)], [], Keep.want 8 ((stA idle).keep [1, 3, 5, 7, 9, 11, 13, 15, 17, 19, 6, 21, 23, 25, 27, 0, 4, 2])) := by kernel_rfl
def stAf (idle : Int) : Sta := stA idle ++ [(37, .loose (bytesV [76, 68, 1, 1, 1, 3, 93, 71, 248, 148]) 5)]
theorem frh_runI (idle : Int) :
    obsK (evCallN Tryz.prog extX idleO 1000 100 13 [msgC 1 3 0 0] ⟨(stA idle).tree, 0, [], [], [], []⟩) 36 ((stAf idle).keep [1, 3, 5, 7, 9, 11, 13, 15, 17, 19, 21, 23, 25, 27, 29, 31, 33, 35, 34]) = some (.slice (some ⟨34, 0, none⟩) 10 10, [], Keep.want 36 ((stAf idle).keep [1, 3, 5, 7, 9, 11, 13, 15, 17, 19, 21, 23, 25, 27, 29, 31, 33, 35, 34])) := by kernel_rfl
def stH (idle : Int) : Sta := [(1, .cells [.slice none 0 0, .int .i64 (4), .int .u32 (3), .int .u32 (idle), .int .u32 (1000), .int .u32 (20), .pointer (some ⟨3, 0, none⟩), .pointer (some ⟨5, 0, none⟩), .map (some 7), .int .i64 (1), .int .u32 (0), .slice none 0 0] 67),
  (3, .cells [.slice none 0 0, .pointer (some ⟨9, 0, none⟩), .map (some 11), .pointer (some ⟨13, 0, none⟩), .pointer (some ⟨15, 0, none⟩), .int .u64 (0)] 108),
  (5, .cells [.int .u32 (3), .int .i64 (4), .int .u32 (1000), .map (some 17), .map (some 19), .int .u64 (1)] 112),
  (7, .mapI .i64 [((1), .pointer (some ⟨21, 0, none⟩))]),
  (9, .cells [.int .u64 (0), .map (some 23), .map (some 25), .int .i64 (0)] 147),
  (11, .mapS []),
  (13, .cells [.map (some 27), .int .u32 (0)] 150),
  (15, .cells [.int .u32 (20), .map (some 29), .int .u32 (0)] 153),
  (17, .mapI .i64 [((1), .pointer (some ⟨31, 0, none⟩))]),
  (19, .mapI .u64 [((1), .pointer (some ⟨33, 0, none⟩))]),
  (21, .cells [.pointer (some ⟨35, 0, none⟩), .slice (some ⟨37, 0, none⟩) 12 12, .bool false, .int .u32 (0)] 74),
  (23, .mapS []),
  (25, .mapI .i64 []),
  (27, .mapI .u32 []),
  (29, .mapI .u32 []),
  (31, .cells [.int .i64 (1), .pointer (some ⟨33, 0, none⟩)] 116),
  (33, .cells [.int .u64 (1), .int .u32 (3), .pointer (some ⟨39, 0, none⟩), .pointer (some ⟨41, 0, none⟩), .pointer (some ⟨31, 0, none⟩), .int .u32 (0)] 120),
  (35, .cells [.slice (some ⟨43, 0, none⟩) 0 0, .int .i64 (0), .pointer (some ⟨45, 0, none⟩)] 124),
  (37, .loose [.int .u8 (76), .int .u8 (68), .int .u8 (1), .int .u8 (2), .int .u8 (3), .int .u8 (3), .int .u8 (1), .int .u8 (4), .int .u8 (20), .int .u8 (77), .int .u8 (61), .int .u8 (139)] 5),
  (39, .cells [.int .u32 (0), .int .u32 (0), .map (some 47)] 297),
  (41, .cells [.int .u32 (4), .int .u32 (4)] 300),
  (43, .cells [] 5),
  (45, .cells (sumCells true) 165),
  (47, .mapI .u32 [])]
theorem inh_runI (idle : Int) :
    obsK (evCallN Tryz.prog extX idleO 1000 100 10 [.pointer (some ⟨1, 0, none⟩), .int .i64 1, .slice (some ⟨37, 0, none⟩) 10 10] ⟨(stAf idle).tree, 0, [], [], [], []⟩) 102 ((stH idle).keep [1, 3, 5, 7, 9, 11, 13, 15, 17, 19, 21, 23, 25, 27, 29, 31, 38, 33, 96, 34, 36, 18, 35, 32]) = some (.tuple #[.int .i64 (10), .int .i64 (0)], [], Keep.want 102 ((stH idle).keep [1, 3, 5, 7, 9, 11, 13, 15, 17, 19, 21, 23, 25, 27, 29, 31, 38, 33, 96, 34, 36, 18, 35, 32])) := by kernel_rfl
def stS (idle clock heard : Int) : Sta := [(1, .cells [.slice none 0 0, .int .i64 (4), .int .u32 (3), .int .u32 (idle), .int .u32 (1000), .int .u32 (20), .pointer (some ⟨3, 0, none⟩), .pointer (some ⟨5, 0, none⟩), .map (some 7), .int .i64 (1), .int .u32 (clock), .slice none 0 0] 67),
  (3, .cells [.slice none 0 0, .pointer (some ⟨9, 0, none⟩), .map (some 11), .pointer (some ⟨13, 0, none⟩), .pointer (some ⟨15, 0, none⟩), .int .u64 (0)] 108),
  (5, .cells [.int .u32 (3), .int .i64 (4), .int .u32 (1000), .map (some 17), .map (some 19), .int .u64 (1)] 112),
  (7, .mapI .i64 [((1), .pointer (some ⟨21, 0, none⟩))]),
  (9, .cells [.int .u64 (0), .map (some 23), .map (some 25), .int .i64 (0)] 147),
  (11, .mapS []),
  (13, .cells [.map (some 27), .int .u32 (0)] 150),
  (15, .cells [.int .u32 (20), .map (some 29), .int .u32 (0)] 153),
  (17, .mapI .i64 [((1), .pointer (some ⟨31, 0, none⟩))]),
  (19, .mapI .u64 [((1), .pointer (some ⟨33, 0, none⟩))]),
  (21, .cells [.pointer (some ⟨35, 0, none⟩), .slice (some ⟨37, 0, none⟩) 0 0, .bool false, .int .u32 (heard)] 74),
  (23, .mapS []),
  (25, .mapI .i64 []),
  (27, .mapI .u32 []),
  (29, .mapI .u32 []),
  (31, .cells [.int .i64 (1), .pointer (some ⟨33, 0, none⟩)] 116),
  (33, .cells [.int .u64 (1), .int .u32 (3), .pointer (some ⟨39, 0, none⟩), .pointer (some ⟨41, 0, none⟩), .pointer (some ⟨31, 0, none⟩), .int .u32 (0)] 120),
  (35, .cells [.slice (some ⟨43, 0, none⟩) 0 0, .int .i64 (0), .pointer (some ⟨45, 0, none⟩)] 124),
  (37, .cells [] 5),
  (39, .cells [.int .u32 (0), .int .u32 (0), .map (some 47)] 297),
  (41, .cells [.int .u32 (4), .int .u32 (4)] 300),
  (43, .cells [] 5),
  (45, .cells (sumCells true) 165),
  (47, .mapI .u32 [])]
theorem outh_runI (idle : Int) :
    obsK (evCallN Tryz.prog extX idleO 1000 100 11 [.pointer (some ⟨1, 0, none⟩), .int .i64 1, .int .i64 1000] ⟨(stH idle).tree, 0, [], [], [], []⟩) 16 ((stS idle 0 0).keep [1, 3, 5, 7, 9, 11, 13, 15, 17, 19, 21, 23, 25, 27, 29, 31, 33, 35, 10, 39, 41, 43, 45, 47]) = some (.tuple #[.slice (some ⟨4, 0, none⟩) 12 12, .bool true], [], Keep.want 16 ((stS idle 0 0).keep [1, 3, 5, 7, 9, 11, 13, 15, 17, 19, 21, 23, 25, 27, 29, 31, 33, 35, 10, 39, 41, 43, 45, 47])) := by kernel_rfl
theorem tick_runI (idle clock heard : Int) :
    obsK (evCallN Tryz.prog extX idleO 1000 100 14 [.pointer (some ⟨1, 0, none⟩)] ⟨(stS idle clock heard).tree, 0, [], [], [], [.b true, .auto, .b false]⟩) 14 ((stS idle (IntKind.u32.wrap (clock + 1)) heard).keep [1, 3, 5, 7, 9, 11, 13, 15, 17, 19, 21, 23, 25, 27, 29, 31, 33, 35, 37, 39, 41, 43, 45, 47]) = some (.tuple #[], [fun _ => decide (idle < IntKind.u32.wrap (IntKind.u32.wrap (clock + 1) - heard)) = false, fun _ => decide (clock < 1073741824) = true], Keep.want 14 ((stS idle (IntKind.u32.wrap (clock + 1)) heard).keep [1, 3, 5, 7, 9, 11, 13, 15, 17, 19, 21, 23, 25, 27, 29, 31, 33, 35, 37, 39, 41, 43, 45, 47])) := by kernel_rfl
def stT (idle clock heard since : Int) : Sta := [(1, .cells [.slice none 0 0, .int .i64 (4), .int .u32 (3), .int .u32 (idle), .int .u32 (1000), .int .u32 (20), .pointer (some ⟨3, 0, none⟩), .pointer (some ⟨5, 0, none⟩), .map (some 7), .int .i64 (1), .int .u32 (clock), .slice none 0 0] 67),
  (3, .cells [.slice none 0 0, .pointer (some ⟨9, 0, none⟩), .map (some 11), .pointer (some ⟨13, 0, none⟩), .pointer (some ⟨15, 0, none⟩), .int .u64 (0)] 108),
  (5, .cells [.int .u32 (3), .int .i64 (4), .int .u32 (1000), .map (some 17), .map (some 19), .int .u64 (1)] 112),
  (7, .mapI .i64 [((1), .pointer (some ⟨21, 0, none⟩))]),
  (9, .cells [.int .u64 (0), .map (some 23), .map (some 25), .int .i64 (0)] 147),
  (11, .mapS []),
  (13, .cells [.map (some 27), .int .u32 (0)] 150),
  (15, .cells [.int .u32 (20), .map (some 29), .int .u32 (0)] 153),
  (17, .mapI .i64 []),
  (19, .mapI .u64 [((1), .pointer (some ⟨31, 0, none⟩))]),
  (21, .cells [.pointer (some ⟨33, 0, none⟩), .slice (some ⟨35, 0, none⟩) 11 11, .bool true, .int .u32 (heard)] 74),
  (23, .mapS []),
  (25, .mapI .i64 []),
  (27, .mapI .u32 []),
  (29, .mapI .u32 []),
  (31, .cells [.int .u64 (1), .int .u32 (3), .pointer (some ⟨37, 0, none⟩), .pointer (some ⟨39, 0, none⟩), .pointer none, .int .u32 (since)] 120),
  (33, .cells [.slice (some ⟨41, 0, none⟩) 0 0, .int .i64 (0), .pointer (some ⟨43, 0, none⟩)] 124),
  (35, .loose [.int .u8 (76), .int .u8 (68), .int .u8 (1), .int .u8 (6), .int .u8 (2), .int .u8 (190), .int .u8 (1), .int .u8 (156), .int .u8 (192), .int .u8 (153), .int .u8 (171)] 5),
  (37, .cells [.int .u32 (0), .int .u32 (0), .map (some 45)] 297),
  (39, .cells [.int .u32 (4), .int .u32 (4)] 300),
  (41, .cells [] 5),
  (43, .cells (sumCells true) 165),
  (45, .mapI .u32 [])]
theorem tick_runJ (idle clock heard : Int) :
    obsK (evCallN Tryz.prog extX idleO 1000 100 14 [.pointer (some ⟨1, 0, none⟩)] ⟨(stS idle clock heard).tree, 0, [], [], [], [.b true, .auto, .b true, .auto, .auto, .auto, .auto, .auto, .auto, .auto, .auto, .auto, .auto, .auto, .auto, .auto, .auto, .auto, .auto, .auto, .auto, .auto, .auto, .auto, .auto, .auto, .auto, .auto, .auto, .auto, .auto, .auto, .auto, .auto, .auto, .auto, .auto, .auto, .auto, .auto, .auto, .auto, .auto, .auto, .auto, .auto, .auto, .auto, .b true, .b false]⟩) 56 ((stT idle (IntKind.u32.wrap (clock + 1)) heard (IntKind.u32.wrap (clock + 1))).keep [1, 3, 5, 7, 9, 11, 13, 15, 17, 19, 21, 23, 25, 27, 29, 33, 35, 44, 39, 41, 43, 45, 47]) = some (.tuple #[], [fun _ => decide (1000 < IntKind.u32.wrap (IntKind.u32.wrap (clock + 1) - (IntKind.u32.wrap (clock + 1)))) = false, fun _ => decide ((IntKind.u32.wrap (clock + 1)) ≤ IntKind.u32.wrap (clock + 1)) = true, fun _ => decide (idle < IntKind.u32.wrap (IntKind.u32.wrap (clock + 1) - heard)) = true, fun _ => decide (clock < 1073741824) = true], Keep.want 56 ((stT idle (IntKind.u32.wrap (clock + 1)) heard (IntKind.u32.wrap (clock + 1))).keep [1, 3, 5, 7, 9, 11, 13, 15, 17, 19, 21, 23, 25, 27, 29, 33, 35, 44, 39, 41, 43, 45, 47])) := by kernel_rfl
theorem tick_runT (idle clock heard since : Int) :
    obsK (evCallN Tryz.prog extX idleO 1000 100 14 [.pointer (some ⟨1, 0, none⟩)] ⟨(stT idle clock heard since).tree, 0, [], [], [], [.b true, .auto, .b true, .auto, .auto, .auto, .auto, .auto, .b true, .b false]⟩) 14 ((stT idle (IntKind.u32.wrap (clock + 1)) heard since).keep [1, 3, 5, 7, 9, 11, 13, 15, 17, 19, 21, 23, 25, 27, 29, 31, 33, 35, 37, 39, 41, 43, 45]) = some (.tuple #[], [fun _ => decide (1000 < IntKind.u32.wrap (IntKind.u32.wrap (clock + 1) - since)) = false, fun _ => decide (since ≤ IntKind.u32.wrap (clock + 1)) = true, fun _ => decide (idle < IntKind.u32.wrap (IntKind.u32.wrap (clock + 1) - heard)) = true, fun _ => decide (clock < 1073741824) = true], Keep.want 14 ((stT idle (IntKind.u32.wrap (clock + 1)) heard since).keep [1, 3, 5, 7, 9, 11, 13, 15, 17, 19, 21, 23, 25, 27, 29, 31, 33, 35, 37, 39, 41, 43, 45])) := by kernel_rfl
theorem in_runT (idle clock heard since : Int) :
    obsK (evCallN Tryz.prog extX idleO 1000 100 10 [.pointer (some ⟨1, 0, none⟩), .int .i64 1, .chan (some 47)] ⟨(stT idle clock heard since).tree, 0, [], [], [], []⟩) 0 ((stT idle clock heard since).keep [1, 3, 5, 7, 9, 11, 13, 15, 17, 19, 21, 23, 25, 27, 29, 31, 33, 35, 37, 39, 41, 43, 45]) = some (.tuple #[.int .i64 (0), .int .i64 (200)], [], Keep.want 0 ((stT idle clock heard since).keep [1, 3, 5, 7, 9, 11, 13, 15, 17, 19, 21, 23, 25, 27, 29, 31, 33, 35, 37, 39, 41, 43, 45])) := by kernel_rfl
def stB : Sta := [(1, .loose [.int .u8 (76), .int .u8 (68), .int .u8 (1), .int .u8 (6), .int .u8 (2), .int .u8 (190), .int .u8 (1), .int .u8 (156), .int .u8 (192), .int .u8 (153), .int .u8 (171)] 5)]
theorem out_runT (idle clock heard since : Int) :
    obsK (evCallN Tryz.prog extX idleO 1000 100 11 [.pointer (some ⟨1, 0, none⟩), .int .i64 1, .int .i64 1000] ⟨(stT idle clock heard since).tree, 0, [], [], [], []⟩) 12 ((stB).keep [4]) = some (.tuple #[.slice (some ⟨4, 0, none⟩) 11 11, .bool true], [], Keep.want 12 ((stB).keep [4])) := by kernel_rfl
def stG : Sta := [(1, .loose [.int .u8 (6), .int .u32 (0), .int .u32 (0), .int .u64 (0), .int .u8 (190), .int .u32 (0), .string ⟨#[]⟩, .string ⟨#[]⟩, .int .u8 (0), .int .u8 (0), .bool false, .int .u8 (0), .int .u16 (0), .slice none 0 0, .int .u32 (0), .slice none 0 0, .int .u16 (0), .int .u16 (0), .slice none 0 0, .slice none 0 0, .slice none 0 0, .int .u32 (0), .int .u32 (0), .slice none 0 0, .int .u64 (0), .slice none 0 0, .slice none 0 0, .slice none 0 0] 53)]
theorem all_runT :
    obsK (evCallN Tryz.prog extX idleO 1000 100 15 [.slice (some ⟨1, 0, none⟩) 11 11] ⟨(stB).tree, 0, [], [], [], []⟩) 40 ((stG).keep [28]) = some (.tuple #[.slice (some ⟨28, 0, none⟩) 1 1, .int .i64 (40), .int .i64 (0)], [], Keep.want 40 ((stG).keep [28])) := by kernel_rfl
def stU (pb : List Nat) (idle clock : Int) : Sta := [(1, .cells [.slice none 0 0, .int .i64 (4), .int .u32 (3), .int .u32 (idle), .int .u32 (1000), .int .u32 (20), .pointer (some ⟨3, 0, none⟩), .pointer (some ⟨5, 0, none⟩), .map (some 7), .int .i64 (1), .int .u32 (clock), .slice none 0 0] 67),
  (3, .cells [.slice none 0 0, .pointer (some ⟨9, 0, none⟩), .map (some 11), .pointer (some ⟨13, 0, none⟩), .pointer (some ⟨15, 0, none⟩), .int .u64 (0)] 108),
  (5, .cells [.int .u32 (3), .int .i64 (4), .int .u32 (1000), .map (some 17), .map (some 19), .int .u64 (1)] 112),
  (7, .mapI .i64 [((1), .pointer (some ⟨21, 0, none⟩))]),
  (9, .cells [.int .u64 (0), .map (some 23), .map (some 25), .int .i64 (0)] 147),
  (11, .mapS []),
  (13, .cells [.map (some 27), .int .u32 (0)] 150),
  (15, .cells [.int .u32 (20), .map (some 29), .int .u32 (0)] 153),
  (17, .mapI .i64 [((1), .pointer (some ⟨31, 0, none⟩))]),
  (19, .mapI .u64 [((1), .pointer (some ⟨33, 0, none⟩))]),
  (21, .cells [.pointer (some ⟨35, 0, none⟩), .slice (some ⟨37, 0, none⟩) 10 10, .bool false, .int .u32 (clock)] 74),
  (23, .mapS []),
  (25, .mapI .i64 []),
  (27, .mapI .u32 []),
  (29, .mapI .u32 []),
  (31, .cells [.int .i64 (1), .pointer (some ⟨33, 0, none⟩)] 116),
  (33, .cells [.int .u64 (1), .int .u32 (3), .pointer (some ⟨39, 0, none⟩), .pointer (some ⟨41, 0, none⟩), .pointer (some ⟨31, 0, none⟩), .int .u32 (0)] 120),
  (35, .cells [.slice (some ⟨43, 0, none⟩) 0 0, .int .i64 (0), .pointer (some ⟨45, 0, none⟩)] 124),
  (37, .loose (bytesV pb) 5),
  (39, .cells [.int .u32 (0), .int .u32 (0), .map (some 47)] 297),
  (41, .cells [.int .u32 (4), .int .u32 (4)] 300),
  (43, .cells [] 5),
  (45, .cells (sumCells true) 165),
  (47, .mapI .u32 [])]
def stF (n : Nat) (idle clock heard : Int) : Sta := stS idle clock heard ++ [(49, .loose (bytesV (pingB n)) 5)]
def stV (n : Nat) (idle clock : Int) : Sta := stS idle clock clock ++ [(49, .loose (bytesV (pongB n)) 5)]
def stW (n : Nat) (idle clock : Int) : Sta := stS idle clock clock ++ [(49, .loose (msgCells 8 0 0 n) 53)]
def FrRun (n : Nat) : Prop := ∀ (idle clock heard : Int), obsK (evCallN Tryz.prog extX idleO 1000 100 13 [msgC 7 0 0 n] ⟨(stS idle clock heard).tree, 0, [], [], [], []⟩) 36 ((stF n idle clock heard).keep [1, 3, 5, 7, 9, 11, 13, 15, 17, 19, 21, 23, 25, 27, 29, 31, 33, 35, 37, 39, 41, 43, 45, 47, 34]) = some (.slice (some ⟨34, 0, none⟩) 10 10, [], Keep.want 36 ((stF n idle clock heard).keep [1, 3, 5, 7, 9, 11, 13, 15, 17, 19, 21, 23, 25, 27, 29, 31, 33, 35, 37, 39, 41, 43, 45, 47, 34]))
def InRun (n : Nat) : Prop := ∀ (idle clock heard : Int), obsK (evCallN Tryz.prog extX idleO 1000 100 10 [.pointer (some ⟨1, 0, none⟩), .int .i64 1, .slice (some ⟨49, 0, none⟩) 10 10] ⟨(stF n idle clock heard).tree, 0, [], [], [], []⟩) 76 ((stU (pongB n) idle clock).keep [1, 3, 5, 7, 9, 11, 13, 15, 17, 19, 21, 23, 25, 27, 29, 31, 33, 35, 70, 39, 41, 18, 45, 47]) = some (.tuple #[.int .i64 (10), .int .i64 (0)], [], Keep.want 76 ((stU (pongB n) idle clock).keep [1, 3, 5, 7, 9, 11, 13, 15, 17, 19, 21, 23, 25, 27, 29, 31, 33, 35, 70, 39, 41, 18, 45, 47]))
def OutRun (n : Nat) : Prop := ∀ (idle clock : Int), obsK (evCallN Tryz.prog extX idleO 1000 100 11 [.pointer (some ⟨1, 0, none⟩), .int .i64 1, .int .i64 1000] ⟨(stU (pongB n) idle clock).tree, 0, [], [], [], []⟩) 16 ((stV n idle clock).keep [1, 3, 5, 7, 9, 11, 13, 15, 17, 19, 21, 23, 25, 27, 29, 31, 33, 35, 10, 39, 41, 43, 45, 47, 4]) = some (.tuple #[.slice (some ⟨4, 0, none⟩) 10 10, .bool true], [], Keep.want 16 ((stV n idle clock).keep [1, 3, 5, 7, 9, 11, 13, 15, 17, 19, 21, 23, 25, 27, 29, 31, 33, 35, 10, 39, 41, 43, 45, 47, 4]))
def AllRun (n : Nat) : Prop := ∀ (idle clock : Int), obsK (evCallN Tryz.prog extX idleO 1000 100 15 [.slice (some ⟨49, 0, none⟩) 10 10] ⟨(stV n idle clock).tree, 0, [], [], [], []⟩) 36 ((stW n idle clock).keep [1, 3, 5, 7, 9, 11, 13, 15, 17, 19, 21, 23, 25, 27, 29, 31, 33, 35, 37, 39, 41, 43, 45, 47, 24]) = some (.tuple #[.slice (some ⟨24, 0, none⟩) 1 1, .int .i64 (40), .int .i64 (0)], [], Keep.want 36 ((stW n idle clock).keep [1, 3, 5, 7, 9, 11, 13, 15, 17, 19, 21, 23, 25, 27, 29, 31, 33, 35, 37, 39, 41, 43, 45, 47, 24]))
end Go.Proofs.YtigdbooadelciaaGreat
