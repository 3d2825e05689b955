/- Chapter 01, part Lay2: the library's sort and compaction of numbers at this program. -/
import Derived.Test.YtfininfcljdkbaaDoorProg
import Derived.Shelf.Sort.Plain
import Derived.Shelf.Slices.CompactI
import Derived.Test.YtfininfcljdkbaaDoorBase2
import Derived.KernelRfl
import Derived.Test.YtfininfcljdkbaaDoorBase3
set_option linter.unusedSimpArgs false
set_option linter.unusedVariables false
namespace Go.Proofs
open Go.Shelf Go.RowKit Go.Lib Go.Sort
def Tryd.lays189_ren : Go.Shelf.Ren := ⟨fun | 189 => 38 | 125 => 53 | 257 => 52 | 128 => 70 | 129 => 71 | 294 => 61 | 295 => 62 | 296 => 63 | 297 => 64 | 298 => 65 | 299 => 66 | 216 => 67 | 300 => 68 | 301 => 69 | 328 => 79 | 329 => 80 | 330 => 81 | 331 => 82 | 332 => 83 | 215 => 84 | 343 => 91 | n => n, fun | 28 => 33 | 3 => 3 | 46 => 80 | 0 => 0 | 51 => 108 | 53 => 110 | 4 => 4 | 183 => 102 | 182 => 101 | 131 => 36 | 5 => 5 | 9 => 9 | 218 => 115 | 222 => 119 | 228 => 128 | 229 => 129 | n => n, fun | n => n⟩
theorem Tryd.lays189 : Lays.n189 Tryd.prog Tryd.lays189_ren := {
  mixed := by kernel_rfl
  f125 := Tryd.func53.trans (congrArg some (by kernel_rfl))
  f128 := Tryd.func70.trans (congrArg some (by kernel_rfl))
  f129 := Tryd.func71.trans (congrArg some (by kernel_rfl))
  f189 := Tryd.func38.trans (congrArg some (by kernel_rfl))
  f215 := Tryd.func84.trans (congrArg some (by kernel_rfl))
  f216 := Tryd.func67.trans (congrArg some (by kernel_rfl))
  f257 := Tryd.func52.trans (congrArg some (by kernel_rfl))
  f294 := Tryd.func61.trans (congrArg some (by kernel_rfl))
  f295 := Tryd.func62.trans (congrArg some (by kernel_rfl))
  f296 := Tryd.func63.trans (congrArg some (by kernel_rfl))
  f297 := Tryd.func64.trans (congrArg some (by kernel_rfl))
  f298 := Tryd.func65.trans (congrArg some (by kernel_rfl))
  f299 := Tryd.func66.trans (congrArg some (by kernel_rfl))
  f300 := Tryd.func68.trans (congrArg some (by kernel_rfl))
  f301 := Tryd.func69.trans (congrArg some (by kernel_rfl))
  f328 := Tryd.func79.trans (congrArg some (by kernel_rfl))
  f329 := Tryd.func80.trans (congrArg some (by kernel_rfl))
  f330 := Tryd.func81.trans (congrArg some (by kernel_rfl))
  f331 := Tryd.func82.trans (congrArg some (by kernel_rfl))
  f332 := Tryd.func83.trans (congrArg some (by kernel_rfl))
  f343 := Tryd.func91.trans (congrArg some (by kernel_rfl))
  t0 := Tryd.underlying0
  a0 := Tryd.isAgg0
  z0 := Tryd.sizeOf0
  v0 := Tryd.zeroValue0
  t3 := Tryd.underlying3
  a3 := Tryd.isAgg3
  z3 := Tryd.sizeOf3
  v3 := Tryd.zeroValue3
  t4 := Tryd.underlying4
  a4 := Tryd.isAgg4
  z4 := Tryd.sizeOf4
  v4 := Tryd.zeroValue4
  t5 := Tryd.underlying5
  a5 := Tryd.isAgg5
  z5 := Tryd.sizeOf5
  v5 := Tryd.zeroValue5
  t9 := Tryd.underlying9
  a9 := Tryd.isAgg9
  z9 := Tryd.sizeOf9
  v9 := Tryd.zeroValue9
  t28 := Tryd.underlying33
  a28 := Tryd.isAgg33
  z28 := Tryd.sizeOf33
  v28 := Tryd.zeroValue33
  t46 := Tryd.underlying80
  a46 := Tryd.isAgg80
  z46 := Tryd.sizeOf80
  v46 := Tryd.zeroValue80
  t51 := Tryd.underlying108
  a51 := Tryd.isAgg108
  z51 := Tryd.sizeOf108
  v51 := Tryd.zeroValue108
  t53 := Tryd.underlying110
  a53 := Tryd.isAgg110
  z53 := Tryd.sizeOf110
  v53 := Tryd.zeroValue110
  t131 := Tryd.underlying36
  a131 := Tryd.isAgg36
  z131 := Tryd.sizeOf36
  v131 := Tryd.zeroValue36
  t182 := Tryd.underlying101
  a182 := Tryd.isAgg101
  z182 := Tryd.sizeOf101
  v182 := Tryd.zeroValue101
  t183 := Tryd.underlying102
  a183 := Tryd.isAgg102
  z183 := Tryd.sizeOf102
  v183 := Tryd.zeroValue102
  t218 := Tryd.underlying115
  a218 := Tryd.isAgg115
  z218 := Tryd.sizeOf115
  v218 := Tryd.zeroValue115
  t222 := Tryd.underlying119
  a222 := Tryd.isAgg119
  z222 := Tryd.sizeOf119
  v222 := Tryd.zeroValue119
  t228 := Tryd.underlying128
  a228 := Tryd.isAgg128
  z228 := Tryd.sizeOf128
  v228 := Tryd.zeroValue128
  t229 := Tryd.underlying129
  a229 := Tryd.isAgg129
  z229 := Tryd.sizeOf129
  v229 := Tryd.zeroValue129
}

def Tryd.lays2_20_ren : Go.Shelf.Ren := ⟨fun | 20 => 39 | n => n, fun | 22 => 33 | 3 => 3 | 4 => 4 | 0 => 0 | n => n, fun | n => n⟩
theorem Tryd.lays2_20 : Lays2.n20 Tryd.prog Tryd.lays2_20_ren := {
  mixed := by kernel_rfl
  f20 := Tryd.func39.trans (congrArg some (by kernel_rfl))
  t0 := Tryd.underlying0
  a0 := Tryd.isAgg0
  z0 := Tryd.sizeOf0
  v0 := Tryd.zeroValue0
  t3 := Tryd.underlying3
  a3 := Tryd.isAgg3
  z3 := Tryd.sizeOf3
  v3 := Tryd.zeroValue3
  t4 := Tryd.underlying4
  a4 := Tryd.isAgg4
  z4 := Tryd.sizeOf4
  v4 := Tryd.zeroValue4
  t22 := Tryd.underlying33
  a22 := Tryd.isAgg33
  z22 := Tryd.sizeOf33
  v22 := Tryd.zeroValue33
  i3 := by kernel_rfl
}
end Go.Proofs
/- The table of types of the seat YtfininfcljdkbaaDoor. Printed by tt.py. -/
namespace Go.Proofs.YtfininfcljdkbaaDoor
open Go Go.NS
def TT0 : TT
  | 1 => some ⟨1, 8, .nilFunc, .func, false⟩
  | 2 => some ⟨1, 8, .int .i64 0, .int .i64, false⟩
  | 3 => some ⟨1, 8, .int .i64 0, .int .i64, false⟩
  | 4 => some ⟨1, 1, .bool false, .bool, false⟩
  | 5 => some ⟨1, 1, .int .u8 0, .int .u8, false⟩
  | 6 => some ⟨1, 1, .int .u8 0, .int .u8, false⟩
  | 7 => some ⟨4, 24, .agg #[.int .i64 0, .int .i64 0, .bool false, .int .u8 0], .struct [(0, 2), (1, 3), (2, 4), (3, 6)], false⟩
  | 8 => some ⟨4, 24, .agg #[.int .i64 0, .int .i64 0, .bool false, .int .u8 0], .struct [(0, 2), (1, 3), (2, 4), (3, 6)], false⟩
  | 9 => some ⟨1, 16, .string ⟨#[]⟩, .string, false⟩
  | 10 => some ⟨1, 16, .string ⟨#[]⟩, .string, false⟩
  | 11 => some ⟨1, 16, .string ⟨#[]⟩, .string, false⟩
  | 12 => some ⟨1, 8, .int .u64 0, .int .u64, false⟩
  | 13 => some ⟨2, 24, .agg #[.string ⟨#[]⟩, .int .u64 0], .struct [(0, 9), (1, 12)], false⟩
  | 14 => some ⟨2, 24, .agg #[.string ⟨#[]⟩, .int .u64 0], .struct [(0, 9), (1, 12)], false⟩
  | 15 => some ⟨1, 8, .pointer none, .pointer 140, false⟩
  | 16 => some ⟨1, 8, .pointer none, .pointer 143, false⟩
  | 17 => some ⟨1, 8, .pointer none, .pointer 151, false⟩
  | 18 => some ⟨1, 8, .agg #[.pointer none], .struct [(0, 17)], false⟩
  | 19 => some ⟨1, 8, .agg #[.pointer none], .struct [(0, 17)], false⟩
  | 20 => some ⟨1, 16, .nilIface, .iface, false⟩
  | 21 => some ⟨1, 4, .int .i32 0, .int .i32, false⟩
  | 22 => some ⟨1, 24, .slice none 0 0, .slice 9, false⟩
  | 23 => some ⟨1, 8, .nilFunc, .func, false⟩
  | 24 => some ⟨1, 8, .nilFunc, .func, false⟩
  | 25 => some ⟨1, 8, .int .i64 0, .int .i64, false⟩
  | 26 => some ⟨1, 8, .nilFunc, .func, false⟩
  | 27 => some ⟨1, 8, .nilFunc, .func, false⟩
  | 29 => some ⟨1, 8, .nilFunc, .func, false⟩
  | 30 => some ⟨1, 8, .nilFunc, .func, false⟩
  | 31 => some ⟨1, 8, .nilFunc, .func, false⟩
  | 32 => some ⟨1, 8, .nilFunc, .func, false⟩
  | 33 => some ⟨1, 24, .slice none 0 0, .slice 3, false⟩
  | 34 => some ⟨1, 8, .nilFunc, .func, false⟩
  | 35 => some ⟨1, 8, .nilFunc, .func, false⟩
  | 37 => some ⟨1, 8, .nilFunc, .func, false⟩
  | 39 => some ⟨1, 8, .nilFunc, .func, false⟩
  | 41 => some ⟨1, 8, .nilFunc, .func, false⟩
  | 43 => some ⟨1, 8, .nilFunc, .func, false⟩
  | 44 => some ⟨1, 8, .nilFunc, .func, false⟩
  | 45 => some ⟨1, 8, .nilFunc, .func, false⟩
  | 46 => some ⟨1, 8, .nilFunc, .func, false⟩
  | 47 => some ⟨1, 8, .nilFunc, .func, false⟩
  | 48 => some ⟨1, 8, .nilFunc, .func, false⟩
  | 49 => some ⟨1, 8, .nilFunc, .func, false⟩
  | 50 => some ⟨2, 48, .agg #[.slice none 0 0, .slice none 0 0], .array 2 33, false⟩
  | 51 => some ⟨1, 8, .nilFunc, .func, false⟩
  | 52 => some ⟨1, 8, .nilFunc, .func, false⟩
  | 53 => some ⟨1, 8, .nilFunc, .func, false⟩
  | 54 => some ⟨1, 8, .nilFunc, .func, false⟩
  | 55 => some ⟨1, 8, .nilFunc, .func, false⟩
  | 56 => some ⟨1, 8, .nilFunc, .func, false⟩
  | 57 => some ⟨1, 8, .nilFunc, .func, false⟩
  | 58 => some ⟨1, 16, .nilIface, .iface, false⟩
  | 59 => some ⟨1, 16, .nilIface, .iface, false⟩
  | 61 => some ⟨1, 8, .nilFunc, .func, false⟩
  | 62 => some ⟨1, 8, .nilFunc, .func, false⟩
  | 63 => some ⟨1, 8, .nilFunc, .func, false⟩
  | 64 => some ⟨1, 8, .nilFunc, .func, false⟩
  | 65 => some ⟨1, 8, .nilFunc, .func, false⟩
  | 66 => some ⟨1, 8, .nilFunc, .func, false⟩
  | 67 => some ⟨1, 8, .nilFunc, .func, false⟩
  | 68 => some ⟨1, 8, .nilFunc, .func, false⟩
  | 69 => some ⟨1, 8, .nilFunc, .func, false⟩
  | 71 => some ⟨1, 8, .nilFunc, .func, false⟩
  | 72 => some ⟨1, 8, .nilFunc, .func, false⟩
  | 73 => some ⟨1, 16, .nilIface, .iface, false⟩
  | 74 => some ⟨1, 16, .nilIface, .iface, false⟩
  | 75 => some ⟨1, 8, .nilFunc, .func, false⟩
  | 76 => some ⟨1, 8, .nilFunc, .func, false⟩
  | 77 => some ⟨1, 8, .nilFunc, .func, false⟩
  | 78 => some ⟨1, 8, .nilFunc, .func, false⟩
  | 79 => some ⟨1, 8, .nilFunc, .func, false⟩
  | 80 => some ⟨1, 8, .int .u64 0, .int .u64, false⟩
  | 81 => some ⟨1, 8, .pointer none, .pointer 84, false⟩
  | 82 => some ⟨1, 24, .slice none 0 0, .slice 5, false⟩
  | 83 => some ⟨2, 32, .agg #[.pointer none, .slice none 0 0], .struct [(0, 81), (1, 82)], false⟩
  | 84 => some ⟨2, 32, .agg #[.pointer none, .slice none 0 0], .struct [(0, 81), (1, 82)], false⟩
  | 85 => some ⟨1, 8, .nilFunc, .func, false⟩
  | 86 => some ⟨1, 8, .nilFunc, .func, false⟩
  | 87 => some ⟨1, 8, .nilFunc, .func, false⟩
  | 88 => some ⟨1, 8, .nilFunc, .func, false⟩
  | 89 => some ⟨1, 8, .agg #[.pointer none], .struct [(0, 17)], false⟩
  | 90 => some ⟨1, 8, .agg #[.pointer none], .struct [(0, 17)], false⟩
  | 91 => some ⟨1, 8, .pointer none, .pointer 159, false⟩
  | 92 => some ⟨1, 16, .nilIface, .iface, false⟩
  | 94 => some ⟨1, 8, .nilFunc, .func, false⟩
  | 95 => some ⟨1, 16, .nilIface, .iface, false⟩
  | 96 => some ⟨1, 8, .nilFunc, .func, false⟩
  | 97 => some ⟨1, 16, .nilIface, .iface, false⟩
  | 98 => some ⟨1, 24, .slice none 0 0, .slice 59, false⟩
  | 99 => some ⟨1, 8, .nilFunc, .func, false⟩
  | 100 => some ⟨1, 8, .nilFunc, .func, false⟩
  | 101 => some ⟨1, 8, .int .i64 0, .int .i64, false⟩
  | 103 => some ⟨1, 8, .nilFunc, .func, false⟩
  | 104 => some ⟨1, 8, .nilFunc, .func, false⟩
  | 105 => some ⟨1, 8, .nilFunc, .func, false⟩
  | 106 => some ⟨1, 8, .nilFunc, .func, false⟩
  | 107 => some ⟨1, 8, .nilFunc, .func, false⟩
  | 108 => some ⟨1, 4, .int .u32 0, .int .u32, false⟩
  | 109 => some ⟨1, 8, .nilFunc, .func, false⟩
  | 110 => some ⟨1, 8, .int .u64 0, .int .u64, false⟩
  | 111 => some ⟨1, 8, .pointer none, .pointer 5, false⟩
  | 112 => some ⟨1, 8, .nilFunc, .func, false⟩
  | 113 => some ⟨1, 8, .nilFunc, .func, false⟩
  | 114 => some ⟨1, 8, .nilFunc, .func, false⟩
  | 115 => some ⟨1, 8, .int .u64 0, .int .u64, false⟩
  | 116 => some ⟨1, 8, .nilFunc, .func, false⟩
  | 117 => some ⟨1, 8, .nilFunc, .func, false⟩
  | 118 => some ⟨1, 8, .nilFunc, .func, false⟩
  | 119 => some ⟨1, 8, .pointer none, .pointer 3, false⟩
  | 120 => some ⟨1, 8, .nilFunc, .func, false⟩
  | 122 => some ⟨1, 8, .nilFunc, .func, false⟩
  | 123 => some ⟨1, 8, .nilFunc, .func, false⟩
  | 124 => some ⟨1, 8, .nilFunc, .func, false⟩
  | 126 => some ⟨1, 8, .nilFunc, .func, false⟩
  | 127 => some ⟨1, 8, .nilFunc, .func, false⟩
  | 128 => some ⟨1, 8, .pointer none, .pointer 115, false⟩
  | 130 => some ⟨1, 8, .nilFunc, .func, false⟩
  | 131 => some ⟨1, 8, .nilFunc, .func, false⟩
  | 133 => some ⟨2, 2, .agg #[.int .u8 0, .int .u8 0], .struct [(0, 5), (1, 5)], false⟩
  | 134 => some ⟨2, 2, .agg #[.int .u8 0, .int .u8 0], .struct [(0, 5), (1, 5)], false⟩
  | 135 => some ⟨32, 32, .agg #[.int .u8 0, .int .u8 0, .int .u8 0, .int .u8 0, .int .u8 0, .int .u8 0, .int .u8 0, .int .u8 0, .int .u8 0, .int .u8 0, .int .u8 0, .int .u8 0, .int .u8 0, .int .u8 0, .int .u8 0, .int .u8 0, .int .u8 0, .int .u8 0, .int .u8 0, .int .u8 0, .int .u8 0, .int .u8 0, .int .u8 0, .int .u8 0, .int .u8 0, .int .u8 0, .int .u8 0, .int .u8 0, .int .u8 0, .int .u8 0, .int .u8 0, .int .u8 0], .array 16 134, true⟩
  | 137 => some ⟨1, 8, .nilFunc, .func, false⟩
  | 138 => some ⟨1, 8, .pointer none, .pointer 161, false⟩
  | 139 => some ⟨4, 40, .agg #[.pointer none, .pointer none, .pointer none, .string ⟨#[]⟩], .struct [(0, 17), (1, 17), (2, 17), (3, 9)], false⟩
  | 140 => some ⟨4, 40, .agg #[.pointer none, .pointer none, .pointer none, .string ⟨#[]⟩], .struct [(0, 17), (1, 17), (2, 17), (3, 9)], false⟩
  | 141 => some ⟨0, 0, .agg #[], .array 0 16, true⟩
  | 142 => some ⟨0, 0, .agg #[], .struct [(0, 141)], false⟩
  | 143 => some ⟨0, 0, .agg #[], .struct [(0, 141)], false⟩
  | 144 => some ⟨1, 8, .nilFunc, .func, false⟩
  | 145 => some ⟨1, 1, .int .u8 0, .int .u8, false⟩
  | 146 => some ⟨1, 1, .int .u8 0, .int .u8, false⟩
  | 147 => some ⟨1, 8, .nilFunc, .func, false⟩
  | 148 => some ⟨1, 4, .int .i32 0, .int .i32, false⟩
  | 149 => some ⟨1, 4, .int .i32 0, .int .i32, false⟩
  | 150 => some ⟨11, 48, .agg #[.int .u64 0, .int .u64 0, .int .u32 0, .int .u8 0, .int .u8 0, .int .u8 0, .int .u8 0, .nilFunc, .pointer none, .int .i32 0, .int .i32 0], .struct [(0, 12), (1, 12), (2, 108), (3, 145), (4, 5), (5, 5), (6, 146), (7, 147), (8, 111), (9, 148), (10, 149)], false⟩
  | 151 => some ⟨11, 48, .agg #[.int .u64 0, .int .u64 0, .int .u32 0, .int .u8 0, .int .u8 0, .int .u8 0, .int .u8 0, .nilFunc, .pointer none, .int .i32 0, .int .i32 0], .struct [(0, 12), (1, 12), (2, 108), (3, 145), (4, 5), (5, 5), (6, 146), (7, 147), (8, 111), (9, 148), (10, 149)], false⟩
  | 152 => some ⟨1, 8, .nilFunc, .func, false⟩
  | 153 => some ⟨1, 8, .nilFunc, .func, false⟩
  | 154 => some ⟨1, 8, .nilFunc, .func, false⟩
  | 155 => some ⟨1, 8, .nilFunc, .func, false⟩
  | 156 => some ⟨1, 8, .nilFunc, .func, false⟩
  | 157 => some ⟨1, 8, .nilFunc, .func, false⟩
  | 158 => some ⟨2, 24, .agg #[.string ⟨#[]⟩, .int .u8 0], .struct [(0, 9), (1, 146)], false⟩
  | 159 => some ⟨2, 24, .agg #[.string ⟨#[]⟩, .int .u8 0], .struct [(0, 9), (1, 146)], false⟩
  | 160 => some ⟨1, 16, .agg #[.string ⟨#[]⟩], .struct [(0, 9)], false⟩
  | 161 => some ⟨1, 16, .agg #[.string ⟨#[]⟩], .struct [(0, 9)], false⟩
  | 162 => some ⟨1, 8, .pointer none, .pointer 166, false⟩
  | 163 => some ⟨1, 8, .nilFunc, .func, false⟩
  | 164 => some ⟨1, 2, .int .u16 0, .int .u16, false⟩
  | 165 => some ⟨5, 16, .agg #[.int .i32 0, .int .u16 0, .int .u16 0, .int .u32 0, .int .u32 0], .struct [(0, 148), (1, 164), (2, 164), (3, 108), (4, 108)], false⟩
  | 166 => some ⟨5, 16, .agg #[.int .i32 0, .int .u16 0, .int .u16 0, .int .u32 0, .int .u32 0], .struct [(0, 148), (1, 164), (2, 164), (3, 108), (4, 108)], false⟩
  | 167 => some ⟨1, 24, .slice none 0 0, .slice 170, false⟩
  | 168 => some ⟨1, 4, .int .i32 0, .int .i32, false⟩
  | 169 => some ⟨4, 16, .agg #[.int .i32 0, .int .i32 0, .int .i32 0, .int .i32 0], .struct [(0, 148), (1, 149), (2, 168), (3, 168)], false⟩
  | 170 => some ⟨4, 16, .agg #[.int .i32 0, .int .i32 0, .int .i32 0, .int .i32 0], .struct [(0, 148), (1, 149), (2, 168), (3, 168)], false⟩
  | 171 => some ⟨1, 8, .nilFunc, .func, false⟩
  | _ => none
theorem T1 : TT0 1 = some ⟨1, 8, .nilFunc, .func, false⟩ := rfl
theorem T2 : TT0 2 = some ⟨1, 8, .int .i64 0, .int .i64, false⟩ := rfl
theorem T3 : TT0 3 = some ⟨1, 8, .int .i64 0, .int .i64, false⟩ := rfl
theorem T4 : TT0 4 = some ⟨1, 1, .bool false, .bool, false⟩ := rfl
theorem T5 : TT0 5 = some ⟨1, 1, .int .u8 0, .int .u8, false⟩ := rfl
theorem T6 : TT0 6 = some ⟨1, 1, .int .u8 0, .int .u8, false⟩ := rfl
theorem T7 : TT0 7 = some ⟨4, 24, .agg #[.int .i64 0, .int .i64 0, .bool false, .int .u8 0], .struct [(0, 2), (1, 3), (2, 4), (3, 6)], false⟩ := rfl
theorem T8 : TT0 8 = some ⟨4, 24, .agg #[.int .i64 0, .int .i64 0, .bool false, .int .u8 0], .struct [(0, 2), (1, 3), (2, 4), (3, 6)], false⟩ := rfl
theorem T9 : TT0 9 = some ⟨1, 16, .string ⟨#[]⟩, .string, false⟩ := rfl
theorem T10 : TT0 10 = some ⟨1, 16, .string ⟨#[]⟩, .string, false⟩ := rfl
theorem T11 : TT0 11 = some ⟨1, 16, .string ⟨#[]⟩, .string, false⟩ := rfl
theorem T12 : TT0 12 = some ⟨1, 8, .int .u64 0, .int .u64, false⟩ := rfl
theorem T13 : TT0 13 = some ⟨2, 24, .agg #[.string ⟨#[]⟩, .int .u64 0], .struct [(0, 9), (1, 12)], false⟩ := rfl
theorem T14 : TT0 14 = some ⟨2, 24, .agg #[.string ⟨#[]⟩, .int .u64 0], .struct [(0, 9), (1, 12)], false⟩ := rfl
theorem T15 : TT0 15 = some ⟨1, 8, .pointer none, .pointer 140, false⟩ := rfl
theorem T16 : TT0 16 = some ⟨1, 8, .pointer none, .pointer 143, false⟩ := rfl
theorem T17 : TT0 17 = some ⟨1, 8, .pointer none, .pointer 151, false⟩ := rfl
theorem T18 : TT0 18 = some ⟨1, 8, .agg #[.pointer none], .struct [(0, 17)], false⟩ := rfl
theorem T19 : TT0 19 = some ⟨1, 8, .agg #[.pointer none], .struct [(0, 17)], false⟩ := rfl
theorem T20 : TT0 20 = some ⟨1, 16, .nilIface, .iface, false⟩ := rfl
theorem T21 : TT0 21 = some ⟨1, 4, .int .i32 0, .int .i32, false⟩ := rfl
theorem T22 : TT0 22 = some ⟨1, 24, .slice none 0 0, .slice 9, false⟩ := rfl
theorem T23 : TT0 23 = some ⟨1, 8, .nilFunc, .func, false⟩ := rfl
theorem T24 : TT0 24 = some ⟨1, 8, .nilFunc, .func, false⟩ := rfl
theorem T25 : TT0 25 = some ⟨1, 8, .int .i64 0, .int .i64, false⟩ := rfl
theorem T26 : TT0 26 = some ⟨1, 8, .nilFunc, .func, false⟩ := rfl
theorem T27 : TT0 27 = some ⟨1, 8, .nilFunc, .func, false⟩ := rfl
theorem T29 : TT0 29 = some ⟨1, 8, .nilFunc, .func, false⟩ := rfl
theorem T30 : TT0 30 = some ⟨1, 8, .nilFunc, .func, false⟩ := rfl
theorem T31 : TT0 31 = some ⟨1, 8, .nilFunc, .func, false⟩ := rfl
theorem T32 : TT0 32 = some ⟨1, 8, .nilFunc, .func, false⟩ := rfl
theorem T33 : TT0 33 = some ⟨1, 24, .slice none 0 0, .slice 3, false⟩ := rfl
theorem T34 : TT0 34 = some ⟨1, 8, .nilFunc, .func, false⟩ := rfl
theorem T35 : TT0 35 = some ⟨1, 8, .nilFunc, .func, false⟩ := rfl
theorem T37 : TT0 37 = some ⟨1, 8, .nilFunc, .func, false⟩ := rfl
theorem T39 : TT0 39 = some ⟨1, 8, .nilFunc, .func, false⟩ := rfl
theorem T41 : TT0 41 = some ⟨1, 8, .nilFunc, .func, false⟩ := rfl
theorem T43 : TT0 43 = some ⟨1, 8, .nilFunc, .func, false⟩ := rfl
theorem T44 : TT0 44 = some ⟨1, 8, .nilFunc, .func, false⟩ := rfl
theorem T45 : TT0 45 = some ⟨1, 8, .nilFunc, .func, false⟩ := rfl
theorem T46 : TT0 46 = some ⟨1, 8, .nilFunc, .func, false⟩ := rfl
theorem T47 : TT0 47 = some ⟨1, 8, .nilFunc, .func, false⟩ := rfl
theorem T48 : TT0 48 = some ⟨1, 8, .nilFunc, .func, false⟩ := rfl
theorem T49 : TT0 49 = some ⟨1, 8, .nilFunc, .func, false⟩ := rfl
theorem T50 : TT0 50 = some ⟨2, 48, .agg #[.slice none 0 0, .slice none 0 0], .array 2 33, false⟩ := rfl
theorem T51 : TT0 51 = some ⟨1, 8, .nilFunc, .func, false⟩ := rfl
theorem T52 : TT0 52 = some ⟨1, 8, .nilFunc, .func, false⟩ := rfl
theorem T53 : TT0 53 = some ⟨1, 8, .nilFunc, .func, false⟩ := rfl
theorem T54 : TT0 54 = some ⟨1, 8, .nilFunc, .func, false⟩ := rfl
theorem T55 : TT0 55 = some ⟨1, 8, .nilFunc, .func, false⟩ := rfl
theorem T56 : TT0 56 = some ⟨1, 8, .nilFunc, .func, false⟩ := rfl
theorem T57 : TT0 57 = some ⟨1, 8, .nilFunc, .func, false⟩ := rfl
theorem T58 : TT0 58 = some ⟨1, 16, .nilIface, .iface, false⟩ := rfl
theorem T59 : TT0 59 = some ⟨1, 16, .nilIface, .iface, false⟩ := rfl
theorem T61 : TT0 61 = some ⟨1, 8, .nilFunc, .func, false⟩ := rfl
theorem T62 : TT0 62 = some ⟨1, 8, .nilFunc, .func, false⟩ := rfl
theorem T63 : TT0 63 = some ⟨1, 8, .nilFunc, .func, false⟩ := rfl
theorem T64 : TT0 64 = some ⟨1, 8, .nilFunc, .func, false⟩ := rfl
theorem T65 : TT0 65 = some ⟨1, 8, .nilFunc, .func, false⟩ := rfl
theorem T66 : TT0 66 = some ⟨1, 8, .nilFunc, .func, false⟩ := rfl
theorem T67 : TT0 67 = some ⟨1, 8, .nilFunc, .func, false⟩ := rfl
theorem T68 : TT0 68 = some ⟨1, 8, .nilFunc, .func, false⟩ := rfl
theorem T69 : TT0 69 = some ⟨1, 8, .nilFunc, .func, false⟩ := rfl
theorem T71 : TT0 71 = some ⟨1, 8, .nilFunc, .func, false⟩ := rfl
theorem T72 : TT0 72 = some ⟨1, 8, .nilFunc, .func, false⟩ := rfl
theorem T73 : TT0 73 = some ⟨1, 16, .nilIface, .iface, false⟩ := rfl
theorem T74 : TT0 74 = some ⟨1, 16, .nilIface, .iface, false⟩ := rfl
theorem T75 : TT0 75 = some ⟨1, 8, .nilFunc, .func, false⟩ := rfl
theorem T76 : TT0 76 = some ⟨1, 8, .nilFunc, .func, false⟩ := rfl
theorem T77 : TT0 77 = some ⟨1, 8, .nilFunc, .func, false⟩ := rfl
theorem T78 : TT0 78 = some ⟨1, 8, .nilFunc, .func, false⟩ := rfl
theorem T79 : TT0 79 = some ⟨1, 8, .nilFunc, .func, false⟩ := rfl
theorem T80 : TT0 80 = some ⟨1, 8, .int .u64 0, .int .u64, false⟩ := rfl
theorem T81 : TT0 81 = some ⟨1, 8, .pointer none, .pointer 84, false⟩ := rfl
theorem T82 : TT0 82 = some ⟨1, 24, .slice none 0 0, .slice 5, false⟩ := rfl
theorem T83 : TT0 83 = some ⟨2, 32, .agg #[.pointer none, .slice none 0 0], .struct [(0, 81), (1, 82)], false⟩ := rfl
theorem T84 : TT0 84 = some ⟨2, 32, .agg #[.pointer none, .slice none 0 0], .struct [(0, 81), (1, 82)], false⟩ := rfl
theorem T85 : TT0 85 = some ⟨1, 8, .nilFunc, .func, false⟩ := rfl
theorem T86 : TT0 86 = some ⟨1, 8, .nilFunc, .func, false⟩ := rfl
theorem T87 : TT0 87 = some ⟨1, 8, .nilFunc, .func, false⟩ := rfl
theorem T88 : TT0 88 = some ⟨1, 8, .nilFunc, .func, false⟩ := rfl
theorem T89 : TT0 89 = some ⟨1, 8, .agg #[.pointer none], .struct [(0, 17)], false⟩ := rfl
theorem T90 : TT0 90 = some ⟨1, 8, .agg #[.pointer none], .struct [(0, 17)], false⟩ := rfl
theorem T91 : TT0 91 = some ⟨1, 8, .pointer none, .pointer 159, false⟩ := rfl
theorem T92 : TT0 92 = some ⟨1, 16, .nilIface, .iface, false⟩ := rfl
theorem T94 : TT0 94 = some ⟨1, 8, .nilFunc, .func, false⟩ := rfl
theorem T95 : TT0 95 = some ⟨1, 16, .nilIface, .iface, false⟩ := rfl
theorem T96 : TT0 96 = some ⟨1, 8, .nilFunc, .func, false⟩ := rfl
theorem T97 : TT0 97 = some ⟨1, 16, .nilIface, .iface, false⟩ := rfl
theorem T98 : TT0 98 = some ⟨1, 24, .slice none 0 0, .slice 59, false⟩ := rfl
theorem T99 : TT0 99 = some ⟨1, 8, .nilFunc, .func, false⟩ := rfl
theorem T100 : TT0 100 = some ⟨1, 8, .nilFunc, .func, false⟩ := rfl
theorem T101 : TT0 101 = some ⟨1, 8, .int .i64 0, .int .i64, false⟩ := rfl
theorem T103 : TT0 103 = some ⟨1, 8, .nilFunc, .func, false⟩ := rfl
theorem T104 : TT0 104 = some ⟨1, 8, .nilFunc, .func, false⟩ := rfl
theorem T105 : TT0 105 = some ⟨1, 8, .nilFunc, .func, false⟩ := rfl
theorem T106 : TT0 106 = some ⟨1, 8, .nilFunc, .func, false⟩ := rfl
theorem T107 : TT0 107 = some ⟨1, 8, .nilFunc, .func, false⟩ := rfl
theorem T108 : TT0 108 = some ⟨1, 4, .int .u32 0, .int .u32, false⟩ := rfl
theorem T109 : TT0 109 = some ⟨1, 8, .nilFunc, .func, false⟩ := rfl
theorem T110 : TT0 110 = some ⟨1, 8, .int .u64 0, .int .u64, false⟩ := rfl
theorem T111 : TT0 111 = some ⟨1, 8, .pointer none, .pointer 5, false⟩ := rfl
theorem T112 : TT0 112 = some ⟨1, 8, .nilFunc, .func, false⟩ := rfl
theorem T113 : TT0 113 = some ⟨1, 8, .nilFunc, .func, false⟩ := rfl
theorem T114 : TT0 114 = some ⟨1, 8, .nilFunc, .func, false⟩ := rfl
theorem T115 : TT0 115 = some ⟨1, 8, .int .u64 0, .int .u64, false⟩ := rfl
theorem T116 : TT0 116 = some ⟨1, 8, .nilFunc, .func, false⟩ := rfl
theorem T117 : TT0 117 = some ⟨1, 8, .nilFunc, .func, false⟩ := rfl
theorem T118 : TT0 118 = some ⟨1, 8, .nilFunc, .func, false⟩ := rfl
theorem T119 : TT0 119 = some ⟨1, 8, .pointer none, .pointer 3, false⟩ := rfl
theorem T120 : TT0 120 = some ⟨1, 8, .nilFunc, .func, false⟩ := rfl
theorem T122 : TT0 122 = some ⟨1, 8, .nilFunc, .func, false⟩ := rfl
theorem T123 : TT0 123 = some ⟨1, 8, .nilFunc, .func, false⟩ := rfl
theorem T124 : TT0 124 = some ⟨1, 8, .nilFunc, .func, false⟩ := rfl
theorem T126 : TT0 126 = some ⟨1, 8, .nilFunc, .func, false⟩ := rfl
theorem T127 : TT0 127 = some ⟨1, 8, .nilFunc, .func, false⟩ := rfl
theorem T128 : TT0 128 = some ⟨1, 8, .pointer none, .pointer 115, false⟩ := rfl
theorem T130 : TT0 130 = some ⟨1, 8, .nilFunc, .func, false⟩ := rfl
theorem T131 : TT0 131 = some ⟨1, 8, .nilFunc, .func, false⟩ := rfl
theorem T133 : TT0 133 = some ⟨2, 2, .agg #[.int .u8 0, .int .u8 0], .struct [(0, 5), (1, 5)], false⟩ := rfl
theorem T134 : TT0 134 = some ⟨2, 2, .agg #[.int .u8 0, .int .u8 0], .struct [(0, 5), (1, 5)], false⟩ := rfl
theorem T135 : TT0 135 = some ⟨32, 32, .agg #[.int .u8 0, .int .u8 0, .int .u8 0, .int .u8 0, .int .u8 0, .int .u8 0, .int .u8 0, .int .u8 0, .int .u8 0, .int .u8 0, .int .u8 0, .int .u8 0, .int .u8 0, .int .u8 0, .int .u8 0, .int .u8 0, .int .u8 0, .int .u8 0, .int .u8 0, .int .u8 0, .int .u8 0, .int .u8 0, .int .u8 0, .int .u8 0, .int .u8 0, .int .u8 0, .int .u8 0, .int .u8 0, .int .u8 0, .int .u8 0, .int .u8 0, .int .u8 0], .array 16 134, true⟩ := rfl
theorem T137 : TT0 137 = some ⟨1, 8, .nilFunc, .func, false⟩ := rfl
theorem T138 : TT0 138 = some ⟨1, 8, .pointer none, .pointer 161, false⟩ := rfl
theorem T139 : TT0 139 = some ⟨4, 40, .agg #[.pointer none, .pointer none, .pointer none, .string ⟨#[]⟩], .struct [(0, 17), (1, 17), (2, 17), (3, 9)], false⟩ := rfl
theorem T140 : TT0 140 = some ⟨4, 40, .agg #[.pointer none, .pointer none, .pointer none, .string ⟨#[]⟩], .struct [(0, 17), (1, 17), (2, 17), (3, 9)], false⟩ := rfl
theorem T141 : TT0 141 = some ⟨0, 0, .agg #[], .array 0 16, true⟩ := rfl
theorem T142 : TT0 142 = some ⟨0, 0, .agg #[], .struct [(0, 141)], false⟩ := rfl
theorem T143 : TT0 143 = some ⟨0, 0, .agg #[], .struct [(0, 141)], false⟩ := rfl
theorem T144 : TT0 144 = some ⟨1, 8, .nilFunc, .func, false⟩ := rfl
theorem T145 : TT0 145 = some ⟨1, 1, .int .u8 0, .int .u8, false⟩ := rfl
theorem T146 : TT0 146 = some ⟨1, 1, .int .u8 0, .int .u8, false⟩ := rfl
theorem T147 : TT0 147 = some ⟨1, 8, .nilFunc, .func, false⟩ := rfl
theorem T148 : TT0 148 = some ⟨1, 4, .int .i32 0, .int .i32, false⟩ := rfl
theorem T149 : TT0 149 = some ⟨1, 4, .int .i32 0, .int .i32, false⟩ := rfl
theorem T150 : TT0 150 = some ⟨11, 48, .agg #[.int .u64 0, .int .u64 0, .int .u32 0, .int .u8 0, .int .u8 0, .int .u8 0, .int .u8 0, .nilFunc, .pointer none, .int .i32 0, .int .i32 0], .struct [(0, 12), (1, 12), (2, 108), (3, 145), (4, 5), (5, 5), (6, 146), (7, 147), (8, 111), (9, 148), (10, 149)], false⟩ := rfl
theorem T151 : TT0 151 = some ⟨11, 48, .agg #[.int .u64 0, .int .u64 0, .int .u32 0, .int .u8 0, .int .u8 0, .int .u8 0, .int .u8 0, .nilFunc, .pointer none, .int .i32 0, .int .i32 0], .struct [(0, 12), (1, 12), (2, 108), (3, 145), (4, 5), (5, 5), (6, 146), (7, 147), (8, 111), (9, 148), (10, 149)], false⟩ := rfl
theorem T152 : TT0 152 = some ⟨1, 8, .nilFunc, .func, false⟩ := rfl
theorem T153 : TT0 153 = some ⟨1, 8, .nilFunc, .func, false⟩ := rfl
theorem T154 : TT0 154 = some ⟨1, 8, .nilFunc, .func, false⟩ := rfl
theorem T155 : TT0 155 = some ⟨1, 8, .nilFunc, .func, false⟩ := rfl
theorem T156 : TT0 156 = some ⟨1, 8, .nilFunc, .func, false⟩ := rfl
theorem T157 : TT0 157 = some ⟨1, 8, .nilFunc, .func, false⟩ := rfl
theorem T158 : TT0 158 = some ⟨2, 24, .agg #[.string ⟨#[]⟩, .int .u8 0], .struct [(0, 9), (1, 146)], false⟩ := rfl
theorem T159 : TT0 159 = some ⟨2, 24, .agg #[.string ⟨#[]⟩, .int .u8 0], .struct [(0, 9), (1, 146)], false⟩ := rfl
theorem T160 : TT0 160 = some ⟨1, 16, .agg #[.string ⟨#[]⟩], .struct [(0, 9)], false⟩ := rfl
theorem T161 : TT0 161 = some ⟨1, 16, .agg #[.string ⟨#[]⟩], .struct [(0, 9)], false⟩ := rfl
theorem T162 : TT0 162 = some ⟨1, 8, .pointer none, .pointer 166, false⟩ := rfl
theorem T163 : TT0 163 = some ⟨1, 8, .nilFunc, .func, false⟩ := rfl
theorem T164 : TT0 164 = some ⟨1, 2, .int .u16 0, .int .u16, false⟩ := rfl
theorem T165 : TT0 165 = some ⟨5, 16, .agg #[.int .i32 0, .int .u16 0, .int .u16 0, .int .u32 0, .int .u32 0], .struct [(0, 148), (1, 164), (2, 164), (3, 108), (4, 108)], false⟩ := rfl
theorem T166 : TT0 166 = some ⟨5, 16, .agg #[.int .i32 0, .int .u16 0, .int .u16 0, .int .u32 0, .int .u32 0], .struct [(0, 148), (1, 164), (2, 164), (3, 108), (4, 108)], false⟩ := rfl
theorem T167 : TT0 167 = some ⟨1, 24, .slice none 0 0, .slice 170, false⟩ := rfl
theorem T168 : TT0 168 = some ⟨1, 4, .int .i32 0, .int .i32, false⟩ := rfl
theorem T169 : TT0 169 = some ⟨4, 16, .agg #[.int .i32 0, .int .i32 0, .int .i32 0, .int .i32 0], .struct [(0, 148), (1, 149), (2, 168), (3, 168)], false⟩ := rfl
theorem T170 : TT0 170 = some ⟨4, 16, .agg #[.int .i32 0, .int .i32 0, .int .i32 0, .int .i32 0], .struct [(0, 148), (1, 149), (2, 168), (3, 168)], false⟩ := rfl
theorem T171 : TT0 171 = some ⟨1, 8, .nilFunc, .func, false⟩ := rfl
theorem tk1 : TyOk Tryd.prog 1 ⟨1, 8, .nilFunc, .func, false⟩ := TyOk.mk (i := by
    have h : (Tryd.prog.info? 1).map (fun i => (i.size, i.bytes, i.zero)) = some (1, 8, some (.nilFunc)) := by kernel_rfl
    exact TyOk.info h) (u := by
    have h : (Tryd.prog.underlying 1).map kindOf = some (.func) := by kernel_rfl
    exact TyOk.under h) (e := fun h => by cases h)
theorem tk2 : TyOk Tryd.prog 2 ⟨1, 8, .int .i64 0, .int .i64, false⟩ := TyOk.mk (i := by
    have h : (Tryd.prog.info? 2).map (fun i => (i.size, i.bytes, i.zero)) = some (1, 8, some (.int .i64 0)) := by kernel_rfl
    exact TyOk.info h) (u := by
    have h : (Tryd.prog.underlying 2).map kindOf = some (.int .i64) := by kernel_rfl
    exact TyOk.under h) (e := fun h => by cases h)
theorem tk3 : TyOk Tryd.prog 3 ⟨1, 8, .int .i64 0, .int .i64, false⟩ := TyOk.mk (i := by
    have h : (Tryd.prog.info? 3).map (fun i => (i.size, i.bytes, i.zero)) = some (1, 8, some (.int .i64 0)) := by kernel_rfl
    exact TyOk.info h) (u := by
    have h : (Tryd.prog.underlying 3).map kindOf = some (.int .i64) := by kernel_rfl
    exact TyOk.under h) (e := fun h => by cases h)
theorem tk4 : TyOk Tryd.prog 4 ⟨1, 1, .bool false, .bool, false⟩ := TyOk.mk (i := by
    have h : (Tryd.prog.info? 4).map (fun i => (i.size, i.bytes, i.zero)) = some (1, 1, some (.bool false)) := by kernel_rfl
    exact TyOk.info h) (u := by
    have h : (Tryd.prog.underlying 4).map kindOf = some (.bool) := by kernel_rfl
    exact TyOk.under h) (e := fun h => by cases h)
theorem tk5 : TyOk Tryd.prog 5 ⟨1, 1, .int .u8 0, .int .u8, false⟩ := TyOk.mk (i := by
    have h : (Tryd.prog.info? 5).map (fun i => (i.size, i.bytes, i.zero)) = some (1, 1, some (.int .u8 0)) := by kernel_rfl
    exact TyOk.info h) (u := by
    have h : (Tryd.prog.underlying 5).map kindOf = some (.int .u8) := by kernel_rfl
    exact TyOk.under h) (e := fun h => by cases h)
theorem tk6 : TyOk Tryd.prog 6 ⟨1, 1, .int .u8 0, .int .u8, false⟩ := TyOk.mk (i := by
    have h : (Tryd.prog.info? 6).map (fun i => (i.size, i.bytes, i.zero)) = some (1, 1, some (.int .u8 0)) := by kernel_rfl
    exact TyOk.info h) (u := by
    have h : (Tryd.prog.underlying 6).map kindOf = some (.int .u8) := by kernel_rfl
    exact TyOk.under h) (e := fun h => by cases h)
theorem tk7 : TyOk Tryd.prog 7 ⟨4, 24, .agg #[.int .i64 0, .int .i64 0, .bool false, .int .u8 0], .struct [(0, 2), (1, 3), (2, 4), (3, 6)], false⟩ := TyOk.mk (i := by
    have h : (Tryd.prog.info? 7).map (fun i => (i.size, i.bytes, i.zero)) = some (4, 24, some (.agg #[.int .i64 0, .int .i64 0, .bool false, .int .u8 0])) := by kernel_rfl
    exact TyOk.info h) (u := by
    have h : (Tryd.prog.underlying 7).map kindOf = some (.struct [(0, 2), (1, 3), (2, 4), (3, 6)]) := by kernel_rfl
    exact TyOk.under h) (e := fun h => by cases h)
theorem tk8 : TyOk Tryd.prog 8 ⟨4, 24, .agg #[.int .i64 0, .int .i64 0, .bool false, .int .u8 0], .struct [(0, 2), (1, 3), (2, 4), (3, 6)], false⟩ := TyOk.mk (i := by
    have h : (Tryd.prog.info? 8).map (fun i => (i.size, i.bytes, i.zero)) = some (4, 24, some (.agg #[.int .i64 0, .int .i64 0, .bool false, .int .u8 0])) := by kernel_rfl
    exact TyOk.info h) (u := by
    have h : (Tryd.prog.underlying 8).map kindOf = some (.struct [(0, 2), (1, 3), (2, 4), (3, 6)]) := by kernel_rfl
    exact TyOk.under h) (e := fun h => by cases h)
theorem tk9 : TyOk Tryd.prog 9 ⟨1, 16, .string ⟨#[]⟩, .string, false⟩ := TyOk.mk (i := by
    have h : (Tryd.prog.info? 9).map (fun i => (i.size, i.bytes, i.zero)) = some (1, 16, some (.string ⟨#[]⟩)) := by kernel_rfl
    exact TyOk.info h) (u := by
    have h : (Tryd.prog.underlying 9).map kindOf = some (.string) := by kernel_rfl
    exact TyOk.under h) (e := fun h => by cases h)
theorem tk10 : TyOk Tryd.prog 10 ⟨1, 16, .string ⟨#[]⟩, .string, false⟩ := TyOk.mk (i := by
    have h : (Tryd.prog.info? 10).map (fun i => (i.size, i.bytes, i.zero)) = some (1, 16, some (.string ⟨#[]⟩)) := by kernel_rfl
    exact TyOk.info h) (u := by
    have h : (Tryd.prog.underlying 10).map kindOf = some (.string) := by kernel_rfl
    exact TyOk.under h) (e := fun h => by cases h)
theorem tk11 : TyOk Tryd.prog 11 ⟨1, 16, .string ⟨#[]⟩, .string, false⟩ := TyOk.mk (i := by
    have h : (Tryd.prog.info? 11).map (fun i => (i.size, i.bytes, i.zero)) = some (1, 16, some (.string ⟨#[]⟩)) := by kernel_rfl
    exact TyOk.info h) (u := by
    have h : (Tryd.prog.underlying 11).map kindOf = some (.string) := by kernel_rfl
    exact TyOk.under h) (e := fun h => by cases h)
theorem tk12 : TyOk Tryd.prog 12 ⟨1, 8, .int .u64 0, .int .u64, false⟩ := TyOk.mk (i := by
    have h : (Tryd.prog.info? 12).map (fun i => (i.size, i.bytes, i.zero)) = some (1, 8, some (.int .u64 0)) := by kernel_rfl
    exact TyOk.info h) (u := by
    have h : (Tryd.prog.underlying 12).map kindOf = some (.int .u64) := by kernel_rfl
    exact TyOk.under h) (e := fun h => by cases h)
theorem tk13 : TyOk Tryd.prog 13 ⟨2, 24, .agg #[.string ⟨#[]⟩, .int .u64 0], .struct [(0, 9), (1, 12)], false⟩ := TyOk.mk (i := by
    have h : (Tryd.prog.info? 13).map (fun i => (i.size, i.bytes, i.zero)) = some (2, 24, some (.agg #[.string ⟨#[]⟩, .int .u64 0])) := by kernel_rfl
    exact TyOk.info h) (u := by
    have h : (Tryd.prog.underlying 13).map kindOf = some (.struct [(0, 9), (1, 12)]) := by kernel_rfl
    exact TyOk.under h) (e := fun h => by cases h)
theorem tk14 : TyOk Tryd.prog 14 ⟨2, 24, .agg #[.string ⟨#[]⟩, .int .u64 0], .struct [(0, 9), (1, 12)], false⟩ := TyOk.mk (i := by
    have h : (Tryd.prog.info? 14).map (fun i => (i.size, i.bytes, i.zero)) = some (2, 24, some (.agg #[.string ⟨#[]⟩, .int .u64 0])) := by kernel_rfl
    exact TyOk.info h) (u := by
    have h : (Tryd.prog.underlying 14).map kindOf = some (.struct [(0, 9), (1, 12)]) := by kernel_rfl
    exact TyOk.under h) (e := fun h => by cases h)
theorem tk15 : TyOk Tryd.prog 15 ⟨1, 8, .pointer none, .pointer 140, false⟩ := TyOk.mk (i := by
    have h : (Tryd.prog.info? 15).map (fun i => (i.size, i.bytes, i.zero)) = some (1, 8, some (.pointer none)) := by kernel_rfl
    exact TyOk.info h) (u := by
    have h : (Tryd.prog.underlying 15).map kindOf = some (.pointer 140) := by kernel_rfl
    exact TyOk.under h) (e := fun h => by cases h)
theorem tk16 : TyOk Tryd.prog 16 ⟨1, 8, .pointer none, .pointer 143, false⟩ := TyOk.mk (i := by
    have h : (Tryd.prog.info? 16).map (fun i => (i.size, i.bytes, i.zero)) = some (1, 8, some (.pointer none)) := by kernel_rfl
    exact TyOk.info h) (u := by
    have h : (Tryd.prog.underlying 16).map kindOf = some (.pointer 143) := by kernel_rfl
    exact TyOk.under h) (e := fun h => by cases h)
theorem tk17 : TyOk Tryd.prog 17 ⟨1, 8, .pointer none, .pointer 151, false⟩ := TyOk.mk (i := by
    have h : (Tryd.prog.info? 17).map (fun i => (i.size, i.bytes, i.zero)) = some (1, 8, some (.pointer none)) := by kernel_rfl
    exact TyOk.info h) (u := by
    have h : (Tryd.prog.underlying 17).map kindOf = some (.pointer 151) := by kernel_rfl
    exact TyOk.under h) (e := fun h => by cases h)
theorem tk18 : TyOk Tryd.prog 18 ⟨1, 8, .agg #[.pointer none], .struct [(0, 17)], false⟩ := TyOk.mk (i := by
    have h : (Tryd.prog.info? 18).map (fun i => (i.size, i.bytes, i.zero)) = some (1, 8, some (.agg #[.pointer none])) := by kernel_rfl
    exact TyOk.info h) (u := by
    have h : (Tryd.prog.underlying 18).map kindOf = some (.struct [(0, 17)]) := by kernel_rfl
    exact TyOk.under h) (e := fun h => by cases h)
theorem tk19 : TyOk Tryd.prog 19 ⟨1, 8, .agg #[.pointer none], .struct [(0, 17)], false⟩ := TyOk.mk (i := by
    have h : (Tryd.prog.info? 19).map (fun i => (i.size, i.bytes, i.zero)) = some (1, 8, some (.agg #[.pointer none])) := by kernel_rfl
    exact TyOk.info h) (u := by
    have h : (Tryd.prog.underlying 19).map kindOf = some (.struct [(0, 17)]) := by kernel_rfl
    exact TyOk.under h) (e := fun h => by cases h)
theorem tk20 : TyOk Tryd.prog 20 ⟨1, 16, .nilIface, .iface, false⟩ := TyOk.mk (i := by
    have h : (Tryd.prog.info? 20).map (fun i => (i.size, i.bytes, i.zero)) = some (1, 16, some (.nilIface)) := by kernel_rfl
    exact TyOk.info h) (u := by
    have h : (Tryd.prog.underlying 20).map kindOf = some (.iface) := by kernel_rfl
    exact TyOk.under h) (e := fun h => by cases h)
theorem tk21 : TyOk Tryd.prog 21 ⟨1, 4, .int .i32 0, .int .i32, false⟩ := TyOk.mk (i := by
    have h : (Tryd.prog.info? 21).map (fun i => (i.size, i.bytes, i.zero)) = some (1, 4, some (.int .i32 0)) := by kernel_rfl
    exact TyOk.info h) (u := by
    have h : (Tryd.prog.underlying 21).map kindOf = some (.int .i32) := by kernel_rfl
    exact TyOk.under h) (e := fun h => by cases h)
theorem tk22 : TyOk Tryd.prog 22 ⟨1, 24, .slice none 0 0, .slice 9, false⟩ := TyOk.mk (i := by
    have h : (Tryd.prog.info? 22).map (fun i => (i.size, i.bytes, i.zero)) = some (1, 24, some (.slice none 0 0)) := by kernel_rfl
    exact TyOk.info h) (u := by
    have h : (Tryd.prog.underlying 22).map kindOf = some (.slice 9) := by kernel_rfl
    exact TyOk.under h) (e := fun h => by cases h)
theorem tk23 : TyOk Tryd.prog 23 ⟨1, 8, .nilFunc, .func, false⟩ := TyOk.mk (i := by
    have h : (Tryd.prog.info? 23).map (fun i => (i.size, i.bytes, i.zero)) = some (1, 8, some (.nilFunc)) := by kernel_rfl
    exact TyOk.info h) (u := by
    have h : (Tryd.prog.underlying 23).map kindOf = some (.func) := by kernel_rfl
    exact TyOk.under h) (e := fun h => by cases h)
theorem tk24 : TyOk Tryd.prog 24 ⟨1, 8, .nilFunc, .func, false⟩ := TyOk.mk (i := by
    have h : (Tryd.prog.info? 24).map (fun i => (i.size, i.bytes, i.zero)) = some (1, 8, some (.nilFunc)) := by kernel_rfl
    exact TyOk.info h) (u := by
    have h : (Tryd.prog.underlying 24).map kindOf = some (.func) := by kernel_rfl
    exact TyOk.under h) (e := fun h => by cases h)
theorem tk25 : TyOk Tryd.prog 25 ⟨1, 8, .int .i64 0, .int .i64, false⟩ := TyOk.mk (i := by
    have h : (Tryd.prog.info? 25).map (fun i => (i.size, i.bytes, i.zero)) = some (1, 8, some (.int .i64 0)) := by kernel_rfl
    exact TyOk.info h) (u := by
    have h : (Tryd.prog.underlying 25).map kindOf = some (.int .i64) := by kernel_rfl
    exact TyOk.under h) (e := fun h => by cases h)
theorem tk26 : TyOk Tryd.prog 26 ⟨1, 8, .nilFunc, .func, false⟩ := TyOk.mk (i := by
    have h : (Tryd.prog.info? 26).map (fun i => (i.size, i.bytes, i.zero)) = some (1, 8, some (.nilFunc)) := by kernel_rfl
    exact TyOk.info h) (u := by
    have h : (Tryd.prog.underlying 26).map kindOf = some (.func) := by kernel_rfl
    exact TyOk.under h) (e := fun h => by cases h)
theorem tk27 : TyOk Tryd.prog 27 ⟨1, 8, .nilFunc, .func, false⟩ := TyOk.mk (i := by
    have h : (Tryd.prog.info? 27).map (fun i => (i.size, i.bytes, i.zero)) = some (1, 8, some (.nilFunc)) := by kernel_rfl
    exact TyOk.info h) (u := by
    have h : (Tryd.prog.underlying 27).map kindOf = some (.func) := by kernel_rfl
    exact TyOk.under h) (e := fun h => by cases h)
theorem tk29 : TyOk Tryd.prog 29 ⟨1, 8, .nilFunc, .func, false⟩ := TyOk.mk (i := by
    have h : (Tryd.prog.info? 29).map (fun i => (i.size, i.bytes, i.zero)) = some (1, 8, some (.nilFunc)) := by kernel_rfl
    exact TyOk.info h) (u := by
    have h : (Tryd.prog.underlying 29).map kindOf = some (.func) := by kernel_rfl
    exact TyOk.under h) (e := fun h => by cases h)
theorem tk30 : TyOk Tryd.prog 30 ⟨1, 8, .nilFunc, .func, false⟩ := TyOk.mk (i := by
    have h : (Tryd.prog.info? 30).map (fun i => (i.size, i.bytes, i.zero)) = some (1, 8, some (.nilFunc)) := by kernel_rfl
    exact TyOk.info h) (u := by
    have h : (Tryd.prog.underlying 30).map kindOf = some (.func) := by kernel_rfl
    exact TyOk.under h) (e := fun h => by cases h)
theorem tk31 : TyOk Tryd.prog 31 ⟨1, 8, .nilFunc, .func, false⟩ := TyOk.mk (i := by
    have h : (Tryd.prog.info? 31).map (fun i => (i.size, i.bytes, i.zero)) = some (1, 8, some (.nilFunc)) := by kernel_rfl
    exact TyOk.info h) (u := by
    have h : (Tryd.prog.underlying 31).map kindOf = some (.func) := by kernel_rfl
    exact TyOk.under h) (e := fun h => by cases h)
theorem tk32 : TyOk Tryd.prog 32 ⟨1, 8, .nilFunc, .func, false⟩ := TyOk.mk (i := by
    have h : (Tryd.prog.info? 32).map (fun i => (i.size, i.bytes, i.zero)) = some (1, 8, some (.nilFunc)) := by kernel_rfl
    exact TyOk.info h) (u := by
    have h : (Tryd.prog.underlying 32).map kindOf = some (.func) := by kernel_rfl
    exact TyOk.under h) (e := fun h => by cases h)
theorem tk33 : TyOk Tryd.prog 33 ⟨1, 24, .slice none 0 0, .slice 3, false⟩ := TyOk.mk (i := by
    have h : (Tryd.prog.info? 33).map (fun i => (i.size, i.bytes, i.zero)) = some (1, 24, some (.slice none 0 0)) := by kernel_rfl
    exact TyOk.info h) (u := by
    have h : (Tryd.prog.underlying 33).map kindOf = some (.slice 3) := by kernel_rfl
    exact TyOk.under h) (e := fun h => by cases h)
theorem tk34 : TyOk Tryd.prog 34 ⟨1, 8, .nilFunc, .func, false⟩ := TyOk.mk (i := by
    have h : (Tryd.prog.info? 34).map (fun i => (i.size, i.bytes, i.zero)) = some (1, 8, some (.nilFunc)) := by kernel_rfl
    exact TyOk.info h) (u := by
    have h : (Tryd.prog.underlying 34).map kindOf = some (.func) := by kernel_rfl
    exact TyOk.under h) (e := fun h => by cases h)
theorem tk35 : TyOk Tryd.prog 35 ⟨1, 8, .nilFunc, .func, false⟩ := TyOk.mk (i := by
    have h : (Tryd.prog.info? 35).map (fun i => (i.size, i.bytes, i.zero)) = some (1, 8, some (.nilFunc)) := by kernel_rfl
    exact TyOk.info h) (u := by
    have h : (Tryd.prog.underlying 35).map kindOf = some (.func) := by kernel_rfl
    exact TyOk.under h) (e := fun h => by cases h)
theorem tk37 : TyOk Tryd.prog 37 ⟨1, 8, .nilFunc, .func, false⟩ := TyOk.mk (i := by
    have h : (Tryd.prog.info? 37).map (fun i => (i.size, i.bytes, i.zero)) = some (1, 8, some (.nilFunc)) := by kernel_rfl
    exact TyOk.info h) (u := by
    have h : (Tryd.prog.underlying 37).map kindOf = some (.func) := by kernel_rfl
    exact TyOk.under h) (e := fun h => by cases h)
theorem tk39 : TyOk Tryd.prog 39 ⟨1, 8, .nilFunc, .func, false⟩ := TyOk.mk (i := by
    have h : (Tryd.prog.info? 39).map (fun i => (i.size, i.bytes, i.zero)) = some (1, 8, some (.nilFunc)) := by kernel_rfl
    exact TyOk.info h) (u := by
    have h : (Tryd.prog.underlying 39).map kindOf = some (.func) := by kernel_rfl
    exact TyOk.under h) (e := fun h => by cases h)
theorem tk41 : TyOk Tryd.prog 41 ⟨1, 8, .nilFunc, .func, false⟩ := TyOk.mk (i := by
    have h : (Tryd.prog.info? 41).map (fun i => (i.size, i.bytes, i.zero)) = some (1, 8, some (.nilFunc)) := by kernel_rfl
    exact TyOk.info h) (u := by
    have h : (Tryd.prog.underlying 41).map kindOf = some (.func) := by kernel_rfl
    exact TyOk.under h) (e := fun h => by cases h)
theorem tk43 : TyOk Tryd.prog 43 ⟨1, 8, .nilFunc, .func, false⟩ := TyOk.mk (i := by
    have h : (Tryd.prog.info? 43).map (fun i => (i.size, i.bytes, i.zero)) = some (1, 8, some (.nilFunc)) := by kernel_rfl
    exact TyOk.info h) (u := by
    have h : (Tryd.prog.underlying 43).map kindOf = some (.func) := by kernel_rfl
    exact TyOk.under h) (e := fun h => by cases h)
theorem tk44 : TyOk Tryd.prog 44 ⟨1, 8, .nilFunc, .func, false⟩ := TyOk.mk (i := by
    have h : (Tryd.prog.info? 44).map (fun i => (i.size, i.bytes, i.zero)) = some (1, 8, some (.nilFunc)) := by kernel_rfl
    exact TyOk.info h) (u := by
    have h : (Tryd.prog.underlying 44).map kindOf = some (.func) := by kernel_rfl
    exact TyOk.under h) (e := fun h => by cases h)
theorem tk45 : TyOk Tryd.prog 45 ⟨1, 8, .nilFunc, .func, false⟩ := TyOk.mk (i := by
    have h : (Tryd.prog.info? 45).map (fun i => (i.size, i.bytes, i.zero)) = some (1, 8, some (.nilFunc)) := by kernel_rfl
    exact TyOk.info h) (u := by
    have h : (Tryd.prog.underlying 45).map kindOf = some (.func) := by kernel_rfl
    exact TyOk.under h) (e := fun h => by cases h)
theorem tk46 : TyOk Tryd.prog 46 ⟨1, 8, .nilFunc, .func, false⟩ := TyOk.mk (i := by
    have h : (Tryd.prog.info? 46).map (fun i => (i.size, i.bytes, i.zero)) = some (1, 8, some (.nilFunc)) := by kernel_rfl
    exact TyOk.info h) (u := by
    have h : (Tryd.prog.underlying 46).map kindOf = some (.func) := by kernel_rfl
    exact TyOk.under h) (e := fun h => by cases h)
theorem tk47 : TyOk Tryd.prog 47 ⟨1, 8, .nilFunc, .func, false⟩ := TyOk.mk (i := by
    have h : (Tryd.prog.info? 47).map (fun i => (i.size, i.bytes, i.zero)) = some (1, 8, some (.nilFunc)) := by kernel_rfl
    exact TyOk.info h) (u := by
    have h : (Tryd.prog.underlying 47).map kindOf = some (.func) := by kernel_rfl
    exact TyOk.under h) (e := fun h => by cases h)
theorem tk48 : TyOk Tryd.prog 48 ⟨1, 8, .nilFunc, .func, false⟩ := TyOk.mk (i := by
    have h : (Tryd.prog.info? 48).map (fun i => (i.size, i.bytes, i.zero)) = some (1, 8, some (.nilFunc)) := by kernel_rfl
    exact TyOk.info h) (u := by
    have h : (Tryd.prog.underlying 48).map kindOf = some (.func) := by kernel_rfl
    exact TyOk.under h) (e := fun h => by cases h)
theorem tk49 : TyOk Tryd.prog 49 ⟨1, 8, .nilFunc, .func, false⟩ := TyOk.mk (i := by
    have h : (Tryd.prog.info? 49).map (fun i => (i.size, i.bytes, i.zero)) = some (1, 8, some (.nilFunc)) := by kernel_rfl
    exact TyOk.info h) (u := by
    have h : (Tryd.prog.underlying 49).map kindOf = some (.func) := by kernel_rfl
    exact TyOk.under h) (e := fun h => by cases h)
theorem tk50 : TyOk Tryd.prog 50 ⟨2, 48, .agg #[.slice none 0 0, .slice none 0 0], .array 2 33, false⟩ := TyOk.mk (i := by
    have h : (Tryd.prog.info? 50).map (fun i => (i.size, i.bytes, i.zero)) = some (2, 48, some (.agg #[.slice none 0 0, .slice none 0 0])) := by kernel_rfl
    exact TyOk.info h) (u := by
    have h : (Tryd.prog.underlying 50).map kindOf = some (.array 2 33) := by kernel_rfl
    exact TyOk.under h) (e := fun h => by cases h)
theorem tk51 : TyOk Tryd.prog 51 ⟨1, 8, .nilFunc, .func, false⟩ := TyOk.mk (i := by
    have h : (Tryd.prog.info? 51).map (fun i => (i.size, i.bytes, i.zero)) = some (1, 8, some (.nilFunc)) := by kernel_rfl
    exact TyOk.info h) (u := by
    have h : (Tryd.prog.underlying 51).map kindOf = some (.func) := by kernel_rfl
    exact TyOk.under h) (e := fun h => by cases h)
theorem tk52 : TyOk Tryd.prog 52 ⟨1, 8, .nilFunc, .func, false⟩ := TyOk.mk (i := by
    have h : (Tryd.prog.info? 52).map (fun i => (i.size, i.bytes, i.zero)) = some (1, 8, some (.nilFunc)) := by kernel_rfl
    exact TyOk.info h) (u := by
    have h : (Tryd.prog.underlying 52).map kindOf = some (.func) := by kernel_rfl
    exact TyOk.under h) (e := fun h => by cases h)
theorem tk53 : TyOk Tryd.prog 53 ⟨1, 8, .nilFunc, .func, false⟩ := TyOk.mk (i := by
    have h : (Tryd.prog.info? 53).map (fun i => (i.size, i.bytes, i.zero)) = some (1, 8, some (.nilFunc)) := by kernel_rfl
    exact TyOk.info h) (u := by
    have h : (Tryd.prog.underlying 53).map kindOf = some (.func) := by kernel_rfl
    exact TyOk.under h) (e := fun h => by cases h)
theorem tk54 : TyOk Tryd.prog 54 ⟨1, 8, .nilFunc, .func, false⟩ := TyOk.mk (i := by
    have h : (Tryd.prog.info? 54).map (fun i => (i.size, i.bytes, i.zero)) = some (1, 8, some (.nilFunc)) := by kernel_rfl
    exact TyOk.info h) (u := by
    have h : (Tryd.prog.underlying 54).map kindOf = some (.func) := by kernel_rfl
    exact TyOk.under h) (e := fun h => by cases h)
theorem tk55 : TyOk Tryd.prog 55 ⟨1, 8, .nilFunc, .func, false⟩ := TyOk.mk (i := by
    have h : (Tryd.prog.info? 55).map (fun i => (i.size, i.bytes, i.zero)) = some (1, 8, some (.nilFunc)) := by kernel_rfl
    exact TyOk.info h) (u := by
    have h : (Tryd.prog.underlying 55).map kindOf = some (.func) := by kernel_rfl
    exact TyOk.under h) (e := fun h => by cases h)
theorem tk56 : TyOk Tryd.prog 56 ⟨1, 8, .nilFunc, .func, false⟩ := TyOk.mk (i := by
    have h : (Tryd.prog.info? 56).map (fun i => (i.size, i.bytes, i.zero)) = some (1, 8, some (.nilFunc)) := by kernel_rfl
    exact TyOk.info h) (u := by
    have h : (Tryd.prog.underlying 56).map kindOf = some (.func) := by kernel_rfl
    exact TyOk.under h) (e := fun h => by cases h)
theorem tk57 : TyOk Tryd.prog 57 ⟨1, 8, .nilFunc, .func, false⟩ := TyOk.mk (i := by
    have h : (Tryd.prog.info? 57).map (fun i => (i.size, i.bytes, i.zero)) = some (1, 8, some (.nilFunc)) := by kernel_rfl
    exact TyOk.info h) (u := by
    have h : (Tryd.prog.underlying 57).map kindOf = some (.func) := by kernel_rfl
    exact TyOk.under h) (e := fun h => by cases h)
theorem tk58 : TyOk Tryd.prog 58 ⟨1, 16, .nilIface, .iface, false⟩ := TyOk.mk (i := by
    have h : (Tryd.prog.info? 58).map (fun i => (i.size, i.bytes, i.zero)) = some (1, 16, some (.nilIface)) := by kernel_rfl
    exact TyOk.info h) (u := by
    have h : (Tryd.prog.underlying 58).map kindOf = some (.iface) := by kernel_rfl
    exact TyOk.under h) (e := fun h => by cases h)
theorem tk59 : TyOk Tryd.prog 59 ⟨1, 16, .nilIface, .iface, false⟩ := TyOk.mk (i := by
    have h : (Tryd.prog.info? 59).map (fun i => (i.size, i.bytes, i.zero)) = some (1, 16, some (.nilIface)) := by kernel_rfl
    exact TyOk.info h) (u := by
    have h : (Tryd.prog.underlying 59).map kindOf = some (.iface) := by kernel_rfl
    exact TyOk.under h) (e := fun h => by cases h)
theorem tk61 : TyOk Tryd.prog 61 ⟨1, 8, .nilFunc, .func, false⟩ := TyOk.mk (i := by
    have h : (Tryd.prog.info? 61).map (fun i => (i.size, i.bytes, i.zero)) = some (1, 8, some (.nilFunc)) := by kernel_rfl
    exact TyOk.info h) (u := by
    have h : (Tryd.prog.underlying 61).map kindOf = some (.func) := by kernel_rfl
    exact TyOk.under h) (e := fun h => by cases h)
theorem tk62 : TyOk Tryd.prog 62 ⟨1, 8, .nilFunc, .func, false⟩ := TyOk.mk (i := by
    have h : (Tryd.prog.info? 62).map (fun i => (i.size, i.bytes, i.zero)) = some (1, 8, some (.nilFunc)) := by kernel_rfl
    exact TyOk.info h) (u := by
    have h : (Tryd.prog.underlying 62).map kindOf = some (.func) := by kernel_rfl
    exact TyOk.under h) (e := fun h => by cases h)
theorem tk63 : TyOk Tryd.prog 63 ⟨1, 8, .nilFunc, .func, false⟩ := TyOk.mk (i := by
    have h : (Tryd.prog.info? 63).map (fun i => (i.size, i.bytes, i.zero)) = some (1, 8, some (.nilFunc)) := by kernel_rfl
    exact TyOk.info h) (u := by
    have h : (Tryd.prog.underlying 63).map kindOf = some (.func) := by kernel_rfl
    exact TyOk.under h) (e := fun h => by cases h)
theorem tk64 : TyOk Tryd.prog 64 ⟨1, 8, .nilFunc, .func, false⟩ := TyOk.mk (i := by
    have h : (Tryd.prog.info? 64).map (fun i => (i.size, i.bytes, i.zero)) = some (1, 8, some (.nilFunc)) := by kernel_rfl
    exact TyOk.info h) (u := by
    have h : (Tryd.prog.underlying 64).map kindOf = some (.func) := by kernel_rfl
    exact TyOk.under h) (e := fun h => by cases h)
theorem tk65 : TyOk Tryd.prog 65 ⟨1, 8, .nilFunc, .func, false⟩ := TyOk.mk (i := by
    have h : (Tryd.prog.info? 65).map (fun i => (i.size, i.bytes, i.zero)) = some (1, 8, some (.nilFunc)) := by kernel_rfl
    exact TyOk.info h) (u := by
    have h : (Tryd.prog.underlying 65).map kindOf = some (.func) := by kernel_rfl
    exact TyOk.under h) (e := fun h => by cases h)
theorem tk66 : TyOk Tryd.prog 66 ⟨1, 8, .nilFunc, .func, false⟩ := TyOk.mk (i := by
    have h : (Tryd.prog.info? 66).map (fun i => (i.size, i.bytes, i.zero)) = some (1, 8, some (.nilFunc)) := by kernel_rfl
    exact TyOk.info h) (u := by
    have h : (Tryd.prog.underlying 66).map kindOf = some (.func) := by kernel_rfl
    exact TyOk.under h) (e := fun h => by cases h)
theorem tk67 : TyOk Tryd.prog 67 ⟨1, 8, .nilFunc, .func, false⟩ := TyOk.mk (i := by
    have h : (Tryd.prog.info? 67).map (fun i => (i.size, i.bytes, i.zero)) = some (1, 8, some (.nilFunc)) := by kernel_rfl
    exact TyOk.info h) (u := by
    have h : (Tryd.prog.underlying 67).map kindOf = some (.func) := by kernel_rfl
    exact TyOk.under h) (e := fun h => by cases h)
theorem tk68 : TyOk Tryd.prog 68 ⟨1, 8, .nilFunc, .func, false⟩ := TyOk.mk (i := by
    have h : (Tryd.prog.info? 68).map (fun i => (i.size, i.bytes, i.zero)) = some (1, 8, some (.nilFunc)) := by kernel_rfl
    exact TyOk.info h) (u := by
    have h : (Tryd.prog.underlying 68).map kindOf = some (.func) := by kernel_rfl
    exact TyOk.under h) (e := fun h => by cases h)
theorem tk69 : TyOk Tryd.prog 69 ⟨1, 8, .nilFunc, .func, false⟩ := TyOk.mk (i := by
    have h : (Tryd.prog.info? 69).map (fun i => (i.size, i.bytes, i.zero)) = some (1, 8, some (.nilFunc)) := by kernel_rfl
    exact TyOk.info h) (u := by
    have h : (Tryd.prog.underlying 69).map kindOf = some (.func) := by kernel_rfl
    exact TyOk.under h) (e := fun h => by cases h)
theorem tk71 : TyOk Tryd.prog 71 ⟨1, 8, .nilFunc, .func, false⟩ := TyOk.mk (i := by
    have h : (Tryd.prog.info? 71).map (fun i => (i.size, i.bytes, i.zero)) = some (1, 8, some (.nilFunc)) := by kernel_rfl
    exact TyOk.info h) (u := by
    have h : (Tryd.prog.underlying 71).map kindOf = some (.func) := by kernel_rfl
    exact TyOk.under h) (e := fun h => by cases h)
theorem tk72 : TyOk Tryd.prog 72 ⟨1, 8, .nilFunc, .func, false⟩ := TyOk.mk (i := by
    have h : (Tryd.prog.info? 72).map (fun i => (i.size, i.bytes, i.zero)) = some (1, 8, some (.nilFunc)) := by kernel_rfl
    exact TyOk.info h) (u := by
    have h : (Tryd.prog.underlying 72).map kindOf = some (.func) := by kernel_rfl
    exact TyOk.under h) (e := fun h => by cases h)
theorem tk73 : TyOk Tryd.prog 73 ⟨1, 16, .nilIface, .iface, false⟩ := TyOk.mk (i := by
    have h : (Tryd.prog.info? 73).map (fun i => (i.size, i.bytes, i.zero)) = some (1, 16, some (.nilIface)) := by kernel_rfl
    exact TyOk.info h) (u := by
    have h : (Tryd.prog.underlying 73).map kindOf = some (.iface) := by kernel_rfl
    exact TyOk.under h) (e := fun h => by cases h)
theorem tk74 : TyOk Tryd.prog 74 ⟨1, 16, .nilIface, .iface, false⟩ := TyOk.mk (i := by
    have h : (Tryd.prog.info? 74).map (fun i => (i.size, i.bytes, i.zero)) = some (1, 16, some (.nilIface)) := by kernel_rfl
    exact TyOk.info h) (u := by
    have h : (Tryd.prog.underlying 74).map kindOf = some (.iface) := by kernel_rfl
    exact TyOk.under h) (e := fun h => by cases h)
theorem tk75 : TyOk Tryd.prog 75 ⟨1, 8, .nilFunc, .func, false⟩ := TyOk.mk (i := by
    have h : (Tryd.prog.info? 75).map (fun i => (i.size, i.bytes, i.zero)) = some (1, 8, some (.nilFunc)) := by kernel_rfl
    exact TyOk.info h) (u := by
    have h : (Tryd.prog.underlying 75).map kindOf = some (.func) := by kernel_rfl
    exact TyOk.under h) (e := fun h => by cases h)
theorem tk76 : TyOk Tryd.prog 76 ⟨1, 8, .nilFunc, .func, false⟩ := TyOk.mk (i := by
    have h : (Tryd.prog.info? 76).map (fun i => (i.size, i.bytes, i.zero)) = some (1, 8, some (.nilFunc)) := by kernel_rfl
    exact TyOk.info h) (u := by
    have h : (Tryd.prog.underlying 76).map kindOf = some (.func) := by kernel_rfl
    exact TyOk.under h) (e := fun h => by cases h)
theorem tk77 : TyOk Tryd.prog 77 ⟨1, 8, .nilFunc, .func, false⟩ := TyOk.mk (i := by
    have h : (Tryd.prog.info? 77).map (fun i => (i.size, i.bytes, i.zero)) = some (1, 8, some (.nilFunc)) := by kernel_rfl
    exact TyOk.info h) (u := by
    have h : (Tryd.prog.underlying 77).map kindOf = some (.func) := by kernel_rfl
    exact TyOk.under h) (e := fun h => by cases h)
theorem tk78 : TyOk Tryd.prog 78 ⟨1, 8, .nilFunc, .func, false⟩ := TyOk.mk (i := by
    have h : (Tryd.prog.info? 78).map (fun i => (i.size, i.bytes, i.zero)) = some (1, 8, some (.nilFunc)) := by kernel_rfl
    exact TyOk.info h) (u := by
    have h : (Tryd.prog.underlying 78).map kindOf = some (.func) := by kernel_rfl
    exact TyOk.under h) (e := fun h => by cases h)
theorem tk79 : TyOk Tryd.prog 79 ⟨1, 8, .nilFunc, .func, false⟩ := TyOk.mk (i := by
    have h : (Tryd.prog.info? 79).map (fun i => (i.size, i.bytes, i.zero)) = some (1, 8, some (.nilFunc)) := by kernel_rfl
    exact TyOk.info h) (u := by
    have h : (Tryd.prog.underlying 79).map kindOf = some (.func) := by kernel_rfl
    exact TyOk.under h) (e := fun h => by cases h)
theorem tk80 : TyOk Tryd.prog 80 ⟨1, 8, .int .u64 0, .int .u64, false⟩ := TyOk.mk (i := by
    have h : (Tryd.prog.info? 80).map (fun i => (i.size, i.bytes, i.zero)) = some (1, 8, some (.int .u64 0)) := by kernel_rfl
    exact TyOk.info h) (u := by
    have h : (Tryd.prog.underlying 80).map kindOf = some (.int .u64) := by kernel_rfl
    exact TyOk.under h) (e := fun h => by cases h)
theorem tk81 : TyOk Tryd.prog 81 ⟨1, 8, .pointer none, .pointer 84, false⟩ := TyOk.mk (i := by
    have h : (Tryd.prog.info? 81).map (fun i => (i.size, i.bytes, i.zero)) = some (1, 8, some (.pointer none)) := by kernel_rfl
    exact TyOk.info h) (u := by
    have h : (Tryd.prog.underlying 81).map kindOf = some (.pointer 84) := by kernel_rfl
    exact TyOk.under h) (e := fun h => by cases h)
theorem tk82 : TyOk Tryd.prog 82 ⟨1, 24, .slice none 0 0, .slice 5, false⟩ := TyOk.mk (i := by
    have h : (Tryd.prog.info? 82).map (fun i => (i.size, i.bytes, i.zero)) = some (1, 24, some (.slice none 0 0)) := by kernel_rfl
    exact TyOk.info h) (u := by
    have h : (Tryd.prog.underlying 82).map kindOf = some (.slice 5) := by kernel_rfl
    exact TyOk.under h) (e := fun h => by cases h)
theorem tk83 : TyOk Tryd.prog 83 ⟨2, 32, .agg #[.pointer none, .slice none 0 0], .struct [(0, 81), (1, 82)], false⟩ := TyOk.mk (i := by
    have h : (Tryd.prog.info? 83).map (fun i => (i.size, i.bytes, i.zero)) = some (2, 32, some (.agg #[.pointer none, .slice none 0 0])) := by kernel_rfl
    exact TyOk.info h) (u := by
    have h : (Tryd.prog.underlying 83).map kindOf = some (.struct [(0, 81), (1, 82)]) := by kernel_rfl
    exact TyOk.under h) (e := fun h => by cases h)
theorem tk84 : TyOk Tryd.prog 84 ⟨2, 32, .agg #[.pointer none, .slice none 0 0], .struct [(0, 81), (1, 82)], false⟩ := TyOk.mk (i := by
    have h : (Tryd.prog.info? 84).map (fun i => (i.size, i.bytes, i.zero)) = some (2, 32, some (.agg #[.pointer none, .slice none 0 0])) := by kernel_rfl
    exact TyOk.info h) (u := by
    have h : (Tryd.prog.underlying 84).map kindOf = some (.struct [(0, 81), (1, 82)]) := by kernel_rfl
    exact TyOk.under h) (e := fun h => by cases h)
theorem tk85 : TyOk Tryd.prog 85 ⟨1, 8, .nilFunc, .func, false⟩ := TyOk.mk (i := by
    have h : (Tryd.prog.info? 85).map (fun i => (i.size, i.bytes, i.zero)) = some (1, 8, some (.nilFunc)) := by kernel_rfl
    exact TyOk.info h) (u := by
    have h : (Tryd.prog.underlying 85).map kindOf = some (.func) := by kernel_rfl
    exact TyOk.under h) (e := fun h => by cases h)
theorem tk86 : TyOk Tryd.prog 86 ⟨1, 8, .nilFunc, .func, false⟩ := TyOk.mk (i := by
    have h : (Tryd.prog.info? 86).map (fun i => (i.size, i.bytes, i.zero)) = some (1, 8, some (.nilFunc)) := by kernel_rfl
    exact TyOk.info h) (u := by
    have h : (Tryd.prog.underlying 86).map kindOf = some (.func) := by kernel_rfl
    exact TyOk.under h) (e := fun h => by cases h)
theorem tk87 : TyOk Tryd.prog 87 ⟨1, 8, .nilFunc, .func, false⟩ := TyOk.mk (i := by
    have h : (Tryd.prog.info? 87).map (fun i => (i.size, i.bytes, i.zero)) = some (1, 8, some (.nilFunc)) := by kernel_rfl
    exact TyOk.info h) (u := by
    have h : (Tryd.prog.underlying 87).map kindOf = some (.func) := by kernel_rfl
    exact TyOk.under h) (e := fun h => by cases h)
theorem tk88 : TyOk Tryd.prog 88 ⟨1, 8, .nilFunc, .func, false⟩ := TyOk.mk (i := by
    have h : (Tryd.prog.info? 88).map (fun i => (i.size, i.bytes, i.zero)) = some (1, 8, some (.nilFunc)) := by kernel_rfl
    exact TyOk.info h) (u := by
    have h : (Tryd.prog.underlying 88).map kindOf = some (.func) := by kernel_rfl
    exact TyOk.under h) (e := fun h => by cases h)
theorem tk89 : TyOk Tryd.prog 89 ⟨1, 8, .agg #[.pointer none], .struct [(0, 17)], false⟩ := TyOk.mk (i := by
    have h : (Tryd.prog.info? 89).map (fun i => (i.size, i.bytes, i.zero)) = some (1, 8, some (.agg #[.pointer none])) := by kernel_rfl
    exact TyOk.info h) (u := by
    have h : (Tryd.prog.underlying 89).map kindOf = some (.struct [(0, 17)]) := by kernel_rfl
    exact TyOk.under h) (e := fun h => by cases h)
theorem tk90 : TyOk Tryd.prog 90 ⟨1, 8, .agg #[.pointer none], .struct [(0, 17)], false⟩ := TyOk.mk (i := by
    have h : (Tryd.prog.info? 90).map (fun i => (i.size, i.bytes, i.zero)) = some (1, 8, some (.agg #[.pointer none])) := by kernel_rfl
    exact TyOk.info h) (u := by
    have h : (Tryd.prog.underlying 90).map kindOf = some (.struct [(0, 17)]) := by kernel_rfl
    exact TyOk.under h) (e := fun h => by cases h)
theorem tk91 : TyOk Tryd.prog 91 ⟨1, 8, .pointer none, .pointer 159, false⟩ := TyOk.mk (i := by
    have h : (Tryd.prog.info? 91).map (fun i => (i.size, i.bytes, i.zero)) = some (1, 8, some (.pointer none)) := by kernel_rfl
    exact TyOk.info h) (u := by
    have h : (Tryd.prog.underlying 91).map kindOf = some (.pointer 159) := by kernel_rfl
    exact TyOk.under h) (e := fun h => by cases h)
theorem tk92 : TyOk Tryd.prog 92 ⟨1, 16, .nilIface, .iface, false⟩ := TyOk.mk (i := by
    have h : (Tryd.prog.info? 92).map (fun i => (i.size, i.bytes, i.zero)) = some (1, 16, some (.nilIface)) := by kernel_rfl
    exact TyOk.info h) (u := by
    have h : (Tryd.prog.underlying 92).map kindOf = some (.iface) := by kernel_rfl
    exact TyOk.under h) (e := fun h => by cases h)
theorem tk94 : TyOk Tryd.prog 94 ⟨1, 8, .nilFunc, .func, false⟩ := TyOk.mk (i := by
    have h : (Tryd.prog.info? 94).map (fun i => (i.size, i.bytes, i.zero)) = some (1, 8, some (.nilFunc)) := by kernel_rfl
    exact TyOk.info h) (u := by
    have h : (Tryd.prog.underlying 94).map kindOf = some (.func) := by kernel_rfl
    exact TyOk.under h) (e := fun h => by cases h)
theorem tk95 : TyOk Tryd.prog 95 ⟨1, 16, .nilIface, .iface, false⟩ := TyOk.mk (i := by
    have h : (Tryd.prog.info? 95).map (fun i => (i.size, i.bytes, i.zero)) = some (1, 16, some (.nilIface)) := by kernel_rfl
    exact TyOk.info h) (u := by
    have h : (Tryd.prog.underlying 95).map kindOf = some (.iface) := by kernel_rfl
    exact TyOk.under h) (e := fun h => by cases h)
theorem tk96 : TyOk Tryd.prog 96 ⟨1, 8, .nilFunc, .func, false⟩ := TyOk.mk (i := by
    have h : (Tryd.prog.info? 96).map (fun i => (i.size, i.bytes, i.zero)) = some (1, 8, some (.nilFunc)) := by kernel_rfl
    exact TyOk.info h) (u := by
    have h : (Tryd.prog.underlying 96).map kindOf = some (.func) := by kernel_rfl
    exact TyOk.under h) (e := fun h => by cases h)
theorem tk97 : TyOk Tryd.prog 97 ⟨1, 16, .nilIface, .iface, false⟩ := TyOk.mk (i := by
    have h : (Tryd.prog.info? 97).map (fun i => (i.size, i.bytes, i.zero)) = some (1, 16, some (.nilIface)) := by kernel_rfl
    exact TyOk.info h) (u := by
    have h : (Tryd.prog.underlying 97).map kindOf = some (.iface) := by kernel_rfl
    exact TyOk.under h) (e := fun h => by cases h)
theorem tk98 : TyOk Tryd.prog 98 ⟨1, 24, .slice none 0 0, .slice 59, false⟩ := TyOk.mk (i := by
    have h : (Tryd.prog.info? 98).map (fun i => (i.size, i.bytes, i.zero)) = some (1, 24, some (.slice none 0 0)) := by kernel_rfl
    exact TyOk.info h) (u := by
    have h : (Tryd.prog.underlying 98).map kindOf = some (.slice 59) := by kernel_rfl
    exact TyOk.under h) (e := fun h => by cases h)
theorem tk99 : TyOk Tryd.prog 99 ⟨1, 8, .nilFunc, .func, false⟩ := TyOk.mk (i := by
    have h : (Tryd.prog.info? 99).map (fun i => (i.size, i.bytes, i.zero)) = some (1, 8, some (.nilFunc)) := by kernel_rfl
    exact TyOk.info h) (u := by
    have h : (Tryd.prog.underlying 99).map kindOf = some (.func) := by kernel_rfl
    exact TyOk.under h) (e := fun h => by cases h)
theorem tk100 : TyOk Tryd.prog 100 ⟨1, 8, .nilFunc, .func, false⟩ := TyOk.mk (i := by
    have h : (Tryd.prog.info? 100).map (fun i => (i.size, i.bytes, i.zero)) = some (1, 8, some (.nilFunc)) := by kernel_rfl
    exact TyOk.info h) (u := by
    have h : (Tryd.prog.underlying 100).map kindOf = some (.func) := by kernel_rfl
    exact TyOk.under h) (e := fun h => by cases h)
theorem tk101 : TyOk Tryd.prog 101 ⟨1, 8, .int .i64 0, .int .i64, false⟩ := TyOk.mk (i := by
    have h : (Tryd.prog.info? 101).map (fun i => (i.size, i.bytes, i.zero)) = some (1, 8, some (.int .i64 0)) := by kernel_rfl
    exact TyOk.info h) (u := by
    have h : (Tryd.prog.underlying 101).map kindOf = some (.int .i64) := by kernel_rfl
    exact TyOk.under h) (e := fun h => by cases h)
theorem tk103 : TyOk Tryd.prog 103 ⟨1, 8, .nilFunc, .func, false⟩ := TyOk.mk (i := by
    have h : (Tryd.prog.info? 103).map (fun i => (i.size, i.bytes, i.zero)) = some (1, 8, some (.nilFunc)) := by kernel_rfl
    exact TyOk.info h) (u := by
    have h : (Tryd.prog.underlying 103).map kindOf = some (.func) := by kernel_rfl
    exact TyOk.under h) (e := fun h => by cases h)
theorem tk104 : TyOk Tryd.prog 104 ⟨1, 8, .nilFunc, .func, false⟩ := TyOk.mk (i := by
    have h : (Tryd.prog.info? 104).map (fun i => (i.size, i.bytes, i.zero)) = some (1, 8, some (.nilFunc)) := by kernel_rfl
    exact TyOk.info h) (u := by
    have h : (Tryd.prog.underlying 104).map kindOf = some (.func) := by kernel_rfl
    exact TyOk.under h) (e := fun h => by cases h)
theorem tk105 : TyOk Tryd.prog 105 ⟨1, 8, .nilFunc, .func, false⟩ := TyOk.mk (i := by
    have h : (Tryd.prog.info? 105).map (fun i => (i.size, i.bytes, i.zero)) = some (1, 8, some (.nilFunc)) := by kernel_rfl
    exact TyOk.info h) (u := by
    have h : (Tryd.prog.underlying 105).map kindOf = some (.func) := by kernel_rfl
    exact TyOk.under h) (e := fun h => by cases h)
theorem tk106 : TyOk Tryd.prog 106 ⟨1, 8, .nilFunc, .func, false⟩ := TyOk.mk (i := by
    have h : (Tryd.prog.info? 106).map (fun i => (i.size, i.bytes, i.zero)) = some (1, 8, some (.nilFunc)) := by kernel_rfl
    exact TyOk.info h) (u := by
    have h : (Tryd.prog.underlying 106).map kindOf = some (.func) := by kernel_rfl
    exact TyOk.under h) (e := fun h => by cases h)
theorem tk107 : TyOk Tryd.prog 107 ⟨1, 8, .nilFunc, .func, false⟩ := TyOk.mk (i := by
    have h : (Tryd.prog.info? 107).map (fun i => (i.size, i.bytes, i.zero)) = some (1, 8, some (.nilFunc)) := by kernel_rfl
    exact TyOk.info h) (u := by
    have h : (Tryd.prog.underlying 107).map kindOf = some (.func) := by kernel_rfl
    exact TyOk.under h) (e := fun h => by cases h)
theorem tk108 : TyOk Tryd.prog 108 ⟨1, 4, .int .u32 0, .int .u32, false⟩ := TyOk.mk (i := by
    have h : (Tryd.prog.info? 108).map (fun i => (i.size, i.bytes, i.zero)) = some (1, 4, some (.int .u32 0)) := by kernel_rfl
    exact TyOk.info h) (u := by
    have h : (Tryd.prog.underlying 108).map kindOf = some (.int .u32) := by kernel_rfl
    exact TyOk.under h) (e := fun h => by cases h)
theorem tk109 : TyOk Tryd.prog 109 ⟨1, 8, .nilFunc, .func, false⟩ := TyOk.mk (i := by
    have h : (Tryd.prog.info? 109).map (fun i => (i.size, i.bytes, i.zero)) = some (1, 8, some (.nilFunc)) := by kernel_rfl
    exact TyOk.info h) (u := by
    have h : (Tryd.prog.underlying 109).map kindOf = some (.func) := by kernel_rfl
    exact TyOk.under h) (e := fun h => by cases h)
theorem tk110 : TyOk Tryd.prog 110 ⟨1, 8, .int .u64 0, .int .u64, false⟩ := TyOk.mk (i := by
    have h : (Tryd.prog.info? 110).map (fun i => (i.size, i.bytes, i.zero)) = some (1, 8, some (.int .u64 0)) := by kernel_rfl
    exact TyOk.info h) (u := by
    have h : (Tryd.prog.underlying 110).map kindOf = some (.int .u64) := by kernel_rfl
    exact TyOk.under h) (e := fun h => by cases h)
theorem tk111 : TyOk Tryd.prog 111 ⟨1, 8, .pointer none, .pointer 5, false⟩ := TyOk.mk (i := by
    have h : (Tryd.prog.info? 111).map (fun i => (i.size, i.bytes, i.zero)) = some (1, 8, some (.pointer none)) := by kernel_rfl
    exact TyOk.info h) (u := by
    have h : (Tryd.prog.underlying 111).map kindOf = some (.pointer 5) := by kernel_rfl
    exact TyOk.under h) (e := fun h => by cases h)
theorem tk112 : TyOk Tryd.prog 112 ⟨1, 8, .nilFunc, .func, false⟩ := TyOk.mk (i := by
    have h : (Tryd.prog.info? 112).map (fun i => (i.size, i.bytes, i.zero)) = some (1, 8, some (.nilFunc)) := by kernel_rfl
    exact TyOk.info h) (u := by
    have h : (Tryd.prog.underlying 112).map kindOf = some (.func) := by kernel_rfl
    exact TyOk.under h) (e := fun h => by cases h)
theorem tk113 : TyOk Tryd.prog 113 ⟨1, 8, .nilFunc, .func, false⟩ := TyOk.mk (i := by
    have h : (Tryd.prog.info? 113).map (fun i => (i.size, i.bytes, i.zero)) = some (1, 8, some (.nilFunc)) := by kernel_rfl
    exact TyOk.info h) (u := by
    have h : (Tryd.prog.underlying 113).map kindOf = some (.func) := by kernel_rfl
    exact TyOk.under h) (e := fun h => by cases h)
theorem tk114 : TyOk Tryd.prog 114 ⟨1, 8, .nilFunc, .func, false⟩ := TyOk.mk (i := by
    have h : (Tryd.prog.info? 114).map (fun i => (i.size, i.bytes, i.zero)) = some (1, 8, some (.nilFunc)) := by kernel_rfl
    exact TyOk.info h) (u := by
    have h : (Tryd.prog.underlying 114).map kindOf = some (.func) := by kernel_rfl
    exact TyOk.under h) (e := fun h => by cases h)
theorem tk115 : TyOk Tryd.prog 115 ⟨1, 8, .int .u64 0, .int .u64, false⟩ := TyOk.mk (i := by
    have h : (Tryd.prog.info? 115).map (fun i => (i.size, i.bytes, i.zero)) = some (1, 8, some (.int .u64 0)) := by kernel_rfl
    exact TyOk.info h) (u := by
    have h : (Tryd.prog.underlying 115).map kindOf = some (.int .u64) := by kernel_rfl
    exact TyOk.under h) (e := fun h => by cases h)
theorem tk116 : TyOk Tryd.prog 116 ⟨1, 8, .nilFunc, .func, false⟩ := TyOk.mk (i := by
    have h : (Tryd.prog.info? 116).map (fun i => (i.size, i.bytes, i.zero)) = some (1, 8, some (.nilFunc)) := by kernel_rfl
    exact TyOk.info h) (u := by
    have h : (Tryd.prog.underlying 116).map kindOf = some (.func) := by kernel_rfl
    exact TyOk.under h) (e := fun h => by cases h)
theorem tk117 : TyOk Tryd.prog 117 ⟨1, 8, .nilFunc, .func, false⟩ := TyOk.mk (i := by
    have h : (Tryd.prog.info? 117).map (fun i => (i.size, i.bytes, i.zero)) = some (1, 8, some (.nilFunc)) := by kernel_rfl
    exact TyOk.info h) (u := by
    have h : (Tryd.prog.underlying 117).map kindOf = some (.func) := by kernel_rfl
    exact TyOk.under h) (e := fun h => by cases h)
theorem tk118 : TyOk Tryd.prog 118 ⟨1, 8, .nilFunc, .func, false⟩ := TyOk.mk (i := by
    have h : (Tryd.prog.info? 118).map (fun i => (i.size, i.bytes, i.zero)) = some (1, 8, some (.nilFunc)) := by kernel_rfl
    exact TyOk.info h) (u := by
    have h : (Tryd.prog.underlying 118).map kindOf = some (.func) := by kernel_rfl
    exact TyOk.under h) (e := fun h => by cases h)
theorem tk119 : TyOk Tryd.prog 119 ⟨1, 8, .pointer none, .pointer 3, false⟩ := TyOk.mk (i := by
    have h : (Tryd.prog.info? 119).map (fun i => (i.size, i.bytes, i.zero)) = some (1, 8, some (.pointer none)) := by kernel_rfl
    exact TyOk.info h) (u := by
    have h : (Tryd.prog.underlying 119).map kindOf = some (.pointer 3) := by kernel_rfl
    exact TyOk.under h) (e := fun h => by cases h)
theorem tk120 : TyOk Tryd.prog 120 ⟨1, 8, .nilFunc, .func, false⟩ := TyOk.mk (i := by
    have h : (Tryd.prog.info? 120).map (fun i => (i.size, i.bytes, i.zero)) = some (1, 8, some (.nilFunc)) := by kernel_rfl
    exact TyOk.info h) (u := by
    have h : (Tryd.prog.underlying 120).map kindOf = some (.func) := by kernel_rfl
    exact TyOk.under h) (e := fun h => by cases h)
theorem tk122 : TyOk Tryd.prog 122 ⟨1, 8, .nilFunc, .func, false⟩ := TyOk.mk (i := by
    have h : (Tryd.prog.info? 122).map (fun i => (i.size, i.bytes, i.zero)) = some (1, 8, some (.nilFunc)) := by kernel_rfl
    exact TyOk.info h) (u := by
    have h : (Tryd.prog.underlying 122).map kindOf = some (.func) := by kernel_rfl
    exact TyOk.under h) (e := fun h => by cases h)
theorem tk123 : TyOk Tryd.prog 123 ⟨1, 8, .nilFunc, .func, false⟩ := TyOk.mk (i := by
    have h : (Tryd.prog.info? 123).map (fun i => (i.size, i.bytes, i.zero)) = some (1, 8, some (.nilFunc)) := by kernel_rfl
    exact TyOk.info h) (u := by
    have h : (Tryd.prog.underlying 123).map kindOf = some (.func) := by kernel_rfl
    exact TyOk.under h) (e := fun h => by cases h)
theorem tk124 : TyOk Tryd.prog 124 ⟨1, 8, .nilFunc, .func, false⟩ := TyOk.mk (i := by
    have h : (Tryd.prog.info? 124).map (fun i => (i.size, i.bytes, i.zero)) = some (1, 8, some (.nilFunc)) := by kernel_rfl
    exact TyOk.info h) (u := by
    have h : (Tryd.prog.underlying 124).map kindOf = some (.func) := by kernel_rfl
    exact TyOk.under h) (e := fun h => by cases h)
theorem tk126 : TyOk Tryd.prog 126 ⟨1, 8, .nilFunc, .func, false⟩ := TyOk.mk (i := by
    have h : (Tryd.prog.info? 126).map (fun i => (i.size, i.bytes, i.zero)) = some (1, 8, some (.nilFunc)) := by kernel_rfl
    exact TyOk.info h) (u := by
    have h : (Tryd.prog.underlying 126).map kindOf = some (.func) := by kernel_rfl
    exact TyOk.under h) (e := fun h => by cases h)
theorem tk127 : TyOk Tryd.prog 127 ⟨1, 8, .nilFunc, .func, false⟩ := TyOk.mk (i := by
    have h : (Tryd.prog.info? 127).map (fun i => (i.size, i.bytes, i.zero)) = some (1, 8, some (.nilFunc)) := by kernel_rfl
    exact TyOk.info h) (u := by
    have h : (Tryd.prog.underlying 127).map kindOf = some (.func) := by kernel_rfl
    exact TyOk.under h) (e := fun h => by cases h)
theorem tk128 : TyOk Tryd.prog 128 ⟨1, 8, .pointer none, .pointer 115, false⟩ := TyOk.mk (i := by
    have h : (Tryd.prog.info? 128).map (fun i => (i.size, i.bytes, i.zero)) = some (1, 8, some (.pointer none)) := by kernel_rfl
    exact TyOk.info h) (u := by
    have h : (Tryd.prog.underlying 128).map kindOf = some (.pointer 115) := by kernel_rfl
    exact TyOk.under h) (e := fun h => by cases h)
theorem tk130 : TyOk Tryd.prog 130 ⟨1, 8, .nilFunc, .func, false⟩ := TyOk.mk (i := by
    have h : (Tryd.prog.info? 130).map (fun i => (i.size, i.bytes, i.zero)) = some (1, 8, some (.nilFunc)) := by kernel_rfl
    exact TyOk.info h) (u := by
    have h : (Tryd.prog.underlying 130).map kindOf = some (.func) := by kernel_rfl
    exact TyOk.under h) (e := fun h => by cases h)
theorem tk131 : TyOk Tryd.prog 131 ⟨1, 8, .nilFunc, .func, false⟩ := TyOk.mk (i := by
    have h : (Tryd.prog.info? 131).map (fun i => (i.size, i.bytes, i.zero)) = some (1, 8, some (.nilFunc)) := by kernel_rfl
    exact TyOk.info h) (u := by
    have h : (Tryd.prog.underlying 131).map kindOf = some (.func) := by kernel_rfl
    exact TyOk.under h) (e := fun h => by cases h)
theorem tk133 : TyOk Tryd.prog 133 ⟨2, 2, .agg #[.int .u8 0, .int .u8 0], .struct [(0, 5), (1, 5)], false⟩ := TyOk.mk (i := by
    have h : (Tryd.prog.info? 133).map (fun i => (i.size, i.bytes, i.zero)) = some (2, 2, some (.agg #[.int .u8 0, .int .u8 0])) := by kernel_rfl
    exact TyOk.info h) (u := by
    have h : (Tryd.prog.underlying 133).map kindOf = some (.struct [(0, 5), (1, 5)]) := by kernel_rfl
    exact TyOk.under h) (e := fun h => by cases h)
theorem tk134 : TyOk Tryd.prog 134 ⟨2, 2, .agg #[.int .u8 0, .int .u8 0], .struct [(0, 5), (1, 5)], false⟩ := TyOk.mk (i := by
    have h : (Tryd.prog.info? 134).map (fun i => (i.size, i.bytes, i.zero)) = some (2, 2, some (.agg #[.int .u8 0, .int .u8 0])) := by kernel_rfl
    exact TyOk.info h) (u := by
    have h : (Tryd.prog.underlying 134).map kindOf = some (.struct [(0, 5), (1, 5)]) := by kernel_rfl
    exact TyOk.under h) (e := fun h => by cases h)
theorem tk135 : TyOk Tryd.prog 135 ⟨32, 32, .agg #[.int .u8 0, .int .u8 0, .int .u8 0, .int .u8 0, .int .u8 0, .int .u8 0, .int .u8 0, .int .u8 0, .int .u8 0, .int .u8 0, .int .u8 0, .int .u8 0, .int .u8 0, .int .u8 0, .int .u8 0, .int .u8 0, .int .u8 0, .int .u8 0, .int .u8 0, .int .u8 0, .int .u8 0, .int .u8 0, .int .u8 0, .int .u8 0, .int .u8 0, .int .u8 0, .int .u8 0, .int .u8 0, .int .u8 0, .int .u8 0, .int .u8 0, .int .u8 0], .array 16 134, true⟩ := TyOk.mk (i := by
    have h : (Tryd.prog.info? 135).map (fun i => (i.size, i.bytes, i.zero)) = some (32, 32, some (.agg #[.int .u8 0, .int .u8 0, .int .u8 0, .int .u8 0, .int .u8 0, .int .u8 0, .int .u8 0, .int .u8 0, .int .u8 0, .int .u8 0, .int .u8 0, .int .u8 0, .int .u8 0, .int .u8 0, .int .u8 0, .int .u8 0, .int .u8 0, .int .u8 0, .int .u8 0, .int .u8 0, .int .u8 0, .int .u8 0, .int .u8 0, .int .u8 0, .int .u8 0, .int .u8 0, .int .u8 0, .int .u8 0, .int .u8 0, .int .u8 0, .int .u8 0, .int .u8 0])) := by kernel_rfl
    exact TyOk.info h) (u := by
    have h : (Tryd.prog.underlying 135).map kindOf = some (.array 16 134) := by kernel_rfl
    exact TyOk.under h) (e := fun h => ⟨by kernel_rfl, by kernel_rfl⟩)
theorem tk137 : TyOk Tryd.prog 137 ⟨1, 8, .nilFunc, .func, false⟩ := TyOk.mk (i := by
    have h : (Tryd.prog.info? 137).map (fun i => (i.size, i.bytes, i.zero)) = some (1, 8, some (.nilFunc)) := by kernel_rfl
    exact TyOk.info h) (u := by
    have h : (Tryd.prog.underlying 137).map kindOf = some (.func) := by kernel_rfl
    exact TyOk.under h) (e := fun h => by cases h)
theorem tk138 : TyOk Tryd.prog 138 ⟨1, 8, .pointer none, .pointer 161, false⟩ := TyOk.mk (i := by
    have h : (Tryd.prog.info? 138).map (fun i => (i.size, i.bytes, i.zero)) = some (1, 8, some (.pointer none)) := by kernel_rfl
    exact TyOk.info h) (u := by
    have h : (Tryd.prog.underlying 138).map kindOf = some (.pointer 161) := by kernel_rfl
    exact TyOk.under h) (e := fun h => by cases h)
theorem tk139 : TyOk Tryd.prog 139 ⟨4, 40, .agg #[.pointer none, .pointer none, .pointer none, .string ⟨#[]⟩], .struct [(0, 17), (1, 17), (2, 17), (3, 9)], false⟩ := TyOk.mk (i := by
    have h : (Tryd.prog.info? 139).map (fun i => (i.size, i.bytes, i.zero)) = some (4, 40, some (.agg #[.pointer none, .pointer none, .pointer none, .string ⟨#[]⟩])) := by kernel_rfl
    exact TyOk.info h) (u := by
    have h : (Tryd.prog.underlying 139).map kindOf = some (.struct [(0, 17), (1, 17), (2, 17), (3, 9)]) := by kernel_rfl
    exact TyOk.under h) (e := fun h => by cases h)
theorem tk140 : TyOk Tryd.prog 140 ⟨4, 40, .agg #[.pointer none, .pointer none, .pointer none, .string ⟨#[]⟩], .struct [(0, 17), (1, 17), (2, 17), (3, 9)], false⟩ := TyOk.mk (i := by
    have h : (Tryd.prog.info? 140).map (fun i => (i.size, i.bytes, i.zero)) = some (4, 40, some (.agg #[.pointer none, .pointer none, .pointer none, .string ⟨#[]⟩])) := by kernel_rfl
    exact TyOk.info h) (u := by
    have h : (Tryd.prog.underlying 140).map kindOf = some (.struct [(0, 17), (1, 17), (2, 17), (3, 9)]) := by kernel_rfl
    exact TyOk.under h) (e := fun h => by cases h)
theorem tk141 : TyOk Tryd.prog 141 ⟨0, 0, .agg #[], .array 0 16, true⟩ := TyOk.mk (i := by
    have h : (Tryd.prog.info? 141).map (fun i => (i.size, i.bytes, i.zero)) = some (0, 0, some (.agg #[])) := by kernel_rfl
    exact TyOk.info h) (u := by
    have h : (Tryd.prog.underlying 141).map kindOf = some (.array 0 16) := by kernel_rfl
    exact TyOk.under h) (e := fun h => ⟨by kernel_rfl, by kernel_rfl⟩)
theorem tk142 : TyOk Tryd.prog 142 ⟨0, 0, .agg #[], .struct [(0, 141)], false⟩ := TyOk.mk (i := by
    have h : (Tryd.prog.info? 142).map (fun i => (i.size, i.bytes, i.zero)) = some (0, 0, some (.agg #[])) := by kernel_rfl
    exact TyOk.info h) (u := by
    have h : (Tryd.prog.underlying 142).map kindOf = some (.struct [(0, 141)]) := by kernel_rfl
    exact TyOk.under h) (e := fun h => by cases h)
theorem tk143 : TyOk Tryd.prog 143 ⟨0, 0, .agg #[], .struct [(0, 141)], false⟩ := TyOk.mk (i := by
    have h : (Tryd.prog.info? 143).map (fun i => (i.size, i.bytes, i.zero)) = some (0, 0, some (.agg #[])) := by kernel_rfl
    exact TyOk.info h) (u := by
    have h : (Tryd.prog.underlying 143).map kindOf = some (.struct [(0, 141)]) := by kernel_rfl
    exact TyOk.under h) (e := fun h => by cases h)
theorem tk144 : TyOk Tryd.prog 144 ⟨1, 8, .nilFunc, .func, false⟩ := TyOk.mk (i := by
    have h : (Tryd.prog.info? 144).map (fun i => (i.size, i.bytes, i.zero)) = some (1, 8, some (.nilFunc)) := by kernel_rfl
    exact TyOk.info h) (u := by
    have h : (Tryd.prog.underlying 144).map kindOf = some (.func) := by kernel_rfl
    exact TyOk.under h) (e := fun h => by cases h)
theorem tk145 : TyOk Tryd.prog 145 ⟨1, 1, .int .u8 0, .int .u8, false⟩ := TyOk.mk (i := by
    have h : (Tryd.prog.info? 145).map (fun i => (i.size, i.bytes, i.zero)) = some (1, 1, some (.int .u8 0)) := by kernel_rfl
    exact TyOk.info h) (u := by
    have h : (Tryd.prog.underlying 145).map kindOf = some (.int .u8) := by kernel_rfl
    exact TyOk.under h) (e := fun h => by cases h)
theorem tk146 : TyOk Tryd.prog 146 ⟨1, 1, .int .u8 0, .int .u8, false⟩ := TyOk.mk (i := by
    have h : (Tryd.prog.info? 146).map (fun i => (i.size, i.bytes, i.zero)) = some (1, 1, some (.int .u8 0)) := by kernel_rfl
    exact TyOk.info h) (u := by
    have h : (Tryd.prog.underlying 146).map kindOf = some (.int .u8) := by kernel_rfl
    exact TyOk.under h) (e := fun h => by cases h)
theorem tk147 : TyOk Tryd.prog 147 ⟨1, 8, .nilFunc, .func, false⟩ := TyOk.mk (i := by
    have h : (Tryd.prog.info? 147).map (fun i => (i.size, i.bytes, i.zero)) = some (1, 8, some (.nilFunc)) := by kernel_rfl
    exact TyOk.info h) (u := by
    have h : (Tryd.prog.underlying 147).map kindOf = some (.func) := by kernel_rfl
    exact TyOk.under h) (e := fun h => by cases h)
theorem tk148 : TyOk Tryd.prog 148 ⟨1, 4, .int .i32 0, .int .i32, false⟩ := TyOk.mk (i := by
    have h : (Tryd.prog.info? 148).map (fun i => (i.size, i.bytes, i.zero)) = some (1, 4, some (.int .i32 0)) := by kernel_rfl
    exact TyOk.info h) (u := by
    have h : (Tryd.prog.underlying 148).map kindOf = some (.int .i32) := by kernel_rfl
    exact TyOk.under h) (e := fun h => by cases h)
theorem tk149 : TyOk Tryd.prog 149 ⟨1, 4, .int .i32 0, .int .i32, false⟩ := TyOk.mk (i := by
    have h : (Tryd.prog.info? 149).map (fun i => (i.size, i.bytes, i.zero)) = some (1, 4, some (.int .i32 0)) := by kernel_rfl
    exact TyOk.info h) (u := by
    have h : (Tryd.prog.underlying 149).map kindOf = some (.int .i32) := by kernel_rfl
    exact TyOk.under h) (e := fun h => by cases h)
theorem tk150 : TyOk Tryd.prog 150 ⟨11, 48, .agg #[.int .u64 0, .int .u64 0, .int .u32 0, .int .u8 0, .int .u8 0, .int .u8 0, .int .u8 0, .nilFunc, .pointer none, .int .i32 0, .int .i32 0], .struct [(0, 12), (1, 12), (2, 108), (3, 145), (4, 5), (5, 5), (6, 146), (7, 147), (8, 111), (9, 148), (10, 149)], false⟩ := TyOk.mk (i := by
    have h : (Tryd.prog.info? 150).map (fun i => (i.size, i.bytes, i.zero)) = some (11, 48, some (.agg #[.int .u64 0, .int .u64 0, .int .u32 0, .int .u8 0, .int .u8 0, .int .u8 0, .int .u8 0, .nilFunc, .pointer none, .int .i32 0, .int .i32 0])) := by kernel_rfl
    exact TyOk.info h) (u := by
    have h : (Tryd.prog.underlying 150).map kindOf = some (.struct [(0, 12), (1, 12), (2, 108), (3, 145), (4, 5), (5, 5), (6, 146), (7, 147), (8, 111), (9, 148), (10, 149)]) := by kernel_rfl
    exact TyOk.under h) (e := fun h => by cases h)
theorem tk151 : TyOk Tryd.prog 151 ⟨11, 48, .agg #[.int .u64 0, .int .u64 0, .int .u32 0, .int .u8 0, .int .u8 0, .int .u8 0, .int .u8 0, .nilFunc, .pointer none, .int .i32 0, .int .i32 0], .struct [(0, 12), (1, 12), (2, 108), (3, 145), (4, 5), (5, 5), (6, 146), (7, 147), (8, 111), (9, 148), (10, 149)], false⟩ := TyOk.mk (i := by
    have h : (Tryd.prog.info? 151).map (fun i => (i.size, i.bytes, i.zero)) = some (11, 48, some (.agg #[.int .u64 0, .int .u64 0, .int .u32 0, .int .u8 0, .int .u8 0, .int .u8 0, .int .u8 0, .nilFunc, .pointer none, .int .i32 0, .int .i32 0])) := by kernel_rfl
    exact TyOk.info h) (u := by
    have h : (Tryd.prog.underlying 151).map kindOf = some (.struct [(0, 12), (1, 12), (2, 108), (3, 145), (4, 5), (5, 5), (6, 146), (7, 147), (8, 111), (9, 148), (10, 149)]) := by kernel_rfl
    exact TyOk.under h) (e := fun h => by cases h)
theorem tk152 : TyOk Tryd.prog 152 ⟨1, 8, .nilFunc, .func, false⟩ := TyOk.mk (i := by
    have h : (Tryd.prog.info? 152).map (fun i => (i.size, i.bytes, i.zero)) = some (1, 8, some (.nilFunc)) := by kernel_rfl
    exact TyOk.info h) (u := by
    have h : (Tryd.prog.underlying 152).map kindOf = some (.func) := by kernel_rfl
    exact TyOk.under h) (e := fun h => by cases h)
theorem tk153 : TyOk Tryd.prog 153 ⟨1, 8, .nilFunc, .func, false⟩ := TyOk.mk (i := by
    have h : (Tryd.prog.info? 153).map (fun i => (i.size, i.bytes, i.zero)) = some (1, 8, some (.nilFunc)) := by kernel_rfl
    exact TyOk.info h) (u := by
    have h : (Tryd.prog.underlying 153).map kindOf = some (.func) := by kernel_rfl
    exact TyOk.under h) (e := fun h => by cases h)
theorem tk154 : TyOk Tryd.prog 154 ⟨1, 8, .nilFunc, .func, false⟩ := TyOk.mk (i := by
    have h : (Tryd.prog.info? 154).map (fun i => (i.size, i.bytes, i.zero)) = some (1, 8, some (.nilFunc)) := by kernel_rfl
    exact TyOk.info h) (u := by
    have h : (Tryd.prog.underlying 154).map kindOf = some (.func) := by kernel_rfl
    exact TyOk.under h) (e := fun h => by cases h)
theorem tk155 : TyOk Tryd.prog 155 ⟨1, 8, .nilFunc, .func, false⟩ := TyOk.mk (i := by
    have h : (Tryd.prog.info? 155).map (fun i => (i.size, i.bytes, i.zero)) = some (1, 8, some (.nilFunc)) := by kernel_rfl
    exact TyOk.info h) (u := by
    have h : (Tryd.prog.underlying 155).map kindOf = some (.func) := by kernel_rfl
    exact TyOk.under h) (e := fun h => by cases h)
theorem tk156 : TyOk Tryd.prog 156 ⟨1, 8, .nilFunc, .func, false⟩ := TyOk.mk (i := by
    have h : (Tryd.prog.info? 156).map (fun i => (i.size, i.bytes, i.zero)) = some (1, 8, some (.nilFunc)) := by kernel_rfl
    exact TyOk.info h) (u := by
    have h : (Tryd.prog.underlying 156).map kindOf = some (.func) := by kernel_rfl
    exact TyOk.under h) (e := fun h => by cases h)
theorem tk157 : TyOk Tryd.prog 157 ⟨1, 8, .nilFunc, .func, false⟩ := TyOk.mk (i := by
    have h : (Tryd.prog.info? 157).map (fun i => (i.size, i.bytes, i.zero)) = some (1, 8, some (.nilFunc)) := by kernel_rfl
    exact TyOk.info h) (u := by
    have h : (Tryd.prog.underlying 157).map kindOf = some (.func) := by kernel_rfl
    exact TyOk.under h) (e := fun h => by cases h)
theorem tk158 : TyOk Tryd.prog 158 ⟨2, 24, .agg #[.string ⟨#[]⟩, .int .u8 0], .struct [(0, 9), (1, 146)], false⟩ := TyOk.mk (i := by
    have h : (Tryd.prog.info? 158).map (fun i => (i.size, i.bytes, i.zero)) = some (2, 24, some (.agg #[.string ⟨#[]⟩, .int .u8 0])) := by kernel_rfl
    exact TyOk.info h) (u := by
    have h : (Tryd.prog.underlying 158).map kindOf = some (.struct [(0, 9), (1, 146)]) := by kernel_rfl
    exact TyOk.under h) (e := fun h => by cases h)
theorem tk159 : TyOk Tryd.prog 159 ⟨2, 24, .agg #[.string ⟨#[]⟩, .int .u8 0], .struct [(0, 9), (1, 146)], false⟩ := TyOk.mk (i := by
    have h : (Tryd.prog.info? 159).map (fun i => (i.size, i.bytes, i.zero)) = some (2, 24, some (.agg #[.string ⟨#[]⟩, .int .u8 0])) := by kernel_rfl
    exact TyOk.info h) (u := by
    have h : (Tryd.prog.underlying 159).map kindOf = some (.struct [(0, 9), (1, 146)]) := by kernel_rfl
    exact TyOk.under h) (e := fun h => by cases h)
theorem tk160 : TyOk Tryd.prog 160 ⟨1, 16, .agg #[.string ⟨#[]⟩], .struct [(0, 9)], false⟩ := TyOk.mk (i := by
    have h : (Tryd.prog.info? 160).map (fun i => (i.size, i.bytes, i.zero)) = some (1, 16, some (.agg #[.string ⟨#[]⟩])) := by kernel_rfl
    exact TyOk.info h) (u := by
    have h : (Tryd.prog.underlying 160).map kindOf = some (.struct [(0, 9)]) := by kernel_rfl
    exact TyOk.under h) (e := fun h => by cases h)
theorem tk161 : TyOk Tryd.prog 161 ⟨1, 16, .agg #[.string ⟨#[]⟩], .struct [(0, 9)], false⟩ := TyOk.mk (i := by
    have h : (Tryd.prog.info? 161).map (fun i => (i.size, i.bytes, i.zero)) = some (1, 16, some (.agg #[.string ⟨#[]⟩])) := by kernel_rfl
    exact TyOk.info h) (u := by
    have h : (Tryd.prog.underlying 161).map kindOf = some (.struct [(0, 9)]) := by kernel_rfl
    exact TyOk.under h) (e := fun h => by cases h)
theorem tk162 : TyOk Tryd.prog 162 ⟨1, 8, .pointer none, .pointer 166, false⟩ := TyOk.mk (i := by
    have h : (Tryd.prog.info? 162).map (fun i => (i.size, i.bytes, i.zero)) = some (1, 8, some (.pointer none)) := by kernel_rfl
    exact TyOk.info h) (u := by
    have h : (Tryd.prog.underlying 162).map kindOf = some (.pointer 166) := by kernel_rfl
    exact TyOk.under h) (e := fun h => by cases h)
theorem tk163 : TyOk Tryd.prog 163 ⟨1, 8, .nilFunc, .func, false⟩ := TyOk.mk (i := by
    have h : (Tryd.prog.info? 163).map (fun i => (i.size, i.bytes, i.zero)) = some (1, 8, some (.nilFunc)) := by kernel_rfl
    exact TyOk.info h) (u := by
    have h : (Tryd.prog.underlying 163).map kindOf = some (.func) := by kernel_rfl
    exact TyOk.under h) (e := fun h => by cases h)
theorem tk164 : TyOk Tryd.prog 164 ⟨1, 2, .int .u16 0, .int .u16, false⟩ := TyOk.mk (i := by
    have h : (Tryd.prog.info? 164).map (fun i => (i.size, i.bytes, i.zero)) = some (1, 2, some (.int .u16 0)) := by kernel_rfl
    exact TyOk.info h) (u := by
    have h : (Tryd.prog.underlying 164).map kindOf = some (.int .u16) := by kernel_rfl
    exact TyOk.under h) (e := fun h => by cases h)
theorem tk165 : TyOk Tryd.prog 165 ⟨5, 16, .agg #[.int .i32 0, .int .u16 0, .int .u16 0, .int .u32 0, .int .u32 0], .struct [(0, 148), (1, 164), (2, 164), (3, 108), (4, 108)], false⟩ := TyOk.mk (i := by
    have h : (Tryd.prog.info? 165).map (fun i => (i.size, i.bytes, i.zero)) = some (5, 16, some (.agg #[.int .i32 0, .int .u16 0, .int .u16 0, .int .u32 0, .int .u32 0])) := by kernel_rfl
    exact TyOk.info h) (u := by
    have h : (Tryd.prog.underlying 165).map kindOf = some (.struct [(0, 148), (1, 164), (2, 164), (3, 108), (4, 108)]) := by kernel_rfl
    exact TyOk.under h) (e := fun h => by cases h)
theorem tk166 : TyOk Tryd.prog 166 ⟨5, 16, .agg #[.int .i32 0, .int .u16 0, .int .u16 0, .int .u32 0, .int .u32 0], .struct [(0, 148), (1, 164), (2, 164), (3, 108), (4, 108)], false⟩ := TyOk.mk (i := by
    have h : (Tryd.prog.info? 166).map (fun i => (i.size, i.bytes, i.zero)) = some (5, 16, some (.agg #[.int .i32 0, .int .u16 0, .int .u16 0, .int .u32 0, .int .u32 0])) := by kernel_rfl
    exact TyOk.info h) (u := by
    have h : (Tryd.prog.underlying 166).map kindOf = some (.struct [(0, 148), (1, 164), (2, 164), (3, 108), (4, 108)]) := by kernel_rfl
    exact TyOk.under h) (e := fun h => by cases h)
theorem tk167 : TyOk Tryd.prog 167 ⟨1, 24, .slice none 0 0, .slice 170, false⟩ := TyOk.mk (i := by
    have h : (Tryd.prog.info? 167).map (fun i => (i.size, i.bytes, i.zero)) = some (1, 24, some (.slice none 0 0)) := by kernel_rfl
    exact TyOk.info h) (u := by
    have h : (Tryd.prog.underlying 167).map kindOf = some (.slice 170) := by kernel_rfl
    exact TyOk.under h) (e := fun h => by cases h)
theorem tk168 : TyOk Tryd.prog 168 ⟨1, 4, .int .i32 0, .int .i32, false⟩ := TyOk.mk (i := by
    have h : (Tryd.prog.info? 168).map (fun i => (i.size, i.bytes, i.zero)) = some (1, 4, some (.int .i32 0)) := by kernel_rfl
    exact TyOk.info h) (u := by
    have h : (Tryd.prog.underlying 168).map kindOf = some (.int .i32) := by kernel_rfl
    exact TyOk.under h) (e := fun h => by cases h)
theorem tk169 : TyOk Tryd.prog 169 ⟨4, 16, .agg #[.int .i32 0, .int .i32 0, .int .i32 0, .int .i32 0], .struct [(0, 148), (1, 149), (2, 168), (3, 168)], false⟩ := TyOk.mk (i := by
    have h : (Tryd.prog.info? 169).map (fun i => (i.size, i.bytes, i.zero)) = some (4, 16, some (.agg #[.int .i32 0, .int .i32 0, .int .i32 0, .int .i32 0])) := by kernel_rfl
    exact TyOk.info h) (u := by
    have h : (Tryd.prog.underlying 169).map kindOf = some (.struct [(0, 148), (1, 149), (2, 168), (3, 168)]) := by kernel_rfl
    exact TyOk.under h) (e := fun h => by cases h)
theorem tk170 : TyOk Tryd.prog 170 ⟨4, 16, .agg #[.int .i32 0, .int .i32 0, .int .i32 0, .int .i32 0], .struct [(0, 148), (1, 149), (2, 168), (3, 168)], false⟩ := TyOk.mk (i := by
    have h : (Tryd.prog.info? 170).map (fun i => (i.size, i.bytes, i.zero)) = some (4, 16, some (.agg #[.int .i32 0, .int .i32 0, .int .i32 0, .int .i32 0])) := by kernel_rfl
    exact TyOk.info h) (u := by
    have h : (Tryd.prog.underlying 170).map kindOf = some (.struct [(0, 148), (1, 149), (2, 168), (3, 168)]) := by kernel_rfl
    exact TyOk.under h) (e := fun h => by cases h)
theorem tk171 : TyOk Tryd.prog 171 ⟨1, 8, .nilFunc, .func, false⟩ := TyOk.mk (i := by
    have h : (Tryd.prog.info? 171).map (fun i => (i.size, i.bytes, i.zero)) = some (1, 8, some (.nilFunc)) := by kernel_rfl
    exact TyOk.info h) (u := by
    have h : (Tryd.prog.underlying 171).map kindOf = some (.func) := by kernel_rfl
    exact TyOk.under h) (e := fun h => by cases h)
attribute [go_sem] T1 T2 T3 T4 T5 T6 T7 T8 T9 T10 T11 T12 T13 T14 T15 T16 T17 T18 T19 T20 T21 T22 T23 T24 T25 T26 T27 T29 T30 T31 T32 T33 T34 T35 T37 T39 T41 T43 T44 T45 T46 T47 T48 T49 T50 T51 T52 T53 T54 T55 T56 T57 T58 T59 T61 T62 T63 T64 T65 T66 T67 T68 T69 T71 T72 T73 T74 T75 T76 T77 T78 T79 T80 T81 T82 T83 T84 T85 T86 T87 T88 T89 T90 T91 T92 T94 T95 T96 T97 T98 T99 T100 T101 T103 T104 T105 T106 T107 T108 T109 T110 T111 T112 T113 T114 T115 T116 T117 T118 T119 T120 T122 T123 T124 T126 T127 T128 T130 T131 T133 T134 T135 T137 T138 T139 T140 T141 T142 T143 T144 T145 T146 T147 T148 T149 T150 T151 T152 T153 T154 T155 T156 T157 T158 T159 T160 T161 T162 T163 T164 T165 T166 T167 T168 T169 T170 T171
theorem tok : TOk Tryd.prog TT0 := by
  intro ty ti h
  unfold TT0 at h
  split at h
  · cases h; exact tk1
  · cases h; exact tk2
  · cases h; exact tk3
  · cases h; exact tk4
  · cases h; exact tk5
  · cases h; exact tk6
  · cases h; exact tk7
  · cases h; exact tk8
  · cases h; exact tk9
  · cases h; exact tk10
  · cases h; exact tk11
  · cases h; exact tk12
  · cases h; exact tk13
  · cases h; exact tk14
  · cases h; exact tk15
  · cases h; exact tk16
  · cases h; exact tk17
  · cases h; exact tk18
  · cases h; exact tk19
  · cases h; exact tk20
  · cases h; exact tk21
  · cases h; exact tk22
  · cases h; exact tk23
  · cases h; exact tk24
  · cases h; exact tk25
  · cases h; exact tk26
  · cases h; exact tk27
  · cases h; exact tk29
  · cases h; exact tk30
  · cases h; exact tk31
  · cases h; exact tk32
  · cases h; exact tk33
  · cases h; exact tk34
  · cases h; exact tk35
  · cases h; exact tk37
  · cases h; exact tk39
  · cases h; exact tk41
  · cases h; exact tk43
  · cases h; exact tk44
  · cases h; exact tk45
  · cases h; exact tk46
  · cases h; exact tk47
  · cases h; exact tk48
  · cases h; exact tk49
  · cases h; exact tk50
  · cases h; exact tk51
  · cases h; exact tk52
  · cases h; exact tk53
  · cases h; exact tk54
  · cases h; exact tk55
  · cases h; exact tk56
  · cases h; exact tk57
  · cases h; exact tk58
  · cases h; exact tk59
  · cases h; exact tk61
  · cases h; exact tk62
  · cases h; exact tk63
  · cases h; exact tk64
  · cases h; exact tk65
  · cases h; exact tk66
  · cases h; exact tk67
  · cases h; exact tk68
  · cases h; exact tk69
  · cases h; exact tk71
  · cases h; exact tk72
  · cases h; exact tk73
  · cases h; exact tk74
  · cases h; exact tk75
  · cases h; exact tk76
  · cases h; exact tk77
  · cases h; exact tk78
  · cases h; exact tk79
  · cases h; exact tk80
  · cases h; exact tk81
  · cases h; exact tk82
  · cases h; exact tk83
  · cases h; exact tk84
  · cases h; exact tk85
  · cases h; exact tk86
  · cases h; exact tk87
  · cases h; exact tk88
  · cases h; exact tk89
  · cases h; exact tk90
  · cases h; exact tk91
  · cases h; exact tk92
  · cases h; exact tk94
  · cases h; exact tk95
  · cases h; exact tk96
  · cases h; exact tk97
  · cases h; exact tk98
  · cases h; exact tk99
  · cases h; exact tk100
  · cases h; exact tk101
  · cases h; exact tk103
  · cases h; exact tk104
  · cases h; exact tk105
  · cases h; exact tk106
  · cases h; exact tk107
  · cases h; exact tk108
  · cases h; exact tk109
  · cases h; exact tk110
  · cases h; exact tk111
  · cases h; exact tk112
  · cases h; exact tk113
  · cases h; exact tk114
  · cases h; exact tk115
  · cases h; exact tk116
  · cases h; exact tk117
  · cases h; exact tk118
  · cases h; exact tk119
  · cases h; exact tk120
  · cases h; exact tk122
  · cases h; exact tk123
  · cases h; exact tk124
  · cases h; exact tk126
  · cases h; exact tk127
  · cases h; exact tk128
  · cases h; exact tk130
  · cases h; exact tk131
  · cases h; exact tk133
  · cases h; exact tk134
  · cases h; exact tk135
  · cases h; exact tk137
  · cases h; exact tk138
  · cases h; exact tk139
  · cases h; exact tk140
  · cases h; exact tk141
  · cases h; exact tk142
  · cases h; exact tk143
  · cases h; exact tk144
  · cases h; exact tk145
  · cases h; exact tk146
  · cases h; exact tk147
  · cases h; exact tk148
  · cases h; exact tk149
  · cases h; exact tk150
  · cases h; exact tk151
  · cases h; exact tk152
  · cases h; exact tk153
  · cases h; exact tk154
  · cases h; exact tk155
  · cases h; exact tk156
  · cases h; exact tk157
  · cases h; exact tk158
  · cases h; exact tk159
  · cases h; exact tk160
  · cases h; exact tk161
  · cases h; exact tk162
  · cases h; exact tk163
  · cases h; exact tk164
  · cases h; exact tk165
  · cases h; exact tk166
  · cases h; exact tk167
  · cases h; exact tk168
  · cases h; exact tk169
  · cases h; exact tk170
  · cases h; exact tk171
  · cases h
end Go.Proofs.YtfininfcljdkbaaDoor
/- Common, part A: data; equal lists. -/
namespace Go.Proofs.YtfininfcljdkbaaDoor
open Go Go.NS

def sA (s : ByteArray) : AV := .raw (.string s)

def iA (n : Int) : AV := aint .i64 n

def strsA (l : List ByteArray) : AV := .imm 1 (l.map sA)

def intsA (l : List Int) : AV := .imm 1 (l.map iA)

theorem hmix : Tryd.prog.follows .mixedOrders = true := by kernel_rfl

theorem wrap_succ (i n : Nat) (h : i < n) (hn : n ≤ 140737488351232) : IntKind.i64.wrap ((i : Int) + 1) = ((i + 1 : Nat) : Int) := by
  rw [IntWalk.i64_in _ (by omega)]; omega

/-- SameStrings: two lists are equal. -/
theorem SameStrings_ok (a b : List ByteArray) (ha : a.length * 16 ≤ 140737488351232) (hb : b.length * 16 ≤ 140737488351232) : Fp Tryd.prog 24 [strsA a, strsA b] (abool (decide (a = b))) := by
  refine Fp.of_vc tok Tryd.func24 rfl (by decide) ?_
  simp -implicitDefEqProofs only [go_sem, Tryd.ntmps24, strsA]
  by_cases hl : a.length = b.length
  · have hl' : (a.length : Int) = (b.length : Int) := by omega
    simp -implicitDefEqProofs only [go_sem, hl', decide_true]
    refine AW.loopG tok (fun i : Nat => slots 26 [(0, strsA a), (1, strsA b), (4, abool false), (12, strsA a), (13, iA b.length), (14, iA i)]) (fun _ => [])
      (fun i => i ≤ a.length ∧ a.take i = b.take i) (fun i => a.length - i) 0 ⟨by omega, rfl⟩ (by simp -implicitDefEqProofs only [go_sem, strsA, iA]) (List.Sublist.refl _) ?_
    rintro i ⟨hi, heq⟩
    simp -implicitDefEqProofs only [go_sem, strsA, iA]
    by_cases hlt : i < a.length
    · have hlt2 : i < b.length := by omega
      have e1 : decide ((i : Int) < (b.length : Int)) = true := by simp; omega
      have e2 : (a.map sA)[i]? = some (sA a[i]) := by simp [hlt]
      have e3 : (b.map sA)[i]? = some (sA b[i]) := by simp [hlt2]
      simp -implicitDefEqProofs only [go_sem, e1, hlt, hlt2, e2, e3, sA]
      by_cases hx : a[i] = b[i]
      · have hw := wrap_succ i a.length hlt (by omega)
        simp -implicitDefEqProofs only [go_sem, hx, decide_true, hw]
        refine ⟨i + 1, ⟨by omega, ?_⟩, by omega, by simp -implicitDefEqProofs only [go_sem, strsA, iA], List.Sublist.refl _⟩
        rw [List.take_add_one, List.take_add_one, heq, List.getElem?_eq_getElem hlt, List.getElem?_eq_getElem hlt2, hx]
      · simp -implicitDefEqProofs only [go_sem, hx, decide_false]
        have hne : a ≠ b := fun e => hx (by subst e; rfl)
        refine fnPost_ret tok ?_
        simp -implicitDefEqProofs only [go_sem, Tryd.results24, hne, decide_false]
    · have e1 : decide ((i : Int) < (b.length : Int)) = false := by simp; omega
      have heq2 : a = b := by rw [List.take_of_length_le (by omega), List.take_of_length_le (by omega)] at heq; exact heq
      simp -implicitDefEqProofs only [go_sem, e1]
      refine fnPost_ret tok ?_
      simp -implicitDefEqProofs only [go_sem, Tryd.results24, heq2, decide_true]
  · have hl' : ¬ (a.length : Int) = (b.length : Int) := by omega
    simp -implicitDefEqProofs only [go_sem, hl', decide_false]
    have hne : a ≠ b := fun e => hl (by rw [e])
    refine fnPost_ret tok ?_
    simp -implicitDefEqProofs only [go_sem, Tryd.results24, hne, decide_false]

/-- SameInts: two lists are equal. -/
theorem SameInts_ok (a b : List Int) (ha : a.length * 8 ≤ 140737488351232) (hb : b.length * 8 ≤ 140737488351232) : Fp Tryd.prog 21 [intsA a, intsA b] (abool (decide (a = b))) := by
  refine Fp.of_vc tok Tryd.func21 rfl (by decide) ?_
  simp -implicitDefEqProofs only [go_sem, Tryd.ntmps21, intsA]
  by_cases hl : a.length = b.length
  · have hl' : (a.length : Int) = (b.length : Int) := by omega
    simp -implicitDefEqProofs only [go_sem, hl', decide_true]
    refine AW.loopG tok (fun i : Nat => slots 26 [(0, intsA a), (1, intsA b), (4, abool false), (12, intsA a), (13, iA b.length), (14, iA i)]) (fun _ => [])
      (fun i => i ≤ a.length ∧ a.take i = b.take i) (fun i => a.length - i) 0 ⟨by omega, rfl⟩ (by simp -implicitDefEqProofs only [go_sem, intsA, iA]) (List.Sublist.refl _) ?_
    rintro i ⟨hi, heq⟩
    simp -implicitDefEqProofs only [go_sem, intsA, iA]
    by_cases hlt : i < a.length
    · have hlt2 : i < b.length := by omega
      have e1 : decide ((i : Int) < (b.length : Int)) = true := by simp; omega
      have e2 : (a.map iA)[i]? = some (iA a[i]) := by simp [hlt]
      have e3 : (b.map iA)[i]? = some (iA b[i]) := by simp [hlt2]
      simp -implicitDefEqProofs only [go_sem, e1, hlt, hlt2, e2, e3, iA]
      by_cases hx : a[i] = b[i]
      · have hw := wrap_succ i a.length hlt (by omega)
        simp -implicitDefEqProofs only [go_sem, hx, decide_true, hw]
        refine ⟨i + 1, ⟨by omega, ?_⟩, by omega, by simp -implicitDefEqProofs only [go_sem, intsA, iA], List.Sublist.refl _⟩
        rw [List.take_add_one, List.take_add_one, heq, List.getElem?_eq_getElem hlt, List.getElem?_eq_getElem hlt2, hx]
      · simp -implicitDefEqProofs only [go_sem, hx, decide_false]
        have hne : a ≠ b := fun e => hx (by subst e; rfl)
        refine fnPost_ret tok ?_
        simp -implicitDefEqProofs only [go_sem, Tryd.results21, hne, decide_false]
    · have e1 : decide ((i : Int) < (b.length : Int)) = false := by simp; omega
      have heq2 : a = b := by rw [List.take_of_length_le (by omega), List.take_of_length_le (by omega)] at heq; exact heq
      simp -implicitDefEqProofs only [go_sem, e1]
      refine fnPost_ret tok ?_
      simp -implicitDefEqProofs only [go_sem, Tryd.results21, heq2, decide_true]
  · have hl' : ¬ (a.length : Int) = (b.length : Int) := by omega
    simp -implicitDefEqProofs only [go_sem, hl', decide_false]
    have hne : a ≠ b := fun e => hl (by rw [e])
    refine fnPost_ret tok ?_
    simp -implicitDefEqProofs only [go_sem, Tryd.results21, hne, decide_false]

def pc (l : List (Int × Int)) : List AV := l.flatMap fun p => [iA p.1, iA p.2]

def pairsA (l : List (Int × Int)) : AV := .imm 2 (pc l)

def pairA (p : Int × Int) : AV := .agg [iA p.1, iA p.2]

theorem pc_length (l : List (Int × Int)) : (pc l).length = l.length * 2 := by
  induction l with
  | nil => rfl
  | cons p l ih => simp only [pc, List.flatMap_cons, List.length_append, List.length_cons, List.length_nil] at *; omega

theorem pc_div (l : List (Int × Int)) : (pc l).length / 2 = l.length := by rw [pc_length]; omega

theorem pc_get : ∀ (l : List (Int × Int)) (i : Nat) (h : i < l.length), ((pc l).drop (i * 2)).take 2 = [iA l[i].1, iA l[i].2]
  | p :: l, 0, h => rfl
  | p :: l, i + 1, h => by
    have : (i + 1) * 2 = i * 2 + 1 + 1 := by omega
    rw [this]
    simp only [pc, List.flatMap_cons, List.cons_append, List.nil_append, List.drop_succ_cons, List.getElem_cons_succ]
    exact pc_get l i (by simpa using h)

theorem pc_append (l m : List (Int × Int)) : pc (l ++ m) = pc l ++ pc m := by simp [pc]

end Go.Proofs.YtfininfcljdkbaaDoor
