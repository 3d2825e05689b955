/- The table of types of the seat Ytebbiciepbbhkaa. Printed by tt.py. -/
import Derived.Test.YtebbiciepbbhkaaProg
import Derived.Test.YtebbiciepbbhkaaBase2
import Derived.KernelRfl
import Derived.Test.YtebbiciepbbhkaaBase3
set_option linter.unusedSimpArgs false
set_option linter.unusedVariables false
namespace Go.Proofs.Ytebbiciepbbhkaa
open Go Go.NS
def TT0 : TT
  | 1 => some ⟨1, 8, .nilFunc, .func, false⟩
  | 2 => some ⟨1, 8, .int .i64 0, .int .i64, false⟩
  | 3 => some ⟨1, 8, .int .i64 0, .int .i64, false⟩
  | 4 => some ⟨1, 1, .bool false, .bool, false⟩
  | 5 => some ⟨1, 1, .int .u8 0, .int .u8, false⟩
  | 6 => some ⟨1, 1, .int .u8 0, .int .u8, false⟩
  | 7 => some ⟨4, 24, .agg #[.int .i64 0, .int .i64 0, .bool false, .int .u8 0], .struct [(0, 2), (1, 3), (2, 4), (3, 6)], false⟩
  | 8 => some ⟨4, 24, .agg #[.int .i64 0, .int .i64 0, .bool false, .int .u8 0], .struct [(0, 2), (1, 3), (2, 4), (3, 6)], false⟩
  | 9 => some ⟨1, 16, .string ⟨#[]⟩, .string, false⟩
  | 10 => some ⟨1, 16, .string ⟨#[]⟩, .string, false⟩
  | 11 => some ⟨1, 16, .string ⟨#[]⟩, .string, false⟩
  | 12 => some ⟨1, 8, .int .u64 0, .int .u64, false⟩
  | 13 => some ⟨2, 24, .agg #[.string ⟨#[]⟩, .int .u64 0], .struct [(0, 9), (1, 12)], false⟩
  | 14 => some ⟨2, 24, .agg #[.string ⟨#[]⟩, .int .u64 0], .struct [(0, 9), (1, 12)], false⟩
  | 15 => some ⟨1, 8, .pointer none, .pointer 145, false⟩
  | 16 => some ⟨1, 8, .pointer none, .pointer 148, false⟩
  | 17 => some ⟨1, 8, .pointer none, .pointer 157, false⟩
  | 18 => some ⟨1, 8, .agg #[.pointer none], .struct [(0, 17)], false⟩
  | 19 => some ⟨1, 8, .agg #[.pointer none], .struct [(0, 17)], false⟩
  | 20 => some ⟨1, 16, .nilIface, .iface, false⟩
  | 21 => some ⟨1, 4, .int .i32 0, .int .i32, false⟩
  | 22 => some ⟨1, 24, .slice none 0 0, .slice 9, false⟩
  | 23 => some ⟨1, 24, .slice none 0 0, .slice 44, false⟩
  | 24 => some ⟨4, 64, .agg #[.slice none 0 0, .int .i64 0, .int .i64 0, .slice none 0 0], .struct [(0, 22), (1, 3), (2, 3), (3, 23)], false⟩
  | 25 => some ⟨4, 64, .agg #[.slice none 0 0, .int .i64 0, .int .i64 0, .slice none 0 0], .struct [(0, 22), (1, 3), (2, 3), (3, 23)], false⟩
  | 26 => some ⟨1, 8, .nilFunc, .func, false⟩
  | 27 => some ⟨1, 8, .nilFunc, .func, false⟩
  | 28 => some ⟨1, 24, .slice none 0 0, .slice 34, false⟩
  | 29 => some ⟨1, 8, .int .i64 0, .int .i64, false⟩
  | 31 => some ⟨1, 8, .nilFunc, .func, false⟩
  | 32 => some ⟨1, 8, .nilFunc, .func, false⟩
  | 33 => some ⟨1, 8, .nilFunc, .func, false⟩
  | 34 => some ⟨2, 16, .agg #[.int .i64 0, .int .i64 0], .array 2 3, true⟩
  | 35 => some ⟨1, 8, .nilFunc, .func, false⟩
  | 36 => some ⟨1, 8, .nilFunc, .func, false⟩
  | 37 => some ⟨1, 8, .nilFunc, .func, false⟩
  | 38 => some ⟨1, 8, .nilFunc, .func, false⟩
  | 40 => some ⟨1, 8, .nilFunc, .func, false⟩
  | 42 => some ⟨1, 8, .nilFunc, .func, false⟩
  | 43 => some ⟨1, 8, .nilFunc, .func, false⟩
  | 44 => some ⟨1, 24, .slice none 0 0, .slice 3, false⟩
  | 45 => some ⟨1, 8, .nilFunc, .func, false⟩
  | 46 => some ⟨1, 8, .nilFunc, .func, false⟩
  | 48 => some ⟨1, 8, .nilFunc, .func, false⟩
  | 50 => some ⟨1, 8, .nilFunc, .func, false⟩
  | 51 => some ⟨1, 8, .nilFunc, .func, false⟩
  | 52 => some ⟨3, 56, .agg #[.bool false, .slice none 0 0, .slice none 0 0], .struct [(0, 4), (1, 28), (2, 44)], false⟩
  | 53 => some ⟨3, 56, .agg #[.bool false, .slice none 0 0, .slice none 0 0], .struct [(0, 4), (1, 28), (2, 44)], false⟩
  | 54 => some ⟨1, 8, .nilFunc, .func, false⟩
  | 55 => some ⟨1, 8, .nilFunc, .func, false⟩
  | 56 => some ⟨1, 8, .nilFunc, .func, false⟩
  | 58 => some ⟨1, 8, .nilFunc, .func, false⟩
  | 60 => some ⟨1, 8, .nilFunc, .func, false⟩
  | 61 => some ⟨1, 8, .nilFunc, .func, false⟩
  | 62 => some ⟨1, 8, .nilFunc, .func, false⟩
  | 63 => some ⟨1, 8, .nilFunc, .func, false⟩
  | 64 => some ⟨1, 8, .nilFunc, .func, false⟩
  | 65 => some ⟨1, 24, .slice none 0 0, .slice 67, false⟩
  | 66 => some ⟨1, 8, .nilFunc, .func, false⟩
  | 67 => some ⟨1, 24, .slice none 0 0, .slice 4, false⟩
  | 68 => some ⟨1, 8, .nilFunc, .func, false⟩
  | 69 => some ⟨1, 8, .map none, .map 34 3, false⟩
  | 70 => some ⟨1, 8, .nilFunc, .func, false⟩
  | 71 => some ⟨1, 8, .nilFunc, .func, false⟩
  | 72 => some ⟨1, 8, .nilFunc, .func, false⟩
  | 73 => some ⟨1, 8, .nilFunc, .func, false⟩
  | 74 => some ⟨1, 8, .nilFunc, .func, false⟩
  | 75 => some ⟨1, 8, .nilFunc, .func, false⟩
  | 76 => some ⟨1, 8, .nilFunc, .func, false⟩
  | 77 => some ⟨1, 8, .nilFunc, .func, false⟩
  | 78 => some ⟨1, 8, .nilFunc, .func, false⟩
  | 80 => some ⟨1, 8, .nilFunc, .func, false⟩
  | 81 => some ⟨1, 8, .nilFunc, .func, false⟩
  | 82 => some ⟨1, 8, .nilFunc, .func, false⟩
  | 83 => some ⟨1, 8, .nilFunc, .func, false⟩
  | 84 => some ⟨1, 8, .nilFunc, .func, false⟩
  | 85 => some ⟨1, 8, .nilFunc, .func, false⟩
  | 87 => some ⟨1, 8, .nilFunc, .func, false⟩
  | 89 => some ⟨1, 8, .nilFunc, .func, false⟩
  | 90 => some ⟨1, 8, .nilFunc, .func, false⟩
  | 91 => some ⟨1, 8, .nilFunc, .func, false⟩
  | 92 => some ⟨1, 8, .nilFunc, .func, false⟩
  | 93 => some ⟨1, 8, .map none, .map 34 4, false⟩
  | 94 => some ⟨1, 8, .nilFunc, .func, false⟩
  | 95 => some ⟨1, 8, .nilFunc, .func, false⟩
  | 96 => some ⟨1, 8, .nilFunc, .func, false⟩
  | 97 => some ⟨1, 8, .nilFunc, .func, false⟩
  | 98 => some ⟨1, 24, .slice none 0 0, .slice 99, false⟩
  | 99 => some ⟨1, 24, .slice none 0 0, .slice 28, false⟩
  | 100 => some ⟨1, 8, .nilFunc, .func, false⟩
  | 101 => some ⟨1, 8, .int .u64 0, .int .u64, false⟩
  | 103 => some ⟨1, 8, .nilFunc, .func, false⟩
  | 104 => some ⟨1, 8, .nilFunc, .func, false⟩
  | 105 => some ⟨1, 8, .nilFunc, .func, false⟩
  | 106 => some ⟨1, 8, .nilFunc, .func, false⟩
  | 107 => some ⟨1, 8, .nilFunc, .func, false⟩
  | 108 => some ⟨5, 72, .agg #[.slice none 0 0, .int .i64 0, .int .i64 0, .slice none 0 0, .int .i64 0], .struct [(0, 25), (4, 3)], false⟩
  | 109 => some ⟨5, 72, .agg #[.slice none 0 0, .int .i64 0, .int .i64 0, .slice none 0 0, .int .i64 0], .struct [(0, 25), (4, 3)], false⟩
  | 110 => some ⟨10, 144, .agg #[.slice none 0 0, .int .i64 0, .int .i64 0, .slice none 0 0, .int .i64 0, .slice none 0 0, .int .i64 0, .int .i64 0, .slice none 0 0, .int .i64 0], .array 2 109, false⟩
  | 111 => some ⟨1, 8, .nilFunc, .func, false⟩
  | 112 => some ⟨2, 16, .agg #[.nilFunc, .nilFunc], .array 2 111, false⟩
  | 113 => some ⟨1, 8, .nilFunc, .func, false⟩
  | 114 => some ⟨1, 8, .nilFunc, .func, false⟩
  | 115 => some ⟨1, 8, .nilFunc, .func, false⟩
  | 116 => some ⟨1, 4, .int .u32 0, .int .u32, false⟩
  | 118 => some ⟨1, 8, .nilFunc, .func, false⟩
  | 119 => some ⟨1, 8, .int .u64 0, .int .u64, false⟩
  | 121 => some ⟨1, 8, .nilFunc, .func, false⟩
  | 122 => some ⟨1, 8, .nilFunc, .func, false⟩
  | 123 => some ⟨1, 8, .nilFunc, .func, false⟩
  | 124 => some ⟨1, 8, .nilFunc, .func, false⟩
  | 125 => some ⟨1, 8, .int .i64 0, .int .i64, false⟩
  | 127 => some ⟨1, 8, .nilFunc, .func, false⟩
  | 128 => some ⟨1, 8, .nilFunc, .func, false⟩
  | 129 => some ⟨1, 8, .nilFunc, .func, false⟩
  | 131 => some ⟨1, 8, .nilFunc, .func, false⟩
  | 132 => some ⟨1, 8, .nilFunc, .func, false⟩
  | 133 => some ⟨1, 8, .nilFunc, .func, false⟩
  | 134 => some ⟨1, 8, .int .u64 0, .int .u64, false⟩
  | 135 => some ⟨1, 8, .nilFunc, .func, false⟩
  | 136 => some ⟨1, 8, .nilFunc, .func, false⟩
  | 137 => some ⟨1, 8, .nilFunc, .func, false⟩
  | 138 => some ⟨1, 8, .pointer none, .pointer 3, false⟩
  | 139 => some ⟨1, 8, .nilFunc, .func, false⟩
  | 140 => some ⟨1, 8, .pointer none, .pointer 134, false⟩
  | 142 => some ⟨1, 8, .nilFunc, .func, false⟩
  | 143 => some ⟨1, 8, .nilFunc, .func, false⟩
  | 144 => some ⟨4, 40, .agg #[.pointer none, .pointer none, .pointer none, .string ⟨#[]⟩], .struct [(0, 17), (1, 17), (2, 17), (3, 9)], false⟩
  | 145 => some ⟨4, 40, .agg #[.pointer none, .pointer none, .pointer none, .string ⟨#[]⟩], .struct [(0, 17), (1, 17), (2, 17), (3, 9)], false⟩
  | 146 => some ⟨0, 0, .agg #[], .array 0 16, true⟩
  | 147 => some ⟨0, 0, .agg #[], .struct [(0, 146)], false⟩
  | 148 => some ⟨0, 0, .agg #[], .struct [(0, 146)], false⟩
  | 149 => some ⟨1, 8, .nilFunc, .func, false⟩
  | 150 => some ⟨1, 1, .int .u8 0, .int .u8, false⟩
  | 151 => some ⟨1, 1, .int .u8 0, .int .u8, false⟩
  | 152 => some ⟨1, 8, .nilFunc, .func, false⟩
  | 153 => some ⟨1, 8, .pointer none, .pointer 5, false⟩
  | 154 => some ⟨1, 4, .int .i32 0, .int .i32, false⟩
  | 155 => some ⟨1, 4, .int .i32 0, .int .i32, false⟩
  | 156 => some ⟨11, 48, .agg #[.int .u64 0, .int .u64 0, .int .u32 0, .int .u8 0, .int .u8 0, .int .u8 0, .int .u8 0, .nilFunc, .pointer none, .int .i32 0, .int .i32 0], .struct [(0, 12), (1, 12), (2, 116), (3, 150), (4, 5), (5, 5), (6, 151), (7, 152), (8, 153), (9, 154), (10, 155)], false⟩
  | 157 => some ⟨11, 48, .agg #[.int .u64 0, .int .u64 0, .int .u32 0, .int .u8 0, .int .u8 0, .int .u8 0, .int .u8 0, .nilFunc, .pointer none, .int .i32 0, .int .i32 0], .struct [(0, 12), (1, 12), (2, 116), (3, 150), (4, 5), (5, 5), (6, 151), (7, 152), (8, 153), (9, 154), (10, 155)], false⟩
  | _ => none
theorem T1 : TT0 1 = some ⟨1, 8, .nilFunc, .func, false⟩ := rfl
theorem T2 : TT0 2 = some ⟨1, 8, .int .i64 0, .int .i64, false⟩ := rfl
theorem T3 : TT0 3 = some ⟨1, 8, .int .i64 0, .int .i64, false⟩ := rfl
theorem T4 : TT0 4 = some ⟨1, 1, .bool false, .bool, false⟩ := rfl
theorem T5 : TT0 5 = some ⟨1, 1, .int .u8 0, .int .u8, false⟩ := rfl
theorem T6 : TT0 6 = some ⟨1, 1, .int .u8 0, .int .u8, false⟩ := rfl
theorem T7 : TT0 7 = some ⟨4, 24, .agg #[.int .i64 0, .int .i64 0, .bool false, .int .u8 0], .struct [(0, 2), (1, 3), (2, 4), (3, 6)], false⟩ := rfl
theorem T8 : TT0 8 = some ⟨4, 24, .agg #[.int .i64 0, .int .i64 0, .bool false, .int .u8 0], .struct [(0, 2), (1, 3), (2, 4), (3, 6)], false⟩ := rfl
theorem T9 : TT0 9 = some ⟨1, 16, .string ⟨#[]⟩, .string, false⟩ := rfl
theorem T10 : TT0 10 = some ⟨1, 16, .string ⟨#[]⟩, .string, false⟩ := rfl
theorem T11 : TT0 11 = some ⟨1, 16, .string ⟨#[]⟩, .string, false⟩ := rfl
theorem T12 : TT0 12 = some ⟨1, 8, .int .u64 0, .int .u64, false⟩ := rfl
theorem T13 : TT0 13 = some ⟨2, 24, .agg #[.string ⟨#[]⟩, .int .u64 0], .struct [(0, 9), (1, 12)], false⟩ := rfl
theorem T14 : TT0 14 = some ⟨2, 24, .agg #[.string ⟨#[]⟩, .int .u64 0], .struct [(0, 9), (1, 12)], false⟩ := rfl
theorem T15 : TT0 15 = some ⟨1, 8, .pointer none, .pointer 145, false⟩ := rfl
theorem T16 : TT0 16 = some ⟨1, 8, .pointer none, .pointer 148, false⟩ := rfl
theorem T17 : TT0 17 = some ⟨1, 8, .pointer none, .pointer 157, false⟩ := rfl
theorem T18 : TT0 18 = some ⟨1, 8, .agg #[.pointer none], .struct [(0, 17)], false⟩ := rfl
theorem T19 : TT0 19 = some ⟨1, 8, .agg #[.pointer none], .struct [(0, 17)], false⟩ := rfl
theorem T20 : TT0 20 = some ⟨1, 16, .nilIface, .iface, false⟩ := rfl
theorem T21 : TT0 21 = some ⟨1, 4, .int .i32 0, .int .i32, false⟩ := rfl
theorem T22 : TT0 22 = some ⟨1, 24, .slice none 0 0, .slice 9, false⟩ := rfl
theorem T23 : TT0 23 = some ⟨1, 24, .slice none 0 0, .slice 44, false⟩ := rfl
theorem T24 : TT0 24 = some ⟨4, 64, .agg #[.slice none 0 0, .int .i64 0, .int .i64 0, .slice none 0 0], .struct [(0, 22), (1, 3), (2, 3), (3, 23)], false⟩ := rfl
theorem T25 : TT0 25 = some ⟨4, 64, .agg #[.slice none 0 0, .int .i64 0, .int .i64 0, .slice none 0 0], .struct [(0, 22), (1, 3), (2, 3), (3, 23)], false⟩ := rfl
theorem T26 : TT0 26 = some ⟨1, 8, .nilFunc, .func, false⟩ := rfl
theorem T27 : TT0 27 = some ⟨1, 8, .nilFunc, .func, false⟩ := rfl
theorem T28 : TT0 28 = some ⟨1, 24, .slice none 0 0, .slice 34, false⟩ := rfl
theorem T29 : TT0 29 = some ⟨1, 8, .int .i64 0, .int .i64, false⟩ := rfl
theorem T31 : TT0 31 = some ⟨1, 8, .nilFunc, .func, false⟩ := rfl
theorem T32 : TT0 32 = some ⟨1, 8, .nilFunc, .func, false⟩ := rfl
theorem T33 : TT0 33 = some ⟨1, 8, .nilFunc, .func, false⟩ := rfl
theorem T34 : TT0 34 = some ⟨2, 16, .agg #[.int .i64 0, .int .i64 0], .array 2 3, true⟩ := rfl
theorem T35 : TT0 35 = some ⟨1, 8, .nilFunc, .func, false⟩ := rfl
theorem T36 : TT0 36 = some ⟨1, 8, .nilFunc, .func, false⟩ := rfl
theorem T37 : TT0 37 = some ⟨1, 8, .nilFunc, .func, false⟩ := rfl
theorem T38 : TT0 38 = some ⟨1, 8, .nilFunc, .func, false⟩ := rfl
theorem T40 : TT0 40 = some ⟨1, 8, .nilFunc, .func, false⟩ := rfl
theorem T42 : TT0 42 = some ⟨1, 8, .nilFunc, .func, false⟩ := rfl
theorem T43 : TT0 43 = some ⟨1, 8, .nilFunc, .func, false⟩ := rfl
theorem T44 : TT0 44 = some ⟨1, 24, .slice none 0 0, .slice 3, false⟩ := rfl
theorem T45 : TT0 45 = some ⟨1, 8, .nilFunc, .func, false⟩ := rfl
theorem T46 : TT0 46 = some ⟨1, 8, .nilFunc, .func, false⟩ := rfl
theorem T48 : TT0 48 = some ⟨1, 8, .nilFunc, .func, false⟩ := rfl
theorem T50 : TT0 50 = some ⟨1, 8, .nilFunc, .func, false⟩ := rfl
theorem T51 : TT0 51 = some ⟨1, 8, .nilFunc, .func, false⟩ := rfl
theorem T52 : TT0 52 = some ⟨3, 56, .agg #[.bool false, .slice none 0 0, .slice none 0 0], .struct [(0, 4), (1, 28), (2, 44)], false⟩ := rfl
theorem T53 : TT0 53 = some ⟨3, 56, .agg #[.bool false, .slice none 0 0, .slice none 0 0], .struct [(0, 4), (1, 28), (2, 44)], false⟩ := rfl
theorem T54 : TT0 54 = some ⟨1, 8, .nilFunc, .func, false⟩ := rfl
theorem T55 : TT0 55 = some ⟨1, 8, .nilFunc, .func, false⟩ := rfl
theorem T56 : TT0 56 = some ⟨1, 8, .nilFunc, .func, false⟩ := rfl
theorem T58 : TT0 58 = some ⟨1, 8, .nilFunc, .func, false⟩ := rfl
theorem T60 : TT0 60 = some ⟨1, 8, .nilFunc, .func, false⟩ := rfl
theorem T61 : TT0 61 = some ⟨1, 8, .nilFunc, .func, false⟩ := rfl
theorem T62 : TT0 62 = some ⟨1, 8, .nilFunc, .func, false⟩ := rfl
theorem T63 : TT0 63 = some ⟨1, 8, .nilFunc, .func, false⟩ := rfl
theorem T64 : TT0 64 = some ⟨1, 8, .nilFunc, .func, false⟩ := rfl
theorem T65 : TT0 65 = some ⟨1, 24, .slice none 0 0, .slice 67, false⟩ := rfl
theorem T66 : TT0 66 = some ⟨1, 8, .nilFunc, .func, false⟩ := rfl
theorem T67 : TT0 67 = some ⟨1, 24, .slice none 0 0, .slice 4, false⟩ := rfl
theorem T68 : TT0 68 = some ⟨1, 8, .nilFunc, .func, false⟩ := rfl
theorem T69 : TT0 69 = some ⟨1, 8, .map none, .map 34 3, false⟩ := rfl
theorem T70 : TT0 70 = some ⟨1, 8, .nilFunc, .func, false⟩ := rfl
theorem T71 : TT0 71 = some ⟨1, 8, .nilFunc, .func, false⟩ := rfl
theorem T72 : TT0 72 = some ⟨1, 8, .nilFunc, .func, false⟩ := rfl
theorem T73 : TT0 73 = some ⟨1, 8, .nilFunc, .func, false⟩ := rfl
theorem T74 : TT0 74 = some ⟨1, 8, .nilFunc, .func, false⟩ := rfl
theorem T75 : TT0 75 = some ⟨1, 8, .nilFunc, .func, false⟩ := rfl
theorem T76 : TT0 76 = some ⟨1, 8, .nilFunc, .func, false⟩ := rfl
theorem T77 : TT0 77 = some ⟨1, 8, .nilFunc, .func, false⟩ := rfl
theorem T78 : TT0 78 = some ⟨1, 8, .nilFunc, .func, false⟩ := rfl
theorem T80 : TT0 80 = some ⟨1, 8, .nilFunc, .func, false⟩ := rfl
theorem T81 : TT0 81 = some ⟨1, 8, .nilFunc, .func, false⟩ := rfl
theorem T82 : TT0 82 = some ⟨1, 8, .nilFunc, .func, false⟩ := rfl
theorem T83 : TT0 83 = some ⟨1, 8, .nilFunc, .func, false⟩ := rfl
theorem T84 : TT0 84 = some ⟨1, 8, .nilFunc, .func, false⟩ := rfl
theorem T85 : TT0 85 = some ⟨1, 8, .nilFunc, .func, false⟩ := rfl
theorem T87 : TT0 87 = some ⟨1, 8, .nilFunc, .func, false⟩ := rfl
theorem T89 : TT0 89 = some ⟨1, 8, .nilFunc, .func, false⟩ := rfl
theorem T90 : TT0 90 = some ⟨1, 8, .nilFunc, .func, false⟩ := rfl
theorem T91 : TT0 91 = some ⟨1, 8, .nilFunc, .func, false⟩ := rfl
theorem T92 : TT0 92 = some ⟨1, 8, .nilFunc, .func, false⟩ := rfl
theorem T93 : TT0 93 = some ⟨1, 8, .map none, .map 34 4, false⟩ := rfl
theorem T94 : TT0 94 = some ⟨1, 8, .nilFunc, .func, false⟩ := rfl
theorem T95 : TT0 95 = some ⟨1, 8, .nilFunc, .func, false⟩ := rfl
theorem T96 : TT0 96 = some ⟨1, 8, .nilFunc, .func, false⟩ := rfl
theorem T97 : TT0 97 = some ⟨1, 8, .nilFunc, .func, false⟩ := rfl
theorem T98 : TT0 98 = some ⟨1, 24, .slice none 0 0, .slice 99, false⟩ := rfl
theorem T99 : TT0 99 = some ⟨1, 24, .slice none 0 0, .slice 28, false⟩ := rfl
theorem T100 : TT0 100 = some ⟨1, 8, .nilFunc, .func, false⟩ := rfl
theorem T101 : TT0 101 = some ⟨1, 8, .int .u64 0, .int .u64, false⟩ := rfl
theorem T103 : TT0 103 = some ⟨1, 8, .nilFunc, .func, false⟩ := rfl
theorem T104 : TT0 104 = some ⟨1, 8, .nilFunc, .func, false⟩ := rfl
theorem T105 : TT0 105 = some ⟨1, 8, .nilFunc, .func, false⟩ := rfl
theorem T106 : TT0 106 = some ⟨1, 8, .nilFunc, .func, false⟩ := rfl
theorem T107 : TT0 107 = some ⟨1, 8, .nilFunc, .func, false⟩ := rfl
theorem T108 : TT0 108 = some ⟨5, 72, .agg #[.slice none 0 0, .int .i64 0, .int .i64 0, .slice none 0 0, .int .i64 0], .struct [(0, 25), (4, 3)], false⟩ := rfl
theorem T109 : TT0 109 = some ⟨5, 72, .agg #[.slice none 0 0, .int .i64 0, .int .i64 0, .slice none 0 0, .int .i64 0], .struct [(0, 25), (4, 3)], false⟩ := rfl
theorem T110 : TT0 110 = some ⟨10, 144, .agg #[.slice none 0 0, .int .i64 0, .int .i64 0, .slice none 0 0, .int .i64 0, .slice none 0 0, .int .i64 0, .int .i64 0, .slice none 0 0, .int .i64 0], .array 2 109, false⟩ := rfl
theorem T111 : TT0 111 = some ⟨1, 8, .nilFunc, .func, false⟩ := rfl
theorem T112 : TT0 112 = some ⟨2, 16, .agg #[.nilFunc, .nilFunc], .array 2 111, false⟩ := rfl
theorem T113 : TT0 113 = some ⟨1, 8, .nilFunc, .func, false⟩ := rfl
theorem T114 : TT0 114 = some ⟨1, 8, .nilFunc, .func, false⟩ := rfl
theorem T115 : TT0 115 = some ⟨1, 8, .nilFunc, .func, false⟩ := rfl
theorem T116 : TT0 116 = some ⟨1, 4, .int .u32 0, .int .u32, false⟩ := rfl
theorem T118 : TT0 118 = some ⟨1, 8, .nilFunc, .func, false⟩ := rfl
theorem T119 : TT0 119 = some ⟨1, 8, .int .u64 0, .int .u64, false⟩ := rfl
theorem T121 : TT0 121 = some ⟨1, 8, .nilFunc, .func, false⟩ := rfl
theorem T122 : TT0 122 = some ⟨1, 8, .nilFunc, .func, false⟩ := rfl
theorem T123 : TT0 123 = some ⟨1, 8, .nilFunc, .func, false⟩ := rfl
theorem T124 : TT0 124 = some ⟨1, 8, .nilFunc, .func, false⟩ := rfl
theorem T125 : TT0 125 = some ⟨1, 8, .int .i64 0, .int .i64, false⟩ := rfl
theorem T127 : TT0 127 = some ⟨1, 8, .nilFunc, .func, false⟩ := rfl
theorem T128 : TT0 128 = some ⟨1, 8, .nilFunc, .func, false⟩ := rfl
theorem T129 : TT0 129 = some ⟨1, 8, .nilFunc, .func, false⟩ := rfl
theorem T131 : TT0 131 = some ⟨1, 8, .nilFunc, .func, false⟩ := rfl
theorem T132 : TT0 132 = some ⟨1, 8, .nilFunc, .func, false⟩ := rfl
theorem T133 : TT0 133 = some ⟨1, 8, .nilFunc, .func, false⟩ := rfl
theorem T134 : TT0 134 = some ⟨1, 8, .int .u64 0, .int .u64, false⟩ := rfl
theorem T135 : TT0 135 = some ⟨1, 8, .nilFunc, .func, false⟩ := rfl
theorem T136 : TT0 136 = some ⟨1, 8, .nilFunc, .func, false⟩ := rfl
theorem T137 : TT0 137 = some ⟨1, 8, .nilFunc, .func, false⟩ := rfl
theorem T138 : TT0 138 = some ⟨1, 8, .pointer none, .pointer 3, false⟩ := rfl
theorem T139 : TT0 139 = some ⟨1, 8, .nilFunc, .func, false⟩ := rfl
theorem T140 : TT0 140 = some ⟨1, 8, .pointer none, .pointer 134, false⟩ := rfl
theorem T142 : TT0 142 = some ⟨1, 8, .nilFunc, .func, false⟩ := rfl
theorem T143 : TT0 143 = some ⟨1, 8, .nilFunc, .func, false⟩ := rfl
theorem T144 : TT0 144 = some ⟨4, 40, .agg #[.pointer none, .pointer none, .pointer none, .string ⟨#[]⟩], .struct [(0, 17), (1, 17), (2, 17), (3, 9)], false⟩ := rfl
theorem T145 : TT0 145 = some ⟨4, 40, .agg #[.pointer none, .pointer none, .pointer none, .string ⟨#[]⟩], .struct [(0, 17), (1, 17), (2, 17), (3, 9)], false⟩ := rfl
theorem T146 : TT0 146 = some ⟨0, 0, .agg #[], .array 0 16, true⟩ := rfl
theorem T147 : TT0 147 = some ⟨0, 0, .agg #[], .struct [(0, 146)], false⟩ := rfl
theorem T148 : TT0 148 = some ⟨0, 0, .agg #[], .struct [(0, 146)], false⟩ := rfl
theorem T149 : TT0 149 = some ⟨1, 8, .nilFunc, .func, false⟩ := rfl
theorem T150 : TT0 150 = some ⟨1, 1, .int .u8 0, .int .u8, false⟩ := rfl
theorem T151 : TT0 151 = some ⟨1, 1, .int .u8 0, .int .u8, false⟩ := rfl
theorem T152 : TT0 152 = some ⟨1, 8, .nilFunc, .func, false⟩ := rfl
theorem T153 : TT0 153 = some ⟨1, 8, .pointer none, .pointer 5, false⟩ := rfl
theorem T154 : TT0 154 = some ⟨1, 4, .int .i32 0, .int .i32, false⟩ := rfl
theorem T155 : TT0 155 = some ⟨1, 4, .int .i32 0, .int .i32, false⟩ := rfl
theorem T156 : TT0 156 = some ⟨11, 48, .agg #[.int .u64 0, .int .u64 0, .int .u32 0, .int .u8 0, .int .u8 0, .int .u8 0, .int .u8 0, .nilFunc, .pointer none, .int .i32 0, .int .i32 0], .struct [(0, 12), (1, 12), (2, 116), (3, 150), (4, 5), (5, 5), (6, 151), (7, 152), (8, 153), (9, 154), (10, 155)], false⟩ := rfl
theorem T157 : TT0 157 = some ⟨11, 48, .agg #[.int .u64 0, .int .u64 0, .int .u32 0, .int .u8 0, .int .u8 0, .int .u8 0, .int .u8 0, .nilFunc, .pointer none, .int .i32 0, .int .i32 0], .struct [(0, 12), (1, 12), (2, 116), (3, 150), (4, 5), (5, 5), (6, 151), (7, 152), (8, 153), (9, 154), (10, 155)], false⟩ := rfl
theorem tk1 : TyOk Try.prog 1 ⟨1, 8, .nilFunc, .func, false⟩ := TyOk.mk (i := by
    have h : (Try.prog.info? 1).map (fun i => (i.size, i.bytes, i.zero)) = some (1, 8, some (.nilFunc)) := by kernel_rfl
    exact TyOk.info h) (u := by
    have h : (Try.prog.underlying 1).map kindOf = some (.func) := by kernel_rfl
    exact TyOk.under h) (e := fun h => by cases h)
theorem tk2 : TyOk Try.prog 2 ⟨1, 8, .int .i64 0, .int .i64, false⟩ := TyOk.mk (i := by
    have h : (Try.prog.info? 2).map (fun i => (i.size, i.bytes, i.zero)) = some (1, 8, some (.int .i64 0)) := by kernel_rfl
    exact TyOk.info h) (u := by
    have h : (Try.prog.underlying 2).map kindOf = some (.int .i64) := by kernel_rfl
    exact TyOk.under h) (e := fun h => by cases h)
theorem tk3 : TyOk Try.prog 3 ⟨1, 8, .int .i64 0, .int .i64, false⟩ := TyOk.mk (i := by
    have h : (Try.prog.info? 3).map (fun i => (i.size, i.bytes, i.zero)) = some (1, 8, some (.int .i64 0)) := by kernel_rfl
    exact TyOk.info h) (u := by
    have h : (Try.prog.underlying 3).map kindOf = some (.int .i64) := by kernel_rfl
    exact TyOk.under h) (e := fun h => by cases h)
theorem tk4 : TyOk Try.prog 4 ⟨1, 1, .bool false, .bool, false⟩ := TyOk.mk (i := by
    have h : (Try.prog.info? 4).map (fun i => (i.size, i.bytes, i.zero)) = some (1, 1, some (.bool false)) := by kernel_rfl
    exact TyOk.info h) (u := by
    have h : (Try.prog.underlying 4).map kindOf = some (.bool) := by kernel_rfl
    exact TyOk.under h) (e := fun h => by cases h)
theorem tk5 : TyOk Try.prog 5 ⟨1, 1, .int .u8 0, .int .u8, false⟩ := TyOk.mk (i := by
    have h : (Try.prog.info? 5).map (fun i => (i.size, i.bytes, i.zero)) = some (1, 1, some (.int .u8 0)) := by kernel_rfl
    exact TyOk.info h) (u := by
    have h : (Try.prog.underlying 5).map kindOf = some (.int .u8) := by kernel_rfl
    exact TyOk.under h) (e := fun h => by cases h)
theorem tk6 : TyOk Try.prog 6 ⟨1, 1, .int .u8 0, .int .u8, false⟩ := TyOk.mk (i := by
    have h : (Try.prog.info? 6).map (fun i => (i.size, i.bytes, i.zero)) = some (1, 1, some (.int .u8 0)) := by kernel_rfl
    exact TyOk.info h) (u := by
    have h : (Try.prog.underlying 6).map kindOf = some (.int .u8) := by kernel_rfl
    exact TyOk.under h) (e := fun h => by cases h)
theorem tk7 : TyOk Try.prog 7 ⟨4, 24, .agg #[.int .i64 0, .int .i64 0, .bool false, .int .u8 0], .struct [(0, 2), (1, 3), (2, 4), (3, 6)], false⟩ := TyOk.mk (i := by
    have h : (Try.prog.info? 7).map (fun i => (i.size, i.bytes, i.zero)) = some (4, 24, some (.agg #[.int .i64 0, .int .i64 0, .bool false, .int .u8 0])) := by kernel_rfl
    exact TyOk.info h) (u := by
    have h : (Try.prog.underlying 7).map kindOf = some (.struct [(0, 2), (1, 3), (2, 4), (3, 6)]) := by kernel_rfl
    exact TyOk.under h) (e := fun h => by cases h)
theorem tk8 : TyOk Try.prog 8 ⟨4, 24, .agg #[.int .i64 0, .int .i64 0, .bool false, .int .u8 0], .struct [(0, 2), (1, 3), (2, 4), (3, 6)], false⟩ := TyOk.mk (i := by
    have h : (Try.prog.info? 8).map (fun i => (i.size, i.bytes, i.zero)) = some (4, 24, some (.agg #[.int .i64 0, .int .i64 0, .bool false, .int .u8 0])) := by kernel_rfl
    exact TyOk.info h) (u := by
    have h : (Try.prog.underlying 8).map kindOf = some (.struct [(0, 2), (1, 3), (2, 4), (3, 6)]) := by kernel_rfl
    exact TyOk.under h) (e := fun h => by cases h)
theorem tk9 : TyOk Try.prog 9 ⟨1, 16, .string ⟨#[]⟩, .string, false⟩ := TyOk.mk (i := by
    have h : (Try.prog.info? 9).map (fun i => (i.size, i.bytes, i.zero)) = some (1, 16, some (.string ⟨#[]⟩)) := by kernel_rfl
    exact TyOk.info h) (u := by
    have h : (Try.prog.underlying 9).map kindOf = some (.string) := by kernel_rfl
    exact TyOk.under h) (e := fun h => by cases h)
theorem tk10 : TyOk Try.prog 10 ⟨1, 16, .string ⟨#[]⟩, .string, false⟩ := TyOk.mk (i := by
    have h : (Try.prog.info? 10).map (fun i => (i.size, i.bytes, i.zero)) = some (1, 16, some (.string ⟨#[]⟩)) := by kernel_rfl
    exact TyOk.info h) (u := by
    have h : (Try.prog.underlying 10).map kindOf = some (.string) := by kernel_rfl
    exact TyOk.under h) (e := fun h => by cases h)
theorem tk11 : TyOk Try.prog 11 ⟨1, 16, .string ⟨#[]⟩, .string, false⟩ := TyOk.mk (i := by
    have h : (Try.prog.info? 11).map (fun i => (i.size, i.bytes, i.zero)) = some (1, 16, some (.string ⟨#[]⟩)) := by kernel_rfl
    exact TyOk.info h) (u := by
    have h : (Try.prog.underlying 11).map kindOf = some (.string) := by kernel_rfl
    exact TyOk.under h) (e := fun h => by cases h)
theorem tk12 : TyOk Try.prog 12 ⟨1, 8, .int .u64 0, .int .u64, false⟩ := TyOk.mk (i := by
    have h : (Try.prog.info? 12).map (fun i => (i.size, i.bytes, i.zero)) = some (1, 8, some (.int .u64 0)) := by kernel_rfl
    exact TyOk.info h) (u := by
    have h : (Try.prog.underlying 12).map kindOf = some (.int .u64) := by kernel_rfl
    exact TyOk.under h) (e := fun h => by cases h)
theorem tk13 : TyOk Try.prog 13 ⟨2, 24, .agg #[.string ⟨#[]⟩, .int .u64 0], .struct [(0, 9), (1, 12)], false⟩ := TyOk.mk (i := by
    have h : (Try.prog.info? 13).map (fun i => (i.size, i.bytes, i.zero)) = some (2, 24, some (.agg #[.string ⟨#[]⟩, .int .u64 0])) := by kernel_rfl
    exact TyOk.info h) (u := by
    have h : (Try.prog.underlying 13).map kindOf = some (.struct [(0, 9), (1, 12)]) := by kernel_rfl
    exact TyOk.under h) (e := fun h => by cases h)
theorem tk14 : TyOk Try.prog 14 ⟨2, 24, .agg #[.string ⟨#[]⟩, .int .u64 0], .struct [(0, 9), (1, 12)], false⟩ := TyOk.mk (i := by
    have h : (Try.prog.info? 14).map (fun i => (i.size, i.bytes, i.zero)) = some (2, 24, some (.agg #[.string ⟨#[]⟩, .int .u64 0])) := by kernel_rfl
    exact TyOk.info h) (u := by
    have h : (Try.prog.underlying 14).map kindOf = some (.struct [(0, 9), (1, 12)]) := by kernel_rfl
    exact TyOk.under h) (e := fun h => by cases h)
theorem tk15 : TyOk Try.prog 15 ⟨1, 8, .pointer none, .pointer 145, false⟩ := TyOk.mk (i := by
    have h : (Try.prog.info? 15).map (fun i => (i.size, i.bytes, i.zero)) = some (1, 8, some (.pointer none)) := by kernel_rfl
    exact TyOk.info h) (u := by
    have h : (Try.prog.underlying 15).map kindOf = some (.pointer 145) := by kernel_rfl
    exact TyOk.under h) (e := fun h => by cases h)
theorem tk16 : TyOk Try.prog 16 ⟨1, 8, .pointer none, .pointer 148, false⟩ := TyOk.mk (i := by
    have h : (Try.prog.info? 16).map (fun i => (i.size, i.bytes, i.zero)) = some (1, 8, some (.pointer none)) := by kernel_rfl
    exact TyOk.info h) (u := by
    have h : (Try.prog.underlying 16).map kindOf = some (.pointer 148) := by kernel_rfl
    exact TyOk.under h) (e := fun h => by cases h)
theorem tk17 : TyOk Try.prog 17 ⟨1, 8, .pointer none, .pointer 157, false⟩ := TyOk.mk (i := by
    have h : (Try.prog.info? 17).map (fun i => (i.size, i.bytes, i.zero)) = some (1, 8, some (.pointer none)) := by kernel_rfl
    exact TyOk.info h) (u := by
    have h : (Try.prog.underlying 17).map kindOf = some (.pointer 157) := by kernel_rfl
    exact TyOk.under h) (e := fun h => by cases h)
theorem tk18 : TyOk Try.prog 18 ⟨1, 8, .agg #[.pointer none], .struct [(0, 17)], false⟩ := TyOk.mk (i := by
    have h : (Try.prog.info? 18).map (fun i => (i.size, i.bytes, i.zero)) = some (1, 8, some (.agg #[.pointer none])) := by kernel_rfl
    exact TyOk.info h) (u := by
    have h : (Try.prog.underlying 18).map kindOf = some (.struct [(0, 17)]) := by kernel_rfl
    exact TyOk.under h) (e := fun h => by cases h)
theorem tk19 : TyOk Try.prog 19 ⟨1, 8, .agg #[.pointer none], .struct [(0, 17)], false⟩ := TyOk.mk (i := by
    have h : (Try.prog.info? 19).map (fun i => (i.size, i.bytes, i.zero)) = some (1, 8, some (.agg #[.pointer none])) := by kernel_rfl
    exact TyOk.info h) (u := by
    have h : (Try.prog.underlying 19).map kindOf = some (.struct [(0, 17)]) := by kernel_rfl
    exact TyOk.under h) (e := fun h => by cases h)
theorem tk20 : TyOk Try.prog 20 ⟨1, 16, .nilIface, .iface, false⟩ := TyOk.mk (i := by
    have h : (Try.prog.info? 20).map (fun i => (i.size, i.bytes, i.zero)) = some (1, 16, some (.nilIface)) := by kernel_rfl
    exact TyOk.info h) (u := by
    have h : (Try.prog.underlying 20).map kindOf = some (.iface) := by kernel_rfl
    exact TyOk.under h) (e := fun h => by cases h)
theorem tk21 : TyOk Try.prog 21 ⟨1, 4, .int .i32 0, .int .i32, false⟩ := TyOk.mk (i := by
    have h : (Try.prog.info? 21).map (fun i => (i.size, i.bytes, i.zero)) = some (1, 4, some (.int .i32 0)) := by kernel_rfl
    exact TyOk.info h) (u := by
    have h : (Try.prog.underlying 21).map kindOf = some (.int .i32) := by kernel_rfl
    exact TyOk.under h) (e := fun h => by cases h)
theorem tk22 : TyOk Try.prog 22 ⟨1, 24, .slice none 0 0, .slice 9, false⟩ := TyOk.mk (i := by
    have h : (Try.prog.info? 22).map (fun i => (i.size, i.bytes, i.zero)) = some (1, 24, some (.slice none 0 0)) := by kernel_rfl
    exact TyOk.info h) (u := by
    have h : (Try.prog.underlying 22).map kindOf = some (.slice 9) := by kernel_rfl
    exact TyOk.under h) (e := fun h => by cases h)
theorem tk23 : TyOk Try.prog 23 ⟨1, 24, .slice none 0 0, .slice 44, false⟩ := TyOk.mk (i := by
    have h : (Try.prog.info? 23).map (fun i => (i.size, i.bytes, i.zero)) = some (1, 24, some (.slice none 0 0)) := by kernel_rfl
    exact TyOk.info h) (u := by
    have h : (Try.prog.underlying 23).map kindOf = some (.slice 44) := by kernel_rfl
    exact TyOk.under h) (e := fun h => by cases h)
theorem tk24 : TyOk Try.prog 24 ⟨4, 64, .agg #[.slice none 0 0, .int .i64 0, .int .i64 0, .slice none 0 0], .struct [(0, 22), (1, 3), (2, 3), (3, 23)], false⟩ := TyOk.mk (i := by
    have h : (Try.prog.info? 24).map (fun i => (i.size, i.bytes, i.zero)) = some (4, 64, some (.agg #[.slice none 0 0, .int .i64 0, .int .i64 0, .slice none 0 0])) := by kernel_rfl
    exact TyOk.info h) (u := by
    have h : (Try.prog.underlying 24).map kindOf = some (.struct [(0, 22), (1, 3), (2, 3), (3, 23)]) := by kernel_rfl
    exact TyOk.under h) (e := fun h => by cases h)
theorem tk25 : TyOk Try.prog 25 ⟨4, 64, .agg #[.slice none 0 0, .int .i64 0, .int .i64 0, .slice none 0 0], .struct [(0, 22), (1, 3), (2, 3), (3, 23)], false⟩ := TyOk.mk (i := by
    have h : (Try.prog.info? 25).map (fun i => (i.size, i.bytes, i.zero)) = some (4, 64, some (.agg #[.slice none 0 0, .int .i64 0, .int .i64 0, .slice none 0 0])) := by kernel_rfl
    exact TyOk.info h) (u := by
    have h : (Try.prog.underlying 25).map kindOf = some (.struct [(0, 22), (1, 3), (2, 3), (3, 23)]) := by kernel_rfl
    exact TyOk.under h) (e := fun h => by cases h)
theorem tk26 : TyOk Try.prog 26 ⟨1, 8, .nilFunc, .func, false⟩ := TyOk.mk (i := by
    have h : (Try.prog.info? 26).map (fun i => (i.size, i.bytes, i.zero)) = some (1, 8, some (.nilFunc)) := by kernel_rfl
    exact TyOk.info h) (u := by
    have h : (Try.prog.underlying 26).map kindOf = some (.func) := by kernel_rfl
    exact TyOk.under h) (e := fun h => by cases h)
theorem tk27 : TyOk Try.prog 27 ⟨1, 8, .nilFunc, .func, false⟩ := TyOk.mk (i := by
    have h : (Try.prog.info? 27).map (fun i => (i.size, i.bytes, i.zero)) = some (1, 8, some (.nilFunc)) := by kernel_rfl
    exact TyOk.info h) (u := by
    have h : (Try.prog.underlying 27).map kindOf = some (.func) := by kernel_rfl
    exact TyOk.under h) (e := fun h => by cases h)
theorem tk28 : TyOk Try.prog 28 ⟨1, 24, .slice none 0 0, .slice 34, false⟩ := TyOk.mk (i := by
    have h : (Try.prog.info? 28).map (fun i => (i.size, i.bytes, i.zero)) = some (1, 24, some (.slice none 0 0)) := by kernel_rfl
    exact TyOk.info h) (u := by
    have h : (Try.prog.underlying 28).map kindOf = some (.slice 34) := by kernel_rfl
    exact TyOk.under h) (e := fun h => by cases h)
theorem tk29 : TyOk Try.prog 29 ⟨1, 8, .int .i64 0, .int .i64, false⟩ := TyOk.mk (i := by
    have h : (Try.prog.info? 29).map (fun i => (i.size, i.bytes, i.zero)) = some (1, 8, some (.int .i64 0)) := by kernel_rfl
    exact TyOk.info h) (u := by
    have h : (Try.prog.underlying 29).map kindOf = some (.int .i64) := by kernel_rfl
    exact TyOk.under h) (e := fun h => by cases h)
theorem tk31 : TyOk Try.prog 31 ⟨1, 8, .nilFunc, .func, false⟩ := TyOk.mk (i := by
    have h : (Try.prog.info? 31).map (fun i => (i.size, i.bytes, i.zero)) = some (1, 8, some (.nilFunc)) := by kernel_rfl
    exact TyOk.info h) (u := by
    have h : (Try.prog.underlying 31).map kindOf = some (.func) := by kernel_rfl
    exact TyOk.under h) (e := fun h => by cases h)
theorem tk32 : TyOk Try.prog 32 ⟨1, 8, .nilFunc, .func, false⟩ := TyOk.mk (i := by
    have h : (Try.prog.info? 32).map (fun i => (i.size, i.bytes, i.zero)) = some (1, 8, some (.nilFunc)) := by kernel_rfl
    exact TyOk.info h) (u := by
    have h : (Try.prog.underlying 32).map kindOf = some (.func) := by kernel_rfl
    exact TyOk.under h) (e := fun h => by cases h)
theorem tk33 : TyOk Try.prog 33 ⟨1, 8, .nilFunc, .func, false⟩ := TyOk.mk (i := by
    have h : (Try.prog.info? 33).map (fun i => (i.size, i.bytes, i.zero)) = some (1, 8, some (.nilFunc)) := by kernel_rfl
    exact TyOk.info h) (u := by
    have h : (Try.prog.underlying 33).map kindOf = some (.func) := by kernel_rfl
    exact TyOk.under h) (e := fun h => by cases h)
theorem tk34 : TyOk Try.prog 34 ⟨2, 16, .agg #[.int .i64 0, .int .i64 0], .array 2 3, true⟩ := TyOk.mk (i := by
    have h : (Try.prog.info? 34).map (fun i => (i.size, i.bytes, i.zero)) = some (2, 16, some (.agg #[.int .i64 0, .int .i64 0])) := by kernel_rfl
    exact TyOk.info h) (u := by
    have h : (Try.prog.underlying 34).map kindOf = some (.array 2 3) := by kernel_rfl
    exact TyOk.under h) (e := fun h => ⟨by kernel_rfl, by kernel_rfl⟩)
theorem tk35 : TyOk Try.prog 35 ⟨1, 8, .nilFunc, .func, false⟩ := TyOk.mk (i := by
    have h : (Try.prog.info? 35).map (fun i => (i.size, i.bytes, i.zero)) = some (1, 8, some (.nilFunc)) := by kernel_rfl
    exact TyOk.info h) (u := by
    have h : (Try.prog.underlying 35).map kindOf = some (.func) := by kernel_rfl
    exact TyOk.under h) (e := fun h => by cases h)
theorem tk36 : TyOk Try.prog 36 ⟨1, 8, .nilFunc, .func, false⟩ := TyOk.mk (i := by
    have h : (Try.prog.info? 36).map (fun i => (i.size, i.bytes, i.zero)) = some (1, 8, some (.nilFunc)) := by kernel_rfl
    exact TyOk.info h) (u := by
    have h : (Try.prog.underlying 36).map kindOf = some (.func) := by kernel_rfl
    exact TyOk.under h) (e := fun h => by cases h)
theorem tk37 : TyOk Try.prog 37 ⟨1, 8, .nilFunc, .func, false⟩ := TyOk.mk (i := by
    have h : (Try.prog.info? 37).map (fun i => (i.size, i.bytes, i.zero)) = some (1, 8, some (.nilFunc)) := by kernel_rfl
    exact TyOk.info h) (u := by
    have h : (Try.prog.underlying 37).map kindOf = some (.func) := by kernel_rfl
    exact TyOk.under h) (e := fun h => by cases h)
theorem tk38 : TyOk Try.prog 38 ⟨1, 8, .nilFunc, .func, false⟩ := TyOk.mk (i := by
    have h : (Try.prog.info? 38).map (fun i => (i.size, i.bytes, i.zero)) = some (1, 8, some (.nilFunc)) := by kernel_rfl
    exact TyOk.info h) (u := by
    have h : (Try.prog.underlying 38).map kindOf = some (.func) := by kernel_rfl
    exact TyOk.under h) (e := fun h => by cases h)
theorem tk40 : TyOk Try.prog 40 ⟨1, 8, .nilFunc, .func, false⟩ := TyOk.mk (i := by
    have h : (Try.prog.info? 40).map (fun i => (i.size, i.bytes, i.zero)) = some (1, 8, some (.nilFunc)) := by kernel_rfl
    exact TyOk.info h) (u := by
    have h : (Try.prog.underlying 40).map kindOf = some (.func) := by kernel_rfl
    exact TyOk.under h) (e := fun h => by cases h)
theorem tk42 : TyOk Try.prog 42 ⟨1, 8, .nilFunc, .func, false⟩ := TyOk.mk (i := by
    have h : (Try.prog.info? 42).map (fun i => (i.size, i.bytes, i.zero)) = some (1, 8, some (.nilFunc)) := by kernel_rfl
    exact TyOk.info h) (u := by
    have h : (Try.prog.underlying 42).map kindOf = some (.func) := by kernel_rfl
    exact TyOk.under h) (e := fun h => by cases h)
theorem tk43 : TyOk Try.prog 43 ⟨1, 8, .nilFunc, .func, false⟩ := TyOk.mk (i := by
    have h : (Try.prog.info? 43).map (fun i => (i.size, i.bytes, i.zero)) = some (1, 8, some (.nilFunc)) := by kernel_rfl
    exact TyOk.info h) (u := by
    have h : (Try.prog.underlying 43).map kindOf = some (.func) := by kernel_rfl
    exact TyOk.under h) (e := fun h => by cases h)
theorem tk44 : TyOk Try.prog 44 ⟨1, 24, .slice none 0 0, .slice 3, false⟩ := TyOk.mk (i := by
    have h : (Try.prog.info? 44).map (fun i => (i.size, i.bytes, i.zero)) = some (1, 24, some (.slice none 0 0)) := by kernel_rfl
    exact TyOk.info h) (u := by
    have h : (Try.prog.underlying 44).map kindOf = some (.slice 3) := by kernel_rfl
    exact TyOk.under h) (e := fun h => by cases h)
theorem tk45 : TyOk Try.prog 45 ⟨1, 8, .nilFunc, .func, false⟩ := TyOk.mk (i := by
    have h : (Try.prog.info? 45).map (fun i => (i.size, i.bytes, i.zero)) = some (1, 8, some (.nilFunc)) := by kernel_rfl
    exact TyOk.info h) (u := by
    have h : (Try.prog.underlying 45).map kindOf = some (.func) := by kernel_rfl
    exact TyOk.under h) (e := fun h => by cases h)
theorem tk46 : TyOk Try.prog 46 ⟨1, 8, .nilFunc, .func, false⟩ := TyOk.mk (i := by
    have h : (Try.prog.info? 46).map (fun i => (i.size, i.bytes, i.zero)) = some (1, 8, some (.nilFunc)) := by kernel_rfl
    exact TyOk.info h) (u := by
    have h : (Try.prog.underlying 46).map kindOf = some (.func) := by kernel_rfl
    exact TyOk.under h) (e := fun h => by cases h)
theorem tk48 : TyOk Try.prog 48 ⟨1, 8, .nilFunc, .func, false⟩ := TyOk.mk (i := by
    have h : (Try.prog.info? 48).map (fun i => (i.size, i.bytes, i.zero)) = some (1, 8, some (.nilFunc)) := by kernel_rfl
    exact TyOk.info h) (u := by
    have h : (Try.prog.underlying 48).map kindOf = some (.func) := by kernel_rfl
    exact TyOk.under h) (e := fun h => by cases h)
theorem tk50 : TyOk Try.prog 50 ⟨1, 8, .nilFunc, .func, false⟩ := TyOk.mk (i := by
    have h : (Try.prog.info? 50).map (fun i => (i.size, i.bytes, i.zero)) = some (1, 8, some (.nilFunc)) := by kernel_rfl
    exact TyOk.info h) (u := by
    have h : (Try.prog.underlying 50).map kindOf = some (.func) := by kernel_rfl
    exact TyOk.under h) (e := fun h => by cases h)
theorem tk51 : TyOk Try.prog 51 ⟨1, 8, .nilFunc, .func, false⟩ := TyOk.mk (i := by
    have h : (Try.prog.info? 51).map (fun i => (i.size, i.bytes, i.zero)) = some (1, 8, some (.nilFunc)) := by kernel_rfl
    exact TyOk.info h) (u := by
    have h : (Try.prog.underlying 51).map kindOf = some (.func) := by kernel_rfl
    exact TyOk.under h) (e := fun h => by cases h)
theorem tk52 : TyOk Try.prog 52 ⟨3, 56, .agg #[.bool false, .slice none 0 0, .slice none 0 0], .struct [(0, 4), (1, 28), (2, 44)], false⟩ := TyOk.mk (i := by
    have h : (Try.prog.info? 52).map (fun i => (i.size, i.bytes, i.zero)) = some (3, 56, some (.agg #[.bool false, .slice none 0 0, .slice none 0 0])) := by kernel_rfl
    exact TyOk.info h) (u := by
    have h : (Try.prog.underlying 52).map kindOf = some (.struct [(0, 4), (1, 28), (2, 44)]) := by kernel_rfl
    exact TyOk.under h) (e := fun h => by cases h)
theorem tk53 : TyOk Try.prog 53 ⟨3, 56, .agg #[.bool false, .slice none 0 0, .slice none 0 0], .struct [(0, 4), (1, 28), (2, 44)], false⟩ := TyOk.mk (i := by
    have h : (Try.prog.info? 53).map (fun i => (i.size, i.bytes, i.zero)) = some (3, 56, some (.agg #[.bool false, .slice none 0 0, .slice none 0 0])) := by kernel_rfl
    exact TyOk.info h) (u := by
    have h : (Try.prog.underlying 53).map kindOf = some (.struct [(0, 4), (1, 28), (2, 44)]) := by kernel_rfl
    exact TyOk.under h) (e := fun h => by cases h)
theorem tk54 : TyOk Try.prog 54 ⟨1, 8, .nilFunc, .func, false⟩ := TyOk.mk (i := by
    have h : (Try.prog.info? 54).map (fun i => (i.size, i.bytes, i.zero)) = some (1, 8, some (.nilFunc)) := by kernel_rfl
    exact TyOk.info h) (u := by
    have h : (Try.prog.underlying 54).map kindOf = some (.func) := by kernel_rfl
    exact TyOk.under h) (e := fun h => by cases h)
theorem tk55 : TyOk Try.prog 55 ⟨1, 8, .nilFunc, .func, false⟩ := TyOk.mk (i := by
    have h : (Try.prog.info? 55).map (fun i => (i.size, i.bytes, i.zero)) = some (1, 8, some (.nilFunc)) := by kernel_rfl
    exact TyOk.info h) (u := by
    have h : (Try.prog.underlying 55).map kindOf = some (.func) := by kernel_rfl
    exact TyOk.under h) (e := fun h => by cases h)
theorem tk56 : TyOk Try.prog 56 ⟨1, 8, .nilFunc, .func, false⟩ := TyOk.mk (i := by
    have h : (Try.prog.info? 56).map (fun i => (i.size, i.bytes, i.zero)) = some (1, 8, some (.nilFunc)) := by kernel_rfl
    exact TyOk.info h) (u := by
    have h : (Try.prog.underlying 56).map kindOf = some (.func) := by kernel_rfl
    exact TyOk.under h) (e := fun h => by cases h)
theorem tk58 : TyOk Try.prog 58 ⟨1, 8, .nilFunc, .func, false⟩ := TyOk.mk (i := by
    have h : (Try.prog.info? 58).map (fun i => (i.size, i.bytes, i.zero)) = some (1, 8, some (.nilFunc)) := by kernel_rfl
    exact TyOk.info h) (u := by
    have h : (Try.prog.underlying 58).map kindOf = some (.func) := by kernel_rfl
    exact TyOk.under h) (e := fun h => by cases h)
theorem tk60 : TyOk Try.prog 60 ⟨1, 8, .nilFunc, .func, false⟩ := TyOk.mk (i := by
    have h : (Try.prog.info? 60).map (fun i => (i.size, i.bytes, i.zero)) = some (1, 8, some (.nilFunc)) := by kernel_rfl
    exact TyOk.info h) (u := by
    have h : (Try.prog.underlying 60).map kindOf = some (.func) := by kernel_rfl
    exact TyOk.under h) (e := fun h => by cases h)
theorem tk61 : TyOk Try.prog 61 ⟨1, 8, .nilFunc, .func, false⟩ := TyOk.mk (i := by
    have h : (Try.prog.info? 61).map (fun i => (i.size, i.bytes, i.zero)) = some (1, 8, some (.nilFunc)) := by kernel_rfl
    exact TyOk.info h) (u := by
    have h : (Try.prog.underlying 61).map kindOf = some (.func) := by kernel_rfl
    exact TyOk.under h) (e := fun h => by cases h)
theorem tk62 : TyOk Try.prog 62 ⟨1, 8, .nilFunc, .func, false⟩ := TyOk.mk (i := by
    have h : (Try.prog.info? 62).map (fun i => (i.size, i.bytes, i.zero)) = some (1, 8, some (.nilFunc)) := by kernel_rfl
    exact TyOk.info h) (u := by
    have h : (Try.prog.underlying 62).map kindOf = some (.func) := by kernel_rfl
    exact TyOk.under h) (e := fun h => by cases h)
theorem tk63 : TyOk Try.prog 63 ⟨1, 8, .nilFunc, .func, false⟩ := TyOk.mk (i := by
    have h : (Try.prog.info? 63).map (fun i => (i.size, i.bytes, i.zero)) = some (1, 8, some (.nilFunc)) := by kernel_rfl
    exact TyOk.info h) (u := by
    have h : (Try.prog.underlying 63).map kindOf = some (.func) := by kernel_rfl
    exact TyOk.under h) (e := fun h => by cases h)
theorem tk64 : TyOk Try.prog 64 ⟨1, 8, .nilFunc, .func, false⟩ := TyOk.mk (i := by
    have h : (Try.prog.info? 64).map (fun i => (i.size, i.bytes, i.zero)) = some (1, 8, some (.nilFunc)) := by kernel_rfl
    exact TyOk.info h) (u := by
    have h : (Try.prog.underlying 64).map kindOf = some (.func) := by kernel_rfl
    exact TyOk.under h) (e := fun h => by cases h)
theorem tk65 : TyOk Try.prog 65 ⟨1, 24, .slice none 0 0, .slice 67, false⟩ := TyOk.mk (i := by
    have h : (Try.prog.info? 65).map (fun i => (i.size, i.bytes, i.zero)) = some (1, 24, some (.slice none 0 0)) := by kernel_rfl
    exact TyOk.info h) (u := by
    have h : (Try.prog.underlying 65).map kindOf = some (.slice 67) := by kernel_rfl
    exact TyOk.under h) (e := fun h => by cases h)
theorem tk66 : TyOk Try.prog 66 ⟨1, 8, .nilFunc, .func, false⟩ := TyOk.mk (i := by
    have h : (Try.prog.info? 66).map (fun i => (i.size, i.bytes, i.zero)) = some (1, 8, some (.nilFunc)) := by kernel_rfl
    exact TyOk.info h) (u := by
    have h : (Try.prog.underlying 66).map kindOf = some (.func) := by kernel_rfl
    exact TyOk.under h) (e := fun h => by cases h)
theorem tk67 : TyOk Try.prog 67 ⟨1, 24, .slice none 0 0, .slice 4, false⟩ := TyOk.mk (i := by
    have h : (Try.prog.info? 67).map (fun i => (i.size, i.bytes, i.zero)) = some (1, 24, some (.slice none 0 0)) := by kernel_rfl
    exact TyOk.info h) (u := by
    have h : (Try.prog.underlying 67).map kindOf = some (.slice 4) := by kernel_rfl
    exact TyOk.under h) (e := fun h => by cases h)
theorem tk68 : TyOk Try.prog 68 ⟨1, 8, .nilFunc, .func, false⟩ := TyOk.mk (i := by
    have h : (Try.prog.info? 68).map (fun i => (i.size, i.bytes, i.zero)) = some (1, 8, some (.nilFunc)) := by kernel_rfl
    exact TyOk.info h) (u := by
    have h : (Try.prog.underlying 68).map kindOf = some (.func) := by kernel_rfl
    exact TyOk.under h) (e := fun h => by cases h)
theorem tk69 : TyOk Try.prog 69 ⟨1, 8, .map none, .map 34 3, false⟩ := TyOk.mk (i := by
    have h : (Try.prog.info? 69).map (fun i => (i.size, i.bytes, i.zero)) = some (1, 8, some (.map none)) := by kernel_rfl
    exact TyOk.info h) (u := by
    have h : (Try.prog.underlying 69).map kindOf = some (.map 34 3) := by kernel_rfl
    exact TyOk.under h) (e := fun h => by cases h)
theorem tk70 : TyOk Try.prog 70 ⟨1, 8, .nilFunc, .func, false⟩ := TyOk.mk (i := by
    have h : (Try.prog.info? 70).map (fun i => (i.size, i.bytes, i.zero)) = some (1, 8, some (.nilFunc)) := by kernel_rfl
    exact TyOk.info h) (u := by
    have h : (Try.prog.underlying 70).map kindOf = some (.func) := by kernel_rfl
    exact TyOk.under h) (e := fun h => by cases h)
theorem tk71 : TyOk Try.prog 71 ⟨1, 8, .nilFunc, .func, false⟩ := TyOk.mk (i := by
    have h : (Try.prog.info? 71).map (fun i => (i.size, i.bytes, i.zero)) = some (1, 8, some (.nilFunc)) := by kernel_rfl
    exact TyOk.info h) (u := by
    have h : (Try.prog.underlying 71).map kindOf = some (.func) := by kernel_rfl
    exact TyOk.under h) (e := fun h => by cases h)
theorem tk72 : TyOk Try.prog 72 ⟨1, 8, .nilFunc, .func, false⟩ := TyOk.mk (i := by
    have h : (Try.prog.info? 72).map (fun i => (i.size, i.bytes, i.zero)) = some (1, 8, some (.nilFunc)) := by kernel_rfl
    exact TyOk.info h) (u := by
    have h : (Try.prog.underlying 72).map kindOf = some (.func) := by kernel_rfl
    exact TyOk.under h) (e := fun h => by cases h)
theorem tk73 : TyOk Try.prog 73 ⟨1, 8, .nilFunc, .func, false⟩ := TyOk.mk (i := by
    have h : (Try.prog.info? 73).map (fun i => (i.size, i.bytes, i.zero)) = some (1, 8, some (.nilFunc)) := by kernel_rfl
    exact TyOk.info h) (u := by
    have h : (Try.prog.underlying 73).map kindOf = some (.func) := by kernel_rfl
    exact TyOk.under h) (e := fun h => by cases h)
theorem tk74 : TyOk Try.prog 74 ⟨1, 8, .nilFunc, .func, false⟩ := TyOk.mk (i := by
    have h : (Try.prog.info? 74).map (fun i => (i.size, i.bytes, i.zero)) = some (1, 8, some (.nilFunc)) := by kernel_rfl
    exact TyOk.info h) (u := by
    have h : (Try.prog.underlying 74).map kindOf = some (.func) := by kernel_rfl
    exact TyOk.under h) (e := fun h => by cases h)
theorem tk75 : TyOk Try.prog 75 ⟨1, 8, .nilFunc, .func, false⟩ := TyOk.mk (i := by
    have h : (Try.prog.info? 75).map (fun i => (i.size, i.bytes, i.zero)) = some (1, 8, some (.nilFunc)) := by kernel_rfl
    exact TyOk.info h) (u := by
    have h : (Try.prog.underlying 75).map kindOf = some (.func) := by kernel_rfl
    exact TyOk.under h) (e := fun h => by cases h)
theorem tk76 : TyOk Try.prog 76 ⟨1, 8, .nilFunc, .func, false⟩ := TyOk.mk (i := by
    have h : (Try.prog.info? 76).map (fun i => (i.size, i.bytes, i.zero)) = some (1, 8, some (.nilFunc)) := by kernel_rfl
    exact TyOk.info h) (u := by
    have h : (Try.prog.underlying 76).map kindOf = some (.func) := by kernel_rfl
    exact TyOk.under h) (e := fun h => by cases h)
theorem tk77 : TyOk Try.prog 77 ⟨1, 8, .nilFunc, .func, false⟩ := TyOk.mk (i := by
    have h : (Try.prog.info? 77).map (fun i => (i.size, i.bytes, i.zero)) = some (1, 8, some (.nilFunc)) := by kernel_rfl
    exact TyOk.info h) (u := by
    have h : (Try.prog.underlying 77).map kindOf = some (.func) := by kernel_rfl
    exact TyOk.under h) (e := fun h => by cases h)
theorem tk78 : TyOk Try.prog 78 ⟨1, 8, .nilFunc, .func, false⟩ := TyOk.mk (i := by
    have h : (Try.prog.info? 78).map (fun i => (i.size, i.bytes, i.zero)) = some (1, 8, some (.nilFunc)) := by kernel_rfl
    exact TyOk.info h) (u := by
    have h : (Try.prog.underlying 78).map kindOf = some (.func) := by kernel_rfl
    exact TyOk.under h) (e := fun h => by cases h)
theorem tk80 : TyOk Try.prog 80 ⟨1, 8, .nilFunc, .func, false⟩ := TyOk.mk (i := by
    have h : (Try.prog.info? 80).map (fun i => (i.size, i.bytes, i.zero)) = some (1, 8, some (.nilFunc)) := by kernel_rfl
    exact TyOk.info h) (u := by
    have h : (Try.prog.underlying 80).map kindOf = some (.func) := by kernel_rfl
    exact TyOk.under h) (e := fun h => by cases h)
theorem tk81 : TyOk Try.prog 81 ⟨1, 8, .nilFunc, .func, false⟩ := TyOk.mk (i := by
    have h : (Try.prog.info? 81).map (fun i => (i.size, i.bytes, i.zero)) = some (1, 8, some (.nilFunc)) := by kernel_rfl
    exact TyOk.info h) (u := by
    have h : (Try.prog.underlying 81).map kindOf = some (.func) := by kernel_rfl
    exact TyOk.under h) (e := fun h => by cases h)
theorem tk82 : TyOk Try.prog 82 ⟨1, 8, .nilFunc, .func, false⟩ := TyOk.mk (i := by
    have h : (Try.prog.info? 82).map (fun i => (i.size, i.bytes, i.zero)) = some (1, 8, some (.nilFunc)) := by kernel_rfl
    exact TyOk.info h) (u := by
    have h : (Try.prog.underlying 82).map kindOf = some (.func) := by kernel_rfl
    exact TyOk.under h) (e := fun h => by cases h)
theorem tk83 : TyOk Try.prog 83 ⟨1, 8, .nilFunc, .func, false⟩ := TyOk.mk (i := by
    have h : (Try.prog.info? 83).map (fun i => (i.size, i.bytes, i.zero)) = some (1, 8, some (.nilFunc)) := by kernel_rfl
    exact TyOk.info h) (u := by
    have h : (Try.prog.underlying 83).map kindOf = some (.func) := by kernel_rfl
    exact TyOk.under h) (e := fun h => by cases h)
theorem tk84 : TyOk Try.prog 84 ⟨1, 8, .nilFunc, .func, false⟩ := TyOk.mk (i := by
    have h : (Try.prog.info? 84).map (fun i => (i.size, i.bytes, i.zero)) = some (1, 8, some (.nilFunc)) := by kernel_rfl
    exact TyOk.info h) (u := by
    have h : (Try.prog.underlying 84).map kindOf = some (.func) := by kernel_rfl
    exact TyOk.under h) (e := fun h => by cases h)
theorem tk85 : TyOk Try.prog 85 ⟨1, 8, .nilFunc, .func, false⟩ := TyOk.mk (i := by
    have h : (Try.prog.info? 85).map (fun i => (i.size, i.bytes, i.zero)) = some (1, 8, some (.nilFunc)) := by kernel_rfl
    exact TyOk.info h) (u := by
    have h : (Try.prog.underlying 85).map kindOf = some (.func) := by kernel_rfl
    exact TyOk.under h) (e := fun h => by cases h)
theorem tk87 : TyOk Try.prog 87 ⟨1, 8, .nilFunc, .func, false⟩ := TyOk.mk (i := by
    have h : (Try.prog.info? 87).map (fun i => (i.size, i.bytes, i.zero)) = some (1, 8, some (.nilFunc)) := by kernel_rfl
    exact TyOk.info h) (u := by
    have h : (Try.prog.underlying 87).map kindOf = some (.func) := by kernel_rfl
    exact TyOk.under h) (e := fun h => by cases h)
theorem tk89 : TyOk Try.prog 89 ⟨1, 8, .nilFunc, .func, false⟩ := TyOk.mk (i := by
    have h : (Try.prog.info? 89).map (fun i => (i.size, i.bytes, i.zero)) = some (1, 8, some (.nilFunc)) := by kernel_rfl
    exact TyOk.info h) (u := by
    have h : (Try.prog.underlying 89).map kindOf = some (.func) := by kernel_rfl
    exact TyOk.under h) (e := fun h => by cases h)
theorem tk90 : TyOk Try.prog 90 ⟨1, 8, .nilFunc, .func, false⟩ := TyOk.mk (i := by
    have h : (Try.prog.info? 90).map (fun i => (i.size, i.bytes, i.zero)) = some (1, 8, some (.nilFunc)) := by kernel_rfl
    exact TyOk.info h) (u := by
    have h : (Try.prog.underlying 90).map kindOf = some (.func) := by kernel_rfl
    exact TyOk.under h) (e := fun h => by cases h)
theorem tk91 : TyOk Try.prog 91 ⟨1, 8, .nilFunc, .func, false⟩ := TyOk.mk (i := by
    have h : (Try.prog.info? 91).map (fun i => (i.size, i.bytes, i.zero)) = some (1, 8, some (.nilFunc)) := by kernel_rfl
    exact TyOk.info h) (u := by
    have h : (Try.prog.underlying 91).map kindOf = some (.func) := by kernel_rfl
    exact TyOk.under h) (e := fun h => by cases h)
theorem tk92 : TyOk Try.prog 92 ⟨1, 8, .nilFunc, .func, false⟩ := TyOk.mk (i := by
    have h : (Try.prog.info? 92).map (fun i => (i.size, i.bytes, i.zero)) = some (1, 8, some (.nilFunc)) := by kernel_rfl
    exact TyOk.info h) (u := by
    have h : (Try.prog.underlying 92).map kindOf = some (.func) := by kernel_rfl
    exact TyOk.under h) (e := fun h => by cases h)
theorem tk93 : TyOk Try.prog 93 ⟨1, 8, .map none, .map 34 4, false⟩ := TyOk.mk (i := by
    have h : (Try.prog.info? 93).map (fun i => (i.size, i.bytes, i.zero)) = some (1, 8, some (.map none)) := by kernel_rfl
    exact TyOk.info h) (u := by
    have h : (Try.prog.underlying 93).map kindOf = some (.map 34 4) := by kernel_rfl
    exact TyOk.under h) (e := fun h => by cases h)
theorem tk94 : TyOk Try.prog 94 ⟨1, 8, .nilFunc, .func, false⟩ := TyOk.mk (i := by
    have h : (Try.prog.info? 94).map (fun i => (i.size, i.bytes, i.zero)) = some (1, 8, some (.nilFunc)) := by kernel_rfl
    exact TyOk.info h) (u := by
    have h : (Try.prog.underlying 94).map kindOf = some (.func) := by kernel_rfl
    exact TyOk.under h) (e := fun h => by cases h)
theorem tk95 : TyOk Try.prog 95 ⟨1, 8, .nilFunc, .func, false⟩ := TyOk.mk (i := by
    have h : (Try.prog.info? 95).map (fun i => (i.size, i.bytes, i.zero)) = some (1, 8, some (.nilFunc)) := by kernel_rfl
    exact TyOk.info h) (u := by
    have h : (Try.prog.underlying 95).map kindOf = some (.func) := by kernel_rfl
    exact TyOk.under h) (e := fun h => by cases h)
theorem tk96 : TyOk Try.prog 96 ⟨1, 8, .nilFunc, .func, false⟩ := TyOk.mk (i := by
    have h : (Try.prog.info? 96).map (fun i => (i.size, i.bytes, i.zero)) = some (1, 8, some (.nilFunc)) := by kernel_rfl
    exact TyOk.info h) (u := by
    have h : (Try.prog.underlying 96).map kindOf = some (.func) := by kernel_rfl
    exact TyOk.under h) (e := fun h => by cases h)
theorem tk97 : TyOk Try.prog 97 ⟨1, 8, .nilFunc, .func, false⟩ := TyOk.mk (i := by
    have h : (Try.prog.info? 97).map (fun i => (i.size, i.bytes, i.zero)) = some (1, 8, some (.nilFunc)) := by kernel_rfl
    exact TyOk.info h) (u := by
    have h : (Try.prog.underlying 97).map kindOf = some (.func) := by kernel_rfl
    exact TyOk.under h) (e := fun h => by cases h)
theorem tk98 : TyOk Try.prog 98 ⟨1, 24, .slice none 0 0, .slice 99, false⟩ := TyOk.mk (i := by
    have h : (Try.prog.info? 98).map (fun i => (i.size, i.bytes, i.zero)) = some (1, 24, some (.slice none 0 0)) := by kernel_rfl
    exact TyOk.info h) (u := by
    have h : (Try.prog.underlying 98).map kindOf = some (.slice 99) := by kernel_rfl
    exact TyOk.under h) (e := fun h => by cases h)
theorem tk99 : TyOk Try.prog 99 ⟨1, 24, .slice none 0 0, .slice 28, false⟩ := TyOk.mk (i := by
    have h : (Try.prog.info? 99).map (fun i => (i.size, i.bytes, i.zero)) = some (1, 24, some (.slice none 0 0)) := by kernel_rfl
    exact TyOk.info h) (u := by
    have h : (Try.prog.underlying 99).map kindOf = some (.slice 28) := by kernel_rfl
    exact TyOk.under h) (e := fun h => by cases h)
theorem tk100 : TyOk Try.prog 100 ⟨1, 8, .nilFunc, .func, false⟩ := TyOk.mk (i := by
    have h : (Try.prog.info? 100).map (fun i => (i.size, i.bytes, i.zero)) = some (1, 8, some (.nilFunc)) := by kernel_rfl
    exact TyOk.info h) (u := by
    have h : (Try.prog.underlying 100).map kindOf = some (.func) := by kernel_rfl
    exact TyOk.under h) (e := fun h => by cases h)
theorem tk101 : TyOk Try.prog 101 ⟨1, 8, .int .u64 0, .int .u64, false⟩ := TyOk.mk (i := by
    have h : (Try.prog.info? 101).map (fun i => (i.size, i.bytes, i.zero)) = some (1, 8, some (.int .u64 0)) := by kernel_rfl
    exact TyOk.info h) (u := by
    have h : (Try.prog.underlying 101).map kindOf = some (.int .u64) := by kernel_rfl
    exact TyOk.under h) (e := fun h => by cases h)
theorem tk103 : TyOk Try.prog 103 ⟨1, 8, .nilFunc, .func, false⟩ := TyOk.mk (i := by
    have h : (Try.prog.info? 103).map (fun i => (i.size, i.bytes, i.zero)) = some (1, 8, some (.nilFunc)) := by kernel_rfl
    exact TyOk.info h) (u := by
    have h : (Try.prog.underlying 103).map kindOf = some (.func) := by kernel_rfl
    exact TyOk.under h) (e := fun h => by cases h)
theorem tk104 : TyOk Try.prog 104 ⟨1, 8, .nilFunc, .func, false⟩ := TyOk.mk (i := by
    have h : (Try.prog.info? 104).map (fun i => (i.size, i.bytes, i.zero)) = some (1, 8, some (.nilFunc)) := by kernel_rfl
    exact TyOk.info h) (u := by
    have h : (Try.prog.underlying 104).map kindOf = some (.func) := by kernel_rfl
    exact TyOk.under h) (e := fun h => by cases h)
theorem tk105 : TyOk Try.prog 105 ⟨1, 8, .nilFunc, .func, false⟩ := TyOk.mk (i := by
    have h : (Try.prog.info? 105).map (fun i => (i.size, i.bytes, i.zero)) = some (1, 8, some (.nilFunc)) := by kernel_rfl
    exact TyOk.info h) (u := by
    have h : (Try.prog.underlying 105).map kindOf = some (.func) := by kernel_rfl
    exact TyOk.under h) (e := fun h => by cases h)
theorem tk106 : TyOk Try.prog 106 ⟨1, 8, .nilFunc, .func, false⟩ := TyOk.mk (i := by
    have h : (Try.prog.info? 106).map (fun i => (i.size, i.bytes, i.zero)) = some (1, 8, some (.nilFunc)) := by kernel_rfl
    exact TyOk.info h) (u := by
    have h : (Try.prog.underlying 106).map kindOf = some (.func) := by kernel_rfl
    exact TyOk.under h) (e := fun h => by cases h)
theorem tk107 : TyOk Try.prog 107 ⟨1, 8, .nilFunc, .func, false⟩ := TyOk.mk (i := by
    have h : (Try.prog.info? 107).map (fun i => (i.size, i.bytes, i.zero)) = some (1, 8, some (.nilFunc)) := by kernel_rfl
    exact TyOk.info h) (u := by
    have h : (Try.prog.underlying 107).map kindOf = some (.func) := by kernel_rfl
    exact TyOk.under h) (e := fun h => by cases h)
theorem tk108 : TyOk Try.prog 108 ⟨5, 72, .agg #[.slice none 0 0, .int .i64 0, .int .i64 0, .slice none 0 0, .int .i64 0], .struct [(0, 25), (4, 3)], false⟩ := TyOk.mk (i := by
    have h : (Try.prog.info? 108).map (fun i => (i.size, i.bytes, i.zero)) = some (5, 72, some (.agg #[.slice none 0 0, .int .i64 0, .int .i64 0, .slice none 0 0, .int .i64 0])) := by kernel_rfl
    exact TyOk.info h) (u := by
    have h : (Try.prog.underlying 108).map kindOf = some (.struct [(0, 25), (4, 3)]) := by kernel_rfl
    exact TyOk.under h) (e := fun h => by cases h)
theorem tk109 : TyOk Try.prog 109 ⟨5, 72, .agg #[.slice none 0 0, .int .i64 0, .int .i64 0, .slice none 0 0, .int .i64 0], .struct [(0, 25), (4, 3)], false⟩ := TyOk.mk (i := by
    have h : (Try.prog.info? 109).map (fun i => (i.size, i.bytes, i.zero)) = some (5, 72, some (.agg #[.slice none 0 0, .int .i64 0, .int .i64 0, .slice none 0 0, .int .i64 0])) := by kernel_rfl
    exact TyOk.info h) (u := by
    have h : (Try.prog.underlying 109).map kindOf = some (.struct [(0, 25), (4, 3)]) := by kernel_rfl
    exact TyOk.under h) (e := fun h => by cases h)
theorem tk110 : TyOk Try.prog 110 ⟨10, 144, .agg #[.slice none 0 0, .int .i64 0, .int .i64 0, .slice none 0 0, .int .i64 0, .slice none 0 0, .int .i64 0, .int .i64 0, .slice none 0 0, .int .i64 0], .array 2 109, false⟩ := TyOk.mk (i := by
    have h : (Try.prog.info? 110).map (fun i => (i.size, i.bytes, i.zero)) = some (10, 144, some (.agg #[.slice none 0 0, .int .i64 0, .int .i64 0, .slice none 0 0, .int .i64 0, .slice none 0 0, .int .i64 0, .int .i64 0, .slice none 0 0, .int .i64 0])) := by kernel_rfl
    exact TyOk.info h) (u := by
    have h : (Try.prog.underlying 110).map kindOf = some (.array 2 109) := by kernel_rfl
    exact TyOk.under h) (e := fun h => by cases h)
theorem tk111 : TyOk Try.prog 111 ⟨1, 8, .nilFunc, .func, false⟩ := TyOk.mk (i := by
    have h : (Try.prog.info? 111).map (fun i => (i.size, i.bytes, i.zero)) = some (1, 8, some (.nilFunc)) := by kernel_rfl
    exact TyOk.info h) (u := by
    have h : (Try.prog.underlying 111).map kindOf = some (.func) := by kernel_rfl
    exact TyOk.under h) (e := fun h => by cases h)
theorem tk112 : TyOk Try.prog 112 ⟨2, 16, .agg #[.nilFunc, .nilFunc], .array 2 111, false⟩ := TyOk.mk (i := by
    have h : (Try.prog.info? 112).map (fun i => (i.size, i.bytes, i.zero)) = some (2, 16, some (.agg #[.nilFunc, .nilFunc])) := by kernel_rfl
    exact TyOk.info h) (u := by
    have h : (Try.prog.underlying 112).map kindOf = some (.array 2 111) := by kernel_rfl
    exact TyOk.under h) (e := fun h => by cases h)
theorem tk113 : TyOk Try.prog 113 ⟨1, 8, .nilFunc, .func, false⟩ := TyOk.mk (i := by
    have h : (Try.prog.info? 113).map (fun i => (i.size, i.bytes, i.zero)) = some (1, 8, some (.nilFunc)) := by kernel_rfl
    exact TyOk.info h) (u := by
    have h : (Try.prog.underlying 113).map kindOf = some (.func) := by kernel_rfl
    exact TyOk.under h) (e := fun h => by cases h)
theorem tk114 : TyOk Try.prog 114 ⟨1, 8, .nilFunc, .func, false⟩ := TyOk.mk (i := by
    have h : (Try.prog.info? 114).map (fun i => (i.size, i.bytes, i.zero)) = some (1, 8, some (.nilFunc)) := by kernel_rfl
    exact TyOk.info h) (u := by
    have h : (Try.prog.underlying 114).map kindOf = some (.func) := by kernel_rfl
    exact TyOk.under h) (e := fun h => by cases h)
theorem tk115 : TyOk Try.prog 115 ⟨1, 8, .nilFunc, .func, false⟩ := TyOk.mk (i := by
    have h : (Try.prog.info? 115).map (fun i => (i.size, i.bytes, i.zero)) = some (1, 8, some (.nilFunc)) := by kernel_rfl
    exact TyOk.info h) (u := by
    have h : (Try.prog.underlying 115).map kindOf = some (.func) := by kernel_rfl
    exact TyOk.under h) (e := fun h => by cases h)
theorem tk116 : TyOk Try.prog 116 ⟨1, 4, .int .u32 0, .int .u32, false⟩ := TyOk.mk (i := by
    have h : (Try.prog.info? 116).map (fun i => (i.size, i.bytes, i.zero)) = some (1, 4, some (.int .u32 0)) := by kernel_rfl
    exact TyOk.info h) (u := by
    have h : (Try.prog.underlying 116).map kindOf = some (.int .u32) := by kernel_rfl
    exact TyOk.under h) (e := fun h => by cases h)
theorem tk118 : TyOk Try.prog 118 ⟨1, 8, .nilFunc, .func, false⟩ := TyOk.mk (i := by
    have h : (Try.prog.info? 118).map (fun i => (i.size, i.bytes, i.zero)) = some (1, 8, some (.nilFunc)) := by kernel_rfl
    exact TyOk.info h) (u := by
    have h : (Try.prog.underlying 118).map kindOf = some (.func) := by kernel_rfl
    exact TyOk.under h) (e := fun h => by cases h)
theorem tk119 : TyOk Try.prog 119 ⟨1, 8, .int .u64 0, .int .u64, false⟩ := TyOk.mk (i := by
    have h : (Try.prog.info? 119).map (fun i => (i.size, i.bytes, i.zero)) = some (1, 8, some (.int .u64 0)) := by kernel_rfl
    exact TyOk.info h) (u := by
    have h : (Try.prog.underlying 119).map kindOf = some (.int .u64) := by kernel_rfl
    exact TyOk.under h) (e := fun h => by cases h)
theorem tk121 : TyOk Try.prog 121 ⟨1, 8, .nilFunc, .func, false⟩ := TyOk.mk (i := by
    have h : (Try.prog.info? 121).map (fun i => (i.size, i.bytes, i.zero)) = some (1, 8, some (.nilFunc)) := by kernel_rfl
    exact TyOk.info h) (u := by
    have h : (Try.prog.underlying 121).map kindOf = some (.func) := by kernel_rfl
    exact TyOk.under h) (e := fun h => by cases h)
theorem tk122 : TyOk Try.prog 122 ⟨1, 8, .nilFunc, .func, false⟩ := TyOk.mk (i := by
    have h : (Try.prog.info? 122).map (fun i => (i.size, i.bytes, i.zero)) = some (1, 8, some (.nilFunc)) := by kernel_rfl
    exact TyOk.info h) (u := by
    have h : (Try.prog.underlying 122).map kindOf = some (.func) := by kernel_rfl
    exact TyOk.under h) (e := fun h => by cases h)
theorem tk123 : TyOk Try.prog 123 ⟨1, 8, .nilFunc, .func, false⟩ := TyOk.mk (i := by
    have h : (Try.prog.info? 123).map (fun i => (i.size, i.bytes, i.zero)) = some (1, 8, some (.nilFunc)) := by kernel_rfl
    exact TyOk.info h) (u := by
    have h : (Try.prog.underlying 123).map kindOf = some (.func) := by kernel_rfl
    exact TyOk.under h) (e := fun h => by cases h)
theorem tk124 : TyOk Try.prog 124 ⟨1, 8, .nilFunc, .func, false⟩ := TyOk.mk (i := by
    have h : (Try.prog.info? 124).map (fun i => (i.size, i.bytes, i.zero)) = some (1, 8, some (.nilFunc)) := by kernel_rfl
    exact TyOk.info h) (u := by
    have h : (Try.prog.underlying 124).map kindOf = some (.func) := by kernel_rfl
    exact TyOk.under h) (e := fun h => by cases h)
theorem tk125 : TyOk Try.prog 125 ⟨1, 8, .int .i64 0, .int .i64, false⟩ := TyOk.mk (i := by
    have h : (Try.prog.info? 125).map (fun i => (i.size, i.bytes, i.zero)) = some (1, 8, some (.int .i64 0)) := by kernel_rfl
    exact TyOk.info h) (u := by
    have h : (Try.prog.underlying 125).map kindOf = some (.int .i64) := by kernel_rfl
    exact TyOk.under h) (e := fun h => by cases h)
theorem tk127 : TyOk Try.prog 127 ⟨1, 8, .nilFunc, .func, false⟩ := TyOk.mk (i := by
    have h : (Try.prog.info? 127).map (fun i => (i.size, i.bytes, i.zero)) = some (1, 8, some (.nilFunc)) := by kernel_rfl
    exact TyOk.info h) (u := by
    have h : (Try.prog.underlying 127).map kindOf = some (.func) := by kernel_rfl
    exact TyOk.under h) (e := fun h => by cases h)
theorem tk128 : TyOk Try.prog 128 ⟨1, 8, .nilFunc, .func, false⟩ := TyOk.mk (i := by
    have h : (Try.prog.info? 128).map (fun i => (i.size, i.bytes, i.zero)) = some (1, 8, some (.nilFunc)) := by kernel_rfl
    exact TyOk.info h) (u := by
    have h : (Try.prog.underlying 128).map kindOf = some (.func) := by kernel_rfl
    exact TyOk.under h) (e := fun h => by cases h)
theorem tk129 : TyOk Try.prog 129 ⟨1, 8, .nilFunc, .func, false⟩ := TyOk.mk (i := by
    have h : (Try.prog.info? 129).map (fun i => (i.size, i.bytes, i.zero)) = some (1, 8, some (.nilFunc)) := by kernel_rfl
    exact TyOk.info h) (u := by
    have h : (Try.prog.underlying 129).map kindOf = some (.func) := by kernel_rfl
    exact TyOk.under h) (e := fun h => by cases h)
theorem tk131 : TyOk Try.prog 131 ⟨1, 8, .nilFunc, .func, false⟩ := TyOk.mk (i := by
    have h : (Try.prog.info? 131).map (fun i => (i.size, i.bytes, i.zero)) = some (1, 8, some (.nilFunc)) := by kernel_rfl
    exact TyOk.info h) (u := by
    have h : (Try.prog.underlying 131).map kindOf = some (.func) := by kernel_rfl
    exact TyOk.under h) (e := fun h => by cases h)
theorem tk132 : TyOk Try.prog 132 ⟨1, 8, .nilFunc, .func, false⟩ := TyOk.mk (i := by
    have h : (Try.prog.info? 132).map (fun i => (i.size, i.bytes, i.zero)) = some (1, 8, some (.nilFunc)) := by kernel_rfl
    exact TyOk.info h) (u := by
    have h : (Try.prog.underlying 132).map kindOf = some (.func) := by kernel_rfl
    exact TyOk.under h) (e := fun h => by cases h)
theorem tk133 : TyOk Try.prog 133 ⟨1, 8, .nilFunc, .func, false⟩ := TyOk.mk (i := by
    have h : (Try.prog.info? 133).map (fun i => (i.size, i.bytes, i.zero)) = some (1, 8, some (.nilFunc)) := by kernel_rfl
    exact TyOk.info h) (u := by
    have h : (Try.prog.underlying 133).map kindOf = some (.func) := by kernel_rfl
    exact TyOk.under h) (e := fun h => by cases h)
theorem tk134 : TyOk Try.prog 134 ⟨1, 8, .int .u64 0, .int .u64, false⟩ := TyOk.mk (i := by
    have h : (Try.prog.info? 134).map (fun i => (i.size, i.bytes, i.zero)) = some (1, 8, some (.int .u64 0)) := by kernel_rfl
    exact TyOk.info h) (u := by
    have h : (Try.prog.underlying 134).map kindOf = some (.int .u64) := by kernel_rfl
    exact TyOk.under h) (e := fun h => by cases h)
theorem tk135 : TyOk Try.prog 135 ⟨1, 8, .nilFunc, .func, false⟩ := TyOk.mk (i := by
    have h : (Try.prog.info? 135).map (fun i => (i.size, i.bytes, i.zero)) = some (1, 8, some (.nilFunc)) := by kernel_rfl
    exact TyOk.info h) (u := by
    have h : (Try.prog.underlying 135).map kindOf = some (.func) := by kernel_rfl
    exact TyOk.under h) (e := fun h => by cases h)
theorem tk136 : TyOk Try.prog 136 ⟨1, 8, .nilFunc, .func, false⟩ := TyOk.mk (i := by
    have h : (Try.prog.info? 136).map (fun i => (i.size, i.bytes, i.zero)) = some (1, 8, some (.nilFunc)) := by kernel_rfl
    exact TyOk.info h) (u := by
    have h : (Try.prog.underlying 136).map kindOf = some (.func) := by kernel_rfl
    exact TyOk.under h) (e := fun h => by cases h)
theorem tk137 : TyOk Try.prog 137 ⟨1, 8, .nilFunc, .func, false⟩ := TyOk.mk (i := by
    have h : (Try.prog.info? 137).map (fun i => (i.size, i.bytes, i.zero)) = some (1, 8, some (.nilFunc)) := by kernel_rfl
    exact TyOk.info h) (u := by
    have h : (Try.prog.underlying 137).map kindOf = some (.func) := by kernel_rfl
    exact TyOk.under h) (e := fun h => by cases h)
theorem tk138 : TyOk Try.prog 138 ⟨1, 8, .pointer none, .pointer 3, false⟩ := TyOk.mk (i := by
    have h : (Try.prog.info? 138).map (fun i => (i.size, i.bytes, i.zero)) = some (1, 8, some (.pointer none)) := by kernel_rfl
    exact TyOk.info h) (u := by
    have h : (Try.prog.underlying 138).map kindOf = some (.pointer 3) := by kernel_rfl
    exact TyOk.under h) (e := fun h => by cases h)
theorem tk139 : TyOk Try.prog 139 ⟨1, 8, .nilFunc, .func, false⟩ := TyOk.mk (i := by
    have h : (Try.prog.info? 139).map (fun i => (i.size, i.bytes, i.zero)) = some (1, 8, some (.nilFunc)) := by kernel_rfl
    exact TyOk.info h) (u := by
    have h : (Try.prog.underlying 139).map kindOf = some (.func) := by kernel_rfl
    exact TyOk.under h) (e := fun h => by cases h)
theorem tk140 : TyOk Try.prog 140 ⟨1, 8, .pointer none, .pointer 134, false⟩ := TyOk.mk (i := by
    have h : (Try.prog.info? 140).map (fun i => (i.size, i.bytes, i.zero)) = some (1, 8, some (.pointer none)) := by kernel_rfl
    exact TyOk.info h) (u := by
    have h : (Try.prog.underlying 140).map kindOf = some (.pointer 134) := by kernel_rfl
    exact TyOk.under h) (e := fun h => by cases h)
theorem tk142 : TyOk Try.prog 142 ⟨1, 8, .nilFunc, .func, false⟩ := TyOk.mk (i := by
    have h : (Try.prog.info? 142).map (fun i => (i.size, i.bytes, i.zero)) = some (1, 8, some (.nilFunc)) := by kernel_rfl
    exact TyOk.info h) (u := by
    have h : (Try.prog.underlying 142).map kindOf = some (.func) := by kernel_rfl
    exact TyOk.under h) (e := fun h => by cases h)
theorem tk143 : TyOk Try.prog 143 ⟨1, 8, .nilFunc, .func, false⟩ := TyOk.mk (i := by
    have h : (Try.prog.info? 143).map (fun i => (i.size, i.bytes, i.zero)) = some (1, 8, some (.nilFunc)) := by kernel_rfl
    exact TyOk.info h) (u := by
    have h : (Try.prog.underlying 143).map kindOf = some (.func) := by kernel_rfl
    exact TyOk.under h) (e := fun h => by cases h)
theorem tk144 : TyOk Try.prog 144 ⟨4, 40, .agg #[.pointer none, .pointer none, .pointer none, .string ⟨#[]⟩], .struct [(0, 17), (1, 17), (2, 17), (3, 9)], false⟩ := TyOk.mk (i := by
    have h : (Try.prog.info? 144).map (fun i => (i.size, i.bytes, i.zero)) = some (4, 40, some (.agg #[.pointer none, .pointer none, .pointer none, .string ⟨#[]⟩])) := by kernel_rfl
    exact TyOk.info h) (u := by
    have h : (Try.prog.underlying 144).map kindOf = some (.struct [(0, 17), (1, 17), (2, 17), (3, 9)]) := by kernel_rfl
    exact TyOk.under h) (e := fun h => by cases h)
theorem tk145 : TyOk Try.prog 145 ⟨4, 40, .agg #[.pointer none, .pointer none, .pointer none, .string ⟨#[]⟩], .struct [(0, 17), (1, 17), (2, 17), (3, 9)], false⟩ := TyOk.mk (i := by
    have h : (Try.prog.info? 145).map (fun i => (i.size, i.bytes, i.zero)) = some (4, 40, some (.agg #[.pointer none, .pointer none, .pointer none, .string ⟨#[]⟩])) := by kernel_rfl
    exact TyOk.info h) (u := by
    have h : (Try.prog.underlying 145).map kindOf = some (.struct [(0, 17), (1, 17), (2, 17), (3, 9)]) := by kernel_rfl
    exact TyOk.under h) (e := fun h => by cases h)
theorem tk146 : TyOk Try.prog 146 ⟨0, 0, .agg #[], .array 0 16, true⟩ := TyOk.mk (i := by
    have h : (Try.prog.info? 146).map (fun i => (i.size, i.bytes, i.zero)) = some (0, 0, some (.agg #[])) := by kernel_rfl
    exact TyOk.info h) (u := by
    have h : (Try.prog.underlying 146).map kindOf = some (.array 0 16) := by kernel_rfl
    exact TyOk.under h) (e := fun h => ⟨by kernel_rfl, by kernel_rfl⟩)
theorem tk147 : TyOk Try.prog 147 ⟨0, 0, .agg #[], .struct [(0, 146)], false⟩ := TyOk.mk (i := by
    have h : (Try.prog.info? 147).map (fun i => (i.size, i.bytes, i.zero)) = some (0, 0, some (.agg #[])) := by kernel_rfl
    exact TyOk.info h) (u := by
    have h : (Try.prog.underlying 147).map kindOf = some (.struct [(0, 146)]) := by kernel_rfl
    exact TyOk.under h) (e := fun h => by cases h)
theorem tk148 : TyOk Try.prog 148 ⟨0, 0, .agg #[], .struct [(0, 146)], false⟩ := TyOk.mk (i := by
    have h : (Try.prog.info? 148).map (fun i => (i.size, i.bytes, i.zero)) = some (0, 0, some (.agg #[])) := by kernel_rfl
    exact TyOk.info h) (u := by
    have h : (Try.prog.underlying 148).map kindOf = some (.struct [(0, 146)]) := by kernel_rfl
    exact TyOk.under h) (e := fun h => by cases h)
theorem tk149 : TyOk Try.prog 149 ⟨1, 8, .nilFunc, .func, false⟩ := TyOk.mk (i := by
    have h : (Try.prog.info? 149).map (fun i => (i.size, i.bytes, i.zero)) = some (1, 8, some (.nilFunc)) := by kernel_rfl
    exact TyOk.info h) (u := by
    have h : (Try.prog.underlying 149).map kindOf = some (.func) := by kernel_rfl
    exact TyOk.under h) (e := fun h => by cases h)
theorem tk150 : TyOk Try.prog 150 ⟨1, 1, .int .u8 0, .int .u8, false⟩ := TyOk.mk (i := by
    have h : (Try.prog.info? 150).map (fun i => (i.size, i.bytes, i.zero)) = some (1, 1, some (.int .u8 0)) := by kernel_rfl
    exact TyOk.info h) (u := by
    have h : (Try.prog.underlying 150).map kindOf = some (.int .u8) := by kernel_rfl
    exact TyOk.under h) (e := fun h => by cases h)
theorem tk151 : TyOk Try.prog 151 ⟨1, 1, .int .u8 0, .int .u8, false⟩ := TyOk.mk (i := by
    have h : (Try.prog.info? 151).map (fun i => (i.size, i.bytes, i.zero)) = some (1, 1, some (.int .u8 0)) := by kernel_rfl
    exact TyOk.info h) (u := by
    have h : (Try.prog.underlying 151).map kindOf = some (.int .u8) := by kernel_rfl
    exact TyOk.under h) (e := fun h => by cases h)
theorem tk152 : TyOk Try.prog 152 ⟨1, 8, .nilFunc, .func, false⟩ := TyOk.mk (i := by
    have h : (Try.prog.info? 152).map (fun i => (i.size, i.bytes, i.zero)) = some (1, 8, some (.nilFunc)) := by kernel_rfl
    exact TyOk.info h) (u := by
    have h : (Try.prog.underlying 152).map kindOf = some (.func) := by kernel_rfl
    exact TyOk.under h) (e := fun h => by cases h)
theorem tk153 : TyOk Try.prog 153 ⟨1, 8, .pointer none, .pointer 5, false⟩ := TyOk.mk (i := by
    have h : (Try.prog.info? 153).map (fun i => (i.size, i.bytes, i.zero)) = some (1, 8, some (.pointer none)) := by kernel_rfl
    exact TyOk.info h) (u := by
    have h : (Try.prog.underlying 153).map kindOf = some (.pointer 5) := by kernel_rfl
    exact TyOk.under h) (e := fun h => by cases h)
theorem tk154 : TyOk Try.prog 154 ⟨1, 4, .int .i32 0, .int .i32, false⟩ := TyOk.mk (i := by
    have h : (Try.prog.info? 154).map (fun i => (i.size, i.bytes, i.zero)) = some (1, 4, some (.int .i32 0)) := by kernel_rfl
    exact TyOk.info h) (u := by
    have h : (Try.prog.underlying 154).map kindOf = some (.int .i32) := by kernel_rfl
    exact TyOk.under h) (e := fun h => by cases h)
theorem tk155 : TyOk Try.prog 155 ⟨1, 4, .int .i32 0, .int .i32, false⟩ := TyOk.mk (i := by
    have h : (Try.prog.info? 155).map (fun i => (i.size, i.bytes, i.zero)) = some (1, 4, some (.int .i32 0)) := by kernel_rfl
    exact TyOk.info h) (u := by
    have h : (Try.prog.underlying 155).map kindOf = some (.int .i32) := by kernel_rfl
    exact TyOk.under h) (e := fun h => by cases h)
theorem tk156 : TyOk Try.prog 156 ⟨11, 48, .agg #[.int .u64 0, .int .u64 0, .int .u32 0, .int .u8 0, .int .u8 0, .int .u8 0, .int .u8 0, .nilFunc, .pointer none, .int .i32 0, .int .i32 0], .struct [(0, 12), (1, 12), (2, 116), (3, 150), (4, 5), (5, 5), (6, 151), (7, 152), (8, 153), (9, 154), (10, 155)], false⟩ := TyOk.mk (i := by
    have h : (Try.prog.info? 156).map (fun i => (i.size, i.bytes, i.zero)) = some (11, 48, some (.agg #[.int .u64 0, .int .u64 0, .int .u32 0, .int .u8 0, .int .u8 0, .int .u8 0, .int .u8 0, .nilFunc, .pointer none, .int .i32 0, .int .i32 0])) := by kernel_rfl
    exact TyOk.info h) (u := by
    have h : (Try.prog.underlying 156).map kindOf = some (.struct [(0, 12), (1, 12), (2, 116), (3, 150), (4, 5), (5, 5), (6, 151), (7, 152), (8, 153), (9, 154), (10, 155)]) := by kernel_rfl
    exact TyOk.under h) (e := fun h => by cases h)
theorem tk157 : TyOk Try.prog 157 ⟨11, 48, .agg #[.int .u64 0, .int .u64 0, .int .u32 0, .int .u8 0, .int .u8 0, .int .u8 0, .int .u8 0, .nilFunc, .pointer none, .int .i32 0, .int .i32 0], .struct [(0, 12), (1, 12), (2, 116), (3, 150), (4, 5), (5, 5), (6, 151), (7, 152), (8, 153), (9, 154), (10, 155)], false⟩ := TyOk.mk (i := by
    have h : (Try.prog.info? 157).map (fun i => (i.size, i.bytes, i.zero)) = some (11, 48, some (.agg #[.int .u64 0, .int .u64 0, .int .u32 0, .int .u8 0, .int .u8 0, .int .u8 0, .int .u8 0, .nilFunc, .pointer none, .int .i32 0, .int .i32 0])) := by kernel_rfl
    exact TyOk.info h) (u := by
    have h : (Try.prog.underlying 157).map kindOf = some (.struct [(0, 12), (1, 12), (2, 116), (3, 150), (4, 5), (5, 5), (6, 151), (7, 152), (8, 153), (9, 154), (10, 155)]) := by kernel_rfl
    exact TyOk.under h) (e := fun h => by cases h)
attribute [go_sem] T1 T2 T3 T4 T5 T6 T7 T8 T9 T10 T11 T12 T13 T14 T15 T16 T17 T18 T19 T20 T21 T22 T23 T24 T25 T26 T27 T28 T29 T31 T32 T33 T34 T35 T36 T37 T38 T40 T42 T43 T44 T45 T46 T48 T50 T51 T52 T53 T54 T55 T56 T58 T60 T61 T62 T63 T64 T65 T66 T67 T68 T69 T70 T71 T72 T73 T74 T75 T76 T77 T78 T80 T81 T82 T83 T84 T85 T87 T89 T90 T91 T92 T93 T94 T95 T96 T97 T98 T99 T100 T101 T103 T104 T105 T106 T107 T108 T109 T110 T111 T112 T113 T114 T115 T116 T118 T119 T121 T122 T123 T124 T125 T127 T128 T129 T131 T132 T133 T134 T135 T136 T137 T138 T139 T140 T142 T143 T144 T145 T146 T147 T148 T149 T150 T151 T152 T153 T154 T155 T156 T157
theorem tok : TOk Try.prog TT0 := by
  intro ty ti h
  unfold TT0 at h
  split at h
  · cases h; exact tk1
  · cases h; exact tk2
  · cases h; exact tk3
  · cases h; exact tk4
  · cases h; exact tk5
  · cases h; exact tk6
  · cases h; exact tk7
  · cases h; exact tk8
  · cases h; exact tk9
  · cases h; exact tk10
  · cases h; exact tk11
  · cases h; exact tk12
  · cases h; exact tk13
  · cases h; exact tk14
  · cases h; exact tk15
  · cases h; exact tk16
  · cases h; exact tk17
  · cases h; exact tk18
  · cases h; exact tk19
  · cases h; exact tk20
  · cases h; exact tk21
  · cases h; exact tk22
  · cases h; exact tk23
  · cases h; exact tk24
  · cases h; exact tk25
  · cases h; exact tk26
  · cases h; exact tk27
  · cases h; exact tk28
  · cases h; exact tk29
  · cases h; exact tk31
  · cases h; exact tk32
  · cases h; exact tk33
  · cases h; exact tk34
  · cases h; exact tk35
  · cases h; exact tk36
  · cases h; exact tk37
  · cases h; exact tk38
  · cases h; exact tk40
  · cases h; exact tk42
  · cases h; exact tk43
  · cases h; exact tk44
  · cases h; exact tk45
  · cases h; exact tk46
  · cases h; exact tk48
  · cases h; exact tk50
  · cases h; exact tk51
  · cases h; exact tk52
  · cases h; exact tk53
  · cases h; exact tk54
  · cases h; exact tk55
  · cases h; exact tk56
  · cases h; exact tk58
  · cases h; exact tk60
  · cases h; exact tk61
  · cases h; exact tk62
  · cases h; exact tk63
  · cases h; exact tk64
  · cases h; exact tk65
  · cases h; exact tk66
  · cases h; exact tk67
  · cases h; exact tk68
  · cases h; exact tk69
  · cases h; exact tk70
  · cases h; exact tk71
  · cases h; exact tk72
  · cases h; exact tk73
  · cases h; exact tk74
  · cases h; exact tk75
  · cases h; exact tk76
  · cases h; exact tk77
  · cases h; exact tk78
  · cases h; exact tk80
  · cases h; exact tk81
  · cases h; exact tk82
  · cases h; exact tk83
  · cases h; exact tk84
  · cases h; exact tk85
  · cases h; exact tk87
  · cases h; exact tk89
  · cases h; exact tk90
  · cases h; exact tk91
  · cases h; exact tk92
  · cases h; exact tk93
  · cases h; exact tk94
  · cases h; exact tk95
  · cases h; exact tk96
  · cases h; exact tk97
  · cases h; exact tk98
  · cases h; exact tk99
  · cases h; exact tk100
  · cases h; exact tk101
  · cases h; exact tk103
  · cases h; exact tk104
  · cases h; exact tk105
  · cases h; exact tk106
  · cases h; exact tk107
  · cases h; exact tk108
  · cases h; exact tk109
  · cases h; exact tk110
  · cases h; exact tk111
  · cases h; exact tk112
  · cases h; exact tk113
  · cases h; exact tk114
  · cases h; exact tk115
  · cases h; exact tk116
  · cases h; exact tk118
  · cases h; exact tk119
  · cases h; exact tk121
  · cases h; exact tk122
  · cases h; exact tk123
  · cases h; exact tk124
  · cases h; exact tk125
  · cases h; exact tk127
  · cases h; exact tk128
  · cases h; exact tk129
  · cases h; exact tk131
  · cases h; exact tk132
  · cases h; exact tk133
  · cases h; exact tk134
  · cases h; exact tk135
  · cases h; exact tk136
  · cases h; exact tk137
  · cases h; exact tk138
  · cases h; exact tk139
  · cases h; exact tk140
  · cases h; exact tk142
  · cases h; exact tk143
  · cases h; exact tk144
  · cases h; exact tk145
  · cases h; exact tk146
  · cases h; exact tk147
  · cases h; exact tk148
  · cases h; exact tk149
  · cases h; exact tk150
  · cases h; exact tk151
  · cases h; exact tk152
  · cases h; exact tk153
  · cases h; exact tk154
  · cases h; exact tk155
  · cases h; exact tk156
  · cases h; exact tk157
  · cases h
end Go.Proofs.Ytebbiciepbbhkaa
/- Chapter 12, part A: data; copies. -/
namespace Go.Proofs.Ytebbiciepbbhkaa
open Go Go.NS

def sA (s : ByteArray) : AV := .raw (.string s)
def iA (n : Int) : AV := aint .i64 n
def strsA (l : List ByteArray) : AV := .imm 1 (l.map sA)
def intsA (l : List Int) : AV := .imm 1 (l.map iA)

structure Fa where
  acts : List ByteArray
  inn : Int
  out : Int
  sts : List (List Int)

def Fa.cells (f : Fa) : List AV := [strsA f.acts, iA f.inn, iA f.out, .imm 1 (f.sts.map intsA)]
def Fa.av (f : Fa) : AV := .agg f.cells

structure Fa.Small (f : Fa) : Prop where
  a : f.acts.length * 16 ≤ 140737488351232
  s : f.sts.length * 24 ≤ 140737488351232
  r : ∀ l ∈ f.sts, l.length * 8 ≤ 140737488351232

theorem hmix : Try.prog.follows .mixedOrders = true := by kernel_rfl

theorem wrap_succ (i n : Nat) (h : i < n) (hn : n ≤ 140737488351232) : IntKind.i64.wrap ((i : Int) + 1) = ((i + 1 : Nat) : Int) := by
  rw [IntWalk.i64_in _ (by omega)]; omega

theorem Copy_ok (f : Fa) (hf : f.Small) : Fp Try.prog 14 [f.av] f.av := by
  have hf1 := hf.a
  have hf2 := hf.s
  refine Fp.of_vc tok Try.func14 rfl (by decide) ?_
  simp -implicitDefEqProofs only [go_sem, Try.ntmps14, Fa.av, Fa.cells]
  refine newK_intro fun n1 hn1 => ?_
  try simp -implicitDefEqProofs only [hset, List.map_append, List.map_cons, List.map_nil, List.cons_append, List.nil_append, List.mem_cons, List.mem_append, List.not_mem_nil, or_false, not_or] at hn1
  simp -implicitDefEqProofs only [go_sem, T25]
  refine newK_intro fun n2 hn2 => ?_
  try simp -implicitDefEqProofs only [hset, List.map_append, List.map_cons, List.map_nil, List.cons_append, List.nil_append, List.mem_cons, List.mem_append, List.not_mem_nil, or_false, not_or] at hn2
  simp -implicitDefEqProofs only [go_sem]
  refine AW.draw tok hmix ⟨[], [], [], false⟩ (by kernel_rfl) (Has.of_sub (List.nil_sublist _)) ?_
  simp -implicitDefEqProofs only [go_sem, T25, T22, T3]
  refine opK_appendImm tok rfl rfl T22 rfl T9 (by decide) rfl (by decide) (by simp only [List.length_map, Nat.div_one]; omega) ?_
  simp -implicitDefEqProofs only [go_sem, T25, T22, T3, hn2]
  refine newK_intro fun n3 hn3 => ?_
  try simp -implicitDefEqProofs only [hset, List.map_append, List.map_cons, List.map_nil, List.cons_append, List.nil_append, List.mem_cons, List.mem_append, List.not_mem_nil, or_false, not_or] at hn3
  simp -implicitDefEqProofs only [go_sem, T25, T22, T3, T23, hn2, hn3]
  refine AW.adoptIn (sz := 1) (u := 25) (xs := [strsA f.acts, iA f.inn, iA f.out, .raw (.slice none 0 0)]) n3 3 44 (by decide) (by simp -implicitDefEqProofs only [go_sem, hn3, strsA, iA]) rfl fun n4 hn4 => ?_
  try simp -implicitDefEqProofs only [hset, List.map_append, List.map_cons, List.map_nil, List.cons_append, List.nil_append, List.mem_cons, List.mem_append, List.not_mem_nil, or_false, not_or] at hn4
  simp -implicitDefEqProofs only [go_sem, hn3]
  refine AW.loopG tok (fun p : Nat × Nat => slots 30 [(2, .ptr n2 0), (3, .ptr n3 0), (15, .imm 1 (f.sts.map intsA)), (16, iA f.sts.length), (17, iA p.1)])
    (fun p => [(n2, .cells 25 [.raw (.slice none 0 0), iA 0, iA 0, .raw (.slice none 0 0)]), (n3, .cells 25 [strsA f.acts, iA f.inn, iA f.out, .own n4 p.2]), (n4, .row 44 1 p.2 ((f.sts.take p.1).map intsA))])
    (fun p => p.1 ≤ f.sts.length) (fun p => f.sts.length - p.1) (0, 0) (by omega) (by simp -implicitDefEqProofs only [go_sem, iA]) (List.sublist_cons_self _ _) ?_
  rintro ⟨i, ver⟩ hi
  simp -implicitDefEqProofs only [go_sem, iA]
  by_cases hlt : i < f.sts.length
  · have e1 : decide ((i : Int) < (f.sts.length : Int)) = true := by simp; omega
    have e2 : (f.sts.map intsA)[i]? = some (intsA f.sts[i]) := by simp [hlt]
    have e3 := hf.r f.sts[i] (List.getElem_mem hlt)
    simp -implicitDefEqProofs only [go_sem, e1, hlt, e2]
    refine AW.draw tok hmix ⟨[26], [], [], false⟩ (by kernel_rfl) (Has.of_sub (List.nil_sublist _)) ?_
    simp -implicitDefEqProofs only [go_sem, hn3]
    refine opK_appendImm tok rfl rfl T44 rfl T3 (by decide) rfl (by decide) (by simp only [List.length_map, Nat.div_one]; omega) ?_
    simp -implicitDefEqProofs only [go_sem]
    refine opK_lit tok T23 rfl T44 (by decide) (by simp -implicitDefEqProofs only [go_sem, zrep, List.flatten_cons, List.flatten_nil]; rfl) ?_
    simp -implicitDefEqProofs only [go_sem]
    refine opK_append tok rfl rfl (by simp -implicitDefEqProofs only [go_sem, hn4]; rfl) rfl T23 rfl T44 rfl (by decide) (by simp only [List.length_map, List.length_take, Nat.div_one, List.length_cons, List.length_nil]; omega) fun ver' => ?_
    simp -implicitDefEqProofs only [go_sem, hn3, hn4]
    have hw := wrap_succ i f.sts.length hlt (by omega)
    simp -implicitDefEqProofs only [go_sem, hw]
    refine ⟨(i + 1, ver'), by omega, by omega, by simp -implicitDefEqProofs only [go_sem, iA], ?_⟩
    have e4 : List.map intsA (List.take i f.sts) ++ [AV.imm 1 (List.map iA f.sts[i])] = List.map intsA (List.take (i + 1) f.sts) := by
      rw [List.take_add_one, List.map_append, List.getElem?_eq_getElem hlt]; rfl
    simp -implicitDefEqProofs only [go_sem, e4, iA, hn4]
    exact List.Sublist.refl _
  · have e1 : decide ((i : Int) < (f.sts.length : Int)) = false := by simp; omega
    have e2 : f.sts.take i = f.sts := List.take_of_length_le (by omega)
    simp -implicitDefEqProofs only [go_sem, e1, hn3, e2]
    refine fnPost_freeze (xs := f.sts.map intsA) n4 (by simp -implicitDefEqProofs only [go_sem, hn4]; rfl) ?_
    simp -implicitDefEqProofs only [go_sem, hn4]
    refine fnPost_ret tok ?_
    simp -implicitDefEqProofs only [go_sem, Try.results14, strsA]
end Go.Proofs.Ytebbiciepbbhkaa
/- Chapter 12, part B: equal lists; equal faces. -/
namespace Go.Proofs.Ytebbiciepbbhkaa
open Go Go.NS

/-- SameStrings: two lists are equal. -/
theorem SameStrings_ok (a b : List ByteArray) (ha : a.length * 16 ≤ 140737488351232) (hb : b.length * 16 ≤ 140737488351232) : Fp Try.prog 48 [strsA a, strsA b] (abool (decide (a = b))) := by
  refine Fp.of_vc tok Try.func48 rfl (by decide) ?_
  simp -implicitDefEqProofs only [go_sem, Try.ntmps48, strsA]
  by_cases hl : a.length = b.length
  · have hl' : (a.length : Int) = (b.length : Int) := by omega
    simp -implicitDefEqProofs only [go_sem, hl', decide_true]
    refine AW.loopG tok (fun i : Nat => slots 26 [(0, strsA a), (1, strsA b), (4, abool false), (12, strsA a), (13, iA b.length), (14, iA i)]) (fun _ => [])
      (fun i => i ≤ a.length ∧ a.take i = b.take i) (fun i => a.length - i) 0 ⟨by omega, rfl⟩ (by simp -implicitDefEqProofs only [go_sem, strsA, iA]) (List.Sublist.refl _) ?_
    rintro i ⟨hi, heq⟩
    simp -implicitDefEqProofs only [go_sem, strsA, iA]
    by_cases hlt : i < a.length
    · have hlt2 : i < b.length := by omega
      have e1 : decide ((i : Int) < (b.length : Int)) = true := by simp; omega
      have e2 : (a.map sA)[i]? = some (sA a[i]) := by simp [hlt]
      have e3 : (b.map sA)[i]? = some (sA b[i]) := by simp [hlt2]
      simp -implicitDefEqProofs only [go_sem, e1, hlt, hlt2, e2, e3, sA]
      by_cases hx : a[i] = b[i]
      · have hw := wrap_succ i a.length hlt (by omega)
        simp -implicitDefEqProofs only [go_sem, hx, decide_true, hw]
        refine ⟨i + 1, ⟨by omega, ?_⟩, by omega, by simp -implicitDefEqProofs only [go_sem, strsA, iA], List.Sublist.refl _⟩
        rw [List.take_add_one, List.take_add_one, heq, List.getElem?_eq_getElem hlt, List.getElem?_eq_getElem hlt2, hx]
      · simp -implicitDefEqProofs only [go_sem, hx, decide_false]
        have hne : a ≠ b := fun e => hx (by subst e; rfl)
        refine fnPost_ret tok ?_
        simp -implicitDefEqProofs only [go_sem, Try.results48, hne, decide_false]
    · have e1 : decide ((i : Int) < (b.length : Int)) = false := by simp; omega
      have heq2 : a = b := by rw [List.take_of_length_le (by omega), List.take_of_length_le (by omega)] at heq; exact heq
      simp -implicitDefEqProofs only [go_sem, e1]
      refine fnPost_ret tok ?_
      simp -implicitDefEqProofs only [go_sem, Try.results48, heq2, decide_true]
  · have hl' : ¬ (a.length : Int) = (b.length : Int) := by omega
    simp -implicitDefEqProofs only [go_sem, hl', decide_false]
    have hne : a ≠ b := fun e => hl (by rw [e])
    refine fnPost_ret tok ?_
    simp -implicitDefEqProofs only [go_sem, Try.results48, hne, decide_false]

/-- SameInts: two lists are equal. -/
theorem SameInts_ok (a b : List Int) (ha : a.length * 8 ≤ 140737488351232) (hb : b.length * 8 ≤ 140737488351232) : Fp Try.prog 38 [intsA a, intsA b] (abool (decide (a = b))) := by
  refine Fp.of_vc tok Try.func38 rfl (by decide) ?_
  simp -implicitDefEqProofs only [go_sem, Try.ntmps38, intsA]
  by_cases hl : a.length = b.length
  · have hl' : (a.length : Int) = (b.length : Int) := by omega
    simp -implicitDefEqProofs only [go_sem, hl', decide_true]
    refine AW.loopG tok (fun i : Nat => slots 26 [(0, intsA a), (1, intsA b), (4, abool false), (12, intsA a), (13, iA b.length), (14, iA i)]) (fun _ => [])
      (fun i => i ≤ a.length ∧ a.take i = b.take i) (fun i => a.length - i) 0 ⟨by omega, rfl⟩ (by simp -implicitDefEqProofs only [go_sem, intsA, iA]) (List.Sublist.refl _) ?_
    rintro i ⟨hi, heq⟩
    simp -implicitDefEqProofs only [go_sem, intsA, iA]
    by_cases hlt : i < a.length
    · have hlt2 : i < b.length := by omega
      have e1 : decide ((i : Int) < (b.length : Int)) = true := by simp; omega
      have e2 : (a.map iA)[i]? = some (iA a[i]) := by simp [hlt]
      have e3 : (b.map iA)[i]? = some (iA b[i]) := by simp [hlt2]
      simp -implicitDefEqProofs only [go_sem, e1, hlt, hlt2, e2, e3, iA]
      by_cases hx : a[i] = b[i]
      · have hw := wrap_succ i a.length hlt (by omega)
        simp -implicitDefEqProofs only [go_sem, hx, decide_true, hw]
        refine ⟨i + 1, ⟨by omega, ?_⟩, by omega, by simp -implicitDefEqProofs only [go_sem, intsA, iA], List.Sublist.refl _⟩
        rw [List.take_add_one, List.take_add_one, heq, List.getElem?_eq_getElem hlt, List.getElem?_eq_getElem hlt2, hx]
      · simp -implicitDefEqProofs only [go_sem, hx, decide_false]
        have hne : a ≠ b := fun e => hx (by subst e; rfl)
        refine fnPost_ret tok ?_
        simp -implicitDefEqProofs only [go_sem, Try.results38, hne, decide_false]
    · have e1 : decide ((i : Int) < (b.length : Int)) = false := by simp; omega
      have heq2 : a = b := by rw [List.take_of_length_le (by omega), List.take_of_length_le (by omega)] at heq; exact heq
      simp -implicitDefEqProofs only [go_sem, e1]
      refine fnPost_ret tok ?_
      simp -implicitDefEqProofs only [go_sem, Try.results38, heq2, decide_true]
  · have hl' : ¬ (a.length : Int) = (b.length : Int) := by omega
    simp -implicitDefEqProofs only [go_sem, hl', decide_false]
    have hne : a ≠ b := fun e => hl (by rw [e])
    refine fnPost_ret tok ?_
    simp -implicitDefEqProofs only [go_sem, Try.results38, hne, decide_false]

def pc (l : List (Int × Int)) : List AV := l.flatMap fun p => [iA p.1, iA p.2]
def pairsA (l : List (Int × Int)) : AV := .imm 2 (pc l)
def pairA (p : Int × Int) : AV := .agg [iA p.1, iA p.2]

theorem pc_length (l : List (Int × Int)) : (pc l).length = l.length * 2 := by
  induction l with
  | nil => rfl
  | cons p l ih => simp only [pc, List.flatMap_cons, List.length_append, List.length_cons, List.length_nil] at *; omega

theorem pc_div (l : List (Int × Int)) : (pc l).length / 2 = l.length := by rw [pc_length]; omega

theorem pc_get : ∀ (l : List (Int × Int)) (i : Nat) (h : i < l.length), ((pc l).drop (i * 2)).take 2 = [iA l[i].1, iA l[i].2]
  | p :: l, 0, h => rfl
  | p :: l, i + 1, h => by
    have : (i + 1) * 2 = i * 2 + 1 + 1 := by omega
    rw [this]
    simp only [pc, List.flatMap_cons, List.cons_append, List.nil_append, List.drop_succ_cons, List.getElem_cons_succ]
    exact pc_get l i (by simpa using h)

theorem pc_append (l m : List (Int × Int)) : pc (l ++ m) = pc l ++ pc m := by simp [pc]

/-- SamePairs: two lists are equal. -/
theorem SamePairs_ok (a b : List (Int × Int)) (ha : a.length * 16 ≤ 140737488351232) (hb : b.length * 16 ≤ 140737488351232) : Fp Try.prog 24 [pairsA a, pairsA b] (abool (decide (a = b))) := by
  refine Fp.of_vc tok Try.func24 rfl (by decide) ?_
  simp -implicitDefEqProofs only [go_sem, Try.ntmps24, pairsA, pc_div]
  by_cases hl : a.length = b.length
  · have hl' : (a.length : Int) = (b.length : Int) := by omega
    simp -implicitDefEqProofs only [go_sem, hl', decide_true, pc_div]
    refine AW.loopG tok (fun i : Nat => slots 26 [(0, pairsA a), (1, pairsA b), (4, abool false), (12, pairsA a), (13, iA b.length), (14, iA i)]) (fun _ => [])
      (fun i => i ≤ a.length ∧ a.take i = b.take i) (fun i => a.length - i) 0 ⟨by omega, rfl⟩ (by simp -implicitDefEqProofs only [go_sem, pairsA, iA]) (List.Sublist.refl _) ?_
    rintro i ⟨hi, heq⟩
    simp -implicitDefEqProofs only [go_sem, pairsA, iA]
    by_cases hlt : i < a.length
    · have hlt2 : i < b.length := by omega
      have e1 : decide ((i : Int) < (b.length : Int)) = true := by simp; omega
      have e2 := pc_get a i hlt
      have e3 := pc_get b i hlt2
      have e4 : i * 2 + 2 ≤ (pc a).length := by rw [pc_length]; omega
      have e5 : i * 2 + 2 ≤ (pc b).length := by rw [pc_length]; omega
      have e6 : i * 2 < (pc a).length := by omega
      have e7 : i * 2 < (pc b).length := by omega
      simp -implicitDefEqProofs only [go_sem, e1, e6, e4, e2]
      refine newK_intro fun n1 hn1 => ?_
      try simp -implicitDefEqProofs only [hset, List.map_append, List.map_cons, List.map_nil, List.cons_append, List.nil_append, List.mem_cons, List.mem_append, List.not_mem_nil, or_false, not_or] at hn1
      simp -implicitDefEqProofs only [go_sem]
      refine AW.draw tok hmix ⟨[], [], [], false⟩ (by kernel_rfl) (Has.of_sub (List.nil_sublist _)) ?_
      simp -implicitDefEqProofs only [go_sem, e7, e5, e3, iA]
      by_cases hx : a[i] = b[i]
      · have hw := wrap_succ i a.length hlt (by omega)
        simp -implicitDefEqProofs only [go_sem, hx, decide_true, hw]
        refine ⟨i + 1, ⟨by omega, ?_⟩, by omega, by simp -implicitDefEqProofs only [go_sem, pairsA, iA], List.nil_sublist _⟩
        rw [List.take_add_one, List.take_add_one, heq, List.getElem?_eq_getElem hlt, List.getElem?_eq_getElem hlt2, hx]
      · have hx' : ¬ [a[i].1, a[i].2] = [b[i].1, b[i].2] := fun e => hx (by simp at e; exact Prod.ext e.1 e.2)
        simp -implicitDefEqProofs only [go_sem, hx', decide_false]
        have hne : a ≠ b := fun e => hx (by subst e; rfl)
        refine fnPost_ret tok ?_
        simp -implicitDefEqProofs only [go_sem, Try.results24, hne, decide_false]
    · have e1 : decide ((i : Int) < (b.length : Int)) = false := by simp; omega
      have heq2 : a = b := by rw [List.take_of_length_le (by omega), List.take_of_length_le (by omega)] at heq; exact heq
      simp -implicitDefEqProofs only [go_sem, e1]
      refine fnPost_ret tok ?_
      simp -implicitDefEqProofs only [go_sem, Try.results24, heq2, decide_true]
  · have hl' : ¬ (a.length : Int) = (b.length : Int) := by omega
    simp -implicitDefEqProofs only [go_sem, hl', decide_false, pc_div]
    have hne : a ≠ b := fun e => hl (by rw [e])
    refine fnPost_ret tok ?_
    simp -implicitDefEqProofs only [go_sem, Try.results24, hne, decide_false]

def Fa.beq (f g : Fa) : Bool := decide (f.acts = g.acts) && decide (f.inn = g.inn) && decide (f.out = g.out) && decide (f.sts = g.sts)

theorem Fa.beq_iff (f g : Fa) : f.beq g = true ↔ f = g := by
  cases f; cases g; simp [Fa.beq, and_assoc]

/-- Same: two faces are equal. -/
theorem Same_ok (f g : Fa) (hf : f.Small) (hg : g.Small) : Fp Try.prog 15 [f.av, g.av] (abool (f.beq g)) := by
  refine Fp.of_vc tok Try.func15 rfl (by decide) ?_
  simp -implicitDefEqProofs only [go_sem, Try.ntmps15, Fa.av, Fa.cells]
  refine newK_intro fun n1 hn1 => ?_
  try simp -implicitDefEqProofs only [hset, List.map_append, List.map_cons, List.map_nil, List.cons_append, List.nil_append, List.mem_cons, List.mem_append, List.not_mem_nil, or_false, not_or] at hn1
  simp -implicitDefEqProofs only [go_sem]
  refine newK_intro fun n2 hn2 => ?_
  try simp -implicitDefEqProofs only [hset, List.map_append, List.map_cons, List.map_nil, List.cons_append, List.nil_append, List.mem_cons, List.mem_append, List.not_mem_nil, or_false, not_or] at hn2
  simp -implicitDefEqProofs only [go_sem, hn2]
  refine opK_pure (SameStrings_ok f.acts g.acts hf.a hg.a) rfl (Sub.of_eq (by first | rfl | simp -implicitDefEqProofs only [go_sem])) ?_
  simp -implicitDefEqProofs only [go_sem, hn2, iA]
  by_cases h1 : f.acts = g.acts
  · by_cases h2 : f.inn = g.inn
    · by_cases h3 : f.out = g.out
      · by_cases h4 : f.sts.length = g.sts.length
        · have h4' : (f.sts.length : Int) = (g.sts.length : Int) := by omega
          simp -implicitDefEqProofs only [go_sem, h1, h2, h3, h4', decide_true, hn2]
          refine AW.loopG tok (fun i : Nat => slots 53 [(3, .ptr n2 0), (4, abool false), (37, .imm 1 (f.sts.map intsA)), (38, iA g.sts.length), (39, iA i)]) (fun _ => [(n2, .cells 25 g.cells)])
            (fun i => i ≤ f.sts.length ∧ f.sts.take i = g.sts.take i) (fun i => f.sts.length - i) 0 ⟨by omega, rfl⟩ (by simp -implicitDefEqProofs only [go_sem, iA]) (List.sublist_cons_self _ _) ?_
          rintro i ⟨hi, heq⟩
          simp -implicitDefEqProofs only [go_sem, iA, Fa.cells]
          by_cases hlt : i < f.sts.length
          · have hlt2 : i < g.sts.length := by omega
            have e1 : decide ((i : Int) < (g.sts.length : Int)) = true := by simp; omega
            have e2 : (f.sts.map intsA)[i]? = some (intsA f.sts[i]) := by simp [hlt]
            have e3 : (g.sts.map intsA)[i]? = some (intsA g.sts[i]) := by simp [hlt2]
            simp -implicitDefEqProofs only [go_sem, e1, hlt, hlt2, e2, e3]
            refine opK_pure (SameInts_ok f.sts[i] g.sts[i] (hf.r _ (List.getElem_mem hlt)) (hg.r _ (List.getElem_mem hlt2))) rfl (Sub.of_eq (by first | rfl | simp -implicitDefEqProofs only [go_sem])) ?_
            by_cases hx : f.sts[i] = g.sts[i]
            · have hw := wrap_succ i f.sts.length hlt (by have := hf.s; omega)
              simp -implicitDefEqProofs only [go_sem, hx, decide_true, hw]
              refine ⟨i + 1, ⟨by omega, ?_⟩, by omega, by simp -implicitDefEqProofs only [go_sem, iA], List.Sublist.refl _⟩
              rw [List.take_add_one, List.take_add_one, heq, List.getElem?_eq_getElem hlt, List.getElem?_eq_getElem hlt2, hx]
            · simp -implicitDefEqProofs only [go_sem, hx, decide_false]
              have hne : f.beq g = false := by
                rw [Bool.eq_false_iff]; intro e; rw [Fa.beq_iff] at e; subst e; exact hx rfl
              refine fnPost_ret tok ?_
              simp -implicitDefEqProofs only [go_sem, Try.results15, hne]
          · have e1 : decide ((i : Int) < (g.sts.length : Int)) = false := by simp; omega
            have heq2 : f.sts = g.sts := by rw [List.take_of_length_le (by omega), List.take_of_length_le (by omega)] at heq; exact heq
            have he : f.beq g = true := by simp [Fa.beq, h1, h2, h3, heq2]
            simp -implicitDefEqProofs only [go_sem, e1]
            refine fnPost_ret tok ?_
            simp -implicitDefEqProofs only [go_sem, Try.results15, he]
        · have h4' : ¬ (f.sts.length : Int) = (g.sts.length : Int) := by omega
          have hne : f.beq g = false := by rw [Bool.eq_false_iff]; intro e; rw [Fa.beq_iff] at e; subst e; exact h4 rfl
          simp -implicitDefEqProofs only [go_sem, h1, h2, h3, h4', decide_true, decide_false, hn2]
          refine fnPost_ret tok ?_
          simp -implicitDefEqProofs only [go_sem, Try.results15, hne]
      · have hne : f.beq g = false := by rw [Bool.eq_false_iff]; intro e; rw [Fa.beq_iff] at e; subst e; exact h3 rfl
        simp -implicitDefEqProofs only [go_sem, h1, h2, h3, decide_true, decide_false, hn2]
        refine fnPost_ret tok ?_
        simp -implicitDefEqProofs only [go_sem, Try.results15, hne]
    · have hne : f.beq g = false := by rw [Bool.eq_false_iff]; intro e; rw [Fa.beq_iff] at e; subst e; exact h2 rfl
      simp -implicitDefEqProofs only [go_sem, h1, h2, decide_true, decide_false, hn2]
      refine fnPost_ret tok ?_
      simp -implicitDefEqProofs only [go_sem, Try.results15, hne]
  · have hne : f.beq g = false := by rw [Bool.eq_false_iff]; intro e; rw [Fa.beq_iff] at e; subst e; exact h1 rfl
    simp -implicitDefEqProofs only [go_sem, h1, decide_false, hn2]
    refine fnPost_ret tok ?_
    simp -implicitDefEqProofs only [go_sem, Try.results15, hne]
end Go.Proofs.Ytebbiciepbbhkaa
/- Chapter 12, part C: names; lists of actions; sets. -/
namespace Go.Proofs.Ytebbiciepbbhkaa
open Go Go.NS

def letterI (c : Int) : Bool := decide ((97 ≤ c ∧ c ≤ 122) ∨ (65 ≤ c ∧ c ≤ 90))

theorem letter_ok (c : Int) : Fp Try.prog 104 [aint .u8 c] (abool (letterI c)) := by
  refine Fp.of_vc tok Try.func104 rfl (by decide) ?_
  simp -implicitDefEqProofs only [go_sem, Try.ntmps104]
  repeat' (first | (refine wantK_intro_not (fun h => ?_) (fun h => ?_) <;> simp -implicitDefEqProofs only [go_sem, h]) | (refine wantK_intro (fun h => ?_) (fun h => ?_) <;> simp -implicitDefEqProofs only [go_sem, h]) | (refine ifK_intro_not (fun h => ?_) (fun h => ?_) <;> simp -implicitDefEqProofs only [go_sem, h]) | (refine ifK_intro (fun h => ?_) (fun h => ?_) <;> simp -implicitDefEqProofs only [go_sem, h]))
  all_goals (refine fnPost_ret tok ?_; simp -implicitDefEqProofs only [go_sem, Try.results104])
  all_goals simp_all [letterI] <;> omega

theorem letterR_ok (c : Int) : Fp Try.prog 90 [aint .u8 c] (abool (letterI c)) := by
  refine Fp.of_vc tok Try.func90 rfl (by decide) ?_
  simp -implicitDefEqProofs only [go_sem, Try.ntmps90]
  repeat' (first | (refine wantK_intro_not (fun h => ?_) (fun h => ?_) <;> simp -implicitDefEqProofs only [go_sem, h]) | (refine wantK_intro (fun h => ?_) (fun h => ?_) <;> simp -implicitDefEqProofs only [go_sem, h]) | (refine ifK_intro_not (fun h => ?_) (fun h => ?_) <;> simp -implicitDefEqProofs only [go_sem, h]) | (refine ifK_intro (fun h => ?_) (fun h => ?_) <;> simp -implicitDefEqProofs only [go_sem, h]))
  all_goals (refine fnPost_ret tok ?_; simp -implicitDefEqProofs only [go_sem, Try.results90])
  all_goals simp_all [letterI] <;> omega

def okI (c : Int) : Bool := letterI c || decide (48 ≤ c ∧ c ≤ 57) || c == 45 || c == 95
def byteAt (s : ByteArray) (i : Nat) : Int := (s.data.getD i 0).toNat
def nameB (s : ByteArray) : Bool := decide (1 ≤ s.size) && decide (s.size ≤ 20) && letterI (byteAt s 0) && (List.range s.size).all fun i => okI (byteAt s i)

theorem empty_eq (s : ByteArray) : decide (s = ({ data := #[] } : ByteArray)) = decide (s.size = 0) := by
  rw [decide_eq_decide]
  constructor
  · rintro rfl; rfl
  · intro h; cases s; congr 1; exact Array.eq_empty_of_size_eq_zero h

theorem byte_get (s : ByteArray) (i : Nat) (h : i < s.size) : ∃ b : UInt8, s[i]? = some b ∧ byteAt s i = b.toNat := by
  have h' : i < s.data.size := h
  refine ⟨s.data[i], ?_, ?_⟩
  · rw [getElem?_pos s i h]; rfl
  · unfold byteAt; rw [Array.getD_eq_getD_getElem?, Array.getElem?_eq_getElem h']; rfl

theorem nameB_of (s : ByteArray) (h1 : 1 ≤ s.size) (h2 : s.size ≤ 20) (h3 : letterI (byteAt s 0) = true) (h4 : ∀ i, i < s.size → okI (byteAt s i) = true) : nameB s = true := by
  simp [nameB, h1, h2, h3]; exact h4

theorem nameB_not (s : ByteArray) {i : Nat} (hi : i < s.size) (h : okI (byteAt s i) = false) : nameB s = false := by
  simp only [nameB, Bool.and_eq_false_iff, List.all_eq_false]
  exact .inr ⟨i, by simpa using hi, by simp [h]⟩

/-- Name of package act. -/
theorem Name_ok (s : ByteArray) : Fp Try.prog 91 [sA s] (abool (nameB s)) := by
  refine Fp.of_vc tok Try.func91 rfl (by decide) ?_
  simp -implicitDefEqProofs only [go_sem, Try.ntmps91, empty_eq, sA]
  by_cases h0 : s.size = 0
  · have e : nameB s = false := by simp [nameB, h0]
    simp -implicitDefEqProofs only [go_sem, h0, decide_true, e]
    refine fnPost_ret tok ?_
    simp -implicitDefEqProofs only [go_sem, Try.results91]
  simp -implicitDefEqProofs only [go_sem, h0, decide_false]
  by_cases h1 : 20 < s.size
  · have e : nameB s = false := by simp [nameB]; omega
    have h2 : decide ((s.size : Int) > 20) = true := by simp; omega
    simp -implicitDefEqProofs only [go_sem, h2, e]
    refine fnPost_ret tok ?_
    simp -implicitDefEqProofs only [go_sem, Try.results91]
  have h2 : decide ((s.size : Int) > 20) = false := by simp; omega
  obtain ⟨b, hb, hb'⟩ := byte_get s 0 (by omega)
  simp -implicitDefEqProofs only [go_sem, h2, hb]
  refine opK_pure (letter_ok b.toNat) rfl (Sub.of_eq (by first | rfl | simp -implicitDefEqProofs only [go_sem])) ?_
  simp -implicitDefEqProofs only [go_sem]
  by_cases hl : letterI b.toNat = true
  · simp -implicitDefEqProofs only [go_sem, hl]
    refine AW.each tok s.size (fun i : Nat => slots 46 [(0, .raw (.string s)), (2, abool false), (19, aint .i64 s.size), (20, aint .i64 i)]) [] (fun i => okI (byteAt s i) = true) (by simp -implicitDefEqProofs only [go_sem]) (List.Sublist.refl _) ?_ ?_
    · intro i hlt hall
      obtain ⟨c, hc, hc'⟩ := byte_get s i hlt
      simp -implicitDefEqProofs only [go_sem, dlt_true hlt, hc]
      refine opK_pure (letter_ok c.toNat) rfl (Sub.of_eq (by first | rfl | simp -implicitDefEqProofs only [go_sem])) ?_
      simp -implicitDefEqProofs only [go_sem]
      repeat' (first | (refine wantK_intro_not (fun h => ?_) (fun h => ?_) <;> simp -implicitDefEqProofs only [go_sem, h]) | (refine wantK_intro (fun h => ?_) (fun h => ?_) <;> simp -implicitDefEqProofs only [go_sem, h]) | (refine ifK_intro_not (fun h => ?_) (fun h => ?_) <;> simp -implicitDefEqProofs only [go_sem, h]) | (refine ifK_intro (fun h => ?_) (fun h => ?_) <;> simp -implicitDefEqProofs only [go_sem, h]))
      all_goals try simp -implicitDefEqProofs only [go_sem, wrap_up hlt (by omega)]
      all_goals first
        | exact ⟨by rw [hc']; simp_all [okI] <;> omega, List.Sublist.refl _⟩
        | (have e : nameB s = false := nameB_not s hlt (by rw [hc']; simp_all [okI] <;> omega)
           refine fnPost_ret tok ?_; simp -implicitDefEqProofs only [go_sem, Try.results91, e])
    · intro hall
      have e : nameB s = true := nameB_of s (by omega) (by omega) (by rw [hb']; exact hl) hall
      simp -implicitDefEqProofs only [go_sem, e]
      refine fnPost_ret tok ?_
      simp -implicitDefEqProofs only [go_sem, Try.results91]
  · have e : nameB s = false := by simp [nameB, hb', hl]
    simp -implicitDefEqProofs only [go_sem, hl, e]
    refine fnPost_ret tok ?_
    simp -implicitDefEqProofs only [go_sem, Try.results91]

/-- Name of the reference. -/
theorem NameR_ok (s : ByteArray) : Fp Try.prog 77 [sA s] (abool (nameB s)) := by
  refine Fp.of_vc tok Try.func77 rfl (by decide) ?_
  simp -implicitDefEqProofs only [go_sem, Try.ntmps77, sA]
  by_cases h0 : s.size = 0
  · have e : nameB s = false := by simp [nameB, h0]
    have h2 : decide ((s.size : Int) < 1) = true := by simp; omega
    simp -implicitDefEqProofs only [go_sem, h2, e]
    refine fnPost_ret tok ?_
    simp -implicitDefEqProofs only [go_sem, Try.results77]
  have h3 : decide ((s.size : Int) < 1) = false := by simp; omega
  simp -implicitDefEqProofs only [go_sem, h3]
  by_cases h1 : 20 < s.size
  · have e : nameB s = false := by simp [nameB]; omega
    have h2 : decide ((s.size : Int) > 20) = true := by simp; omega
    simp -implicitDefEqProofs only [go_sem, h2, e]
    refine fnPost_ret tok ?_
    simp -implicitDefEqProofs only [go_sem, Try.results77]
  have h2 : decide ((s.size : Int) > 20) = false := by simp; omega
  obtain ⟨b, hb, hb'⟩ := byte_get s 0 (by omega)
  simp -implicitDefEqProofs only [go_sem, h2, hb]
  refine opK_pure (letterR_ok b.toNat) rfl (Sub.of_eq (by first | rfl | simp -implicitDefEqProofs only [go_sem])) ?_
  simp -implicitDefEqProofs only [go_sem]
  by_cases hl : letterI b.toNat = true
  · simp -implicitDefEqProofs only [go_sem, hl]
    refine AW.each tok s.size (fun i : Nat => slots 47 [(0, .raw (.string s)), (2, abool false), (20, aint .i64 s.size), (21, aint .i64 i)]) [] (fun i => okI (byteAt s i) = true) (by simp -implicitDefEqProofs only [go_sem]) (List.Sublist.refl _) ?_ ?_
    · intro i hlt hall
      obtain ⟨c, hc, hc'⟩ := byte_get s i hlt
      simp -implicitDefEqProofs only [go_sem, dlt_true hlt, hc]
      refine opK_pure (letterR_ok c.toNat) rfl (Sub.of_eq (by first | rfl | simp -implicitDefEqProofs only [go_sem])) ?_
      simp -implicitDefEqProofs only [go_sem]
      repeat' (first | (refine wantK_intro_not (fun h => ?_) (fun h => ?_) <;> simp -implicitDefEqProofs only [go_sem, h]) | (refine wantK_intro (fun h => ?_) (fun h => ?_) <;> simp -implicitDefEqProofs only [go_sem, h]) | (refine ifK_intro_not (fun h => ?_) (fun h => ?_) <;> simp -implicitDefEqProofs only [go_sem, h]) | (refine ifK_intro (fun h => ?_) (fun h => ?_) <;> simp -implicitDefEqProofs only [go_sem, h]))
      all_goals try simp -implicitDefEqProofs only [go_sem, wrap_up hlt (by omega)]
      all_goals first
        | exact ⟨by rw [hc']; simp_all [okI] <;> omega, List.Sublist.refl _⟩
        | (have e : nameB s = false := nameB_not s hlt (by rw [hc']; simp_all [okI] <;> omega)
           refine fnPost_ret tok ?_; simp -implicitDefEqProofs only [go_sem, Try.results77, e])
    · intro hall
      have e : nameB s = true := nameB_of s (by omega) (by omega) (by rw [hb']; exact hl) hall
      simp -implicitDefEqProofs only [go_sem, e]
      refine fnPost_ret tok ?_
      simp -implicitDefEqProofs only [go_sem, Try.results77]
  · have e : nameB s = false := by simp [nameB, hb', hl]
    simp -implicitDefEqProofs only [go_sem, hl, e]
    refine fnPost_ret tok ?_
    simp -implicitDefEqProofs only [go_sem, Try.results77]

/-- The place of a string in a list, or -1. -/
def indexI (l : List ByteArray) (s : ByteArray) : Int := if l.findIdx (fun x => decide (x = s)) < l.length then (l.findIdx (fun x => decide (x = s)) : Int) else -1

theorem indexI_at {l : List ByteArray} {s : ByteArray} {i : Nat} (hi : i < l.length) (he : l[i] = s) (hn : ∀ j, j < i → ∀ h : j < l.length, l[j] ≠ s) : indexI l s = i := by
  have e : l.findIdx (fun x => decide (x = s)) = i := by
    rw [List.findIdx_eq hi]
    exact ⟨by simp [he], fun j hj => by simpa using hn j hj (by omega)⟩
  unfold indexI
  rw [e, if_pos hi]

theorem indexI_none {l : List ByteArray} {s : ByteArray} (hn : ∀ j, ∀ h : j < l.length, l[j] ≠ s) : indexI l s = -1 := by
  unfold indexI
  rw [if_neg]
  intro hm
  have := List.findIdx_getElem (w := hm)
  simp at this
  exact hn _ hm this

/-- Index of the reference. -/
theorem IndexR_ok (l : List ByteArray) (s : ByteArray) (hl : l.length * 16 ≤ 140737488351232) : Fp Try.prog 78 [strsA l, sA s] (iA (indexI l s)) := by
  refine Fp.of_vc tok Try.func78 rfl (by decide) ?_
  simp -implicitDefEqProofs only [go_sem, Try.ntmps78, strsA, sA]
  refine AW.each tok l.length (fun i : Nat => slots 19 [(0, strsA l), (1, sA s), (4, iA 0), (7, strsA l), (8, iA l.length), (9, iA i)]) [] (fun i => ∀ h : i < l.length, l[i] ≠ s) (by simp -implicitDefEqProofs only [go_sem, strsA, sA, iA]) (List.Sublist.refl _) ?_ ?_
  · intro i hlt hall
    have e2 : (l.map sA)[i]? = some (sA l[i]) := by simp [hlt]
    simp -implicitDefEqProofs only [go_sem, strsA, iA, dlt_true hlt, hlt, e2, sA]
    by_cases hx : l[i] = s
    · simp -implicitDefEqProofs only [go_sem, hx, decide_true]
      have e := indexI_at hlt hx fun j hj h => hall j hj h
      refine fnPost_ret tok ?_
      simp -implicitDefEqProofs only [go_sem, Try.results78, e, iA]
    · simp -implicitDefEqProofs only [go_sem, hx, decide_false, wrap_up hlt (by omega)]
      first | exact List.Sublist.refl _ | exact ⟨fun _ => hx, List.Sublist.refl _⟩ | exact ⟨fun _ => trivial, List.Sublist.refl _⟩ | exact ⟨fun _ _ => trivial, List.Sublist.refl _⟩ | exact ⟨fun _ => hx, by simp -implicitDefEqProofs only [go_sem], List.Sublist.refl _⟩
  · intro hall
    simp -implicitDefEqProofs only [go_sem, strsA, iA]
    have e := indexI_none fun j h => hall j h h
    refine fnPost_ret tok ?_
    simp -implicitDefEqProofs only [go_sem, Try.results78, e, iA]

def actsB (l : List ByteArray) : Bool := decide (l.length ≤ 8) && l.all nameB && decide l.Nodup

theorem actsB_of {l : List ByteArray} (h : l.length ≤ 8) (hall : ∀ i, i < l.length → ∀ h : i < l.length, nameB l[i] = true ∧ indexI l l[i] = i) : actsB l = true := by
  simp only [actsB, Bool.and_eq_true, decide_eq_true_eq, List.all_eq_true]
  refine ⟨⟨h, fun x hx => ?_⟩, ?_⟩
  · obtain ⟨j, hj, rfl⟩ := List.getElem_of_mem hx
    exact (hall j hj hj).1
  · rw [List.nodup_iff_pairwise_ne, List.pairwise_iff_getElem]
    intro i j hi hj hij e
    have h1 := (hall i hi hi).2
    have h2 := (hall j hj hj).2
    rw [e, h2] at h1
    omega

theorem actsB_not {l : List ByteArray} {i : Nat} (h : i < l.length) (hn : nameB l[i] = true → indexI l l[i] ≠ i) : actsB l = false := by
  rw [Bool.eq_false_iff]
  intro ha
  simp only [actsB, Bool.and_eq_true, decide_eq_true_eq, List.all_eq_true] at ha
  refine hn (ha.1.2 _ (List.getElem_mem h)) ?_
  refine indexI_at h rfl fun j hj hjl e => ?_
  have := ha.2
  rw [List.nodup_iff_pairwise_ne, List.pairwise_iff_getElem] at this
  exact this j i hjl h hj e

/-- Is of the reference of layer 1. -/
theorem IsActs_ok (l : List ByteArray) (hl : l.length * 16 ≤ 140737488351232) : Fp Try.prog 49 [strsA l] (abool (actsB l)) := by
  refine Fp.of_vc tok Try.func49 rfl (by decide) ?_
  simp -implicitDefEqProofs only [go_sem, Try.ntmps49, strsA]
  by_cases h8 : 8 < l.length
  · have h2 : decide ((l.length : Int) > 8) = true := by simp; omega
    have e : actsB l = false := by simp [actsB]; omega
    simp -implicitDefEqProofs only [go_sem, h2, e]
    refine fnPost_ret tok ?_
    simp -implicitDefEqProofs only [go_sem, Try.results49]
  have h2 : decide ((l.length : Int) > 8) = false := by simp; omega
  simp -implicitDefEqProofs only [go_sem, h2]
  refine AW.each tok l.length (fun i : Nat => slots 26 [(0, strsA l), (2, abool false), (8, strsA l), (9, iA l.length), (10, iA i)]) [] (fun i => ∀ h : i < l.length, nameB l[i] = true ∧ indexI l l[i] = i) (by simp -implicitDefEqProofs only [go_sem, strsA, iA]) (List.Sublist.refl _) ?_ ?_
  · intro i hlt hall
    have e2 : (l.map sA)[i]? = some (sA l[i]) := by simp [hlt]
    simp -implicitDefEqProofs only [go_sem, strsA, iA, dlt_true hlt, hlt, e2]
    refine opK_pure (NameR_ok l[i]) rfl (Sub.of_eq (by first | rfl | simp -implicitDefEqProofs only [go_sem])) ?_
    by_cases h1 : nameB l[i] = true
    · simp -implicitDefEqProofs only [go_sem, h1]
      refine opK_pure (IndexR_ok l l[i] hl) rfl (Sub.of_eq (by first | rfl | simp -implicitDefEqProofs only [go_sem])) ?_
      by_cases h3 : indexI l l[i] = i
      · simp -implicitDefEqProofs only [go_sem, h3, iA, decide_true, wrap_up hlt (by omega)]
        first | exact List.Sublist.refl _ | exact ⟨fun _ => ⟨h1, h3⟩, List.Sublist.refl _⟩ | exact ⟨fun _ => trivial, List.Sublist.refl _⟩ | exact ⟨fun _ _ => trivial, List.Sublist.refl _⟩ | exact ⟨fun _ => ⟨h1, h3⟩, by simp -implicitDefEqProofs only [go_sem], List.Sublist.refl _⟩
      · have e := actsB_not hlt fun _ => h3
        simp -implicitDefEqProofs only [go_sem, h3, iA, decide_false]
        refine fnPost_ret tok ?_
        simp -implicitDefEqProofs only [go_sem, Try.results49, e]
    · have e := actsB_not hlt fun h => absurd h h1
      simp -implicitDefEqProofs only [go_sem, h1]
      refine fnPost_ret tok ?_
      simp -implicitDefEqProofs only [go_sem, Try.results49, e]
  · intro hall
    simp -implicitDefEqProofs only [go_sem, strsA, iA]
    have e := actsB_of (by omega) fun i h _ => hall i h h
    refine fnPost_ret tok ?_
    simp -implicitDefEqProofs only [go_sem, Try.results49, e]
end Go.Proofs.Ytebbiciepbbhkaa
