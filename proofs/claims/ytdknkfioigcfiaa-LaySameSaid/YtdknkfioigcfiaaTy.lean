/-
  Facts on the types of the translation: sizes, places, zero values. Made by a program of mine.
-/
import Derived.Test.YtdknkfioigcfiaaProg
import Derived.Test.YtdknkfioigcfiaaAwpR
import Derived.KernelRfl
namespace Go.Proofs.Ytdknkfioigcfiaa.Ty
open Go.Awp
theorem mixed : Try.prog.follows .mixedOrders = true := by kernel_rfl
theorem z1 : zeroD Try.prog 1 = some [.nilFunc] := by kernel_rfl
theorem ld2 : tyLoad Try.prog 2 = some (false, 1) := by kernel_rfl
theorem ui2 : Try.prog.underlying 2 = some (.int .i64) := by kernel_rfl
theorem z2 : zeroD Try.prog 2 = some [.int .i64 0] := by kernel_rfl
theorem ld3 : tyLoad Try.prog 3 = some (false, 1) := by kernel_rfl
theorem ui3 : Try.prog.underlying 3 = some (.int .i64) := by kernel_rfl
theorem z3 : zeroD Try.prog 3 = some [.int .i64 0] := by kernel_rfl
theorem ld4 : tyLoad Try.prog 4 = some (false, 1) := by kernel_rfl
theorem ub4 : Try.prog.underlying 4 = some .bool := by kernel_rfl
theorem z4 : zeroD Try.prog 4 = some [.bool false] := by kernel_rfl
theorem ld5 : tyLoad Try.prog 5 = some (false, 1) := by kernel_rfl
theorem ui5 : Try.prog.underlying 5 = some (.int .u8) := by kernel_rfl
theorem z5 : zeroD Try.prog 5 = some [.int .u8 0] := by kernel_rfl
theorem ld7 : tyLoad Try.prog 7 = some (true, 4) := by kernel_rfl
theorem z7 : zeroD Try.prog 7 = some [.int .i64 0, .int .i64 0, .bool false, .int .u8 0] := by kernel_rfl
theorem pl7 : places Try.prog 7 = some [(0, 1), (1, 1), (2, 1), (3, 1)] := by kernel_rfl
theorem fo7_0 : fieldOff Try.prog 7 0 = some 0 := by kernel_rfl
theorem ft7_0 : fieldTy Try.prog 7 0 = some (0, false, 1) := by kernel_rfl
theorem fo7_1 : fieldOff Try.prog 7 1 = some 1 := by kernel_rfl
theorem ft7_1 : fieldTy Try.prog 7 1 = some (1, false, 1) := by kernel_rfl
theorem fo7_2 : fieldOff Try.prog 7 2 = some 2 := by kernel_rfl
theorem ft7_2 : fieldTy Try.prog 7 2 = some (2, false, 1) := by kernel_rfl
theorem fo7_3 : fieldOff Try.prog 7 3 = some 3 := by kernel_rfl
theorem ft7_3 : fieldTy Try.prog 7 3 = some (3, false, 1) := by kernel_rfl
theorem ld9 : tyLoad Try.prog 9 = some (false, 1) := by kernel_rfl
theorem ub9 : Try.prog.underlying 9 = some .string := by kernel_rfl
theorem z9 : zeroD Try.prog 9 = some [.string ByteArray.empty] := by kernel_rfl
theorem ld12 : tyLoad Try.prog 12 = some (false, 1) := by kernel_rfl
theorem ui12 : Try.prog.underlying 12 = some (.int .u64) := by kernel_rfl
theorem z12 : zeroD Try.prog 12 = some [.int .u64 0] := by kernel_rfl
theorem ld13 : tyLoad Try.prog 13 = some (true, 2) := by kernel_rfl
theorem z13 : zeroD Try.prog 13 = some [.string ByteArray.empty, .int .u64 0] := by kernel_rfl
theorem pl13 : places Try.prog 13 = some [(0, 1), (1, 1)] := by kernel_rfl
theorem fo13_0 : fieldOff Try.prog 13 0 = some 0 := by kernel_rfl
theorem ft13_0 : fieldTy Try.prog 13 0 = some (0, false, 1) := by kernel_rfl
theorem fo13_1 : fieldOff Try.prog 13 1 = some 1 := by kernel_rfl
theorem ft13_1 : fieldTy Try.prog 13 1 = some (1, false, 1) := by kernel_rfl
theorem ld15 : tyLoad Try.prog 15 = some (false, 1) := by kernel_rfl
theorem z15 : zeroD Try.prog 15 = some [.pointer none] := by kernel_rfl
theorem ld16 : tyLoad Try.prog 16 = some (false, 1) := by kernel_rfl
theorem z16 : zeroD Try.prog 16 = some [.pointer none] := by kernel_rfl
theorem ld17 : tyLoad Try.prog 17 = some (false, 1) := by kernel_rfl
theorem z17 : zeroD Try.prog 17 = some [.pointer none] := by kernel_rfl
theorem ld18 : tyLoad Try.prog 18 = some (true, 1) := by kernel_rfl
theorem z18 : zeroD Try.prog 18 = some [.pointer none] := by kernel_rfl
theorem pl18 : places Try.prog 18 = some [(0, 1)] := by kernel_rfl
theorem fo18_0 : fieldOff Try.prog 18 0 = some 0 := by kernel_rfl
theorem ft18_0 : fieldTy Try.prog 18 0 = some (0, false, 1) := by kernel_rfl
theorem z20 : zeroD Try.prog 20 = some [.nilIface] := by kernel_rfl
theorem ld21 : tyLoad Try.prog 21 = some (false, 1) := by kernel_rfl
theorem ui21 : Try.prog.underlying 21 = some (.int .i32) := by kernel_rfl
theorem z21 : zeroD Try.prog 21 = some [.int .i32 0] := by kernel_rfl
theorem ld22 : tyLoad Try.prog 22 = some (false, 1) := by kernel_rfl
theorem us22 : Try.prog.underlying 22 = some (.slice 24) := by kernel_rfl
theorem el22 : elemTy Try.prog 22 = some (24, 4, 48) := by kernel_rfl
theorem z22 : zeroD Try.prog 22 = some [.slice none 0 0] := by kernel_rfl
theorem ld23 : tyLoad Try.prog 23 = some (true, 4) := by kernel_rfl
theorem z23 : zeroD Try.prog 23 = some [.int .i64 0, .int .i64 0, .bool false, .slice none 0 0] := by kernel_rfl
theorem pl23 : places Try.prog 23 = some [(0, 1), (1, 1), (2, 1), (3, 1)] := by kernel_rfl
theorem fo23_0 : fieldOff Try.prog 23 0 = some 0 := by kernel_rfl
theorem ft23_0 : fieldTy Try.prog 23 0 = some (0, false, 1) := by kernel_rfl
theorem fo23_1 : fieldOff Try.prog 23 1 = some 1 := by kernel_rfl
theorem ft23_1 : fieldTy Try.prog 23 1 = some (1, false, 1) := by kernel_rfl
theorem fo23_2 : fieldOff Try.prog 23 2 = some 2 := by kernel_rfl
theorem ft23_2 : fieldTy Try.prog 23 2 = some (2, false, 1) := by kernel_rfl
theorem fo23_3 : fieldOff Try.prog 23 3 = some 3 := by kernel_rfl
theorem ft23_3 : fieldTy Try.prog 23 3 = some (3, false, 1) := by kernel_rfl
theorem ld24 : tyLoad Try.prog 24 = some (true, 4) := by kernel_rfl
theorem z24 : zeroD Try.prog 24 = some [.int .i64 0, .int .i64 0, .bool false, .slice none 0 0] := by kernel_rfl
theorem pl24 : places Try.prog 24 = some [(0, 1), (1, 1), (2, 1), (3, 1)] := by kernel_rfl
theorem fo24_0 : fieldOff Try.prog 24 0 = some 0 := by kernel_rfl
theorem ft24_0 : fieldTy Try.prog 24 0 = some (0, false, 1) := by kernel_rfl
theorem fo24_1 : fieldOff Try.prog 24 1 = some 1 := by kernel_rfl
theorem ft24_1 : fieldTy Try.prog 24 1 = some (1, false, 1) := by kernel_rfl
theorem fo24_2 : fieldOff Try.prog 24 2 = some 2 := by kernel_rfl
theorem ft24_2 : fieldTy Try.prog 24 2 = some (2, false, 1) := by kernel_rfl
theorem fo24_3 : fieldOff Try.prog 24 3 = some 3 := by kernel_rfl
theorem ft24_3 : fieldTy Try.prog 24 3 = some (3, false, 1) := by kernel_rfl
theorem ld25 : tyLoad Try.prog 25 = some (true, 2) := by kernel_rfl
theorem z25 : zeroD Try.prog 25 = some [.int .i64 0, .bool false] := by kernel_rfl
theorem pl25 : places Try.prog 25 = some [(0, 1), (1, 1)] := by kernel_rfl
theorem fo25_0 : fieldOff Try.prog 25 0 = some 0 := by kernel_rfl
theorem ft25_0 : fieldTy Try.prog 25 0 = some (0, false, 1) := by kernel_rfl
theorem fo25_1 : fieldOff Try.prog 25 1 = some 1 := by kernel_rfl
theorem ft25_1 : fieldTy Try.prog 25 1 = some (1, false, 1) := by kernel_rfl
theorem ld26 : tyLoad Try.prog 26 = some (true, 2) := by kernel_rfl
theorem z26 : zeroD Try.prog 26 = some [.int .i64 0, .bool false] := by kernel_rfl
theorem pl26 : places Try.prog 26 = some [(0, 1), (1, 1)] := by kernel_rfl
theorem fo26_0 : fieldOff Try.prog 26 0 = some 0 := by kernel_rfl
theorem ft26_0 : fieldTy Try.prog 26 0 = some (0, false, 1) := by kernel_rfl
theorem fo26_1 : fieldOff Try.prog 26 1 = some 1 := by kernel_rfl
theorem ft26_1 : fieldTy Try.prog 26 1 = some (1, false, 1) := by kernel_rfl
theorem z27 : zeroD Try.prog 27 = some [.nilFunc] := by kernel_rfl
theorem z28 : zeroD Try.prog 28 = some [.nilFunc] := by kernel_rfl
theorem ld29 : tyLoad Try.prog 29 = some (false, 1) := by kernel_rfl
theorem ui29 : Try.prog.underlying 29 = some (.int .i64) := by kernel_rfl
theorem z29 : zeroD Try.prog 29 = some [.int .i64 0] := by kernel_rfl
theorem z31 : zeroD Try.prog 31 = some [.nilFunc] := by kernel_rfl
theorem z32 : zeroD Try.prog 32 = some [.nilFunc] := by kernel_rfl
theorem ld33 : tyLoad Try.prog 33 = some (false, 1) := by kernel_rfl
theorem us33 : Try.prog.underlying 33 = some (.slice 3) := by kernel_rfl
theorem el33 : elemTy Try.prog 33 = some (3, 1, 8) := by kernel_rfl
theorem z33 : zeroD Try.prog 33 = some [.slice none 0 0] := by kernel_rfl
theorem z35 : zeroD Try.prog 35 = some [.nilFunc] := by kernel_rfl
theorem z37 : zeroD Try.prog 37 = some [.nilFunc] := by kernel_rfl
theorem z38 : zeroD Try.prog 38 = some [.nilFunc] := by kernel_rfl
theorem z39 : zeroD Try.prog 39 = some [.nilFunc] := by kernel_rfl
theorem z40 : zeroD Try.prog 40 = some [.nilFunc] := by kernel_rfl
theorem z41 : zeroD Try.prog 41 = some [.nilFunc] := by kernel_rfl
theorem z42 : zeroD Try.prog 42 = some [.nilFunc] := by kernel_rfl
theorem z43 : zeroD Try.prog 43 = some [.nilFunc] := by kernel_rfl
theorem z44 : zeroD Try.prog 44 = some [.nilFunc] := by kernel_rfl
theorem z45 : zeroD Try.prog 45 = some [.nilFunc] := by kernel_rfl
theorem z47 : zeroD Try.prog 47 = some [.nilFunc] := by kernel_rfl
theorem ld48 : tyLoad Try.prog 48 = some (false, 1) := by kernel_rfl
theorem z48 : zeroD Try.prog 48 = some [.map none] := by kernel_rfl
theorem z49 : zeroD Try.prog 49 = some [.nilFunc] := by kernel_rfl
theorem z50 : zeroD Try.prog 50 = some [.nilFunc] := by kernel_rfl
theorem z51 : zeroD Try.prog 51 = some [.nilFunc] := by kernel_rfl
theorem ld52 : tyLoad Try.prog 52 = some (true, 2) := by kernel_rfl
theorem z52 : zeroD Try.prog 52 = some [.int .i64 0, .int .i64 0] := by kernel_rfl
theorem pl52 : places Try.prog 52 = some [(0, 1), (1, 1)] := by kernel_rfl
theorem fo52_0 : fieldOff Try.prog 52 0 = some 0 := by kernel_rfl
theorem ft52_0 : fieldTy Try.prog 52 0 = some (0, false, 1) := by kernel_rfl
theorem fo52_1 : fieldOff Try.prog 52 1 = some 1 := by kernel_rfl
theorem ft52_1 : fieldTy Try.prog 52 1 = some (1, false, 1) := by kernel_rfl
theorem ld53 : tyLoad Try.prog 53 = some (true, 2) := by kernel_rfl
theorem z53 : zeroD Try.prog 53 = some [.int .i64 0, .int .i64 0] := by kernel_rfl
theorem pl53 : places Try.prog 53 = some [(0, 1), (1, 1)] := by kernel_rfl
theorem fo53_0 : fieldOff Try.prog 53 0 = some 0 := by kernel_rfl
theorem ft53_0 : fieldTy Try.prog 53 0 = some (0, false, 1) := by kernel_rfl
theorem fo53_1 : fieldOff Try.prog 53 1 = some 1 := by kernel_rfl
theorem ft53_1 : fieldTy Try.prog 53 1 = some (1, false, 1) := by kernel_rfl
theorem z55 : zeroD Try.prog 55 = some [.nilFunc] := by kernel_rfl
theorem ld56 : tyLoad Try.prog 56 = some (true, 2) := by kernel_rfl
theorem z56 : zeroD Try.prog 56 = some [.int .i64 0, .int .i64 0] := by kernel_rfl
theorem pl56 : places Try.prog 56 = some [(0, 1), (1, 1)] := by kernel_rfl
theorem fo56_0 : fieldOff Try.prog 56 0 = some 0 := by kernel_rfl
theorem ft56_0 : fieldTy Try.prog 56 0 = some (0, false, 1) := by kernel_rfl
theorem fo56_1 : fieldOff Try.prog 56 1 = some 1 := by kernel_rfl
theorem ft56_1 : fieldTy Try.prog 56 1 = some (1, false, 1) := by kernel_rfl
theorem ld57 : tyLoad Try.prog 57 = some (true, 2) := by kernel_rfl
theorem z57 : zeroD Try.prog 57 = some [.int .i64 0, .int .i64 0] := by kernel_rfl
theorem pl57 : places Try.prog 57 = some [(0, 1), (1, 1)] := by kernel_rfl
theorem fo57_0 : fieldOff Try.prog 57 0 = some 0 := by kernel_rfl
theorem ft57_0 : fieldTy Try.prog 57 0 = some (0, false, 1) := by kernel_rfl
theorem fo57_1 : fieldOff Try.prog 57 1 = some 1 := by kernel_rfl
theorem ft57_1 : fieldTy Try.prog 57 1 = some (1, false, 1) := by kernel_rfl
theorem z58 : zeroD Try.prog 58 = some [.nilFunc] := by kernel_rfl
theorem z60 : zeroD Try.prog 60 = some [.nilFunc] := by kernel_rfl
theorem ld61 : tyLoad Try.prog 61 = some (true, 3) := by kernel_rfl
theorem z61 : zeroD Try.prog 61 = some [.int .i64 0, .int .i64 0, .bool false] := by kernel_rfl
theorem pl61 : places Try.prog 61 = some [(0, 1), (1, 1), (2, 1)] := by kernel_rfl
theorem fo61_0 : fieldOff Try.prog 61 0 = some 0 := by kernel_rfl
theorem ft61_0 : fieldTy Try.prog 61 0 = some (0, false, 1) := by kernel_rfl
theorem fo61_1 : fieldOff Try.prog 61 1 = some 1 := by kernel_rfl
theorem ft61_1 : fieldTy Try.prog 61 1 = some (1, false, 1) := by kernel_rfl
theorem fo61_2 : fieldOff Try.prog 61 2 = some 2 := by kernel_rfl
theorem ft61_2 : fieldTy Try.prog 61 2 = some (2, false, 1) := by kernel_rfl
theorem ld62 : tyLoad Try.prog 62 = some (true, 3) := by kernel_rfl
theorem z62 : zeroD Try.prog 62 = some [.int .i64 0, .int .i64 0, .bool false] := by kernel_rfl
theorem pl62 : places Try.prog 62 = some [(0, 1), (1, 1), (2, 1)] := by kernel_rfl
theorem fo62_0 : fieldOff Try.prog 62 0 = some 0 := by kernel_rfl
theorem ft62_0 : fieldTy Try.prog 62 0 = some (0, false, 1) := by kernel_rfl
theorem fo62_1 : fieldOff Try.prog 62 1 = some 1 := by kernel_rfl
theorem ft62_1 : fieldTy Try.prog 62 1 = some (1, false, 1) := by kernel_rfl
theorem fo62_2 : fieldOff Try.prog 62 2 = some 2 := by kernel_rfl
theorem ft62_2 : fieldTy Try.prog 62 2 = some (2, false, 1) := by kernel_rfl
theorem z63 : zeroD Try.prog 63 = some [.nilFunc] := by kernel_rfl
theorem z64 : zeroD Try.prog 64 = some [.nilFunc] := by kernel_rfl
theorem z65 : zeroD Try.prog 65 = some [.nilFunc] := by kernel_rfl
theorem z66 : zeroD Try.prog 66 = some [.nilFunc] := by kernel_rfl
theorem z67 : zeroD Try.prog 67 = some [.nilFunc] := by kernel_rfl
theorem z68 : zeroD Try.prog 68 = some [.nilFunc] := by kernel_rfl
theorem ld69 : tyLoad Try.prog 69 = some (false, 1) := by kernel_rfl
theorem us69 : Try.prog.underlying 69 = some (.slice 4) := by kernel_rfl
theorem el69 : elemTy Try.prog 69 = some (4, 1, 1) := by kernel_rfl
theorem z69 : zeroD Try.prog 69 = some [.slice none 0 0] := by kernel_rfl
theorem z70 : zeroD Try.prog 70 = some [.nilFunc] := by kernel_rfl
theorem z72 : zeroD Try.prog 72 = some [.nilFunc] := by kernel_rfl
theorem z73 : zeroD Try.prog 73 = some [.nilFunc] := by kernel_rfl
theorem z75 : zeroD Try.prog 75 = some [.nilFunc] := by kernel_rfl
theorem z76 : zeroD Try.prog 76 = some [.nilFunc] := by kernel_rfl
theorem z77 : zeroD Try.prog 77 = some [.nilFunc] := by kernel_rfl
theorem z78 : zeroD Try.prog 78 = some [.nilFunc] := by kernel_rfl
theorem ld79 : tyLoad Try.prog 79 = some (false, 1) := by kernel_rfl
theorem us79 : Try.prog.underlying 79 = some (.slice 33) := by kernel_rfl
theorem el79 : elemTy Try.prog 79 = some (33, 1, 24) := by kernel_rfl
theorem z79 : zeroD Try.prog 79 = some [.slice none 0 0] := by kernel_rfl
theorem z80 : zeroD Try.prog 80 = some [.nilFunc] := by kernel_rfl
theorem z81 : zeroD Try.prog 81 = some [.nilFunc] := by kernel_rfl
theorem z82 : zeroD Try.prog 82 = some [.nilFunc] := by kernel_rfl
theorem z83 : zeroD Try.prog 83 = some [.nilFunc] := by kernel_rfl
theorem ld84 : tyLoad Try.prog 84 = some (false, 1) := by kernel_rfl
theorem z84 : zeroD Try.prog 84 = some [.pointer none] := by kernel_rfl
theorem z85 : zeroD Try.prog 85 = some [.nilFunc] := by kernel_rfl
theorem z86 : zeroD Try.prog 86 = some [.nilFunc] := by kernel_rfl
theorem z87 : zeroD Try.prog 87 = some [.nilFunc] := by kernel_rfl
theorem z88 : zeroD Try.prog 88 = some [.nilFunc] := by kernel_rfl
theorem z89 : zeroD Try.prog 89 = some [.nilFunc] := by kernel_rfl
theorem ld90 : tyLoad Try.prog 90 = some (true, 4) := by kernel_rfl
theorem z90 : zeroD Try.prog 90 = some [.pointer none, .pointer none, .pointer none, .string ByteArray.empty] := by kernel_rfl
theorem pl90 : places Try.prog 90 = some [(0, 1), (1, 1), (2, 1), (3, 1)] := by kernel_rfl
theorem fo90_0 : fieldOff Try.prog 90 0 = some 0 := by kernel_rfl
theorem ft90_0 : fieldTy Try.prog 90 0 = some (0, false, 1) := by kernel_rfl
theorem fo90_1 : fieldOff Try.prog 90 1 = some 1 := by kernel_rfl
theorem ft90_1 : fieldTy Try.prog 90 1 = some (1, false, 1) := by kernel_rfl
theorem fo90_2 : fieldOff Try.prog 90 2 = some 2 := by kernel_rfl
theorem ft90_2 : fieldTy Try.prog 90 2 = some (2, false, 1) := by kernel_rfl
theorem fo90_3 : fieldOff Try.prog 90 3 = some 3 := by kernel_rfl
theorem ft90_3 : fieldTy Try.prog 90 3 = some (3, false, 1) := by kernel_rfl
theorem ld92 : tyLoad Try.prog 92 = some (true, 0) := by kernel_rfl
theorem z92 : zeroD Try.prog 92 = some [] := by kernel_rfl
theorem ld93 : tyLoad Try.prog 93 = some (true, 0) := by kernel_rfl
theorem z93 : zeroD Try.prog 93 = some [] := by kernel_rfl
theorem pl93 : places Try.prog 93 = some [(0, 0)] := by kernel_rfl
theorem ft93_0 : fieldTy Try.prog 93 0 = some (0, true, 0) := by kernel_rfl
theorem z95 : zeroD Try.prog 95 = some [.nilFunc] := by kernel_rfl
theorem ld96 : tyLoad Try.prog 96 = some (false, 1) := by kernel_rfl
theorem ui96 : Try.prog.underlying 96 = some (.int .u32) := by kernel_rfl
theorem z96 : zeroD Try.prog 96 = some [.int .u32 0] := by kernel_rfl
theorem z99 : zeroD Try.prog 99 = some [.nilFunc] := by kernel_rfl
theorem ld100 : tyLoad Try.prog 100 = some (false, 1) := by kernel_rfl
theorem z100 : zeroD Try.prog 100 = some [.pointer none] := by kernel_rfl
theorem ld103 : tyLoad Try.prog 103 = some (true, 11) := by kernel_rfl
theorem z103 : zeroD Try.prog 103 = some [.int .u64 0, .int .u64 0, .int .u32 0, .int .u8 0, .int .u8 0, .int .u8 0, .int .u8 0, .nilFunc, .pointer none, .int .i32 0, .int .i32 0] := by kernel_rfl
theorem pl103 : places Try.prog 103 = some [(0, 1), (1, 1), (2, 1), (3, 1), (4, 1), (5, 1), (6, 1), (7, 1), (8, 1), (9, 1), (10, 1)] := by kernel_rfl
theorem fo103_0 : fieldOff Try.prog 103 0 = some 0 := by kernel_rfl
theorem ft103_0 : fieldTy Try.prog 103 0 = some (0, false, 1) := by kernel_rfl
theorem fo103_1 : fieldOff Try.prog 103 1 = some 1 := by kernel_rfl
theorem ft103_1 : fieldTy Try.prog 103 1 = some (1, false, 1) := by kernel_rfl
theorem fo103_2 : fieldOff Try.prog 103 2 = some 2 := by kernel_rfl
theorem ft103_2 : fieldTy Try.prog 103 2 = some (2, false, 1) := by kernel_rfl
theorem fo103_3 : fieldOff Try.prog 103 3 = some 3 := by kernel_rfl
theorem ft103_3 : fieldTy Try.prog 103 3 = some (3, false, 1) := by kernel_rfl
theorem fo103_4 : fieldOff Try.prog 103 4 = some 4 := by kernel_rfl
theorem ft103_4 : fieldTy Try.prog 103 4 = some (4, false, 1) := by kernel_rfl
theorem fo103_5 : fieldOff Try.prog 103 5 = some 5 := by kernel_rfl
theorem ft103_5 : fieldTy Try.prog 103 5 = some (5, false, 1) := by kernel_rfl
theorem fo103_6 : fieldOff Try.prog 103 6 = some 6 := by kernel_rfl
theorem ft103_6 : fieldTy Try.prog 103 6 = some (6, false, 1) := by kernel_rfl
theorem fo103_7 : fieldOff Try.prog 103 7 = some 7 := by kernel_rfl
theorem ft103_7 : fieldTy Try.prog 103 7 = some (7, false, 1) := by kernel_rfl
theorem fo103_8 : fieldOff Try.prog 103 8 = some 8 := by kernel_rfl
theorem ft103_8 : fieldTy Try.prog 103 8 = some (8, false, 1) := by kernel_rfl
theorem fo103_9 : fieldOff Try.prog 103 9 = some 9 := by kernel_rfl
theorem ft103_9 : fieldTy Try.prog 103 9 = some (9, false, 1) := by kernel_rfl
theorem fo103_10 : fieldOff Try.prog 103 10 = some 10 := by kernel_rfl
theorem ft103_10 : fieldTy Try.prog 103 10 = some (10, false, 1) := by kernel_rfl
theorem all0 : (zeroD Try.prog 1 = some [.nilFunc]) ∧ (tyLoad Try.prog 2 = some (false, 1)) ∧ (Try.prog.underlying 2 = some (.int .i64)) ∧ (zeroD Try.prog 2 = some [.int .i64 0]) ∧ (tyLoad Try.prog 3 = some (false, 1)) ∧ (Try.prog.underlying 3 = some (.int .i64)) ∧ (zeroD Try.prog 3 = some [.int .i64 0]) ∧ (tyLoad Try.prog 4 = some (false, 1)) ∧ (Try.prog.underlying 4 = some .bool) ∧ (zeroD Try.prog 4 = some [.bool false]) ∧ (tyLoad Try.prog 5 = some (false, 1)) ∧ (Try.prog.underlying 5 = some (.int .u8)) ∧ (zeroD Try.prog 5 = some [.int .u8 0]) ∧ (tyLoad Try.prog 7 = some (true, 4)) ∧ (zeroD Try.prog 7 = some [.int .i64 0, .int .i64 0, .bool false, .int .u8 0]) ∧ (places Try.prog 7 = some [(0, 1), (1, 1), (2, 1), (3, 1)]) ∧ (fieldOff Try.prog 7 0 = some 0) ∧ (fieldTy Try.prog 7 0 = some (0, false, 1)) ∧ (fieldOff Try.prog 7 1 = some 1) ∧ (fieldTy Try.prog 7 1 = some (1, false, 1)) ∧ (fieldOff Try.prog 7 2 = some 2) ∧ (fieldTy Try.prog 7 2 = some (2, false, 1)) ∧ (fieldOff Try.prog 7 3 = some 3) ∧ (fieldTy Try.prog 7 3 = some (3, false, 1)) ∧ (tyLoad Try.prog 9 = some (false, 1)) ∧ (Try.prog.underlying 9 = some .string) ∧ (zeroD Try.prog 9 = some [.string ByteArray.empty]) ∧ (tyLoad Try.prog 12 = some (false, 1)) ∧ (Try.prog.underlying 12 = some (.int .u64)) ∧ (zeroD Try.prog 12 = some [.int .u64 0]) ∧ (tyLoad Try.prog 13 = some (true, 2)) ∧ (zeroD Try.prog 13 = some [.string ByteArray.empty, .int .u64 0]) ∧ (places Try.prog 13 = some [(0, 1), (1, 1)]) ∧ (fieldOff Try.prog 13 0 = some 0) ∧ (fieldTy Try.prog 13 0 = some (0, false, 1)) ∧ (fieldOff Try.prog 13 1 = some 1) ∧ (fieldTy Try.prog 13 1 = some (1, false, 1)) ∧ (tyLoad Try.prog 15 = some (false, 1)) ∧ (zeroD Try.prog 15 = some [.pointer none]) ∧ (tyLoad Try.prog 16 = some (false, 1)) := ⟨z1, ld2, ui2, z2, ld3, ui3, z3, ld4, ub4, z4, ld5, ui5, z5, ld7, z7, pl7, fo7_0, ft7_0, fo7_1, ft7_1, fo7_2, ft7_2, fo7_3, ft7_3, ld9, ub9, z9, ld12, ui12, z12, ld13, z13, pl13, fo13_0, ft13_0, fo13_1, ft13_1, ld15, z15, ld16⟩
theorem all1 : (zeroD Try.prog 16 = some [.pointer none]) ∧ (tyLoad Try.prog 17 = some (false, 1)) ∧ (zeroD Try.prog 17 = some [.pointer none]) ∧ (tyLoad Try.prog 18 = some (true, 1)) ∧ (zeroD Try.prog 18 = some [.pointer none]) ∧ (places Try.prog 18 = some [(0, 1)]) ∧ (fieldOff Try.prog 18 0 = some 0) ∧ (fieldTy Try.prog 18 0 = some (0, false, 1)) ∧ (zeroD Try.prog 20 = some [.nilIface]) ∧ (tyLoad Try.prog 21 = some (false, 1)) ∧ (Try.prog.underlying 21 = some (.int .i32)) ∧ (zeroD Try.prog 21 = some [.int .i32 0]) ∧ (tyLoad Try.prog 22 = some (false, 1)) ∧ (Try.prog.underlying 22 = some (.slice 24)) ∧ (elemTy Try.prog 22 = some (24, 4, 48)) ∧ (zeroD Try.prog 22 = some [.slice none 0 0]) ∧ (tyLoad Try.prog 23 = some (true, 4)) ∧ (zeroD Try.prog 23 = some [.int .i64 0, .int .i64 0, .bool false, .slice none 0 0]) ∧ (places Try.prog 23 = some [(0, 1), (1, 1), (2, 1), (3, 1)]) ∧ (fieldOff Try.prog 23 0 = some 0) ∧ (fieldTy Try.prog 23 0 = some (0, false, 1)) ∧ (fieldOff Try.prog 23 1 = some 1) ∧ (fieldTy Try.prog 23 1 = some (1, false, 1)) ∧ (fieldOff Try.prog 23 2 = some 2) ∧ (fieldTy Try.prog 23 2 = some (2, false, 1)) ∧ (fieldOff Try.prog 23 3 = some 3) ∧ (fieldTy Try.prog 23 3 = some (3, false, 1)) ∧ (tyLoad Try.prog 24 = some (true, 4)) ∧ (zeroD Try.prog 24 = some [.int .i64 0, .int .i64 0, .bool false, .slice none 0 0]) ∧ (places Try.prog 24 = some [(0, 1), (1, 1), (2, 1), (3, 1)]) ∧ (fieldOff Try.prog 24 0 = some 0) ∧ (fieldTy Try.prog 24 0 = some (0, false, 1)) ∧ (fieldOff Try.prog 24 1 = some 1) ∧ (fieldTy Try.prog 24 1 = some (1, false, 1)) ∧ (fieldOff Try.prog 24 2 = some 2) ∧ (fieldTy Try.prog 24 2 = some (2, false, 1)) ∧ (fieldOff Try.prog 24 3 = some 3) ∧ (fieldTy Try.prog 24 3 = some (3, false, 1)) ∧ (tyLoad Try.prog 25 = some (true, 2)) ∧ (zeroD Try.prog 25 = some [.int .i64 0, .bool false]) := ⟨z16, ld17, z17, ld18, z18, pl18, fo18_0, ft18_0, z20, ld21, ui21, z21, ld22, us22, el22, z22, ld23, z23, pl23, fo23_0, ft23_0, fo23_1, ft23_1, fo23_2, ft23_2, fo23_3, ft23_3, ld24, z24, pl24, fo24_0, ft24_0, fo24_1, ft24_1, fo24_2, ft24_2, fo24_3, ft24_3, ld25, z25⟩
theorem all2 : (places Try.prog 25 = some [(0, 1), (1, 1)]) ∧ (fieldOff Try.prog 25 0 = some 0) ∧ (fieldTy Try.prog 25 0 = some (0, false, 1)) ∧ (fieldOff Try.prog 25 1 = some 1) ∧ (fieldTy Try.prog 25 1 = some (1, false, 1)) ∧ (tyLoad Try.prog 26 = some (true, 2)) ∧ (zeroD Try.prog 26 = some [.int .i64 0, .bool false]) ∧ (places Try.prog 26 = some [(0, 1), (1, 1)]) ∧ (fieldOff Try.prog 26 0 = some 0) ∧ (fieldTy Try.prog 26 0 = some (0, false, 1)) ∧ (fieldOff Try.prog 26 1 = some 1) ∧ (fieldTy Try.prog 26 1 = some (1, false, 1)) ∧ (zeroD Try.prog 27 = some [.nilFunc]) ∧ (zeroD Try.prog 28 = some [.nilFunc]) ∧ (tyLoad Try.prog 29 = some (false, 1)) ∧ (Try.prog.underlying 29 = some (.int .i64)) ∧ (zeroD Try.prog 29 = some [.int .i64 0]) ∧ (zeroD Try.prog 31 = some [.nilFunc]) ∧ (zeroD Try.prog 32 = some [.nilFunc]) ∧ (tyLoad Try.prog 33 = some (false, 1)) ∧ (Try.prog.underlying 33 = some (.slice 3)) ∧ (elemTy Try.prog 33 = some (3, 1, 8)) ∧ (zeroD Try.prog 33 = some [.slice none 0 0]) ∧ (zeroD Try.prog 35 = some [.nilFunc]) ∧ (zeroD Try.prog 37 = some [.nilFunc]) ∧ (zeroD Try.prog 38 = some [.nilFunc]) ∧ (zeroD Try.prog 39 = some [.nilFunc]) ∧ (zeroD Try.prog 40 = some [.nilFunc]) ∧ (zeroD Try.prog 41 = some [.nilFunc]) ∧ (zeroD Try.prog 42 = some [.nilFunc]) ∧ (zeroD Try.prog 43 = some [.nilFunc]) ∧ (zeroD Try.prog 44 = some [.nilFunc]) ∧ (zeroD Try.prog 45 = some [.nilFunc]) ∧ (zeroD Try.prog 47 = some [.nilFunc]) ∧ (tyLoad Try.prog 48 = some (false, 1)) ∧ (zeroD Try.prog 48 = some [.map none]) ∧ (zeroD Try.prog 49 = some [.nilFunc]) ∧ (zeroD Try.prog 50 = some [.nilFunc]) ∧ (zeroD Try.prog 51 = some [.nilFunc]) ∧ (tyLoad Try.prog 52 = some (true, 2)) := ⟨pl25, fo25_0, ft25_0, fo25_1, ft25_1, ld26, z26, pl26, fo26_0, ft26_0, fo26_1, ft26_1, z27, z28, ld29, ui29, z29, z31, z32, ld33, us33, el33, z33, z35, z37, z38, z39, z40, z41, z42, z43, z44, z45, z47, ld48, z48, z49, z50, z51, ld52⟩
theorem all3 : (zeroD Try.prog 52 = some [.int .i64 0, .int .i64 0]) ∧ (places Try.prog 52 = some [(0, 1), (1, 1)]) ∧ (fieldOff Try.prog 52 0 = some 0) ∧ (fieldTy Try.prog 52 0 = some (0, false, 1)) ∧ (fieldOff Try.prog 52 1 = some 1) ∧ (fieldTy Try.prog 52 1 = some (1, false, 1)) ∧ (tyLoad Try.prog 53 = some (true, 2)) ∧ (zeroD Try.prog 53 = some [.int .i64 0, .int .i64 0]) ∧ (places Try.prog 53 = some [(0, 1), (1, 1)]) ∧ (fieldOff Try.prog 53 0 = some 0) ∧ (fieldTy Try.prog 53 0 = some (0, false, 1)) ∧ (fieldOff Try.prog 53 1 = some 1) ∧ (fieldTy Try.prog 53 1 = some (1, false, 1)) ∧ (zeroD Try.prog 55 = some [.nilFunc]) ∧ (tyLoad Try.prog 56 = some (true, 2)) ∧ (zeroD Try.prog 56 = some [.int .i64 0, .int .i64 0]) ∧ (places Try.prog 56 = some [(0, 1), (1, 1)]) ∧ (fieldOff Try.prog 56 0 = some 0) ∧ (fieldTy Try.prog 56 0 = some (0, false, 1)) ∧ (fieldOff Try.prog 56 1 = some 1) ∧ (fieldTy Try.prog 56 1 = some (1, false, 1)) ∧ (tyLoad Try.prog 57 = some (true, 2)) ∧ (zeroD Try.prog 57 = some [.int .i64 0, .int .i64 0]) ∧ (places Try.prog 57 = some [(0, 1), (1, 1)]) ∧ (fieldOff Try.prog 57 0 = some 0) ∧ (fieldTy Try.prog 57 0 = some (0, false, 1)) ∧ (fieldOff Try.prog 57 1 = some 1) ∧ (fieldTy Try.prog 57 1 = some (1, false, 1)) ∧ (zeroD Try.prog 58 = some [.nilFunc]) ∧ (zeroD Try.prog 60 = some [.nilFunc]) ∧ (tyLoad Try.prog 61 = some (true, 3)) ∧ (zeroD Try.prog 61 = some [.int .i64 0, .int .i64 0, .bool false]) ∧ (places Try.prog 61 = some [(0, 1), (1, 1), (2, 1)]) ∧ (fieldOff Try.prog 61 0 = some 0) ∧ (fieldTy Try.prog 61 0 = some (0, false, 1)) ∧ (fieldOff Try.prog 61 1 = some 1) ∧ (fieldTy Try.prog 61 1 = some (1, false, 1)) ∧ (fieldOff Try.prog 61 2 = some 2) ∧ (fieldTy Try.prog 61 2 = some (2, false, 1)) ∧ (tyLoad Try.prog 62 = some (true, 3)) := ⟨z52, pl52, fo52_0, ft52_0, fo52_1, ft52_1, ld53, z53, pl53, fo53_0, ft53_0, fo53_1, ft53_1, z55, ld56, z56, pl56, fo56_0, ft56_0, fo56_1, ft56_1, ld57, z57, pl57, fo57_0, ft57_0, fo57_1, ft57_1, z58, z60, ld61, z61, pl61, fo61_0, ft61_0, fo61_1, ft61_1, fo61_2, ft61_2, ld62⟩
theorem all4 : (zeroD Try.prog 62 = some [.int .i64 0, .int .i64 0, .bool false]) ∧ (places Try.prog 62 = some [(0, 1), (1, 1), (2, 1)]) ∧ (fieldOff Try.prog 62 0 = some 0) ∧ (fieldTy Try.prog 62 0 = some (0, false, 1)) ∧ (fieldOff Try.prog 62 1 = some 1) ∧ (fieldTy Try.prog 62 1 = some (1, false, 1)) ∧ (fieldOff Try.prog 62 2 = some 2) ∧ (fieldTy Try.prog 62 2 = some (2, false, 1)) ∧ (zeroD Try.prog 63 = some [.nilFunc]) ∧ (zeroD Try.prog 64 = some [.nilFunc]) ∧ (zeroD Try.prog 65 = some [.nilFunc]) ∧ (zeroD Try.prog 66 = some [.nilFunc]) ∧ (zeroD Try.prog 67 = some [.nilFunc]) ∧ (zeroD Try.prog 68 = some [.nilFunc]) ∧ (tyLoad Try.prog 69 = some (false, 1)) ∧ (Try.prog.underlying 69 = some (.slice 4)) ∧ (elemTy Try.prog 69 = some (4, 1, 1)) ∧ (zeroD Try.prog 69 = some [.slice none 0 0]) ∧ (zeroD Try.prog 70 = some [.nilFunc]) ∧ (zeroD Try.prog 72 = some [.nilFunc]) ∧ (zeroD Try.prog 73 = some [.nilFunc]) ∧ (zeroD Try.prog 75 = some [.nilFunc]) ∧ (zeroD Try.prog 76 = some [.nilFunc]) ∧ (zeroD Try.prog 77 = some [.nilFunc]) ∧ (zeroD Try.prog 78 = some [.nilFunc]) ∧ (tyLoad Try.prog 79 = some (false, 1)) ∧ (Try.prog.underlying 79 = some (.slice 33)) ∧ (elemTy Try.prog 79 = some (33, 1, 24)) ∧ (zeroD Try.prog 79 = some [.slice none 0 0]) ∧ (zeroD Try.prog 80 = some [.nilFunc]) ∧ (zeroD Try.prog 81 = some [.nilFunc]) ∧ (zeroD Try.prog 82 = some [.nilFunc]) ∧ (zeroD Try.prog 83 = some [.nilFunc]) ∧ (tyLoad Try.prog 84 = some (false, 1)) ∧ (zeroD Try.prog 84 = some [.pointer none]) ∧ (zeroD Try.prog 85 = some [.nilFunc]) ∧ (zeroD Try.prog 86 = some [.nilFunc]) ∧ (zeroD Try.prog 87 = some [.nilFunc]) ∧ (zeroD Try.prog 88 = some [.nilFunc]) ∧ (zeroD Try.prog 89 = some [.nilFunc]) := ⟨z62, pl62, fo62_0, ft62_0, fo62_1, ft62_1, fo62_2, ft62_2, z63, z64, z65, z66, z67, z68, ld69, us69, el69, z69, z70, z72, z73, z75, z76, z77, z78, ld79, us79, el79, z79, z80, z81, z82, z83, ld84, z84, z85, z86, z87, z88, z89⟩
theorem all5 : (tyLoad Try.prog 90 = some (true, 4)) ∧ (zeroD Try.prog 90 = some [.pointer none, .pointer none, .pointer none, .string ByteArray.empty]) ∧ (places Try.prog 90 = some [(0, 1), (1, 1), (2, 1), (3, 1)]) ∧ (fieldOff Try.prog 90 0 = some 0) ∧ (fieldTy Try.prog 90 0 = some (0, false, 1)) ∧ (fieldOff Try.prog 90 1 = some 1) ∧ (fieldTy Try.prog 90 1 = some (1, false, 1)) ∧ (fieldOff Try.prog 90 2 = some 2) ∧ (fieldTy Try.prog 90 2 = some (2, false, 1)) ∧ (fieldOff Try.prog 90 3 = some 3) ∧ (fieldTy Try.prog 90 3 = some (3, false, 1)) ∧ (tyLoad Try.prog 92 = some (true, 0)) ∧ (zeroD Try.prog 92 = some []) ∧ (tyLoad Try.prog 93 = some (true, 0)) ∧ (zeroD Try.prog 93 = some []) ∧ (places Try.prog 93 = some [(0, 0)]) ∧ (fieldTy Try.prog 93 0 = some (0, true, 0)) ∧ (zeroD Try.prog 95 = some [.nilFunc]) ∧ (tyLoad Try.prog 96 = some (false, 1)) ∧ (Try.prog.underlying 96 = some (.int .u32)) ∧ (zeroD Try.prog 96 = some [.int .u32 0]) ∧ (zeroD Try.prog 99 = some [.nilFunc]) ∧ (tyLoad Try.prog 100 = some (false, 1)) ∧ (zeroD Try.prog 100 = some [.pointer none]) ∧ (tyLoad Try.prog 103 = some (true, 11)) ∧ (zeroD Try.prog 103 = some [.int .u64 0, .int .u64 0, .int .u32 0, .int .u8 0, .int .u8 0, .int .u8 0, .int .u8 0, .nilFunc, .pointer none, .int .i32 0, .int .i32 0]) ∧ (places Try.prog 103 = some [(0, 1), (1, 1), (2, 1), (3, 1), (4, 1), (5, 1), (6, 1), (7, 1), (8, 1), (9, 1), (10, 1)]) ∧ (fieldOff Try.prog 103 0 = some 0) ∧ (fieldTy Try.prog 103 0 = some (0, false, 1)) ∧ (fieldOff Try.prog 103 1 = some 1) ∧ (fieldTy Try.prog 103 1 = some (1, false, 1)) ∧ (fieldOff Try.prog 103 2 = some 2) ∧ (fieldTy Try.prog 103 2 = some (2, false, 1)) ∧ (fieldOff Try.prog 103 3 = some 3) ∧ (fieldTy Try.prog 103 3 = some (3, false, 1)) ∧ (fieldOff Try.prog 103 4 = some 4) ∧ (fieldTy Try.prog 103 4 = some (4, false, 1)) ∧ (fieldOff Try.prog 103 5 = some 5) ∧ (fieldTy Try.prog 103 5 = some (5, false, 1)) ∧ (fieldOff Try.prog 103 6 = some 6) := ⟨ld90, z90, pl90, fo90_0, ft90_0, fo90_1, ft90_1, fo90_2, ft90_2, fo90_3, ft90_3, ld92, z92, ld93, z93, pl93, ft93_0, z95, ld96, ui96, z96, z99, ld100, z100, ld103, z103, pl103, fo103_0, ft103_0, fo103_1, ft103_1, fo103_2, ft103_2, fo103_3, ft103_3, fo103_4, ft103_4, fo103_5, ft103_5, fo103_6⟩
theorem all6 : (fieldTy Try.prog 103 6 = some (6, false, 1)) ∧ (fieldOff Try.prog 103 7 = some 7) ∧ (fieldTy Try.prog 103 7 = some (7, false, 1)) ∧ (fieldOff Try.prog 103 8 = some 8) ∧ (fieldTy Try.prog 103 8 = some (8, false, 1)) ∧ (fieldOff Try.prog 103 9 = some 9) ∧ (fieldTy Try.prog 103 9 = some (9, false, 1)) ∧ (fieldOff Try.prog 103 10 = some 10) ∧ (fieldTy Try.prog 103 10 = some (10, false, 1)) := ⟨ft103_6, fo103_7, ft103_7, fo103_8, ft103_8, fo103_9, ft103_9, fo103_10, ft103_10⟩
end Go.Proofs.Ytdknkfioigcfiaa.Ty
