/- What is known of the program's types and functions: written by a program of the author's. -/
import Derived.Test.YtoigogonccjagaaDoorEx
import Derived.Test.YtoigogonccjagaaDoorProg
import Derived.KernelRfl
set_option maxRecDepth 100000
set_option linter.unusedSimpArgs false
namespace Go.Sl
open Go Go.Proofs
instance : Mixed Tryd.prog := ⟨by kernel_rfl⟩
instance : Fun Tryd.prog 2 := ⟨Tryd.call2⟩
instance : Fun Tryd.prog 3 := ⟨Tryd.call3⟩
instance : Fun Tryd.prog 4 := ⟨Tryd.call4⟩
instance : Fun Tryd.prog 5 := ⟨Tryd.call5⟩
instance : Fun Tryd.prog 6 := ⟨Tryd.call6⟩
instance : Fun Tryd.prog 7 := ⟨Tryd.call7⟩
instance : Fun Tryd.prog 8 := ⟨Tryd.call8⟩
instance : Fun Tryd.prog 9 := ⟨Tryd.call9⟩
instance : Fun Tryd.prog 10 := ⟨Tryd.call10⟩
instance : Fun Tryd.prog 11 := ⟨Tryd.call11⟩
instance : Fun Tryd.prog 12 := ⟨Tryd.call12⟩
instance : Fun Tryd.prog 13 := ⟨Tryd.call13⟩
instance : Fun Tryd.prog 14 := ⟨Tryd.call14⟩
instance : Fun Tryd.prog 15 := ⟨Tryd.call15⟩
instance : Fun Tryd.prog 16 := ⟨Tryd.call16⟩
instance : Fun Tryd.prog 17 := ⟨Tryd.call17⟩
instance : Fun Tryd.prog 18 := ⟨Tryd.call18⟩
instance : Fun Tryd.prog 19 := ⟨Tryd.call19⟩
instance : Fun Tryd.prog 20 := ⟨Tryd.call20⟩
instance : Fun Tryd.prog 21 := ⟨Tryd.call21⟩
instance : Fun Tryd.prog 22 := ⟨Tryd.call22⟩
instance : Fun Tryd.prog 23 := ⟨Tryd.call23⟩
instance : Fun Tryd.prog 24 := ⟨Tryd.call24⟩
instance : Fun Tryd.prog 25 := ⟨Tryd.call25⟩
instance : Fun Tryd.prog 26 := ⟨Tryd.call26⟩
instance : Fun Tryd.prog 27 := ⟨Tryd.call27⟩
instance : Fun Tryd.prog 28 := ⟨Tryd.call28⟩
instance : Fun Tryd.prog 29 := ⟨Tryd.call29⟩
instance : Fun Tryd.prog 30 := ⟨Tryd.call30⟩
instance : Fun Tryd.prog 31 := ⟨Tryd.call31⟩
instance : Fun Tryd.prog 32 := ⟨Tryd.call32⟩
instance : Fun Tryd.prog 33 := ⟨Tryd.call33⟩
instance : Fun Tryd.prog 34 := ⟨Tryd.call34⟩
instance : Fun Tryd.prog 35 := ⟨Tryd.call35⟩
instance : Fun Tryd.prog 36 := ⟨Tryd.call36⟩
instance : Fun Tryd.prog 37 := ⟨Tryd.call37⟩
instance : Fun Tryd.prog 38 := ⟨Tryd.call38⟩
instance : Fun Tryd.prog 39 := ⟨Tryd.call39⟩
instance : Fun Tryd.prog 40 := ⟨Tryd.call40⟩
instance : Fun Tryd.prog 41 := ⟨Tryd.call41⟩
instance : Fun Tryd.prog 42 := ⟨Tryd.call42⟩
instance : Fun Tryd.prog 43 := ⟨Tryd.call43⟩
instance : Fun Tryd.prog 44 := ⟨Tryd.call44⟩
instance : Fun Tryd.prog 45 := ⟨Tryd.call45⟩
instance : Fun Tryd.prog 46 := ⟨Tryd.call46⟩
instance : Fun Tryd.prog 47 := ⟨Tryd.call47⟩
instance : Fun Tryd.prog 48 := ⟨Tryd.call48⟩
instance : Fun Tryd.prog 49 := ⟨Tryd.call49⟩
instance : Fun Tryd.prog 50 := ⟨Tryd.call50⟩
instance : Fun Tryd.prog 51 := ⟨Tryd.call51⟩
instance : Fun Tryd.prog 52 := ⟨Tryd.call52⟩
instance : Fun Tryd.prog 53 := ⟨Tryd.call53⟩
instance : Fun Tryd.prog 54 := ⟨Tryd.call54⟩
instance : Fun Tryd.prog 55 := ⟨Tryd.call55⟩
instance : Fun Tryd.prog 56 := ⟨Tryd.call56⟩
instance : Fun Tryd.prog 57 := ⟨Tryd.call57⟩
instance : Fun Tryd.prog 58 := ⟨Tryd.call58⟩
instance : Fun Tryd.prog 59 := ⟨Tryd.call59⟩
instance : Fun Tryd.prog 60 := ⟨Tryd.call60⟩
instance : Fun Tryd.prog 61 := ⟨Tryd.call61⟩
instance : Fun Tryd.prog 62 := ⟨Tryd.call62⟩
instance : Fun Tryd.prog 63 := ⟨Tryd.call63⟩
instance : Fun Tryd.prog 67 := ⟨Tryd.call67⟩
instance : Fun Tryd.prog 68 := ⟨Tryd.call68⟩
instance : Fun Tryd.prog 69 := ⟨Tryd.call69⟩
instance : Fun Tryd.prog 110 := ⟨Tryd.call110⟩
instance : TyI Tryd.prog 1 false 1 8 ([.nilFunc]) := ⟨⟨Tryd.t1, by kernel_rfl, by kernel_rfl, by kernel_rfl, by kernel_rfl, (fun _ => ⟨_, rfl, rfl⟩), by kernel_rfl, by kernel_rfl⟩, Tryd.isAgg1⟩
instance : TyU Tryd.prog 2 (.int .i64) := ⟨Tryd.underlying2⟩
instance : TyI Tryd.prog 2 false 1 8 ([.int .i64 0]) := ⟨⟨Tryd.t2, by kernel_rfl, by kernel_rfl, by kernel_rfl, by kernel_rfl, (fun _ => ⟨_, rfl, rfl⟩), by kernel_rfl, by kernel_rfl⟩, Tryd.isAgg2⟩
instance : TyU Tryd.prog 3 (.int .i64) := ⟨Tryd.underlying3⟩
instance : TyI Tryd.prog 3 false 1 8 ([.int .i64 0]) := ⟨⟨Tryd.t3, by kernel_rfl, by kernel_rfl, by kernel_rfl, by kernel_rfl, (fun _ => ⟨_, rfl, rfl⟩), by kernel_rfl, by kernel_rfl⟩, Tryd.isAgg3⟩
instance : TyU Tryd.prog 4 .bool := ⟨Tryd.underlying4⟩
instance : TyI Tryd.prog 4 false 1 1 ([.bool false]) := ⟨⟨Tryd.t4, by kernel_rfl, by kernel_rfl, by kernel_rfl, by kernel_rfl, (fun _ => ⟨_, rfl, rfl⟩), by kernel_rfl, by kernel_rfl⟩, Tryd.isAgg4⟩
instance : TyU Tryd.prog 5 (.int .u8) := ⟨Tryd.underlying5⟩
instance : TyI Tryd.prog 5 false 1 1 ([.int .u8 0]) := ⟨⟨Tryd.t5, by kernel_rfl, by kernel_rfl, by kernel_rfl, by kernel_rfl, (fun _ => ⟨_, rfl, rfl⟩), by kernel_rfl, by kernel_rfl⟩, Tryd.isAgg5⟩
instance : TyU Tryd.prog 6 (.int .u8) := ⟨Tryd.underlying6⟩
instance : TyI Tryd.prog 6 false 1 1 ([.int .u8 0]) := ⟨⟨Tryd.t6, by kernel_rfl, by kernel_rfl, by kernel_rfl, by kernel_rfl, (fun _ => ⟨_, rfl, rfl⟩), by kernel_rfl, by kernel_rfl⟩, Tryd.isAgg6⟩
instance : TyI Tryd.prog 7 true 4 24 (.int .i64 0 :: (.int .i64 0 :: (.bool false :: [.int .u8 0]))) := ⟨⟨Tryd.t7, by kernel_rfl, by kernel_rfl, by kernel_rfl, by kernel_rfl, (fun h => by cases h), by kernel_rfl, by kernel_rfl⟩, Tryd.isAgg7⟩
instance : TyS Tryd.prog 7 [(0, 1), (1, 1), (2, 1), (3, 1)] := ⟨_, Tryd.underlying7, fun w => by simp [Tryd.sizeOf2, Tryd.sizeOf3, Tryd.sizeOf4, Tryd.sizeOf6]⟩
instance : TyF Tryd.prog 7 0 0 2 := ⟨⟨_, _, Tryd.t2, Tryd.underlying7, rfl, rfl, rfl, by kernel_rfl, by intro h; cases h⟩⟩
instance : TyF Tryd.prog 7 1 1 3 := ⟨⟨_, _, Tryd.t3, Tryd.underlying7, rfl, rfl, rfl, by kernel_rfl, by intro h; cases h⟩⟩
instance : TyF Tryd.prog 7 2 2 4 := ⟨⟨_, _, Tryd.t4, Tryd.underlying7, rfl, rfl, rfl, by kernel_rfl, by intro h; cases h⟩⟩
instance : TyF Tryd.prog 7 3 3 6 := ⟨⟨_, _, Tryd.t6, Tryd.underlying7, rfl, rfl, rfl, by kernel_rfl, by intro h; cases h⟩⟩
instance : TyI Tryd.prog 8 true 4 24 (.int .i64 0 :: (.int .i64 0 :: (.bool false :: [.int .u8 0]))) := ⟨⟨Tryd.t8, by kernel_rfl, by kernel_rfl, by kernel_rfl, by kernel_rfl, (fun h => by cases h), by kernel_rfl, by kernel_rfl⟩, Tryd.isAgg8⟩
instance : TyS Tryd.prog 8 [(0, 1), (1, 1), (2, 1), (3, 1)] := ⟨_, Tryd.underlying8, fun w => by simp [Tryd.sizeOf2, Tryd.sizeOf3, Tryd.sizeOf4, Tryd.sizeOf6]⟩
instance : TyF Tryd.prog 8 0 0 2 := ⟨⟨_, _, Tryd.t2, Tryd.underlying8, rfl, rfl, rfl, by kernel_rfl, by intro h; cases h⟩⟩
instance : TyF Tryd.prog 8 1 1 3 := ⟨⟨_, _, Tryd.t3, Tryd.underlying8, rfl, rfl, rfl, by kernel_rfl, by intro h; cases h⟩⟩
instance : TyF Tryd.prog 8 2 2 4 := ⟨⟨_, _, Tryd.t4, Tryd.underlying8, rfl, rfl, rfl, by kernel_rfl, by intro h; cases h⟩⟩
instance : TyF Tryd.prog 8 3 3 6 := ⟨⟨_, _, Tryd.t6, Tryd.underlying8, rfl, rfl, rfl, by kernel_rfl, by intro h; cases h⟩⟩
instance : TyU Tryd.prog 9 .string := ⟨Tryd.underlying9⟩
instance : TyI Tryd.prog 9 false 1 16 ([.string ⟨#[]⟩]) := ⟨⟨Tryd.t9, by kernel_rfl, by kernel_rfl, by kernel_rfl, by kernel_rfl, (fun _ => ⟨_, rfl, rfl⟩), by kernel_rfl, by kernel_rfl⟩, Tryd.isAgg9⟩
instance : TyU Tryd.prog 10 .string := ⟨Tryd.underlying10⟩
instance : TyI Tryd.prog 10 false 1 16 ([.string ⟨#[]⟩]) := ⟨⟨Tryd.t10, by kernel_rfl, by kernel_rfl, by kernel_rfl, by kernel_rfl, (fun _ => ⟨_, rfl, rfl⟩), by kernel_rfl, by kernel_rfl⟩, Tryd.isAgg10⟩
instance : TyU Tryd.prog 11 .string := ⟨Tryd.underlying11⟩
instance : TyI Tryd.prog 11 false 1 16 ([.string ⟨#[]⟩]) := ⟨⟨Tryd.t11, by kernel_rfl, by kernel_rfl, by kernel_rfl, by kernel_rfl, (fun _ => ⟨_, rfl, rfl⟩), by kernel_rfl, by kernel_rfl⟩, Tryd.isAgg11⟩
instance : TyU Tryd.prog 12 (.int .u64) := ⟨Tryd.underlying12⟩
instance : TyI Tryd.prog 12 false 1 8 ([.int .u64 0]) := ⟨⟨Tryd.t12, by kernel_rfl, by kernel_rfl, by kernel_rfl, by kernel_rfl, (fun _ => ⟨_, rfl, rfl⟩), by kernel_rfl, by kernel_rfl⟩, Tryd.isAgg12⟩
instance : TyI Tryd.prog 13 true 2 24 (.string ⟨#[]⟩ :: [.int .u64 0]) := ⟨⟨Tryd.t13, by kernel_rfl, by kernel_rfl, by kernel_rfl, by kernel_rfl, (fun h => by cases h), by kernel_rfl, by kernel_rfl⟩, Tryd.isAgg13⟩
instance : TyS Tryd.prog 13 [(0, 1), (1, 1)] := ⟨_, Tryd.underlying13, fun w => by simp [Tryd.sizeOf9, Tryd.sizeOf12]⟩
instance : TyF Tryd.prog 13 0 0 9 := ⟨⟨_, _, Tryd.t9, Tryd.underlying13, rfl, rfl, rfl, by kernel_rfl, by intro h; cases h⟩⟩
instance : TyF Tryd.prog 13 1 1 12 := ⟨⟨_, _, Tryd.t12, Tryd.underlying13, rfl, rfl, rfl, by kernel_rfl, by intro h; cases h⟩⟩
instance : TyI Tryd.prog 14 true 2 24 (.string ⟨#[]⟩ :: [.int .u64 0]) := ⟨⟨Tryd.t14, by kernel_rfl, by kernel_rfl, by kernel_rfl, by kernel_rfl, (fun h => by cases h), by kernel_rfl, by kernel_rfl⟩, Tryd.isAgg14⟩
instance : TyS Tryd.prog 14 [(0, 1), (1, 1)] := ⟨_, Tryd.underlying14, fun w => by simp [Tryd.sizeOf9, Tryd.sizeOf12]⟩
instance : TyF Tryd.prog 14 0 0 9 := ⟨⟨_, _, Tryd.t9, Tryd.underlying14, rfl, rfl, rfl, by kernel_rfl, by intro h; cases h⟩⟩
instance : TyF Tryd.prog 14 1 1 12 := ⟨⟨_, _, Tryd.t12, Tryd.underlying14, rfl, rfl, rfl, by kernel_rfl, by intro h; cases h⟩⟩
instance : TyU Tryd.prog 15 (.pointer 146) := ⟨Tryd.underlying15⟩
instance : TyI Tryd.prog 15 false 1 8 ([.pointer none]) := ⟨⟨Tryd.t15, by kernel_rfl, by kernel_rfl, by kernel_rfl, by kernel_rfl, (fun _ => ⟨_, rfl, rfl⟩), by kernel_rfl, by kernel_rfl⟩, Tryd.isAgg15⟩
instance : TyU Tryd.prog 16 (.pointer 149) := ⟨Tryd.underlying16⟩
instance : TyI Tryd.prog 16 false 1 8 ([.pointer none]) := ⟨⟨Tryd.t16, by kernel_rfl, by kernel_rfl, by kernel_rfl, by kernel_rfl, (fun _ => ⟨_, rfl, rfl⟩), by kernel_rfl, by kernel_rfl⟩, Tryd.isAgg16⟩
instance : TyU Tryd.prog 17 (.pointer 157) := ⟨Tryd.underlying17⟩
instance : TyI Tryd.prog 17 false 1 8 ([.pointer none]) := ⟨⟨Tryd.t17, by kernel_rfl, by kernel_rfl, by kernel_rfl, by kernel_rfl, (fun _ => ⟨_, rfl, rfl⟩), by kernel_rfl, by kernel_rfl⟩, Tryd.isAgg17⟩
instance : TyI Tryd.prog 18 true 1 8 ([.pointer none]) := ⟨⟨Tryd.t18, by kernel_rfl, by kernel_rfl, by kernel_rfl, by kernel_rfl, (fun h => by cases h), by kernel_rfl, by kernel_rfl⟩, Tryd.isAgg18⟩
instance : TyS Tryd.prog 18 [(0, 1)] := ⟨_, Tryd.underlying18, fun w => by simp [Tryd.sizeOf17]⟩
instance : TyF Tryd.prog 18 0 0 17 := ⟨⟨_, _, Tryd.t17, Tryd.underlying18, rfl, rfl, rfl, by kernel_rfl, by intro h; cases h⟩⟩
instance : TyI Tryd.prog 19 true 1 8 ([.pointer none]) := ⟨⟨Tryd.t19, by kernel_rfl, by kernel_rfl, by kernel_rfl, by kernel_rfl, (fun h => by cases h), by kernel_rfl, by kernel_rfl⟩, Tryd.isAgg19⟩
instance : TyS Tryd.prog 19 [(0, 1)] := ⟨_, Tryd.underlying19, fun w => by simp [Tryd.sizeOf17]⟩
instance : TyF Tryd.prog 19 0 0 17 := ⟨⟨_, _, Tryd.t17, Tryd.underlying19, rfl, rfl, rfl, by kernel_rfl, by intro h; cases h⟩⟩
instance : TyI Tryd.prog 20 false 1 16 ([.nilIface]) := ⟨⟨Tryd.t20, by kernel_rfl, by kernel_rfl, by kernel_rfl, by kernel_rfl, (fun _ => ⟨_, rfl, rfl⟩), by kernel_rfl, by kernel_rfl⟩, Tryd.isAgg20⟩
instance : TyU Tryd.prog 21 (.int .i32) := ⟨Tryd.underlying21⟩
instance : TyI Tryd.prog 21 false 1 4 ([.int .i32 0]) := ⟨⟨Tryd.t21, by kernel_rfl, by kernel_rfl, by kernel_rfl, by kernel_rfl, (fun _ => ⟨_, rfl, rfl⟩), by kernel_rfl, by kernel_rfl⟩, Tryd.isAgg21⟩
instance : TyU Tryd.prog 22 (.slice 5) := ⟨Tryd.underlying22⟩
instance : TyI Tryd.prog 22 false 1 24 ([.slice none 0 0]) := ⟨⟨Tryd.t22, by kernel_rfl, by kernel_rfl, by kernel_rfl, by kernel_rfl, (fun _ => ⟨_, rfl, rfl⟩), by kernel_rfl, by kernel_rfl⟩, Tryd.isAgg22⟩
instance : TyU Tryd.prog 23 (.slice 4) := ⟨Tryd.underlying23⟩
instance : TyI Tryd.prog 23 false 1 24 ([.slice none 0 0]) := ⟨⟨Tryd.t23, by kernel_rfl, by kernel_rfl, by kernel_rfl, by kernel_rfl, (fun _ => ⟨_, rfl, rfl⟩), by kernel_rfl, by kernel_rfl⟩, Tryd.isAgg23⟩
instance : TyI Tryd.prog 24 true 7 88 (.int .i64 0 :: (.int .i64 0 :: (.int .i64 0 :: (.int .i64 0 :: (.int .i64 0 :: (.slice none 0 0 :: [.slice none 0 0])))))) := ⟨⟨Tryd.t24, by kernel_rfl, by kernel_rfl, by kernel_rfl, by kernel_rfl, (fun h => by cases h), by kernel_rfl, by kernel_rfl⟩, Tryd.isAgg24⟩
instance : TyS Tryd.prog 24 [(0, 1), (1, 1), (2, 1), (3, 1), (4, 1), (5, 1), (6, 1)] := ⟨_, Tryd.underlying24, fun w => by simp [Tryd.sizeOf3, Tryd.sizeOf22, Tryd.sizeOf23]⟩
instance : TyF Tryd.prog 24 0 0 3 := ⟨⟨_, _, Tryd.t3, Tryd.underlying24, rfl, rfl, rfl, by kernel_rfl, by intro h; cases h⟩⟩
instance : TyF Tryd.prog 24 1 1 3 := ⟨⟨_, _, Tryd.t3, Tryd.underlying24, rfl, rfl, rfl, by kernel_rfl, by intro h; cases h⟩⟩
instance : TyF Tryd.prog 24 2 2 3 := ⟨⟨_, _, Tryd.t3, Tryd.underlying24, rfl, rfl, rfl, by kernel_rfl, by intro h; cases h⟩⟩
instance : TyF Tryd.prog 24 3 3 3 := ⟨⟨_, _, Tryd.t3, Tryd.underlying24, rfl, rfl, rfl, by kernel_rfl, by intro h; cases h⟩⟩
instance : TyF Tryd.prog 24 4 4 3 := ⟨⟨_, _, Tryd.t3, Tryd.underlying24, rfl, rfl, rfl, by kernel_rfl, by intro h; cases h⟩⟩
instance : TyF Tryd.prog 24 5 5 22 := ⟨⟨_, _, Tryd.t22, Tryd.underlying24, rfl, rfl, rfl, by kernel_rfl, by intro h; cases h⟩⟩
instance : TyF Tryd.prog 24 6 6 23 := ⟨⟨_, _, Tryd.t23, Tryd.underlying24, rfl, rfl, rfl, by kernel_rfl, by intro h; cases h⟩⟩
instance : TyI Tryd.prog 25 true 7 88 (.int .i64 0 :: (.int .i64 0 :: (.int .i64 0 :: (.int .i64 0 :: (.int .i64 0 :: (.slice none 0 0 :: [.slice none 0 0])))))) := ⟨⟨Tryd.t25, by kernel_rfl, by kernel_rfl, by kernel_rfl, by kernel_rfl, (fun h => by cases h), by kernel_rfl, by kernel_rfl⟩, Tryd.isAgg25⟩
instance : TyS Tryd.prog 25 [(0, 1), (1, 1), (2, 1), (3, 1), (4, 1), (5, 1), (6, 1)] := ⟨_, Tryd.underlying25, fun w => by simp [Tryd.sizeOf3, Tryd.sizeOf22, Tryd.sizeOf23]⟩
instance : TyF Tryd.prog 25 0 0 3 := ⟨⟨_, _, Tryd.t3, Tryd.underlying25, rfl, rfl, rfl, by kernel_rfl, by intro h; cases h⟩⟩
instance : TyF Tryd.prog 25 1 1 3 := ⟨⟨_, _, Tryd.t3, Tryd.underlying25, rfl, rfl, rfl, by kernel_rfl, by intro h; cases h⟩⟩
instance : TyF Tryd.prog 25 2 2 3 := ⟨⟨_, _, Tryd.t3, Tryd.underlying25, rfl, rfl, rfl, by kernel_rfl, by intro h; cases h⟩⟩
instance : TyF Tryd.prog 25 3 3 3 := ⟨⟨_, _, Tryd.t3, Tryd.underlying25, rfl, rfl, rfl, by kernel_rfl, by intro h; cases h⟩⟩
instance : TyF Tryd.prog 25 4 4 3 := ⟨⟨_, _, Tryd.t3, Tryd.underlying25, rfl, rfl, rfl, by kernel_rfl, by intro h; cases h⟩⟩
instance : TyF Tryd.prog 25 5 5 22 := ⟨⟨_, _, Tryd.t22, Tryd.underlying25, rfl, rfl, rfl, by kernel_rfl, by intro h; cases h⟩⟩
instance : TyF Tryd.prog 25 6 6 23 := ⟨⟨_, _, Tryd.t23, Tryd.underlying25, rfl, rfl, rfl, by kernel_rfl, by intro h; cases h⟩⟩
instance : TyU Tryd.prog 26 (.pointer 30) := ⟨Tryd.underlying26⟩
instance : TyI Tryd.prog 26 false 1 8 ([.pointer none]) := ⟨⟨Tryd.t26, by kernel_rfl, by kernel_rfl, by kernel_rfl, by kernel_rfl, (fun _ => ⟨_, rfl, rfl⟩), by kernel_rfl, by kernel_rfl⟩, Tryd.isAgg26⟩
instance : TyU Tryd.prog 27 (.pointer 43) := ⟨Tryd.underlying27⟩
instance : TyI Tryd.prog 27 false 1 8 ([.pointer none]) := ⟨⟨Tryd.t27, by kernel_rfl, by kernel_rfl, by kernel_rfl, by kernel_rfl, (fun _ => ⟨_, rfl, rfl⟩), by kernel_rfl, by kernel_rfl⟩, Tryd.isAgg27⟩
instance : TyU Tryd.prog 28 (.slice 22) := ⟨Tryd.underlying28⟩
instance : TyI Tryd.prog 28 false 1 24 ([.slice none 0 0]) := ⟨⟨Tryd.t28, by kernel_rfl, by kernel_rfl, by kernel_rfl, by kernel_rfl, (fun _ => ⟨_, rfl, rfl⟩), by kernel_rfl, by kernel_rfl⟩, Tryd.isAgg28⟩
instance : TyI Tryd.prog 29 true 10 128 (.pointer none :: (.int .i64 0 :: (.int .i64 0 :: (.int .i64 0 :: (.bool false :: (.slice none 0 0 :: (.int .i64 0 :: (.slice none 0 0 :: (.slice none 0 0 :: [.int .i64 0]))))))))) := ⟨⟨Tryd.t29, by kernel_rfl, by kernel_rfl, by kernel_rfl, by kernel_rfl, (fun h => by cases h), by kernel_rfl, by kernel_rfl⟩, Tryd.isAgg29⟩
instance : TyS Tryd.prog 29 [(0, 1), (1, 1), (2, 1), (3, 1), (4, 1), (5, 1), (6, 1), (7, 1), (8, 1), (9, 1)] := ⟨_, Tryd.underlying29, fun w => by simp [Tryd.sizeOf27, Tryd.sizeOf3, Tryd.sizeOf4, Tryd.sizeOf22, Tryd.sizeOf28]⟩
instance : TyF Tryd.prog 29 0 0 27 := ⟨⟨_, _, Tryd.t27, Tryd.underlying29, rfl, rfl, rfl, by kernel_rfl, by intro h; cases h⟩⟩
instance : TyF Tryd.prog 29 1 1 3 := ⟨⟨_, _, Tryd.t3, Tryd.underlying29, rfl, rfl, rfl, by kernel_rfl, by intro h; cases h⟩⟩
instance : TyF Tryd.prog 29 2 2 3 := ⟨⟨_, _, Tryd.t3, Tryd.underlying29, rfl, rfl, rfl, by kernel_rfl, by intro h; cases h⟩⟩
instance : TyF Tryd.prog 29 3 3 3 := ⟨⟨_, _, Tryd.t3, Tryd.underlying29, rfl, rfl, rfl, by kernel_rfl, by intro h; cases h⟩⟩
instance : TyF Tryd.prog 29 4 4 4 := ⟨⟨_, _, Tryd.t4, Tryd.underlying29, rfl, rfl, rfl, by kernel_rfl, by intro h; cases h⟩⟩
instance : TyF Tryd.prog 29 5 5 22 := ⟨⟨_, _, Tryd.t22, Tryd.underlying29, rfl, rfl, rfl, by kernel_rfl, by intro h; cases h⟩⟩
instance : TyF Tryd.prog 29 6 6 3 := ⟨⟨_, _, Tryd.t3, Tryd.underlying29, rfl, rfl, rfl, by kernel_rfl, by intro h; cases h⟩⟩
instance : TyF Tryd.prog 29 7 7 28 := ⟨⟨_, _, Tryd.t28, Tryd.underlying29, rfl, rfl, rfl, by kernel_rfl, by intro h; cases h⟩⟩
instance : TyF Tryd.prog 29 8 8 28 := ⟨⟨_, _, Tryd.t28, Tryd.underlying29, rfl, rfl, rfl, by kernel_rfl, by intro h; cases h⟩⟩
instance : TyF Tryd.prog 29 9 9 3 := ⟨⟨_, _, Tryd.t3, Tryd.underlying29, rfl, rfl, rfl, by kernel_rfl, by intro h; cases h⟩⟩
instance : TyI Tryd.prog 30 true 10 128 (.pointer none :: (.int .i64 0 :: (.int .i64 0 :: (.int .i64 0 :: (.bool false :: (.slice none 0 0 :: (.int .i64 0 :: (.slice none 0 0 :: (.slice none 0 0 :: [.int .i64 0]))))))))) := ⟨⟨Tryd.t30, by kernel_rfl, by kernel_rfl, by kernel_rfl, by kernel_rfl, (fun h => by cases h), by kernel_rfl, by kernel_rfl⟩, Tryd.isAgg30⟩
instance : TyS Tryd.prog 30 [(0, 1), (1, 1), (2, 1), (3, 1), (4, 1), (5, 1), (6, 1), (7, 1), (8, 1), (9, 1)] := ⟨_, Tryd.underlying30, fun w => by simp [Tryd.sizeOf27, Tryd.sizeOf3, Tryd.sizeOf4, Tryd.sizeOf22, Tryd.sizeOf28]⟩
instance : TyF Tryd.prog 30 0 0 27 := ⟨⟨_, _, Tryd.t27, Tryd.underlying30, rfl, rfl, rfl, by kernel_rfl, by intro h; cases h⟩⟩
instance : TyF Tryd.prog 30 1 1 3 := ⟨⟨_, _, Tryd.t3, Tryd.underlying30, rfl, rfl, rfl, by kernel_rfl, by intro h; cases h⟩⟩
instance : TyF Tryd.prog 30 2 2 3 := ⟨⟨_, _, Tryd.t3, Tryd.underlying30, rfl, rfl, rfl, by kernel_rfl, by intro h; cases h⟩⟩
instance : TyF Tryd.prog 30 3 3 3 := ⟨⟨_, _, Tryd.t3, Tryd.underlying30, rfl, rfl, rfl, by kernel_rfl, by intro h; cases h⟩⟩
instance : TyF Tryd.prog 30 4 4 4 := ⟨⟨_, _, Tryd.t4, Tryd.underlying30, rfl, rfl, rfl, by kernel_rfl, by intro h; cases h⟩⟩
instance : TyF Tryd.prog 30 5 5 22 := ⟨⟨_, _, Tryd.t22, Tryd.underlying30, rfl, rfl, rfl, by kernel_rfl, by intro h; cases h⟩⟩
instance : TyF Tryd.prog 30 6 6 3 := ⟨⟨_, _, Tryd.t3, Tryd.underlying30, rfl, rfl, rfl, by kernel_rfl, by intro h; cases h⟩⟩
instance : TyF Tryd.prog 30 7 7 28 := ⟨⟨_, _, Tryd.t28, Tryd.underlying30, rfl, rfl, rfl, by kernel_rfl, by intro h; cases h⟩⟩
instance : TyF Tryd.prog 30 8 8 28 := ⟨⟨_, _, Tryd.t28, Tryd.underlying30, rfl, rfl, rfl, by kernel_rfl, by intro h; cases h⟩⟩
instance : TyF Tryd.prog 30 9 9 3 := ⟨⟨_, _, Tryd.t3, Tryd.underlying30, rfl, rfl, rfl, by kernel_rfl, by intro h; cases h⟩⟩
instance : TyU Tryd.prog 31 (.slice 26) := ⟨Tryd.underlying31⟩
instance : TyI Tryd.prog 31 false 1 24 ([.slice none 0 0]) := ⟨⟨Tryd.t31, by kernel_rfl, by kernel_rfl, by kernel_rfl, by kernel_rfl, (fun _ => ⟨_, rfl, rfl⟩), by kernel_rfl, by kernel_rfl⟩, Tryd.isAgg31⟩
instance : TyU Tryd.prog 32 (.int .i64) := ⟨Tryd.underlying32⟩
instance : TyI Tryd.prog 32 false 1 8 ([.int .i64 0]) := ⟨⟨Tryd.t32, by kernel_rfl, by kernel_rfl, by kernel_rfl, by kernel_rfl, (fun _ => ⟨_, rfl, rfl⟩), by kernel_rfl, by kernel_rfl⟩, Tryd.isAgg32⟩
instance : TyI Tryd.prog 33 false 1 8 ([.nilFunc]) := ⟨⟨Tryd.t33, by kernel_rfl, by kernel_rfl, by kernel_rfl, by kernel_rfl, (fun _ => ⟨_, rfl, rfl⟩), by kernel_rfl, by kernel_rfl⟩, Tryd.isAgg33⟩
instance : TyI Tryd.prog 34 false 1 8 ([.nilFunc]) := ⟨⟨Tryd.t34, by kernel_rfl, by kernel_rfl, by kernel_rfl, by kernel_rfl, (fun _ => ⟨_, rfl, rfl⟩), by kernel_rfl, by kernel_rfl⟩, Tryd.isAgg34⟩
instance : TyI Tryd.prog 35 false 1 8 ([.nilFunc]) := ⟨⟨Tryd.t35, by kernel_rfl, by kernel_rfl, by kernel_rfl, by kernel_rfl, (fun _ => ⟨_, rfl, rfl⟩), by kernel_rfl, by kernel_rfl⟩, Tryd.isAgg35⟩
instance : TyI Tryd.prog 36 false 1 8 ([.nilFunc]) := ⟨⟨Tryd.t36, by kernel_rfl, by kernel_rfl, by kernel_rfl, by kernel_rfl, (fun _ => ⟨_, rfl, rfl⟩), by kernel_rfl, by kernel_rfl⟩, Tryd.isAgg36⟩
instance : TyI Tryd.prog 37 false 1 8 ([.nilFunc]) := ⟨⟨Tryd.t37, by kernel_rfl, by kernel_rfl, by kernel_rfl, by kernel_rfl, (fun _ => ⟨_, rfl, rfl⟩), by kernel_rfl, by kernel_rfl⟩, Tryd.isAgg37⟩
instance : TyI Tryd.prog 39 false 1 8 ([.nilFunc]) := ⟨⟨Tryd.t39, by kernel_rfl, by kernel_rfl, by kernel_rfl, by kernel_rfl, (fun _ => ⟨_, rfl, rfl⟩), by kernel_rfl, by kernel_rfl⟩, Tryd.isAgg39⟩
instance : TyU Tryd.prog 40 (.slice 81) := ⟨Tryd.underlying40⟩
instance : TyI Tryd.prog 40 false 1 24 ([.slice none 0 0]) := ⟨⟨Tryd.t40, by kernel_rfl, by kernel_rfl, by kernel_rfl, by kernel_rfl, (fun _ => ⟨_, rfl, rfl⟩), by kernel_rfl, by kernel_rfl⟩, Tryd.isAgg40⟩
instance : TyU Tryd.prog 41 (.slice 83) := ⟨Tryd.underlying41⟩
instance : TyI Tryd.prog 41 false 1 24 ([.slice none 0 0]) := ⟨⟨Tryd.t41, by kernel_rfl, by kernel_rfl, by kernel_rfl, by kernel_rfl, (fun _ => ⟨_, rfl, rfl⟩), by kernel_rfl, by kernel_rfl⟩, Tryd.isAgg41⟩
instance : TyI Tryd.prog 42 true 4 64 (.slice none 0 0 :: (.slice none 0 0 :: (.int .i64 0 :: [.int .i64 0]))) := ⟨⟨Tryd.t42, by kernel_rfl, by kernel_rfl, by kernel_rfl, by kernel_rfl, (fun h => by cases h), by kernel_rfl, by kernel_rfl⟩, Tryd.isAgg42⟩
instance : TyS Tryd.prog 42 [(0, 1), (1, 1), (2, 1), (3, 1)] := ⟨_, Tryd.underlying42, fun w => by simp [Tryd.sizeOf40, Tryd.sizeOf41, Tryd.sizeOf3]⟩
instance : TyF Tryd.prog 42 0 0 40 := ⟨⟨_, _, Tryd.t40, Tryd.underlying42, rfl, rfl, rfl, by kernel_rfl, by intro h; cases h⟩⟩
instance : TyF Tryd.prog 42 1 1 41 := ⟨⟨_, _, Tryd.t41, Tryd.underlying42, rfl, rfl, rfl, by kernel_rfl, by intro h; cases h⟩⟩
instance : TyF Tryd.prog 42 2 2 3 := ⟨⟨_, _, Tryd.t3, Tryd.underlying42, rfl, rfl, rfl, by kernel_rfl, by intro h; cases h⟩⟩
instance : TyF Tryd.prog 42 3 3 3 := ⟨⟨_, _, Tryd.t3, Tryd.underlying42, rfl, rfl, rfl, by kernel_rfl, by intro h; cases h⟩⟩
instance : TyI Tryd.prog 43 true 4 64 (.slice none 0 0 :: (.slice none 0 0 :: (.int .i64 0 :: [.int .i64 0]))) := ⟨⟨Tryd.t43, by kernel_rfl, by kernel_rfl, by kernel_rfl, by kernel_rfl, (fun h => by cases h), by kernel_rfl, by kernel_rfl⟩, Tryd.isAgg43⟩
instance : TyS Tryd.prog 43 [(0, 1), (1, 1), (2, 1), (3, 1)] := ⟨_, Tryd.underlying43, fun w => by simp [Tryd.sizeOf40, Tryd.sizeOf41, Tryd.sizeOf3]⟩
instance : TyF Tryd.prog 43 0 0 40 := ⟨⟨_, _, Tryd.t40, Tryd.underlying43, rfl, rfl, rfl, by kernel_rfl, by intro h; cases h⟩⟩
instance : TyF Tryd.prog 43 1 1 41 := ⟨⟨_, _, Tryd.t41, Tryd.underlying43, rfl, rfl, rfl, by kernel_rfl, by intro h; cases h⟩⟩
instance : TyF Tryd.prog 43 2 2 3 := ⟨⟨_, _, Tryd.t3, Tryd.underlying43, rfl, rfl, rfl, by kernel_rfl, by intro h; cases h⟩⟩
instance : TyF Tryd.prog 43 3 3 3 := ⟨⟨_, _, Tryd.t3, Tryd.underlying43, rfl, rfl, rfl, by kernel_rfl, by intro h; cases h⟩⟩
instance : TyI Tryd.prog 44 false 1 8 ([.nilFunc]) := ⟨⟨Tryd.t44, by kernel_rfl, by kernel_rfl, by kernel_rfl, by kernel_rfl, (fun _ => ⟨_, rfl, rfl⟩), by kernel_rfl, by kernel_rfl⟩, Tryd.isAgg44⟩
instance : TyI Tryd.prog 45 false 1 8 ([.nilFunc]) := ⟨⟨Tryd.t45, by kernel_rfl, by kernel_rfl, by kernel_rfl, by kernel_rfl, (fun _ => ⟨_, rfl, rfl⟩), by kernel_rfl, by kernel_rfl⟩, Tryd.isAgg45⟩
instance : TyU Tryd.prog 46 (.int .u32) := ⟨Tryd.underlying46⟩
instance : TyI Tryd.prog 46 false 1 4 ([.int .u32 0]) := ⟨⟨Tryd.t46, by kernel_rfl, by kernel_rfl, by kernel_rfl, by kernel_rfl, (fun _ => ⟨_, rfl, rfl⟩), by kernel_rfl, by kernel_rfl⟩, Tryd.isAgg46⟩
instance : TyI Tryd.prog 47 false 1 8 ([.nilFunc]) := ⟨⟨Tryd.t47, by kernel_rfl, by kernel_rfl, by kernel_rfl, by kernel_rfl, (fun _ => ⟨_, rfl, rfl⟩), by kernel_rfl, by kernel_rfl⟩, Tryd.isAgg47⟩
instance : TyI Tryd.prog 48 false 1 8 ([.nilFunc]) := ⟨⟨Tryd.t48, by kernel_rfl, by kernel_rfl, by kernel_rfl, by kernel_rfl, (fun _ => ⟨_, rfl, rfl⟩), by kernel_rfl, by kernel_rfl⟩, Tryd.isAgg48⟩
instance : TyI Tryd.prog 49 false 1 8 ([.nilFunc]) := ⟨⟨Tryd.t49, by kernel_rfl, by kernel_rfl, by kernel_rfl, by kernel_rfl, (fun _ => ⟨_, rfl, rfl⟩), by kernel_rfl, by kernel_rfl⟩, Tryd.isAgg49⟩
instance : TyI Tryd.prog 51 false 1 8 ([.nilFunc]) := ⟨⟨Tryd.t51, by kernel_rfl, by kernel_rfl, by kernel_rfl, by kernel_rfl, (fun _ => ⟨_, rfl, rfl⟩), by kernel_rfl, by kernel_rfl⟩, Tryd.isAgg51⟩
instance : TyU Tryd.prog 52 (.slice 3) := ⟨Tryd.underlying52⟩
instance : TyI Tryd.prog 52 false 1 24 ([.slice none 0 0]) := ⟨⟨Tryd.t52, by kernel_rfl, by kernel_rfl, by kernel_rfl, by kernel_rfl, (fun _ => ⟨_, rfl, rfl⟩), by kernel_rfl, by kernel_rfl⟩, Tryd.isAgg52⟩
instance : TyI Tryd.prog 53 false 1 8 ([.nilFunc]) := ⟨⟨Tryd.t53, by kernel_rfl, by kernel_rfl, by kernel_rfl, by kernel_rfl, (fun _ => ⟨_, rfl, rfl⟩), by kernel_rfl, by kernel_rfl⟩, Tryd.isAgg53⟩
instance : TyI Tryd.prog 54 false 1 8 ([.nilFunc]) := ⟨⟨Tryd.t54, by kernel_rfl, by kernel_rfl, by kernel_rfl, by kernel_rfl, (fun _ => ⟨_, rfl, rfl⟩), by kernel_rfl, by kernel_rfl⟩, Tryd.isAgg54⟩
instance : TyI Tryd.prog 55 false 1 8 ([.nilFunc]) := ⟨⟨Tryd.t55, by kernel_rfl, by kernel_rfl, by kernel_rfl, by kernel_rfl, (fun _ => ⟨_, rfl, rfl⟩), by kernel_rfl, by kernel_rfl⟩, Tryd.isAgg55⟩
instance : TyI Tryd.prog 57 false 1 8 ([.nilFunc]) := ⟨⟨Tryd.t57, by kernel_rfl, by kernel_rfl, by kernel_rfl, by kernel_rfl, (fun _ => ⟨_, rfl, rfl⟩), by kernel_rfl, by kernel_rfl⟩, Tryd.isAgg57⟩
instance : TyI Tryd.prog 58 false 1 8 ([.nilFunc]) := ⟨⟨Tryd.t58, by kernel_rfl, by kernel_rfl, by kernel_rfl, by kernel_rfl, (fun _ => ⟨_, rfl, rfl⟩), by kernel_rfl, by kernel_rfl⟩, Tryd.isAgg58⟩
instance : TyU Tryd.prog 59 (.slice 25) := ⟨Tryd.underlying59⟩
instance : TyI Tryd.prog 59 false 1 24 ([.slice none 0 0]) := ⟨⟨Tryd.t59, by kernel_rfl, by kernel_rfl, by kernel_rfl, by kernel_rfl, (fun _ => ⟨_, rfl, rfl⟩), by kernel_rfl, by kernel_rfl⟩, Tryd.isAgg59⟩
instance : TyU Tryd.prog 60 (.pointer 65) := ⟨Tryd.underlying60⟩
instance : TyI Tryd.prog 60 false 1 8 ([.pointer none]) := ⟨⟨Tryd.t60, by kernel_rfl, by kernel_rfl, by kernel_rfl, by kernel_rfl, (fun _ => ⟨_, rfl, rfl⟩), by kernel_rfl, by kernel_rfl⟩, Tryd.isAgg60⟩
instance : TyI Tryd.prog 61 false 1 8 ([.nilFunc]) := ⟨⟨Tryd.t61, by kernel_rfl, by kernel_rfl, by kernel_rfl, by kernel_rfl, (fun _ => ⟨_, rfl, rfl⟩), by kernel_rfl, by kernel_rfl⟩, Tryd.isAgg61⟩
instance : TyU Tryd.prog 62 (.int .u64) := ⟨Tryd.underlying62⟩
instance : TyI Tryd.prog 62 false 1 8 ([.int .u64 0]) := ⟨⟨Tryd.t62, by kernel_rfl, by kernel_rfl, by kernel_rfl, by kernel_rfl, (fun _ => ⟨_, rfl, rfl⟩), by kernel_rfl, by kernel_rfl⟩, Tryd.isAgg62⟩
instance : TyU Tryd.prog 63 (.pointer 91) := ⟨Tryd.underlying63⟩
instance : TyI Tryd.prog 63 false 1 8 ([.pointer none]) := ⟨⟨Tryd.t63, by kernel_rfl, by kernel_rfl, by kernel_rfl, by kernel_rfl, (fun _ => ⟨_, rfl, rfl⟩), by kernel_rfl, by kernel_rfl⟩, Tryd.isAgg63⟩
instance : TyI Tryd.prog 64 true 8 96 (.pointer none :: (.int .i64 0 :: (.int .i64 0 :: (.int .i64 0 :: (.bool false :: (.slice none 0 0 :: (.slice none 0 0 :: [.int .i64 0]))))))) := ⟨⟨Tryd.t64, by kernel_rfl, by kernel_rfl, by kernel_rfl, by kernel_rfl, (fun h => by cases h), by kernel_rfl, by kernel_rfl⟩, Tryd.isAgg64⟩
instance : TyS Tryd.prog 64 [(0, 1), (1, 1), (2, 1), (3, 1), (4, 1), (5, 1), (6, 1), (7, 1)] := ⟨_, Tryd.underlying64, fun w => by simp [Tryd.sizeOf63, Tryd.sizeOf3, Tryd.sizeOf4, Tryd.sizeOf28]⟩
instance : TyF Tryd.prog 64 0 0 63 := ⟨⟨_, _, Tryd.t63, Tryd.underlying64, rfl, rfl, rfl, by kernel_rfl, by intro h; cases h⟩⟩
instance : TyF Tryd.prog 64 1 1 3 := ⟨⟨_, _, Tryd.t3, Tryd.underlying64, rfl, rfl, rfl, by kernel_rfl, by intro h; cases h⟩⟩
instance : TyF Tryd.prog 64 2 2 3 := ⟨⟨_, _, Tryd.t3, Tryd.underlying64, rfl, rfl, rfl, by kernel_rfl, by intro h; cases h⟩⟩
instance : TyF Tryd.prog 64 3 3 3 := ⟨⟨_, _, Tryd.t3, Tryd.underlying64, rfl, rfl, rfl, by kernel_rfl, by intro h; cases h⟩⟩
instance : TyF Tryd.prog 64 4 4 4 := ⟨⟨_, _, Tryd.t4, Tryd.underlying64, rfl, rfl, rfl, by kernel_rfl, by intro h; cases h⟩⟩
instance : TyF Tryd.prog 64 5 5 28 := ⟨⟨_, _, Tryd.t28, Tryd.underlying64, rfl, rfl, rfl, by kernel_rfl, by intro h; cases h⟩⟩
instance : TyF Tryd.prog 64 6 6 28 := ⟨⟨_, _, Tryd.t28, Tryd.underlying64, rfl, rfl, rfl, by kernel_rfl, by intro h; cases h⟩⟩
instance : TyF Tryd.prog 64 7 7 3 := ⟨⟨_, _, Tryd.t3, Tryd.underlying64, rfl, rfl, rfl, by kernel_rfl, by intro h; cases h⟩⟩
instance : TyI Tryd.prog 65 true 8 96 (.pointer none :: (.int .i64 0 :: (.int .i64 0 :: (.int .i64 0 :: (.bool false :: (.slice none 0 0 :: (.slice none 0 0 :: [.int .i64 0]))))))) := ⟨⟨Tryd.t65, by kernel_rfl, by kernel_rfl, by kernel_rfl, by kernel_rfl, (fun h => by cases h), by kernel_rfl, by kernel_rfl⟩, Tryd.isAgg65⟩
instance : TyS Tryd.prog 65 [(0, 1), (1, 1), (2, 1), (3, 1), (4, 1), (5, 1), (6, 1), (7, 1)] := ⟨_, Tryd.underlying65, fun w => by simp [Tryd.sizeOf63, Tryd.sizeOf3, Tryd.sizeOf4, Tryd.sizeOf28]⟩
instance : TyF Tryd.prog 65 0 0 63 := ⟨⟨_, _, Tryd.t63, Tryd.underlying65, rfl, rfl, rfl, by kernel_rfl, by intro h; cases h⟩⟩
instance : TyF Tryd.prog 65 1 1 3 := ⟨⟨_, _, Tryd.t3, Tryd.underlying65, rfl, rfl, rfl, by kernel_rfl, by intro h; cases h⟩⟩
instance : TyF Tryd.prog 65 2 2 3 := ⟨⟨_, _, Tryd.t3, Tryd.underlying65, rfl, rfl, rfl, by kernel_rfl, by intro h; cases h⟩⟩
instance : TyF Tryd.prog 65 3 3 3 := ⟨⟨_, _, Tryd.t3, Tryd.underlying65, rfl, rfl, rfl, by kernel_rfl, by intro h; cases h⟩⟩
instance : TyF Tryd.prog 65 4 4 4 := ⟨⟨_, _, Tryd.t4, Tryd.underlying65, rfl, rfl, rfl, by kernel_rfl, by intro h; cases h⟩⟩
instance : TyF Tryd.prog 65 5 5 28 := ⟨⟨_, _, Tryd.t28, Tryd.underlying65, rfl, rfl, rfl, by kernel_rfl, by intro h; cases h⟩⟩
instance : TyF Tryd.prog 65 6 6 28 := ⟨⟨_, _, Tryd.t28, Tryd.underlying65, rfl, rfl, rfl, by kernel_rfl, by intro h; cases h⟩⟩
instance : TyF Tryd.prog 65 7 7 3 := ⟨⟨_, _, Tryd.t3, Tryd.underlying65, rfl, rfl, rfl, by kernel_rfl, by intro h; cases h⟩⟩
instance : TyI Tryd.prog 66 false 1 8 ([.nilFunc]) := ⟨⟨Tryd.t66, by kernel_rfl, by kernel_rfl, by kernel_rfl, by kernel_rfl, (fun _ => ⟨_, rfl, rfl⟩), by kernel_rfl, by kernel_rfl⟩, Tryd.isAgg66⟩
instance : TyI Tryd.prog 67 false 1 8 ([.nilFunc]) := ⟨⟨Tryd.t67, by kernel_rfl, by kernel_rfl, by kernel_rfl, by kernel_rfl, (fun _ => ⟨_, rfl, rfl⟩), by kernel_rfl, by kernel_rfl⟩, Tryd.isAgg67⟩
instance : TyI Tryd.prog 68 false 1 8 ([.nilFunc]) := ⟨⟨Tryd.t68, by kernel_rfl, by kernel_rfl, by kernel_rfl, by kernel_rfl, (fun _ => ⟨_, rfl, rfl⟩), by kernel_rfl, by kernel_rfl⟩, Tryd.isAgg68⟩
instance : TyI Tryd.prog 69 false 1 8 ([.nilFunc]) := ⟨⟨Tryd.t69, by kernel_rfl, by kernel_rfl, by kernel_rfl, by kernel_rfl, (fun _ => ⟨_, rfl, rfl⟩), by kernel_rfl, by kernel_rfl⟩, Tryd.isAgg69⟩
instance : TyI Tryd.prog 70 false 1 16 ([.nilIface]) := ⟨⟨Tryd.t70, by kernel_rfl, by kernel_rfl, by kernel_rfl, by kernel_rfl, (fun _ => ⟨_, rfl, rfl⟩), by kernel_rfl, by kernel_rfl⟩, Tryd.isAgg70⟩
instance : TyI Tryd.prog 71 false 1 16 ([.nilIface]) := ⟨⟨Tryd.t71, by kernel_rfl, by kernel_rfl, by kernel_rfl, by kernel_rfl, (fun _ => ⟨_, rfl, rfl⟩), by kernel_rfl, by kernel_rfl⟩, Tryd.isAgg71⟩
instance : TyI Tryd.prog 72 false 1 8 ([.nilFunc]) := ⟨⟨Tryd.t72, by kernel_rfl, by kernel_rfl, by kernel_rfl, by kernel_rfl, (fun _ => ⟨_, rfl, rfl⟩), by kernel_rfl, by kernel_rfl⟩, Tryd.isAgg72⟩
instance : TyI Tryd.prog 73 false 1 8 ([.nilFunc]) := ⟨⟨Tryd.t73, by kernel_rfl, by kernel_rfl, by kernel_rfl, by kernel_rfl, (fun _ => ⟨_, rfl, rfl⟩), by kernel_rfl, by kernel_rfl⟩, Tryd.isAgg73⟩
instance : TyI Tryd.prog 74 false 1 8 ([.nilFunc]) := ⟨⟨Tryd.t74, by kernel_rfl, by kernel_rfl, by kernel_rfl, by kernel_rfl, (fun _ => ⟨_, rfl, rfl⟩), by kernel_rfl, by kernel_rfl⟩, Tryd.isAgg74⟩
instance : TyI Tryd.prog 76 false 1 8 ([.nilFunc]) := ⟨⟨Tryd.t76, by kernel_rfl, by kernel_rfl, by kernel_rfl, by kernel_rfl, (fun _ => ⟨_, rfl, rfl⟩), by kernel_rfl, by kernel_rfl⟩, Tryd.isAgg76⟩
instance : TyI Tryd.prog 78 false 1 8 ([.nilFunc]) := ⟨⟨Tryd.t78, by kernel_rfl, by kernel_rfl, by kernel_rfl, by kernel_rfl, (fun _ => ⟨_, rfl, rfl⟩), by kernel_rfl, by kernel_rfl⟩, Tryd.isAgg78⟩
instance : TyI Tryd.prog 79 false 1 8 ([.nilFunc]) := ⟨⟨Tryd.t79, by kernel_rfl, by kernel_rfl, by kernel_rfl, by kernel_rfl, (fun _ => ⟨_, rfl, rfl⟩), by kernel_rfl, by kernel_rfl⟩, Tryd.isAgg79⟩
instance : TyI Tryd.prog 80 false 1 8 ([.nilFunc]) := ⟨⟨Tryd.t80, by kernel_rfl, by kernel_rfl, by kernel_rfl, by kernel_rfl, (fun _ => ⟨_, rfl, rfl⟩), by kernel_rfl, by kernel_rfl⟩, Tryd.isAgg80⟩
instance : TyU Tryd.prog 81 (.array 256 5) := ⟨Tryd.underlying81⟩
instance : TyI Tryd.prog 81 true 256 256 (reps 256 (.int .u8 0)) := ⟨⟨Tryd.t81, by kernel_rfl, by kernel_rfl, by kernel_rfl, by kernel_rfl, (fun h => by cases h), by kernel_rfl, by kernel_rfl⟩, Tryd.isAgg81⟩
instance : TyI Tryd.prog 82 true 257 264 (.int .i64 0 :: reps 256 (.int .u8 0)) := ⟨⟨Tryd.t82, by kernel_rfl, by kernel_rfl, by kernel_rfl, by kernel_rfl, (fun h => by cases h), by kernel_rfl, by kernel_rfl⟩, Tryd.isAgg82⟩
instance : TyS Tryd.prog 82 [(0, 1), (1, 256)] := ⟨_, Tryd.underlying82, fun w => by simp [Tryd.sizeOf3, Tryd.sizeOf81]⟩
instance : TyF Tryd.prog 82 0 0 3 := ⟨⟨_, _, Tryd.t3, Tryd.underlying82, rfl, rfl, rfl, by kernel_rfl, by intro h; cases h⟩⟩
instance : TyF Tryd.prog 82 1 1 81 := ⟨⟨_, _, Tryd.t81, Tryd.underlying82, rfl, rfl, rfl, by kernel_rfl, by intro h; cases h⟩⟩
instance : TyI Tryd.prog 83 true 257 264 (.int .i64 0 :: reps 256 (.int .u8 0)) := ⟨⟨Tryd.t83, by kernel_rfl, by kernel_rfl, by kernel_rfl, by kernel_rfl, (fun h => by cases h), by kernel_rfl, by kernel_rfl⟩, Tryd.isAgg83⟩
instance : TyS Tryd.prog 83 [(0, 1), (1, 256)] := ⟨_, Tryd.underlying83, fun w => by simp [Tryd.sizeOf3, Tryd.sizeOf81]⟩
instance : TyF Tryd.prog 83 0 0 3 := ⟨⟨_, _, Tryd.t3, Tryd.underlying83, rfl, rfl, rfl, by kernel_rfl, by intro h; cases h⟩⟩
instance : TyF Tryd.prog 83 1 1 81 := ⟨⟨_, _, Tryd.t81, Tryd.underlying83, rfl, rfl, rfl, by kernel_rfl, by intro h; cases h⟩⟩
instance : TyI Tryd.prog 85 false 1 8 ([.nilFunc]) := ⟨⟨Tryd.t85, by kernel_rfl, by kernel_rfl, by kernel_rfl, by kernel_rfl, (fun _ => ⟨_, rfl, rfl⟩), by kernel_rfl, by kernel_rfl⟩, Tryd.isAgg85⟩
instance : TyI Tryd.prog 87 false 1 8 ([.nilFunc]) := ⟨⟨Tryd.t87, by kernel_rfl, by kernel_rfl, by kernel_rfl, by kernel_rfl, (fun _ => ⟨_, rfl, rfl⟩), by kernel_rfl, by kernel_rfl⟩, Tryd.isAgg87⟩
instance : TyU Tryd.prog 88 (.slice 9) := ⟨Tryd.underlying88⟩
instance : TyI Tryd.prog 88 false 1 24 ([.slice none 0 0]) := ⟨⟨Tryd.t88, by kernel_rfl, by kernel_rfl, by kernel_rfl, by kernel_rfl, (fun _ => ⟨_, rfl, rfl⟩), by kernel_rfl, by kernel_rfl⟩, Tryd.isAgg88⟩
instance : TyU Tryd.prog 89 (.slice 113) := ⟨Tryd.underlying89⟩
instance : TyI Tryd.prog 89 false 1 24 ([.slice none 0 0]) := ⟨⟨Tryd.t89, by kernel_rfl, by kernel_rfl, by kernel_rfl, by kernel_rfl, (fun _ => ⟨_, rfl, rfl⟩), by kernel_rfl, by kernel_rfl⟩, Tryd.isAgg89⟩
instance : TyI Tryd.prog 90 true 4 64 (.slice none 0 0 :: (.slice none 0 0 :: (.int .i64 0 :: [.int .i64 0]))) := ⟨⟨Tryd.t90, by kernel_rfl, by kernel_rfl, by kernel_rfl, by kernel_rfl, (fun h => by cases h), by kernel_rfl, by kernel_rfl⟩, Tryd.isAgg90⟩
instance : TyS Tryd.prog 90 [(0, 1), (1, 1), (2, 1), (3, 1)] := ⟨_, Tryd.underlying90, fun w => by simp [Tryd.sizeOf88, Tryd.sizeOf89, Tryd.sizeOf3]⟩
instance : TyF Tryd.prog 90 0 0 88 := ⟨⟨_, _, Tryd.t88, Tryd.underlying90, rfl, rfl, rfl, by kernel_rfl, by intro h; cases h⟩⟩
instance : TyF Tryd.prog 90 1 1 89 := ⟨⟨_, _, Tryd.t89, Tryd.underlying90, rfl, rfl, rfl, by kernel_rfl, by intro h; cases h⟩⟩
instance : TyF Tryd.prog 90 2 2 3 := ⟨⟨_, _, Tryd.t3, Tryd.underlying90, rfl, rfl, rfl, by kernel_rfl, by intro h; cases h⟩⟩
instance : TyF Tryd.prog 90 3 3 3 := ⟨⟨_, _, Tryd.t3, Tryd.underlying90, rfl, rfl, rfl, by kernel_rfl, by intro h; cases h⟩⟩
instance : TyI Tryd.prog 91 true 4 64 (.slice none 0 0 :: (.slice none 0 0 :: (.int .i64 0 :: [.int .i64 0]))) := ⟨⟨Tryd.t91, by kernel_rfl, by kernel_rfl, by kernel_rfl, by kernel_rfl, (fun h => by cases h), by kernel_rfl, by kernel_rfl⟩, Tryd.isAgg91⟩
instance : TyS Tryd.prog 91 [(0, 1), (1, 1), (2, 1), (3, 1)] := ⟨_, Tryd.underlying91, fun w => by simp [Tryd.sizeOf88, Tryd.sizeOf89, Tryd.sizeOf3]⟩
instance : TyF Tryd.prog 91 0 0 88 := ⟨⟨_, _, Tryd.t88, Tryd.underlying91, rfl, rfl, rfl, by kernel_rfl, by intro h; cases h⟩⟩
instance : TyF Tryd.prog 91 1 1 89 := ⟨⟨_, _, Tryd.t89, Tryd.underlying91, rfl, rfl, rfl, by kernel_rfl, by intro h; cases h⟩⟩
instance : TyF Tryd.prog 91 2 2 3 := ⟨⟨_, _, Tryd.t3, Tryd.underlying91, rfl, rfl, rfl, by kernel_rfl, by intro h; cases h⟩⟩
instance : TyF Tryd.prog 91 3 3 3 := ⟨⟨_, _, Tryd.t3, Tryd.underlying91, rfl, rfl, rfl, by kernel_rfl, by intro h; cases h⟩⟩
instance : TyI Tryd.prog 92 false 1 8 ([.nilFunc]) := ⟨⟨Tryd.t92, by kernel_rfl, by kernel_rfl, by kernel_rfl, by kernel_rfl, (fun _ => ⟨_, rfl, rfl⟩), by kernel_rfl, by kernel_rfl⟩, Tryd.isAgg92⟩
instance : TyI Tryd.prog 93 false 1 8 ([.nilFunc]) := ⟨⟨Tryd.t93, by kernel_rfl, by kernel_rfl, by kernel_rfl, by kernel_rfl, (fun _ => ⟨_, rfl, rfl⟩), by kernel_rfl, by kernel_rfl⟩, Tryd.isAgg93⟩
instance : TyI Tryd.prog 94 false 1 8 ([.nilFunc]) := ⟨⟨Tryd.t94, by kernel_rfl, by kernel_rfl, by kernel_rfl, by kernel_rfl, (fun _ => ⟨_, rfl, rfl⟩), by kernel_rfl, by kernel_rfl⟩, Tryd.isAgg94⟩
instance : TyI Tryd.prog 95 false 1 8 ([.nilFunc]) := ⟨⟨Tryd.t95, by kernel_rfl, by kernel_rfl, by kernel_rfl, by kernel_rfl, (fun _ => ⟨_, rfl, rfl⟩), by kernel_rfl, by kernel_rfl⟩, Tryd.isAgg95⟩
instance : TyI Tryd.prog 97 false 1 8 ([.nilFunc]) := ⟨⟨Tryd.t97, by kernel_rfl, by kernel_rfl, by kernel_rfl, by kernel_rfl, (fun _ => ⟨_, rfl, rfl⟩), by kernel_rfl, by kernel_rfl⟩, Tryd.isAgg97⟩
instance : TyI Tryd.prog 98 false 1 8 ([.nilFunc]) := ⟨⟨Tryd.t98, by kernel_rfl, by kernel_rfl, by kernel_rfl, by kernel_rfl, (fun _ => ⟨_, rfl, rfl⟩), by kernel_rfl, by kernel_rfl⟩, Tryd.isAgg98⟩
instance : TyI Tryd.prog 99 false 1 8 ([.nilFunc]) := ⟨⟨Tryd.t99, by kernel_rfl, by kernel_rfl, by kernel_rfl, by kernel_rfl, (fun _ => ⟨_, rfl, rfl⟩), by kernel_rfl, by kernel_rfl⟩, Tryd.isAgg99⟩
instance : TyU Tryd.prog 100 (.pointer 104) := ⟨Tryd.underlying100⟩
instance : TyI Tryd.prog 100 false 1 8 ([.pointer none]) := ⟨⟨Tryd.t100, by kernel_rfl, by kernel_rfl, by kernel_rfl, by kernel_rfl, (fun _ => ⟨_, rfl, rfl⟩), by kernel_rfl, by kernel_rfl⟩, Tryd.isAgg100⟩
instance : TyI Tryd.prog 101 false 1 8 ([.nilFunc]) := ⟨⟨Tryd.t101, by kernel_rfl, by kernel_rfl, by kernel_rfl, by kernel_rfl, (fun _ => ⟨_, rfl, rfl⟩), by kernel_rfl, by kernel_rfl⟩, Tryd.isAgg101⟩
instance : TyU Tryd.prog 102 (.pointer 100) := ⟨Tryd.underlying102⟩
instance : TyI Tryd.prog 102 false 1 8 ([.pointer none]) := ⟨⟨Tryd.t102, by kernel_rfl, by kernel_rfl, by kernel_rfl, by kernel_rfl, (fun _ => ⟨_, rfl, rfl⟩), by kernel_rfl, by kernel_rfl⟩, Tryd.isAgg102⟩
instance : TyI Tryd.prog 103 true 1 8 ([.int .i64 0]) := ⟨⟨Tryd.t103, by kernel_rfl, by kernel_rfl, by kernel_rfl, by kernel_rfl, (fun h => by cases h), by kernel_rfl, by kernel_rfl⟩, Tryd.isAgg103⟩
instance : TyS Tryd.prog 103 [(0, 1)] := ⟨_, Tryd.underlying103, fun w => by simp [Tryd.sizeOf32]⟩
instance : TyF Tryd.prog 103 0 0 32 := ⟨⟨_, _, Tryd.t32, Tryd.underlying103, rfl, rfl, rfl, by kernel_rfl, by intro h; cases h⟩⟩
instance : TyI Tryd.prog 104 true 1 8 ([.int .i64 0]) := ⟨⟨Tryd.t104, by kernel_rfl, by kernel_rfl, by kernel_rfl, by kernel_rfl, (fun h => by cases h), by kernel_rfl, by kernel_rfl⟩, Tryd.isAgg104⟩
instance : TyS Tryd.prog 104 [(0, 1)] := ⟨_, Tryd.underlying104, fun w => by simp [Tryd.sizeOf32]⟩
instance : TyF Tryd.prog 104 0 0 32 := ⟨⟨_, _, Tryd.t32, Tryd.underlying104, rfl, rfl, rfl, by kernel_rfl, by intro h; cases h⟩⟩
instance : TyI Tryd.prog 105 false 1 8 ([.nilFunc]) := ⟨⟨Tryd.t105, by kernel_rfl, by kernel_rfl, by kernel_rfl, by kernel_rfl, (fun _ => ⟨_, rfl, rfl⟩), by kernel_rfl, by kernel_rfl⟩, Tryd.isAgg105⟩
instance : TyI Tryd.prog 106 false 1 8 ([.nilFunc]) := ⟨⟨Tryd.t106, by kernel_rfl, by kernel_rfl, by kernel_rfl, by kernel_rfl, (fun _ => ⟨_, rfl, rfl⟩), by kernel_rfl, by kernel_rfl⟩, Tryd.isAgg106⟩
instance : TyI Tryd.prog 107 false 1 8 ([.nilFunc]) := ⟨⟨Tryd.t107, by kernel_rfl, by kernel_rfl, by kernel_rfl, by kernel_rfl, (fun _ => ⟨_, rfl, rfl⟩), by kernel_rfl, by kernel_rfl⟩, Tryd.isAgg107⟩
instance : TyI Tryd.prog 108 false 1 8 ([.nilFunc]) := ⟨⟨Tryd.t108, by kernel_rfl, by kernel_rfl, by kernel_rfl, by kernel_rfl, (fun _ => ⟨_, rfl, rfl⟩), by kernel_rfl, by kernel_rfl⟩, Tryd.isAgg108⟩
instance : TyI Tryd.prog 109 false 1 8 ([.nilFunc]) := ⟨⟨Tryd.t109, by kernel_rfl, by kernel_rfl, by kernel_rfl, by kernel_rfl, (fun _ => ⟨_, rfl, rfl⟩), by kernel_rfl, by kernel_rfl⟩, Tryd.isAgg109⟩
instance : TyI Tryd.prog 110 false 1 8 ([.nilFunc]) := ⟨⟨Tryd.t110, by kernel_rfl, by kernel_rfl, by kernel_rfl, by kernel_rfl, (fun _ => ⟨_, rfl, rfl⟩), by kernel_rfl, by kernel_rfl⟩, Tryd.isAgg110⟩
instance : TyI Tryd.prog 111 false 1 8 ([.nilFunc]) := ⟨⟨Tryd.t111, by kernel_rfl, by kernel_rfl, by kernel_rfl, by kernel_rfl, (fun _ => ⟨_, rfl, rfl⟩), by kernel_rfl, by kernel_rfl⟩, Tryd.isAgg111⟩
instance : TyI Tryd.prog 112 true 2 24 (.int .i64 0 :: [.string ⟨#[]⟩]) := ⟨⟨Tryd.t112, by kernel_rfl, by kernel_rfl, by kernel_rfl, by kernel_rfl, (fun h => by cases h), by kernel_rfl, by kernel_rfl⟩, Tryd.isAgg112⟩
instance : TyS Tryd.prog 112 [(0, 1), (1, 1)] := ⟨_, Tryd.underlying112, fun w => by simp [Tryd.sizeOf3, Tryd.sizeOf9]⟩
instance : TyF Tryd.prog 112 0 0 3 := ⟨⟨_, _, Tryd.t3, Tryd.underlying112, rfl, rfl, rfl, by kernel_rfl, by intro h; cases h⟩⟩
instance : TyF Tryd.prog 112 1 1 9 := ⟨⟨_, _, Tryd.t9, Tryd.underlying112, rfl, rfl, rfl, by kernel_rfl, by intro h; cases h⟩⟩
instance : TyI Tryd.prog 113 true 2 24 (.int .i64 0 :: [.string ⟨#[]⟩]) := ⟨⟨Tryd.t113, by kernel_rfl, by kernel_rfl, by kernel_rfl, by kernel_rfl, (fun h => by cases h), by kernel_rfl, by kernel_rfl⟩, Tryd.isAgg113⟩
instance : TyS Tryd.prog 113 [(0, 1), (1, 1)] := ⟨_, Tryd.underlying113, fun w => by simp [Tryd.sizeOf3, Tryd.sizeOf9]⟩
instance : TyF Tryd.prog 113 0 0 3 := ⟨⟨_, _, Tryd.t3, Tryd.underlying113, rfl, rfl, rfl, by kernel_rfl, by intro h; cases h⟩⟩
instance : TyF Tryd.prog 113 1 1 9 := ⟨⟨_, _, Tryd.t9, Tryd.underlying113, rfl, rfl, rfl, by kernel_rfl, by intro h; cases h⟩⟩
instance : TyI Tryd.prog 114 false 1 8 ([.nilFunc]) := ⟨⟨Tryd.t114, by kernel_rfl, by kernel_rfl, by kernel_rfl, by kernel_rfl, (fun _ => ⟨_, rfl, rfl⟩), by kernel_rfl, by kernel_rfl⟩, Tryd.isAgg114⟩
instance : TyI Tryd.prog 115 false 1 8 ([.nilFunc]) := ⟨⟨Tryd.t115, by kernel_rfl, by kernel_rfl, by kernel_rfl, by kernel_rfl, (fun _ => ⟨_, rfl, rfl⟩), by kernel_rfl, by kernel_rfl⟩, Tryd.isAgg115⟩
instance : TyI Tryd.prog 116 false 1 8 ([.nilFunc]) := ⟨⟨Tryd.t116, by kernel_rfl, by kernel_rfl, by kernel_rfl, by kernel_rfl, (fun _ => ⟨_, rfl, rfl⟩), by kernel_rfl, by kernel_rfl⟩, Tryd.isAgg116⟩
instance : TyI Tryd.prog 117 false 1 8 ([.pointer none]) := ⟨⟨Tryd.t117, by kernel_rfl, by kernel_rfl, by kernel_rfl, by kernel_rfl, (fun _ => ⟨_, rfl, rfl⟩), by kernel_rfl, by kernel_rfl⟩, Tryd.isAgg117⟩
instance : TyU Tryd.prog 118 (.int .u64) := ⟨Tryd.underlying118⟩
instance : TyI Tryd.prog 118 false 1 8 ([.int .u64 0]) := ⟨⟨Tryd.t118, by kernel_rfl, by kernel_rfl, by kernel_rfl, by kernel_rfl, (fun _ => ⟨_, rfl, rfl⟩), by kernel_rfl, by kernel_rfl⟩, Tryd.isAgg118⟩
instance : TyI Tryd.prog 119 true 3 24 (.pointer none :: (.pointer none :: [.int .u64 0])) := ⟨⟨Tryd.t119, by kernel_rfl, by kernel_rfl, by kernel_rfl, by kernel_rfl, (fun h => by cases h), by kernel_rfl, by kernel_rfl⟩, Tryd.isAgg119⟩
instance : TyS Tryd.prog 119 [(0, 1), (1, 1), (2, 1)] := ⟨_, Tryd.underlying119, fun w => by simp [Tryd.sizeOf17, Tryd.sizeOf117, Tryd.sizeOf118]⟩
instance : TyF Tryd.prog 119 0 0 17 := ⟨⟨_, _, Tryd.t17, Tryd.underlying119, rfl, rfl, rfl, by kernel_rfl, by intro h; cases h⟩⟩
instance : TyF Tryd.prog 119 1 1 117 := ⟨⟨_, _, Tryd.t117, Tryd.underlying119, rfl, rfl, rfl, by kernel_rfl, by intro h; cases h⟩⟩
instance : TyF Tryd.prog 119 2 2 118 := ⟨⟨_, _, Tryd.t118, Tryd.underlying119, rfl, rfl, rfl, by kernel_rfl, by intro h; cases h⟩⟩
instance : TyI Tryd.prog 120 true 3 24 (.pointer none :: (.pointer none :: [.int .u64 0])) := ⟨⟨Tryd.t120, by kernel_rfl, by kernel_rfl, by kernel_rfl, by kernel_rfl, (fun h => by cases h), by kernel_rfl, by kernel_rfl⟩, Tryd.isAgg120⟩
instance : TyS Tryd.prog 120 [(0, 1), (1, 1), (2, 1)] := ⟨_, Tryd.underlying120, fun w => by simp [Tryd.sizeOf17, Tryd.sizeOf117, Tryd.sizeOf118]⟩
instance : TyF Tryd.prog 120 0 0 17 := ⟨⟨_, _, Tryd.t17, Tryd.underlying120, rfl, rfl, rfl, by kernel_rfl, by intro h; cases h⟩⟩
instance : TyF Tryd.prog 120 1 1 117 := ⟨⟨_, _, Tryd.t117, Tryd.underlying120, rfl, rfl, rfl, by kernel_rfl, by intro h; cases h⟩⟩
instance : TyF Tryd.prog 120 2 2 118 := ⟨⟨_, _, Tryd.t118, Tryd.underlying120, rfl, rfl, rfl, by kernel_rfl, by intro h; cases h⟩⟩
instance : TyI Tryd.prog 121 false 1 8 ([.nilFunc]) := ⟨⟨Tryd.t121, by kernel_rfl, by kernel_rfl, by kernel_rfl, by kernel_rfl, (fun _ => ⟨_, rfl, rfl⟩), by kernel_rfl, by kernel_rfl⟩, Tryd.isAgg121⟩
instance : TyI Tryd.prog 122 false 1 16 ([.nilIface]) := ⟨⟨Tryd.t122, by kernel_rfl, by kernel_rfl, by kernel_rfl, by kernel_rfl, (fun _ => ⟨_, rfl, rfl⟩), by kernel_rfl, by kernel_rfl⟩, Tryd.isAgg122⟩
instance : TyI Tryd.prog 123 false 1 16 ([.nilIface]) := ⟨⟨Tryd.t123, by kernel_rfl, by kernel_rfl, by kernel_rfl, by kernel_rfl, (fun _ => ⟨_, rfl, rfl⟩), by kernel_rfl, by kernel_rfl⟩, Tryd.isAgg123⟩
instance : TyI Tryd.prog 124 false 1 8 ([.nilFunc]) := ⟨⟨Tryd.t124, by kernel_rfl, by kernel_rfl, by kernel_rfl, by kernel_rfl, (fun _ => ⟨_, rfl, rfl⟩), by kernel_rfl, by kernel_rfl⟩, Tryd.isAgg124⟩
instance : TyU Tryd.prog 125 (.int .u8) := ⟨Tryd.underlying125⟩
instance : TyI Tryd.prog 125 false 1 1 ([.int .u8 0]) := ⟨⟨Tryd.t125, by kernel_rfl, by kernel_rfl, by kernel_rfl, by kernel_rfl, (fun _ => ⟨_, rfl, rfl⟩), by kernel_rfl, by kernel_rfl⟩, Tryd.isAgg125⟩
instance : TyI Tryd.prog 126 false 1 8 ([.nilFunc]) := ⟨⟨Tryd.t126, by kernel_rfl, by kernel_rfl, by kernel_rfl, by kernel_rfl, (fun _ => ⟨_, rfl, rfl⟩), by kernel_rfl, by kernel_rfl⟩, Tryd.isAgg126⟩
instance : TyI Tryd.prog 127 false 1 8 ([.nilFunc]) := ⟨⟨Tryd.t127, by kernel_rfl, by kernel_rfl, by kernel_rfl, by kernel_rfl, (fun _ => ⟨_, rfl, rfl⟩), by kernel_rfl, by kernel_rfl⟩, Tryd.isAgg127⟩
instance : TyI Tryd.prog 128 false 1 8 ([.nilFunc]) := ⟨⟨Tryd.t128, by kernel_rfl, by kernel_rfl, by kernel_rfl, by kernel_rfl, (fun _ => ⟨_, rfl, rfl⟩), by kernel_rfl, by kernel_rfl⟩, Tryd.isAgg128⟩
instance : TyU Tryd.prog 129 (.int .u64) := ⟨Tryd.underlying129⟩
instance : TyI Tryd.prog 129 false 1 8 ([.int .u64 0]) := ⟨⟨Tryd.t129, by kernel_rfl, by kernel_rfl, by kernel_rfl, by kernel_rfl, (fun _ => ⟨_, rfl, rfl⟩), by kernel_rfl, by kernel_rfl⟩, Tryd.isAgg129⟩
instance : TyI Tryd.prog 130 false 1 8 ([.nilFunc]) := ⟨⟨Tryd.t130, by kernel_rfl, by kernel_rfl, by kernel_rfl, by kernel_rfl, (fun _ => ⟨_, rfl, rfl⟩), by kernel_rfl, by kernel_rfl⟩, Tryd.isAgg130⟩
instance : TyI Tryd.prog 131 true 1 8 ([.pointer none]) := ⟨⟨Tryd.t131, by kernel_rfl, by kernel_rfl, by kernel_rfl, by kernel_rfl, (fun h => by cases h), by kernel_rfl, by kernel_rfl⟩, Tryd.isAgg131⟩
instance : TyS Tryd.prog 131 [(0, 1)] := ⟨_, Tryd.underlying131, fun w => by simp [Tryd.sizeOf17]⟩
instance : TyF Tryd.prog 131 0 0 17 := ⟨⟨_, _, Tryd.t17, Tryd.underlying131, rfl, rfl, rfl, by kernel_rfl, by intro h; cases h⟩⟩
instance : TyI Tryd.prog 132 true 1 8 ([.pointer none]) := ⟨⟨Tryd.t132, by kernel_rfl, by kernel_rfl, by kernel_rfl, by kernel_rfl, (fun h => by cases h), by kernel_rfl, by kernel_rfl⟩, Tryd.isAgg132⟩
instance : TyS Tryd.prog 132 [(0, 1)] := ⟨_, Tryd.underlying132, fun w => by simp [Tryd.sizeOf17]⟩
instance : TyF Tryd.prog 132 0 0 17 := ⟨⟨_, _, Tryd.t17, Tryd.underlying132, rfl, rfl, rfl, by kernel_rfl, by intro h; cases h⟩⟩
instance : TyU Tryd.prog 133 (.pointer 161) := ⟨Tryd.underlying133⟩
instance : TyI Tryd.prog 133 false 1 8 ([.pointer none]) := ⟨⟨Tryd.t133, by kernel_rfl, by kernel_rfl, by kernel_rfl, by kernel_rfl, (fun _ => ⟨_, rfl, rfl⟩), by kernel_rfl, by kernel_rfl⟩, Tryd.isAgg133⟩
instance : TyI Tryd.prog 134 false 1 8 ([.nilFunc]) := ⟨⟨Tryd.t134, by kernel_rfl, by kernel_rfl, by kernel_rfl, by kernel_rfl, (fun _ => ⟨_, rfl, rfl⟩), by kernel_rfl, by kernel_rfl⟩, Tryd.isAgg134⟩
instance : TyI Tryd.prog 135 false 1 8 ([.nilFunc]) := ⟨⟨Tryd.t135, by kernel_rfl, by kernel_rfl, by kernel_rfl, by kernel_rfl, (fun _ => ⟨_, rfl, rfl⟩), by kernel_rfl, by kernel_rfl⟩, Tryd.isAgg135⟩
instance : TyI Tryd.prog 136 false 1 8 ([.nilFunc]) := ⟨⟨Tryd.t136, by kernel_rfl, by kernel_rfl, by kernel_rfl, by kernel_rfl, (fun _ => ⟨_, rfl, rfl⟩), by kernel_rfl, by kernel_rfl⟩, Tryd.isAgg136⟩
instance : TyI Tryd.prog 137 false 1 16 ([.nilIface]) := ⟨⟨Tryd.t137, by kernel_rfl, by kernel_rfl, by kernel_rfl, by kernel_rfl, (fun _ => ⟨_, rfl, rfl⟩), by kernel_rfl, by kernel_rfl⟩, Tryd.isAgg137⟩
instance : TyI Tryd.prog 139 false 1 8 ([.nilFunc]) := ⟨⟨Tryd.t139, by kernel_rfl, by kernel_rfl, by kernel_rfl, by kernel_rfl, (fun _ => ⟨_, rfl, rfl⟩), by kernel_rfl, by kernel_rfl⟩, Tryd.isAgg139⟩
instance : TyI Tryd.prog 140 false 1 16 ([.nilIface]) := ⟨⟨Tryd.t140, by kernel_rfl, by kernel_rfl, by kernel_rfl, by kernel_rfl, (fun _ => ⟨_, rfl, rfl⟩), by kernel_rfl, by kernel_rfl⟩, Tryd.isAgg140⟩
instance : TyI Tryd.prog 141 false 1 16 ([.nilIface]) := ⟨⟨Tryd.t141, by kernel_rfl, by kernel_rfl, by kernel_rfl, by kernel_rfl, (fun _ => ⟨_, rfl, rfl⟩), by kernel_rfl, by kernel_rfl⟩, Tryd.isAgg141⟩
instance : TyU Tryd.prog 142 (.slice 71) := ⟨Tryd.underlying142⟩
instance : TyI Tryd.prog 142 false 1 24 ([.slice none 0 0]) := ⟨⟨Tryd.t142, by kernel_rfl, by kernel_rfl, by kernel_rfl, by kernel_rfl, (fun _ => ⟨_, rfl, rfl⟩), by kernel_rfl, by kernel_rfl⟩, Tryd.isAgg142⟩
instance : TyI Tryd.prog 143 false 1 8 ([.nilFunc]) := ⟨⟨Tryd.t143, by kernel_rfl, by kernel_rfl, by kernel_rfl, by kernel_rfl, (fun _ => ⟨_, rfl, rfl⟩), by kernel_rfl, by kernel_rfl⟩, Tryd.isAgg143⟩
instance : TyI Tryd.prog 144 false 1 8 ([.nilFunc]) := ⟨⟨Tryd.t144, by kernel_rfl, by kernel_rfl, by kernel_rfl, by kernel_rfl, (fun _ => ⟨_, rfl, rfl⟩), by kernel_rfl, by kernel_rfl⟩, Tryd.isAgg144⟩
instance : TyI Tryd.prog 145 true 4 40 (.pointer none :: (.pointer none :: (.pointer none :: [.string ⟨#[]⟩]))) := ⟨⟨Tryd.t145, by kernel_rfl, by kernel_rfl, by kernel_rfl, by kernel_rfl, (fun h => by cases h), by kernel_rfl, by kernel_rfl⟩, Tryd.isAgg145⟩
instance : TyS Tryd.prog 145 [(0, 1), (1, 1), (2, 1), (3, 1)] := ⟨_, Tryd.underlying145, fun w => by simp [Tryd.sizeOf17, Tryd.sizeOf9]⟩
instance : TyF Tryd.prog 145 0 0 17 := ⟨⟨_, _, Tryd.t17, Tryd.underlying145, rfl, rfl, rfl, by kernel_rfl, by intro h; cases h⟩⟩
instance : TyF Tryd.prog 145 1 1 17 := ⟨⟨_, _, Tryd.t17, Tryd.underlying145, rfl, rfl, rfl, by kernel_rfl, by intro h; cases h⟩⟩
instance : TyF Tryd.prog 145 2 2 17 := ⟨⟨_, _, Tryd.t17, Tryd.underlying145, rfl, rfl, rfl, by kernel_rfl, by intro h; cases h⟩⟩
instance : TyF Tryd.prog 145 3 3 9 := ⟨⟨_, _, Tryd.t9, Tryd.underlying145, rfl, rfl, rfl, by kernel_rfl, by intro h; cases h⟩⟩
instance : TyI Tryd.prog 146 true 4 40 (.pointer none :: (.pointer none :: (.pointer none :: [.string ⟨#[]⟩]))) := ⟨⟨Tryd.t146, by kernel_rfl, by kernel_rfl, by kernel_rfl, by kernel_rfl, (fun h => by cases h), by kernel_rfl, by kernel_rfl⟩, Tryd.isAgg146⟩
instance : TyS Tryd.prog 146 [(0, 1), (1, 1), (2, 1), (3, 1)] := ⟨_, Tryd.underlying146, fun w => by simp [Tryd.sizeOf17, Tryd.sizeOf9]⟩
instance : TyF Tryd.prog 146 0 0 17 := ⟨⟨_, _, Tryd.t17, Tryd.underlying146, rfl, rfl, rfl, by kernel_rfl, by intro h; cases h⟩⟩
instance : TyF Tryd.prog 146 1 1 17 := ⟨⟨_, _, Tryd.t17, Tryd.underlying146, rfl, rfl, rfl, by kernel_rfl, by intro h; cases h⟩⟩
instance : TyF Tryd.prog 146 2 2 17 := ⟨⟨_, _, Tryd.t17, Tryd.underlying146, rfl, rfl, rfl, by kernel_rfl, by intro h; cases h⟩⟩
instance : TyF Tryd.prog 146 3 3 9 := ⟨⟨_, _, Tryd.t9, Tryd.underlying146, rfl, rfl, rfl, by kernel_rfl, by intro h; cases h⟩⟩
instance : TyU Tryd.prog 147 (.array 0 16) := ⟨Tryd.underlying147⟩
instance : TyI Tryd.prog 150 false 1 8 ([.nilFunc]) := ⟨⟨Tryd.t150, by kernel_rfl, by kernel_rfl, by kernel_rfl, by kernel_rfl, (fun _ => ⟨_, rfl, rfl⟩), by kernel_rfl, by kernel_rfl⟩, Tryd.isAgg150⟩
instance : TyU Tryd.prog 151 (.int .u8) := ⟨Tryd.underlying151⟩
instance : TyI Tryd.prog 151 false 1 1 ([.int .u8 0]) := ⟨⟨Tryd.t151, by kernel_rfl, by kernel_rfl, by kernel_rfl, by kernel_rfl, (fun _ => ⟨_, rfl, rfl⟩), by kernel_rfl, by kernel_rfl⟩, Tryd.isAgg151⟩
instance : TyI Tryd.prog 152 false 1 8 ([.nilFunc]) := ⟨⟨Tryd.t152, by kernel_rfl, by kernel_rfl, by kernel_rfl, by kernel_rfl, (fun _ => ⟨_, rfl, rfl⟩), by kernel_rfl, by kernel_rfl⟩, Tryd.isAgg152⟩
instance : TyU Tryd.prog 153 (.pointer 5) := ⟨Tryd.underlying153⟩
instance : TyI Tryd.prog 153 false 1 8 ([.pointer none]) := ⟨⟨Tryd.t153, by kernel_rfl, by kernel_rfl, by kernel_rfl, by kernel_rfl, (fun _ => ⟨_, rfl, rfl⟩), by kernel_rfl, by kernel_rfl⟩, Tryd.isAgg153⟩
instance : TyU Tryd.prog 154 (.int .i32) := ⟨Tryd.underlying154⟩
instance : TyI Tryd.prog 154 false 1 4 ([.int .i32 0]) := ⟨⟨Tryd.t154, by kernel_rfl, by kernel_rfl, by kernel_rfl, by kernel_rfl, (fun _ => ⟨_, rfl, rfl⟩), by kernel_rfl, by kernel_rfl⟩, Tryd.isAgg154⟩
instance : TyU Tryd.prog 155 (.int .i32) := ⟨Tryd.underlying155⟩
instance : TyI Tryd.prog 155 false 1 4 ([.int .i32 0]) := ⟨⟨Tryd.t155, by kernel_rfl, by kernel_rfl, by kernel_rfl, by kernel_rfl, (fun _ => ⟨_, rfl, rfl⟩), by kernel_rfl, by kernel_rfl⟩, Tryd.isAgg155⟩
instance : TyI Tryd.prog 156 true 11 48 (.int .u64 0 :: (.int .u64 0 :: (.int .u32 0 :: (.int .u8 0 :: (.int .u8 0 :: (.int .u8 0 :: (.int .u8 0 :: (.nilFunc :: (.pointer none :: (.int .i32 0 :: [.int .i32 0])))))))))) := ⟨⟨Tryd.t156, by kernel_rfl, by kernel_rfl, by kernel_rfl, by kernel_rfl, (fun h => by cases h), by kernel_rfl, by kernel_rfl⟩, Tryd.isAgg156⟩
instance : TyS Tryd.prog 156 [(0, 1), (1, 1), (2, 1), (3, 1), (4, 1), (5, 1), (6, 1), (7, 1), (8, 1), (9, 1), (10, 1)] := ⟨_, Tryd.underlying156, fun w => by simp [Tryd.sizeOf12, Tryd.sizeOf46, Tryd.sizeOf151, Tryd.sizeOf5, Tryd.sizeOf125, Tryd.sizeOf152, Tryd.sizeOf153, Tryd.sizeOf154, Tryd.sizeOf155]⟩
instance : TyF Tryd.prog 156 0 0 12 := ⟨⟨_, _, Tryd.t12, Tryd.underlying156, rfl, rfl, rfl, by kernel_rfl, by intro h; cases h⟩⟩
instance : TyF Tryd.prog 156 1 1 12 := ⟨⟨_, _, Tryd.t12, Tryd.underlying156, rfl, rfl, rfl, by kernel_rfl, by intro h; cases h⟩⟩
instance : TyF Tryd.prog 156 2 2 46 := ⟨⟨_, _, Tryd.t46, Tryd.underlying156, rfl, rfl, rfl, by kernel_rfl, by intro h; cases h⟩⟩
instance : TyF Tryd.prog 156 3 3 151 := ⟨⟨_, _, Tryd.t151, Tryd.underlying156, rfl, rfl, rfl, by kernel_rfl, by intro h; cases h⟩⟩
instance : TyF Tryd.prog 156 4 4 5 := ⟨⟨_, _, Tryd.t5, Tryd.underlying156, rfl, rfl, rfl, by kernel_rfl, by intro h; cases h⟩⟩
instance : TyF Tryd.prog 156 5 5 5 := ⟨⟨_, _, Tryd.t5, Tryd.underlying156, rfl, rfl, rfl, by kernel_rfl, by intro h; cases h⟩⟩
instance : TyF Tryd.prog 156 6 6 125 := ⟨⟨_, _, Tryd.t125, Tryd.underlying156, rfl, rfl, rfl, by kernel_rfl, by intro h; cases h⟩⟩
instance : TyF Tryd.prog 156 7 7 152 := ⟨⟨_, _, Tryd.t152, Tryd.underlying156, rfl, rfl, rfl, by kernel_rfl, by intro h; cases h⟩⟩
instance : TyF Tryd.prog 156 8 8 153 := ⟨⟨_, _, Tryd.t153, Tryd.underlying156, rfl, rfl, rfl, by kernel_rfl, by intro h; cases h⟩⟩
instance : TyF Tryd.prog 156 9 9 154 := ⟨⟨_, _, Tryd.t154, Tryd.underlying156, rfl, rfl, rfl, by kernel_rfl, by intro h; cases h⟩⟩
instance : TyF Tryd.prog 156 10 10 155 := ⟨⟨_, _, Tryd.t155, Tryd.underlying156, rfl, rfl, rfl, by kernel_rfl, by intro h; cases h⟩⟩
instance : TyI Tryd.prog 157 true 11 48 (.int .u64 0 :: (.int .u64 0 :: (.int .u32 0 :: (.int .u8 0 :: (.int .u8 0 :: (.int .u8 0 :: (.int .u8 0 :: (.nilFunc :: (.pointer none :: (.int .i32 0 :: [.int .i32 0])))))))))) := ⟨⟨Tryd.t157, by kernel_rfl, by kernel_rfl, by kernel_rfl, by kernel_rfl, (fun h => by cases h), by kernel_rfl, by kernel_rfl⟩, Tryd.isAgg157⟩
instance : TyS Tryd.prog 157 [(0, 1), (1, 1), (2, 1), (3, 1), (4, 1), (5, 1), (6, 1), (7, 1), (8, 1), (9, 1), (10, 1)] := ⟨_, Tryd.underlying157, fun w => by simp [Tryd.sizeOf12, Tryd.sizeOf46, Tryd.sizeOf151, Tryd.sizeOf5, Tryd.sizeOf125, Tryd.sizeOf152, Tryd.sizeOf153, Tryd.sizeOf154, Tryd.sizeOf155]⟩
instance : TyF Tryd.prog 157 0 0 12 := ⟨⟨_, _, Tryd.t12, Tryd.underlying157, rfl, rfl, rfl, by kernel_rfl, by intro h; cases h⟩⟩
instance : TyF Tryd.prog 157 1 1 12 := ⟨⟨_, _, Tryd.t12, Tryd.underlying157, rfl, rfl, rfl, by kernel_rfl, by intro h; cases h⟩⟩
instance : TyF Tryd.prog 157 2 2 46 := ⟨⟨_, _, Tryd.t46, Tryd.underlying157, rfl, rfl, rfl, by kernel_rfl, by intro h; cases h⟩⟩
instance : TyF Tryd.prog 157 3 3 151 := ⟨⟨_, _, Tryd.t151, Tryd.underlying157, rfl, rfl, rfl, by kernel_rfl, by intro h; cases h⟩⟩
instance : TyF Tryd.prog 157 4 4 5 := ⟨⟨_, _, Tryd.t5, Tryd.underlying157, rfl, rfl, rfl, by kernel_rfl, by intro h; cases h⟩⟩
instance : TyF Tryd.prog 157 5 5 5 := ⟨⟨_, _, Tryd.t5, Tryd.underlying157, rfl, rfl, rfl, by kernel_rfl, by intro h; cases h⟩⟩
instance : TyF Tryd.prog 157 6 6 125 := ⟨⟨_, _, Tryd.t125, Tryd.underlying157, rfl, rfl, rfl, by kernel_rfl, by intro h; cases h⟩⟩
instance : TyF Tryd.prog 157 7 7 152 := ⟨⟨_, _, Tryd.t152, Tryd.underlying157, rfl, rfl, rfl, by kernel_rfl, by intro h; cases h⟩⟩
instance : TyF Tryd.prog 157 8 8 153 := ⟨⟨_, _, Tryd.t153, Tryd.underlying157, rfl, rfl, rfl, by kernel_rfl, by intro h; cases h⟩⟩
instance : TyF Tryd.prog 157 9 9 154 := ⟨⟨_, _, Tryd.t154, Tryd.underlying157, rfl, rfl, rfl, by kernel_rfl, by intro h; cases h⟩⟩
instance : TyF Tryd.prog 157 10 10 155 := ⟨⟨_, _, Tryd.t155, Tryd.underlying157, rfl, rfl, rfl, by kernel_rfl, by intro h; cases h⟩⟩
instance : TyI Tryd.prog 158 false 1 8 ([.nilFunc]) := ⟨⟨Tryd.t158, by kernel_rfl, by kernel_rfl, by kernel_rfl, by kernel_rfl, (fun _ => ⟨_, rfl, rfl⟩), by kernel_rfl, by kernel_rfl⟩, Tryd.isAgg158⟩
instance : TyI Tryd.prog 159 false 1 8 ([.nilFunc]) := ⟨⟨Tryd.t159, by kernel_rfl, by kernel_rfl, by kernel_rfl, by kernel_rfl, (fun _ => ⟨_, rfl, rfl⟩), by kernel_rfl, by kernel_rfl⟩, Tryd.isAgg159⟩
instance : TyI Tryd.prog 160 true 2 24 (.string ⟨#[]⟩ :: [.int .u8 0]) := ⟨⟨Tryd.t160, by kernel_rfl, by kernel_rfl, by kernel_rfl, by kernel_rfl, (fun h => by cases h), by kernel_rfl, by kernel_rfl⟩, Tryd.isAgg160⟩
instance : TyS Tryd.prog 160 [(0, 1), (1, 1)] := ⟨_, Tryd.underlying160, fun w => by simp [Tryd.sizeOf9, Tryd.sizeOf125]⟩
instance : TyF Tryd.prog 160 0 0 9 := ⟨⟨_, _, Tryd.t9, Tryd.underlying160, rfl, rfl, rfl, by kernel_rfl, by intro h; cases h⟩⟩
instance : TyF Tryd.prog 160 1 1 125 := ⟨⟨_, _, Tryd.t125, Tryd.underlying160, rfl, rfl, rfl, by kernel_rfl, by intro h; cases h⟩⟩
instance : TyI Tryd.prog 161 true 2 24 (.string ⟨#[]⟩ :: [.int .u8 0]) := ⟨⟨Tryd.t161, by kernel_rfl, by kernel_rfl, by kernel_rfl, by kernel_rfl, (fun h => by cases h), by kernel_rfl, by kernel_rfl⟩, Tryd.isAgg161⟩
instance : TyS Tryd.prog 161 [(0, 1), (1, 1)] := ⟨_, Tryd.underlying161, fun w => by simp [Tryd.sizeOf9, Tryd.sizeOf125]⟩
instance : TyF Tryd.prog 161 0 0 9 := ⟨⟨_, _, Tryd.t9, Tryd.underlying161, rfl, rfl, rfl, by kernel_rfl, by intro h; cases h⟩⟩
instance : TyF Tryd.prog 161 1 1 125 := ⟨⟨_, _, Tryd.t125, Tryd.underlying161, rfl, rfl, rfl, by kernel_rfl, by intro h; cases h⟩⟩
instance : TyU Tryd.prog 162 (.pointer 166) := ⟨Tryd.underlying162⟩
instance : TyI Tryd.prog 162 false 1 8 ([.pointer none]) := ⟨⟨Tryd.t162, by kernel_rfl, by kernel_rfl, by kernel_rfl, by kernel_rfl, (fun _ => ⟨_, rfl, rfl⟩), by kernel_rfl, by kernel_rfl⟩, Tryd.isAgg162⟩
instance : TyI Tryd.prog 163 false 1 8 ([.nilFunc]) := ⟨⟨Tryd.t163, by kernel_rfl, by kernel_rfl, by kernel_rfl, by kernel_rfl, (fun _ => ⟨_, rfl, rfl⟩), by kernel_rfl, by kernel_rfl⟩, Tryd.isAgg163⟩
instance : TyU Tryd.prog 164 (.int .u16) := ⟨Tryd.underlying164⟩
instance : TyI Tryd.prog 164 false 1 2 ([.int .u16 0]) := ⟨⟨Tryd.t164, by kernel_rfl, by kernel_rfl, by kernel_rfl, by kernel_rfl, (fun _ => ⟨_, rfl, rfl⟩), by kernel_rfl, by kernel_rfl⟩, Tryd.isAgg164⟩
instance : TyI Tryd.prog 165 true 5 16 (.int .i32 0 :: (.int .u16 0 :: (.int .u16 0 :: (.int .u32 0 :: [.int .u32 0])))) := ⟨⟨Tryd.t165, by kernel_rfl, by kernel_rfl, by kernel_rfl, by kernel_rfl, (fun h => by cases h), by kernel_rfl, by kernel_rfl⟩, Tryd.isAgg165⟩
instance : TyS Tryd.prog 165 [(0, 1), (1, 1), (2, 1), (3, 1), (4, 1)] := ⟨_, Tryd.underlying165, fun w => by simp [Tryd.sizeOf154, Tryd.sizeOf164, Tryd.sizeOf46]⟩
instance : TyF Tryd.prog 165 0 0 154 := ⟨⟨_, _, Tryd.t154, Tryd.underlying165, rfl, rfl, rfl, by kernel_rfl, by intro h; cases h⟩⟩
instance : TyF Tryd.prog 165 1 1 164 := ⟨⟨_, _, Tryd.t164, Tryd.underlying165, rfl, rfl, rfl, by kernel_rfl, by intro h; cases h⟩⟩
instance : TyF Tryd.prog 165 2 2 164 := ⟨⟨_, _, Tryd.t164, Tryd.underlying165, rfl, rfl, rfl, by kernel_rfl, by intro h; cases h⟩⟩
instance : TyF Tryd.prog 165 3 3 46 := ⟨⟨_, _, Tryd.t46, Tryd.underlying165, rfl, rfl, rfl, by kernel_rfl, by intro h; cases h⟩⟩
instance : TyF Tryd.prog 165 4 4 46 := ⟨⟨_, _, Tryd.t46, Tryd.underlying165, rfl, rfl, rfl, by kernel_rfl, by intro h; cases h⟩⟩
instance : TyI Tryd.prog 166 true 5 16 (.int .i32 0 :: (.int .u16 0 :: (.int .u16 0 :: (.int .u32 0 :: [.int .u32 0])))) := ⟨⟨Tryd.t166, by kernel_rfl, by kernel_rfl, by kernel_rfl, by kernel_rfl, (fun h => by cases h), by kernel_rfl, by kernel_rfl⟩, Tryd.isAgg166⟩
instance : TyS Tryd.prog 166 [(0, 1), (1, 1), (2, 1), (3, 1), (4, 1)] := ⟨_, Tryd.underlying166, fun w => by simp [Tryd.sizeOf154, Tryd.sizeOf164, Tryd.sizeOf46]⟩
instance : TyF Tryd.prog 166 0 0 154 := ⟨⟨_, _, Tryd.t154, Tryd.underlying166, rfl, rfl, rfl, by kernel_rfl, by intro h; cases h⟩⟩
instance : TyF Tryd.prog 166 1 1 164 := ⟨⟨_, _, Tryd.t164, Tryd.underlying166, rfl, rfl, rfl, by kernel_rfl, by intro h; cases h⟩⟩
instance : TyF Tryd.prog 166 2 2 164 := ⟨⟨_, _, Tryd.t164, Tryd.underlying166, rfl, rfl, rfl, by kernel_rfl, by intro h; cases h⟩⟩
instance : TyF Tryd.prog 166 3 3 46 := ⟨⟨_, _, Tryd.t46, Tryd.underlying166, rfl, rfl, rfl, by kernel_rfl, by intro h; cases h⟩⟩
instance : TyF Tryd.prog 166 4 4 46 := ⟨⟨_, _, Tryd.t46, Tryd.underlying166, rfl, rfl, rfl, by kernel_rfl, by intro h; cases h⟩⟩
instance : TyU Tryd.prog 167 (.slice 170) := ⟨Tryd.underlying167⟩
instance : TyI Tryd.prog 167 false 1 24 ([.slice none 0 0]) := ⟨⟨Tryd.t167, by kernel_rfl, by kernel_rfl, by kernel_rfl, by kernel_rfl, (fun _ => ⟨_, rfl, rfl⟩), by kernel_rfl, by kernel_rfl⟩, Tryd.isAgg167⟩
instance : TyU Tryd.prog 168 (.int .i32) := ⟨Tryd.underlying168⟩
instance : TyI Tryd.prog 168 false 1 4 ([.int .i32 0]) := ⟨⟨Tryd.t168, by kernel_rfl, by kernel_rfl, by kernel_rfl, by kernel_rfl, (fun _ => ⟨_, rfl, rfl⟩), by kernel_rfl, by kernel_rfl⟩, Tryd.isAgg168⟩
instance : TyI Tryd.prog 169 true 4 16 (.int .i32 0 :: (.int .i32 0 :: (.int .i32 0 :: [.int .i32 0]))) := ⟨⟨Tryd.t169, by kernel_rfl, by kernel_rfl, by kernel_rfl, by kernel_rfl, (fun h => by cases h), by kernel_rfl, by kernel_rfl⟩, Tryd.isAgg169⟩
instance : TyS Tryd.prog 169 [(0, 1), (1, 1), (2, 1), (3, 1)] := ⟨_, Tryd.underlying169, fun w => by simp [Tryd.sizeOf154, Tryd.sizeOf155, Tryd.sizeOf168]⟩
instance : TyF Tryd.prog 169 0 0 154 := ⟨⟨_, _, Tryd.t154, Tryd.underlying169, rfl, rfl, rfl, by kernel_rfl, by intro h; cases h⟩⟩
instance : TyF Tryd.prog 169 1 1 155 := ⟨⟨_, _, Tryd.t155, Tryd.underlying169, rfl, rfl, rfl, by kernel_rfl, by intro h; cases h⟩⟩
instance : TyF Tryd.prog 169 2 2 168 := ⟨⟨_, _, Tryd.t168, Tryd.underlying169, rfl, rfl, rfl, by kernel_rfl, by intro h; cases h⟩⟩
instance : TyF Tryd.prog 169 3 3 168 := ⟨⟨_, _, Tryd.t168, Tryd.underlying169, rfl, rfl, rfl, by kernel_rfl, by intro h; cases h⟩⟩
instance : TyI Tryd.prog 170 true 4 16 (.int .i32 0 :: (.int .i32 0 :: (.int .i32 0 :: [.int .i32 0]))) := ⟨⟨Tryd.t170, by kernel_rfl, by kernel_rfl, by kernel_rfl, by kernel_rfl, (fun h => by cases h), by kernel_rfl, by kernel_rfl⟩, Tryd.isAgg170⟩
instance : TyS Tryd.prog 170 [(0, 1), (1, 1), (2, 1), (3, 1)] := ⟨_, Tryd.underlying170, fun w => by simp [Tryd.sizeOf154, Tryd.sizeOf155, Tryd.sizeOf168]⟩
instance : TyF Tryd.prog 170 0 0 154 := ⟨⟨_, _, Tryd.t154, Tryd.underlying170, rfl, rfl, rfl, by kernel_rfl, by intro h; cases h⟩⟩
instance : TyF Tryd.prog 170 1 1 155 := ⟨⟨_, _, Tryd.t155, Tryd.underlying170, rfl, rfl, rfl, by kernel_rfl, by intro h; cases h⟩⟩
instance : TyF Tryd.prog 170 2 2 168 := ⟨⟨_, _, Tryd.t168, Tryd.underlying170, rfl, rfl, rfl, by kernel_rfl, by intro h; cases h⟩⟩
instance : TyF Tryd.prog 170 3 3 168 := ⟨⟨_, _, Tryd.t168, Tryd.underlying170, rfl, rfl, rfl, by kernel_rfl, by intro h; cases h⟩⟩
instance : TyU Tryd.prog 171 (.pointer 71) := ⟨Tryd.underlying171⟩
instance : TyI Tryd.prog 171 false 1 8 ([.pointer none]) := ⟨⟨Tryd.t171, by kernel_rfl, by kernel_rfl, by kernel_rfl, by kernel_rfl, (fun _ => ⟨_, rfl, rfl⟩), by kernel_rfl, by kernel_rfl⟩, Tryd.isAgg171⟩
def tab : Tab := ⟨[(2, (.int .i64)), (3, (.int .i64)), (4, .bool), (5, (.int .u8)), (6, (.int .u8)), (9, .string), (10, .string), (11, .string), (12, (.int .u64)), (15, (.pointer 146)), (16, (.pointer 149)), (17, (.pointer 157)), (21, (.int .i32)), (22, (.slice 5)), (23, (.slice 4)), (26, (.pointer 30)), (27, (.pointer 43)), (28, (.slice 22)), (31, (.slice 26)), (32, (.int .i64)), (40, (.slice 81)), (41, (.slice 83)), (46, (.int .u32)), (52, (.slice 3)), (59, (.slice 25)), (60, (.pointer 65)), (62, (.int .u64)), (63, (.pointer 91)), (81, (.array 256 5)), (88, (.slice 9)), (89, (.slice 113)), (100, (.pointer 104)), (102, (.pointer 100)), (118, (.int .u64)), (125, (.int .u8)), (129, (.int .u64)), (133, (.pointer 161)), (142, (.slice 71)), (147, (.array 0 16)), (151, (.int .u8)), (153, (.pointer 5)), (154, (.int .i32)), (155, (.int .i32)), (162, (.pointer 166)), (164, (.int .u16)), (167, (.slice 170)), (168, (.int .i32)), (171, (.pointer 71))],
  [(1, 1), (2, 1), (3, 1), (4, 1), (5, 1), (6, 1), (7, 4), (8, 4), (9, 1), (10, 1), (11, 1), (12, 1), (13, 2), (14, 2), (15, 1), (16, 1), (17, 1), (18, 1), (19, 1), (20, 1), (21, 1), (22, 1), (23, 1), (24, 7), (25, 7), (26, 1), (27, 1), (28, 1), (29, 10), (30, 10), (31, 1), (32, 1), (33, 1), (34, 1), (35, 1), (36, 1), (37, 1), (39, 1), (40, 1), (41, 1), (42, 4), (43, 4), (44, 1), (45, 1), (46, 1), (47, 1), (48, 1), (49, 1), (51, 1), (52, 1), (53, 1), (54, 1), (55, 1), (57, 1), (58, 1), (59, 1), (60, 1), (61, 1), (62, 1), (63, 1), (64, 8), (65, 8), (66, 1), (67, 1), (68, 1), (69, 1), (70, 1), (71, 1), (72, 1), (73, 1), (74, 1), (76, 1), (78, 1), (79, 1), (80, 1), (81, 256), (82, 257), (83, 257), (85, 1), (87, 1), (88, 1), (89, 1), (90, 4), (91, 4), (92, 1), (93, 1), (94, 1), (95, 1), (97, 1), (98, 1), (99, 1), (100, 1), (101, 1), (102, 1), (103, 1), (104, 1), (105, 1), (106, 1), (107, 1), (108, 1), (109, 1), (110, 1), (111, 1), (112, 2), (113, 2), (114, 1), (115, 1), (116, 1), (117, 1), (118, 1), (119, 3), (120, 3), (121, 1), (122, 1), (123, 1), (124, 1), (125, 1), (126, 1), (127, 1), (128, 1), (129, 1), (130, 1), (131, 1), (132, 1), (133, 1), (134, 1), (135, 1), (136, 1), (137, 1), (139, 1), (140, 1), (141, 1), (142, 1), (143, 1), (144, 1), (145, 4), (146, 4), (150, 1), (151, 1), (152, 1), (153, 1), (154, 1), (155, 1), (156, 11), (157, 11), (158, 1), (159, 1), (160, 2), (161, 2), (162, 1), (163, 1), (164, 1), (165, 5), (166, 5), (167, 1), (168, 1), (169, 4), (170, 4), (171, 1)],
  [(7, 0, 0), (7, 1, 1), (7, 2, 2), (7, 3, 3), (8, 0, 0), (8, 1, 1), (8, 2, 2), (8, 3, 3), (13, 0, 0), (13, 1, 1), (14, 0, 0), (14, 1, 1), (18, 0, 0), (19, 0, 0), (24, 0, 0), (24, 1, 1), (24, 2, 2), (24, 3, 3), (24, 4, 4), (24, 5, 5), (24, 6, 6), (25, 0, 0), (25, 1, 1), (25, 2, 2), (25, 3, 3), (25, 4, 4), (25, 5, 5), (25, 6, 6), (29, 0, 0), (29, 1, 1), (29, 2, 2), (29, 3, 3), (29, 4, 4), (29, 5, 5), (29, 6, 6), (29, 7, 7), (29, 8, 8), (29, 9, 9), (30, 0, 0), (30, 1, 1), (30, 2, 2), (30, 3, 3), (30, 4, 4), (30, 5, 5), (30, 6, 6), (30, 7, 7), (30, 8, 8), (30, 9, 9), (42, 0, 0), (42, 1, 1), (42, 2, 2), (42, 3, 3), (43, 0, 0), (43, 1, 1), (43, 2, 2), (43, 3, 3), (64, 0, 0), (64, 1, 1), (64, 2, 2), (64, 3, 3), (64, 4, 4), (64, 5, 5), (64, 6, 6), (64, 7, 7), (65, 0, 0), (65, 1, 1), (65, 2, 2), (65, 3, 3), (65, 4, 4), (65, 5, 5), (65, 6, 6), (65, 7, 7), (82, 0, 0), (82, 1, 1), (83, 0, 0), (83, 1, 1), (90, 0, 0), (90, 1, 1), (90, 2, 2), (90, 3, 3), (91, 0, 0), (91, 1, 1), (91, 2, 2), (91, 3, 3), (103, 0, 0), (104, 0, 0), (112, 0, 0), (112, 1, 1), (113, 0, 0), (113, 1, 1), (119, 0, 0), (119, 1, 1), (119, 2, 2), (120, 0, 0), (120, 1, 1), (120, 2, 2), (131, 0, 0), (132, 0, 0), (145, 0, 0), (145, 1, 1), (145, 2, 2), (145, 3, 3), (146, 0, 0), (146, 1, 1), (146, 2, 2), (146, 3, 3), (156, 0, 0), (156, 1, 1), (156, 2, 2), (156, 3, 3), (156, 4, 4), (156, 5, 5), (156, 6, 6), (156, 7, 7), (156, 8, 8), (156, 9, 9), (156, 10, 10), (157, 0, 0), (157, 1, 1), (157, 2, 2), (157, 3, 3), (157, 4, 4), (157, 5, 5), (157, 6, 6), (157, 7, 7), (157, 8, 8), (157, 9, 9), (157, 10, 10), (160, 0, 0), (160, 1, 1), (161, 0, 0), (161, 1, 1), (165, 0, 0), (165, 1, 1), (165, 2, 2), (165, 3, 3), (165, 4, 4), (166, 0, 0), (166, 1, 1), (166, 2, 2), (166, 3, 3), (166, 4, 4), (169, 0, 0), (169, 1, 1), (169, 2, 2), (169, 3, 3), (170, 0, 0), (170, 1, 1), (170, 2, 2), (170, 3, 3)]⟩
instance : TabOk Tryd.prog tab where
  u := by
    intro x hx
    simp only [tab, List.mem_cons, List.not_mem_nil, or_false] at hx
    rcases hx with rfl | rfl | rfl | rfl | rfl | rfl | rfl | rfl | rfl | rfl | rfl | rfl | rfl | rfl | rfl | rfl | rfl | rfl | rfl | rfl | rfl | rfl | rfl | rfl | rfl | rfl | rfl | rfl | rfl | rfl | rfl | rfl | rfl | rfl | rfl | rfl | rfl | rfl | rfl | rfl | rfl | rfl | rfl | rfl | rfl | rfl | rfl | rfl
    · exact Tryd.underlying2
    · exact Tryd.underlying3
    · exact Tryd.underlying4
    · exact Tryd.underlying5
    · exact Tryd.underlying6
    · exact Tryd.underlying9
    · exact Tryd.underlying10
    · exact Tryd.underlying11
    · exact Tryd.underlying12
    · exact Tryd.underlying15
    · exact Tryd.underlying16
    · exact Tryd.underlying17
    · exact Tryd.underlying21
    · exact Tryd.underlying22
    · exact Tryd.underlying23
    · exact Tryd.underlying26
    · exact Tryd.underlying27
    · exact Tryd.underlying28
    · exact Tryd.underlying31
    · exact Tryd.underlying32
    · exact Tryd.underlying40
    · exact Tryd.underlying41
    · exact Tryd.underlying46
    · exact Tryd.underlying52
    · exact Tryd.underlying59
    · exact Tryd.underlying60
    · exact Tryd.underlying62
    · exact Tryd.underlying63
    · exact Tryd.underlying81
    · exact Tryd.underlying88
    · exact Tryd.underlying89
    · exact Tryd.underlying100
    · exact Tryd.underlying102
    · exact Tryd.underlying118
    · exact Tryd.underlying125
    · exact Tryd.underlying129
    · exact Tryd.underlying133
    · exact Tryd.underlying142
    · exact Tryd.underlying147
    · exact Tryd.underlying151
    · exact Tryd.underlying153
    · exact Tryd.underlying154
    · exact Tryd.underlying155
    · exact Tryd.underlying162
    · exact Tryd.underlying164
    · exact Tryd.underlying167
    · exact Tryd.underlying168
    · exact Tryd.underlying171
  sz := by
    intro x hx
    simp only [tab, List.mem_cons, List.not_mem_nil, or_false] at hx
    rcases hx with rfl | rfl | rfl | rfl | rfl | rfl | rfl | rfl | rfl | rfl | rfl | rfl | rfl | rfl | rfl | rfl | rfl | rfl | rfl | rfl | rfl | rfl | rfl | rfl | rfl | rfl | rfl | rfl | rfl | rfl | rfl | rfl | rfl | rfl | rfl | rfl | rfl | rfl | rfl | rfl | rfl | rfl | rfl | rfl | rfl | rfl | rfl | rfl | rfl | rfl | rfl | rfl | rfl | rfl | rfl | rfl | rfl | rfl | rfl | rfl | rfl | rfl | rfl | rfl | rfl | rfl | rfl | rfl | rfl | rfl | rfl | rfl | rfl | rfl | rfl | rfl | rfl | rfl | rfl | rfl | rfl | rfl | rfl | rfl | rfl | rfl | rfl | rfl | rfl | rfl | rfl | rfl | rfl | rfl | rfl | rfl | rfl | rfl | rfl | rfl | rfl | rfl | rfl | rfl | rfl | rfl | rfl | rfl | rfl | rfl | rfl | rfl | rfl | rfl | rfl | rfl | rfl | rfl | rfl | rfl | rfl | rfl | rfl | rfl | rfl | rfl | rfl | rfl | rfl | rfl | rfl | rfl | rfl | rfl | rfl | rfl | rfl | rfl | rfl | rfl | rfl | rfl | rfl | rfl | rfl | rfl | rfl | rfl | rfl | rfl | rfl | rfl | rfl | rfl | rfl | rfl | rfl | rfl | rfl
    · exact Tryd.sizeOf1
    · exact Tryd.sizeOf2
    · exact Tryd.sizeOf3
    · exact Tryd.sizeOf4
    · exact Tryd.sizeOf5
    · exact Tryd.sizeOf6
    · exact Tryd.sizeOf7
    · exact Tryd.sizeOf8
    · exact Tryd.sizeOf9
    · exact Tryd.sizeOf10
    · exact Tryd.sizeOf11
    · exact Tryd.sizeOf12
    · exact Tryd.sizeOf13
    · exact Tryd.sizeOf14
    · exact Tryd.sizeOf15
    · exact Tryd.sizeOf16
    · exact Tryd.sizeOf17
    · exact Tryd.sizeOf18
    · exact Tryd.sizeOf19
    · exact Tryd.sizeOf20
    · exact Tryd.sizeOf21
    · exact Tryd.sizeOf22
    · exact Tryd.sizeOf23
    · exact Tryd.sizeOf24
    · exact Tryd.sizeOf25
    · exact Tryd.sizeOf26
    · exact Tryd.sizeOf27
    · exact Tryd.sizeOf28
    · exact Tryd.sizeOf29
    · exact Tryd.sizeOf30
    · exact Tryd.sizeOf31
    · exact Tryd.sizeOf32
    · exact Tryd.sizeOf33
    · exact Tryd.sizeOf34
    · exact Tryd.sizeOf35
    · exact Tryd.sizeOf36
    · exact Tryd.sizeOf37
    · exact Tryd.sizeOf39
    · exact Tryd.sizeOf40
    · exact Tryd.sizeOf41
    · exact Tryd.sizeOf42
    · exact Tryd.sizeOf43
    · exact Tryd.sizeOf44
    · exact Tryd.sizeOf45
    · exact Tryd.sizeOf46
    · exact Tryd.sizeOf47
    · exact Tryd.sizeOf48
    · exact Tryd.sizeOf49
    · exact Tryd.sizeOf51
    · exact Tryd.sizeOf52
    · exact Tryd.sizeOf53
    · exact Tryd.sizeOf54
    · exact Tryd.sizeOf55
    · exact Tryd.sizeOf57
    · exact Tryd.sizeOf58
    · exact Tryd.sizeOf59
    · exact Tryd.sizeOf60
    · exact Tryd.sizeOf61
    · exact Tryd.sizeOf62
    · exact Tryd.sizeOf63
    · exact Tryd.sizeOf64
    · exact Tryd.sizeOf65
    · exact Tryd.sizeOf66
    · exact Tryd.sizeOf67
    · exact Tryd.sizeOf68
    · exact Tryd.sizeOf69
    · exact Tryd.sizeOf70
    · exact Tryd.sizeOf71
    · exact Tryd.sizeOf72
    · exact Tryd.sizeOf73
    · exact Tryd.sizeOf74
    · exact Tryd.sizeOf76
    · exact Tryd.sizeOf78
    · exact Tryd.sizeOf79
    · exact Tryd.sizeOf80
    · exact Tryd.sizeOf81
    · exact Tryd.sizeOf82
    · exact Tryd.sizeOf83
    · exact Tryd.sizeOf85
    · exact Tryd.sizeOf87
    · exact Tryd.sizeOf88
    · exact Tryd.sizeOf89
    · exact Tryd.sizeOf90
    · exact Tryd.sizeOf91
    · exact Tryd.sizeOf92
    · exact Tryd.sizeOf93
    · exact Tryd.sizeOf94
    · exact Tryd.sizeOf95
    · exact Tryd.sizeOf97
    · exact Tryd.sizeOf98
    · exact Tryd.sizeOf99
    · exact Tryd.sizeOf100
    · exact Tryd.sizeOf101
    · exact Tryd.sizeOf102
    · exact Tryd.sizeOf103
    · exact Tryd.sizeOf104
    · exact Tryd.sizeOf105
    · exact Tryd.sizeOf106
    · exact Tryd.sizeOf107
    · exact Tryd.sizeOf108
    · exact Tryd.sizeOf109
    · exact Tryd.sizeOf110
    · exact Tryd.sizeOf111
    · exact Tryd.sizeOf112
    · exact Tryd.sizeOf113
    · exact Tryd.sizeOf114
    · exact Tryd.sizeOf115
    · exact Tryd.sizeOf116
    · exact Tryd.sizeOf117
    · exact Tryd.sizeOf118
    · exact Tryd.sizeOf119
    · exact Tryd.sizeOf120
    · exact Tryd.sizeOf121
    · exact Tryd.sizeOf122
    · exact Tryd.sizeOf123
    · exact Tryd.sizeOf124
    · exact Tryd.sizeOf125
    · exact Tryd.sizeOf126
    · exact Tryd.sizeOf127
    · exact Tryd.sizeOf128
    · exact Tryd.sizeOf129
    · exact Tryd.sizeOf130
    · exact Tryd.sizeOf131
    · exact Tryd.sizeOf132
    · exact Tryd.sizeOf133
    · exact Tryd.sizeOf134
    · exact Tryd.sizeOf135
    · exact Tryd.sizeOf136
    · exact Tryd.sizeOf137
    · exact Tryd.sizeOf139
    · exact Tryd.sizeOf140
    · exact Tryd.sizeOf141
    · exact Tryd.sizeOf142
    · exact Tryd.sizeOf143
    · exact Tryd.sizeOf144
    · exact Tryd.sizeOf145
    · exact Tryd.sizeOf146
    · exact Tryd.sizeOf150
    · exact Tryd.sizeOf151
    · exact Tryd.sizeOf152
    · exact Tryd.sizeOf153
    · exact Tryd.sizeOf154
    · exact Tryd.sizeOf155
    · exact Tryd.sizeOf156
    · exact Tryd.sizeOf157
    · exact Tryd.sizeOf158
    · exact Tryd.sizeOf159
    · exact Tryd.sizeOf160
    · exact Tryd.sizeOf161
    · exact Tryd.sizeOf162
    · exact Tryd.sizeOf163
    · exact Tryd.sizeOf164
    · exact Tryd.sizeOf165
    · exact Tryd.sizeOf166
    · exact Tryd.sizeOf167
    · exact Tryd.sizeOf168
    · exact Tryd.sizeOf169
    · exact Tryd.sizeOf170
    · exact Tryd.sizeOf171
  off := by
    intro x hx
    simp only [tab, List.mem_cons, List.not_mem_nil, or_false] at hx
    rcases hx with rfl | rfl | rfl | rfl | rfl | rfl | rfl | rfl | rfl | rfl | rfl | rfl | rfl | rfl | rfl | rfl | rfl | rfl | rfl | rfl | rfl | rfl | rfl | rfl | rfl | rfl | rfl | rfl | rfl | rfl | rfl | rfl | rfl | rfl | rfl | rfl | rfl | rfl | rfl | rfl | rfl | rfl | rfl | rfl | rfl | rfl | rfl | rfl | rfl | rfl | rfl | rfl | rfl | rfl | rfl | rfl | rfl | rfl | rfl | rfl | rfl | rfl | rfl | rfl | rfl | rfl | rfl | rfl | rfl | rfl | rfl | rfl | rfl | rfl | rfl | rfl | rfl | rfl | rfl | rfl | rfl | rfl | rfl | rfl | rfl | rfl | rfl | rfl | rfl | rfl | rfl | rfl | rfl | rfl | rfl | rfl | rfl | rfl | rfl | rfl | rfl | rfl | rfl | rfl | rfl | rfl | rfl | rfl | rfl | rfl | rfl | rfl | rfl | rfl | rfl | rfl | rfl | rfl | rfl | rfl | rfl | rfl | rfl | rfl | rfl | rfl | rfl | rfl | rfl | rfl | rfl | rfl | rfl | rfl | rfl | rfl | rfl | rfl | rfl | rfl | rfl | rfl | rfl | rfl | rfl | rfl | rfl | rfl | rfl | rfl
    · exact fun b o' w => run_fieldAt (s := 7) (f := 0) (off := 0) (ft := 2) b o' w
    · exact fun b o' w => run_fieldAt (s := 7) (f := 1) (off := 1) (ft := 3) b o' w
    · exact fun b o' w => run_fieldAt (s := 7) (f := 2) (off := 2) (ft := 4) b o' w
    · exact fun b o' w => run_fieldAt (s := 7) (f := 3) (off := 3) (ft := 6) b o' w
    · exact fun b o' w => run_fieldAt (s := 8) (f := 0) (off := 0) (ft := 2) b o' w
    · exact fun b o' w => run_fieldAt (s := 8) (f := 1) (off := 1) (ft := 3) b o' w
    · exact fun b o' w => run_fieldAt (s := 8) (f := 2) (off := 2) (ft := 4) b o' w
    · exact fun b o' w => run_fieldAt (s := 8) (f := 3) (off := 3) (ft := 6) b o' w
    · exact fun b o' w => run_fieldAt (s := 13) (f := 0) (off := 0) (ft := 9) b o' w
    · exact fun b o' w => run_fieldAt (s := 13) (f := 1) (off := 1) (ft := 12) b o' w
    · exact fun b o' w => run_fieldAt (s := 14) (f := 0) (off := 0) (ft := 9) b o' w
    · exact fun b o' w => run_fieldAt (s := 14) (f := 1) (off := 1) (ft := 12) b o' w
    · exact fun b o' w => run_fieldAt (s := 18) (f := 0) (off := 0) (ft := 17) b o' w
    · exact fun b o' w => run_fieldAt (s := 19) (f := 0) (off := 0) (ft := 17) b o' w
    · exact fun b o' w => run_fieldAt (s := 24) (f := 0) (off := 0) (ft := 3) b o' w
    · exact fun b o' w => run_fieldAt (s := 24) (f := 1) (off := 1) (ft := 3) b o' w
    · exact fun b o' w => run_fieldAt (s := 24) (f := 2) (off := 2) (ft := 3) b o' w
    · exact fun b o' w => run_fieldAt (s := 24) (f := 3) (off := 3) (ft := 3) b o' w
    · exact fun b o' w => run_fieldAt (s := 24) (f := 4) (off := 4) (ft := 3) b o' w
    · exact fun b o' w => run_fieldAt (s := 24) (f := 5) (off := 5) (ft := 22) b o' w
    · exact fun b o' w => run_fieldAt (s := 24) (f := 6) (off := 6) (ft := 23) b o' w
    · exact fun b o' w => run_fieldAt (s := 25) (f := 0) (off := 0) (ft := 3) b o' w
    · exact fun b o' w => run_fieldAt (s := 25) (f := 1) (off := 1) (ft := 3) b o' w
    · exact fun b o' w => run_fieldAt (s := 25) (f := 2) (off := 2) (ft := 3) b o' w
    · exact fun b o' w => run_fieldAt (s := 25) (f := 3) (off := 3) (ft := 3) b o' w
    · exact fun b o' w => run_fieldAt (s := 25) (f := 4) (off := 4) (ft := 3) b o' w
    · exact fun b o' w => run_fieldAt (s := 25) (f := 5) (off := 5) (ft := 22) b o' w
    · exact fun b o' w => run_fieldAt (s := 25) (f := 6) (off := 6) (ft := 23) b o' w
    · exact fun b o' w => run_fieldAt (s := 29) (f := 0) (off := 0) (ft := 27) b o' w
    · exact fun b o' w => run_fieldAt (s := 29) (f := 1) (off := 1) (ft := 3) b o' w
    · exact fun b o' w => run_fieldAt (s := 29) (f := 2) (off := 2) (ft := 3) b o' w
    · exact fun b o' w => run_fieldAt (s := 29) (f := 3) (off := 3) (ft := 3) b o' w
    · exact fun b o' w => run_fieldAt (s := 29) (f := 4) (off := 4) (ft := 4) b o' w
    · exact fun b o' w => run_fieldAt (s := 29) (f := 5) (off := 5) (ft := 22) b o' w
    · exact fun b o' w => run_fieldAt (s := 29) (f := 6) (off := 6) (ft := 3) b o' w
    · exact fun b o' w => run_fieldAt (s := 29) (f := 7) (off := 7) (ft := 28) b o' w
    · exact fun b o' w => run_fieldAt (s := 29) (f := 8) (off := 8) (ft := 28) b o' w
    · exact fun b o' w => run_fieldAt (s := 29) (f := 9) (off := 9) (ft := 3) b o' w
    · exact fun b o' w => run_fieldAt (s := 30) (f := 0) (off := 0) (ft := 27) b o' w
    · exact fun b o' w => run_fieldAt (s := 30) (f := 1) (off := 1) (ft := 3) b o' w
    · exact fun b o' w => run_fieldAt (s := 30) (f := 2) (off := 2) (ft := 3) b o' w
    · exact fun b o' w => run_fieldAt (s := 30) (f := 3) (off := 3) (ft := 3) b o' w
    · exact fun b o' w => run_fieldAt (s := 30) (f := 4) (off := 4) (ft := 4) b o' w
    · exact fun b o' w => run_fieldAt (s := 30) (f := 5) (off := 5) (ft := 22) b o' w
    · exact fun b o' w => run_fieldAt (s := 30) (f := 6) (off := 6) (ft := 3) b o' w
    · exact fun b o' w => run_fieldAt (s := 30) (f := 7) (off := 7) (ft := 28) b o' w
    · exact fun b o' w => run_fieldAt (s := 30) (f := 8) (off := 8) (ft := 28) b o' w
    · exact fun b o' w => run_fieldAt (s := 30) (f := 9) (off := 9) (ft := 3) b o' w
    · exact fun b o' w => run_fieldAt (s := 42) (f := 0) (off := 0) (ft := 40) b o' w
    · exact fun b o' w => run_fieldAt (s := 42) (f := 1) (off := 1) (ft := 41) b o' w
    · exact fun b o' w => run_fieldAt (s := 42) (f := 2) (off := 2) (ft := 3) b o' w
    · exact fun b o' w => run_fieldAt (s := 42) (f := 3) (off := 3) (ft := 3) b o' w
    · exact fun b o' w => run_fieldAt (s := 43) (f := 0) (off := 0) (ft := 40) b o' w
    · exact fun b o' w => run_fieldAt (s := 43) (f := 1) (off := 1) (ft := 41) b o' w
    · exact fun b o' w => run_fieldAt (s := 43) (f := 2) (off := 2) (ft := 3) b o' w
    · exact fun b o' w => run_fieldAt (s := 43) (f := 3) (off := 3) (ft := 3) b o' w
    · exact fun b o' w => run_fieldAt (s := 64) (f := 0) (off := 0) (ft := 63) b o' w
    · exact fun b o' w => run_fieldAt (s := 64) (f := 1) (off := 1) (ft := 3) b o' w
    · exact fun b o' w => run_fieldAt (s := 64) (f := 2) (off := 2) (ft := 3) b o' w
    · exact fun b o' w => run_fieldAt (s := 64) (f := 3) (off := 3) (ft := 3) b o' w
    · exact fun b o' w => run_fieldAt (s := 64) (f := 4) (off := 4) (ft := 4) b o' w
    · exact fun b o' w => run_fieldAt (s := 64) (f := 5) (off := 5) (ft := 28) b o' w
    · exact fun b o' w => run_fieldAt (s := 64) (f := 6) (off := 6) (ft := 28) b o' w
    · exact fun b o' w => run_fieldAt (s := 64) (f := 7) (off := 7) (ft := 3) b o' w
    · exact fun b o' w => run_fieldAt (s := 65) (f := 0) (off := 0) (ft := 63) b o' w
    · exact fun b o' w => run_fieldAt (s := 65) (f := 1) (off := 1) (ft := 3) b o' w
    · exact fun b o' w => run_fieldAt (s := 65) (f := 2) (off := 2) (ft := 3) b o' w
    · exact fun b o' w => run_fieldAt (s := 65) (f := 3) (off := 3) (ft := 3) b o' w
    · exact fun b o' w => run_fieldAt (s := 65) (f := 4) (off := 4) (ft := 4) b o' w
    · exact fun b o' w => run_fieldAt (s := 65) (f := 5) (off := 5) (ft := 28) b o' w
    · exact fun b o' w => run_fieldAt (s := 65) (f := 6) (off := 6) (ft := 28) b o' w
    · exact fun b o' w => run_fieldAt (s := 65) (f := 7) (off := 7) (ft := 3) b o' w
    · exact fun b o' w => run_fieldAt (s := 82) (f := 0) (off := 0) (ft := 3) b o' w
    · exact fun b o' w => run_fieldAt (s := 82) (f := 1) (off := 1) (ft := 81) b o' w
    · exact fun b o' w => run_fieldAt (s := 83) (f := 0) (off := 0) (ft := 3) b o' w
    · exact fun b o' w => run_fieldAt (s := 83) (f := 1) (off := 1) (ft := 81) b o' w
    · exact fun b o' w => run_fieldAt (s := 90) (f := 0) (off := 0) (ft := 88) b o' w
    · exact fun b o' w => run_fieldAt (s := 90) (f := 1) (off := 1) (ft := 89) b o' w
    · exact fun b o' w => run_fieldAt (s := 90) (f := 2) (off := 2) (ft := 3) b o' w
    · exact fun b o' w => run_fieldAt (s := 90) (f := 3) (off := 3) (ft := 3) b o' w
    · exact fun b o' w => run_fieldAt (s := 91) (f := 0) (off := 0) (ft := 88) b o' w
    · exact fun b o' w => run_fieldAt (s := 91) (f := 1) (off := 1) (ft := 89) b o' w
    · exact fun b o' w => run_fieldAt (s := 91) (f := 2) (off := 2) (ft := 3) b o' w
    · exact fun b o' w => run_fieldAt (s := 91) (f := 3) (off := 3) (ft := 3) b o' w
    · exact fun b o' w => run_fieldAt (s := 103) (f := 0) (off := 0) (ft := 32) b o' w
    · exact fun b o' w => run_fieldAt (s := 104) (f := 0) (off := 0) (ft := 32) b o' w
    · exact fun b o' w => run_fieldAt (s := 112) (f := 0) (off := 0) (ft := 3) b o' w
    · exact fun b o' w => run_fieldAt (s := 112) (f := 1) (off := 1) (ft := 9) b o' w
    · exact fun b o' w => run_fieldAt (s := 113) (f := 0) (off := 0) (ft := 3) b o' w
    · exact fun b o' w => run_fieldAt (s := 113) (f := 1) (off := 1) (ft := 9) b o' w
    · exact fun b o' w => run_fieldAt (s := 119) (f := 0) (off := 0) (ft := 17) b o' w
    · exact fun b o' w => run_fieldAt (s := 119) (f := 1) (off := 1) (ft := 117) b o' w
    · exact fun b o' w => run_fieldAt (s := 119) (f := 2) (off := 2) (ft := 118) b o' w
    · exact fun b o' w => run_fieldAt (s := 120) (f := 0) (off := 0) (ft := 17) b o' w
    · exact fun b o' w => run_fieldAt (s := 120) (f := 1) (off := 1) (ft := 117) b o' w
    · exact fun b o' w => run_fieldAt (s := 120) (f := 2) (off := 2) (ft := 118) b o' w
    · exact fun b o' w => run_fieldAt (s := 131) (f := 0) (off := 0) (ft := 17) b o' w
    · exact fun b o' w => run_fieldAt (s := 132) (f := 0) (off := 0) (ft := 17) b o' w
    · exact fun b o' w => run_fieldAt (s := 145) (f := 0) (off := 0) (ft := 17) b o' w
    · exact fun b o' w => run_fieldAt (s := 145) (f := 1) (off := 1) (ft := 17) b o' w
    · exact fun b o' w => run_fieldAt (s := 145) (f := 2) (off := 2) (ft := 17) b o' w
    · exact fun b o' w => run_fieldAt (s := 145) (f := 3) (off := 3) (ft := 9) b o' w
    · exact fun b o' w => run_fieldAt (s := 146) (f := 0) (off := 0) (ft := 17) b o' w
    · exact fun b o' w => run_fieldAt (s := 146) (f := 1) (off := 1) (ft := 17) b o' w
    · exact fun b o' w => run_fieldAt (s := 146) (f := 2) (off := 2) (ft := 17) b o' w
    · exact fun b o' w => run_fieldAt (s := 146) (f := 3) (off := 3) (ft := 9) b o' w
    · exact fun b o' w => run_fieldAt (s := 156) (f := 0) (off := 0) (ft := 12) b o' w
    · exact fun b o' w => run_fieldAt (s := 156) (f := 1) (off := 1) (ft := 12) b o' w
    · exact fun b o' w => run_fieldAt (s := 156) (f := 2) (off := 2) (ft := 46) b o' w
    · exact fun b o' w => run_fieldAt (s := 156) (f := 3) (off := 3) (ft := 151) b o' w
    · exact fun b o' w => run_fieldAt (s := 156) (f := 4) (off := 4) (ft := 5) b o' w
    · exact fun b o' w => run_fieldAt (s := 156) (f := 5) (off := 5) (ft := 5) b o' w
    · exact fun b o' w => run_fieldAt (s := 156) (f := 6) (off := 6) (ft := 125) b o' w
    · exact fun b o' w => run_fieldAt (s := 156) (f := 7) (off := 7) (ft := 152) b o' w
    · exact fun b o' w => run_fieldAt (s := 156) (f := 8) (off := 8) (ft := 153) b o' w
    · exact fun b o' w => run_fieldAt (s := 156) (f := 9) (off := 9) (ft := 154) b o' w
    · exact fun b o' w => run_fieldAt (s := 156) (f := 10) (off := 10) (ft := 155) b o' w
    · exact fun b o' w => run_fieldAt (s := 157) (f := 0) (off := 0) (ft := 12) b o' w
    · exact fun b o' w => run_fieldAt (s := 157) (f := 1) (off := 1) (ft := 12) b o' w
    · exact fun b o' w => run_fieldAt (s := 157) (f := 2) (off := 2) (ft := 46) b o' w
    · exact fun b o' w => run_fieldAt (s := 157) (f := 3) (off := 3) (ft := 151) b o' w
    · exact fun b o' w => run_fieldAt (s := 157) (f := 4) (off := 4) (ft := 5) b o' w
    · exact fun b o' w => run_fieldAt (s := 157) (f := 5) (off := 5) (ft := 5) b o' w
    · exact fun b o' w => run_fieldAt (s := 157) (f := 6) (off := 6) (ft := 125) b o' w
    · exact fun b o' w => run_fieldAt (s := 157) (f := 7) (off := 7) (ft := 152) b o' w
    · exact fun b o' w => run_fieldAt (s := 157) (f := 8) (off := 8) (ft := 153) b o' w
    · exact fun b o' w => run_fieldAt (s := 157) (f := 9) (off := 9) (ft := 154) b o' w
    · exact fun b o' w => run_fieldAt (s := 157) (f := 10) (off := 10) (ft := 155) b o' w
    · exact fun b o' w => run_fieldAt (s := 160) (f := 0) (off := 0) (ft := 9) b o' w
    · exact fun b o' w => run_fieldAt (s := 160) (f := 1) (off := 1) (ft := 125) b o' w
    · exact fun b o' w => run_fieldAt (s := 161) (f := 0) (off := 0) (ft := 9) b o' w
    · exact fun b o' w => run_fieldAt (s := 161) (f := 1) (off := 1) (ft := 125) b o' w
    · exact fun b o' w => run_fieldAt (s := 165) (f := 0) (off := 0) (ft := 154) b o' w
    · exact fun b o' w => run_fieldAt (s := 165) (f := 1) (off := 1) (ft := 164) b o' w
    · exact fun b o' w => run_fieldAt (s := 165) (f := 2) (off := 2) (ft := 164) b o' w
    · exact fun b o' w => run_fieldAt (s := 165) (f := 3) (off := 3) (ft := 46) b o' w
    · exact fun b o' w => run_fieldAt (s := 165) (f := 4) (off := 4) (ft := 46) b o' w
    · exact fun b o' w => run_fieldAt (s := 166) (f := 0) (off := 0) (ft := 154) b o' w
    · exact fun b o' w => run_fieldAt (s := 166) (f := 1) (off := 1) (ft := 164) b o' w
    · exact fun b o' w => run_fieldAt (s := 166) (f := 2) (off := 2) (ft := 164) b o' w
    · exact fun b o' w => run_fieldAt (s := 166) (f := 3) (off := 3) (ft := 46) b o' w
    · exact fun b o' w => run_fieldAt (s := 166) (f := 4) (off := 4) (ft := 46) b o' w
    · exact fun b o' w => run_fieldAt (s := 169) (f := 0) (off := 0) (ft := 154) b o' w
    · exact fun b o' w => run_fieldAt (s := 169) (f := 1) (off := 1) (ft := 155) b o' w
    · exact fun b o' w => run_fieldAt (s := 169) (f := 2) (off := 2) (ft := 168) b o' w
    · exact fun b o' w => run_fieldAt (s := 169) (f := 3) (off := 3) (ft := 168) b o' w
    · exact fun b o' w => run_fieldAt (s := 170) (f := 0) (off := 0) (ft := 154) b o' w
    · exact fun b o' w => run_fieldAt (s := 170) (f := 1) (off := 1) (ft := 155) b o' w
    · exact fun b o' w => run_fieldAt (s := 170) (f := 2) (off := 2) (ft := 168) b o' w
    · exact fun b o' w => run_fieldAt (s := 170) (f := 3) (off := 3) (ft := 168) b o' w
end Go.Sl
