/- What is known of the program's types and functions: written by a program of the author's. -/
import Derived.Test.YtmloccinejhopaaDoorEx
import Derived.Test.YtmloccinejhopaaDoorProg
import Derived.KernelRfl
set_option maxRecDepth 100000
set_option linter.unusedSimpArgs false
namespace Go.Sl
open Go Go.Proofs
instance : Mixed Tryd.prog := ⟨by kernel_rfl⟩
instance : Fun Tryd.prog 2 := ⟨Tryd.call2⟩
instance : Fun Tryd.prog 3 := ⟨Tryd.call3⟩
instance : Fun Tryd.prog 4 := ⟨Tryd.call4⟩
instance : Fun Tryd.prog 5 := ⟨Tryd.call5⟩
instance : Fun Tryd.prog 6 := ⟨Tryd.call6⟩
instance : Fun Tryd.prog 7 := ⟨Tryd.call7⟩
instance : Fun Tryd.prog 8 := ⟨Tryd.call8⟩
instance : Fun Tryd.prog 9 := ⟨Tryd.call9⟩
instance : Fun Tryd.prog 10 := ⟨Tryd.call10⟩
instance : Fun Tryd.prog 11 := ⟨Tryd.call11⟩
instance : Fun Tryd.prog 12 := ⟨Tryd.call12⟩
instance : Fun Tryd.prog 13 := ⟨Tryd.call13⟩
instance : Fun Tryd.prog 14 := ⟨Tryd.call14⟩
instance : Fun Tryd.prog 15 := ⟨Tryd.call15⟩
instance : Fun Tryd.prog 16 := ⟨Tryd.call16⟩
instance : Fun Tryd.prog 17 := ⟨Tryd.call17⟩
instance : Fun Tryd.prog 18 := ⟨Tryd.call18⟩
instance : Fun Tryd.prog 19 := ⟨Tryd.call19⟩
instance : Fun Tryd.prog 20 := ⟨Tryd.call20⟩
instance : Fun Tryd.prog 21 := ⟨Tryd.call21⟩
instance : Fun Tryd.prog 22 := ⟨Tryd.call22⟩
instance : Fun Tryd.prog 23 := ⟨Tryd.call23⟩
instance : Fun Tryd.prog 24 := ⟨Tryd.call24⟩
instance : Fun Tryd.prog 25 := ⟨Tryd.call25⟩
instance : Fun Tryd.prog 26 := ⟨Tryd.call26⟩
instance : Fun Tryd.prog 27 := ⟨Tryd.call27⟩
instance : Fun Tryd.prog 28 := ⟨Tryd.call28⟩
instance : Fun Tryd.prog 29 := ⟨Tryd.call29⟩
instance : Fun Tryd.prog 30 := ⟨Tryd.call30⟩
instance : Fun Tryd.prog 52 := ⟨Tryd.call52⟩
instance : TyI Tryd.prog 1 false 1 8 ([.nilFunc]) := ⟨⟨Tryd.t1, by kernel_rfl, by kernel_rfl, by kernel_rfl, by kernel_rfl, (fun _ => ⟨_, rfl, rfl⟩), by kernel_rfl, by kernel_rfl⟩, Tryd.isAgg1⟩
instance : TyU Tryd.prog 2 (.int .i64) := ⟨Tryd.underlying2⟩
instance : TyI Tryd.prog 2 false 1 8 ([.int .i64 0]) := ⟨⟨Tryd.t2, by kernel_rfl, by kernel_rfl, by kernel_rfl, by kernel_rfl, (fun _ => ⟨_, rfl, rfl⟩), by kernel_rfl, by kernel_rfl⟩, Tryd.isAgg2⟩
instance : TyU Tryd.prog 3 (.int .i64) := ⟨Tryd.underlying3⟩
instance : TyI Tryd.prog 3 false 1 8 ([.int .i64 0]) := ⟨⟨Tryd.t3, by kernel_rfl, by kernel_rfl, by kernel_rfl, by kernel_rfl, (fun _ => ⟨_, rfl, rfl⟩), by kernel_rfl, by kernel_rfl⟩, Tryd.isAgg3⟩
instance : TyU Tryd.prog 4 .bool := ⟨Tryd.underlying4⟩
instance : TyI Tryd.prog 4 false 1 1 ([.bool false]) := ⟨⟨Tryd.t4, by kernel_rfl, by kernel_rfl, by kernel_rfl, by kernel_rfl, (fun _ => ⟨_, rfl, rfl⟩), by kernel_rfl, by kernel_rfl⟩, Tryd.isAgg4⟩
instance : TyU Tryd.prog 5 (.int .u8) := ⟨Tryd.underlying5⟩
instance : TyI Tryd.prog 5 false 1 1 ([.int .u8 0]) := ⟨⟨Tryd.t5, by kernel_rfl, by kernel_rfl, by kernel_rfl, by kernel_rfl, (fun _ => ⟨_, rfl, rfl⟩), by kernel_rfl, by kernel_rfl⟩, Tryd.isAgg5⟩
instance : TyU Tryd.prog 6 (.int .u8) := ⟨Tryd.underlying6⟩
instance : TyI Tryd.prog 6 false 1 1 ([.int .u8 0]) := ⟨⟨Tryd.t6, by kernel_rfl, by kernel_rfl, by kernel_rfl, by kernel_rfl, (fun _ => ⟨_, rfl, rfl⟩), by kernel_rfl, by kernel_rfl⟩, Tryd.isAgg6⟩
instance : TyI Tryd.prog 7 true 4 24 (.int .i64 0 :: (.int .i64 0 :: (.bool false :: [.int .u8 0]))) := ⟨⟨Tryd.t7, by kernel_rfl, by kernel_rfl, by kernel_rfl, by kernel_rfl, (fun h => by cases h), by kernel_rfl, by kernel_rfl⟩, Tryd.isAgg7⟩
instance : TyS Tryd.prog 7 [(0, 1), (1, 1), (2, 1), (3, 1)] := ⟨_, Tryd.underlying7, fun w => by simp [Tryd.sizeOf2, Tryd.sizeOf3, Tryd.sizeOf4, Tryd.sizeOf6]⟩
instance : TyF Tryd.prog 7 0 0 2 := ⟨⟨_, _, Tryd.t2, Tryd.underlying7, rfl, rfl, rfl, by kernel_rfl, by intro h; cases h⟩⟩
instance : TyF Tryd.prog 7 1 1 3 := ⟨⟨_, _, Tryd.t3, Tryd.underlying7, rfl, rfl, rfl, by kernel_rfl, by intro h; cases h⟩⟩
instance : TyF Tryd.prog 7 2 2 4 := ⟨⟨_, _, Tryd.t4, Tryd.underlying7, rfl, rfl, rfl, by kernel_rfl, by intro h; cases h⟩⟩
instance : TyF Tryd.prog 7 3 3 6 := ⟨⟨_, _, Tryd.t6, Tryd.underlying7, rfl, rfl, rfl, by kernel_rfl, by intro h; cases h⟩⟩
instance : TyI Tryd.prog 8 true 4 24 (.int .i64 0 :: (.int .i64 0 :: (.bool false :: [.int .u8 0]))) := ⟨⟨Tryd.t8, by kernel_rfl, by kernel_rfl, by kernel_rfl, by kernel_rfl, (fun h => by cases h), by kernel_rfl, by kernel_rfl⟩, Tryd.isAgg8⟩
instance : TyS Tryd.prog 8 [(0, 1), (1, 1), (2, 1), (3, 1)] := ⟨_, Tryd.underlying8, fun w => by simp [Tryd.sizeOf2, Tryd.sizeOf3, Tryd.sizeOf4, Tryd.sizeOf6]⟩
instance : TyF Tryd.prog 8 0 0 2 := ⟨⟨_, _, Tryd.t2, Tryd.underlying8, rfl, rfl, rfl, by kernel_rfl, by intro h; cases h⟩⟩
instance : TyF Tryd.prog 8 1 1 3 := ⟨⟨_, _, Tryd.t3, Tryd.underlying8, rfl, rfl, rfl, by kernel_rfl, by intro h; cases h⟩⟩
instance : TyF Tryd.prog 8 2 2 4 := ⟨⟨_, _, Tryd.t4, Tryd.underlying8, rfl, rfl, rfl, by kernel_rfl, by intro h; cases h⟩⟩
instance : TyF Tryd.prog 8 3 3 6 := ⟨⟨_, _, Tryd.t6, Tryd.underlying8, rfl, rfl, rfl, by kernel_rfl, by intro h; cases h⟩⟩
instance : TyU Tryd.prog 9 .string := ⟨Tryd.underlying9⟩
instance : TyI Tryd.prog 9 false 1 16 ([.string ⟨#[]⟩]) := ⟨⟨Tryd.t9, by kernel_rfl, by kernel_rfl, by kernel_rfl, by kernel_rfl, (fun _ => ⟨_, rfl, rfl⟩), by kernel_rfl, by kernel_rfl⟩, Tryd.isAgg9⟩
instance : TyU Tryd.prog 10 .string := ⟨Tryd.underlying10⟩
instance : TyI Tryd.prog 10 false 1 16 ([.string ⟨#[]⟩]) := ⟨⟨Tryd.t10, by kernel_rfl, by kernel_rfl, by kernel_rfl, by kernel_rfl, (fun _ => ⟨_, rfl, rfl⟩), by kernel_rfl, by kernel_rfl⟩, Tryd.isAgg10⟩
instance : TyU Tryd.prog 11 .string := ⟨Tryd.underlying11⟩
instance : TyI Tryd.prog 11 false 1 16 ([.string ⟨#[]⟩]) := ⟨⟨Tryd.t11, by kernel_rfl, by kernel_rfl, by kernel_rfl, by kernel_rfl, (fun _ => ⟨_, rfl, rfl⟩), by kernel_rfl, by kernel_rfl⟩, Tryd.isAgg11⟩
instance : TyU Tryd.prog 12 (.int .u64) := ⟨Tryd.underlying12⟩
instance : TyI Tryd.prog 12 false 1 8 ([.int .u64 0]) := ⟨⟨Tryd.t12, by kernel_rfl, by kernel_rfl, by kernel_rfl, by kernel_rfl, (fun _ => ⟨_, rfl, rfl⟩), by kernel_rfl, by kernel_rfl⟩, Tryd.isAgg12⟩
instance : TyI Tryd.prog 13 true 2 24 (.string ⟨#[]⟩ :: [.int .u64 0]) := ⟨⟨Tryd.t13, by kernel_rfl, by kernel_rfl, by kernel_rfl, by kernel_rfl, (fun h => by cases h), by kernel_rfl, by kernel_rfl⟩, Tryd.isAgg13⟩
instance : TyS Tryd.prog 13 [(0, 1), (1, 1)] := ⟨_, Tryd.underlying13, fun w => by simp [Tryd.sizeOf9, Tryd.sizeOf12]⟩
instance : TyF Tryd.prog 13 0 0 9 := ⟨⟨_, _, Tryd.t9, Tryd.underlying13, rfl, rfl, rfl, by kernel_rfl, by intro h; cases h⟩⟩
instance : TyF Tryd.prog 13 1 1 12 := ⟨⟨_, _, Tryd.t12, Tryd.underlying13, rfl, rfl, rfl, by kernel_rfl, by intro h; cases h⟩⟩
instance : TyI Tryd.prog 14 true 2 24 (.string ⟨#[]⟩ :: [.int .u64 0]) := ⟨⟨Tryd.t14, by kernel_rfl, by kernel_rfl, by kernel_rfl, by kernel_rfl, (fun h => by cases h), by kernel_rfl, by kernel_rfl⟩, Tryd.isAgg14⟩
instance : TyS Tryd.prog 14 [(0, 1), (1, 1)] := ⟨_, Tryd.underlying14, fun w => by simp [Tryd.sizeOf9, Tryd.sizeOf12]⟩
instance : TyF Tryd.prog 14 0 0 9 := ⟨⟨_, _, Tryd.t9, Tryd.underlying14, rfl, rfl, rfl, by kernel_rfl, by intro h; cases h⟩⟩
instance : TyF Tryd.prog 14 1 1 12 := ⟨⟨_, _, Tryd.t12, Tryd.underlying14, rfl, rfl, rfl, by kernel_rfl, by intro h; cases h⟩⟩
instance : TyU Tryd.prog 15 (.pointer 60) := ⟨Tryd.underlying15⟩
instance : TyI Tryd.prog 15 false 1 8 ([.pointer none]) := ⟨⟨Tryd.t15, by kernel_rfl, by kernel_rfl, by kernel_rfl, by kernel_rfl, (fun _ => ⟨_, rfl, rfl⟩), by kernel_rfl, by kernel_rfl⟩, Tryd.isAgg15⟩
instance : TyU Tryd.prog 16 (.pointer 63) := ⟨Tryd.underlying16⟩
instance : TyI Tryd.prog 16 false 1 8 ([.pointer none]) := ⟨⟨Tryd.t16, by kernel_rfl, by kernel_rfl, by kernel_rfl, by kernel_rfl, (fun _ => ⟨_, rfl, rfl⟩), by kernel_rfl, by kernel_rfl⟩, Tryd.isAgg16⟩
instance : TyU Tryd.prog 17 (.pointer 72) := ⟨Tryd.underlying17⟩
instance : TyI Tryd.prog 17 false 1 8 ([.pointer none]) := ⟨⟨Tryd.t17, by kernel_rfl, by kernel_rfl, by kernel_rfl, by kernel_rfl, (fun _ => ⟨_, rfl, rfl⟩), by kernel_rfl, by kernel_rfl⟩, Tryd.isAgg17⟩
instance : TyI Tryd.prog 18 true 1 8 ([.pointer none]) := ⟨⟨Tryd.t18, by kernel_rfl, by kernel_rfl, by kernel_rfl, by kernel_rfl, (fun h => by cases h), by kernel_rfl, by kernel_rfl⟩, Tryd.isAgg18⟩
instance : TyS Tryd.prog 18 [(0, 1)] := ⟨_, Tryd.underlying18, fun w => by simp [Tryd.sizeOf17]⟩
instance : TyF Tryd.prog 18 0 0 17 := ⟨⟨_, _, Tryd.t17, Tryd.underlying18, rfl, rfl, rfl, by kernel_rfl, by intro h; cases h⟩⟩
instance : TyI Tryd.prog 19 true 1 8 ([.pointer none]) := ⟨⟨Tryd.t19, by kernel_rfl, by kernel_rfl, by kernel_rfl, by kernel_rfl, (fun h => by cases h), by kernel_rfl, by kernel_rfl⟩, Tryd.isAgg19⟩
instance : TyS Tryd.prog 19 [(0, 1)] := ⟨_, Tryd.underlying19, fun w => by simp [Tryd.sizeOf17]⟩
instance : TyF Tryd.prog 19 0 0 17 := ⟨⟨_, _, Tryd.t17, Tryd.underlying19, rfl, rfl, rfl, by kernel_rfl, by intro h; cases h⟩⟩
instance : TyI Tryd.prog 20 false 1 16 ([.nilIface]) := ⟨⟨Tryd.t20, by kernel_rfl, by kernel_rfl, by kernel_rfl, by kernel_rfl, (fun _ => ⟨_, rfl, rfl⟩), by kernel_rfl, by kernel_rfl⟩, Tryd.isAgg20⟩
instance : TyU Tryd.prog 21 (.int .i32) := ⟨Tryd.underlying21⟩
instance : TyI Tryd.prog 21 false 1 4 ([.int .i32 0]) := ⟨⟨Tryd.t21, by kernel_rfl, by kernel_rfl, by kernel_rfl, by kernel_rfl, (fun _ => ⟨_, rfl, rfl⟩), by kernel_rfl, by kernel_rfl⟩, Tryd.isAgg21⟩
instance : TyI Tryd.prog 22 false 1 8 ([.nilFunc]) := ⟨⟨Tryd.t22, by kernel_rfl, by kernel_rfl, by kernel_rfl, by kernel_rfl, (fun _ => ⟨_, rfl, rfl⟩), by kernel_rfl, by kernel_rfl⟩, Tryd.isAgg22⟩
instance : TyU Tryd.prog 23 (.int .i64) := ⟨Tryd.underlying23⟩
instance : TyI Tryd.prog 23 false 1 8 ([.int .i64 0]) := ⟨⟨Tryd.t23, by kernel_rfl, by kernel_rfl, by kernel_rfl, by kernel_rfl, (fun _ => ⟨_, rfl, rfl⟩), by kernel_rfl, by kernel_rfl⟩, Tryd.isAgg23⟩
instance : TyI Tryd.prog 25 false 1 8 ([.nilFunc]) := ⟨⟨Tryd.t25, by kernel_rfl, by kernel_rfl, by kernel_rfl, by kernel_rfl, (fun _ => ⟨_, rfl, rfl⟩), by kernel_rfl, by kernel_rfl⟩, Tryd.isAgg25⟩
instance : TyI Tryd.prog 27 false 1 8 ([.nilFunc]) := ⟨⟨Tryd.t27, by kernel_rfl, by kernel_rfl, by kernel_rfl, by kernel_rfl, (fun _ => ⟨_, rfl, rfl⟩), by kernel_rfl, by kernel_rfl⟩, Tryd.isAgg27⟩
instance : TyI Tryd.prog 28 false 1 8 ([.nilFunc]) := ⟨⟨Tryd.t28, by kernel_rfl, by kernel_rfl, by kernel_rfl, by kernel_rfl, (fun _ => ⟨_, rfl, rfl⟩), by kernel_rfl, by kernel_rfl⟩, Tryd.isAgg28⟩
instance : TyI Tryd.prog 30 false 1 8 ([.nilFunc]) := ⟨⟨Tryd.t30, by kernel_rfl, by kernel_rfl, by kernel_rfl, by kernel_rfl, (fun _ => ⟨_, rfl, rfl⟩), by kernel_rfl, by kernel_rfl⟩, Tryd.isAgg30⟩
instance : TyI Tryd.prog 32 false 1 8 ([.nilFunc]) := ⟨⟨Tryd.t32, by kernel_rfl, by kernel_rfl, by kernel_rfl, by kernel_rfl, (fun _ => ⟨_, rfl, rfl⟩), by kernel_rfl, by kernel_rfl⟩, Tryd.isAgg32⟩
instance : TyI Tryd.prog 33 false 1 8 ([.nilFunc]) := ⟨⟨Tryd.t33, by kernel_rfl, by kernel_rfl, by kernel_rfl, by kernel_rfl, (fun _ => ⟨_, rfl, rfl⟩), by kernel_rfl, by kernel_rfl⟩, Tryd.isAgg33⟩
instance : TyU Tryd.prog 34 (.int .u64) := ⟨Tryd.underlying34⟩
instance : TyI Tryd.prog 34 false 1 8 ([.int .u64 0]) := ⟨⟨Tryd.t34, by kernel_rfl, by kernel_rfl, by kernel_rfl, by kernel_rfl, (fun _ => ⟨_, rfl, rfl⟩), by kernel_rfl, by kernel_rfl⟩, Tryd.isAgg34⟩
instance : TyI Tryd.prog 35 false 1 8 ([.nilFunc]) := ⟨⟨Tryd.t35, by kernel_rfl, by kernel_rfl, by kernel_rfl, by kernel_rfl, (fun _ => ⟨_, rfl, rfl⟩), by kernel_rfl, by kernel_rfl⟩, Tryd.isAgg35⟩
instance : TyU Tryd.prog 36 (.slice 5) := ⟨Tryd.underlying36⟩
instance : TyI Tryd.prog 36 false 1 24 ([.slice none 0 0]) := ⟨⟨Tryd.t36, by kernel_rfl, by kernel_rfl, by kernel_rfl, by kernel_rfl, (fun _ => ⟨_, rfl, rfl⟩), by kernel_rfl, by kernel_rfl⟩, Tryd.isAgg36⟩
instance : TyU Tryd.prog 37 (.int .u64) := ⟨Tryd.underlying37⟩
instance : TyI Tryd.prog 37 false 1 8 ([.int .u64 0]) := ⟨⟨Tryd.t37, by kernel_rfl, by kernel_rfl, by kernel_rfl, by kernel_rfl, (fun _ => ⟨_, rfl, rfl⟩), by kernel_rfl, by kernel_rfl⟩, Tryd.isAgg37⟩
instance : TyI Tryd.prog 38 false 1 8 ([.nilFunc]) := ⟨⟨Tryd.t38, by kernel_rfl, by kernel_rfl, by kernel_rfl, by kernel_rfl, (fun _ => ⟨_, rfl, rfl⟩), by kernel_rfl, by kernel_rfl⟩, Tryd.isAgg38⟩
instance : TyI Tryd.prog 40 false 1 8 ([.nilFunc]) := ⟨⟨Tryd.t40, by kernel_rfl, by kernel_rfl, by kernel_rfl, by kernel_rfl, (fun _ => ⟨_, rfl, rfl⟩), by kernel_rfl, by kernel_rfl⟩, Tryd.isAgg40⟩
instance : TyI Tryd.prog 41 false 1 8 ([.nilFunc]) := ⟨⟨Tryd.t41, by kernel_rfl, by kernel_rfl, by kernel_rfl, by kernel_rfl, (fun _ => ⟨_, rfl, rfl⟩), by kernel_rfl, by kernel_rfl⟩, Tryd.isAgg41⟩
instance : TyI Tryd.prog 43 false 1 8 ([.nilFunc]) := ⟨⟨Tryd.t43, by kernel_rfl, by kernel_rfl, by kernel_rfl, by kernel_rfl, (fun _ => ⟨_, rfl, rfl⟩), by kernel_rfl, by kernel_rfl⟩, Tryd.isAgg43⟩
instance : TyI Tryd.prog 45 false 1 8 ([.nilFunc]) := ⟨⟨Tryd.t45, by kernel_rfl, by kernel_rfl, by kernel_rfl, by kernel_rfl, (fun _ => ⟨_, rfl, rfl⟩), by kernel_rfl, by kernel_rfl⟩, Tryd.isAgg45⟩
instance : TyU Tryd.prog 46 (.int .u32) := ⟨Tryd.underlying46⟩
instance : TyI Tryd.prog 46 false 1 4 ([.int .u32 0]) := ⟨⟨Tryd.t46, by kernel_rfl, by kernel_rfl, by kernel_rfl, by kernel_rfl, (fun _ => ⟨_, rfl, rfl⟩), by kernel_rfl, by kernel_rfl⟩, Tryd.isAgg46⟩
instance : TyU Tryd.prog 47 (.array 5 3) := ⟨Tryd.underlying47⟩
instance : TyI Tryd.prog 47 true 5 40 (.int .i64 0 :: (.int .i64 0 :: (.int .i64 0 :: (.int .i64 0 :: [.int .i64 0])))) := ⟨⟨Tryd.t47, by kernel_rfl, by kernel_rfl, by kernel_rfl, by kernel_rfl, (fun h => by cases h), by kernel_rfl, by kernel_rfl⟩, Tryd.isAgg47⟩
instance : TyI Tryd.prog 48 false 1 8 ([.nilFunc]) := ⟨⟨Tryd.t48, by kernel_rfl, by kernel_rfl, by kernel_rfl, by kernel_rfl, (fun _ => ⟨_, rfl, rfl⟩), by kernel_rfl, by kernel_rfl⟩, Tryd.isAgg48⟩
instance : TyU Tryd.prog 49 (.array 256 5) := ⟨Tryd.underlying49⟩
instance : TyI Tryd.prog 49 true 256 256 (reps 256 (.int .u8 0)) := ⟨⟨Tryd.t49, by kernel_rfl, by kernel_rfl, by kernel_rfl, by kernel_rfl, (fun h => by cases h), by kernel_rfl, by kernel_rfl⟩, Tryd.isAgg49⟩
instance : TyI Tryd.prog 50 true 2 2 (.int .u8 0 :: [.int .u8 0]) := ⟨⟨Tryd.t50, by kernel_rfl, by kernel_rfl, by kernel_rfl, by kernel_rfl, (fun h => by cases h), by kernel_rfl, by kernel_rfl⟩, Tryd.isAgg50⟩
instance : TyS Tryd.prog 50 [(0, 1), (1, 1)] := ⟨_, Tryd.underlying50, fun w => by simp [Tryd.sizeOf5]⟩
instance : TyF Tryd.prog 50 0 0 5 := ⟨⟨_, _, Tryd.t5, Tryd.underlying50, rfl, rfl, rfl, by kernel_rfl, by intro h; cases h⟩⟩
instance : TyF Tryd.prog 50 1 1 5 := ⟨⟨_, _, Tryd.t5, Tryd.underlying50, rfl, rfl, rfl, by kernel_rfl, by intro h; cases h⟩⟩
instance : TyI Tryd.prog 51 true 2 2 (.int .u8 0 :: [.int .u8 0]) := ⟨⟨Tryd.t51, by kernel_rfl, by kernel_rfl, by kernel_rfl, by kernel_rfl, (fun h => by cases h), by kernel_rfl, by kernel_rfl⟩, Tryd.isAgg51⟩
instance : TyS Tryd.prog 51 [(0, 1), (1, 1)] := ⟨_, Tryd.underlying51, fun w => by simp [Tryd.sizeOf5]⟩
instance : TyF Tryd.prog 51 0 0 5 := ⟨⟨_, _, Tryd.t5, Tryd.underlying51, rfl, rfl, rfl, by kernel_rfl, by intro h; cases h⟩⟩
instance : TyF Tryd.prog 51 1 1 5 := ⟨⟨_, _, Tryd.t5, Tryd.underlying51, rfl, rfl, rfl, by kernel_rfl, by intro h; cases h⟩⟩
instance : TyU Tryd.prog 52 (.array 16 51) := ⟨Tryd.underlying52⟩
instance : TyI Tryd.prog 52 true 32 32 (reps 32 (.int .u8 0)) := ⟨⟨Tryd.t52, by kernel_rfl, by kernel_rfl, by kernel_rfl, by kernel_rfl, (fun h => by cases h), by kernel_rfl, by kernel_rfl⟩, Tryd.isAgg52⟩
instance : TyU Tryd.prog 53 (.array 8 3) := ⟨Tryd.underlying53⟩
instance : TyI Tryd.prog 53 true 8 64 (reps 8 (.int .i64 0)) := ⟨⟨Tryd.t53, by kernel_rfl, by kernel_rfl, by kernel_rfl, by kernel_rfl, (fun h => by cases h), by kernel_rfl, by kernel_rfl⟩, Tryd.isAgg53⟩
instance : TyI Tryd.prog 54 false 1 8 ([.nilFunc]) := ⟨⟨Tryd.t54, by kernel_rfl, by kernel_rfl, by kernel_rfl, by kernel_rfl, (fun _ => ⟨_, rfl, rfl⟩), by kernel_rfl, by kernel_rfl⟩, Tryd.isAgg54⟩
instance : TyI Tryd.prog 56 false 1 8 ([.nilFunc]) := ⟨⟨Tryd.t56, by kernel_rfl, by kernel_rfl, by kernel_rfl, by kernel_rfl, (fun _ => ⟨_, rfl, rfl⟩), by kernel_rfl, by kernel_rfl⟩, Tryd.isAgg56⟩
instance : TyI Tryd.prog 57 false 1 8 ([.nilFunc]) := ⟨⟨Tryd.t57, by kernel_rfl, by kernel_rfl, by kernel_rfl, by kernel_rfl, (fun _ => ⟨_, rfl, rfl⟩), by kernel_rfl, by kernel_rfl⟩, Tryd.isAgg57⟩
instance : TyI Tryd.prog 58 false 1 8 ([.nilFunc]) := ⟨⟨Tryd.t58, by kernel_rfl, by kernel_rfl, by kernel_rfl, by kernel_rfl, (fun _ => ⟨_, rfl, rfl⟩), by kernel_rfl, by kernel_rfl⟩, Tryd.isAgg58⟩
instance : TyI Tryd.prog 59 true 4 40 (.pointer none :: (.pointer none :: (.pointer none :: [.string ⟨#[]⟩]))) := ⟨⟨Tryd.t59, by kernel_rfl, by kernel_rfl, by kernel_rfl, by kernel_rfl, (fun h => by cases h), by kernel_rfl, by kernel_rfl⟩, Tryd.isAgg59⟩
instance : TyS Tryd.prog 59 [(0, 1), (1, 1), (2, 1), (3, 1)] := ⟨_, Tryd.underlying59, fun w => by simp [Tryd.sizeOf17, Tryd.sizeOf9]⟩
instance : TyF Tryd.prog 59 0 0 17 := ⟨⟨_, _, Tryd.t17, Tryd.underlying59, rfl, rfl, rfl, by kernel_rfl, by intro h; cases h⟩⟩
instance : TyF Tryd.prog 59 1 1 17 := ⟨⟨_, _, Tryd.t17, Tryd.underlying59, rfl, rfl, rfl, by kernel_rfl, by intro h; cases h⟩⟩
instance : TyF Tryd.prog 59 2 2 17 := ⟨⟨_, _, Tryd.t17, Tryd.underlying59, rfl, rfl, rfl, by kernel_rfl, by intro h; cases h⟩⟩
instance : TyF Tryd.prog 59 3 3 9 := ⟨⟨_, _, Tryd.t9, Tryd.underlying59, rfl, rfl, rfl, by kernel_rfl, by intro h; cases h⟩⟩
instance : TyI Tryd.prog 60 true 4 40 (.pointer none :: (.pointer none :: (.pointer none :: [.string ⟨#[]⟩]))) := ⟨⟨Tryd.t60, by kernel_rfl, by kernel_rfl, by kernel_rfl, by kernel_rfl, (fun h => by cases h), by kernel_rfl, by kernel_rfl⟩, Tryd.isAgg60⟩
instance : TyS Tryd.prog 60 [(0, 1), (1, 1), (2, 1), (3, 1)] := ⟨_, Tryd.underlying60, fun w => by simp [Tryd.sizeOf17, Tryd.sizeOf9]⟩
instance : TyF Tryd.prog 60 0 0 17 := ⟨⟨_, _, Tryd.t17, Tryd.underlying60, rfl, rfl, rfl, by kernel_rfl, by intro h; cases h⟩⟩
instance : TyF Tryd.prog 60 1 1 17 := ⟨⟨_, _, Tryd.t17, Tryd.underlying60, rfl, rfl, rfl, by kernel_rfl, by intro h; cases h⟩⟩
instance : TyF Tryd.prog 60 2 2 17 := ⟨⟨_, _, Tryd.t17, Tryd.underlying60, rfl, rfl, rfl, by kernel_rfl, by intro h; cases h⟩⟩
instance : TyF Tryd.prog 60 3 3 9 := ⟨⟨_, _, Tryd.t9, Tryd.underlying60, rfl, rfl, rfl, by kernel_rfl, by intro h; cases h⟩⟩
instance : TyU Tryd.prog 61 (.array 0 16) := ⟨Tryd.underlying61⟩
instance : TyI Tryd.prog 64 false 1 8 ([.nilFunc]) := ⟨⟨Tryd.t64, by kernel_rfl, by kernel_rfl, by kernel_rfl, by kernel_rfl, (fun _ => ⟨_, rfl, rfl⟩), by kernel_rfl, by kernel_rfl⟩, Tryd.isAgg64⟩
instance : TyU Tryd.prog 65 (.int .u8) := ⟨Tryd.underlying65⟩
instance : TyI Tryd.prog 65 false 1 1 ([.int .u8 0]) := ⟨⟨Tryd.t65, by kernel_rfl, by kernel_rfl, by kernel_rfl, by kernel_rfl, (fun _ => ⟨_, rfl, rfl⟩), by kernel_rfl, by kernel_rfl⟩, Tryd.isAgg65⟩
instance : TyU Tryd.prog 66 (.int .u8) := ⟨Tryd.underlying66⟩
instance : TyI Tryd.prog 66 false 1 1 ([.int .u8 0]) := ⟨⟨Tryd.t66, by kernel_rfl, by kernel_rfl, by kernel_rfl, by kernel_rfl, (fun _ => ⟨_, rfl, rfl⟩), by kernel_rfl, by kernel_rfl⟩, Tryd.isAgg66⟩
instance : TyI Tryd.prog 67 false 1 8 ([.nilFunc]) := ⟨⟨Tryd.t67, by kernel_rfl, by kernel_rfl, by kernel_rfl, by kernel_rfl, (fun _ => ⟨_, rfl, rfl⟩), by kernel_rfl, by kernel_rfl⟩, Tryd.isAgg67⟩
instance : TyU Tryd.prog 68 (.pointer 5) := ⟨Tryd.underlying68⟩
instance : TyI Tryd.prog 68 false 1 8 ([.pointer none]) := ⟨⟨Tryd.t68, by kernel_rfl, by kernel_rfl, by kernel_rfl, by kernel_rfl, (fun _ => ⟨_, rfl, rfl⟩), by kernel_rfl, by kernel_rfl⟩, Tryd.isAgg68⟩
instance : TyU Tryd.prog 69 (.int .i32) := ⟨Tryd.underlying69⟩
instance : TyI Tryd.prog 69 false 1 4 ([.int .i32 0]) := ⟨⟨Tryd.t69, by kernel_rfl, by kernel_rfl, by kernel_rfl, by kernel_rfl, (fun _ => ⟨_, rfl, rfl⟩), by kernel_rfl, by kernel_rfl⟩, Tryd.isAgg69⟩
instance : TyU Tryd.prog 70 (.int .i32) := ⟨Tryd.underlying70⟩
instance : TyI Tryd.prog 70 false 1 4 ([.int .i32 0]) := ⟨⟨Tryd.t70, by kernel_rfl, by kernel_rfl, by kernel_rfl, by kernel_rfl, (fun _ => ⟨_, rfl, rfl⟩), by kernel_rfl, by kernel_rfl⟩, Tryd.isAgg70⟩
instance : TyI Tryd.prog 71 true 11 48 (.int .u64 0 :: (.int .u64 0 :: (.int .u32 0 :: (.int .u8 0 :: (.int .u8 0 :: (.int .u8 0 :: (.int .u8 0 :: (.nilFunc :: (.pointer none :: (.int .i32 0 :: [.int .i32 0])))))))))) := ⟨⟨Tryd.t71, by kernel_rfl, by kernel_rfl, by kernel_rfl, by kernel_rfl, (fun h => by cases h), by kernel_rfl, by kernel_rfl⟩, Tryd.isAgg71⟩
instance : TyS Tryd.prog 71 [(0, 1), (1, 1), (2, 1), (3, 1), (4, 1), (5, 1), (6, 1), (7, 1), (8, 1), (9, 1), (10, 1)] := ⟨_, Tryd.underlying71, fun w => by simp [Tryd.sizeOf12, Tryd.sizeOf46, Tryd.sizeOf65, Tryd.sizeOf5, Tryd.sizeOf66, Tryd.sizeOf67, Tryd.sizeOf68, Tryd.sizeOf69, Tryd.sizeOf70]⟩
instance : TyF Tryd.prog 71 0 0 12 := ⟨⟨_, _, Tryd.t12, Tryd.underlying71, rfl, rfl, rfl, by kernel_rfl, by intro h; cases h⟩⟩
instance : TyF Tryd.prog 71 1 1 12 := ⟨⟨_, _, Tryd.t12, Tryd.underlying71, rfl, rfl, rfl, by kernel_rfl, by intro h; cases h⟩⟩
instance : TyF Tryd.prog 71 2 2 46 := ⟨⟨_, _, Tryd.t46, Tryd.underlying71, rfl, rfl, rfl, by kernel_rfl, by intro h; cases h⟩⟩
instance : TyF Tryd.prog 71 3 3 65 := ⟨⟨_, _, Tryd.t65, Tryd.underlying71, rfl, rfl, rfl, by kernel_rfl, by intro h; cases h⟩⟩
instance : TyF Tryd.prog 71 4 4 5 := ⟨⟨_, _, Tryd.t5, Tryd.underlying71, rfl, rfl, rfl, by kernel_rfl, by intro h; cases h⟩⟩
instance : TyF Tryd.prog 71 5 5 5 := ⟨⟨_, _, Tryd.t5, Tryd.underlying71, rfl, rfl, rfl, by kernel_rfl, by intro h; cases h⟩⟩
instance : TyF Tryd.prog 71 6 6 66 := ⟨⟨_, _, Tryd.t66, Tryd.underlying71, rfl, rfl, rfl, by kernel_rfl, by intro h; cases h⟩⟩
instance : TyF Tryd.prog 71 7 7 67 := ⟨⟨_, _, Tryd.t67, Tryd.underlying71, rfl, rfl, rfl, by kernel_rfl, by intro h; cases h⟩⟩
instance : TyF Tryd.prog 71 8 8 68 := ⟨⟨_, _, Tryd.t68, Tryd.underlying71, rfl, rfl, rfl, by kernel_rfl, by intro h; cases h⟩⟩
instance : TyF Tryd.prog 71 9 9 69 := ⟨⟨_, _, Tryd.t69, Tryd.underlying71, rfl, rfl, rfl, by kernel_rfl, by intro h; cases h⟩⟩
instance : TyF Tryd.prog 71 10 10 70 := ⟨⟨_, _, Tryd.t70, Tryd.underlying71, rfl, rfl, rfl, by kernel_rfl, by intro h; cases h⟩⟩
instance : TyI Tryd.prog 72 true 11 48 (.int .u64 0 :: (.int .u64 0 :: (.int .u32 0 :: (.int .u8 0 :: (.int .u8 0 :: (.int .u8 0 :: (.int .u8 0 :: (.nilFunc :: (.pointer none :: (.int .i32 0 :: [.int .i32 0])))))))))) := ⟨⟨Tryd.t72, by kernel_rfl, by kernel_rfl, by kernel_rfl, by kernel_rfl, (fun h => by cases h), by kernel_rfl, by kernel_rfl⟩, Tryd.isAgg72⟩
instance : TyS Tryd.prog 72 [(0, 1), (1, 1), (2, 1), (3, 1), (4, 1), (5, 1), (6, 1), (7, 1), (8, 1), (9, 1), (10, 1)] := ⟨_, Tryd.underlying72, fun w => by simp [Tryd.sizeOf12, Tryd.sizeOf46, Tryd.sizeOf65, Tryd.sizeOf5, Tryd.sizeOf66, Tryd.sizeOf67, Tryd.sizeOf68, Tryd.sizeOf69, Tryd.sizeOf70]⟩
instance : TyF Tryd.prog 72 0 0 12 := ⟨⟨_, _, Tryd.t12, Tryd.underlying72, rfl, rfl, rfl, by kernel_rfl, by intro h; cases h⟩⟩
instance : TyF Tryd.prog 72 1 1 12 := ⟨⟨_, _, Tryd.t12, Tryd.underlying72, rfl, rfl, rfl, by kernel_rfl, by intro h; cases h⟩⟩
instance : TyF Tryd.prog 72 2 2 46 := ⟨⟨_, _, Tryd.t46, Tryd.underlying72, rfl, rfl, rfl, by kernel_rfl, by intro h; cases h⟩⟩
instance : TyF Tryd.prog 72 3 3 65 := ⟨⟨_, _, Tryd.t65, Tryd.underlying72, rfl, rfl, rfl, by kernel_rfl, by intro h; cases h⟩⟩
instance : TyF Tryd.prog 72 4 4 5 := ⟨⟨_, _, Tryd.t5, Tryd.underlying72, rfl, rfl, rfl, by kernel_rfl, by intro h; cases h⟩⟩
instance : TyF Tryd.prog 72 5 5 5 := ⟨⟨_, _, Tryd.t5, Tryd.underlying72, rfl, rfl, rfl, by kernel_rfl, by intro h; cases h⟩⟩
instance : TyF Tryd.prog 72 6 6 66 := ⟨⟨_, _, Tryd.t66, Tryd.underlying72, rfl, rfl, rfl, by kernel_rfl, by intro h; cases h⟩⟩
instance : TyF Tryd.prog 72 7 7 67 := ⟨⟨_, _, Tryd.t67, Tryd.underlying72, rfl, rfl, rfl, by kernel_rfl, by intro h; cases h⟩⟩
instance : TyF Tryd.prog 72 8 8 68 := ⟨⟨_, _, Tryd.t68, Tryd.underlying72, rfl, rfl, rfl, by kernel_rfl, by intro h; cases h⟩⟩
instance : TyF Tryd.prog 72 9 9 69 := ⟨⟨_, _, Tryd.t69, Tryd.underlying72, rfl, rfl, rfl, by kernel_rfl, by intro h; cases h⟩⟩
instance : TyF Tryd.prog 72 10 10 70 := ⟨⟨_, _, Tryd.t70, Tryd.underlying72, rfl, rfl, rfl, by kernel_rfl, by intro h; cases h⟩⟩
instance : TyI Tryd.prog 73 false 1 8 ([.pointer none]) := ⟨⟨Tryd.t73, by kernel_rfl, by kernel_rfl, by kernel_rfl, by kernel_rfl, (fun _ => ⟨_, rfl, rfl⟩), by kernel_rfl, by kernel_rfl⟩, Tryd.isAgg73⟩
def tab : Tab := ⟨[(2, (.int .i64)), (3, (.int .i64)), (4, .bool), (5, (.int .u8)), (6, (.int .u8)), (9, .string), (10, .string), (11, .string), (12, (.int .u64)), (15, (.pointer 60)), (16, (.pointer 63)), (17, (.pointer 72)), (21, (.int .i32)), (23, (.int .i64)), (34, (.int .u64)), (36, (.slice 5)), (37, (.int .u64)), (46, (.int .u32)), (47, (.array 5 3)), (49, (.array 256 5)), (52, (.array 16 51)), (53, (.array 8 3)), (61, (.array 0 16)), (65, (.int .u8)), (66, (.int .u8)), (68, (.pointer 5)), (69, (.int .i32)), (70, (.int .i32))],
  [(1, 1), (2, 1), (3, 1), (4, 1), (5, 1), (6, 1), (7, 4), (8, 4), (9, 1), (10, 1), (11, 1), (12, 1), (13, 2), (14, 2), (15, 1), (16, 1), (17, 1), (18, 1), (19, 1), (20, 1), (21, 1), (22, 1), (23, 1), (25, 1), (27, 1), (28, 1), (30, 1), (32, 1), (33, 1), (34, 1), (35, 1), (36, 1), (37, 1), (38, 1), (40, 1), (41, 1), (43, 1), (45, 1), (46, 1), (47, 5), (48, 1), (49, 256), (50, 2), (51, 2), (52, 32), (53, 8), (54, 1), (56, 1), (57, 1), (58, 1), (59, 4), (60, 4), (64, 1), (65, 1), (66, 1), (67, 1), (68, 1), (69, 1), (70, 1), (71, 11), (72, 11), (73, 1)],
  [(7, 0, 0), (7, 1, 1), (7, 2, 2), (7, 3, 3), (8, 0, 0), (8, 1, 1), (8, 2, 2), (8, 3, 3), (13, 0, 0), (13, 1, 1), (14, 0, 0), (14, 1, 1), (18, 0, 0), (19, 0, 0), (50, 0, 0), (50, 1, 1), (51, 0, 0), (51, 1, 1), (59, 0, 0), (59, 1, 1), (59, 2, 2), (59, 3, 3), (60, 0, 0), (60, 1, 1), (60, 2, 2), (60, 3, 3), (71, 0, 0), (71, 1, 1), (71, 2, 2), (71, 3, 3), (71, 4, 4), (71, 5, 5), (71, 6, 6), (71, 7, 7), (71, 8, 8), (71, 9, 9), (71, 10, 10), (72, 0, 0), (72, 1, 1), (72, 2, 2), (72, 3, 3), (72, 4, 4), (72, 5, 5), (72, 6, 6), (72, 7, 7), (72, 8, 8), (72, 9, 9), (72, 10, 10)]⟩
instance : TabOk Tryd.prog tab where
  u := by
    intro x hx
    simp only [tab, List.mem_cons, List.not_mem_nil, or_false] at hx
    rcases hx with rfl | rfl | rfl | rfl | rfl | rfl | rfl | rfl | rfl | rfl | rfl | rfl | rfl | rfl | rfl | rfl | rfl | rfl | rfl | rfl | rfl | rfl | rfl | rfl | rfl | rfl | rfl | rfl
    · exact Tryd.underlying2
    · exact Tryd.underlying3
    · exact Tryd.underlying4
    · exact Tryd.underlying5
    · exact Tryd.underlying6
    · exact Tryd.underlying9
    · exact Tryd.underlying10
    · exact Tryd.underlying11
    · exact Tryd.underlying12
    · exact Tryd.underlying15
    · exact Tryd.underlying16
    · exact Tryd.underlying17
    · exact Tryd.underlying21
    · exact Tryd.underlying23
    · exact Tryd.underlying34
    · exact Tryd.underlying36
    · exact Tryd.underlying37
    · exact Tryd.underlying46
    · exact Tryd.underlying47
    · exact Tryd.underlying49
    · exact Tryd.underlying52
    · exact Tryd.underlying53
    · exact Tryd.underlying61
    · exact Tryd.underlying65
    · exact Tryd.underlying66
    · exact Tryd.underlying68
    · exact Tryd.underlying69
    · exact Tryd.underlying70
  sz := by
    intro x hx
    simp only [tab, List.mem_cons, List.not_mem_nil, or_false] at hx
    rcases hx with rfl | rfl | rfl | rfl | rfl | rfl | rfl | rfl | rfl | rfl | rfl | rfl | rfl | rfl | rfl | rfl | rfl | rfl | rfl | rfl | rfl | rfl | rfl | rfl | rfl | rfl | rfl | rfl | rfl | rfl | rfl | rfl | rfl | rfl | rfl | rfl | rfl | rfl | rfl | rfl | rfl | rfl | rfl | rfl | rfl | rfl | rfl | rfl | rfl | rfl | rfl | rfl | rfl | rfl | rfl | rfl | rfl | rfl | rfl | rfl | rfl | rfl
    · exact Tryd.sizeOf1
    · exact Tryd.sizeOf2
    · exact Tryd.sizeOf3
    · exact Tryd.sizeOf4
    · exact Tryd.sizeOf5
    · exact Tryd.sizeOf6
    · exact Tryd.sizeOf7
    · exact Tryd.sizeOf8
    · exact Tryd.sizeOf9
    · exact Tryd.sizeOf10
    · exact Tryd.sizeOf11
    · exact Tryd.sizeOf12
    · exact Tryd.sizeOf13
    · exact Tryd.sizeOf14
    · exact Tryd.sizeOf15
    · exact Tryd.sizeOf16
    · exact Tryd.sizeOf17
    · exact Tryd.sizeOf18
    · exact Tryd.sizeOf19
    · exact Tryd.sizeOf20
    · exact Tryd.sizeOf21
    · exact Tryd.sizeOf22
    · exact Tryd.sizeOf23
    · exact Tryd.sizeOf25
    · exact Tryd.sizeOf27
    · exact Tryd.sizeOf28
    · exact Tryd.sizeOf30
    · exact Tryd.sizeOf32
    · exact Tryd.sizeOf33
    · exact Tryd.sizeOf34
    · exact Tryd.sizeOf35
    · exact Tryd.sizeOf36
    · exact Tryd.sizeOf37
    · exact Tryd.sizeOf38
    · exact Tryd.sizeOf40
    · exact Tryd.sizeOf41
    · exact Tryd.sizeOf43
    · exact Tryd.sizeOf45
    · exact Tryd.sizeOf46
    · exact Tryd.sizeOf47
    · exact Tryd.sizeOf48
    · exact Tryd.sizeOf49
    · exact Tryd.sizeOf50
    · exact Tryd.sizeOf51
    · exact Tryd.sizeOf52
    · exact Tryd.sizeOf53
    · exact Tryd.sizeOf54
    · exact Tryd.sizeOf56
    · exact Tryd.sizeOf57
    · exact Tryd.sizeOf58
    · exact Tryd.sizeOf59
    · exact Tryd.sizeOf60
    · exact Tryd.sizeOf64
    · exact Tryd.sizeOf65
    · exact Tryd.sizeOf66
    · exact Tryd.sizeOf67
    · exact Tryd.sizeOf68
    · exact Tryd.sizeOf69
    · exact Tryd.sizeOf70
    · exact Tryd.sizeOf71
    · exact Tryd.sizeOf72
    · exact Tryd.sizeOf73
  off := by
    intro x hx
    simp only [tab, List.mem_cons, List.not_mem_nil, or_false] at hx
    rcases hx with rfl | rfl | rfl | rfl | rfl | rfl | rfl | rfl | rfl | rfl | rfl | rfl | rfl | rfl | rfl | rfl | rfl | rfl | rfl | rfl | rfl | rfl | rfl | rfl | rfl | rfl | rfl | rfl | rfl | rfl | rfl | rfl | rfl | rfl | rfl | rfl | rfl | rfl | rfl | rfl | rfl | rfl | rfl | rfl | rfl | rfl | rfl | rfl
    · exact fun b o' w => run_fieldAt (s := 7) (f := 0) (off := 0) (ft := 2) b o' w
    · exact fun b o' w => run_fieldAt (s := 7) (f := 1) (off := 1) (ft := 3) b o' w
    · exact fun b o' w => run_fieldAt (s := 7) (f := 2) (off := 2) (ft := 4) b o' w
    · exact fun b o' w => run_fieldAt (s := 7) (f := 3) (off := 3) (ft := 6) b o' w
    · exact fun b o' w => run_fieldAt (s := 8) (f := 0) (off := 0) (ft := 2) b o' w
    · exact fun b o' w => run_fieldAt (s := 8) (f := 1) (off := 1) (ft := 3) b o' w
    · exact fun b o' w => run_fieldAt (s := 8) (f := 2) (off := 2) (ft := 4) b o' w
    · exact fun b o' w => run_fieldAt (s := 8) (f := 3) (off := 3) (ft := 6) b o' w
    · exact fun b o' w => run_fieldAt (s := 13) (f := 0) (off := 0) (ft := 9) b o' w
    · exact fun b o' w => run_fieldAt (s := 13) (f := 1) (off := 1) (ft := 12) b o' w
    · exact fun b o' w => run_fieldAt (s := 14) (f := 0) (off := 0) (ft := 9) b o' w
    · exact fun b o' w => run_fieldAt (s := 14) (f := 1) (off := 1) (ft := 12) b o' w
    · exact fun b o' w => run_fieldAt (s := 18) (f := 0) (off := 0) (ft := 17) b o' w
    · exact fun b o' w => run_fieldAt (s := 19) (f := 0) (off := 0) (ft := 17) b o' w
    · exact fun b o' w => run_fieldAt (s := 50) (f := 0) (off := 0) (ft := 5) b o' w
    · exact fun b o' w => run_fieldAt (s := 50) (f := 1) (off := 1) (ft := 5) b o' w
    · exact fun b o' w => run_fieldAt (s := 51) (f := 0) (off := 0) (ft := 5) b o' w
    · exact fun b o' w => run_fieldAt (s := 51) (f := 1) (off := 1) (ft := 5) b o' w
    · exact fun b o' w => run_fieldAt (s := 59) (f := 0) (off := 0) (ft := 17) b o' w
    · exact fun b o' w => run_fieldAt (s := 59) (f := 1) (off := 1) (ft := 17) b o' w
    · exact fun b o' w => run_fieldAt (s := 59) (f := 2) (off := 2) (ft := 17) b o' w
    · exact fun b o' w => run_fieldAt (s := 59) (f := 3) (off := 3) (ft := 9) b o' w
    · exact fun b o' w => run_fieldAt (s := 60) (f := 0) (off := 0) (ft := 17) b o' w
    · exact fun b o' w => run_fieldAt (s := 60) (f := 1) (off := 1) (ft := 17) b o' w
    · exact fun b o' w => run_fieldAt (s := 60) (f := 2) (off := 2) (ft := 17) b o' w
    · exact fun b o' w => run_fieldAt (s := 60) (f := 3) (off := 3) (ft := 9) b o' w
    · exact fun b o' w => run_fieldAt (s := 71) (f := 0) (off := 0) (ft := 12) b o' w
    · exact fun b o' w => run_fieldAt (s := 71) (f := 1) (off := 1) (ft := 12) b o' w
    · exact fun b o' w => run_fieldAt (s := 71) (f := 2) (off := 2) (ft := 46) b o' w
    · exact fun b o' w => run_fieldAt (s := 71) (f := 3) (off := 3) (ft := 65) b o' w
    · exact fun b o' w => run_fieldAt (s := 71) (f := 4) (off := 4) (ft := 5) b o' w
    · exact fun b o' w => run_fieldAt (s := 71) (f := 5) (off := 5) (ft := 5) b o' w
    · exact fun b o' w => run_fieldAt (s := 71) (f := 6) (off := 6) (ft := 66) b o' w
    · exact fun b o' w => run_fieldAt (s := 71) (f := 7) (off := 7) (ft := 67) b o' w
    · exact fun b o' w => run_fieldAt (s := 71) (f := 8) (off := 8) (ft := 68) b o' w
    · exact fun b o' w => run_fieldAt (s := 71) (f := 9) (off := 9) (ft := 69) b o' w
    · exact fun b o' w => run_fieldAt (s := 71) (f := 10) (off := 10) (ft := 70) b o' w
    · exact fun b o' w => run_fieldAt (s := 72) (f := 0) (off := 0) (ft := 12) b o' w
    · exact fun b o' w => run_fieldAt (s := 72) (f := 1) (off := 1) (ft := 12) b o' w
    · exact fun b o' w => run_fieldAt (s := 72) (f := 2) (off := 2) (ft := 46) b o' w
    · exact fun b o' w => run_fieldAt (s := 72) (f := 3) (off := 3) (ft := 65) b o' w
    · exact fun b o' w => run_fieldAt (s := 72) (f := 4) (off := 4) (ft := 5) b o' w
    · exact fun b o' w => run_fieldAt (s := 72) (f := 5) (off := 5) (ft := 5) b o' w
    · exact fun b o' w => run_fieldAt (s := 72) (f := 6) (off := 6) (ft := 66) b o' w
    · exact fun b o' w => run_fieldAt (s := 72) (f := 7) (off := 7) (ft := 67) b o' w
    · exact fun b o' w => run_fieldAt (s := 72) (f := 8) (off := 8) (ft := 68) b o' w
    · exact fun b o' w => run_fieldAt (s := 72) (f := 9) (off := 9) (ft := 69) b o' w
    · exact fun b o' w => run_fieldAt (s := 72) (f := 10) (off := 10) (ft := 70) b o' w
end Go.Sl
