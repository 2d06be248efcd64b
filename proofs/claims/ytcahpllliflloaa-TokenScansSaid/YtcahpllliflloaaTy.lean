/- What is known of the program's types and functions: written by a program of the author's. -/
import Derived.Test.YtcahpllliflloaaEx
import Derived.Test.YtcahpllliflloaaProg
import Derived.KernelRfl
set_option maxRecDepth 100000
set_option linter.unusedSimpArgs false
namespace Go.Sl
open Go Go.Proofs
instance : Mixed Try.prog := ⟨by kernel_rfl⟩
instance : Fun Try.prog 2 := ⟨Try.call2⟩
instance : Fun Try.prog 3 := ⟨Try.call3⟩
instance : Fun Try.prog 4 := ⟨Try.call4⟩
instance : Fun Try.prog 5 := ⟨Try.call5⟩
instance : Fun Try.prog 6 := ⟨Try.call6⟩
instance : Fun Try.prog 7 := ⟨Try.call7⟩
instance : Fun Try.prog 8 := ⟨Try.call8⟩
instance : Fun Try.prog 9 := ⟨Try.call9⟩
instance : Fun Try.prog 10 := ⟨Try.call10⟩
instance : Fun Try.prog 11 := ⟨Try.call11⟩
instance : Fun Try.prog 12 := ⟨Try.call12⟩
instance : Fun Try.prog 13 := ⟨Try.call13⟩
instance : Fun Try.prog 14 := ⟨Try.call14⟩
instance : Fun Try.prog 15 := ⟨Try.call15⟩
instance : Fun Try.prog 16 := ⟨Try.call16⟩
instance : Fun Try.prog 17 := ⟨Try.call17⟩
instance : Fun Try.prog 18 := ⟨Try.call18⟩
instance : Fun Try.prog 19 := ⟨Try.call19⟩
instance : Fun Try.prog 20 := ⟨Try.call20⟩
instance : Fun Try.prog 21 := ⟨Try.call21⟩
instance : Fun Try.prog 22 := ⟨Try.call22⟩
instance : Fun Try.prog 23 := ⟨Try.call23⟩
instance : Fun Try.prog 24 := ⟨Try.call24⟩
instance : Fun Try.prog 25 := ⟨Try.call25⟩
instance : Fun Try.prog 26 := ⟨Try.call26⟩
instance : Fun Try.prog 27 := ⟨Try.call27⟩
instance : Fun Try.prog 28 := ⟨Try.call28⟩
instance : Fun Try.prog 29 := ⟨Try.call29⟩
instance : Fun Try.prog 30 := ⟨Try.call30⟩
instance : Fun Try.prog 31 := ⟨Try.call31⟩
instance : Fun Try.prog 32 := ⟨Try.call32⟩
instance : Fun Try.prog 33 := ⟨Try.call33⟩
instance : Fun Try.prog 34 := ⟨Try.call34⟩
instance : Fun Try.prog 35 := ⟨Try.call35⟩
instance : Fun Try.prog 36 := ⟨Try.call36⟩
instance : Fun Try.prog 37 := ⟨Try.call37⟩
instance : Fun Try.prog 38 := ⟨Try.call38⟩
instance : Fun Try.prog 39 := ⟨Try.call39⟩
instance : Fun Try.prog 40 := ⟨Try.call40⟩
instance : Fun Try.prog 41 := ⟨Try.call41⟩
instance : Fun Try.prog 42 := ⟨Try.call42⟩
instance : Fun Try.prog 43 := ⟨Try.call43⟩
instance : Fun Try.prog 44 := ⟨Try.call44⟩
instance : Fun Try.prog 46 := ⟨Try.call46⟩
instance : Fun Try.prog 48 := ⟨Try.call48⟩
instance : Fun Try.prog 49 := ⟨Try.call49⟩
instance : Fun Try.prog 50 := ⟨Try.call50⟩
instance : TyI Try.prog 1 false 1 8 ([.nilFunc]) := ⟨⟨Try.t1, by kernel_rfl, by kernel_rfl, by kernel_rfl, by kernel_rfl, (fun _ => ⟨_, rfl, rfl⟩), by kernel_rfl, by kernel_rfl⟩, Try.isAgg1⟩
instance : TyU Try.prog 2 (.int .i64) := ⟨Try.underlying2⟩
instance : TyI Try.prog 2 false 1 8 ([.int .i64 0]) := ⟨⟨Try.t2, by kernel_rfl, by kernel_rfl, by kernel_rfl, by kernel_rfl, (fun _ => ⟨_, rfl, rfl⟩), by kernel_rfl, by kernel_rfl⟩, Try.isAgg2⟩
instance : TyU Try.prog 3 (.int .i64) := ⟨Try.underlying3⟩
instance : TyI Try.prog 3 false 1 8 ([.int .i64 0]) := ⟨⟨Try.t3, by kernel_rfl, by kernel_rfl, by kernel_rfl, by kernel_rfl, (fun _ => ⟨_, rfl, rfl⟩), by kernel_rfl, by kernel_rfl⟩, Try.isAgg3⟩
instance : TyU Try.prog 4 .bool := ⟨Try.underlying4⟩
instance : TyI Try.prog 4 false 1 1 ([.bool false]) := ⟨⟨Try.t4, by kernel_rfl, by kernel_rfl, by kernel_rfl, by kernel_rfl, (fun _ => ⟨_, rfl, rfl⟩), by kernel_rfl, by kernel_rfl⟩, Try.isAgg4⟩
instance : TyU Try.prog 5 (.int .u8) := ⟨Try.underlying5⟩
instance : TyI Try.prog 5 false 1 1 ([.int .u8 0]) := ⟨⟨Try.t5, by kernel_rfl, by kernel_rfl, by kernel_rfl, by kernel_rfl, (fun _ => ⟨_, rfl, rfl⟩), by kernel_rfl, by kernel_rfl⟩, Try.isAgg5⟩
instance : TyU Try.prog 6 (.int .u8) := ⟨Try.underlying6⟩
instance : TyI Try.prog 6 false 1 1 ([.int .u8 0]) := ⟨⟨Try.t6, by kernel_rfl, by kernel_rfl, by kernel_rfl, by kernel_rfl, (fun _ => ⟨_, rfl, rfl⟩), by kernel_rfl, by kernel_rfl⟩, Try.isAgg6⟩
instance : TyI Try.prog 7 true 4 24 (.int .i64 0 :: (.int .i64 0 :: (.bool false :: [.int .u8 0]))) := ⟨⟨Try.t7, by kernel_rfl, by kernel_rfl, by kernel_rfl, by kernel_rfl, (fun h => by cases h), by kernel_rfl, by kernel_rfl⟩, Try.isAgg7⟩
instance : TyS Try.prog 7 [(0, 1), (1, 1), (2, 1), (3, 1)] := ⟨_, Try.underlying7, fun w => by simp [Try.sizeOf2, Try.sizeOf3, Try.sizeOf4, Try.sizeOf6]⟩
instance : TyF Try.prog 7 0 0 2 := ⟨⟨_, _, Try.t2, Try.underlying7, rfl, rfl, rfl, by kernel_rfl, by intro h; cases h⟩⟩
instance : TyF Try.prog 7 1 1 3 := ⟨⟨_, _, Try.t3, Try.underlying7, rfl, rfl, rfl, by kernel_rfl, by intro h; cases h⟩⟩
instance : TyF Try.prog 7 2 2 4 := ⟨⟨_, _, Try.t4, Try.underlying7, rfl, rfl, rfl, by kernel_rfl, by intro h; cases h⟩⟩
instance : TyF Try.prog 7 3 3 6 := ⟨⟨_, _, Try.t6, Try.underlying7, rfl, rfl, rfl, by kernel_rfl, by intro h; cases h⟩⟩
instance : TyI Try.prog 8 true 4 24 (.int .i64 0 :: (.int .i64 0 :: (.bool false :: [.int .u8 0]))) := ⟨⟨Try.t8, by kernel_rfl, by kernel_rfl, by kernel_rfl, by kernel_rfl, (fun h => by cases h), by kernel_rfl, by kernel_rfl⟩, Try.isAgg8⟩
instance : TyS Try.prog 8 [(0, 1), (1, 1), (2, 1), (3, 1)] := ⟨_, Try.underlying8, fun w => by simp [Try.sizeOf2, Try.sizeOf3, Try.sizeOf4, Try.sizeOf6]⟩
instance : TyF Try.prog 8 0 0 2 := ⟨⟨_, _, Try.t2, Try.underlying8, rfl, rfl, rfl, by kernel_rfl, by intro h; cases h⟩⟩
instance : TyF Try.prog 8 1 1 3 := ⟨⟨_, _, Try.t3, Try.underlying8, rfl, rfl, rfl, by kernel_rfl, by intro h; cases h⟩⟩
instance : TyF Try.prog 8 2 2 4 := ⟨⟨_, _, Try.t4, Try.underlying8, rfl, rfl, rfl, by kernel_rfl, by intro h; cases h⟩⟩
instance : TyF Try.prog 8 3 3 6 := ⟨⟨_, _, Try.t6, Try.underlying8, rfl, rfl, rfl, by kernel_rfl, by intro h; cases h⟩⟩
instance : TyU Try.prog 9 .string := ⟨Try.underlying9⟩
instance : TyI Try.prog 9 false 1 16 ([.string ⟨#[]⟩]) := ⟨⟨Try.t9, by kernel_rfl, by kernel_rfl, by kernel_rfl, by kernel_rfl, (fun _ => ⟨_, rfl, rfl⟩), by kernel_rfl, by kernel_rfl⟩, Try.isAgg9⟩
instance : TyU Try.prog 10 .string := ⟨Try.underlying10⟩
instance : TyI Try.prog 10 false 1 16 ([.string ⟨#[]⟩]) := ⟨⟨Try.t10, by kernel_rfl, by kernel_rfl, by kernel_rfl, by kernel_rfl, (fun _ => ⟨_, rfl, rfl⟩), by kernel_rfl, by kernel_rfl⟩, Try.isAgg10⟩
instance : TyU Try.prog 11 .string := ⟨Try.underlying11⟩
instance : TyI Try.prog 11 false 1 16 ([.string ⟨#[]⟩]) := ⟨⟨Try.t11, by kernel_rfl, by kernel_rfl, by kernel_rfl, by kernel_rfl, (fun _ => ⟨_, rfl, rfl⟩), by kernel_rfl, by kernel_rfl⟩, Try.isAgg11⟩
instance : TyU Try.prog 12 (.int .u64) := ⟨Try.underlying12⟩
instance : TyI Try.prog 12 false 1 8 ([.int .u64 0]) := ⟨⟨Try.t12, by kernel_rfl, by kernel_rfl, by kernel_rfl, by kernel_rfl, (fun _ => ⟨_, rfl, rfl⟩), by kernel_rfl, by kernel_rfl⟩, Try.isAgg12⟩
instance : TyI Try.prog 13 true 2 24 (.string ⟨#[]⟩ :: [.int .u64 0]) := ⟨⟨Try.t13, by kernel_rfl, by kernel_rfl, by kernel_rfl, by kernel_rfl, (fun h => by cases h), by kernel_rfl, by kernel_rfl⟩, Try.isAgg13⟩
instance : TyS Try.prog 13 [(0, 1), (1, 1)] := ⟨_, Try.underlying13, fun w => by simp [Try.sizeOf9, Try.sizeOf12]⟩
instance : TyF Try.prog 13 0 0 9 := ⟨⟨_, _, Try.t9, Try.underlying13, rfl, rfl, rfl, by kernel_rfl, by intro h; cases h⟩⟩
instance : TyF Try.prog 13 1 1 12 := ⟨⟨_, _, Try.t12, Try.underlying13, rfl, rfl, rfl, by kernel_rfl, by intro h; cases h⟩⟩
instance : TyI Try.prog 14 true 2 24 (.string ⟨#[]⟩ :: [.int .u64 0]) := ⟨⟨Try.t14, by kernel_rfl, by kernel_rfl, by kernel_rfl, by kernel_rfl, (fun h => by cases h), by kernel_rfl, by kernel_rfl⟩, Try.isAgg14⟩
instance : TyS Try.prog 14 [(0, 1), (1, 1)] := ⟨_, Try.underlying14, fun w => by simp [Try.sizeOf9, Try.sizeOf12]⟩
instance : TyF Try.prog 14 0 0 9 := ⟨⟨_, _, Try.t9, Try.underlying14, rfl, rfl, rfl, by kernel_rfl, by intro h; cases h⟩⟩
instance : TyF Try.prog 14 1 1 12 := ⟨⟨_, _, Try.t12, Try.underlying14, rfl, rfl, rfl, by kernel_rfl, by intro h; cases h⟩⟩
instance : TyU Try.prog 15 (.pointer 70) := ⟨Try.underlying15⟩
instance : TyI Try.prog 15 false 1 8 ([.pointer none]) := ⟨⟨Try.t15, by kernel_rfl, by kernel_rfl, by kernel_rfl, by kernel_rfl, (fun _ => ⟨_, rfl, rfl⟩), by kernel_rfl, by kernel_rfl⟩, Try.isAgg15⟩
instance : TyU Try.prog 16 (.pointer 73) := ⟨Try.underlying16⟩
instance : TyI Try.prog 16 false 1 8 ([.pointer none]) := ⟨⟨Try.t16, by kernel_rfl, by kernel_rfl, by kernel_rfl, by kernel_rfl, (fun _ => ⟨_, rfl, rfl⟩), by kernel_rfl, by kernel_rfl⟩, Try.isAgg16⟩
instance : TyU Try.prog 17 (.pointer 82) := ⟨Try.underlying17⟩
instance : TyI Try.prog 17 false 1 8 ([.pointer none]) := ⟨⟨Try.t17, by kernel_rfl, by kernel_rfl, by kernel_rfl, by kernel_rfl, (fun _ => ⟨_, rfl, rfl⟩), by kernel_rfl, by kernel_rfl⟩, Try.isAgg17⟩
instance : TyI Try.prog 18 true 1 8 ([.pointer none]) := ⟨⟨Try.t18, by kernel_rfl, by kernel_rfl, by kernel_rfl, by kernel_rfl, (fun h => by cases h), by kernel_rfl, by kernel_rfl⟩, Try.isAgg18⟩
instance : TyS Try.prog 18 [(0, 1)] := ⟨_, Try.underlying18, fun w => by simp [Try.sizeOf17]⟩
instance : TyF Try.prog 18 0 0 17 := ⟨⟨_, _, Try.t17, Try.underlying18, rfl, rfl, rfl, by kernel_rfl, by intro h; cases h⟩⟩
instance : TyI Try.prog 19 true 1 8 ([.pointer none]) := ⟨⟨Try.t19, by kernel_rfl, by kernel_rfl, by kernel_rfl, by kernel_rfl, (fun h => by cases h), by kernel_rfl, by kernel_rfl⟩, Try.isAgg19⟩
instance : TyS Try.prog 19 [(0, 1)] := ⟨_, Try.underlying19, fun w => by simp [Try.sizeOf17]⟩
instance : TyF Try.prog 19 0 0 17 := ⟨⟨_, _, Try.t17, Try.underlying19, rfl, rfl, rfl, by kernel_rfl, by intro h; cases h⟩⟩
instance : TyI Try.prog 20 false 1 16 ([.nilIface]) := ⟨⟨Try.t20, by kernel_rfl, by kernel_rfl, by kernel_rfl, by kernel_rfl, (fun _ => ⟨_, rfl, rfl⟩), by kernel_rfl, by kernel_rfl⟩, Try.isAgg20⟩
instance : TyU Try.prog 21 (.int .i32) := ⟨Try.underlying21⟩
instance : TyI Try.prog 21 false 1 4 ([.int .i32 0]) := ⟨⟨Try.t21, by kernel_rfl, by kernel_rfl, by kernel_rfl, by kernel_rfl, (fun _ => ⟨_, rfl, rfl⟩), by kernel_rfl, by kernel_rfl⟩, Try.isAgg21⟩
instance : TyI Try.prog 22 false 1 8 ([.nilFunc]) := ⟨⟨Try.t22, by kernel_rfl, by kernel_rfl, by kernel_rfl, by kernel_rfl, (fun _ => ⟨_, rfl, rfl⟩), by kernel_rfl, by kernel_rfl⟩, Try.isAgg22⟩
instance : TyU Try.prog 23 (.slice 36) := ⟨Try.underlying23⟩
instance : TyI Try.prog 23 false 1 24 ([.slice none 0 0]) := ⟨⟨Try.t23, by kernel_rfl, by kernel_rfl, by kernel_rfl, by kernel_rfl, (fun _ => ⟨_, rfl, rfl⟩), by kernel_rfl, by kernel_rfl⟩, Try.isAgg23⟩
instance : TyU Try.prog 24 (.int .i64) := ⟨Try.underlying24⟩
instance : TyI Try.prog 24 false 1 8 ([.int .i64 0]) := ⟨⟨Try.t24, by kernel_rfl, by kernel_rfl, by kernel_rfl, by kernel_rfl, (fun _ => ⟨_, rfl, rfl⟩), by kernel_rfl, by kernel_rfl⟩, Try.isAgg24⟩
instance : TyI Try.prog 26 false 1 8 ([.nilFunc]) := ⟨⟨Try.t26, by kernel_rfl, by kernel_rfl, by kernel_rfl, by kernel_rfl, (fun _ => ⟨_, rfl, rfl⟩), by kernel_rfl, by kernel_rfl⟩, Try.isAgg26⟩
instance : TyI Try.prog 28 false 1 8 ([.nilFunc]) := ⟨⟨Try.t28, by kernel_rfl, by kernel_rfl, by kernel_rfl, by kernel_rfl, (fun _ => ⟨_, rfl, rfl⟩), by kernel_rfl, by kernel_rfl⟩, Try.isAgg28⟩
instance : TyI Try.prog 29 false 1 8 ([.nilFunc]) := ⟨⟨Try.t29, by kernel_rfl, by kernel_rfl, by kernel_rfl, by kernel_rfl, (fun _ => ⟨_, rfl, rfl⟩), by kernel_rfl, by kernel_rfl⟩, Try.isAgg29⟩
instance : TyI Try.prog 30 false 1 8 ([.nilFunc]) := ⟨⟨Try.t30, by kernel_rfl, by kernel_rfl, by kernel_rfl, by kernel_rfl, (fun _ => ⟨_, rfl, rfl⟩), by kernel_rfl, by kernel_rfl⟩, Try.isAgg30⟩
instance : TyU Try.prog 31 (.slice 3) := ⟨Try.underlying31⟩
instance : TyI Try.prog 31 false 1 24 ([.slice none 0 0]) := ⟨⟨Try.t31, by kernel_rfl, by kernel_rfl, by kernel_rfl, by kernel_rfl, (fun _ => ⟨_, rfl, rfl⟩), by kernel_rfl, by kernel_rfl⟩, Try.isAgg31⟩
instance : TyU Try.prog 32 (.array 32 9) := ⟨Try.underlying32⟩
instance : TyI Try.prog 32 true 32 512 (reps 32 (.string ⟨#[]⟩)) := ⟨⟨Try.t32, by kernel_rfl, by kernel_rfl, by kernel_rfl, by kernel_rfl, (fun h => by cases h), by kernel_rfl, by kernel_rfl⟩, Try.isAgg32⟩
instance : TyU Try.prog 33 (.int .u64) := ⟨Try.underlying33⟩
instance : TyI Try.prog 33 false 1 8 ([.int .u64 0]) := ⟨⟨Try.t33, by kernel_rfl, by kernel_rfl, by kernel_rfl, by kernel_rfl, (fun _ => ⟨_, rfl, rfl⟩), by kernel_rfl, by kernel_rfl⟩, Try.isAgg33⟩
instance : TyI Try.prog 34 false 1 8 ([.nilFunc]) := ⟨⟨Try.t34, by kernel_rfl, by kernel_rfl, by kernel_rfl, by kernel_rfl, (fun _ => ⟨_, rfl, rfl⟩), by kernel_rfl, by kernel_rfl⟩, Try.isAgg34⟩
instance : TyI Try.prog 35 true 3 32 (.int .i64 0 :: (.string ⟨#[]⟩ :: [.int .i64 0])) := ⟨⟨Try.t35, by kernel_rfl, by kernel_rfl, by kernel_rfl, by kernel_rfl, (fun h => by cases h), by kernel_rfl, by kernel_rfl⟩, Try.isAgg35⟩
instance : TyS Try.prog 35 [(0, 1), (1, 1), (2, 1)] := ⟨_, Try.underlying35, fun w => by simp [Try.sizeOf3, Try.sizeOf9]⟩
instance : TyF Try.prog 35 0 0 3 := ⟨⟨_, _, Try.t3, Try.underlying35, rfl, rfl, rfl, by kernel_rfl, by intro h; cases h⟩⟩
instance : TyF Try.prog 35 1 1 9 := ⟨⟨_, _, Try.t9, Try.underlying35, rfl, rfl, rfl, by kernel_rfl, by intro h; cases h⟩⟩
instance : TyF Try.prog 35 2 2 3 := ⟨⟨_, _, Try.t3, Try.underlying35, rfl, rfl, rfl, by kernel_rfl, by intro h; cases h⟩⟩
instance : TyI Try.prog 36 true 3 32 (.int .i64 0 :: (.string ⟨#[]⟩ :: [.int .i64 0])) := ⟨⟨Try.t36, by kernel_rfl, by kernel_rfl, by kernel_rfl, by kernel_rfl, (fun h => by cases h), by kernel_rfl, by kernel_rfl⟩, Try.isAgg36⟩
instance : TyS Try.prog 36 [(0, 1), (1, 1), (2, 1)] := ⟨_, Try.underlying36, fun w => by simp [Try.sizeOf3, Try.sizeOf9]⟩
instance : TyF Try.prog 36 0 0 3 := ⟨⟨_, _, Try.t3, Try.underlying36, rfl, rfl, rfl, by kernel_rfl, by intro h; cases h⟩⟩
instance : TyF Try.prog 36 1 1 9 := ⟨⟨_, _, Try.t9, Try.underlying36, rfl, rfl, rfl, by kernel_rfl, by intro h; cases h⟩⟩
instance : TyF Try.prog 36 2 2 3 := ⟨⟨_, _, Try.t3, Try.underlying36, rfl, rfl, rfl, by kernel_rfl, by intro h; cases h⟩⟩
instance : TyI Try.prog 37 false 1 8 ([.nilFunc]) := ⟨⟨Try.t37, by kernel_rfl, by kernel_rfl, by kernel_rfl, by kernel_rfl, (fun _ => ⟨_, rfl, rfl⟩), by kernel_rfl, by kernel_rfl⟩, Try.isAgg37⟩
instance : TyI Try.prog 38 false 1 8 ([.nilFunc]) := ⟨⟨Try.t38, by kernel_rfl, by kernel_rfl, by kernel_rfl, by kernel_rfl, (fun _ => ⟨_, rfl, rfl⟩), by kernel_rfl, by kernel_rfl⟩, Try.isAgg38⟩
instance : TyU Try.prog 39 (.slice 9) := ⟨Try.underlying39⟩
instance : TyI Try.prog 39 false 1 24 ([.slice none 0 0]) := ⟨⟨Try.t39, by kernel_rfl, by kernel_rfl, by kernel_rfl, by kernel_rfl, (fun _ => ⟨_, rfl, rfl⟩), by kernel_rfl, by kernel_rfl⟩, Try.isAgg39⟩
instance : TyI Try.prog 41 false 1 8 ([.nilFunc]) := ⟨⟨Try.t41, by kernel_rfl, by kernel_rfl, by kernel_rfl, by kernel_rfl, (fun _ => ⟨_, rfl, rfl⟩), by kernel_rfl, by kernel_rfl⟩, Try.isAgg41⟩
instance : TyI Try.prog 43 false 1 8 ([.nilFunc]) := ⟨⟨Try.t43, by kernel_rfl, by kernel_rfl, by kernel_rfl, by kernel_rfl, (fun _ => ⟨_, rfl, rfl⟩), by kernel_rfl, by kernel_rfl⟩, Try.isAgg43⟩
instance : TyU Try.prog 44 (.pointer 46) := ⟨Try.underlying44⟩
instance : TyI Try.prog 44 false 1 8 ([.pointer none]) := ⟨⟨Try.t44, by kernel_rfl, by kernel_rfl, by kernel_rfl, by kernel_rfl, (fun _ => ⟨_, rfl, rfl⟩), by kernel_rfl, by kernel_rfl⟩, Try.isAgg44⟩
instance : TyI Try.prog 45 true 2 24 (.string ⟨#[]⟩ :: [.int .i64 0]) := ⟨⟨Try.t45, by kernel_rfl, by kernel_rfl, by kernel_rfl, by kernel_rfl, (fun h => by cases h), by kernel_rfl, by kernel_rfl⟩, Try.isAgg45⟩
instance : TyS Try.prog 45 [(0, 1), (1, 1)] := ⟨_, Try.underlying45, fun w => by simp [Try.sizeOf9, Try.sizeOf3]⟩
instance : TyF Try.prog 45 0 0 9 := ⟨⟨_, _, Try.t9, Try.underlying45, rfl, rfl, rfl, by kernel_rfl, by intro h; cases h⟩⟩
instance : TyF Try.prog 45 1 1 3 := ⟨⟨_, _, Try.t3, Try.underlying45, rfl, rfl, rfl, by kernel_rfl, by intro h; cases h⟩⟩
instance : TyI Try.prog 46 true 2 24 (.string ⟨#[]⟩ :: [.int .i64 0]) := ⟨⟨Try.t46, by kernel_rfl, by kernel_rfl, by kernel_rfl, by kernel_rfl, (fun h => by cases h), by kernel_rfl, by kernel_rfl⟩, Try.isAgg46⟩
instance : TyS Try.prog 46 [(0, 1), (1, 1)] := ⟨_, Try.underlying46, fun w => by simp [Try.sizeOf9, Try.sizeOf3]⟩
instance : TyF Try.prog 46 0 0 9 := ⟨⟨_, _, Try.t9, Try.underlying46, rfl, rfl, rfl, by kernel_rfl, by intro h; cases h⟩⟩
instance : TyF Try.prog 46 1 1 3 := ⟨⟨_, _, Try.t3, Try.underlying46, rfl, rfl, rfl, by kernel_rfl, by intro h; cases h⟩⟩
instance : TyI Try.prog 48 false 1 8 ([.nilFunc]) := ⟨⟨Try.t48, by kernel_rfl, by kernel_rfl, by kernel_rfl, by kernel_rfl, (fun _ => ⟨_, rfl, rfl⟩), by kernel_rfl, by kernel_rfl⟩, Try.isAgg48⟩
instance : TyI Try.prog 50 false 1 8 ([.nilFunc]) := ⟨⟨Try.t50, by kernel_rfl, by kernel_rfl, by kernel_rfl, by kernel_rfl, (fun _ => ⟨_, rfl, rfl⟩), by kernel_rfl, by kernel_rfl⟩, Try.isAgg50⟩
instance : TyI Try.prog 52 false 1 8 ([.nilFunc]) := ⟨⟨Try.t52, by kernel_rfl, by kernel_rfl, by kernel_rfl, by kernel_rfl, (fun _ => ⟨_, rfl, rfl⟩), by kernel_rfl, by kernel_rfl⟩, Try.isAgg52⟩
instance : TyI Try.prog 54 false 1 8 ([.nilFunc]) := ⟨⟨Try.t54, by kernel_rfl, by kernel_rfl, by kernel_rfl, by kernel_rfl, (fun _ => ⟨_, rfl, rfl⟩), by kernel_rfl, by kernel_rfl⟩, Try.isAgg54⟩
instance : TyI Try.prog 55 false 1 8 ([.nilFunc]) := ⟨⟨Try.t55, by kernel_rfl, by kernel_rfl, by kernel_rfl, by kernel_rfl, (fun _ => ⟨_, rfl, rfl⟩), by kernel_rfl, by kernel_rfl⟩, Try.isAgg55⟩
instance : TyI Try.prog 56 false 1 8 ([.nilFunc]) := ⟨⟨Try.t56, by kernel_rfl, by kernel_rfl, by kernel_rfl, by kernel_rfl, (fun _ => ⟨_, rfl, rfl⟩), by kernel_rfl, by kernel_rfl⟩, Try.isAgg56⟩
instance : TyI Try.prog 57 false 1 8 ([.nilFunc]) := ⟨⟨Try.t57, by kernel_rfl, by kernel_rfl, by kernel_rfl, by kernel_rfl, (fun _ => ⟨_, rfl, rfl⟩), by kernel_rfl, by kernel_rfl⟩, Try.isAgg57⟩
instance : TyI Try.prog 58 false 1 8 ([.nilFunc]) := ⟨⟨Try.t58, by kernel_rfl, by kernel_rfl, by kernel_rfl, by kernel_rfl, (fun _ => ⟨_, rfl, rfl⟩), by kernel_rfl, by kernel_rfl⟩, Try.isAgg58⟩
instance : TyI Try.prog 59 false 1 8 ([.nilFunc]) := ⟨⟨Try.t59, by kernel_rfl, by kernel_rfl, by kernel_rfl, by kernel_rfl, (fun _ => ⟨_, rfl, rfl⟩), by kernel_rfl, by kernel_rfl⟩, Try.isAgg59⟩
instance : TyI Try.prog 61 false 1 8 ([.nilFunc]) := ⟨⟨Try.t61, by kernel_rfl, by kernel_rfl, by kernel_rfl, by kernel_rfl, (fun _ => ⟨_, rfl, rfl⟩), by kernel_rfl, by kernel_rfl⟩, Try.isAgg61⟩
instance : TyU Try.prog 62 (.array 11 9) := ⟨Try.underlying62⟩
instance : TyI Try.prog 62 true 11 176 (reps 11 (.string ⟨#[]⟩)) := ⟨⟨Try.t62, by kernel_rfl, by kernel_rfl, by kernel_rfl, by kernel_rfl, (fun h => by cases h), by kernel_rfl, by kernel_rfl⟩, Try.isAgg62⟩
instance : TyI Try.prog 63 false 1 8 ([.nilFunc]) := ⟨⟨Try.t63, by kernel_rfl, by kernel_rfl, by kernel_rfl, by kernel_rfl, (fun _ => ⟨_, rfl, rfl⟩), by kernel_rfl, by kernel_rfl⟩, Try.isAgg63⟩
instance : TyU Try.prog 64 (.int .u64) := ⟨Try.underlying64⟩
instance : TyI Try.prog 64 false 1 8 ([.int .u64 0]) := ⟨⟨Try.t64, by kernel_rfl, by kernel_rfl, by kernel_rfl, by kernel_rfl, (fun _ => ⟨_, rfl, rfl⟩), by kernel_rfl, by kernel_rfl⟩, Try.isAgg64⟩
instance : TyU Try.prog 65 (.int .u32) := ⟨Try.underlying65⟩
instance : TyI Try.prog 65 false 1 4 ([.int .u32 0]) := ⟨⟨Try.t65, by kernel_rfl, by kernel_rfl, by kernel_rfl, by kernel_rfl, (fun _ => ⟨_, rfl, rfl⟩), by kernel_rfl, by kernel_rfl⟩, Try.isAgg65⟩
instance : TyI Try.prog 67 false 1 8 ([.nilFunc]) := ⟨⟨Try.t67, by kernel_rfl, by kernel_rfl, by kernel_rfl, by kernel_rfl, (fun _ => ⟨_, rfl, rfl⟩), by kernel_rfl, by kernel_rfl⟩, Try.isAgg67⟩
instance : TyI Try.prog 68 false 1 8 ([.nilFunc]) := ⟨⟨Try.t68, by kernel_rfl, by kernel_rfl, by kernel_rfl, by kernel_rfl, (fun _ => ⟨_, rfl, rfl⟩), by kernel_rfl, by kernel_rfl⟩, Try.isAgg68⟩
instance : TyI Try.prog 69 true 4 40 (.pointer none :: (.pointer none :: (.pointer none :: [.string ⟨#[]⟩]))) := ⟨⟨Try.t69, by kernel_rfl, by kernel_rfl, by kernel_rfl, by kernel_rfl, (fun h => by cases h), by kernel_rfl, by kernel_rfl⟩, Try.isAgg69⟩
instance : TyS Try.prog 69 [(0, 1), (1, 1), (2, 1), (3, 1)] := ⟨_, Try.underlying69, fun w => by simp [Try.sizeOf17, Try.sizeOf9]⟩
instance : TyF Try.prog 69 0 0 17 := ⟨⟨_, _, Try.t17, Try.underlying69, rfl, rfl, rfl, by kernel_rfl, by intro h; cases h⟩⟩
instance : TyF Try.prog 69 1 1 17 := ⟨⟨_, _, Try.t17, Try.underlying69, rfl, rfl, rfl, by kernel_rfl, by intro h; cases h⟩⟩
instance : TyF Try.prog 69 2 2 17 := ⟨⟨_, _, Try.t17, Try.underlying69, rfl, rfl, rfl, by kernel_rfl, by intro h; cases h⟩⟩
instance : TyF Try.prog 69 3 3 9 := ⟨⟨_, _, Try.t9, Try.underlying69, rfl, rfl, rfl, by kernel_rfl, by intro h; cases h⟩⟩
instance : TyI Try.prog 70 true 4 40 (.pointer none :: (.pointer none :: (.pointer none :: [.string ⟨#[]⟩]))) := ⟨⟨Try.t70, by kernel_rfl, by kernel_rfl, by kernel_rfl, by kernel_rfl, (fun h => by cases h), by kernel_rfl, by kernel_rfl⟩, Try.isAgg70⟩
instance : TyS Try.prog 70 [(0, 1), (1, 1), (2, 1), (3, 1)] := ⟨_, Try.underlying70, fun w => by simp [Try.sizeOf17, Try.sizeOf9]⟩
instance : TyF Try.prog 70 0 0 17 := ⟨⟨_, _, Try.t17, Try.underlying70, rfl, rfl, rfl, by kernel_rfl, by intro h; cases h⟩⟩
instance : TyF Try.prog 70 1 1 17 := ⟨⟨_, _, Try.t17, Try.underlying70, rfl, rfl, rfl, by kernel_rfl, by intro h; cases h⟩⟩
instance : TyF Try.prog 70 2 2 17 := ⟨⟨_, _, Try.t17, Try.underlying70, rfl, rfl, rfl, by kernel_rfl, by intro h; cases h⟩⟩
instance : TyF Try.prog 70 3 3 9 := ⟨⟨_, _, Try.t9, Try.underlying70, rfl, rfl, rfl, by kernel_rfl, by intro h; cases h⟩⟩
instance : TyU Try.prog 71 (.array 0 16) := ⟨Try.underlying71⟩
instance : TyI Try.prog 74 false 1 8 ([.nilFunc]) := ⟨⟨Try.t74, by kernel_rfl, by kernel_rfl, by kernel_rfl, by kernel_rfl, (fun _ => ⟨_, rfl, rfl⟩), by kernel_rfl, by kernel_rfl⟩, Try.isAgg74⟩
instance : TyU Try.prog 75 (.int .u8) := ⟨Try.underlying75⟩
instance : TyI Try.prog 75 false 1 1 ([.int .u8 0]) := ⟨⟨Try.t75, by kernel_rfl, by kernel_rfl, by kernel_rfl, by kernel_rfl, (fun _ => ⟨_, rfl, rfl⟩), by kernel_rfl, by kernel_rfl⟩, Try.isAgg75⟩
instance : TyU Try.prog 76 (.int .u8) := ⟨Try.underlying76⟩
instance : TyI Try.prog 76 false 1 1 ([.int .u8 0]) := ⟨⟨Try.t76, by kernel_rfl, by kernel_rfl, by kernel_rfl, by kernel_rfl, (fun _ => ⟨_, rfl, rfl⟩), by kernel_rfl, by kernel_rfl⟩, Try.isAgg76⟩
instance : TyI Try.prog 77 false 1 8 ([.nilFunc]) := ⟨⟨Try.t77, by kernel_rfl, by kernel_rfl, by kernel_rfl, by kernel_rfl, (fun _ => ⟨_, rfl, rfl⟩), by kernel_rfl, by kernel_rfl⟩, Try.isAgg77⟩
instance : TyU Try.prog 78 (.pointer 5) := ⟨Try.underlying78⟩
instance : TyI Try.prog 78 false 1 8 ([.pointer none]) := ⟨⟨Try.t78, by kernel_rfl, by kernel_rfl, by kernel_rfl, by kernel_rfl, (fun _ => ⟨_, rfl, rfl⟩), by kernel_rfl, by kernel_rfl⟩, Try.isAgg78⟩
instance : TyU Try.prog 79 (.int .i32) := ⟨Try.underlying79⟩
instance : TyI Try.prog 79 false 1 4 ([.int .i32 0]) := ⟨⟨Try.t79, by kernel_rfl, by kernel_rfl, by kernel_rfl, by kernel_rfl, (fun _ => ⟨_, rfl, rfl⟩), by kernel_rfl, by kernel_rfl⟩, Try.isAgg79⟩
instance : TyU Try.prog 80 (.int .i32) := ⟨Try.underlying80⟩
instance : TyI Try.prog 80 false 1 4 ([.int .i32 0]) := ⟨⟨Try.t80, by kernel_rfl, by kernel_rfl, by kernel_rfl, by kernel_rfl, (fun _ => ⟨_, rfl, rfl⟩), by kernel_rfl, by kernel_rfl⟩, Try.isAgg80⟩
instance : TyI Try.prog 81 true 11 48 (.int .u64 0 :: (.int .u64 0 :: (.int .u32 0 :: (.int .u8 0 :: (.int .u8 0 :: (.int .u8 0 :: (.int .u8 0 :: (.nilFunc :: (.pointer none :: (.int .i32 0 :: [.int .i32 0])))))))))) := ⟨⟨Try.t81, by kernel_rfl, by kernel_rfl, by kernel_rfl, by kernel_rfl, (fun h => by cases h), by kernel_rfl, by kernel_rfl⟩, Try.isAgg81⟩
instance : TyS Try.prog 81 [(0, 1), (1, 1), (2, 1), (3, 1), (4, 1), (5, 1), (6, 1), (7, 1), (8, 1), (9, 1), (10, 1)] := ⟨_, Try.underlying81, fun w => by simp [Try.sizeOf12, Try.sizeOf65, Try.sizeOf75, Try.sizeOf5, Try.sizeOf76, Try.sizeOf77, Try.sizeOf78, Try.sizeOf79, Try.sizeOf80]⟩
instance : TyF Try.prog 81 0 0 12 := ⟨⟨_, _, Try.t12, Try.underlying81, rfl, rfl, rfl, by kernel_rfl, by intro h; cases h⟩⟩
instance : TyF Try.prog 81 1 1 12 := ⟨⟨_, _, Try.t12, Try.underlying81, rfl, rfl, rfl, by kernel_rfl, by intro h; cases h⟩⟩
instance : TyF Try.prog 81 2 2 65 := ⟨⟨_, _, Try.t65, Try.underlying81, rfl, rfl, rfl, by kernel_rfl, by intro h; cases h⟩⟩
instance : TyF Try.prog 81 3 3 75 := ⟨⟨_, _, Try.t75, Try.underlying81, rfl, rfl, rfl, by kernel_rfl, by intro h; cases h⟩⟩
instance : TyF Try.prog 81 4 4 5 := ⟨⟨_, _, Try.t5, Try.underlying81, rfl, rfl, rfl, by kernel_rfl, by intro h; cases h⟩⟩
instance : TyF Try.prog 81 5 5 5 := ⟨⟨_, _, Try.t5, Try.underlying81, rfl, rfl, rfl, by kernel_rfl, by intro h; cases h⟩⟩
instance : TyF Try.prog 81 6 6 76 := ⟨⟨_, _, Try.t76, Try.underlying81, rfl, rfl, rfl, by kernel_rfl, by intro h; cases h⟩⟩
instance : TyF Try.prog 81 7 7 77 := ⟨⟨_, _, Try.t77, Try.underlying81, rfl, rfl, rfl, by kernel_rfl, by intro h; cases h⟩⟩
instance : TyF Try.prog 81 8 8 78 := ⟨⟨_, _, Try.t78, Try.underlying81, rfl, rfl, rfl, by kernel_rfl, by intro h; cases h⟩⟩
instance : TyF Try.prog 81 9 9 79 := ⟨⟨_, _, Try.t79, Try.underlying81, rfl, rfl, rfl, by kernel_rfl, by intro h; cases h⟩⟩
instance : TyF Try.prog 81 10 10 80 := ⟨⟨_, _, Try.t80, Try.underlying81, rfl, rfl, rfl, by kernel_rfl, by intro h; cases h⟩⟩
instance : TyI Try.prog 82 true 11 48 (.int .u64 0 :: (.int .u64 0 :: (.int .u32 0 :: (.int .u8 0 :: (.int .u8 0 :: (.int .u8 0 :: (.int .u8 0 :: (.nilFunc :: (.pointer none :: (.int .i32 0 :: [.int .i32 0])))))))))) := ⟨⟨Try.t82, by kernel_rfl, by kernel_rfl, by kernel_rfl, by kernel_rfl, (fun h => by cases h), by kernel_rfl, by kernel_rfl⟩, Try.isAgg82⟩
instance : TyS Try.prog 82 [(0, 1), (1, 1), (2, 1), (3, 1), (4, 1), (5, 1), (6, 1), (7, 1), (8, 1), (9, 1), (10, 1)] := ⟨_, Try.underlying82, fun w => by simp [Try.sizeOf12, Try.sizeOf65, Try.sizeOf75, Try.sizeOf5, Try.sizeOf76, Try.sizeOf77, Try.sizeOf78, Try.sizeOf79, Try.sizeOf80]⟩
instance : TyF Try.prog 82 0 0 12 := ⟨⟨_, _, Try.t12, Try.underlying82, rfl, rfl, rfl, by kernel_rfl, by intro h; cases h⟩⟩
instance : TyF Try.prog 82 1 1 12 := ⟨⟨_, _, Try.t12, Try.underlying82, rfl, rfl, rfl, by kernel_rfl, by intro h; cases h⟩⟩
instance : TyF Try.prog 82 2 2 65 := ⟨⟨_, _, Try.t65, Try.underlying82, rfl, rfl, rfl, by kernel_rfl, by intro h; cases h⟩⟩
instance : TyF Try.prog 82 3 3 75 := ⟨⟨_, _, Try.t75, Try.underlying82, rfl, rfl, rfl, by kernel_rfl, by intro h; cases h⟩⟩
instance : TyF Try.prog 82 4 4 5 := ⟨⟨_, _, Try.t5, Try.underlying82, rfl, rfl, rfl, by kernel_rfl, by intro h; cases h⟩⟩
instance : TyF Try.prog 82 5 5 5 := ⟨⟨_, _, Try.t5, Try.underlying82, rfl, rfl, rfl, by kernel_rfl, by intro h; cases h⟩⟩
instance : TyF Try.prog 82 6 6 76 := ⟨⟨_, _, Try.t76, Try.underlying82, rfl, rfl, rfl, by kernel_rfl, by intro h; cases h⟩⟩
instance : TyF Try.prog 82 7 7 77 := ⟨⟨_, _, Try.t77, Try.underlying82, rfl, rfl, rfl, by kernel_rfl, by intro h; cases h⟩⟩
instance : TyF Try.prog 82 8 8 78 := ⟨⟨_, _, Try.t78, Try.underlying82, rfl, rfl, rfl, by kernel_rfl, by intro h; cases h⟩⟩
instance : TyF Try.prog 82 9 9 79 := ⟨⟨_, _, Try.t79, Try.underlying82, rfl, rfl, rfl, by kernel_rfl, by intro h; cases h⟩⟩
instance : TyF Try.prog 82 10 10 80 := ⟨⟨_, _, Try.t80, Try.underlying82, rfl, rfl, rfl, by kernel_rfl, by intro h; cases h⟩⟩
instance : TyI Try.prog 83 false 1 8 ([.pointer none]) := ⟨⟨Try.t83, by kernel_rfl, by kernel_rfl, by kernel_rfl, by kernel_rfl, (fun _ => ⟨_, rfl, rfl⟩), by kernel_rfl, by kernel_rfl⟩, Try.isAgg83⟩
def tab : Tab := ⟨[(2, (.int .i64)), (3, (.int .i64)), (4, .bool), (5, (.int .u8)), (6, (.int .u8)), (9, .string), (10, .string), (11, .string), (12, (.int .u64)), (15, (.pointer 70)), (16, (.pointer 73)), (17, (.pointer 82)), (21, (.int .i32)), (23, (.slice 36)), (24, (.int .i64)), (31, (.slice 3)), (32, (.array 32 9)), (33, (.int .u64)), (39, (.slice 9)), (44, (.pointer 46)), (62, (.array 11 9)), (64, (.int .u64)), (65, (.int .u32)), (71, (.array 0 16)), (75, (.int .u8)), (76, (.int .u8)), (78, (.pointer 5)), (79, (.int .i32)), (80, (.int .i32))],
  [(1, 1), (2, 1), (3, 1), (4, 1), (5, 1), (6, 1), (7, 4), (8, 4), (9, 1), (10, 1), (11, 1), (12, 1), (13, 2), (14, 2), (15, 1), (16, 1), (17, 1), (18, 1), (19, 1), (20, 1), (21, 1), (22, 1), (23, 1), (24, 1), (26, 1), (28, 1), (29, 1), (30, 1), (31, 1), (32, 32), (33, 1), (34, 1), (35, 3), (36, 3), (37, 1), (38, 1), (39, 1), (41, 1), (43, 1), (44, 1), (45, 2), (46, 2), (48, 1), (50, 1), (52, 1), (54, 1), (55, 1), (56, 1), (57, 1), (58, 1), (59, 1), (61, 1), (62, 11), (63, 1), (64, 1), (65, 1), (67, 1), (68, 1), (69, 4), (70, 4), (74, 1), (75, 1), (76, 1), (77, 1), (78, 1), (79, 1), (80, 1), (81, 11), (82, 11), (83, 1)],
  [(7, 0, 0), (7, 1, 1), (7, 2, 2), (7, 3, 3), (8, 0, 0), (8, 1, 1), (8, 2, 2), (8, 3, 3), (13, 0, 0), (13, 1, 1), (14, 0, 0), (14, 1, 1), (18, 0, 0), (19, 0, 0), (35, 0, 0), (35, 1, 1), (35, 2, 2), (36, 0, 0), (36, 1, 1), (36, 2, 2), (45, 0, 0), (45, 1, 1), (46, 0, 0), (46, 1, 1), (69, 0, 0), (69, 1, 1), (69, 2, 2), (69, 3, 3), (70, 0, 0), (70, 1, 1), (70, 2, 2), (70, 3, 3), (81, 0, 0), (81, 1, 1), (81, 2, 2), (81, 3, 3), (81, 4, 4), (81, 5, 5), (81, 6, 6), (81, 7, 7), (81, 8, 8), (81, 9, 9), (81, 10, 10), (82, 0, 0), (82, 1, 1), (82, 2, 2), (82, 3, 3), (82, 4, 4), (82, 5, 5), (82, 6, 6), (82, 7, 7), (82, 8, 8), (82, 9, 9), (82, 10, 10)]⟩
instance : TabOk Try.prog tab where
  u := by
    intro x hx
    simp only [tab, List.mem_cons, List.not_mem_nil, or_false] at hx
    rcases hx with rfl | rfl | rfl | rfl | rfl | rfl | rfl | rfl | rfl | rfl | rfl | rfl | rfl | rfl | rfl | rfl | rfl | rfl | rfl | rfl | rfl | rfl | rfl | rfl | rfl | rfl | rfl | rfl | rfl
    · exact Try.underlying2
    · exact Try.underlying3
    · exact Try.underlying4
    · exact Try.underlying5
    · exact Try.underlying6
    · exact Try.underlying9
    · exact Try.underlying10
    · exact Try.underlying11
    · exact Try.underlying12
    · exact Try.underlying15
    · exact Try.underlying16
    · exact Try.underlying17
    · exact Try.underlying21
    · exact Try.underlying23
    · exact Try.underlying24
    · exact Try.underlying31
    · exact Try.underlying32
    · exact Try.underlying33
    · exact Try.underlying39
    · exact Try.underlying44
    · exact Try.underlying62
    · exact Try.underlying64
    · exact Try.underlying65
    · exact Try.underlying71
    · exact Try.underlying75
    · exact Try.underlying76
    · exact Try.underlying78
    · exact Try.underlying79
    · exact Try.underlying80
  sz := by
    intro x hx
    simp only [tab, List.mem_cons, List.not_mem_nil, or_false] at hx
    rcases hx with rfl | rfl | rfl | rfl | rfl | rfl | rfl | rfl | rfl | rfl | rfl | rfl | rfl | rfl | rfl | rfl | rfl | rfl | rfl | rfl | rfl | rfl | rfl | rfl | rfl | rfl | rfl | rfl | rfl | rfl | rfl | rfl | rfl | rfl | rfl | rfl | rfl | rfl | rfl | rfl | rfl | rfl | rfl | rfl | rfl | rfl | rfl | rfl | rfl | rfl | rfl | rfl | rfl | rfl | rfl | rfl | rfl | rfl | rfl | rfl | rfl | rfl | rfl | rfl | rfl | rfl | rfl | rfl | rfl | rfl
    · exact Try.sizeOf1
    · exact Try.sizeOf2
    · exact Try.sizeOf3
    · exact Try.sizeOf4
    · exact Try.sizeOf5
    · exact Try.sizeOf6
    · exact Try.sizeOf7
    · exact Try.sizeOf8
    · exact Try.sizeOf9
    · exact Try.sizeOf10
    · exact Try.sizeOf11
    · exact Try.sizeOf12
    · exact Try.sizeOf13
    · exact Try.sizeOf14
    · exact Try.sizeOf15
    · exact Try.sizeOf16
    · exact Try.sizeOf17
    · exact Try.sizeOf18
    · exact Try.sizeOf19
    · exact Try.sizeOf20
    · exact Try.sizeOf21
    · exact Try.sizeOf22
    · exact Try.sizeOf23
    · exact Try.sizeOf24
    · exact Try.sizeOf26
    · exact Try.sizeOf28
    · exact Try.sizeOf29
    · exact Try.sizeOf30
    · exact Try.sizeOf31
    · exact Try.sizeOf32
    · exact Try.sizeOf33
    · exact Try.sizeOf34
    · exact Try.sizeOf35
    · exact Try.sizeOf36
    · exact Try.sizeOf37
    · exact Try.sizeOf38
    · exact Try.sizeOf39
    · exact Try.sizeOf41
    · exact Try.sizeOf43
    · exact Try.sizeOf44
    · exact Try.sizeOf45
    · exact Try.sizeOf46
    · exact Try.sizeOf48
    · exact Try.sizeOf50
    · exact Try.sizeOf52
    · exact Try.sizeOf54
    · exact Try.sizeOf55
    · exact Try.sizeOf56
    · exact Try.sizeOf57
    · exact Try.sizeOf58
    · exact Try.sizeOf59
    · exact Try.sizeOf61
    · exact Try.sizeOf62
    · exact Try.sizeOf63
    · exact Try.sizeOf64
    · exact Try.sizeOf65
    · exact Try.sizeOf67
    · exact Try.sizeOf68
    · exact Try.sizeOf69
    · exact Try.sizeOf70
    · exact Try.sizeOf74
    · exact Try.sizeOf75
    · exact Try.sizeOf76
    · exact Try.sizeOf77
    · exact Try.sizeOf78
    · exact Try.sizeOf79
    · exact Try.sizeOf80
    · exact Try.sizeOf81
    · exact Try.sizeOf82
    · exact Try.sizeOf83
  off := by
    intro x hx
    simp only [tab, List.mem_cons, List.not_mem_nil, or_false] at hx
    rcases hx with rfl | rfl | rfl | rfl | rfl | rfl | rfl | rfl | rfl | rfl | rfl | rfl | rfl | rfl | rfl | rfl | rfl | rfl | rfl | rfl | rfl | rfl | rfl | rfl | rfl | rfl | rfl | rfl | rfl | rfl | rfl | rfl | rfl | rfl | rfl | rfl | rfl | rfl | rfl | rfl | rfl | rfl | rfl | rfl | rfl | rfl | rfl | rfl | rfl | rfl | rfl | rfl | rfl | rfl
    · exact fun b o' w => run_fieldAt (s := 7) (f := 0) (off := 0) (ft := 2) b o' w
    · exact fun b o' w => run_fieldAt (s := 7) (f := 1) (off := 1) (ft := 3) b o' w
    · exact fun b o' w => run_fieldAt (s := 7) (f := 2) (off := 2) (ft := 4) b o' w
    · exact fun b o' w => run_fieldAt (s := 7) (f := 3) (off := 3) (ft := 6) b o' w
    · exact fun b o' w => run_fieldAt (s := 8) (f := 0) (off := 0) (ft := 2) b o' w
    · exact fun b o' w => run_fieldAt (s := 8) (f := 1) (off := 1) (ft := 3) b o' w
    · exact fun b o' w => run_fieldAt (s := 8) (f := 2) (off := 2) (ft := 4) b o' w
    · exact fun b o' w => run_fieldAt (s := 8) (f := 3) (off := 3) (ft := 6) b o' w
    · exact fun b o' w => run_fieldAt (s := 13) (f := 0) (off := 0) (ft := 9) b o' w
    · exact fun b o' w => run_fieldAt (s := 13) (f := 1) (off := 1) (ft := 12) b o' w
    · exact fun b o' w => run_fieldAt (s := 14) (f := 0) (off := 0) (ft := 9) b o' w
    · exact fun b o' w => run_fieldAt (s := 14) (f := 1) (off := 1) (ft := 12) b o' w
    · exact fun b o' w => run_fieldAt (s := 18) (f := 0) (off := 0) (ft := 17) b o' w
    · exact fun b o' w => run_fieldAt (s := 19) (f := 0) (off := 0) (ft := 17) b o' w
    · exact fun b o' w => run_fieldAt (s := 35) (f := 0) (off := 0) (ft := 3) b o' w
    · exact fun b o' w => run_fieldAt (s := 35) (f := 1) (off := 1) (ft := 9) b o' w
    · exact fun b o' w => run_fieldAt (s := 35) (f := 2) (off := 2) (ft := 3) b o' w
    · exact fun b o' w => run_fieldAt (s := 36) (f := 0) (off := 0) (ft := 3) b o' w
    · exact fun b o' w => run_fieldAt (s := 36) (f := 1) (off := 1) (ft := 9) b o' w
    · exact fun b o' w => run_fieldAt (s := 36) (f := 2) (off := 2) (ft := 3) b o' w
    · exact fun b o' w => run_fieldAt (s := 45) (f := 0) (off := 0) (ft := 9) b o' w
    · exact fun b o' w => run_fieldAt (s := 45) (f := 1) (off := 1) (ft := 3) b o' w
    · exact fun b o' w => run_fieldAt (s := 46) (f := 0) (off := 0) (ft := 9) b o' w
    · exact fun b o' w => run_fieldAt (s := 46) (f := 1) (off := 1) (ft := 3) b o' w
    · exact fun b o' w => run_fieldAt (s := 69) (f := 0) (off := 0) (ft := 17) b o' w
    · exact fun b o' w => run_fieldAt (s := 69) (f := 1) (off := 1) (ft := 17) b o' w
    · exact fun b o' w => run_fieldAt (s := 69) (f := 2) (off := 2) (ft := 17) b o' w
    · exact fun b o' w => run_fieldAt (s := 69) (f := 3) (off := 3) (ft := 9) b o' w
    · exact fun b o' w => run_fieldAt (s := 70) (f := 0) (off := 0) (ft := 17) b o' w
    · exact fun b o' w => run_fieldAt (s := 70) (f := 1) (off := 1) (ft := 17) b o' w
    · exact fun b o' w => run_fieldAt (s := 70) (f := 2) (off := 2) (ft := 17) b o' w
    · exact fun b o' w => run_fieldAt (s := 70) (f := 3) (off := 3) (ft := 9) b o' w
    · exact fun b o' w => run_fieldAt (s := 81) (f := 0) (off := 0) (ft := 12) b o' w
    · exact fun b o' w => run_fieldAt (s := 81) (f := 1) (off := 1) (ft := 12) b o' w
    · exact fun b o' w => run_fieldAt (s := 81) (f := 2) (off := 2) (ft := 65) b o' w
    · exact fun b o' w => run_fieldAt (s := 81) (f := 3) (off := 3) (ft := 75) b o' w
    · exact fun b o' w => run_fieldAt (s := 81) (f := 4) (off := 4) (ft := 5) b o' w
    · exact fun b o' w => run_fieldAt (s := 81) (f := 5) (off := 5) (ft := 5) b o' w
    · exact fun b o' w => run_fieldAt (s := 81) (f := 6) (off := 6) (ft := 76) b o' w
    · exact fun b o' w => run_fieldAt (s := 81) (f := 7) (off := 7) (ft := 77) b o' w
    · exact fun b o' w => run_fieldAt (s := 81) (f := 8) (off := 8) (ft := 78) b o' w
    · exact fun b o' w => run_fieldAt (s := 81) (f := 9) (off := 9) (ft := 79) b o' w
    · exact fun b o' w => run_fieldAt (s := 81) (f := 10) (off := 10) (ft := 80) b o' w
    · exact fun b o' w => run_fieldAt (s := 82) (f := 0) (off := 0) (ft := 12) b o' w
    · exact fun b o' w => run_fieldAt (s := 82) (f := 1) (off := 1) (ft := 12) b o' w
    · exact fun b o' w => run_fieldAt (s := 82) (f := 2) (off := 2) (ft := 65) b o' w
    · exact fun b o' w => run_fieldAt (s := 82) (f := 3) (off := 3) (ft := 75) b o' w
    · exact fun b o' w => run_fieldAt (s := 82) (f := 4) (off := 4) (ft := 5) b o' w
    · exact fun b o' w => run_fieldAt (s := 82) (f := 5) (off := 5) (ft := 5) b o' w
    · exact fun b o' w => run_fieldAt (s := 82) (f := 6) (off := 6) (ft := 76) b o' w
    · exact fun b o' w => run_fieldAt (s := 82) (f := 7) (off := 7) (ft := 77) b o' w
    · exact fun b o' w => run_fieldAt (s := 82) (f := 8) (off := 8) (ft := 78) b o' w
    · exact fun b o' w => run_fieldAt (s := 82) (f := 9) (off := 9) (ft := 79) b o' w
    · exact fun b o' w => run_fieldAt (s := 82) (f := 10) (off := 10) (ft := 80) b o' w
end Go.Sl
