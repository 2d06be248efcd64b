/- What is known of the program's types and functions: written by a program of the author's. -/
import Derived.Test.YtoljbocejclaeaaEx
import Derived.Test.YtoljbocejclaeaaProg
import Derived.KernelRfl
set_option maxRecDepth 100000
set_option linter.unusedSimpArgs false
namespace Go.Sl
open Go Go.Proofs
instance : Mixed Try.prog := ⟨by kernel_rfl⟩
instance : Fun Try.prog 2 := ⟨Try.call2⟩
instance : Fun Try.prog 3 := ⟨Try.call3⟩
instance : Fun Try.prog 4 := ⟨Try.call4⟩
instance : Fun Try.prog 5 := ⟨Try.call5⟩
instance : Fun Try.prog 6 := ⟨Try.call6⟩
instance : Fun Try.prog 7 := ⟨Try.call7⟩
instance : Fun Try.prog 8 := ⟨Try.call8⟩
instance : Fun Try.prog 9 := ⟨Try.call9⟩
instance : Fun Try.prog 10 := ⟨Try.call10⟩
instance : Fun Try.prog 11 := ⟨Try.call11⟩
instance : Fun Try.prog 12 := ⟨Try.call12⟩
instance : Fun Try.prog 13 := ⟨Try.call13⟩
instance : Fun Try.prog 14 := ⟨Try.call14⟩
instance : Fun Try.prog 15 := ⟨Try.call15⟩
instance : Fun Try.prog 16 := ⟨Try.call16⟩
instance : Fun Try.prog 17 := ⟨Try.call17⟩
instance : Fun Try.prog 18 := ⟨Try.call18⟩
instance : Fun Try.prog 19 := ⟨Try.call19⟩
instance : Fun Try.prog 20 := ⟨Try.call20⟩
instance : Fun Try.prog 21 := ⟨Try.call21⟩
instance : Fun Try.prog 22 := ⟨Try.call22⟩
instance : Fun Try.prog 23 := ⟨Try.call23⟩
instance : Fun Try.prog 24 := ⟨Try.call24⟩
instance : Fun Try.prog 25 := ⟨Try.call25⟩
instance : Fun Try.prog 26 := ⟨Try.call26⟩
instance : Fun Try.prog 27 := ⟨Try.call27⟩
instance : Fun Try.prog 28 := ⟨Try.call28⟩
instance : Fun Try.prog 29 := ⟨Try.call29⟩
instance : Fun Try.prog 30 := ⟨Try.call30⟩
instance : Fun Try.prog 31 := ⟨Try.call31⟩
instance : Fun Try.prog 32 := ⟨Try.call32⟩
instance : Fun Try.prog 33 := ⟨Try.call33⟩
instance : Fun Try.prog 34 := ⟨Try.call34⟩
instance : Fun Try.prog 35 := ⟨Try.call35⟩
instance : Fun Try.prog 36 := ⟨Try.call36⟩
instance : Fun Try.prog 37 := ⟨Try.call37⟩
instance : Fun Try.prog 38 := ⟨Try.call38⟩
instance : Fun Try.prog 39 := ⟨Try.call39⟩
instance : Fun Try.prog 40 := ⟨Try.call40⟩
instance : Fun Try.prog 41 := ⟨Try.call41⟩
instance : Fun Try.prog 42 := ⟨Try.call42⟩
instance : Fun Try.prog 43 := ⟨Try.call43⟩
instance : TyI Try.prog 1 false 1 8 ([.nilFunc]) := ⟨⟨Try.t1, by kernel_rfl, by kernel_rfl, by kernel_rfl, by kernel_rfl, (fun _ => ⟨_, rfl, rfl⟩), by kernel_rfl, by kernel_rfl⟩, Try.isAgg1⟩
instance : TyU Try.prog 2 (.int .i64) := ⟨Try.underlying2⟩
instance : TyI Try.prog 2 false 1 8 ([.int .i64 0]) := ⟨⟨Try.t2, by kernel_rfl, by kernel_rfl, by kernel_rfl, by kernel_rfl, (fun _ => ⟨_, rfl, rfl⟩), by kernel_rfl, by kernel_rfl⟩, Try.isAgg2⟩
instance : TyU Try.prog 3 (.int .i64) := ⟨Try.underlying3⟩
instance : TyI Try.prog 3 false 1 8 ([.int .i64 0]) := ⟨⟨Try.t3, by kernel_rfl, by kernel_rfl, by kernel_rfl, by kernel_rfl, (fun _ => ⟨_, rfl, rfl⟩), by kernel_rfl, by kernel_rfl⟩, Try.isAgg3⟩
instance : TyU Try.prog 4 .bool := ⟨Try.underlying4⟩
instance : TyI Try.prog 4 false 1 1 ([.bool false]) := ⟨⟨Try.t4, by kernel_rfl, by kernel_rfl, by kernel_rfl, by kernel_rfl, (fun _ => ⟨_, rfl, rfl⟩), by kernel_rfl, by kernel_rfl⟩, Try.isAgg4⟩
instance : TyU Try.prog 5 (.int .u8) := ⟨Try.underlying5⟩
instance : TyI Try.prog 5 false 1 1 ([.int .u8 0]) := ⟨⟨Try.t5, by kernel_rfl, by kernel_rfl, by kernel_rfl, by kernel_rfl, (fun _ => ⟨_, rfl, rfl⟩), by kernel_rfl, by kernel_rfl⟩, Try.isAgg5⟩
instance : TyU Try.prog 6 (.int .u8) := ⟨Try.underlying6⟩
instance : TyI Try.prog 6 false 1 1 ([.int .u8 0]) := ⟨⟨Try.t6, by kernel_rfl, by kernel_rfl, by kernel_rfl, by kernel_rfl, (fun _ => ⟨_, rfl, rfl⟩), by kernel_rfl, by kernel_rfl⟩, Try.isAgg6⟩
instance : TyI Try.prog 7 true 4 24 (.int .i64 0 :: (.int .i64 0 :: (.bool false :: [.int .u8 0]))) := ⟨⟨Try.t7, by kernel_rfl, by kernel_rfl, by kernel_rfl, by kernel_rfl, (fun h => by cases h), by kernel_rfl, by kernel_rfl⟩, Try.isAgg7⟩
instance : TyS Try.prog 7 [(0, 1), (1, 1), (2, 1), (3, 1)] := ⟨_, Try.underlying7, fun w => by simp [Try.sizeOf2, Try.sizeOf3, Try.sizeOf4, Try.sizeOf6]⟩
instance : TyF Try.prog 7 0 0 2 := ⟨⟨_, _, Try.t2, Try.underlying7, rfl, rfl, rfl, by kernel_rfl, by intro h; cases h⟩⟩
instance : TyF Try.prog 7 1 1 3 := ⟨⟨_, _, Try.t3, Try.underlying7, rfl, rfl, rfl, by kernel_rfl, by intro h; cases h⟩⟩
instance : TyF Try.prog 7 2 2 4 := ⟨⟨_, _, Try.t4, Try.underlying7, rfl, rfl, rfl, by kernel_rfl, by intro h; cases h⟩⟩
instance : TyF Try.prog 7 3 3 6 := ⟨⟨_, _, Try.t6, Try.underlying7, rfl, rfl, rfl, by kernel_rfl, by intro h; cases h⟩⟩
instance : TyI Try.prog 8 true 4 24 (.int .i64 0 :: (.int .i64 0 :: (.bool false :: [.int .u8 0]))) := ⟨⟨Try.t8, by kernel_rfl, by kernel_rfl, by kernel_rfl, by kernel_rfl, (fun h => by cases h), by kernel_rfl, by kernel_rfl⟩, Try.isAgg8⟩
instance : TyS Try.prog 8 [(0, 1), (1, 1), (2, 1), (3, 1)] := ⟨_, Try.underlying8, fun w => by simp [Try.sizeOf2, Try.sizeOf3, Try.sizeOf4, Try.sizeOf6]⟩
instance : TyF Try.prog 8 0 0 2 := ⟨⟨_, _, Try.t2, Try.underlying8, rfl, rfl, rfl, by kernel_rfl, by intro h; cases h⟩⟩
instance : TyF Try.prog 8 1 1 3 := ⟨⟨_, _, Try.t3, Try.underlying8, rfl, rfl, rfl, by kernel_rfl, by intro h; cases h⟩⟩
instance : TyF Try.prog 8 2 2 4 := ⟨⟨_, _, Try.t4, Try.underlying8, rfl, rfl, rfl, by kernel_rfl, by intro h; cases h⟩⟩
instance : TyF Try.prog 8 3 3 6 := ⟨⟨_, _, Try.t6, Try.underlying8, rfl, rfl, rfl, by kernel_rfl, by intro h; cases h⟩⟩
instance : TyU Try.prog 9 .string := ⟨Try.underlying9⟩
instance : TyI Try.prog 9 false 1 16 ([.string ⟨#[]⟩]) := ⟨⟨Try.t9, by kernel_rfl, by kernel_rfl, by kernel_rfl, by kernel_rfl, (fun _ => ⟨_, rfl, rfl⟩), by kernel_rfl, by kernel_rfl⟩, Try.isAgg9⟩
instance : TyU Try.prog 10 .string := ⟨Try.underlying10⟩
instance : TyI Try.prog 10 false 1 16 ([.string ⟨#[]⟩]) := ⟨⟨Try.t10, by kernel_rfl, by kernel_rfl, by kernel_rfl, by kernel_rfl, (fun _ => ⟨_, rfl, rfl⟩), by kernel_rfl, by kernel_rfl⟩, Try.isAgg10⟩
instance : TyU Try.prog 11 .string := ⟨Try.underlying11⟩
instance : TyI Try.prog 11 false 1 16 ([.string ⟨#[]⟩]) := ⟨⟨Try.t11, by kernel_rfl, by kernel_rfl, by kernel_rfl, by kernel_rfl, (fun _ => ⟨_, rfl, rfl⟩), by kernel_rfl, by kernel_rfl⟩, Try.isAgg11⟩
instance : TyU Try.prog 12 (.int .u64) := ⟨Try.underlying12⟩
instance : TyI Try.prog 12 false 1 8 ([.int .u64 0]) := ⟨⟨Try.t12, by kernel_rfl, by kernel_rfl, by kernel_rfl, by kernel_rfl, (fun _ => ⟨_, rfl, rfl⟩), by kernel_rfl, by kernel_rfl⟩, Try.isAgg12⟩
instance : TyI Try.prog 13 true 2 24 (.string ⟨#[]⟩ :: [.int .u64 0]) := ⟨⟨Try.t13, by kernel_rfl, by kernel_rfl, by kernel_rfl, by kernel_rfl, (fun h => by cases h), by kernel_rfl, by kernel_rfl⟩, Try.isAgg13⟩
instance : TyS Try.prog 13 [(0, 1), (1, 1)] := ⟨_, Try.underlying13, fun w => by simp [Try.sizeOf9, Try.sizeOf12]⟩
instance : TyF Try.prog 13 0 0 9 := ⟨⟨_, _, Try.t9, Try.underlying13, rfl, rfl, rfl, by kernel_rfl, by intro h; cases h⟩⟩
instance : TyF Try.prog 13 1 1 12 := ⟨⟨_, _, Try.t12, Try.underlying13, rfl, rfl, rfl, by kernel_rfl, by intro h; cases h⟩⟩
instance : TyI Try.prog 14 true 2 24 (.string ⟨#[]⟩ :: [.int .u64 0]) := ⟨⟨Try.t14, by kernel_rfl, by kernel_rfl, by kernel_rfl, by kernel_rfl, (fun h => by cases h), by kernel_rfl, by kernel_rfl⟩, Try.isAgg14⟩
instance : TyS Try.prog 14 [(0, 1), (1, 1)] := ⟨_, Try.underlying14, fun w => by simp [Try.sizeOf9, Try.sizeOf12]⟩
instance : TyF Try.prog 14 0 0 9 := ⟨⟨_, _, Try.t9, Try.underlying14, rfl, rfl, rfl, by kernel_rfl, by intro h; cases h⟩⟩
instance : TyF Try.prog 14 1 1 12 := ⟨⟨_, _, Try.t12, Try.underlying14, rfl, rfl, rfl, by kernel_rfl, by intro h; cases h⟩⟩
instance : TyU Try.prog 15 (.pointer 97) := ⟨Try.underlying15⟩
instance : TyI Try.prog 15 false 1 8 ([.pointer none]) := ⟨⟨Try.t15, by kernel_rfl, by kernel_rfl, by kernel_rfl, by kernel_rfl, (fun _ => ⟨_, rfl, rfl⟩), by kernel_rfl, by kernel_rfl⟩, Try.isAgg15⟩
instance : TyU Try.prog 16 (.pointer 100) := ⟨Try.underlying16⟩
instance : TyI Try.prog 16 false 1 8 ([.pointer none]) := ⟨⟨Try.t16, by kernel_rfl, by kernel_rfl, by kernel_rfl, by kernel_rfl, (fun _ => ⟨_, rfl, rfl⟩), by kernel_rfl, by kernel_rfl⟩, Try.isAgg16⟩
instance : TyU Try.prog 17 (.pointer 108) := ⟨Try.underlying17⟩
instance : TyI Try.prog 17 false 1 8 ([.pointer none]) := ⟨⟨Try.t17, by kernel_rfl, by kernel_rfl, by kernel_rfl, by kernel_rfl, (fun _ => ⟨_, rfl, rfl⟩), by kernel_rfl, by kernel_rfl⟩, Try.isAgg17⟩
instance : TyI Try.prog 18 true 1 8 ([.pointer none]) := ⟨⟨Try.t18, by kernel_rfl, by kernel_rfl, by kernel_rfl, by kernel_rfl, (fun h => by cases h), by kernel_rfl, by kernel_rfl⟩, Try.isAgg18⟩
instance : TyS Try.prog 18 [(0, 1)] := ⟨_, Try.underlying18, fun w => by simp [Try.sizeOf17]⟩
instance : TyF Try.prog 18 0 0 17 := ⟨⟨_, _, Try.t17, Try.underlying18, rfl, rfl, rfl, by kernel_rfl, by intro h; cases h⟩⟩
instance : TyI Try.prog 19 true 1 8 ([.pointer none]) := ⟨⟨Try.t19, by kernel_rfl, by kernel_rfl, by kernel_rfl, by kernel_rfl, (fun h => by cases h), by kernel_rfl, by kernel_rfl⟩, Try.isAgg19⟩
instance : TyS Try.prog 19 [(0, 1)] := ⟨_, Try.underlying19, fun w => by simp [Try.sizeOf17]⟩
instance : TyF Try.prog 19 0 0 17 := ⟨⟨_, _, Try.t17, Try.underlying19, rfl, rfl, rfl, by kernel_rfl, by intro h; cases h⟩⟩
instance : TyI Try.prog 20 false 1 16 ([.nilIface]) := ⟨⟨Try.t20, by kernel_rfl, by kernel_rfl, by kernel_rfl, by kernel_rfl, (fun _ => ⟨_, rfl, rfl⟩), by kernel_rfl, by kernel_rfl⟩, Try.isAgg20⟩
instance : TyU Try.prog 21 (.int .i32) := ⟨Try.underlying21⟩
instance : TyI Try.prog 21 false 1 4 ([.int .i32 0]) := ⟨⟨Try.t21, by kernel_rfl, by kernel_rfl, by kernel_rfl, by kernel_rfl, (fun _ => ⟨_, rfl, rfl⟩), by kernel_rfl, by kernel_rfl⟩, Try.isAgg21⟩
instance : TyU Try.prog 22 (.slice 38) := ⟨Try.underlying22⟩
instance : TyI Try.prog 22 false 1 24 ([.slice none 0 0]) := ⟨⟨Try.t22, by kernel_rfl, by kernel_rfl, by kernel_rfl, by kernel_rfl, (fun _ => ⟨_, rfl, rfl⟩), by kernel_rfl, by kernel_rfl⟩, Try.isAgg22⟩
instance : TyU Try.prog 23 (.slice 4) := ⟨Try.underlying23⟩
instance : TyI Try.prog 23 false 1 24 ([.slice none 0 0]) := ⟨⟨Try.t23, by kernel_rfl, by kernel_rfl, by kernel_rfl, by kernel_rfl, (fun _ => ⟨_, rfl, rfl⟩), by kernel_rfl, by kernel_rfl⟩, Try.isAgg23⟩
instance : TyI Try.prog 24 false 1 8 ([.nilFunc]) := ⟨⟨Try.t24, by kernel_rfl, by kernel_rfl, by kernel_rfl, by kernel_rfl, (fun _ => ⟨_, rfl, rfl⟩), by kernel_rfl, by kernel_rfl⟩, Try.isAgg24⟩
instance : TyU Try.prog 25 (.pointer 48) := ⟨Try.underlying25⟩
instance : TyI Try.prog 25 false 1 8 ([.pointer none]) := ⟨⟨Try.t25, by kernel_rfl, by kernel_rfl, by kernel_rfl, by kernel_rfl, (fun _ => ⟨_, rfl, rfl⟩), by kernel_rfl, by kernel_rfl⟩, Try.isAgg25⟩
instance : TyU Try.prog 26 (.int .i64) := ⟨Try.underlying26⟩
instance : TyI Try.prog 26 false 1 8 ([.int .i64 0]) := ⟨⟨Try.t26, by kernel_rfl, by kernel_rfl, by kernel_rfl, by kernel_rfl, (fun _ => ⟨_, rfl, rfl⟩), by kernel_rfl, by kernel_rfl⟩, Try.isAgg26⟩
instance : TyI Try.prog 28 false 1 8 ([.nilFunc]) := ⟨⟨Try.t28, by kernel_rfl, by kernel_rfl, by kernel_rfl, by kernel_rfl, (fun _ => ⟨_, rfl, rfl⟩), by kernel_rfl, by kernel_rfl⟩, Try.isAgg28⟩
instance : TyI Try.prog 29 false 1 8 ([.nilFunc]) := ⟨⟨Try.t29, by kernel_rfl, by kernel_rfl, by kernel_rfl, by kernel_rfl, (fun _ => ⟨_, rfl, rfl⟩), by kernel_rfl, by kernel_rfl⟩, Try.isAgg29⟩
instance : TyI Try.prog 30 false 1 8 ([.nilFunc]) := ⟨⟨Try.t30, by kernel_rfl, by kernel_rfl, by kernel_rfl, by kernel_rfl, (fun _ => ⟨_, rfl, rfl⟩), by kernel_rfl, by kernel_rfl⟩, Try.isAgg30⟩
instance : TyU Try.prog 31 (.slice 3) := ⟨Try.underlying31⟩
instance : TyI Try.prog 31 false 1 24 ([.slice none 0 0]) := ⟨⟨Try.t31, by kernel_rfl, by kernel_rfl, by kernel_rfl, by kernel_rfl, (fun _ => ⟨_, rfl, rfl⟩), by kernel_rfl, by kernel_rfl⟩, Try.isAgg31⟩
instance : TyI Try.prog 32 false 1 8 ([.nilFunc]) := ⟨⟨Try.t32, by kernel_rfl, by kernel_rfl, by kernel_rfl, by kernel_rfl, (fun _ => ⟨_, rfl, rfl⟩), by kernel_rfl, by kernel_rfl⟩, Try.isAgg32⟩
instance : TyI Try.prog 33 false 1 8 ([.nilFunc]) := ⟨⟨Try.t33, by kernel_rfl, by kernel_rfl, by kernel_rfl, by kernel_rfl, (fun _ => ⟨_, rfl, rfl⟩), by kernel_rfl, by kernel_rfl⟩, Try.isAgg33⟩
instance : TyI Try.prog 34 false 1 8 ([.nilFunc]) := ⟨⟨Try.t34, by kernel_rfl, by kernel_rfl, by kernel_rfl, by kernel_rfl, (fun _ => ⟨_, rfl, rfl⟩), by kernel_rfl, by kernel_rfl⟩, Try.isAgg34⟩
instance : TyI Try.prog 35 false 1 8 ([.nilFunc]) := ⟨⟨Try.t35, by kernel_rfl, by kernel_rfl, by kernel_rfl, by kernel_rfl, (fun _ => ⟨_, rfl, rfl⟩), by kernel_rfl, by kernel_rfl⟩, Try.isAgg35⟩
instance : TyU Try.prog 36 (.slice 5) := ⟨Try.underlying36⟩
instance : TyI Try.prog 36 false 1 24 ([.slice none 0 0]) := ⟨⟨Try.t36, by kernel_rfl, by kernel_rfl, by kernel_rfl, by kernel_rfl, (fun _ => ⟨_, rfl, rfl⟩), by kernel_rfl, by kernel_rfl⟩, Try.isAgg36⟩
instance : TyI Try.prog 37 true 6 80 (.int .i64 0 :: (.int .i64 0 :: (.int .i64 0 :: (.int .u8 0 :: (.slice none 0 0 :: [.slice none 0 0]))))) := ⟨⟨Try.t37, by kernel_rfl, by kernel_rfl, by kernel_rfl, by kernel_rfl, (fun h => by cases h), by kernel_rfl, by kernel_rfl⟩, Try.isAgg37⟩
instance : TyS Try.prog 37 [(0, 1), (1, 1), (2, 1), (3, 1), (4, 1), (5, 1)] := ⟨_, Try.underlying37, fun w => by simp [Try.sizeOf3, Try.sizeOf5, Try.sizeOf36, Try.sizeOf23]⟩
instance : TyF Try.prog 37 0 0 3 := ⟨⟨_, _, Try.t3, Try.underlying37, rfl, rfl, rfl, by kernel_rfl, by intro h; cases h⟩⟩
instance : TyF Try.prog 37 1 1 3 := ⟨⟨_, _, Try.t3, Try.underlying37, rfl, rfl, rfl, by kernel_rfl, by intro h; cases h⟩⟩
instance : TyF Try.prog 37 2 2 3 := ⟨⟨_, _, Try.t3, Try.underlying37, rfl, rfl, rfl, by kernel_rfl, by intro h; cases h⟩⟩
instance : TyF Try.prog 37 3 3 5 := ⟨⟨_, _, Try.t5, Try.underlying37, rfl, rfl, rfl, by kernel_rfl, by intro h; cases h⟩⟩
instance : TyF Try.prog 37 4 4 36 := ⟨⟨_, _, Try.t36, Try.underlying37, rfl, rfl, rfl, by kernel_rfl, by intro h; cases h⟩⟩
instance : TyF Try.prog 37 5 5 23 := ⟨⟨_, _, Try.t23, Try.underlying37, rfl, rfl, rfl, by kernel_rfl, by intro h; cases h⟩⟩
instance : TyI Try.prog 38 true 6 80 (.int .i64 0 :: (.int .i64 0 :: (.int .i64 0 :: (.int .u8 0 :: (.slice none 0 0 :: [.slice none 0 0]))))) := ⟨⟨Try.t38, by kernel_rfl, by kernel_rfl, by kernel_rfl, by kernel_rfl, (fun h => by cases h), by kernel_rfl, by kernel_rfl⟩, Try.isAgg38⟩
instance : TyS Try.prog 38 [(0, 1), (1, 1), (2, 1), (3, 1), (4, 1), (5, 1)] := ⟨_, Try.underlying38, fun w => by simp [Try.sizeOf3, Try.sizeOf5, Try.sizeOf36, Try.sizeOf23]⟩
instance : TyF Try.prog 38 0 0 3 := ⟨⟨_, _, Try.t3, Try.underlying38, rfl, rfl, rfl, by kernel_rfl, by intro h; cases h⟩⟩
instance : TyF Try.prog 38 1 1 3 := ⟨⟨_, _, Try.t3, Try.underlying38, rfl, rfl, rfl, by kernel_rfl, by intro h; cases h⟩⟩
instance : TyF Try.prog 38 2 2 3 := ⟨⟨_, _, Try.t3, Try.underlying38, rfl, rfl, rfl, by kernel_rfl, by intro h; cases h⟩⟩
instance : TyF Try.prog 38 3 3 5 := ⟨⟨_, _, Try.t5, Try.underlying38, rfl, rfl, rfl, by kernel_rfl, by intro h; cases h⟩⟩
instance : TyF Try.prog 38 4 4 36 := ⟨⟨_, _, Try.t36, Try.underlying38, rfl, rfl, rfl, by kernel_rfl, by intro h; cases h⟩⟩
instance : TyF Try.prog 38 5 5 23 := ⟨⟨_, _, Try.t23, Try.underlying38, rfl, rfl, rfl, by kernel_rfl, by intro h; cases h⟩⟩
instance : TyI Try.prog 39 false 1 8 ([.nilFunc]) := ⟨⟨Try.t39, by kernel_rfl, by kernel_rfl, by kernel_rfl, by kernel_rfl, (fun _ => ⟨_, rfl, rfl⟩), by kernel_rfl, by kernel_rfl⟩, Try.isAgg39⟩
instance : TyI Try.prog 40 false 1 8 ([.nilFunc]) := ⟨⟨Try.t40, by kernel_rfl, by kernel_rfl, by kernel_rfl, by kernel_rfl, (fun _ => ⟨_, rfl, rfl⟩), by kernel_rfl, by kernel_rfl⟩, Try.isAgg40⟩
instance : TyI Try.prog 41 false 1 8 ([.nilFunc]) := ⟨⟨Try.t41, by kernel_rfl, by kernel_rfl, by kernel_rfl, by kernel_rfl, (fun _ => ⟨_, rfl, rfl⟩), by kernel_rfl, by kernel_rfl⟩, Try.isAgg41⟩
instance : TyI Try.prog 43 false 1 8 ([.nilFunc]) := ⟨⟨Try.t43, by kernel_rfl, by kernel_rfl, by kernel_rfl, by kernel_rfl, (fun _ => ⟨_, rfl, rfl⟩), by kernel_rfl, by kernel_rfl⟩, Try.isAgg43⟩
instance : TyI Try.prog 44 false 1 8 ([.nilFunc]) := ⟨⟨Try.t44, by kernel_rfl, by kernel_rfl, by kernel_rfl, by kernel_rfl, (fun _ => ⟨_, rfl, rfl⟩), by kernel_rfl, by kernel_rfl⟩, Try.isAgg44⟩
instance : TyU Try.prog 45 (.slice 78) := ⟨Try.underlying45⟩
instance : TyI Try.prog 45 false 1 24 ([.slice none 0 0]) := ⟨⟨Try.t45, by kernel_rfl, by kernel_rfl, by kernel_rfl, by kernel_rfl, (fun _ => ⟨_, rfl, rfl⟩), by kernel_rfl, by kernel_rfl⟩, Try.isAgg45⟩
instance : TyU Try.prog 46 (.slice 80) := ⟨Try.underlying46⟩
instance : TyI Try.prog 46 false 1 24 ([.slice none 0 0]) := ⟨⟨Try.t46, by kernel_rfl, by kernel_rfl, by kernel_rfl, by kernel_rfl, (fun _ => ⟨_, rfl, rfl⟩), by kernel_rfl, by kernel_rfl⟩, Try.isAgg46⟩
instance : TyI Try.prog 47 true 4 64 (.slice none 0 0 :: (.slice none 0 0 :: (.int .i64 0 :: [.int .i64 0]))) := ⟨⟨Try.t47, by kernel_rfl, by kernel_rfl, by kernel_rfl, by kernel_rfl, (fun h => by cases h), by kernel_rfl, by kernel_rfl⟩, Try.isAgg47⟩
instance : TyS Try.prog 47 [(0, 1), (1, 1), (2, 1), (3, 1)] := ⟨_, Try.underlying47, fun w => by simp [Try.sizeOf45, Try.sizeOf46, Try.sizeOf3]⟩
instance : TyF Try.prog 47 0 0 45 := ⟨⟨_, _, Try.t45, Try.underlying47, rfl, rfl, rfl, by kernel_rfl, by intro h; cases h⟩⟩
instance : TyF Try.prog 47 1 1 46 := ⟨⟨_, _, Try.t46, Try.underlying47, rfl, rfl, rfl, by kernel_rfl, by intro h; cases h⟩⟩
instance : TyF Try.prog 47 2 2 3 := ⟨⟨_, _, Try.t3, Try.underlying47, rfl, rfl, rfl, by kernel_rfl, by intro h; cases h⟩⟩
instance : TyF Try.prog 47 3 3 3 := ⟨⟨_, _, Try.t3, Try.underlying47, rfl, rfl, rfl, by kernel_rfl, by intro h; cases h⟩⟩
instance : TyI Try.prog 48 true 4 64 (.slice none 0 0 :: (.slice none 0 0 :: (.int .i64 0 :: [.int .i64 0]))) := ⟨⟨Try.t48, by kernel_rfl, by kernel_rfl, by kernel_rfl, by kernel_rfl, (fun h => by cases h), by kernel_rfl, by kernel_rfl⟩, Try.isAgg48⟩
instance : TyS Try.prog 48 [(0, 1), (1, 1), (2, 1), (3, 1)] := ⟨_, Try.underlying48, fun w => by simp [Try.sizeOf45, Try.sizeOf46, Try.sizeOf3]⟩
instance : TyF Try.prog 48 0 0 45 := ⟨⟨_, _, Try.t45, Try.underlying48, rfl, rfl, rfl, by kernel_rfl, by intro h; cases h⟩⟩
instance : TyF Try.prog 48 1 1 46 := ⟨⟨_, _, Try.t46, Try.underlying48, rfl, rfl, rfl, by kernel_rfl, by intro h; cases h⟩⟩
instance : TyF Try.prog 48 2 2 3 := ⟨⟨_, _, Try.t3, Try.underlying48, rfl, rfl, rfl, by kernel_rfl, by intro h; cases h⟩⟩
instance : TyF Try.prog 48 3 3 3 := ⟨⟨_, _, Try.t3, Try.underlying48, rfl, rfl, rfl, by kernel_rfl, by intro h; cases h⟩⟩
instance : TyU Try.prog 49 (.slice 25) := ⟨Try.underlying49⟩
instance : TyI Try.prog 49 false 1 24 ([.slice none 0 0]) := ⟨⟨Try.t49, by kernel_rfl, by kernel_rfl, by kernel_rfl, by kernel_rfl, (fun _ => ⟨_, rfl, rfl⟩), by kernel_rfl, by kernel_rfl⟩, Try.isAgg49⟩
instance : TyI Try.prog 50 false 1 8 ([.nilFunc]) := ⟨⟨Try.t50, by kernel_rfl, by kernel_rfl, by kernel_rfl, by kernel_rfl, (fun _ => ⟨_, rfl, rfl⟩), by kernel_rfl, by kernel_rfl⟩, Try.isAgg50⟩
instance : TyI Try.prog 51 false 1 8 ([.nilFunc]) := ⟨⟨Try.t51, by kernel_rfl, by kernel_rfl, by kernel_rfl, by kernel_rfl, (fun _ => ⟨_, rfl, rfl⟩), by kernel_rfl, by kernel_rfl⟩, Try.isAgg51⟩
instance : TyI Try.prog 52 false 1 8 ([.nilFunc]) := ⟨⟨Try.t52, by kernel_rfl, by kernel_rfl, by kernel_rfl, by kernel_rfl, (fun _ => ⟨_, rfl, rfl⟩), by kernel_rfl, by kernel_rfl⟩, Try.isAgg52⟩
instance : TyU Try.prog 53 (.int .u64) := ⟨Try.underlying53⟩
instance : TyI Try.prog 53 false 1 8 ([.int .u64 0]) := ⟨⟨Try.t53, by kernel_rfl, by kernel_rfl, by kernel_rfl, by kernel_rfl, (fun _ => ⟨_, rfl, rfl⟩), by kernel_rfl, by kernel_rfl⟩, Try.isAgg53⟩
instance : TyI Try.prog 54 false 1 8 ([.nilFunc]) := ⟨⟨Try.t54, by kernel_rfl, by kernel_rfl, by kernel_rfl, by kernel_rfl, (fun _ => ⟨_, rfl, rfl⟩), by kernel_rfl, by kernel_rfl⟩, Try.isAgg54⟩
instance : TyI Try.prog 55 true 6 80 (.int .i64 0 :: (.int .i64 0 :: (.int .i64 0 :: (.int .i64 0 :: (.slice none 0 0 :: [.slice none 0 0]))))) := ⟨⟨Try.t55, by kernel_rfl, by kernel_rfl, by kernel_rfl, by kernel_rfl, (fun h => by cases h), by kernel_rfl, by kernel_rfl⟩, Try.isAgg55⟩
instance : TyS Try.prog 55 [(0, 1), (1, 1), (2, 1), (3, 1), (4, 1), (5, 1)] := ⟨_, Try.underlying55, fun w => by simp [Try.sizeOf3, Try.sizeOf31, Try.sizeOf23]⟩
instance : TyF Try.prog 55 0 0 3 := ⟨⟨_, _, Try.t3, Try.underlying55, rfl, rfl, rfl, by kernel_rfl, by intro h; cases h⟩⟩
instance : TyF Try.prog 55 1 1 3 := ⟨⟨_, _, Try.t3, Try.underlying55, rfl, rfl, rfl, by kernel_rfl, by intro h; cases h⟩⟩
instance : TyF Try.prog 55 2 2 3 := ⟨⟨_, _, Try.t3, Try.underlying55, rfl, rfl, rfl, by kernel_rfl, by intro h; cases h⟩⟩
instance : TyF Try.prog 55 3 3 3 := ⟨⟨_, _, Try.t3, Try.underlying55, rfl, rfl, rfl, by kernel_rfl, by intro h; cases h⟩⟩
instance : TyF Try.prog 55 4 4 31 := ⟨⟨_, _, Try.t31, Try.underlying55, rfl, rfl, rfl, by kernel_rfl, by intro h; cases h⟩⟩
instance : TyF Try.prog 55 5 5 23 := ⟨⟨_, _, Try.t23, Try.underlying55, rfl, rfl, rfl, by kernel_rfl, by intro h; cases h⟩⟩
instance : TyI Try.prog 56 true 6 80 (.int .i64 0 :: (.int .i64 0 :: (.int .i64 0 :: (.int .i64 0 :: (.slice none 0 0 :: [.slice none 0 0]))))) := ⟨⟨Try.t56, by kernel_rfl, by kernel_rfl, by kernel_rfl, by kernel_rfl, (fun h => by cases h), by kernel_rfl, by kernel_rfl⟩, Try.isAgg56⟩
instance : TyS Try.prog 56 [(0, 1), (1, 1), (2, 1), (3, 1), (4, 1), (5, 1)] := ⟨_, Try.underlying56, fun w => by simp [Try.sizeOf3, Try.sizeOf31, Try.sizeOf23]⟩
instance : TyF Try.prog 56 0 0 3 := ⟨⟨_, _, Try.t3, Try.underlying56, rfl, rfl, rfl, by kernel_rfl, by intro h; cases h⟩⟩
instance : TyF Try.prog 56 1 1 3 := ⟨⟨_, _, Try.t3, Try.underlying56, rfl, rfl, rfl, by kernel_rfl, by intro h; cases h⟩⟩
instance : TyF Try.prog 56 2 2 3 := ⟨⟨_, _, Try.t3, Try.underlying56, rfl, rfl, rfl, by kernel_rfl, by intro h; cases h⟩⟩
instance : TyF Try.prog 56 3 3 3 := ⟨⟨_, _, Try.t3, Try.underlying56, rfl, rfl, rfl, by kernel_rfl, by intro h; cases h⟩⟩
instance : TyF Try.prog 56 4 4 31 := ⟨⟨_, _, Try.t31, Try.underlying56, rfl, rfl, rfl, by kernel_rfl, by intro h; cases h⟩⟩
instance : TyF Try.prog 56 5 5 23 := ⟨⟨_, _, Try.t23, Try.underlying56, rfl, rfl, rfl, by kernel_rfl, by intro h; cases h⟩⟩
instance : TyU Try.prog 57 (.pointer 62) := ⟨Try.underlying57⟩
instance : TyI Try.prog 57 false 1 8 ([.pointer none]) := ⟨⟨Try.t57, by kernel_rfl, by kernel_rfl, by kernel_rfl, by kernel_rfl, (fun _ => ⟨_, rfl, rfl⟩), by kernel_rfl, by kernel_rfl⟩, Try.isAgg57⟩
instance : TyI Try.prog 58 true 3 40 (.bool false :: (.int .i64 0 :: [.slice none 0 0])) := ⟨⟨Try.t58, by kernel_rfl, by kernel_rfl, by kernel_rfl, by kernel_rfl, (fun h => by cases h), by kernel_rfl, by kernel_rfl⟩, Try.isAgg58⟩
instance : TyS Try.prog 58 [(0, 1), (1, 1), (2, 1)] := ⟨_, Try.underlying58, fun w => by simp [Try.sizeOf4, Try.sizeOf3, Try.sizeOf31]⟩
instance : TyF Try.prog 58 0 0 4 := ⟨⟨_, _, Try.t4, Try.underlying58, rfl, rfl, rfl, by kernel_rfl, by intro h; cases h⟩⟩
instance : TyF Try.prog 58 1 1 3 := ⟨⟨_, _, Try.t3, Try.underlying58, rfl, rfl, rfl, by kernel_rfl, by intro h; cases h⟩⟩
instance : TyF Try.prog 58 2 2 31 := ⟨⟨_, _, Try.t31, Try.underlying58, rfl, rfl, rfl, by kernel_rfl, by intro h; cases h⟩⟩
instance : TyI Try.prog 59 true 3 40 (.bool false :: (.int .i64 0 :: [.slice none 0 0])) := ⟨⟨Try.t59, by kernel_rfl, by kernel_rfl, by kernel_rfl, by kernel_rfl, (fun h => by cases h), by kernel_rfl, by kernel_rfl⟩, Try.isAgg59⟩
instance : TyS Try.prog 59 [(0, 1), (1, 1), (2, 1)] := ⟨_, Try.underlying59, fun w => by simp [Try.sizeOf4, Try.sizeOf3, Try.sizeOf31]⟩
instance : TyF Try.prog 59 0 0 4 := ⟨⟨_, _, Try.t4, Try.underlying59, rfl, rfl, rfl, by kernel_rfl, by intro h; cases h⟩⟩
instance : TyF Try.prog 59 1 1 3 := ⟨⟨_, _, Try.t3, Try.underlying59, rfl, rfl, rfl, by kernel_rfl, by intro h; cases h⟩⟩
instance : TyF Try.prog 59 2 2 31 := ⟨⟨_, _, Try.t31, Try.underlying59, rfl, rfl, rfl, by kernel_rfl, by intro h; cases h⟩⟩
instance : TyU Try.prog 60 (.array 2 59) := ⟨Try.underlying60⟩
instance : TyI Try.prog 60 true 6 80 (.bool false :: (.int .i64 0 :: (.slice none 0 0 :: (.bool false :: (.int .i64 0 :: [.slice none 0 0]))))) := ⟨⟨Try.t60, by kernel_rfl, by kernel_rfl, by kernel_rfl, by kernel_rfl, (fun h => by cases h), by kernel_rfl, by kernel_rfl⟩, Try.isAgg60⟩
instance : TyI Try.prog 61 true 8 96 (.pointer none :: (.int .i64 0 :: (.bool false :: (.int .i64 0 :: (.slice none 0 0 :: (.bool false :: (.int .i64 0 :: [.slice none 0 0]))))))) := ⟨⟨Try.t61, by kernel_rfl, by kernel_rfl, by kernel_rfl, by kernel_rfl, (fun h => by cases h), by kernel_rfl, by kernel_rfl⟩, Try.isAgg61⟩
instance : TyS Try.prog 61 [(0, 1), (1, 1), (2, 6)] := ⟨_, Try.underlying61, fun w => by simp [Try.sizeOf25, Try.sizeOf3, Try.sizeOf60]⟩
instance : TyF Try.prog 61 0 0 25 := ⟨⟨_, _, Try.t25, Try.underlying61, rfl, rfl, rfl, by kernel_rfl, by intro h; cases h⟩⟩
instance : TyF Try.prog 61 1 1 3 := ⟨⟨_, _, Try.t3, Try.underlying61, rfl, rfl, rfl, by kernel_rfl, by intro h; cases h⟩⟩
instance : TyF Try.prog 61 2 2 60 := ⟨⟨_, _, Try.t60, Try.underlying61, rfl, rfl, rfl, by kernel_rfl, by intro h; cases h⟩⟩
instance : TyI Try.prog 62 true 8 96 (.pointer none :: (.int .i64 0 :: (.bool false :: (.int .i64 0 :: (.slice none 0 0 :: (.bool false :: (.int .i64 0 :: [.slice none 0 0]))))))) := ⟨⟨Try.t62, by kernel_rfl, by kernel_rfl, by kernel_rfl, by kernel_rfl, (fun h => by cases h), by kernel_rfl, by kernel_rfl⟩, Try.isAgg62⟩
instance : TyS Try.prog 62 [(0, 1), (1, 1), (2, 6)] := ⟨_, Try.underlying62, fun w => by simp [Try.sizeOf25, Try.sizeOf3, Try.sizeOf60]⟩
instance : TyF Try.prog 62 0 0 25 := ⟨⟨_, _, Try.t25, Try.underlying62, rfl, rfl, rfl, by kernel_rfl, by intro h; cases h⟩⟩
instance : TyF Try.prog 62 1 1 3 := ⟨⟨_, _, Try.t3, Try.underlying62, rfl, rfl, rfl, by kernel_rfl, by intro h; cases h⟩⟩
instance : TyF Try.prog 62 2 2 60 := ⟨⟨_, _, Try.t60, Try.underlying62, rfl, rfl, rfl, by kernel_rfl, by intro h; cases h⟩⟩
instance : TyU Try.prog 63 (.slice 57) := ⟨Try.underlying63⟩
instance : TyI Try.prog 63 false 1 24 ([.slice none 0 0]) := ⟨⟨Try.t63, by kernel_rfl, by kernel_rfl, by kernel_rfl, by kernel_rfl, (fun _ => ⟨_, rfl, rfl⟩), by kernel_rfl, by kernel_rfl⟩, Try.isAgg63⟩
instance : TyI Try.prog 65 false 1 8 ([.nilFunc]) := ⟨⟨Try.t65, by kernel_rfl, by kernel_rfl, by kernel_rfl, by kernel_rfl, (fun _ => ⟨_, rfl, rfl⟩), by kernel_rfl, by kernel_rfl⟩, Try.isAgg65⟩
instance : TyI Try.prog 66 false 1 8 ([.nilFunc]) := ⟨⟨Try.t66, by kernel_rfl, by kernel_rfl, by kernel_rfl, by kernel_rfl, (fun _ => ⟨_, rfl, rfl⟩), by kernel_rfl, by kernel_rfl⟩, Try.isAgg66⟩
instance : TyI Try.prog 68 false 1 8 ([.nilFunc]) := ⟨⟨Try.t68, by kernel_rfl, by kernel_rfl, by kernel_rfl, by kernel_rfl, (fun _ => ⟨_, rfl, rfl⟩), by kernel_rfl, by kernel_rfl⟩, Try.isAgg68⟩
instance : TyI Try.prog 69 false 1 8 ([.nilFunc]) := ⟨⟨Try.t69, by kernel_rfl, by kernel_rfl, by kernel_rfl, by kernel_rfl, (fun _ => ⟨_, rfl, rfl⟩), by kernel_rfl, by kernel_rfl⟩, Try.isAgg69⟩
instance : TyU Try.prog 70 (.slice 31) := ⟨Try.underlying70⟩
instance : TyI Try.prog 70 false 1 24 ([.slice none 0 0]) := ⟨⟨Try.t70, by kernel_rfl, by kernel_rfl, by kernel_rfl, by kernel_rfl, (fun _ => ⟨_, rfl, rfl⟩), by kernel_rfl, by kernel_rfl⟩, Try.isAgg70⟩
instance : TyI Try.prog 72 false 1 8 ([.nilFunc]) := ⟨⟨Try.t72, by kernel_rfl, by kernel_rfl, by kernel_rfl, by kernel_rfl, (fun _ => ⟨_, rfl, rfl⟩), by kernel_rfl, by kernel_rfl⟩, Try.isAgg72⟩
instance : TyI Try.prog 73 false 1 8 ([.nilFunc]) := ⟨⟨Try.t73, by kernel_rfl, by kernel_rfl, by kernel_rfl, by kernel_rfl, (fun _ => ⟨_, rfl, rfl⟩), by kernel_rfl, by kernel_rfl⟩, Try.isAgg73⟩
instance : TyI Try.prog 74 false 1 8 ([.nilFunc]) := ⟨⟨Try.t74, by kernel_rfl, by kernel_rfl, by kernel_rfl, by kernel_rfl, (fun _ => ⟨_, rfl, rfl⟩), by kernel_rfl, by kernel_rfl⟩, Try.isAgg74⟩
instance : TyI Try.prog 75 false 1 8 ([.nilFunc]) := ⟨⟨Try.t75, by kernel_rfl, by kernel_rfl, by kernel_rfl, by kernel_rfl, (fun _ => ⟨_, rfl, rfl⟩), by kernel_rfl, by kernel_rfl⟩, Try.isAgg75⟩
instance : TyI Try.prog 76 false 1 8 ([.nilFunc]) := ⟨⟨Try.t76, by kernel_rfl, by kernel_rfl, by kernel_rfl, by kernel_rfl, (fun _ => ⟨_, rfl, rfl⟩), by kernel_rfl, by kernel_rfl⟩, Try.isAgg76⟩
instance : TyI Try.prog 77 false 1 8 ([.nilFunc]) := ⟨⟨Try.t77, by kernel_rfl, by kernel_rfl, by kernel_rfl, by kernel_rfl, (fun _ => ⟨_, rfl, rfl⟩), by kernel_rfl, by kernel_rfl⟩, Try.isAgg77⟩
instance : TyU Try.prog 78 (.array 256 5) := ⟨Try.underlying78⟩
instance : TyI Try.prog 78 true 256 256 (reps 256 (.int .u8 0)) := ⟨⟨Try.t78, by kernel_rfl, by kernel_rfl, by kernel_rfl, by kernel_rfl, (fun h => by cases h), by kernel_rfl, by kernel_rfl⟩, Try.isAgg78⟩
instance : TyI Try.prog 79 true 257 264 (.int .i64 0 :: reps 256 (.int .u8 0)) := ⟨⟨Try.t79, by kernel_rfl, by kernel_rfl, by kernel_rfl, by kernel_rfl, (fun h => by cases h), by kernel_rfl, by kernel_rfl⟩, Try.isAgg79⟩
instance : TyS Try.prog 79 [(0, 1), (1, 256)] := ⟨_, Try.underlying79, fun w => by simp [Try.sizeOf3, Try.sizeOf78]⟩
instance : TyF Try.prog 79 0 0 3 := ⟨⟨_, _, Try.t3, Try.underlying79, rfl, rfl, rfl, by kernel_rfl, by intro h; cases h⟩⟩
instance : TyF Try.prog 79 1 1 78 := ⟨⟨_, _, Try.t78, Try.underlying79, rfl, rfl, rfl, by kernel_rfl, by intro h; cases h⟩⟩
instance : TyI Try.prog 80 true 257 264 (.int .i64 0 :: reps 256 (.int .u8 0)) := ⟨⟨Try.t80, by kernel_rfl, by kernel_rfl, by kernel_rfl, by kernel_rfl, (fun h => by cases h), by kernel_rfl, by kernel_rfl⟩, Try.isAgg80⟩
instance : TyS Try.prog 80 [(0, 1), (1, 256)] := ⟨_, Try.underlying80, fun w => by simp [Try.sizeOf3, Try.sizeOf78]⟩
instance : TyF Try.prog 80 0 0 3 := ⟨⟨_, _, Try.t3, Try.underlying80, rfl, rfl, rfl, by kernel_rfl, by intro h; cases h⟩⟩
instance : TyF Try.prog 80 1 1 78 := ⟨⟨_, _, Try.t78, Try.underlying80, rfl, rfl, rfl, by kernel_rfl, by intro h; cases h⟩⟩
instance : TyI Try.prog 81 false 1 8 ([.nilFunc]) := ⟨⟨Try.t81, by kernel_rfl, by kernel_rfl, by kernel_rfl, by kernel_rfl, (fun _ => ⟨_, rfl, rfl⟩), by kernel_rfl, by kernel_rfl⟩, Try.isAgg81⟩
instance : TyI Try.prog 82 false 1 8 ([.nilFunc]) := ⟨⟨Try.t82, by kernel_rfl, by kernel_rfl, by kernel_rfl, by kernel_rfl, (fun _ => ⟨_, rfl, rfl⟩), by kernel_rfl, by kernel_rfl⟩, Try.isAgg82⟩
instance : TyI Try.prog 83 false 1 8 ([.nilFunc]) := ⟨⟨Try.t83, by kernel_rfl, by kernel_rfl, by kernel_rfl, by kernel_rfl, (fun _ => ⟨_, rfl, rfl⟩), by kernel_rfl, by kernel_rfl⟩, Try.isAgg83⟩
instance : TyI Try.prog 84 false 1 8 ([.nilFunc]) := ⟨⟨Try.t84, by kernel_rfl, by kernel_rfl, by kernel_rfl, by kernel_rfl, (fun _ => ⟨_, rfl, rfl⟩), by kernel_rfl, by kernel_rfl⟩, Try.isAgg84⟩
instance : TyI Try.prog 85 false 1 8 ([.nilFunc]) := ⟨⟨Try.t85, by kernel_rfl, by kernel_rfl, by kernel_rfl, by kernel_rfl, (fun _ => ⟨_, rfl, rfl⟩), by kernel_rfl, by kernel_rfl⟩, Try.isAgg85⟩
instance : TyI Try.prog 86 false 1 8 ([.nilFunc]) := ⟨⟨Try.t86, by kernel_rfl, by kernel_rfl, by kernel_rfl, by kernel_rfl, (fun _ => ⟨_, rfl, rfl⟩), by kernel_rfl, by kernel_rfl⟩, Try.isAgg86⟩
instance : TyI Try.prog 87 false 1 8 ([.nilFunc]) := ⟨⟨Try.t87, by kernel_rfl, by kernel_rfl, by kernel_rfl, by kernel_rfl, (fun _ => ⟨_, rfl, rfl⟩), by kernel_rfl, by kernel_rfl⟩, Try.isAgg87⟩
instance : TyI Try.prog 88 false 1 8 ([.nilFunc]) := ⟨⟨Try.t88, by kernel_rfl, by kernel_rfl, by kernel_rfl, by kernel_rfl, (fun _ => ⟨_, rfl, rfl⟩), by kernel_rfl, by kernel_rfl⟩, Try.isAgg88⟩
instance : TyU Try.prog 89 (.int .u32) := ⟨Try.underlying89⟩
instance : TyI Try.prog 89 false 1 4 ([.int .u32 0]) := ⟨⟨Try.t89, by kernel_rfl, by kernel_rfl, by kernel_rfl, by kernel_rfl, (fun _ => ⟨_, rfl, rfl⟩), by kernel_rfl, by kernel_rfl⟩, Try.isAgg89⟩
instance : TyI Try.prog 90 false 1 8 ([.nilFunc]) := ⟨⟨Try.t90, by kernel_rfl, by kernel_rfl, by kernel_rfl, by kernel_rfl, (fun _ => ⟨_, rfl, rfl⟩), by kernel_rfl, by kernel_rfl⟩, Try.isAgg90⟩
instance : TyI Try.prog 91 false 1 8 ([.nilFunc]) := ⟨⟨Try.t91, by kernel_rfl, by kernel_rfl, by kernel_rfl, by kernel_rfl, (fun _ => ⟨_, rfl, rfl⟩), by kernel_rfl, by kernel_rfl⟩, Try.isAgg91⟩
instance : TyI Try.prog 92 false 1 8 ([.nilFunc]) := ⟨⟨Try.t92, by kernel_rfl, by kernel_rfl, by kernel_rfl, by kernel_rfl, (fun _ => ⟨_, rfl, rfl⟩), by kernel_rfl, by kernel_rfl⟩, Try.isAgg92⟩
instance : TyU Try.prog 93 (.int .u64) := ⟨Try.underlying93⟩
instance : TyI Try.prog 93 false 1 8 ([.int .u64 0]) := ⟨⟨Try.t93, by kernel_rfl, by kernel_rfl, by kernel_rfl, by kernel_rfl, (fun _ => ⟨_, rfl, rfl⟩), by kernel_rfl, by kernel_rfl⟩, Try.isAgg93⟩
instance : TyI Try.prog 94 false 1 8 ([.nilFunc]) := ⟨⟨Try.t94, by kernel_rfl, by kernel_rfl, by kernel_rfl, by kernel_rfl, (fun _ => ⟨_, rfl, rfl⟩), by kernel_rfl, by kernel_rfl⟩, Try.isAgg94⟩
instance : TyI Try.prog 95 false 1 8 ([.nilFunc]) := ⟨⟨Try.t95, by kernel_rfl, by kernel_rfl, by kernel_rfl, by kernel_rfl, (fun _ => ⟨_, rfl, rfl⟩), by kernel_rfl, by kernel_rfl⟩, Try.isAgg95⟩
instance : TyI Try.prog 96 true 4 40 (.pointer none :: (.pointer none :: (.pointer none :: [.string ⟨#[]⟩]))) := ⟨⟨Try.t96, by kernel_rfl, by kernel_rfl, by kernel_rfl, by kernel_rfl, (fun h => by cases h), by kernel_rfl, by kernel_rfl⟩, Try.isAgg96⟩
instance : TyS Try.prog 96 [(0, 1), (1, 1), (2, 1), (3, 1)] := ⟨_, Try.underlying96, fun w => by simp [Try.sizeOf17, Try.sizeOf9]⟩
instance : TyF Try.prog 96 0 0 17 := ⟨⟨_, _, Try.t17, Try.underlying96, rfl, rfl, rfl, by kernel_rfl, by intro h; cases h⟩⟩
instance : TyF Try.prog 96 1 1 17 := ⟨⟨_, _, Try.t17, Try.underlying96, rfl, rfl, rfl, by kernel_rfl, by intro h; cases h⟩⟩
instance : TyF Try.prog 96 2 2 17 := ⟨⟨_, _, Try.t17, Try.underlying96, rfl, rfl, rfl, by kernel_rfl, by intro h; cases h⟩⟩
instance : TyF Try.prog 96 3 3 9 := ⟨⟨_, _, Try.t9, Try.underlying96, rfl, rfl, rfl, by kernel_rfl, by intro h; cases h⟩⟩
instance : TyI Try.prog 97 true 4 40 (.pointer none :: (.pointer none :: (.pointer none :: [.string ⟨#[]⟩]))) := ⟨⟨Try.t97, by kernel_rfl, by kernel_rfl, by kernel_rfl, by kernel_rfl, (fun h => by cases h), by kernel_rfl, by kernel_rfl⟩, Try.isAgg97⟩
instance : TyS Try.prog 97 [(0, 1), (1, 1), (2, 1), (3, 1)] := ⟨_, Try.underlying97, fun w => by simp [Try.sizeOf17, Try.sizeOf9]⟩
instance : TyF Try.prog 97 0 0 17 := ⟨⟨_, _, Try.t17, Try.underlying97, rfl, rfl, rfl, by kernel_rfl, by intro h; cases h⟩⟩
instance : TyF Try.prog 97 1 1 17 := ⟨⟨_, _, Try.t17, Try.underlying97, rfl, rfl, rfl, by kernel_rfl, by intro h; cases h⟩⟩
instance : TyF Try.prog 97 2 2 17 := ⟨⟨_, _, Try.t17, Try.underlying97, rfl, rfl, rfl, by kernel_rfl, by intro h; cases h⟩⟩
instance : TyF Try.prog 97 3 3 9 := ⟨⟨_, _, Try.t9, Try.underlying97, rfl, rfl, rfl, by kernel_rfl, by intro h; cases h⟩⟩
instance : TyU Try.prog 98 (.array 0 16) := ⟨Try.underlying98⟩
instance : TyU Try.prog 101 (.int .u8) := ⟨Try.underlying101⟩
instance : TyI Try.prog 101 false 1 1 ([.int .u8 0]) := ⟨⟨Try.t101, by kernel_rfl, by kernel_rfl, by kernel_rfl, by kernel_rfl, (fun _ => ⟨_, rfl, rfl⟩), by kernel_rfl, by kernel_rfl⟩, Try.isAgg101⟩
instance : TyU Try.prog 102 (.int .u8) := ⟨Try.underlying102⟩
instance : TyI Try.prog 102 false 1 1 ([.int .u8 0]) := ⟨⟨Try.t102, by kernel_rfl, by kernel_rfl, by kernel_rfl, by kernel_rfl, (fun _ => ⟨_, rfl, rfl⟩), by kernel_rfl, by kernel_rfl⟩, Try.isAgg102⟩
instance : TyI Try.prog 103 false 1 8 ([.nilFunc]) := ⟨⟨Try.t103, by kernel_rfl, by kernel_rfl, by kernel_rfl, by kernel_rfl, (fun _ => ⟨_, rfl, rfl⟩), by kernel_rfl, by kernel_rfl⟩, Try.isAgg103⟩
instance : TyU Try.prog 104 (.pointer 5) := ⟨Try.underlying104⟩
instance : TyI Try.prog 104 false 1 8 ([.pointer none]) := ⟨⟨Try.t104, by kernel_rfl, by kernel_rfl, by kernel_rfl, by kernel_rfl, (fun _ => ⟨_, rfl, rfl⟩), by kernel_rfl, by kernel_rfl⟩, Try.isAgg104⟩
instance : TyU Try.prog 105 (.int .i32) := ⟨Try.underlying105⟩
instance : TyI Try.prog 105 false 1 4 ([.int .i32 0]) := ⟨⟨Try.t105, by kernel_rfl, by kernel_rfl, by kernel_rfl, by kernel_rfl, (fun _ => ⟨_, rfl, rfl⟩), by kernel_rfl, by kernel_rfl⟩, Try.isAgg105⟩
instance : TyU Try.prog 106 (.int .i32) := ⟨Try.underlying106⟩
instance : TyI Try.prog 106 false 1 4 ([.int .i32 0]) := ⟨⟨Try.t106, by kernel_rfl, by kernel_rfl, by kernel_rfl, by kernel_rfl, (fun _ => ⟨_, rfl, rfl⟩), by kernel_rfl, by kernel_rfl⟩, Try.isAgg106⟩
instance : TyI Try.prog 107 true 11 48 (.int .u64 0 :: (.int .u64 0 :: (.int .u32 0 :: (.int .u8 0 :: (.int .u8 0 :: (.int .u8 0 :: (.int .u8 0 :: (.nilFunc :: (.pointer none :: (.int .i32 0 :: [.int .i32 0])))))))))) := ⟨⟨Try.t107, by kernel_rfl, by kernel_rfl, by kernel_rfl, by kernel_rfl, (fun h => by cases h), by kernel_rfl, by kernel_rfl⟩, Try.isAgg107⟩
instance : TyS Try.prog 107 [(0, 1), (1, 1), (2, 1), (3, 1), (4, 1), (5, 1), (6, 1), (7, 1), (8, 1), (9, 1), (10, 1)] := ⟨_, Try.underlying107, fun w => by simp [Try.sizeOf12, Try.sizeOf89, Try.sizeOf101, Try.sizeOf5, Try.sizeOf102, Try.sizeOf103, Try.sizeOf104, Try.sizeOf105, Try.sizeOf106]⟩
instance : TyF Try.prog 107 0 0 12 := ⟨⟨_, _, Try.t12, Try.underlying107, rfl, rfl, rfl, by kernel_rfl, by intro h; cases h⟩⟩
instance : TyF Try.prog 107 1 1 12 := ⟨⟨_, _, Try.t12, Try.underlying107, rfl, rfl, rfl, by kernel_rfl, by intro h; cases h⟩⟩
instance : TyF Try.prog 107 2 2 89 := ⟨⟨_, _, Try.t89, Try.underlying107, rfl, rfl, rfl, by kernel_rfl, by intro h; cases h⟩⟩
instance : TyF Try.prog 107 3 3 101 := ⟨⟨_, _, Try.t101, Try.underlying107, rfl, rfl, rfl, by kernel_rfl, by intro h; cases h⟩⟩
instance : TyF Try.prog 107 4 4 5 := ⟨⟨_, _, Try.t5, Try.underlying107, rfl, rfl, rfl, by kernel_rfl, by intro h; cases h⟩⟩
instance : TyF Try.prog 107 5 5 5 := ⟨⟨_, _, Try.t5, Try.underlying107, rfl, rfl, rfl, by kernel_rfl, by intro h; cases h⟩⟩
instance : TyF Try.prog 107 6 6 102 := ⟨⟨_, _, Try.t102, Try.underlying107, rfl, rfl, rfl, by kernel_rfl, by intro h; cases h⟩⟩
instance : TyF Try.prog 107 7 7 103 := ⟨⟨_, _, Try.t103, Try.underlying107, rfl, rfl, rfl, by kernel_rfl, by intro h; cases h⟩⟩
instance : TyF Try.prog 107 8 8 104 := ⟨⟨_, _, Try.t104, Try.underlying107, rfl, rfl, rfl, by kernel_rfl, by intro h; cases h⟩⟩
instance : TyF Try.prog 107 9 9 105 := ⟨⟨_, _, Try.t105, Try.underlying107, rfl, rfl, rfl, by kernel_rfl, by intro h; cases h⟩⟩
instance : TyF Try.prog 107 10 10 106 := ⟨⟨_, _, Try.t106, Try.underlying107, rfl, rfl, rfl, by kernel_rfl, by intro h; cases h⟩⟩
instance : TyI Try.prog 108 true 11 48 (.int .u64 0 :: (.int .u64 0 :: (.int .u32 0 :: (.int .u8 0 :: (.int .u8 0 :: (.int .u8 0 :: (.int .u8 0 :: (.nilFunc :: (.pointer none :: (.int .i32 0 :: [.int .i32 0])))))))))) := ⟨⟨Try.t108, by kernel_rfl, by kernel_rfl, by kernel_rfl, by kernel_rfl, (fun h => by cases h), by kernel_rfl, by kernel_rfl⟩, Try.isAgg108⟩
instance : TyS Try.prog 108 [(0, 1), (1, 1), (2, 1), (3, 1), (4, 1), (5, 1), (6, 1), (7, 1), (8, 1), (9, 1), (10, 1)] := ⟨_, Try.underlying108, fun w => by simp [Try.sizeOf12, Try.sizeOf89, Try.sizeOf101, Try.sizeOf5, Try.sizeOf102, Try.sizeOf103, Try.sizeOf104, Try.sizeOf105, Try.sizeOf106]⟩
instance : TyF Try.prog 108 0 0 12 := ⟨⟨_, _, Try.t12, Try.underlying108, rfl, rfl, rfl, by kernel_rfl, by intro h; cases h⟩⟩
instance : TyF Try.prog 108 1 1 12 := ⟨⟨_, _, Try.t12, Try.underlying108, rfl, rfl, rfl, by kernel_rfl, by intro h; cases h⟩⟩
instance : TyF Try.prog 108 2 2 89 := ⟨⟨_, _, Try.t89, Try.underlying108, rfl, rfl, rfl, by kernel_rfl, by intro h; cases h⟩⟩
instance : TyF Try.prog 108 3 3 101 := ⟨⟨_, _, Try.t101, Try.underlying108, rfl, rfl, rfl, by kernel_rfl, by intro h; cases h⟩⟩
instance : TyF Try.prog 108 4 4 5 := ⟨⟨_, _, Try.t5, Try.underlying108, rfl, rfl, rfl, by kernel_rfl, by intro h; cases h⟩⟩
instance : TyF Try.prog 108 5 5 5 := ⟨⟨_, _, Try.t5, Try.underlying108, rfl, rfl, rfl, by kernel_rfl, by intro h; cases h⟩⟩
instance : TyF Try.prog 108 6 6 102 := ⟨⟨_, _, Try.t102, Try.underlying108, rfl, rfl, rfl, by kernel_rfl, by intro h; cases h⟩⟩
instance : TyF Try.prog 108 7 7 103 := ⟨⟨_, _, Try.t103, Try.underlying108, rfl, rfl, rfl, by kernel_rfl, by intro h; cases h⟩⟩
instance : TyF Try.prog 108 8 8 104 := ⟨⟨_, _, Try.t104, Try.underlying108, rfl, rfl, rfl, by kernel_rfl, by intro h; cases h⟩⟩
instance : TyF Try.prog 108 9 9 105 := ⟨⟨_, _, Try.t105, Try.underlying108, rfl, rfl, rfl, by kernel_rfl, by intro h; cases h⟩⟩
instance : TyF Try.prog 108 10 10 106 := ⟨⟨_, _, Try.t106, Try.underlying108, rfl, rfl, rfl, by kernel_rfl, by intro h; cases h⟩⟩
instance : TyI Try.prog 109 false 1 8 ([.pointer none]) := ⟨⟨Try.t109, by kernel_rfl, by kernel_rfl, by kernel_rfl, by kernel_rfl, (fun _ => ⟨_, rfl, rfl⟩), by kernel_rfl, by kernel_rfl⟩, Try.isAgg109⟩
def tab : Tab := ⟨[(2, (.int .i64)), (3, (.int .i64)), (4, .bool), (5, (.int .u8)), (6, (.int .u8)), (9, .string), (10, .string), (11, .string), (12, (.int .u64)), (15, (.pointer 97)), (16, (.pointer 100)), (17, (.pointer 108)), (21, (.int .i32)), (22, (.slice 38)), (23, (.slice 4)), (25, (.pointer 48)), (26, (.int .i64)), (31, (.slice 3)), (36, (.slice 5)), (45, (.slice 78)), (46, (.slice 80)), (49, (.slice 25)), (53, (.int .u64)), (57, (.pointer 62)), (60, (.array 2 59)), (63, (.slice 57)), (70, (.slice 31)), (78, (.array 256 5)), (89, (.int .u32)), (93, (.int .u64)), (98, (.array 0 16)), (101, (.int .u8)), (102, (.int .u8)), (104, (.pointer 5)), (105, (.int .i32)), (106, (.int .i32))],
  [(1, 1), (2, 1), (3, 1), (4, 1), (5, 1), (6, 1), (7, 4), (8, 4), (9, 1), (10, 1), (11, 1), (12, 1), (13, 2), (14, 2), (15, 1), (16, 1), (17, 1), (18, 1), (19, 1), (20, 1), (21, 1), (22, 1), (23, 1), (24, 1), (25, 1), (26, 1), (28, 1), (29, 1), (30, 1), (31, 1), (32, 1), (33, 1), (34, 1), (35, 1), (36, 1), (37, 6), (38, 6), (39, 1), (40, 1), (41, 1), (43, 1), (44, 1), (45, 1), (46, 1), (47, 4), (48, 4), (49, 1), (50, 1), (51, 1), (52, 1), (53, 1), (54, 1), (55, 6), (56, 6), (57, 1), (58, 3), (59, 3), (60, 6), (61, 8), (62, 8), (63, 1), (65, 1), (66, 1), (68, 1), (69, 1), (70, 1), (72, 1), (73, 1), (74, 1), (75, 1), (76, 1), (77, 1), (78, 256), (79, 257), (80, 257), (81, 1), (82, 1), (83, 1), (84, 1), (85, 1), (86, 1), (87, 1), (88, 1), (89, 1), (90, 1), (91, 1), (92, 1), (93, 1), (94, 1), (95, 1), (96, 4), (97, 4), (101, 1), (102, 1), (103, 1), (104, 1), (105, 1), (106, 1), (107, 11), (108, 11), (109, 1)],
  [(7, 0, 0), (7, 1, 1), (7, 2, 2), (7, 3, 3), (8, 0, 0), (8, 1, 1), (8, 2, 2), (8, 3, 3), (13, 0, 0), (13, 1, 1), (14, 0, 0), (14, 1, 1), (18, 0, 0), (19, 0, 0), (37, 0, 0), (37, 1, 1), (37, 2, 2), (37, 3, 3), (37, 4, 4), (37, 5, 5), (38, 0, 0), (38, 1, 1), (38, 2, 2), (38, 3, 3), (38, 4, 4), (38, 5, 5), (47, 0, 0), (47, 1, 1), (47, 2, 2), (47, 3, 3), (48, 0, 0), (48, 1, 1), (48, 2, 2), (48, 3, 3), (55, 0, 0), (55, 1, 1), (55, 2, 2), (55, 3, 3), (55, 4, 4), (55, 5, 5), (56, 0, 0), (56, 1, 1), (56, 2, 2), (56, 3, 3), (56, 4, 4), (56, 5, 5), (58, 0, 0), (58, 1, 1), (58, 2, 2), (59, 0, 0), (59, 1, 1), (59, 2, 2), (61, 0, 0), (61, 1, 1), (61, 2, 2), (62, 0, 0), (62, 1, 1), (62, 2, 2), (79, 0, 0), (79, 1, 1), (80, 0, 0), (80, 1, 1), (96, 0, 0), (96, 1, 1), (96, 2, 2), (96, 3, 3), (97, 0, 0), (97, 1, 1), (97, 2, 2), (97, 3, 3), (107, 0, 0), (107, 1, 1), (107, 2, 2), (107, 3, 3), (107, 4, 4), (107, 5, 5), (107, 6, 6), (107, 7, 7), (107, 8, 8), (107, 9, 9), (107, 10, 10), (108, 0, 0), (108, 1, 1), (108, 2, 2), (108, 3, 3), (108, 4, 4), (108, 5, 5), (108, 6, 6), (108, 7, 7), (108, 8, 8), (108, 9, 9), (108, 10, 10)]⟩
instance : TabOk Try.prog tab where
  u := by
    intro x hx
    simp only [tab, List.mem_cons, List.not_mem_nil, or_false] at hx
    rcases hx with rfl | rfl | rfl | rfl | rfl | rfl | rfl | rfl | rfl | rfl | rfl | rfl | rfl | rfl | rfl | rfl | rfl | rfl | rfl | rfl | rfl | rfl | rfl | rfl | rfl | rfl | rfl | rfl | rfl | rfl | rfl | rfl | rfl | rfl | rfl | rfl
    · exact Try.underlying2
    · exact Try.underlying3
    · exact Try.underlying4
    · exact Try.underlying5
    · exact Try.underlying6
    · exact Try.underlying9
    · exact Try.underlying10
    · exact Try.underlying11
    · exact Try.underlying12
    · exact Try.underlying15
    · exact Try.underlying16
    · exact Try.underlying17
    · exact Try.underlying21
    · exact Try.underlying22
    · exact Try.underlying23
    · exact Try.underlying25
    · exact Try.underlying26
    · exact Try.underlying31
    · exact Try.underlying36
    · exact Try.underlying45
    · exact Try.underlying46
    · exact Try.underlying49
    · exact Try.underlying53
    · exact Try.underlying57
    · exact Try.underlying60
    · exact Try.underlying63
    · exact Try.underlying70
    · exact Try.underlying78
    · exact Try.underlying89
    · exact Try.underlying93
    · exact Try.underlying98
    · exact Try.underlying101
    · exact Try.underlying102
    · exact Try.underlying104
    · exact Try.underlying105
    · exact Try.underlying106
  sz := by
    intro x hx
    simp only [tab, List.mem_cons, List.not_mem_nil, or_false] at hx
    rcases hx with rfl | rfl | rfl | rfl | rfl | rfl | rfl | rfl | rfl | rfl | rfl | rfl | rfl | rfl | rfl | rfl | rfl | rfl | rfl | rfl | rfl | rfl | rfl | rfl | rfl | rfl | rfl | rfl | rfl | rfl | rfl | rfl | rfl | rfl | rfl | rfl | rfl | rfl | rfl | rfl | rfl | rfl | rfl | rfl | rfl | rfl | rfl | rfl | rfl | rfl | rfl | rfl | rfl | rfl | rfl | rfl | rfl | rfl | rfl | rfl | rfl | rfl | rfl | rfl | rfl | rfl | rfl | rfl | rfl | rfl | rfl | rfl | rfl | rfl | rfl | rfl | rfl | rfl | rfl | rfl | rfl | rfl | rfl | rfl | rfl | rfl | rfl | rfl | rfl | rfl | rfl | rfl | rfl | rfl | rfl | rfl | rfl | rfl | rfl | rfl | rfl
    · exact Try.sizeOf1
    · exact Try.sizeOf2
    · exact Try.sizeOf3
    · exact Try.sizeOf4
    · exact Try.sizeOf5
    · exact Try.sizeOf6
    · exact Try.sizeOf7
    · exact Try.sizeOf8
    · exact Try.sizeOf9
    · exact Try.sizeOf10
    · exact Try.sizeOf11
    · exact Try.sizeOf12
    · exact Try.sizeOf13
    · exact Try.sizeOf14
    · exact Try.sizeOf15
    · exact Try.sizeOf16
    · exact Try.sizeOf17
    · exact Try.sizeOf18
    · exact Try.sizeOf19
    · exact Try.sizeOf20
    · exact Try.sizeOf21
    · exact Try.sizeOf22
    · exact Try.sizeOf23
    · exact Try.sizeOf24
    · exact Try.sizeOf25
    · exact Try.sizeOf26
    · exact Try.sizeOf28
    · exact Try.sizeOf29
    · exact Try.sizeOf30
    · exact Try.sizeOf31
    · exact Try.sizeOf32
    · exact Try.sizeOf33
    · exact Try.sizeOf34
    · exact Try.sizeOf35
    · exact Try.sizeOf36
    · exact Try.sizeOf37
    · exact Try.sizeOf38
    · exact Try.sizeOf39
    · exact Try.sizeOf40
    · exact Try.sizeOf41
    · exact Try.sizeOf43
    · exact Try.sizeOf44
    · exact Try.sizeOf45
    · exact Try.sizeOf46
    · exact Try.sizeOf47
    · exact Try.sizeOf48
    · exact Try.sizeOf49
    · exact Try.sizeOf50
    · exact Try.sizeOf51
    · exact Try.sizeOf52
    · exact Try.sizeOf53
    · exact Try.sizeOf54
    · exact Try.sizeOf55
    · exact Try.sizeOf56
    · exact Try.sizeOf57
    · exact Try.sizeOf58
    · exact Try.sizeOf59
    · exact Try.sizeOf60
    · exact Try.sizeOf61
    · exact Try.sizeOf62
    · exact Try.sizeOf63
    · exact Try.sizeOf65
    · exact Try.sizeOf66
    · exact Try.sizeOf68
    · exact Try.sizeOf69
    · exact Try.sizeOf70
    · exact Try.sizeOf72
    · exact Try.sizeOf73
    · exact Try.sizeOf74
    · exact Try.sizeOf75
    · exact Try.sizeOf76
    · exact Try.sizeOf77
    · exact Try.sizeOf78
    · exact Try.sizeOf79
    · exact Try.sizeOf80
    · exact Try.sizeOf81
    · exact Try.sizeOf82
    · exact Try.sizeOf83
    · exact Try.sizeOf84
    · exact Try.sizeOf85
    · exact Try.sizeOf86
    · exact Try.sizeOf87
    · exact Try.sizeOf88
    · exact Try.sizeOf89
    · exact Try.sizeOf90
    · exact Try.sizeOf91
    · exact Try.sizeOf92
    · exact Try.sizeOf93
    · exact Try.sizeOf94
    · exact Try.sizeOf95
    · exact Try.sizeOf96
    · exact Try.sizeOf97
    · exact Try.sizeOf101
    · exact Try.sizeOf102
    · exact Try.sizeOf103
    · exact Try.sizeOf104
    · exact Try.sizeOf105
    · exact Try.sizeOf106
    · exact Try.sizeOf107
    · exact Try.sizeOf108
    · exact Try.sizeOf109
  off := by
    intro x hx
    simp only [tab, List.mem_cons, List.not_mem_nil, or_false] at hx
    rcases hx with rfl | rfl | rfl | rfl | rfl | rfl | rfl | rfl | rfl | rfl | rfl | rfl | rfl | rfl | rfl | rfl | rfl | rfl | rfl | rfl | rfl | rfl | rfl | rfl | rfl | rfl | rfl | rfl | rfl | rfl | rfl | rfl | rfl | rfl | rfl | rfl | rfl | rfl | rfl | rfl | rfl | rfl | rfl | rfl | rfl | rfl | rfl | rfl | rfl | rfl | rfl | rfl | rfl | rfl | rfl | rfl | rfl | rfl | rfl | rfl | rfl | rfl | rfl | rfl | rfl | rfl | rfl | rfl | rfl | rfl | rfl | rfl | rfl | rfl | rfl | rfl | rfl | rfl | rfl | rfl | rfl | rfl | rfl | rfl | rfl | rfl | rfl | rfl | rfl | rfl | rfl | rfl
    · exact fun b o' w => run_fieldAt (s := 7) (f := 0) (off := 0) (ft := 2) b o' w
    · exact fun b o' w => run_fieldAt (s := 7) (f := 1) (off := 1) (ft := 3) b o' w
    · exact fun b o' w => run_fieldAt (s := 7) (f := 2) (off := 2) (ft := 4) b o' w
    · exact fun b o' w => run_fieldAt (s := 7) (f := 3) (off := 3) (ft := 6) b o' w
    · exact fun b o' w => run_fieldAt (s := 8) (f := 0) (off := 0) (ft := 2) b o' w
    · exact fun b o' w => run_fieldAt (s := 8) (f := 1) (off := 1) (ft := 3) b o' w
    · exact fun b o' w => run_fieldAt (s := 8) (f := 2) (off := 2) (ft := 4) b o' w
    · exact fun b o' w => run_fieldAt (s := 8) (f := 3) (off := 3) (ft := 6) b o' w
    · exact fun b o' w => run_fieldAt (s := 13) (f := 0) (off := 0) (ft := 9) b o' w
    · exact fun b o' w => run_fieldAt (s := 13) (f := 1) (off := 1) (ft := 12) b o' w
    · exact fun b o' w => run_fieldAt (s := 14) (f := 0) (off := 0) (ft := 9) b o' w
    · exact fun b o' w => run_fieldAt (s := 14) (f := 1) (off := 1) (ft := 12) b o' w
    · exact fun b o' w => run_fieldAt (s := 18) (f := 0) (off := 0) (ft := 17) b o' w
    · exact fun b o' w => run_fieldAt (s := 19) (f := 0) (off := 0) (ft := 17) b o' w
    · exact fun b o' w => run_fieldAt (s := 37) (f := 0) (off := 0) (ft := 3) b o' w
    · exact fun b o' w => run_fieldAt (s := 37) (f := 1) (off := 1) (ft := 3) b o' w
    · exact fun b o' w => run_fieldAt (s := 37) (f := 2) (off := 2) (ft := 3) b o' w
    · exact fun b o' w => run_fieldAt (s := 37) (f := 3) (off := 3) (ft := 5) b o' w
    · exact fun b o' w => run_fieldAt (s := 37) (f := 4) (off := 4) (ft := 36) b o' w
    · exact fun b o' w => run_fieldAt (s := 37) (f := 5) (off := 5) (ft := 23) b o' w
    · exact fun b o' w => run_fieldAt (s := 38) (f := 0) (off := 0) (ft := 3) b o' w
    · exact fun b o' w => run_fieldAt (s := 38) (f := 1) (off := 1) (ft := 3) b o' w
    · exact fun b o' w => run_fieldAt (s := 38) (f := 2) (off := 2) (ft := 3) b o' w
    · exact fun b o' w => run_fieldAt (s := 38) (f := 3) (off := 3) (ft := 5) b o' w
    · exact fun b o' w => run_fieldAt (s := 38) (f := 4) (off := 4) (ft := 36) b o' w
    · exact fun b o' w => run_fieldAt (s := 38) (f := 5) (off := 5) (ft := 23) b o' w
    · exact fun b o' w => run_fieldAt (s := 47) (f := 0) (off := 0) (ft := 45) b o' w
    · exact fun b o' w => run_fieldAt (s := 47) (f := 1) (off := 1) (ft := 46) b o' w
    · exact fun b o' w => run_fieldAt (s := 47) (f := 2) (off := 2) (ft := 3) b o' w
    · exact fun b o' w => run_fieldAt (s := 47) (f := 3) (off := 3) (ft := 3) b o' w
    · exact fun b o' w => run_fieldAt (s := 48) (f := 0) (off := 0) (ft := 45) b o' w
    · exact fun b o' w => run_fieldAt (s := 48) (f := 1) (off := 1) (ft := 46) b o' w
    · exact fun b o' w => run_fieldAt (s := 48) (f := 2) (off := 2) (ft := 3) b o' w
    · exact fun b o' w => run_fieldAt (s := 48) (f := 3) (off := 3) (ft := 3) b o' w
    · exact fun b o' w => run_fieldAt (s := 55) (f := 0) (off := 0) (ft := 3) b o' w
    · exact fun b o' w => run_fieldAt (s := 55) (f := 1) (off := 1) (ft := 3) b o' w
    · exact fun b o' w => run_fieldAt (s := 55) (f := 2) (off := 2) (ft := 3) b o' w
    · exact fun b o' w => run_fieldAt (s := 55) (f := 3) (off := 3) (ft := 3) b o' w
    · exact fun b o' w => run_fieldAt (s := 55) (f := 4) (off := 4) (ft := 31) b o' w
    · exact fun b o' w => run_fieldAt (s := 55) (f := 5) (off := 5) (ft := 23) b o' w
    · exact fun b o' w => run_fieldAt (s := 56) (f := 0) (off := 0) (ft := 3) b o' w
    · exact fun b o' w => run_fieldAt (s := 56) (f := 1) (off := 1) (ft := 3) b o' w
    · exact fun b o' w => run_fieldAt (s := 56) (f := 2) (off := 2) (ft := 3) b o' w
    · exact fun b o' w => run_fieldAt (s := 56) (f := 3) (off := 3) (ft := 3) b o' w
    · exact fun b o' w => run_fieldAt (s := 56) (f := 4) (off := 4) (ft := 31) b o' w
    · exact fun b o' w => run_fieldAt (s := 56) (f := 5) (off := 5) (ft := 23) b o' w
    · exact fun b o' w => run_fieldAt (s := 58) (f := 0) (off := 0) (ft := 4) b o' w
    · exact fun b o' w => run_fieldAt (s := 58) (f := 1) (off := 1) (ft := 3) b o' w
    · exact fun b o' w => run_fieldAt (s := 58) (f := 2) (off := 2) (ft := 31) b o' w
    · exact fun b o' w => run_fieldAt (s := 59) (f := 0) (off := 0) (ft := 4) b o' w
    · exact fun b o' w => run_fieldAt (s := 59) (f := 1) (off := 1) (ft := 3) b o' w
    · exact fun b o' w => run_fieldAt (s := 59) (f := 2) (off := 2) (ft := 31) b o' w
    · exact fun b o' w => run_fieldAt (s := 61) (f := 0) (off := 0) (ft := 25) b o' w
    · exact fun b o' w => run_fieldAt (s := 61) (f := 1) (off := 1) (ft := 3) b o' w
    · exact fun b o' w => run_fieldAt (s := 61) (f := 2) (off := 2) (ft := 60) b o' w
    · exact fun b o' w => run_fieldAt (s := 62) (f := 0) (off := 0) (ft := 25) b o' w
    · exact fun b o' w => run_fieldAt (s := 62) (f := 1) (off := 1) (ft := 3) b o' w
    · exact fun b o' w => run_fieldAt (s := 62) (f := 2) (off := 2) (ft := 60) b o' w
    · exact fun b o' w => run_fieldAt (s := 79) (f := 0) (off := 0) (ft := 3) b o' w
    · exact fun b o' w => run_fieldAt (s := 79) (f := 1) (off := 1) (ft := 78) b o' w
    · exact fun b o' w => run_fieldAt (s := 80) (f := 0) (off := 0) (ft := 3) b o' w
    · exact fun b o' w => run_fieldAt (s := 80) (f := 1) (off := 1) (ft := 78) b o' w
    · exact fun b o' w => run_fieldAt (s := 96) (f := 0) (off := 0) (ft := 17) b o' w
    · exact fun b o' w => run_fieldAt (s := 96) (f := 1) (off := 1) (ft := 17) b o' w
    · exact fun b o' w => run_fieldAt (s := 96) (f := 2) (off := 2) (ft := 17) b o' w
    · exact fun b o' w => run_fieldAt (s := 96) (f := 3) (off := 3) (ft := 9) b o' w
    · exact fun b o' w => run_fieldAt (s := 97) (f := 0) (off := 0) (ft := 17) b o' w
    · exact fun b o' w => run_fieldAt (s := 97) (f := 1) (off := 1) (ft := 17) b o' w
    · exact fun b o' w => run_fieldAt (s := 97) (f := 2) (off := 2) (ft := 17) b o' w
    · exact fun b o' w => run_fieldAt (s := 97) (f := 3) (off := 3) (ft := 9) b o' w
    · exact fun b o' w => run_fieldAt (s := 107) (f := 0) (off := 0) (ft := 12) b o' w
    · exact fun b o' w => run_fieldAt (s := 107) (f := 1) (off := 1) (ft := 12) b o' w
    · exact fun b o' w => run_fieldAt (s := 107) (f := 2) (off := 2) (ft := 89) b o' w
    · exact fun b o' w => run_fieldAt (s := 107) (f := 3) (off := 3) (ft := 101) b o' w
    · exact fun b o' w => run_fieldAt (s := 107) (f := 4) (off := 4) (ft := 5) b o' w
    · exact fun b o' w => run_fieldAt (s := 107) (f := 5) (off := 5) (ft := 5) b o' w
    · exact fun b o' w => run_fieldAt (s := 107) (f := 6) (off := 6) (ft := 102) b o' w
    · exact fun b o' w => run_fieldAt (s := 107) (f := 7) (off := 7) (ft := 103) b o' w
    · exact fun b o' w => run_fieldAt (s := 107) (f := 8) (off := 8) (ft := 104) b o' w
    · exact fun b o' w => run_fieldAt (s := 107) (f := 9) (off := 9) (ft := 105) b o' w
    · exact fun b o' w => run_fieldAt (s := 107) (f := 10) (off := 10) (ft := 106) b o' w
    · exact fun b o' w => run_fieldAt (s := 108) (f := 0) (off := 0) (ft := 12) b o' w
    · exact fun b o' w => run_fieldAt (s := 108) (f := 1) (off := 1) (ft := 12) b o' w
    · exact fun b o' w => run_fieldAt (s := 108) (f := 2) (off := 2) (ft := 89) b o' w
    · exact fun b o' w => run_fieldAt (s := 108) (f := 3) (off := 3) (ft := 101) b o' w
    · exact fun b o' w => run_fieldAt (s := 108) (f := 4) (off := 4) (ft := 5) b o' w
    · exact fun b o' w => run_fieldAt (s := 108) (f := 5) (off := 5) (ft := 5) b o' w
    · exact fun b o' w => run_fieldAt (s := 108) (f := 6) (off := 6) (ft := 102) b o' w
    · exact fun b o' w => run_fieldAt (s := 108) (f := 7) (off := 7) (ft := 103) b o' w
    · exact fun b o' w => run_fieldAt (s := 108) (f := 8) (off := 8) (ft := 104) b o' w
    · exact fun b o' w => run_fieldAt (s := 108) (f := 9) (off := 9) (ft := 105) b o' w
    · exact fun b o' w => run_fieldAt (s := 108) (f := 10) (off := 10) (ft := 106) b o' w
end Go.Sl
