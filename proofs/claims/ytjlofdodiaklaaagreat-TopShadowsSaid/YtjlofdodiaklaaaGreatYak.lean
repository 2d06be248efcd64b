/-
  What is known of the program's types and functions: written by a program of the author's
-/
import Derived.Test.YtjlofdodiaklaaaGreatYai
import Derived.Test.YtjlofdodiaklaaaGreatProg
import Derived.KernelRfl
set_option maxRecDepth 100000
set_option linter.unusedSimpArgs false
namespace Go.Sl
open Go Go.Proofs
instance ty1 : Mixed Tryz.prog := ⟨by kernel_rfl⟩
instance ty2 : Fun Tryz.prog 2 := ⟨Tryz.call2⟩
instance ty3 : Fun Tryz.prog 3 := ⟨Tryz.call3⟩
instance ty4 : Fun Tryz.prog 4 := ⟨Tryz.call4⟩
instance ty5 : Fun Tryz.prog 5 := ⟨Tryz.call5⟩
instance ty6 : Fun Tryz.prog 6 := ⟨Tryz.call6⟩
instance ty7 : Fun Tryz.prog 7 := ⟨Tryz.call7⟩
instance ty8 : Fun Tryz.prog 8 := ⟨Tryz.call8⟩
instance ty9 : Fun Tryz.prog 9 := ⟨Tryz.call9⟩
instance ty10 : Fun Tryz.prog 10 := ⟨Tryz.call10⟩
instance ty11 : Fun Tryz.prog 11 := ⟨Tryz.call11⟩
instance ty12 : Fun Tryz.prog 12 := ⟨Tryz.call12⟩
instance ty13 : Fun Tryz.prog 13 := ⟨Tryz.call13⟩
instance ty14 : Fun Tryz.prog 14 := ⟨Tryz.call14⟩
instance ty15 : Fun Tryz.prog 15 := ⟨Tryz.call15⟩
instance ty16 : Fun Tryz.prog 16 := ⟨Tryz.call16⟩
instance ty17 : Fun Tryz.prog 17 := ⟨Tryz.call17⟩
instance ty18 : Fun Tryz.prog 18 := ⟨Tryz.call18⟩
instance ty19 : Fun Tryz.prog 19 := ⟨Tryz.call19⟩
instance ty20 : Fun Tryz.prog 20 := ⟨Tryz.call20⟩
instance ty21 : Fun Tryz.prog 21 := ⟨Tryz.call21⟩
instance ty22 : Fun Tryz.prog 22 := ⟨Tryz.call22⟩
instance ty23 : Fun Tryz.prog 23 := ⟨Tryz.call23⟩
instance ty24 : Fun Tryz.prog 24 := ⟨Tryz.call24⟩
instance ty25 : Fun Tryz.prog 25 := ⟨Tryz.call25⟩
instance ty26 : Fun Tryz.prog 26 := ⟨Tryz.call26⟩
instance ty27 : Fun Tryz.prog 27 := ⟨Tryz.call27⟩
instance ty28 : Fun Tryz.prog 28 := ⟨Tryz.call28⟩
instance ty29 : Fun Tryz.prog 29 := ⟨Tryz.call29⟩
instance ty30 : Fun Tryz.prog 30 := ⟨Tryz.call30⟩
instance ty31 : Fun Tryz.prog 31 := ⟨Tryz.call31⟩
instance ty32 : Fun Tryz.prog 32 := ⟨Tryz.call32⟩
instance ty33 : Fun Tryz.prog 33 := ⟨Tryz.call33⟩
instance ty34 : Fun Tryz.prog 34 := ⟨Tryz.call34⟩
instance ty35 : Fun Tryz.prog 35 := ⟨Tryz.call35⟩
instance ty36 : Fun Tryz.prog 36 := ⟨Tryz.call36⟩
instance ty37 : Fun Tryz.prog 37 := ⟨Tryz.call37⟩
instance ty38 : Fun Tryz.prog 38 := ⟨Tryz.call38⟩
instance ty39 : Fun Tryz.prog 39 := ⟨Tryz.call39⟩
instance ty40 : Fun Tryz.prog 40 := ⟨Tryz.call40⟩
instance ty41 : Fun Tryz.prog 41 := ⟨Tryz.call41⟩
instance ty42 : Fun Tryz.prog 42 := ⟨Tryz.call42⟩
instance ty43 : Fun Tryz.prog 43 := ⟨Tryz.call43⟩
instance ty44 : Fun Tryz.prog 44 := ⟨Tryz.call44⟩
instance ty45 : Fun Tryz.prog 45 := ⟨Tryz.call45⟩
instance ty46 : Fun Tryz.prog 46 := ⟨Tryz.call46⟩
instance ty47 : Fun Tryz.prog 47 := ⟨Tryz.call47⟩
instance ty48 : Fun Tryz.prog 48 := ⟨Tryz.call48⟩
instance ty49 : Fun Tryz.prog 49 := ⟨Tryz.call49⟩
instance ty50 : Fun Tryz.prog 50 := ⟨Tryz.call50⟩
instance ty51 : Fun Tryz.prog 51 := ⟨Tryz.call51⟩
instance ty52 : Fun Tryz.prog 52 := ⟨Tryz.call52⟩
instance ty53 : Fun Tryz.prog 53 := ⟨Tryz.call53⟩
instance ty54 : Fun Tryz.prog 54 := ⟨Tryz.call54⟩
instance ty55 : Fun Tryz.prog 55 := ⟨Tryz.call55⟩
instance ty56 : Fun Tryz.prog 56 := ⟨Tryz.call56⟩
instance ty57 : Fun Tryz.prog 57 := ⟨Tryz.call57⟩
instance ty58 : Fun Tryz.prog 58 := ⟨Tryz.call58⟩
instance ty59 : Fun Tryz.prog 59 := ⟨Tryz.call59⟩
instance ty60 : Fun Tryz.prog 60 := ⟨Tryz.call60⟩
instance ty61 : Fun Tryz.prog 61 := ⟨Tryz.call61⟩
instance ty62 : Fun Tryz.prog 62 := ⟨Tryz.call62⟩
instance ty63 : Fun Tryz.prog 63 := ⟨Tryz.call63⟩
instance ty64 : Fun Tryz.prog 64 := ⟨Tryz.call64⟩
instance ty65 : Fun Tryz.prog 65 := ⟨Tryz.call65⟩
instance ty66 : Fun Tryz.prog 66 := ⟨Tryz.call66⟩
instance ty67 : Fun Tryz.prog 67 := ⟨Tryz.call67⟩
instance ty68 : Fun Tryz.prog 68 := ⟨Tryz.call68⟩
instance ty69 : Fun Tryz.prog 69 := ⟨Tryz.call69⟩
instance ty70 : Fun Tryz.prog 70 := ⟨Tryz.call70⟩
instance ty71 : Fun Tryz.prog 71 := ⟨Tryz.call71⟩
instance ty72 : Fun Tryz.prog 72 := ⟨Tryz.call72⟩
instance ty73 : Fun Tryz.prog 73 := ⟨Tryz.call73⟩
instance ty74 : Fun Tryz.prog 74 := ⟨Tryz.call74⟩
instance ty75 : Fun Tryz.prog 75 := ⟨Tryz.call75⟩
instance ty76 : Fun Tryz.prog 76 := ⟨Tryz.call76⟩
instance ty77 : Fun Tryz.prog 77 := ⟨Tryz.call77⟩
instance ty78 : Fun Tryz.prog 78 := ⟨Tryz.call78⟩
instance ty79 : Fun Tryz.prog 79 := ⟨Tryz.call79⟩
instance ty80 : Fun Tryz.prog 80 := ⟨Tryz.call80⟩
instance ty81 : Fun Tryz.prog 81 := ⟨Tryz.call81⟩
instance ty82 : Fun Tryz.prog 82 := ⟨Tryz.call82⟩
instance ty83 : Fun Tryz.prog 84 := ⟨Tryz.call84⟩
instance ty84 : Fun Tryz.prog 85 := ⟨Tryz.call85⟩
instance ty85 : Fun Tryz.prog 86 := ⟨Tryz.call86⟩
instance ty86 : Fun Tryz.prog 87 := ⟨Tryz.call87⟩
instance ty87 : Fun Tryz.prog 88 := ⟨Tryz.call88⟩
instance ty88 : Fun Tryz.prog 89 := ⟨Tryz.call89⟩
instance ty89 : Fun Tryz.prog 90 := ⟨Tryz.call90⟩
instance ty90 : Fun Tryz.prog 91 := ⟨Tryz.call91⟩
instance ty92 : Fun Tryz.prog 94 := ⟨Tryz.call94⟩
instance ty93 : Fun Tryz.prog 95 := ⟨Tryz.call95⟩
instance ty94 : Fun Tryz.prog 96 := ⟨Tryz.call96⟩
instance ty95 : Fun Tryz.prog 97 := ⟨Tryz.call97⟩
instance ty96 : Fun Tryz.prog 98 := ⟨Tryz.call98⟩
instance ty97 : Fun Tryz.prog 99 := ⟨Tryz.call99⟩
instance ty98 : Fun Tryz.prog 100 := ⟨Tryz.call100⟩
instance ty99 : Fun Tryz.prog 101 := ⟨Tryz.call101⟩
instance ty100 : Fun Tryz.prog 102 := ⟨Tryz.call102⟩
instance ty101 : Fun Tryz.prog 103 := ⟨Tryz.call103⟩
instance ty102 : Fun Tryz.prog 104 := ⟨Tryz.call104⟩
instance ty103 : Fun Tryz.prog 106 := ⟨Tryz.call106⟩
instance ty105 : Fun Tryz.prog 108 := ⟨Tryz.call108⟩
instance ty106 : Fun Tryz.prog 109 := ⟨Tryz.call109⟩
instance ty107 : Fun Tryz.prog 110 := ⟨Tryz.call110⟩
instance ty109 : Fun Tryz.prog 113 := ⟨Tryz.call113⟩
instance ty110 : Fun Tryz.prog 114 := ⟨Tryz.call114⟩
instance ty111 : Fun Tryz.prog 115 := ⟨Tryz.call115⟩
instance ty112 : Fun Tryz.prog 116 := ⟨Tryz.call116⟩
instance ty113 : Fun Tryz.prog 117 := ⟨Tryz.call117⟩
instance ty114 : Fun Tryz.prog 118 := ⟨Tryz.call118⟩
instance ty115 : Fun Tryz.prog 119 := ⟨Tryz.call119⟩
instance ty116 : Fun Tryz.prog 120 := ⟨Tryz.call120⟩
instance ty117 : Fun Tryz.prog 121 := ⟨Tryz.call121⟩
instance ty118 : Fun Tryz.prog 122 := ⟨Tryz.call122⟩
instance ty121 : Fun Tryz.prog 125 := ⟨Tryz.call125⟩
instance ty122 : Fun Tryz.prog 126 := ⟨Tryz.call126⟩
instance ty123 : Fun Tryz.prog 127 := ⟨Tryz.call127⟩
instance ty124 : Fun Tryz.prog 128 := ⟨Tryz.call128⟩
instance ty125 : Fun Tryz.prog 129 := ⟨Tryz.call129⟩
instance ty126 : Fun Tryz.prog 130 := ⟨Tryz.call130⟩
instance ty128 : Fun Tryz.prog 132 := ⟨Tryz.call132⟩
instance ty129 : Fun Tryz.prog 133 := ⟨Tryz.call133⟩
instance ty130 : Fun Tryz.prog 134 := ⟨Tryz.call134⟩
instance ty134 : TyU Tryz.prog 3 (.int .i64) := ⟨Tryz.underlying3⟩
instance ty135 : TyI Tryz.prog 3 false 1 8 ([.int .i64 0]) := ⟨⟨Tryz.t3, by kernel_rfl, by kernel_rfl, by kernel_rfl, by kernel_rfl, (fun _ => ⟨_, rfl, rfl⟩), by kernel_rfl, by kernel_rfl⟩, Tryz.isAgg3⟩
instance ty136 : TyU Tryz.prog 4 .bool := ⟨Tryz.underlying4⟩
instance ty137 : TyI Tryz.prog 4 false 1 1 ([.bool false]) := ⟨⟨Tryz.t4, by kernel_rfl, by kernel_rfl, by kernel_rfl, by kernel_rfl, (fun _ => ⟨_, rfl, rfl⟩), by kernel_rfl, by kernel_rfl⟩, Tryz.isAgg4⟩
instance ty138 : TyU Tryz.prog 5 (.int .u8) := ⟨Tryz.underlying5⟩
instance ty139 : TyI Tryz.prog 5 false 1 1 ([.int .u8 0]) := ⟨⟨Tryz.t5, by kernel_rfl, by kernel_rfl, by kernel_rfl, by kernel_rfl, (fun _ => ⟨_, rfl, rfl⟩), by kernel_rfl, by kernel_rfl⟩, Tryz.isAgg5⟩
instance ty144 : TyF Tryz.prog 7 0 0 2 := ⟨⟨_, _, Tryz.t2, Tryz.underlying7, rfl, rfl, rfl, by kernel_rfl, by intro h; cases h⟩⟩
instance ty145 : TyF Tryz.prog 7 1 1 3 := ⟨⟨_, _, Tryz.t3, Tryz.underlying7, rfl, rfl, rfl, by kernel_rfl, by intro h; cases h⟩⟩
instance ty146 : TyF Tryz.prog 7 2 2 4 := ⟨⟨_, _, Tryz.t4, Tryz.underlying7, rfl, rfl, rfl, by kernel_rfl, by intro h; cases h⟩⟩
instance ty147 : TyF Tryz.prog 7 3 3 6 := ⟨⟨_, _, Tryz.t6, Tryz.underlying7, rfl, rfl, rfl, by kernel_rfl, by intro h; cases h⟩⟩
instance ty150 : TyF Tryz.prog 8 0 0 2 := ⟨⟨_, _, Tryz.t2, Tryz.underlying8, rfl, rfl, rfl, by kernel_rfl, by intro h; cases h⟩⟩
instance ty151 : TyF Tryz.prog 8 1 1 3 := ⟨⟨_, _, Tryz.t3, Tryz.underlying8, rfl, rfl, rfl, by kernel_rfl, by intro h; cases h⟩⟩
instance ty152 : TyF Tryz.prog 8 2 2 4 := ⟨⟨_, _, Tryz.t4, Tryz.underlying8, rfl, rfl, rfl, by kernel_rfl, by intro h; cases h⟩⟩
instance ty153 : TyF Tryz.prog 8 3 3 6 := ⟨⟨_, _, Tryz.t6, Tryz.underlying8, rfl, rfl, rfl, by kernel_rfl, by intro h; cases h⟩⟩
instance ty154 : TyU Tryz.prog 9 .string := ⟨Tryz.underlying9⟩
instance ty155 : TyI Tryz.prog 9 false 1 16 ([.string ⟨#[]⟩]) := ⟨⟨Tryz.t9, by kernel_rfl, by kernel_rfl, by kernel_rfl, by kernel_rfl, (fun _ => ⟨_, rfl, rfl⟩), by kernel_rfl, by kernel_rfl⟩, Tryz.isAgg9⟩
instance ty164 : TyF Tryz.prog 13 0 0 9 := ⟨⟨_, _, Tryz.t9, Tryz.underlying13, rfl, rfl, rfl, by kernel_rfl, by intro h; cases h⟩⟩
instance ty165 : TyF Tryz.prog 13 1 1 12 := ⟨⟨_, _, Tryz.t12, Tryz.underlying13, rfl, rfl, rfl, by kernel_rfl, by intro h; cases h⟩⟩
instance ty168 : TyF Tryz.prog 14 0 0 9 := ⟨⟨_, _, Tryz.t9, Tryz.underlying14, rfl, rfl, rfl, by kernel_rfl, by intro h; cases h⟩⟩
instance ty169 : TyF Tryz.prog 14 1 1 12 := ⟨⟨_, _, Tryz.t12, Tryz.underlying14, rfl, rfl, rfl, by kernel_rfl, by intro h; cases h⟩⟩
instance ty178 : TyF Tryz.prog 18 0 0 17 := ⟨⟨_, _, Tryz.t17, Tryz.underlying18, rfl, rfl, rfl, by kernel_rfl, by intro h; cases h⟩⟩
instance ty181 : TyF Tryz.prog 19 0 0 17 := ⟨⟨_, _, Tryz.t17, Tryz.underlying19, rfl, rfl, rfl, by kernel_rfl, by intro h; cases h⟩⟩
instance ty190 : TyI Tryz.prog 24 false 1 8 ([.pointer none]) := ⟨⟨Tryz.t24, by kernel_rfl, by kernel_rfl, by kernel_rfl, by kernel_rfl, (fun _ => ⟨_, rfl, rfl⟩), by kernel_rfl, by kernel_rfl⟩, Tryz.isAgg24⟩
instance ty192 : TyI Tryz.prog 25 false 1 8 ([.int .i64 0]) := ⟨⟨Tryz.t25, by kernel_rfl, by kernel_rfl, by kernel_rfl, by kernel_rfl, (fun _ => ⟨_, rfl, rfl⟩), by kernel_rfl, by kernel_rfl⟩, Tryz.isAgg25⟩
instance ty195 : TyI Tryz.prog 28 false 1 8 ([.pointer none]) := ⟨⟨Tryz.t28, by kernel_rfl, by kernel_rfl, by kernel_rfl, by kernel_rfl, (fun _ => ⟨_, rfl, rfl⟩), by kernel_rfl, by kernel_rfl⟩, Tryz.isAgg28⟩
instance ty197 : TyU Tryz.prog 31 (.pointer 76) := ⟨Tryz.underlying31⟩
instance ty198 : TyI Tryz.prog 31 false 1 8 ([.pointer none]) := ⟨⟨Tryz.t31, by kernel_rfl, by kernel_rfl, by kernel_rfl, by kernel_rfl, (fun _ => ⟨_, rfl, rfl⟩), by kernel_rfl, by kernel_rfl⟩, Tryz.isAgg31⟩
instance ty204 : TyI Tryz.prog 37 false 1 8 ([.pointer none]) := ⟨⟨Tryz.t37, by kernel_rfl, by kernel_rfl, by kernel_rfl, by kernel_rfl, (fun _ => ⟨_, rfl, rfl⟩), by kernel_rfl, by kernel_rfl⟩, Tryz.isAgg37⟩
instance ty209 : TyU Tryz.prog 42 (.slice 106) := ⟨Tryz.underlying42⟩
instance ty212 : TyI Tryz.prog 43 false 1 24 ([.slice none 0 0]) := ⟨⟨Tryz.t43, by kernel_rfl, by kernel_rfl, by kernel_rfl, by kernel_rfl, (fun _ => ⟨_, rfl, rfl⟩), by kernel_rfl, by kernel_rfl⟩, Tryz.isAgg43⟩
instance ty213 : TyU Tryz.prog 44 (.slice 5) := ⟨Tryz.underlying44⟩
instance ty214 : TyI Tryz.prog 44 false 1 24 ([.slice none 0 0]) := ⟨⟨Tryz.t44, by kernel_rfl, by kernel_rfl, by kernel_rfl, by kernel_rfl, (fun _ => ⟨_, rfl, rfl⟩), by kernel_rfl, by kernel_rfl⟩, Tryz.isAgg44⟩
instance ty217 : TyF Tryz.prog 45 0 0 3 := ⟨⟨_, _, Tryz.t3, Tryz.underlying45, rfl, rfl, rfl, by kernel_rfl, by intro h; cases h⟩⟩
instance ty218 : TyF Tryz.prog 45 1 1 44 := ⟨⟨_, _, Tryz.t44, Tryz.underlying45, rfl, rfl, rfl, by kernel_rfl, by intro h; cases h⟩⟩
instance ty219 : TyF Tryz.prog 45 2 2 44 := ⟨⟨_, _, Tryz.t44, Tryz.underlying45, rfl, rfl, rfl, by kernel_rfl, by intro h; cases h⟩⟩
instance ty220 : TyI Tryz.prog 46 true 3 56 (.int .i64 0 :: (.slice none 0 0 :: [.slice none 0 0])) := ⟨⟨Tryz.t46, by kernel_rfl, by kernel_rfl, by kernel_rfl, by kernel_rfl, (fun h => by cases h), by kernel_rfl, by kernel_rfl⟩, Tryz.isAgg46⟩
instance ty222 : TyF Tryz.prog 46 0 0 3 := ⟨⟨_, _, Tryz.t3, Tryz.underlying46, rfl, rfl, rfl, by kernel_rfl, by intro h; cases h⟩⟩
instance ty223 : TyF Tryz.prog 46 1 1 44 := ⟨⟨_, _, Tryz.t44, Tryz.underlying46, rfl, rfl, rfl, by kernel_rfl, by intro h; cases h⟩⟩
instance ty224 : TyF Tryz.prog 46 2 2 44 := ⟨⟨_, _, Tryz.t44, Tryz.underlying46, rfl, rfl, rfl, by kernel_rfl, by intro h; cases h⟩⟩
instance ty232 : TyU Tryz.prog 56 (.slice 3) := ⟨Tryz.underlying56⟩
instance ty233 : TyI Tryz.prog 56 false 1 24 ([.slice none 0 0]) := ⟨⟨Tryz.t56, by kernel_rfl, by kernel_rfl, by kernel_rfl, by kernel_rfl, (fun _ => ⟨_, rfl, rfl⟩), by kernel_rfl, by kernel_rfl⟩, Tryz.isAgg56⟩
instance ty240 : TyU Tryz.prog 64 (.slice 112) := ⟨Tryz.underlying64⟩
instance ty241 : TyI Tryz.prog 64 false 1 24 ([.slice none 0 0]) := ⟨⟨Tryz.t64, by kernel_rfl, by kernel_rfl, by kernel_rfl, by kernel_rfl, (fun _ => ⟨_, rfl, rfl⟩), by kernel_rfl, by kernel_rfl⟩, Tryz.isAgg64⟩
instance ty242 : TyU Tryz.prog 65 (.slice 114) := ⟨Tryz.underlying65⟩
instance ty243 : TyI Tryz.prog 65 false 1 24 ([.slice none 0 0]) := ⟨⟨Tryz.t65, by kernel_rfl, by kernel_rfl, by kernel_rfl, by kernel_rfl, (fun _ => ⟨_, rfl, rfl⟩), by kernel_rfl, by kernel_rfl⟩, Tryz.isAgg65⟩
instance ty246 : TyF Tryz.prog 66 0 0 64 := ⟨⟨_, _, Tryz.t64, Tryz.underlying66, rfl, rfl, rfl, by kernel_rfl, by intro h; cases h⟩⟩
instance ty247 : TyF Tryz.prog 66 1 1 65 := ⟨⟨_, _, Tryz.t65, Tryz.underlying66, rfl, rfl, rfl, by kernel_rfl, by intro h; cases h⟩⟩
instance ty248 : TyF Tryz.prog 66 2 2 3 := ⟨⟨_, _, Tryz.t3, Tryz.underlying66, rfl, rfl, rfl, by kernel_rfl, by intro h; cases h⟩⟩
instance ty249 : TyF Tryz.prog 66 3 3 3 := ⟨⟨_, _, Tryz.t3, Tryz.underlying66, rfl, rfl, rfl, by kernel_rfl, by intro h; cases h⟩⟩
instance ty250 : TyI Tryz.prog 67 true 4 64 (.slice none 0 0 :: (.slice none 0 0 :: (.int .i64 0 :: [.int .i64 0]))) := ⟨⟨Tryz.t67, by kernel_rfl, by kernel_rfl, by kernel_rfl, by kernel_rfl, (fun h => by cases h), by kernel_rfl, by kernel_rfl⟩, Tryz.isAgg67⟩
instance ty251 : TyS Tryz.prog 67 [(0, 1), (1, 1), (2, 1), (3, 1)] := ⟨_, Tryz.underlying67, fun w => by simp [Tryz.sizeOf64, Tryz.sizeOf65, Tryz.sizeOf3]⟩
instance ty252 : TyF Tryz.prog 67 0 0 64 := ⟨⟨_, _, Tryz.t64, Tryz.underlying67, rfl, rfl, rfl, by kernel_rfl, by intro h; cases h⟩⟩
instance ty253 : TyF Tryz.prog 67 1 1 65 := ⟨⟨_, _, Tryz.t65, Tryz.underlying67, rfl, rfl, rfl, by kernel_rfl, by intro h; cases h⟩⟩
instance ty254 : TyF Tryz.prog 67 2 2 3 := ⟨⟨_, _, Tryz.t3, Tryz.underlying67, rfl, rfl, rfl, by kernel_rfl, by intro h; cases h⟩⟩
instance ty255 : TyF Tryz.prog 67 3 3 3 := ⟨⟨_, _, Tryz.t3, Tryz.underlying67, rfl, rfl, rfl, by kernel_rfl, by intro h; cases h⟩⟩
instance ty257 : TyU Tryz.prog 69 (.slice 118) := ⟨Tryz.underlying69⟩
instance ty258 : TyI Tryz.prog 69 false 1 24 ([.slice none 0 0]) := ⟨⟨Tryz.t69, by kernel_rfl, by kernel_rfl, by kernel_rfl, by kernel_rfl, (fun _ => ⟨_, rfl, rfl⟩), by kernel_rfl, by kernel_rfl⟩, Tryz.isAgg69⟩
instance ty259 : TyI Tryz.prog 70 false 1 8 ([.chan none]) := ⟨⟨Tryz.t70, by kernel_rfl, by kernel_rfl, by kernel_rfl, by kernel_rfl, (fun _ => ⟨_, rfl, rfl⟩), by kernel_rfl, by kernel_rfl⟩, Tryz.isAgg70⟩
instance ty262 : TyF Tryz.prog 71 0 0 24 := ⟨⟨_, _, Tryz.t24, Tryz.underlying71, rfl, rfl, rfl, by kernel_rfl, by intro h; cases h⟩⟩
instance ty263 : TyF Tryz.prog 71 1 1 69 := ⟨⟨_, _, Tryz.t69, Tryz.underlying71, rfl, rfl, rfl, by kernel_rfl, by intro h; cases h⟩⟩
instance ty264 : TyF Tryz.prog 71 2 2 70 := ⟨⟨_, _, Tryz.t70, Tryz.underlying71, rfl, rfl, rfl, by kernel_rfl, by intro h; cases h⟩⟩
instance ty265 : TyF Tryz.prog 71 3 3 3 := ⟨⟨_, _, Tryz.t3, Tryz.underlying71, rfl, rfl, rfl, by kernel_rfl, by intro h; cases h⟩⟩
instance ty266 : TyF Tryz.prog 71 4 4 3 := ⟨⟨_, _, Tryz.t3, Tryz.underlying71, rfl, rfl, rfl, by kernel_rfl, by intro h; cases h⟩⟩
instance ty267 : TyF Tryz.prog 71 5 5 3 := ⟨⟨_, _, Tryz.t3, Tryz.underlying71, rfl, rfl, rfl, by kernel_rfl, by intro h; cases h⟩⟩
instance ty268 : TyI Tryz.prog 72 true 6 64 (.pointer none :: (.slice none 0 0 :: (.chan none :: (.int .i64 0 :: (.int .i64 0 :: [.int .i64 0]))))) := ⟨⟨Tryz.t72, by kernel_rfl, by kernel_rfl, by kernel_rfl, by kernel_rfl, (fun h => by cases h), by kernel_rfl, by kernel_rfl⟩, Tryz.isAgg72⟩
instance ty269 : TyS Tryz.prog 72 [(0, 1), (1, 1), (2, 1), (3, 1), (4, 1), (5, 1)] := ⟨_, Tryz.underlying72, fun w => by simp [Tryz.sizeOf24, Tryz.sizeOf69, Tryz.sizeOf70, Tryz.sizeOf3]⟩
instance ty270 : TyF Tryz.prog 72 0 0 24 := ⟨⟨_, _, Tryz.t24, Tryz.underlying72, rfl, rfl, rfl, by kernel_rfl, by intro h; cases h⟩⟩
instance ty271 : TyF Tryz.prog 72 1 1 69 := ⟨⟨_, _, Tryz.t69, Tryz.underlying72, rfl, rfl, rfl, by kernel_rfl, by intro h; cases h⟩⟩
instance ty272 : TyF Tryz.prog 72 2 2 70 := ⟨⟨_, _, Tryz.t70, Tryz.underlying72, rfl, rfl, rfl, by kernel_rfl, by intro h; cases h⟩⟩
instance ty273 : TyF Tryz.prog 72 3 3 3 := ⟨⟨_, _, Tryz.t3, Tryz.underlying72, rfl, rfl, rfl, by kernel_rfl, by intro h; cases h⟩⟩
instance ty274 : TyF Tryz.prog 72 4 4 3 := ⟨⟨_, _, Tryz.t3, Tryz.underlying72, rfl, rfl, rfl, by kernel_rfl, by intro h; cases h⟩⟩
instance ty275 : TyF Tryz.prog 72 5 5 3 := ⟨⟨_, _, Tryz.t3, Tryz.underlying72, rfl, rfl, rfl, by kernel_rfl, by intro h; cases h⟩⟩
instance ty277 : TyU Tryz.prog 74 (.map 3 44) := ⟨Tryz.underlying74⟩
instance ty278 : TyI Tryz.prog 74 false 1 8 ([.map none]) := ⟨⟨Tryz.t74, by kernel_rfl, by kernel_rfl, by kernel_rfl, by kernel_rfl, (fun _ => ⟨_, rfl, rfl⟩), by kernel_rfl, by kernel_rfl⟩, Tryz.isAgg74⟩
instance ty281 : TyF Tryz.prog 75 0 0 24 := ⟨⟨_, _, Tryz.t24, Tryz.underlying75, rfl, rfl, rfl, by kernel_rfl, by intro h; cases h⟩⟩
instance ty282 : TyF Tryz.prog 75 1 1 28 := ⟨⟨_, _, Tryz.t28, Tryz.underlying75, rfl, rfl, rfl, by kernel_rfl, by intro h; cases h⟩⟩
instance ty283 : TyF Tryz.prog 75 2 2 3 := ⟨⟨_, _, Tryz.t3, Tryz.underlying75, rfl, rfl, rfl, by kernel_rfl, by intro h; cases h⟩⟩
instance ty284 : TyF Tryz.prog 75 3 3 56 := ⟨⟨_, _, Tryz.t56, Tryz.underlying75, rfl, rfl, rfl, by kernel_rfl, by intro h; cases h⟩⟩
instance ty285 : TyF Tryz.prog 75 4 4 74 := ⟨⟨_, _, Tryz.t74, Tryz.underlying75, rfl, rfl, rfl, by kernel_rfl, by intro h; cases h⟩⟩
instance ty286 : TyF Tryz.prog 75 5 5 3 := ⟨⟨_, _, Tryz.t3, Tryz.underlying75, rfl, rfl, rfl, by kernel_rfl, by intro h; cases h⟩⟩
instance ty287 : TyF Tryz.prog 75 6 6 3 := ⟨⟨_, _, Tryz.t3, Tryz.underlying75, rfl, rfl, rfl, by kernel_rfl, by intro h; cases h⟩⟩
instance ty288 : TyI Tryz.prog 76 true 7 72 (.pointer none :: (.pointer none :: (.int .i64 0 :: (.slice none 0 0 :: (.map none :: (.int .i64 0 :: [.int .i64 0])))))) := ⟨⟨Tryz.t76, by kernel_rfl, by kernel_rfl, by kernel_rfl, by kernel_rfl, (fun h => by cases h), by kernel_rfl, by kernel_rfl⟩, Tryz.isAgg76⟩
instance ty289 : TyS Tryz.prog 76 [(0, 1), (1, 1), (2, 1), (3, 1), (4, 1), (5, 1), (6, 1)] := ⟨_, Tryz.underlying76, fun w => by simp [Tryz.sizeOf24, Tryz.sizeOf28, Tryz.sizeOf3, Tryz.sizeOf56, Tryz.sizeOf74]⟩
instance ty290 : TyF Tryz.prog 76 0 0 24 := ⟨⟨_, _, Tryz.t24, Tryz.underlying76, rfl, rfl, rfl, by kernel_rfl, by intro h; cases h⟩⟩
instance ty291 : TyF Tryz.prog 76 1 1 28 := ⟨⟨_, _, Tryz.t28, Tryz.underlying76, rfl, rfl, rfl, by kernel_rfl, by intro h; cases h⟩⟩
instance ty292 : TyF Tryz.prog 76 2 2 3 := ⟨⟨_, _, Tryz.t3, Tryz.underlying76, rfl, rfl, rfl, by kernel_rfl, by intro h; cases h⟩⟩
instance ty293 : TyF Tryz.prog 76 3 3 56 := ⟨⟨_, _, Tryz.t56, Tryz.underlying76, rfl, rfl, rfl, by kernel_rfl, by intro h; cases h⟩⟩
instance ty294 : TyF Tryz.prog 76 4 4 74 := ⟨⟨_, _, Tryz.t74, Tryz.underlying76, rfl, rfl, rfl, by kernel_rfl, by intro h; cases h⟩⟩
instance ty295 : TyF Tryz.prog 76 5 5 3 := ⟨⟨_, _, Tryz.t3, Tryz.underlying76, rfl, rfl, rfl, by kernel_rfl, by intro h; cases h⟩⟩
instance ty296 : TyF Tryz.prog 76 6 6 3 := ⟨⟨_, _, Tryz.t3, Tryz.underlying76, rfl, rfl, rfl, by kernel_rfl, by intro h; cases h⟩⟩
instance ty300 : TyF Tryz.prog 78 0 0 4 := ⟨⟨_, _, Tryz.t4, Tryz.underlying78, rfl, rfl, rfl, by kernel_rfl, by intro h; cases h⟩⟩
instance ty301 : TyF Tryz.prog 78 1 1 3 := ⟨⟨_, _, Tryz.t3, Tryz.underlying78, rfl, rfl, rfl, by kernel_rfl, by intro h; cases h⟩⟩
instance ty302 : TyF Tryz.prog 78 2 2 56 := ⟨⟨_, _, Tryz.t56, Tryz.underlying78, rfl, rfl, rfl, by kernel_rfl, by intro h; cases h⟩⟩
instance ty303 : TyI Tryz.prog 79 true 3 40 (.bool false :: (.int .i64 0 :: [.slice none 0 0])) := ⟨⟨Tryz.t79, by kernel_rfl, by kernel_rfl, by kernel_rfl, by kernel_rfl, (fun h => by cases h), by kernel_rfl, by kernel_rfl⟩, Tryz.isAgg79⟩
instance ty304 : TyS Tryz.prog 79 [(0, 1), (1, 1), (2, 1)] := ⟨_, Tryz.underlying79, fun w => by simp [Tryz.sizeOf4, Tryz.sizeOf3, Tryz.sizeOf56]⟩
instance ty305 : TyF Tryz.prog 79 0 0 4 := ⟨⟨_, _, Tryz.t4, Tryz.underlying79, rfl, rfl, rfl, by kernel_rfl, by intro h; cases h⟩⟩
instance ty306 : TyF Tryz.prog 79 1 1 3 := ⟨⟨_, _, Tryz.t3, Tryz.underlying79, rfl, rfl, rfl, by kernel_rfl, by intro h; cases h⟩⟩
instance ty307 : TyF Tryz.prog 79 2 2 56 := ⟨⟨_, _, Tryz.t56, Tryz.underlying79, rfl, rfl, rfl, by kernel_rfl, by intro h; cases h⟩⟩
instance ty308 : TyU Tryz.prog 80 (.array 2 79) := ⟨Tryz.underlying80⟩
instance ty309 : TyI Tryz.prog 80 true 6 80 (.bool false :: (.int .i64 0 :: (.slice none 0 0 :: (.bool false :: (.int .i64 0 :: [.slice none 0 0]))))) := ⟨⟨Tryz.t80, by kernel_rfl, by kernel_rfl, by kernel_rfl, by kernel_rfl, (fun h => by cases h), by kernel_rfl, by kernel_rfl⟩, Tryz.isAgg80⟩
instance ty312 : TyF Tryz.prog 81 0 0 24 := ⟨⟨_, _, Tryz.t24, Tryz.underlying81, rfl, rfl, rfl, by kernel_rfl, by intro h; cases h⟩⟩
instance ty313 : TyF Tryz.prog 81 1 1 3 := ⟨⟨_, _, Tryz.t3, Tryz.underlying81, rfl, rfl, rfl, by kernel_rfl, by intro h; cases h⟩⟩
instance ty314 : TyF Tryz.prog 81 2 2 80 := ⟨⟨_, _, Tryz.t80, Tryz.underlying81, rfl, rfl, rfl, by kernel_rfl, by intro h; cases h⟩⟩
instance ty315 : TyI Tryz.prog 82 true 8 96 (.pointer none :: (.int .i64 0 :: (.bool false :: (.int .i64 0 :: (.slice none 0 0 :: (.bool false :: (.int .i64 0 :: [.slice none 0 0]))))))) := ⟨⟨Tryz.t82, by kernel_rfl, by kernel_rfl, by kernel_rfl, by kernel_rfl, (fun h => by cases h), by kernel_rfl, by kernel_rfl⟩, Tryz.isAgg82⟩
instance ty316 : TyS Tryz.prog 82 [(0, 1), (1, 1), (2, 6)] := ⟨_, Tryz.underlying82, fun w => by simp [Tryz.sizeOf24, Tryz.sizeOf3, Tryz.sizeOf80]⟩
instance ty317 : TyF Tryz.prog 82 0 0 24 := ⟨⟨_, _, Tryz.t24, Tryz.underlying82, rfl, rfl, rfl, by kernel_rfl, by intro h; cases h⟩⟩
instance ty318 : TyF Tryz.prog 82 1 1 3 := ⟨⟨_, _, Tryz.t3, Tryz.underlying82, rfl, rfl, rfl, by kernel_rfl, by intro h; cases h⟩⟩
instance ty319 : TyF Tryz.prog 82 2 2 80 := ⟨⟨_, _, Tryz.t80, Tryz.underlying82, rfl, rfl, rfl, by kernel_rfl, by intro h; cases h⟩⟩
instance ty323 : TyI Tryz.prog 86 false 1 8 ([.pointer none]) := ⟨⟨Tryz.t86, by kernel_rfl, by kernel_rfl, by kernel_rfl, by kernel_rfl, (fun _ => ⟨_, rfl, rfl⟩), by kernel_rfl, by kernel_rfl⟩, Tryz.isAgg86⟩
instance ty327 : TyF Tryz.prog 88 0 0 31 := ⟨⟨_, _, Tryz.t31, Tryz.underlying88, rfl, rfl, rfl, by kernel_rfl, by intro h; cases h⟩⟩
instance ty328 : TyF Tryz.prog 88 1 1 3 := ⟨⟨_, _, Tryz.t3, Tryz.underlying88, rfl, rfl, rfl, by kernel_rfl, by intro h; cases h⟩⟩
instance ty329 : TyF Tryz.prog 88 2 2 3 := ⟨⟨_, _, Tryz.t3, Tryz.underlying88, rfl, rfl, rfl, by kernel_rfl, by intro h; cases h⟩⟩
instance ty330 : TyF Tryz.prog 88 3 3 3 := ⟨⟨_, _, Tryz.t3, Tryz.underlying88, rfl, rfl, rfl, by kernel_rfl, by intro h; cases h⟩⟩
instance ty331 : TyI Tryz.prog 89 true 4 32 (.pointer none :: (.int .i64 0 :: (.int .i64 0 :: [.int .i64 0]))) := ⟨⟨Tryz.t89, by kernel_rfl, by kernel_rfl, by kernel_rfl, by kernel_rfl, (fun h => by cases h), by kernel_rfl, by kernel_rfl⟩, Tryz.isAgg89⟩
instance ty332 : TyS Tryz.prog 89 [(0, 1), (1, 1), (2, 1), (3, 1)] := ⟨_, Tryz.underlying89, fun w => by simp [Tryz.sizeOf31, Tryz.sizeOf3]⟩
instance ty333 : TyF Tryz.prog 89 0 0 31 := ⟨⟨_, _, Tryz.t31, Tryz.underlying89, rfl, rfl, rfl, by kernel_rfl, by intro h; cases h⟩⟩
instance ty334 : TyF Tryz.prog 89 1 1 3 := ⟨⟨_, _, Tryz.t3, Tryz.underlying89, rfl, rfl, rfl, by kernel_rfl, by intro h; cases h⟩⟩
instance ty335 : TyF Tryz.prog 89 2 2 3 := ⟨⟨_, _, Tryz.t3, Tryz.underlying89, rfl, rfl, rfl, by kernel_rfl, by intro h; cases h⟩⟩
instance ty336 : TyF Tryz.prog 89 3 3 3 := ⟨⟨_, _, Tryz.t3, Tryz.underlying89, rfl, rfl, rfl, by kernel_rfl, by intro h; cases h⟩⟩
instance ty341 : TyU Tryz.prog 95 (.slice 44) := ⟨Tryz.underlying95⟩
instance ty342 : TyI Tryz.prog 95 false 1 24 ([.slice none 0 0]) := ⟨⟨Tryz.t95, by kernel_rfl, by kernel_rfl, by kernel_rfl, by kernel_rfl, (fun _ => ⟨_, rfl, rfl⟩), by kernel_rfl, by kernel_rfl⟩, Tryz.isAgg95⟩
instance ty345 : TyF Tryz.prog 96 0 0 4 := ⟨⟨_, _, Tryz.t4, Tryz.underlying96, rfl, rfl, rfl, by kernel_rfl, by intro h; cases h⟩⟩
instance ty346 : TyF Tryz.prog 96 1 1 95 := ⟨⟨_, _, Tryz.t95, Tryz.underlying96, rfl, rfl, rfl, by kernel_rfl, by intro h; cases h⟩⟩
instance ty347 : TyF Tryz.prog 96 2 2 95 := ⟨⟨_, _, Tryz.t95, Tryz.underlying96, rfl, rfl, rfl, by kernel_rfl, by intro h; cases h⟩⟩
instance ty348 : TyF Tryz.prog 96 3 3 56 := ⟨⟨_, _, Tryz.t56, Tryz.underlying96, rfl, rfl, rfl, by kernel_rfl, by intro h; cases h⟩⟩
instance ty349 : TyI Tryz.prog 97 true 4 80 (.bool false :: (.slice none 0 0 :: (.slice none 0 0 :: [.slice none 0 0]))) := ⟨⟨Tryz.t97, by kernel_rfl, by kernel_rfl, by kernel_rfl, by kernel_rfl, (fun h => by cases h), by kernel_rfl, by kernel_rfl⟩, Tryz.isAgg97⟩
instance ty350 : TyS Tryz.prog 97 [(0, 1), (1, 1), (2, 1), (3, 1)] := ⟨_, Tryz.underlying97, fun w => by simp [Tryz.sizeOf4, Tryz.sizeOf95, Tryz.sizeOf56]⟩
instance ty351 : TyF Tryz.prog 97 0 0 4 := ⟨⟨_, _, Tryz.t4, Tryz.underlying97, rfl, rfl, rfl, by kernel_rfl, by intro h; cases h⟩⟩
instance ty352 : TyF Tryz.prog 97 1 1 95 := ⟨⟨_, _, Tryz.t95, Tryz.underlying97, rfl, rfl, rfl, by kernel_rfl, by intro h; cases h⟩⟩
instance ty353 : TyF Tryz.prog 97 2 2 95 := ⟨⟨_, _, Tryz.t95, Tryz.underlying97, rfl, rfl, rfl, by kernel_rfl, by intro h; cases h⟩⟩
instance ty354 : TyF Tryz.prog 97 3 3 56 := ⟨⟨_, _, Tryz.t56, Tryz.underlying97, rfl, rfl, rfl, by kernel_rfl, by intro h; cases h⟩⟩
instance ty357 : TyF Tryz.prog 98 0 0 3 := ⟨⟨_, _, Tryz.t3, Tryz.underlying98, rfl, rfl, rfl, by kernel_rfl, by intro h; cases h⟩⟩
instance ty358 : TyF Tryz.prog 98 1 1 3 := ⟨⟨_, _, Tryz.t3, Tryz.underlying98, rfl, rfl, rfl, by kernel_rfl, by intro h; cases h⟩⟩
instance ty359 : TyF Tryz.prog 98 2 2 44 := ⟨⟨_, _, Tryz.t44, Tryz.underlying98, rfl, rfl, rfl, by kernel_rfl, by intro h; cases h⟩⟩
instance ty360 : TyF Tryz.prog 98 3 3 3 := ⟨⟨_, _, Tryz.t3, Tryz.underlying98, rfl, rfl, rfl, by kernel_rfl, by intro h; cases h⟩⟩
instance ty361 : TyI Tryz.prog 99 true 4 48 (.int .i64 0 :: (.int .i64 0 :: (.slice none 0 0 :: [.int .i64 0]))) := ⟨⟨Tryz.t99, by kernel_rfl, by kernel_rfl, by kernel_rfl, by kernel_rfl, (fun h => by cases h), by kernel_rfl, by kernel_rfl⟩, Tryz.isAgg99⟩
instance ty362 : TyS Tryz.prog 99 [(0, 1), (1, 1), (2, 1), (3, 1)] := ⟨_, Tryz.underlying99, fun w => by simp [Tryz.sizeOf3, Tryz.sizeOf44]⟩
instance ty363 : TyF Tryz.prog 99 0 0 3 := ⟨⟨_, _, Tryz.t3, Tryz.underlying99, rfl, rfl, rfl, by kernel_rfl, by intro h; cases h⟩⟩
instance ty364 : TyF Tryz.prog 99 1 1 3 := ⟨⟨_, _, Tryz.t3, Tryz.underlying99, rfl, rfl, rfl, by kernel_rfl, by intro h; cases h⟩⟩
instance ty365 : TyF Tryz.prog 99 2 2 44 := ⟨⟨_, _, Tryz.t44, Tryz.underlying99, rfl, rfl, rfl, by kernel_rfl, by intro h; cases h⟩⟩
instance ty366 : TyF Tryz.prog 99 3 3 3 := ⟨⟨_, _, Tryz.t3, Tryz.underlying99, rfl, rfl, rfl, by kernel_rfl, by intro h; cases h⟩⟩
instance ty373 : TyF Tryz.prog 105 0 0 9 := ⟨⟨_, _, Tryz.t9, Tryz.underlying105, rfl, rfl, rfl, by kernel_rfl, by intro h; cases h⟩⟩
instance ty374 : TyF Tryz.prog 105 1 1 9 := ⟨⟨_, _, Tryz.t9, Tryz.underlying105, rfl, rfl, rfl, by kernel_rfl, by intro h; cases h⟩⟩
instance ty375 : TyI Tryz.prog 106 true 2 32 (.string ⟨#[]⟩ :: [.string ⟨#[]⟩]) := ⟨⟨Tryz.t106, by kernel_rfl, by kernel_rfl, by kernel_rfl, by kernel_rfl, (fun h => by cases h), by kernel_rfl, by kernel_rfl⟩, Tryz.isAgg106⟩
instance ty376 : TyS Tryz.prog 106 [(0, 1), (1, 1)] := ⟨_, Tryz.underlying106, fun w => by simp [Tryz.sizeOf9]⟩
instance ty377 : TyF Tryz.prog 106 0 0 9 := ⟨⟨_, _, Tryz.t9, Tryz.underlying106, rfl, rfl, rfl, by kernel_rfl, by intro h; cases h⟩⟩
instance ty378 : TyF Tryz.prog 106 1 1 9 := ⟨⟨_, _, Tryz.t9, Tryz.underlying106, rfl, rfl, rfl, by kernel_rfl, by intro h; cases h⟩⟩
instance ty384 : TyU Tryz.prog 112 (.array 256 5) := ⟨Tryz.underlying112⟩
instance ty385 : TyI Tryz.prog 112 true 256 256 (reps 256 (.int .u8 0)) := ⟨⟨Tryz.t112, by kernel_rfl, by kernel_rfl, by kernel_rfl, by kernel_rfl, (fun h => by cases h), by kernel_rfl, by kernel_rfl⟩, Tryz.isAgg112⟩
instance ty388 : TyF Tryz.prog 113 0 0 3 := ⟨⟨_, _, Tryz.t3, Tryz.underlying113, rfl, rfl, rfl, by kernel_rfl, by intro h; cases h⟩⟩
instance ty389 : TyF Tryz.prog 113 1 1 112 := ⟨⟨_, _, Tryz.t112, Tryz.underlying113, rfl, rfl, rfl, by kernel_rfl, by intro h; cases h⟩⟩
instance ty390 : TyI Tryz.prog 114 true 257 264 (.int .i64 0 :: reps 256 (.int .u8 0)) := ⟨⟨Tryz.t114, by kernel_rfl, by kernel_rfl, by kernel_rfl, by kernel_rfl, (fun h => by cases h), by kernel_rfl, by kernel_rfl⟩, Tryz.isAgg114⟩
instance ty391 : TyS Tryz.prog 114 [(0, 1), (1, 256)] := ⟨_, Tryz.underlying114, fun w => by simp [Tryz.sizeOf3, Tryz.sizeOf112]⟩
instance ty392 : TyF Tryz.prog 114 0 0 3 := ⟨⟨_, _, Tryz.t3, Tryz.underlying114, rfl, rfl, rfl, by kernel_rfl, by intro h; cases h⟩⟩
instance ty393 : TyF Tryz.prog 114 1 1 112 := ⟨⟨_, _, Tryz.t112, Tryz.underlying114, rfl, rfl, rfl, by kernel_rfl, by intro h; cases h⟩⟩
instance ty397 : TyF Tryz.prog 117 0 0 4 := ⟨⟨_, _, Tryz.t4, Tryz.underlying117, rfl, rfl, rfl, by kernel_rfl, by intro h; cases h⟩⟩
instance ty398 : TyF Tryz.prog 117 1 1 3 := ⟨⟨_, _, Tryz.t3, Tryz.underlying117, rfl, rfl, rfl, by kernel_rfl, by intro h; cases h⟩⟩
instance ty399 : TyF Tryz.prog 117 2 2 3 := ⟨⟨_, _, Tryz.t3, Tryz.underlying117, rfl, rfl, rfl, by kernel_rfl, by intro h; cases h⟩⟩
instance ty400 : TyF Tryz.prog 117 3 3 4 := ⟨⟨_, _, Tryz.t4, Tryz.underlying117, rfl, rfl, rfl, by kernel_rfl, by intro h; cases h⟩⟩
instance ty401 : TyF Tryz.prog 117 4 4 44 := ⟨⟨_, _, Tryz.t44, Tryz.underlying117, rfl, rfl, rfl, by kernel_rfl, by intro h; cases h⟩⟩
instance ty402 : TyI Tryz.prog 118 true 5 56 (.bool false :: (.int .i64 0 :: (.int .i64 0 :: (.bool false :: [.slice none 0 0])))) := ⟨⟨Tryz.t118, by kernel_rfl, by kernel_rfl, by kernel_rfl, by kernel_rfl, (fun h => by cases h), by kernel_rfl, by kernel_rfl⟩, Tryz.isAgg118⟩
instance ty403 : TyS Tryz.prog 118 [(0, 1), (1, 1), (2, 1), (3, 1), (4, 1)] := ⟨_, Tryz.underlying118, fun w => by simp [Tryz.sizeOf4, Tryz.sizeOf3, Tryz.sizeOf44]⟩
instance ty404 : TyF Tryz.prog 118 0 0 4 := ⟨⟨_, _, Tryz.t4, Tryz.underlying118, rfl, rfl, rfl, by kernel_rfl, by intro h; cases h⟩⟩
instance ty405 : TyF Tryz.prog 118 1 1 3 := ⟨⟨_, _, Tryz.t3, Tryz.underlying118, rfl, rfl, rfl, by kernel_rfl, by intro h; cases h⟩⟩
instance ty406 : TyF Tryz.prog 118 2 2 3 := ⟨⟨_, _, Tryz.t3, Tryz.underlying118, rfl, rfl, rfl, by kernel_rfl, by intro h; cases h⟩⟩
instance ty407 : TyF Tryz.prog 118 3 3 4 := ⟨⟨_, _, Tryz.t4, Tryz.underlying118, rfl, rfl, rfl, by kernel_rfl, by intro h; cases h⟩⟩
instance ty408 : TyF Tryz.prog 118 4 4 44 := ⟨⟨_, _, Tryz.t44, Tryz.underlying118, rfl, rfl, rfl, by kernel_rfl, by intro h; cases h⟩⟩
instance ty419 : TyF Tryz.prog 127 0 0 31 := ⟨⟨_, _, Tryz.t31, Tryz.underlying127, rfl, rfl, rfl, by kernel_rfl, by intro h; cases h⟩⟩
instance ty420 : TyF Tryz.prog 127 1 1 3 := ⟨⟨_, _, Tryz.t3, Tryz.underlying127, rfl, rfl, rfl, by kernel_rfl, by intro h; cases h⟩⟩
instance ty421 : TyF Tryz.prog 127 2 2 56 := ⟨⟨_, _, Tryz.t56, Tryz.underlying127, rfl, rfl, rfl, by kernel_rfl, by intro h; cases h⟩⟩
instance ty422 : TyF Tryz.prog 127 3 3 74 := ⟨⟨_, _, Tryz.t74, Tryz.underlying127, rfl, rfl, rfl, by kernel_rfl, by intro h; cases h⟩⟩
instance ty423 : TyI Tryz.prog 128 true 4 48 (.pointer none :: (.int .i64 0 :: (.slice none 0 0 :: [.map none]))) := ⟨⟨Tryz.t128, by kernel_rfl, by kernel_rfl, by kernel_rfl, by kernel_rfl, (fun h => by cases h), by kernel_rfl, by kernel_rfl⟩, Tryz.isAgg128⟩
instance ty424 : TyS Tryz.prog 128 [(0, 1), (1, 1), (2, 1), (3, 1)] := ⟨_, Tryz.underlying128, fun w => by simp [Tryz.sizeOf31, Tryz.sizeOf3, Tryz.sizeOf56, Tryz.sizeOf74]⟩
instance ty425 : TyF Tryz.prog 128 0 0 31 := ⟨⟨_, _, Tryz.t31, Tryz.underlying128, rfl, rfl, rfl, by kernel_rfl, by intro h; cases h⟩⟩
instance ty426 : TyF Tryz.prog 128 1 1 3 := ⟨⟨_, _, Tryz.t3, Tryz.underlying128, rfl, rfl, rfl, by kernel_rfl, by intro h; cases h⟩⟩
instance ty427 : TyF Tryz.prog 128 2 2 56 := ⟨⟨_, _, Tryz.t56, Tryz.underlying128, rfl, rfl, rfl, by kernel_rfl, by intro h; cases h⟩⟩
instance ty428 : TyF Tryz.prog 128 3 3 74 := ⟨⟨_, _, Tryz.t74, Tryz.underlying128, rfl, rfl, rfl, by kernel_rfl, by intro h; cases h⟩⟩
instance ty498 : TyF Tryz.prog 202 0 0 17 := ⟨⟨_, _, Tryz.t17, Tryz.underlying202, rfl, rfl, rfl, by kernel_rfl, by intro h; cases h⟩⟩
instance ty499 : TyF Tryz.prog 202 1 1 17 := ⟨⟨_, _, Tryz.t17, Tryz.underlying202, rfl, rfl, rfl, by kernel_rfl, by intro h; cases h⟩⟩
instance ty500 : TyF Tryz.prog 202 2 2 17 := ⟨⟨_, _, Tryz.t17, Tryz.underlying202, rfl, rfl, rfl, by kernel_rfl, by intro h; cases h⟩⟩
instance ty501 : TyF Tryz.prog 202 3 3 9 := ⟨⟨_, _, Tryz.t9, Tryz.underlying202, rfl, rfl, rfl, by kernel_rfl, by intro h; cases h⟩⟩
instance ty504 : TyF Tryz.prog 203 0 0 17 := ⟨⟨_, _, Tryz.t17, Tryz.underlying203, rfl, rfl, rfl, by kernel_rfl, by intro h; cases h⟩⟩
instance ty505 : TyF Tryz.prog 203 1 1 17 := ⟨⟨_, _, Tryz.t17, Tryz.underlying203, rfl, rfl, rfl, by kernel_rfl, by intro h; cases h⟩⟩
instance ty506 : TyF Tryz.prog 203 2 2 17 := ⟨⟨_, _, Tryz.t17, Tryz.underlying203, rfl, rfl, rfl, by kernel_rfl, by intro h; cases h⟩⟩
instance ty507 : TyF Tryz.prog 203 3 3 9 := ⟨⟨_, _, Tryz.t9, Tryz.underlying203, rfl, rfl, rfl, by kernel_rfl, by intro h; cases h⟩⟩
instance ty522 : TyF Tryz.prog 213 0 0 12 := ⟨⟨_, _, Tryz.t12, Tryz.underlying213, rfl, rfl, rfl, by kernel_rfl, by intro h; cases h⟩⟩
instance ty523 : TyF Tryz.prog 213 1 1 12 := ⟨⟨_, _, Tryz.t12, Tryz.underlying213, rfl, rfl, rfl, by kernel_rfl, by intro h; cases h⟩⟩
instance ty524 : TyF Tryz.prog 213 2 2 147 := ⟨⟨_, _, Tryz.t147, Tryz.underlying213, rfl, rfl, rfl, by kernel_rfl, by intro h; cases h⟩⟩
instance ty525 : TyF Tryz.prog 213 3 3 207 := ⟨⟨_, _, Tryz.t207, Tryz.underlying213, rfl, rfl, rfl, by kernel_rfl, by intro h; cases h⟩⟩
instance ty526 : TyF Tryz.prog 213 4 4 5 := ⟨⟨_, _, Tryz.t5, Tryz.underlying213, rfl, rfl, rfl, by kernel_rfl, by intro h; cases h⟩⟩
instance ty527 : TyF Tryz.prog 213 5 5 5 := ⟨⟨_, _, Tryz.t5, Tryz.underlying213, rfl, rfl, rfl, by kernel_rfl, by intro h; cases h⟩⟩
instance ty528 : TyF Tryz.prog 213 6 6 208 := ⟨⟨_, _, Tryz.t208, Tryz.underlying213, rfl, rfl, rfl, by kernel_rfl, by intro h; cases h⟩⟩
instance ty529 : TyF Tryz.prog 213 7 7 209 := ⟨⟨_, _, Tryz.t209, Tryz.underlying213, rfl, rfl, rfl, by kernel_rfl, by intro h; cases h⟩⟩
instance ty530 : TyF Tryz.prog 213 8 8 210 := ⟨⟨_, _, Tryz.t210, Tryz.underlying213, rfl, rfl, rfl, by kernel_rfl, by intro h; cases h⟩⟩
instance ty531 : TyF Tryz.prog 213 9 9 211 := ⟨⟨_, _, Tryz.t211, Tryz.underlying213, rfl, rfl, rfl, by kernel_rfl, by intro h; cases h⟩⟩
instance ty532 : TyF Tryz.prog 213 10 10 212 := ⟨⟨_, _, Tryz.t212, Tryz.underlying213, rfl, rfl, rfl, by kernel_rfl, by intro h; cases h⟩⟩
instance ty535 : TyF Tryz.prog 214 0 0 12 := ⟨⟨_, _, Tryz.t12, Tryz.underlying214, rfl, rfl, rfl, by kernel_rfl, by intro h; cases h⟩⟩
instance ty536 : TyF Tryz.prog 214 1 1 12 := ⟨⟨_, _, Tryz.t12, Tryz.underlying214, rfl, rfl, rfl, by kernel_rfl, by intro h; cases h⟩⟩
instance ty537 : TyF Tryz.prog 214 2 2 147 := ⟨⟨_, _, Tryz.t147, Tryz.underlying214, rfl, rfl, rfl, by kernel_rfl, by intro h; cases h⟩⟩
instance ty538 : TyF Tryz.prog 214 3 3 207 := ⟨⟨_, _, Tryz.t207, Tryz.underlying214, rfl, rfl, rfl, by kernel_rfl, by intro h; cases h⟩⟩
instance ty539 : TyF Tryz.prog 214 4 4 5 := ⟨⟨_, _, Tryz.t5, Tryz.underlying214, rfl, rfl, rfl, by kernel_rfl, by intro h; cases h⟩⟩
instance ty540 : TyF Tryz.prog 214 5 5 5 := ⟨⟨_, _, Tryz.t5, Tryz.underlying214, rfl, rfl, rfl, by kernel_rfl, by intro h; cases h⟩⟩
instance ty541 : TyF Tryz.prog 214 6 6 208 := ⟨⟨_, _, Tryz.t208, Tryz.underlying214, rfl, rfl, rfl, by kernel_rfl, by intro h; cases h⟩⟩
instance ty542 : TyF Tryz.prog 214 7 7 209 := ⟨⟨_, _, Tryz.t209, Tryz.underlying214, rfl, rfl, rfl, by kernel_rfl, by intro h; cases h⟩⟩
instance ty543 : TyF Tryz.prog 214 8 8 210 := ⟨⟨_, _, Tryz.t210, Tryz.underlying214, rfl, rfl, rfl, by kernel_rfl, by intro h; cases h⟩⟩
instance ty544 : TyF Tryz.prog 214 9 9 211 := ⟨⟨_, _, Tryz.t211, Tryz.underlying214, rfl, rfl, rfl, by kernel_rfl, by intro h; cases h⟩⟩
instance ty545 : TyF Tryz.prog 214 10 10 212 := ⟨⟨_, _, Tryz.t212, Tryz.underlying214, rfl, rfl, rfl, by kernel_rfl, by intro h; cases h⟩⟩
def tab : Tab := ⟨[(2, (.int .i64)), (3, (.int .i64)), (4, .bool), (5, (.int .u8)), (6, (.int .u8)), (9, .string), (10, .string), (11, .string), (12, (.int .u64)), (15, (.pointer 203)), (16, (.pointer 206)), (17, (.pointer 214)), (21, (.int .i32)), (22, (.slice 43)), (23, (.slice 4)), (24, (.pointer 67)), (25, (.int .i64)), (28, (.pointer 72)), (31, (.pointer 76)), (34, (.pointer 82)), (37, (.pointer 89)), (41, (.int .u64)), (42, (.slice 106)), (43, (.slice 46)), (44, (.slice 5)), (56, (.slice 3)), (64, (.slice 112)), (65, (.slice 114)), (69, (.slice 118)), (74, (.map 3 44)), (80, (.array 2 79)), (86, (.pointer 128)), (95, (.slice 44)), (112, (.array 256 5)), (131, (.int .u64)), (147, (.int .u32)), (149, (.pointer 118)), (193, (.pointer 44)), (204, (.array 0 16)), (207, (.int .u8)), (208, (.int .u8)), (210, (.pointer 5)), (211, (.int .i32)), (212, (.int .i32))],
  [(1, 1), (2, 1), (3, 1), (4, 1), (5, 1), (6, 1), (7, 4), (8, 4), (9, 1), (10, 1), (11, 1), (12, 1), (13, 2), (14, 2), (15, 1), (16, 1), (17, 1), (18, 1), (19, 1), (20, 1), (21, 1), (22, 1), (23, 1), (24, 1), (25, 1), (27, 1), (28, 1), (30, 1), (31, 1), (33, 1), (34, 1), (36, 1), (37, 1), (39, 1), (40, 1), (41, 1), (42, 1), (43, 1), (44, 1), (45, 3), (46, 3), (47, 1), (48, 1), (49, 1), (51, 1), (53, 1), (54, 1), (55, 1), (56, 1), (57, 1), (58, 1), (60, 1), (61, 1), (62, 1), (63, 1), (64, 1), (65, 1), (66, 4), (67, 4), (68, 1), (69, 1), (70, 1), (71, 6), (72, 6), (73, 1), (74, 1), (75, 7), (76, 7), (77, 1), (78, 3), (79, 3), (80, 6), (81, 8), (82, 8), (84, 1), (85, 1), (86, 1), (87, 1), (88, 4), (89, 4), (90, 1), (91, 1), (92, 1), (94, 1), (95, 1), (96, 4), (97, 4), (98, 4), (99, 4), (101, 1), (102, 1), (103, 1), (104, 1), (105, 2), (106, 2), (107, 1), (108, 1), (109, 1), (110, 1), (111, 1), (112, 256), (113, 257), (114, 257), (116, 1), (117, 5), (118, 5), (119, 1), (120, 1), (121, 1), (122, 1), (123, 1), (124, 1), (125, 1), (126, 1), (127, 4), (128, 4), (129, 1), (130, 1), (131, 1), (132, 1), (133, 1), (135, 1), (137, 1), (138, 1), (139, 1), (141, 1), (142, 1), (143, 1), (144, 1), (145, 1), (146, 1), (147, 1), (148, 1), (149, 1), (151, 1), (152, 1), (153, 1), (155, 1), (156, 1), (157, 1), (158, 1), (159, 1), (161, 1), (162, 1), (163, 1), (164, 1), (165, 1), (167, 1), (168, 1), (169, 1), (170, 1), (171, 1), (172, 1), (173, 1), (175, 1), (176, 1), (177, 1), (178, 1), (179, 1), (180, 1), (182, 1), (183, 1), (184, 1), (185, 1), (186, 1), (187, 1), (188, 1), (189, 1), (190, 1), (191, 1), (192, 1), (193, 1), (195, 1), (196, 1), (197, 1), (198, 1), (199, 1), (200, 1), (201, 1), (202, 4), (203, 4), (207, 1), (208, 1), (209, 1), (210, 1), (211, 1), (212, 1), (213, 11), (214, 11), (215, 1)],
  [(7, 0, 0), (7, 1, 1), (7, 2, 2), (7, 3, 3), (8, 0, 0), (8, 1, 1), (8, 2, 2), (8, 3, 3), (13, 0, 0), (13, 1, 1), (14, 0, 0), (14, 1, 1), (18, 0, 0), (19, 0, 0), (45, 0, 0), (45, 1, 1), (45, 2, 2), (46, 0, 0), (46, 1, 1), (46, 2, 2), (66, 0, 0), (66, 1, 1), (66, 2, 2), (66, 3, 3), (67, 0, 0), (67, 1, 1), (67, 2, 2), (67, 3, 3), (71, 0, 0), (71, 1, 1), (71, 2, 2), (71, 3, 3), (71, 4, 4), (71, 5, 5), (72, 0, 0), (72, 1, 1), (72, 2, 2), (72, 3, 3), (72, 4, 4), (72, 5, 5), (75, 0, 0), (75, 1, 1), (75, 2, 2), (75, 3, 3), (75, 4, 4), (75, 5, 5), (75, 6, 6), (76, 0, 0), (76, 1, 1), (76, 2, 2), (76, 3, 3), (76, 4, 4), (76, 5, 5), (76, 6, 6), (78, 0, 0), (78, 1, 1), (78, 2, 2), (79, 0, 0), (79, 1, 1), (79, 2, 2), (81, 0, 0), (81, 1, 1), (81, 2, 2), (82, 0, 0), (82, 1, 1), (82, 2, 2), (88, 0, 0), (88, 1, 1), (88, 2, 2), (88, 3, 3), (89, 0, 0), (89, 1, 1), (89, 2, 2), (89, 3, 3), (96, 0, 0), (96, 1, 1), (96, 2, 2), (96, 3, 3), (97, 0, 0), (97, 1, 1), (97, 2, 2), (97, 3, 3), (98, 0, 0), (98, 1, 1), (98, 2, 2), (98, 3, 3), (99, 0, 0), (99, 1, 1), (99, 2, 2), (99, 3, 3), (105, 0, 0), (105, 1, 1), (106, 0, 0), (106, 1, 1), (113, 0, 0), (113, 1, 1), (114, 0, 0), (114, 1, 1), (117, 0, 0), (117, 1, 1), (117, 2, 2), (117, 3, 3), (117, 4, 4), (118, 0, 0), (118, 1, 1), (118, 2, 2), (118, 3, 3), (118, 4, 4), (127, 0, 0), (127, 1, 1), (127, 2, 2), (127, 3, 3), (128, 0, 0), (128, 1, 1), (128, 2, 2), (128, 3, 3), (202, 0, 0), (202, 1, 1), (202, 2, 2), (202, 3, 3), (203, 0, 0), (203, 1, 1), (203, 2, 2), (203, 3, 3), (213, 0, 0), (213, 1, 1), (213, 2, 2), (213, 3, 3), (213, 4, 4), (213, 5, 5), (213, 6, 6), (213, 7, 7), (213, 8, 8), (213, 9, 9), (213, 10, 10), (214, 0, 0), (214, 1, 1), (214, 2, 2), (214, 3, 3), (214, 4, 4), (214, 5, 5), (214, 6, 6), (214, 7, 7), (214, 8, 8), (214, 9, 9), (214, 10, 10)]⟩
instance ty547 : TabOk Tryz.prog tab where
  u := by
    intro x hx
    simp only [tab, List.mem_cons, List.not_mem_nil, or_false] at hx
    rcases hx with rfl | rfl | rfl | rfl | rfl | rfl | rfl | rfl | rfl | rfl | rfl | rfl | rfl | rfl | rfl | rfl | rfl | rfl | rfl | rfl | rfl | rfl | rfl | rfl | rfl | rfl | rfl | rfl | rfl | rfl | rfl | rfl | rfl | rfl | rfl | rfl | rfl | rfl | rfl | rfl | rfl | rfl | rfl | rfl
    · exact Tryz.underlying2
    · exact Tryz.underlying3
    · exact Tryz.underlying4
    · exact Tryz.underlying5
    · exact Tryz.underlying6
    · exact Tryz.underlying9
    · exact Tryz.underlying10
    · exact Tryz.underlying11
    · exact Tryz.underlying12
    · exact Tryz.underlying15
    · exact Tryz.underlying16
    · exact Tryz.underlying17
    · exact Tryz.underlying21
    · exact Tryz.underlying22
    · exact Tryz.underlying23
    · exact Tryz.underlying24
    · exact Tryz.underlying25
    · exact Tryz.underlying28
    · exact Tryz.underlying31
    · exact Tryz.underlying34
    · exact Tryz.underlying37
    · exact Tryz.underlying41
    · exact Tryz.underlying42
    · exact Tryz.underlying43
    · exact Tryz.underlying44
    · exact Tryz.underlying56
    · exact Tryz.underlying64
    · exact Tryz.underlying65
    · exact Tryz.underlying69
    · exact Tryz.underlying74
    · exact Tryz.underlying80
    · exact Tryz.underlying86
    · exact Tryz.underlying95
    · exact Tryz.underlying112
    · exact Tryz.underlying131
    · exact Tryz.underlying147
    · exact Tryz.underlying149
    · exact Tryz.underlying193
    · exact Tryz.underlying204
    · exact Tryz.underlying207
    · exact Tryz.underlying208
    · exact Tryz.underlying210
    · exact Tryz.underlying211
    · exact Tryz.underlying212
  sz := by
    intro x hx
    simp only [tab, List.mem_cons, List.not_mem_nil, or_false] at hx
    rcases hx with rfl | rfl | rfl | rfl | rfl | rfl | rfl | rfl | rfl | rfl | rfl | rfl | rfl | rfl | rfl | rfl | rfl | rfl | rfl | rfl | rfl | rfl | rfl | rfl | rfl | rfl | rfl | rfl | rfl | rfl | rfl | rfl | rfl | rfl | rfl | rfl | rfl | rfl | rfl | rfl | rfl | rfl | rfl | rfl | rfl | rfl | rfl | rfl | rfl | rfl | rfl | rfl | rfl | rfl | rfl | rfl | rfl | rfl | rfl | rfl | rfl | rfl | rfl | rfl | rfl | rfl | rfl | rfl | rfl | rfl | rfl | rfl | rfl | rfl | rfl | rfl | rfl | rfl | rfl | rfl | rfl | rfl | rfl | rfl | rfl | rfl | rfl | rfl | rfl | rfl | rfl | rfl | rfl | rfl | rfl | rfl | rfl | rfl | rfl | rfl | rfl | rfl | rfl | rfl | rfl | rfl | rfl | rfl | rfl | rfl | rfl | rfl | rfl | rfl | rfl | rfl | rfl | rfl | rfl | rfl | rfl | rfl | rfl | rfl | rfl | rfl | rfl | rfl | rfl | rfl | rfl | rfl | rfl | rfl | rfl | rfl | rfl | rfl | rfl | rfl | rfl | rfl | rfl | rfl | rfl | rfl | rfl | rfl | rfl | rfl | rfl | rfl | rfl | rfl | rfl | rfl | rfl | rfl | rfl | rfl | rfl | rfl | rfl | rfl | rfl | rfl | rfl | rfl | rfl | rfl | rfl | rfl | rfl | rfl | rfl | rfl | rfl | rfl | rfl | rfl | rfl | rfl | rfl | rfl | rfl | rfl | rfl | rfl | rfl | rfl
    · exact Tryz.sizeOf1
    · exact Tryz.sizeOf2
    · exact Tryz.sizeOf3
    · exact Tryz.sizeOf4
    · exact Tryz.sizeOf5
    · exact Tryz.sizeOf6
    · exact Tryz.sizeOf7
    · exact Tryz.sizeOf8
    · exact Tryz.sizeOf9
    · exact Tryz.sizeOf10
    · exact Tryz.sizeOf11
    · exact Tryz.sizeOf12
    · exact Tryz.sizeOf13
    · exact Tryz.sizeOf14
    · exact Tryz.sizeOf15
    · exact Tryz.sizeOf16
    · exact Tryz.sizeOf17
    · exact Tryz.sizeOf18
    · exact Tryz.sizeOf19
    · exact Tryz.sizeOf20
    · exact Tryz.sizeOf21
    · exact Tryz.sizeOf22
    · exact Tryz.sizeOf23
    · exact Tryz.sizeOf24
    · exact Tryz.sizeOf25
    · exact Tryz.sizeOf27
    · exact Tryz.sizeOf28
    · exact Tryz.sizeOf30
    · exact Tryz.sizeOf31
    · exact Tryz.sizeOf33
    · exact Tryz.sizeOf34
    · exact Tryz.sizeOf36
    · exact Tryz.sizeOf37
    · exact Tryz.sizeOf39
    · exact Tryz.sizeOf40
    · exact Tryz.sizeOf41
    · exact Tryz.sizeOf42
    · exact Tryz.sizeOf43
    · exact Tryz.sizeOf44
    · exact Tryz.sizeOf45
    · exact Tryz.sizeOf46
    · exact Tryz.sizeOf47
    · exact Tryz.sizeOf48
    · exact Tryz.sizeOf49
    · exact Tryz.sizeOf51
    · exact Tryz.sizeOf53
    · exact Tryz.sizeOf54
    · exact Tryz.sizeOf55
    · exact Tryz.sizeOf56
    · exact Tryz.sizeOf57
    · exact Tryz.sizeOf58
    · exact Tryz.sizeOf60
    · exact Tryz.sizeOf61
    · exact Tryz.sizeOf62
    · exact Tryz.sizeOf63
    · exact Tryz.sizeOf64
    · exact Tryz.sizeOf65
    · exact Tryz.sizeOf66
    · exact Tryz.sizeOf67
    · exact Tryz.sizeOf68
    · exact Tryz.sizeOf69
    · exact Tryz.sizeOf70
    · exact Tryz.sizeOf71
    · exact Tryz.sizeOf72
    · exact Tryz.sizeOf73
    · exact Tryz.sizeOf74
    · exact Tryz.sizeOf75
    · exact Tryz.sizeOf76
    · exact Tryz.sizeOf77
    · exact Tryz.sizeOf78
    · exact Tryz.sizeOf79
    · exact Tryz.sizeOf80
    · exact Tryz.sizeOf81
    · exact Tryz.sizeOf82
    · exact Tryz.sizeOf84
    · exact Tryz.sizeOf85
    · exact Tryz.sizeOf86
    · exact Tryz.sizeOf87
    · exact Tryz.sizeOf88
    · exact Tryz.sizeOf89
    · exact Tryz.sizeOf90
    · exact Tryz.sizeOf91
    · exact Tryz.sizeOf92
    · exact Tryz.sizeOf94
    · exact Tryz.sizeOf95
    · exact Tryz.sizeOf96
    · exact Tryz.sizeOf97
    · exact Tryz.sizeOf98
    · exact Tryz.sizeOf99
    · exact Tryz.sizeOf101
    · exact Tryz.sizeOf102
    · exact Tryz.sizeOf103
    · exact Tryz.sizeOf104
    · exact Tryz.sizeOf105
    · exact Tryz.sizeOf106
    · exact Tryz.sizeOf107
    · exact Tryz.sizeOf108
    · exact Tryz.sizeOf109
    · exact Tryz.sizeOf110
    · exact Tryz.sizeOf111
    · exact Tryz.sizeOf112
    · exact Tryz.sizeOf113
    · exact Tryz.sizeOf114
    · exact Tryz.sizeOf116
    · exact Tryz.sizeOf117
    · exact Tryz.sizeOf118
    · exact Tryz.sizeOf119
    · exact Tryz.sizeOf120
    · exact Tryz.sizeOf121
    · exact Tryz.sizeOf122
    · exact Tryz.sizeOf123
    · exact Tryz.sizeOf124
    · exact Tryz.sizeOf125
    · exact Tryz.sizeOf126
    · exact Tryz.sizeOf127
    · exact Tryz.sizeOf128
    · exact Tryz.sizeOf129
    · exact Tryz.sizeOf130
    · exact Tryz.sizeOf131
    · exact Tryz.sizeOf132
    · exact Tryz.sizeOf133
    · exact Tryz.sizeOf135
    · exact Tryz.sizeOf137
    · exact Tryz.sizeOf138
    · exact Tryz.sizeOf139
    · exact Tryz.sizeOf141
    · exact Tryz.sizeOf142
    · exact Tryz.sizeOf143
    · exact Tryz.sizeOf144
    · exact Tryz.sizeOf145
    · exact Tryz.sizeOf146
    · exact Tryz.sizeOf147
    · exact Tryz.sizeOf148
    · exact Tryz.sizeOf149
    · exact Tryz.sizeOf151
    · exact Tryz.sizeOf152
    · exact Tryz.sizeOf153
    · exact Tryz.sizeOf155
    · exact Tryz.sizeOf156
    · exact Tryz.sizeOf157
    · exact Tryz.sizeOf158
    · exact Tryz.sizeOf159
    · exact Tryz.sizeOf161
    · exact Tryz.sizeOf162
    · exact Tryz.sizeOf163
    · exact Tryz.sizeOf164
    · exact Tryz.sizeOf165
    · exact Tryz.sizeOf167
    · exact Tryz.sizeOf168
    · exact Tryz.sizeOf169
    · exact Tryz.sizeOf170
    · exact Tryz.sizeOf171
    · exact Tryz.sizeOf172
    · exact Tryz.sizeOf173
    · exact Tryz.sizeOf175
    · exact Tryz.sizeOf176
    · exact Tryz.sizeOf177
    · exact Tryz.sizeOf178
    · exact Tryz.sizeOf179
    · exact Tryz.sizeOf180
    · exact Tryz.sizeOf182
    · exact Tryz.sizeOf183
    · exact Tryz.sizeOf184
    · exact Tryz.sizeOf185
    · exact Tryz.sizeOf186
    · exact Tryz.sizeOf187
    · exact Tryz.sizeOf188
    · exact Tryz.sizeOf189
    · exact Tryz.sizeOf190
    · exact Tryz.sizeOf191
    · exact Tryz.sizeOf192
    · exact Tryz.sizeOf193
    · exact Tryz.sizeOf195
    · exact Tryz.sizeOf196
    · exact Tryz.sizeOf197
    · exact Tryz.sizeOf198
    · exact Tryz.sizeOf199
    · exact Tryz.sizeOf200
    · exact Tryz.sizeOf201
    · exact Tryz.sizeOf202
    · exact Tryz.sizeOf203
    · exact Tryz.sizeOf207
    · exact Tryz.sizeOf208
    · exact Tryz.sizeOf209
    · exact Tryz.sizeOf210
    · exact Tryz.sizeOf211
    · exact Tryz.sizeOf212
    · exact Tryz.sizeOf213
    · exact Tryz.sizeOf214
    · exact Tryz.sizeOf215
  off := by
    intro x hx
    simp only [tab, List.mem_cons, List.not_mem_nil, or_false] at hx
    rcases hx with rfl | rfl | rfl | rfl | rfl | rfl | rfl | rfl | rfl | rfl | rfl | rfl | rfl | rfl | rfl | rfl | rfl | rfl | rfl | rfl | rfl | rfl | rfl | rfl | rfl | rfl | rfl | rfl | rfl | rfl | rfl | rfl | rfl | rfl | rfl | rfl | rfl | rfl | rfl | rfl | rfl | rfl | rfl | rfl | rfl | rfl | rfl | rfl | rfl | rfl | rfl | rfl | rfl | rfl | rfl | rfl | rfl | rfl | rfl | rfl | rfl | rfl | rfl | rfl | rfl | rfl | rfl | rfl | rfl | rfl | rfl | rfl | rfl | rfl | rfl | rfl | rfl | rfl | rfl | rfl | rfl | rfl | rfl | rfl | rfl | rfl | rfl | rfl | rfl | rfl | rfl | rfl | rfl | rfl | rfl | rfl | rfl | rfl | rfl | rfl | rfl | rfl | rfl | rfl | rfl | rfl | rfl | rfl | rfl | rfl | rfl | rfl | rfl | rfl | rfl | rfl | rfl | rfl | rfl | rfl | rfl | rfl | rfl | rfl | rfl | rfl | rfl | rfl | rfl | rfl | rfl | rfl | rfl | rfl | rfl | rfl | rfl | rfl | rfl | rfl | rfl | rfl | rfl | rfl | rfl | rfl
    · exact fun b o' w => run_fieldAt (s := 7) (f := 0) (off := 0) (ft := 2) b o' w
    · exact fun b o' w => run_fieldAt (s := 7) (f := 1) (off := 1) (ft := 3) b o' w
    · exact fun b o' w => run_fieldAt (s := 7) (f := 2) (off := 2) (ft := 4) b o' w
    · exact fun b o' w => run_fieldAt (s := 7) (f := 3) (off := 3) (ft := 6) b o' w
    · exact fun b o' w => run_fieldAt (s := 8) (f := 0) (off := 0) (ft := 2) b o' w
    · exact fun b o' w => run_fieldAt (s := 8) (f := 1) (off := 1) (ft := 3) b o' w
    · exact fun b o' w => run_fieldAt (s := 8) (f := 2) (off := 2) (ft := 4) b o' w
    · exact fun b o' w => run_fieldAt (s := 8) (f := 3) (off := 3) (ft := 6) b o' w
    · exact fun b o' w => run_fieldAt (s := 13) (f := 0) (off := 0) (ft := 9) b o' w
    · exact fun b o' w => run_fieldAt (s := 13) (f := 1) (off := 1) (ft := 12) b o' w
    · exact fun b o' w => run_fieldAt (s := 14) (f := 0) (off := 0) (ft := 9) b o' w
    · exact fun b o' w => run_fieldAt (s := 14) (f := 1) (off := 1) (ft := 12) b o' w
    · exact fun b o' w => run_fieldAt (s := 18) (f := 0) (off := 0) (ft := 17) b o' w
    · exact fun b o' w => run_fieldAt (s := 19) (f := 0) (off := 0) (ft := 17) b o' w
    · exact fun b o' w => run_fieldAt (s := 45) (f := 0) (off := 0) (ft := 3) b o' w
    · exact fun b o' w => run_fieldAt (s := 45) (f := 1) (off := 1) (ft := 44) b o' w
    · exact fun b o' w => run_fieldAt (s := 45) (f := 2) (off := 2) (ft := 44) b o' w
    · exact fun b o' w => run_fieldAt (s := 46) (f := 0) (off := 0) (ft := 3) b o' w
    · exact fun b o' w => run_fieldAt (s := 46) (f := 1) (off := 1) (ft := 44) b o' w
    · exact fun b o' w => run_fieldAt (s := 46) (f := 2) (off := 2) (ft := 44) b o' w
    · exact fun b o' w => run_fieldAt (s := 66) (f := 0) (off := 0) (ft := 64) b o' w
    · exact fun b o' w => run_fieldAt (s := 66) (f := 1) (off := 1) (ft := 65) b o' w
    · exact fun b o' w => run_fieldAt (s := 66) (f := 2) (off := 2) (ft := 3) b o' w
    · exact fun b o' w => run_fieldAt (s := 66) (f := 3) (off := 3) (ft := 3) b o' w
    · exact fun b o' w => run_fieldAt (s := 67) (f := 0) (off := 0) (ft := 64) b o' w
    · exact fun b o' w => run_fieldAt (s := 67) (f := 1) (off := 1) (ft := 65) b o' w
    · exact fun b o' w => run_fieldAt (s := 67) (f := 2) (off := 2) (ft := 3) b o' w
    · exact fun b o' w => run_fieldAt (s := 67) (f := 3) (off := 3) (ft := 3) b o' w
    · exact fun b o' w => run_fieldAt (s := 71) (f := 0) (off := 0) (ft := 24) b o' w
    · exact fun b o' w => run_fieldAt (s := 71) (f := 1) (off := 1) (ft := 69) b o' w
    · exact fun b o' w => run_fieldAt (s := 71) (f := 2) (off := 2) (ft := 70) b o' w
    · exact fun b o' w => run_fieldAt (s := 71) (f := 3) (off := 3) (ft := 3) b o' w
    · exact fun b o' w => run_fieldAt (s := 71) (f := 4) (off := 4) (ft := 3) b o' w
    · exact fun b o' w => run_fieldAt (s := 71) (f := 5) (off := 5) (ft := 3) b o' w
    · exact fun b o' w => run_fieldAt (s := 72) (f := 0) (off := 0) (ft := 24) b o' w
    · exact fun b o' w => run_fieldAt (s := 72) (f := 1) (off := 1) (ft := 69) b o' w
    · exact fun b o' w => run_fieldAt (s := 72) (f := 2) (off := 2) (ft := 70) b o' w
    · exact fun b o' w => run_fieldAt (s := 72) (f := 3) (off := 3) (ft := 3) b o' w
    · exact fun b o' w => run_fieldAt (s := 72) (f := 4) (off := 4) (ft := 3) b o' w
    · exact fun b o' w => run_fieldAt (s := 72) (f := 5) (off := 5) (ft := 3) b o' w
    · exact fun b o' w => run_fieldAt (s := 75) (f := 0) (off := 0) (ft := 24) b o' w
    · exact fun b o' w => run_fieldAt (s := 75) (f := 1) (off := 1) (ft := 28) b o' w
    · exact fun b o' w => run_fieldAt (s := 75) (f := 2) (off := 2) (ft := 3) b o' w
    · exact fun b o' w => run_fieldAt (s := 75) (f := 3) (off := 3) (ft := 56) b o' w
    · exact fun b o' w => run_fieldAt (s := 75) (f := 4) (off := 4) (ft := 74) b o' w
    · exact fun b o' w => run_fieldAt (s := 75) (f := 5) (off := 5) (ft := 3) b o' w
    · exact fun b o' w => run_fieldAt (s := 75) (f := 6) (off := 6) (ft := 3) b o' w
    · exact fun b o' w => run_fieldAt (s := 76) (f := 0) (off := 0) (ft := 24) b o' w
    · exact fun b o' w => run_fieldAt (s := 76) (f := 1) (off := 1) (ft := 28) b o' w
    · exact fun b o' w => run_fieldAt (s := 76) (f := 2) (off := 2) (ft := 3) b o' w
    · exact fun b o' w => run_fieldAt (s := 76) (f := 3) (off := 3) (ft := 56) b o' w
    · exact fun b o' w => run_fieldAt (s := 76) (f := 4) (off := 4) (ft := 74) b o' w
    · exact fun b o' w => run_fieldAt (s := 76) (f := 5) (off := 5) (ft := 3) b o' w
    · exact fun b o' w => run_fieldAt (s := 76) (f := 6) (off := 6) (ft := 3) b o' w
    · exact fun b o' w => run_fieldAt (s := 78) (f := 0) (off := 0) (ft := 4) b o' w
    · exact fun b o' w => run_fieldAt (s := 78) (f := 1) (off := 1) (ft := 3) b o' w
    · exact fun b o' w => run_fieldAt (s := 78) (f := 2) (off := 2) (ft := 56) b o' w
    · exact fun b o' w => run_fieldAt (s := 79) (f := 0) (off := 0) (ft := 4) b o' w
    · exact fun b o' w => run_fieldAt (s := 79) (f := 1) (off := 1) (ft := 3) b o' w
    · exact fun b o' w => run_fieldAt (s := 79) (f := 2) (off := 2) (ft := 56) b o' w
    · exact fun b o' w => run_fieldAt (s := 81) (f := 0) (off := 0) (ft := 24) b o' w
    · exact fun b o' w => run_fieldAt (s := 81) (f := 1) (off := 1) (ft := 3) b o' w
    · exact fun b o' w => run_fieldAt (s := 81) (f := 2) (off := 2) (ft := 80) b o' w
    · exact fun b o' w => run_fieldAt (s := 82) (f := 0) (off := 0) (ft := 24) b o' w
    · exact fun b o' w => run_fieldAt (s := 82) (f := 1) (off := 1) (ft := 3) b o' w
    · exact fun b o' w => run_fieldAt (s := 82) (f := 2) (off := 2) (ft := 80) b o' w
    · exact fun b o' w => run_fieldAt (s := 88) (f := 0) (off := 0) (ft := 31) b o' w
    · exact fun b o' w => run_fieldAt (s := 88) (f := 1) (off := 1) (ft := 3) b o' w
    · exact fun b o' w => run_fieldAt (s := 88) (f := 2) (off := 2) (ft := 3) b o' w
    · exact fun b o' w => run_fieldAt (s := 88) (f := 3) (off := 3) (ft := 3) b o' w
    · exact fun b o' w => run_fieldAt (s := 89) (f := 0) (off := 0) (ft := 31) b o' w
    · exact fun b o' w => run_fieldAt (s := 89) (f := 1) (off := 1) (ft := 3) b o' w
    · exact fun b o' w => run_fieldAt (s := 89) (f := 2) (off := 2) (ft := 3) b o' w
    · exact fun b o' w => run_fieldAt (s := 89) (f := 3) (off := 3) (ft := 3) b o' w
    · exact fun b o' w => run_fieldAt (s := 96) (f := 0) (off := 0) (ft := 4) b o' w
    · exact fun b o' w => run_fieldAt (s := 96) (f := 1) (off := 1) (ft := 95) b o' w
    · exact fun b o' w => run_fieldAt (s := 96) (f := 2) (off := 2) (ft := 95) b o' w
    · exact fun b o' w => run_fieldAt (s := 96) (f := 3) (off := 3) (ft := 56) b o' w
    · exact fun b o' w => run_fieldAt (s := 97) (f := 0) (off := 0) (ft := 4) b o' w
    · exact fun b o' w => run_fieldAt (s := 97) (f := 1) (off := 1) (ft := 95) b o' w
    · exact fun b o' w => run_fieldAt (s := 97) (f := 2) (off := 2) (ft := 95) b o' w
    · exact fun b o' w => run_fieldAt (s := 97) (f := 3) (off := 3) (ft := 56) b o' w
    · exact fun b o' w => run_fieldAt (s := 98) (f := 0) (off := 0) (ft := 3) b o' w
    · exact fun b o' w => run_fieldAt (s := 98) (f := 1) (off := 1) (ft := 3) b o' w
    · exact fun b o' w => run_fieldAt (s := 98) (f := 2) (off := 2) (ft := 44) b o' w
    · exact fun b o' w => run_fieldAt (s := 98) (f := 3) (off := 3) (ft := 3) b o' w
    · exact fun b o' w => run_fieldAt (s := 99) (f := 0) (off := 0) (ft := 3) b o' w
    · exact fun b o' w => run_fieldAt (s := 99) (f := 1) (off := 1) (ft := 3) b o' w
    · exact fun b o' w => run_fieldAt (s := 99) (f := 2) (off := 2) (ft := 44) b o' w
    · exact fun b o' w => run_fieldAt (s := 99) (f := 3) (off := 3) (ft := 3) b o' w
    · exact fun b o' w => run_fieldAt (s := 105) (f := 0) (off := 0) (ft := 9) b o' w
    · exact fun b o' w => run_fieldAt (s := 105) (f := 1) (off := 1) (ft := 9) b o' w
    · exact fun b o' w => run_fieldAt (s := 106) (f := 0) (off := 0) (ft := 9) b o' w
    · exact fun b o' w => run_fieldAt (s := 106) (f := 1) (off := 1) (ft := 9) b o' w
    · exact fun b o' w => run_fieldAt (s := 113) (f := 0) (off := 0) (ft := 3) b o' w
    · exact fun b o' w => run_fieldAt (s := 113) (f := 1) (off := 1) (ft := 112) b o' w
    · exact fun b o' w => run_fieldAt (s := 114) (f := 0) (off := 0) (ft := 3) b o' w
    · exact fun b o' w => run_fieldAt (s := 114) (f := 1) (off := 1) (ft := 112) b o' w
    · exact fun b o' w => run_fieldAt (s := 117) (f := 0) (off := 0) (ft := 4) b o' w
    · exact fun b o' w => run_fieldAt (s := 117) (f := 1) (off := 1) (ft := 3) b o' w
    · exact fun b o' w => run_fieldAt (s := 117) (f := 2) (off := 2) (ft := 3) b o' w
    · exact fun b o' w => run_fieldAt (s := 117) (f := 3) (off := 3) (ft := 4) b o' w
    · exact fun b o' w => run_fieldAt (s := 117) (f := 4) (off := 4) (ft := 44) b o' w
    · exact fun b o' w => run_fieldAt (s := 118) (f := 0) (off := 0) (ft := 4) b o' w
    · exact fun b o' w => run_fieldAt (s := 118) (f := 1) (off := 1) (ft := 3) b o' w
    · exact fun b o' w => run_fieldAt (s := 118) (f := 2) (off := 2) (ft := 3) b o' w
    · exact fun b o' w => run_fieldAt (s := 118) (f := 3) (off := 3) (ft := 4) b o' w
    · exact fun b o' w => run_fieldAt (s := 118) (f := 4) (off := 4) (ft := 44) b o' w
    · exact fun b o' w => run_fieldAt (s := 127) (f := 0) (off := 0) (ft := 31) b o' w
    · exact fun b o' w => run_fieldAt (s := 127) (f := 1) (off := 1) (ft := 3) b o' w
    · exact fun b o' w => run_fieldAt (s := 127) (f := 2) (off := 2) (ft := 56) b o' w
    · exact fun b o' w => run_fieldAt (s := 127) (f := 3) (off := 3) (ft := 74) b o' w
    · exact fun b o' w => run_fieldAt (s := 128) (f := 0) (off := 0) (ft := 31) b o' w
    · exact fun b o' w => run_fieldAt (s := 128) (f := 1) (off := 1) (ft := 3) b o' w
    · exact fun b o' w => run_fieldAt (s := 128) (f := 2) (off := 2) (ft := 56) b o' w
    · exact fun b o' w => run_fieldAt (s := 128) (f := 3) (off := 3) (ft := 74) b o' w
    · exact fun b o' w => run_fieldAt (s := 202) (f := 0) (off := 0) (ft := 17) b o' w
    · exact fun b o' w => run_fieldAt (s := 202) (f := 1) (off := 1) (ft := 17) b o' w
    · exact fun b o' w => run_fieldAt (s := 202) (f := 2) (off := 2) (ft := 17) b o' w
    · exact fun b o' w => run_fieldAt (s := 202) (f := 3) (off := 3) (ft := 9) b o' w
    · exact fun b o' w => run_fieldAt (s := 203) (f := 0) (off := 0) (ft := 17) b o' w
    · exact fun b o' w => run_fieldAt (s := 203) (f := 1) (off := 1) (ft := 17) b o' w
    · exact fun b o' w => run_fieldAt (s := 203) (f := 2) (off := 2) (ft := 17) b o' w
    · exact fun b o' w => run_fieldAt (s := 203) (f := 3) (off := 3) (ft := 9) b o' w
    · exact fun b o' w => run_fieldAt (s := 213) (f := 0) (off := 0) (ft := 12) b o' w
    · exact fun b o' w => run_fieldAt (s := 213) (f := 1) (off := 1) (ft := 12) b o' w
    · exact fun b o' w => run_fieldAt (s := 213) (f := 2) (off := 2) (ft := 147) b o' w
    · exact fun b o' w => run_fieldAt (s := 213) (f := 3) (off := 3) (ft := 207) b o' w
    · exact fun b o' w => run_fieldAt (s := 213) (f := 4) (off := 4) (ft := 5) b o' w
    · exact fun b o' w => run_fieldAt (s := 213) (f := 5) (off := 5) (ft := 5) b o' w
    · exact fun b o' w => run_fieldAt (s := 213) (f := 6) (off := 6) (ft := 208) b o' w
    · exact fun b o' w => run_fieldAt (s := 213) (f := 7) (off := 7) (ft := 209) b o' w
    · exact fun b o' w => run_fieldAt (s := 213) (f := 8) (off := 8) (ft := 210) b o' w
    · exact fun b o' w => run_fieldAt (s := 213) (f := 9) (off := 9) (ft := 211) b o' w
    · exact fun b o' w => run_fieldAt (s := 213) (f := 10) (off := 10) (ft := 212) b o' w
    · exact fun b o' w => run_fieldAt (s := 214) (f := 0) (off := 0) (ft := 12) b o' w
    · exact fun b o' w => run_fieldAt (s := 214) (f := 1) (off := 1) (ft := 12) b o' w
    · exact fun b o' w => run_fieldAt (s := 214) (f := 2) (off := 2) (ft := 147) b o' w
    · exact fun b o' w => run_fieldAt (s := 214) (f := 3) (off := 3) (ft := 207) b o' w
    · exact fun b o' w => run_fieldAt (s := 214) (f := 4) (off := 4) (ft := 5) b o' w
    · exact fun b o' w => run_fieldAt (s := 214) (f := 5) (off := 5) (ft := 5) b o' w
    · exact fun b o' w => run_fieldAt (s := 214) (f := 6) (off := 6) (ft := 208) b o' w
    · exact fun b o' w => run_fieldAt (s := 214) (f := 7) (off := 7) (ft := 209) b o' w
    · exact fun b o' w => run_fieldAt (s := 214) (f := 8) (off := 8) (ft := 210) b o' w
    · exact fun b o' w => run_fieldAt (s := 214) (f := 9) (off := 9) (ft := 211) b o' w
    · exact fun b o' w => run_fieldAt (s := 214) (f := 10) (off := 10) (ft := 212) b o' w
end Go.Sl
