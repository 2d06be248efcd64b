/-
  What is known of the program's types and functions: written by a program of the author's
-/
import Derived.Test.YtkccjgllanpebaaGreatDoorYak
import Derived.Test.YtkccjgllanpebaaGreatDoorProg
import Derived.KernelRfl
set_option maxRecDepth 100000
set_option linter.unusedSimpArgs false
namespace Go.Sl
open Go Go.Proofs
instance ty1 : Mixed Tryz.prog := ⟨by kernel_rfl⟩
instance ty2 : Fun Tryz.prog 2 := ⟨Tryz.call2⟩
instance ty3 : Fun Tryz.prog 3 := ⟨Tryz.call3⟩
instance ty4 : Fun Tryz.prog 4 := ⟨Tryz.call4⟩
instance ty5 : Fun Tryz.prog 5 := ⟨Tryz.call5⟩
instance ty6 : Fun Tryz.prog 6 := ⟨Tryz.call6⟩
instance ty7 : Fun Tryz.prog 7 := ⟨Tryz.call7⟩
instance ty8 : Fun Tryz.prog 8 := ⟨Tryz.call8⟩
instance ty9 : Fun Tryz.prog 9 := ⟨Tryz.call9⟩
instance ty10 : Fun Tryz.prog 10 := ⟨Tryz.call10⟩
instance ty11 : Fun Tryz.prog 11 := ⟨Tryz.call11⟩
instance ty12 : Fun Tryz.prog 12 := ⟨Tryz.call12⟩
instance ty13 : Fun Tryz.prog 13 := ⟨Tryz.call13⟩
instance ty14 : Fun Tryz.prog 14 := ⟨Tryz.call14⟩
instance ty15 : Fun Tryz.prog 15 := ⟨Tryz.call15⟩
instance ty16 : Fun Tryz.prog 16 := ⟨Tryz.call16⟩
instance ty17 : Fun Tryz.prog 17 := ⟨Tryz.call17⟩
instance ty18 : Fun Tryz.prog 18 := ⟨Tryz.call18⟩
instance ty19 : Fun Tryz.prog 19 := ⟨Tryz.call19⟩
instance ty20 : Fun Tryz.prog 20 := ⟨Tryz.call20⟩
instance ty21 : Fun Tryz.prog 21 := ⟨Tryz.call21⟩
instance ty22 : Fun Tryz.prog 22 := ⟨Tryz.call22⟩
instance ty23 : Fun Tryz.prog 23 := ⟨Tryz.call23⟩
instance ty24 : Fun Tryz.prog 24 := ⟨Tryz.call24⟩
instance ty25 : Fun Tryz.prog 25 := ⟨Tryz.call25⟩
instance ty26 : Fun Tryz.prog 26 := ⟨Tryz.call26⟩
instance ty27 : Fun Tryz.prog 27 := ⟨Tryz.call27⟩
instance ty28 : Fun Tryz.prog 28 := ⟨Tryz.call28⟩
instance ty29 : Fun Tryz.prog 29 := ⟨Tryz.call29⟩
instance ty30 : Fun Tryz.prog 30 := ⟨Tryz.call30⟩
instance ty31 : Fun Tryz.prog 31 := ⟨Tryz.call31⟩
instance ty32 : Fun Tryz.prog 32 := ⟨Tryz.call32⟩
instance ty33 : Fun Tryz.prog 33 := ⟨Tryz.call33⟩
instance ty34 : Fun Tryz.prog 34 := ⟨Tryz.call34⟩
instance ty35 : Fun Tryz.prog 35 := ⟨Tryz.call35⟩
instance ty36 : Fun Tryz.prog 36 := ⟨Tryz.call36⟩
instance ty37 : Fun Tryz.prog 37 := ⟨Tryz.call37⟩
instance ty38 : Fun Tryz.prog 38 := ⟨Tryz.call38⟩
instance ty39 : Fun Tryz.prog 39 := ⟨Tryz.call39⟩
instance ty40 : Fun Tryz.prog 40 := ⟨Tryz.call40⟩
instance ty41 : Fun Tryz.prog 41 := ⟨Tryz.call41⟩
instance ty42 : Fun Tryz.prog 42 := ⟨Tryz.call42⟩
instance ty43 : Fun Tryz.prog 43 := ⟨Tryz.call43⟩
instance ty44 : Fun Tryz.prog 44 := ⟨Tryz.call44⟩
instance ty45 : Fun Tryz.prog 45 := ⟨Tryz.call45⟩
instance ty46 : Fun Tryz.prog 46 := ⟨Tryz.call46⟩
instance ty47 : Fun Tryz.prog 47 := ⟨Tryz.call47⟩
instance ty48 : Fun Tryz.prog 48 := ⟨Tryz.call48⟩
instance ty49 : Fun Tryz.prog 49 := ⟨Tryz.call49⟩
instance ty50 : Fun Tryz.prog 50 := ⟨Tryz.call50⟩
instance ty51 : Fun Tryz.prog 51 := ⟨Tryz.call51⟩
instance ty52 : Fun Tryz.prog 52 := ⟨Tryz.call52⟩
instance ty53 : Fun Tryz.prog 53 := ⟨Tryz.call53⟩
instance ty54 : Fun Tryz.prog 54 := ⟨Tryz.call54⟩
instance ty55 : Fun Tryz.prog 55 := ⟨Tryz.call55⟩
instance ty56 : Fun Tryz.prog 56 := ⟨Tryz.call56⟩
instance ty57 : Fun Tryz.prog 57 := ⟨Tryz.call57⟩
instance ty58 : Fun Tryz.prog 58 := ⟨Tryz.call58⟩
instance ty59 : Fun Tryz.prog 59 := ⟨Tryz.call59⟩
instance ty60 : Fun Tryz.prog 60 := ⟨Tryz.call60⟩
instance ty61 : Fun Tryz.prog 61 := ⟨Tryz.call61⟩
instance ty62 : Fun Tryz.prog 62 := ⟨Tryz.call62⟩
instance ty63 : Fun Tryz.prog 63 := ⟨Tryz.call63⟩
instance ty64 : Fun Tryz.prog 64 := ⟨Tryz.call64⟩
instance ty65 : Fun Tryz.prog 65 := ⟨Tryz.call65⟩
instance ty66 : Fun Tryz.prog 66 := ⟨Tryz.call66⟩
instance ty67 : Fun Tryz.prog 67 := ⟨Tryz.call67⟩
instance ty70 : Fun Tryz.prog 70 := ⟨Tryz.call70⟩
instance ty71 : Fun Tryz.prog 71 := ⟨Tryz.call71⟩
instance ty72 : Fun Tryz.prog 72 := ⟨Tryz.call72⟩
instance ty73 : Fun Tryz.prog 73 := ⟨Tryz.call73⟩
instance ty74 : Fun Tryz.prog 74 := ⟨Tryz.call74⟩
instance ty75 : Fun Tryz.prog 75 := ⟨Tryz.call75⟩
instance ty76 : Fun Tryz.prog 76 := ⟨Tryz.call76⟩
instance ty77 : Fun Tryz.prog 77 := ⟨Tryz.call77⟩
instance ty78 : Fun Tryz.prog 78 := ⟨Tryz.call78⟩
instance ty79 : Fun Tryz.prog 79 := ⟨Tryz.call79⟩
instance ty80 : Fun Tryz.prog 80 := ⟨Tryz.call80⟩
instance ty81 : Fun Tryz.prog 81 := ⟨Tryz.call81⟩
instance ty82 : Fun Tryz.prog 82 := ⟨Tryz.call82⟩
instance ty83 : Fun Tryz.prog 83 := ⟨Tryz.call83⟩
instance ty84 : Fun Tryz.prog 84 := ⟨Tryz.call84⟩
instance ty86 : Fun Tryz.prog 86 := ⟨Tryz.call86⟩
instance ty87 : Fun Tryz.prog 87 := ⟨Tryz.call87⟩
instance ty88 : Fun Tryz.prog 88 := ⟨Tryz.call88⟩
instance ty89 : Fun Tryz.prog 89 := ⟨Tryz.call89⟩
instance ty90 : Fun Tryz.prog 90 := ⟨Tryz.call90⟩
instance ty91 : Fun Tryz.prog 91 := ⟨Tryz.call91⟩
instance ty92 : Fun Tryz.prog 92 := ⟨Tryz.call92⟩
instance ty93 : Fun Tryz.prog 93 := ⟨Tryz.call93⟩
instance ty94 : Fun Tryz.prog 94 := ⟨Tryz.call94⟩
instance ty95 : Fun Tryz.prog 95 := ⟨Tryz.call95⟩
instance ty96 : Fun Tryz.prog 96 := ⟨Tryz.call96⟩
instance ty97 : Fun Tryz.prog 97 := ⟨Tryz.call97⟩
instance ty98 : Fun Tryz.prog 98 := ⟨Tryz.call98⟩
instance ty99 : Fun Tryz.prog 99 := ⟨Tryz.call99⟩
instance ty100 : Fun Tryz.prog 100 := ⟨Tryz.call100⟩
instance ty101 : Fun Tryz.prog 101 := ⟨Tryz.call101⟩
instance ty102 : Fun Tryz.prog 102 := ⟨Tryz.call102⟩
instance ty103 : Fun Tryz.prog 103 := ⟨Tryz.call103⟩
instance ty105 : Fun Tryz.prog 106 := ⟨Tryz.call106⟩
instance ty106 : Fun Tryz.prog 107 := ⟨Tryz.call107⟩
instance ty107 : Fun Tryz.prog 108 := ⟨Tryz.call108⟩
instance ty109 : Fun Tryz.prog 110 := ⟨Tryz.call110⟩
instance ty110 : Fun Tryz.prog 111 := ⟨Tryz.call111⟩
instance ty111 : Fun Tryz.prog 113 := ⟨Tryz.call113⟩
instance ty112 : Fun Tryz.prog 114 := ⟨Tryz.call114⟩
instance ty113 : Fun Tryz.prog 115 := ⟨Tryz.call115⟩
instance ty115 : Fun Tryz.prog 117 := ⟨Tryz.call117⟩
instance ty116 : Fun Tryz.prog 118 := ⟨Tryz.call118⟩
instance ty117 : Fun Tryz.prog 119 := ⟨Tryz.call119⟩
instance ty119 : Fun Tryz.prog 121 := ⟨Tryz.call121⟩
instance ty120 : Fun Tryz.prog 122 := ⟨Tryz.call122⟩
instance ty121 : Fun Tryz.prog 123 := ⟨Tryz.call123⟩
instance ty122 : Fun Tryz.prog 125 := ⟨Tryz.call125⟩
instance ty123 : Fun Tryz.prog 126 := ⟨Tryz.call126⟩
instance ty124 : Fun Tryz.prog 127 := ⟨Tryz.call127⟩
instance ty125 : Fun Tryz.prog 128 := ⟨Tryz.call128⟩
instance ty126 : Fun Tryz.prog 129 := ⟨Tryz.call129⟩
instance ty128 : Fun Tryz.prog 131 := ⟨Tryz.call131⟩
instance ty129 : Fun Tryz.prog 132 := ⟨Tryz.call132⟩
instance ty130 : Fun Tryz.prog 133 := ⟨Tryz.call133⟩
instance ty132 : Fun Tryz.prog 136 := ⟨Tryz.call136⟩
instance ty133 : Fun Tryz.prog 137 := ⟨Tryz.call137⟩
instance ty134 : Fun Tryz.prog 138 := ⟨Tryz.call138⟩
instance ty135 : Fun Tryz.prog 139 := ⟨Tryz.call139⟩
instance ty136 : Fun Tryz.prog 140 := ⟨Tryz.call140⟩
instance ty138 : Fun Tryz.prog 143 := ⟨Tryz.call143⟩
instance ty139 : Fun Tryz.prog 144 := ⟨Tryz.call144⟩
instance ty140 : Fun Tryz.prog 145 := ⟨Tryz.call145⟩
instance ty142 : Fun Tryz.prog 147 := ⟨Tryz.call147⟩
instance ty143 : Fun Tryz.prog 148 := ⟨Tryz.call148⟩
instance ty144 : Fun Tryz.prog 149 := ⟨Tryz.call149⟩
instance ty145 : Fun Tryz.prog 150 := ⟨Tryz.call150⟩
instance ty148 : Fun Tryz.prog 153 := ⟨Tryz.call153⟩
instance ty149 : Fun Tryz.prog 154 := ⟨Tryz.call154⟩
instance ty150 : Fun Tryz.prog 155 := ⟨Tryz.call155⟩
instance ty151 : Fun Tryz.prog 156 := ⟨Tryz.call156⟩
instance ty152 : Fun Tryz.prog 157 := ⟨Tryz.call157⟩
instance ty153 : Fun Tryz.prog 158 := ⟨Tryz.call158⟩
instance ty154 : Fun Tryz.prog 159 := ⟨Tryz.call159⟩
instance ty160 : Fun Tryz.prog 165 := ⟨Tryz.call165⟩
instance ty161 : Fun Tryz.prog 166 := ⟨Tryz.call166⟩
instance ty163 : Fun Tryz.prog 168 := ⟨Tryz.call168⟩
instance ty164 : Fun Tryz.prog 169 := ⟨Tryz.call169⟩
instance ty165 : Fun Tryz.prog 170 := ⟨Tryz.call170⟩
instance ty166 : Fun Tryz.prog 171 := ⟨Tryz.call171⟩
instance ty169 : Fun Tryz.prog 174 := ⟨Tryz.call174⟩
instance ty170 : Fun Tryz.prog 175 := ⟨Tryz.call175⟩
instance ty174 : TyI Tryz.prog 2 false 1 8 ([.int .i64 0]) := ⟨⟨Tryz.t2, by kernel_rfl, by kernel_rfl, by kernel_rfl, by kernel_rfl, (fun _ => ⟨_, rfl, rfl⟩), by kernel_rfl, by kernel_rfl⟩, Tryz.isAgg2⟩
instance ty175 : TyU Tryz.prog 3 (.int .i64) := ⟨Tryz.underlying3⟩
instance ty176 : TyI Tryz.prog 3 false 1 8 ([.int .i64 0]) := ⟨⟨Tryz.t3, by kernel_rfl, by kernel_rfl, by kernel_rfl, by kernel_rfl, (fun _ => ⟨_, rfl, rfl⟩), by kernel_rfl, by kernel_rfl⟩, Tryz.isAgg3⟩
instance ty177 : TyU Tryz.prog 4 .bool := ⟨Tryz.underlying4⟩
instance ty178 : TyI Tryz.prog 4 false 1 1 ([.bool false]) := ⟨⟨Tryz.t4, by kernel_rfl, by kernel_rfl, by kernel_rfl, by kernel_rfl, (fun _ => ⟨_, rfl, rfl⟩), by kernel_rfl, by kernel_rfl⟩, Tryz.isAgg4⟩
instance ty179 : TyU Tryz.prog 5 (.int .u8) := ⟨Tryz.underlying5⟩
instance ty180 : TyI Tryz.prog 5 false 1 1 ([.int .u8 0]) := ⟨⟨Tryz.t5, by kernel_rfl, by kernel_rfl, by kernel_rfl, by kernel_rfl, (fun _ => ⟨_, rfl, rfl⟩), by kernel_rfl, by kernel_rfl⟩, Tryz.isAgg5⟩
instance ty185 : TyF Tryz.prog 7 0 0 2 := ⟨⟨_, _, Tryz.t2, Tryz.underlying7, rfl, rfl, rfl, by kernel_rfl, by intro h; cases h⟩⟩
instance ty186 : TyF Tryz.prog 7 1 1 3 := ⟨⟨_, _, Tryz.t3, Tryz.underlying7, rfl, rfl, rfl, by kernel_rfl, by intro h; cases h⟩⟩
instance ty187 : TyF Tryz.prog 7 2 2 4 := ⟨⟨_, _, Tryz.t4, Tryz.underlying7, rfl, rfl, rfl, by kernel_rfl, by intro h; cases h⟩⟩
instance ty188 : TyF Tryz.prog 7 3 3 6 := ⟨⟨_, _, Tryz.t6, Tryz.underlying7, rfl, rfl, rfl, by kernel_rfl, by intro h; cases h⟩⟩
instance ty191 : TyF Tryz.prog 8 0 0 2 := ⟨⟨_, _, Tryz.t2, Tryz.underlying8, rfl, rfl, rfl, by kernel_rfl, by intro h; cases h⟩⟩
instance ty192 : TyF Tryz.prog 8 1 1 3 := ⟨⟨_, _, Tryz.t3, Tryz.underlying8, rfl, rfl, rfl, by kernel_rfl, by intro h; cases h⟩⟩
instance ty193 : TyF Tryz.prog 8 2 2 4 := ⟨⟨_, _, Tryz.t4, Tryz.underlying8, rfl, rfl, rfl, by kernel_rfl, by intro h; cases h⟩⟩
instance ty194 : TyF Tryz.prog 8 3 3 6 := ⟨⟨_, _, Tryz.t6, Tryz.underlying8, rfl, rfl, rfl, by kernel_rfl, by intro h; cases h⟩⟩
instance ty195 : TyU Tryz.prog 9 .string := ⟨Tryz.underlying9⟩
instance ty196 : TyI Tryz.prog 9 false 1 16 ([.string ⟨#[]⟩]) := ⟨⟨Tryz.t9, by kernel_rfl, by kernel_rfl, by kernel_rfl, by kernel_rfl, (fun _ => ⟨_, rfl, rfl⟩), by kernel_rfl, by kernel_rfl⟩, Tryz.isAgg9⟩
instance ty205 : TyF Tryz.prog 13 0 0 9 := ⟨⟨_, _, Tryz.t9, Tryz.underlying13, rfl, rfl, rfl, by kernel_rfl, by intro h; cases h⟩⟩
instance ty206 : TyF Tryz.prog 13 1 1 12 := ⟨⟨_, _, Tryz.t12, Tryz.underlying13, rfl, rfl, rfl, by kernel_rfl, by intro h; cases h⟩⟩
instance ty209 : TyF Tryz.prog 14 0 0 9 := ⟨⟨_, _, Tryz.t9, Tryz.underlying14, rfl, rfl, rfl, by kernel_rfl, by intro h; cases h⟩⟩
instance ty210 : TyF Tryz.prog 14 1 1 12 := ⟨⟨_, _, Tryz.t12, Tryz.underlying14, rfl, rfl, rfl, by kernel_rfl, by intro h; cases h⟩⟩
instance ty219 : TyF Tryz.prog 18 0 0 17 := ⟨⟨_, _, Tryz.t17, Tryz.underlying18, rfl, rfl, rfl, by kernel_rfl, by intro h; cases h⟩⟩
instance ty222 : TyF Tryz.prog 19 0 0 17 := ⟨⟨_, _, Tryz.t17, Tryz.underlying19, rfl, rfl, rfl, by kernel_rfl, by intro h; cases h⟩⟩
instance ty226 : TyU Tryz.prog 22 (.slice 32) := ⟨Tryz.underlying22⟩
instance ty227 : TyI Tryz.prog 22 false 1 24 ([.slice none 0 0]) := ⟨⟨Tryz.t22, by kernel_rfl, by kernel_rfl, by kernel_rfl, by kernel_rfl, (fun _ => ⟨_, rfl, rfl⟩), by kernel_rfl, by kernel_rfl⟩, Tryz.isAgg22⟩
instance ty228 : TyU Tryz.prog 23 (.pointer 164) := ⟨Tryz.underlying23⟩
instance ty229 : TyI Tryz.prog 23 false 1 8 ([.pointer none]) := ⟨⟨Tryz.t23, by kernel_rfl, by kernel_rfl, by kernel_rfl, by kernel_rfl, (fun _ => ⟨_, rfl, rfl⟩), by kernel_rfl, by kernel_rfl⟩, Tryz.isAgg23⟩
instance ty231 : TyI Tryz.prog 24 false 1 8 ([.pointer none]) := ⟨⟨Tryz.t24, by kernel_rfl, by kernel_rfl, by kernel_rfl, by kernel_rfl, (fun _ => ⟨_, rfl, rfl⟩), by kernel_rfl, by kernel_rfl⟩, Tryz.isAgg24⟩
instance ty236 : TyF Tryz.prog 28 0 0 2 := ⟨⟨_, _, Tryz.t2, Tryz.underlying28, rfl, rfl, rfl, by kernel_rfl, by intro h; cases h⟩⟩
instance ty237 : TyF Tryz.prog 28 1 1 3 := ⟨⟨_, _, Tryz.t3, Tryz.underlying28, rfl, rfl, rfl, by kernel_rfl, by intro h; cases h⟩⟩
instance ty238 : TyI Tryz.prog 29 true 2 16 (.int .i64 0 :: [.int .i64 0]) := ⟨⟨Tryz.t29, by kernel_rfl, by kernel_rfl, by kernel_rfl, by kernel_rfl, (fun h => by cases h), by kernel_rfl, by kernel_rfl⟩, Tryz.isAgg29⟩
instance ty239 : TyS Tryz.prog 29 [(0, 1), (1, 1)] := ⟨_, Tryz.underlying29, fun w => by simp [Tryz.sizeOf2, Tryz.sizeOf3]⟩
instance ty240 : TyF Tryz.prog 29 0 0 2 := ⟨⟨_, _, Tryz.t2, Tryz.underlying29, rfl, rfl, rfl, by kernel_rfl, by intro h; cases h⟩⟩
instance ty241 : TyF Tryz.prog 29 1 1 3 := ⟨⟨_, _, Tryz.t3, Tryz.underlying29, rfl, rfl, rfl, by kernel_rfl, by intro h; cases h⟩⟩
instance ty242 : TyU Tryz.prog 30 (.slice 9) := ⟨Tryz.underlying30⟩
instance ty243 : TyI Tryz.prog 30 false 1 24 ([.slice none 0 0]) := ⟨⟨Tryz.t30, by kernel_rfl, by kernel_rfl, by kernel_rfl, by kernel_rfl, (fun _ => ⟨_, rfl, rfl⟩), by kernel_rfl, by kernel_rfl⟩, Tryz.isAgg30⟩
instance ty246 : TyF Tryz.prog 31 0 0 3 := ⟨⟨_, _, Tryz.t3, Tryz.underlying31, rfl, rfl, rfl, by kernel_rfl, by intro h; cases h⟩⟩
instance ty247 : TyF Tryz.prog 31 1 1 29 := ⟨⟨_, _, Tryz.t29, Tryz.underlying31, rfl, rfl, rfl, by kernel_rfl, by intro h; cases h⟩⟩
instance ty248 : TyF Tryz.prog 31 2 3 9 := ⟨⟨_, _, Tryz.t9, Tryz.underlying31, rfl, rfl, rfl, by kernel_rfl, by intro h; cases h⟩⟩
instance ty249 : TyF Tryz.prog 31 3 4 22 := ⟨⟨_, _, Tryz.t22, Tryz.underlying31, rfl, rfl, rfl, by kernel_rfl, by intro h; cases h⟩⟩
instance ty250 : TyF Tryz.prog 31 4 5 30 := ⟨⟨_, _, Tryz.t30, Tryz.underlying31, rfl, rfl, rfl, by kernel_rfl, by intro h; cases h⟩⟩
instance ty251 : TyI Tryz.prog 32 true 6 88 (.int .i64 0 :: (.int .i64 0 :: (.int .i64 0 :: (.string ⟨#[]⟩ :: (.slice none 0 0 :: [.slice none 0 0]))))) := ⟨⟨Tryz.t32, by kernel_rfl, by kernel_rfl, by kernel_rfl, by kernel_rfl, (fun h => by cases h), by kernel_rfl, by kernel_rfl⟩, Tryz.isAgg32⟩
instance ty252 : TyS Tryz.prog 32 [(0, 1), (1, 2), (3, 1), (4, 1), (5, 1)] := ⟨_, Tryz.underlying32, fun w => by simp [Tryz.sizeOf3, Tryz.sizeOf29, Tryz.sizeOf9, Tryz.sizeOf22, Tryz.sizeOf30]⟩
instance ty253 : TyF Tryz.prog 32 0 0 3 := ⟨⟨_, _, Tryz.t3, Tryz.underlying32, rfl, rfl, rfl, by kernel_rfl, by intro h; cases h⟩⟩
instance ty254 : TyF Tryz.prog 32 1 1 29 := ⟨⟨_, _, Tryz.t29, Tryz.underlying32, rfl, rfl, rfl, by kernel_rfl, by intro h; cases h⟩⟩
instance ty255 : TyF Tryz.prog 32 2 3 9 := ⟨⟨_, _, Tryz.t9, Tryz.underlying32, rfl, rfl, rfl, by kernel_rfl, by intro h; cases h⟩⟩
instance ty256 : TyF Tryz.prog 32 3 4 22 := ⟨⟨_, _, Tryz.t22, Tryz.underlying32, rfl, rfl, rfl, by kernel_rfl, by intro h; cases h⟩⟩
instance ty257 : TyF Tryz.prog 32 4 5 30 := ⟨⟨_, _, Tryz.t30, Tryz.underlying32, rfl, rfl, rfl, by kernel_rfl, by intro h; cases h⟩⟩
instance ty258 : TyU Tryz.prog 33 (.slice 5) := ⟨Tryz.underlying33⟩
instance ty259 : TyI Tryz.prog 33 false 1 24 ([.slice none 0 0]) := ⟨⟨Tryz.t33, by kernel_rfl, by kernel_rfl, by kernel_rfl, by kernel_rfl, (fun _ => ⟨_, rfl, rfl⟩), by kernel_rfl, by kernel_rfl⟩, Tryz.isAgg33⟩
instance ty261 : TyI Tryz.prog 34 false 1 8 ([.int .i64 0]) := ⟨⟨Tryz.t34, by kernel_rfl, by kernel_rfl, by kernel_rfl, by kernel_rfl, (fun _ => ⟨_, rfl, rfl⟩), by kernel_rfl, by kernel_rfl⟩, Tryz.isAgg34⟩
instance ty264 : TyU Tryz.prog 38 (.slice 48) := ⟨Tryz.underlying38⟩
instance ty265 : TyI Tryz.prog 38 false 1 24 ([.slice none 0 0]) := ⟨⟨Tryz.t38, by kernel_rfl, by kernel_rfl, by kernel_rfl, by kernel_rfl, (fun _ => ⟨_, rfl, rfl⟩), by kernel_rfl, by kernel_rfl⟩, Tryz.isAgg38⟩
instance ty273 : TyF Tryz.prog 47 0 0 33 := ⟨⟨_, _, Tryz.t33, Tryz.underlying47, rfl, rfl, rfl, by kernel_rfl, by intro h; cases h⟩⟩
instance ty274 : TyF Tryz.prog 47 1 1 33 := ⟨⟨_, _, Tryz.t33, Tryz.underlying47, rfl, rfl, rfl, by kernel_rfl, by intro h; cases h⟩⟩
instance ty275 : TyI Tryz.prog 48 true 2 48 (.slice none 0 0 :: [.slice none 0 0]) := ⟨⟨Tryz.t48, by kernel_rfl, by kernel_rfl, by kernel_rfl, by kernel_rfl, (fun h => by cases h), by kernel_rfl, by kernel_rfl⟩, Tryz.isAgg48⟩
instance ty276 : TyS Tryz.prog 48 [(0, 1), (1, 1)] := ⟨_, Tryz.underlying48, fun w => by simp [Tryz.sizeOf33]⟩
instance ty277 : TyF Tryz.prog 48 0 0 33 := ⟨⟨_, _, Tryz.t33, Tryz.underlying48, rfl, rfl, rfl, by kernel_rfl, by intro h; cases h⟩⟩
instance ty278 : TyF Tryz.prog 48 1 1 33 := ⟨⟨_, _, Tryz.t33, Tryz.underlying48, rfl, rfl, rfl, by kernel_rfl, by intro h; cases h⟩⟩
instance ty288 : TyF Tryz.prog 55 0 0 23 := ⟨⟨_, _, Tryz.t23, Tryz.underlying55, rfl, rfl, rfl, by kernel_rfl, by intro h; cases h⟩⟩
instance ty289 : TyF Tryz.prog 55 1 1 54 := ⟨⟨_, _, Tryz.t54, Tryz.underlying55, rfl, rfl, rfl, by kernel_rfl, by intro h; cases h⟩⟩
instance ty290 : TyI Tryz.prog 56 true 2 16 (.pointer none :: [.pointer none]) := ⟨⟨Tryz.t56, by kernel_rfl, by kernel_rfl, by kernel_rfl, by kernel_rfl, (fun h => by cases h), by kernel_rfl, by kernel_rfl⟩, Tryz.isAgg56⟩
instance ty291 : TyS Tryz.prog 56 [(0, 1), (1, 1)] := ⟨_, Tryz.underlying56, fun w => by simp [Tryz.sizeOf23, Tryz.sizeOf54]⟩
instance ty292 : TyF Tryz.prog 56 0 0 23 := ⟨⟨_, _, Tryz.t23, Tryz.underlying56, rfl, rfl, rfl, by kernel_rfl, by intro h; cases h⟩⟩
instance ty293 : TyF Tryz.prog 56 1 1 54 := ⟨⟨_, _, Tryz.t54, Tryz.underlying56, rfl, rfl, rfl, by kernel_rfl, by intro h; cases h⟩⟩
instance ty301 : TyF Tryz.prog 62 0 0 23 := ⟨⟨_, _, Tryz.t23, Tryz.underlying62, rfl, rfl, rfl, by kernel_rfl, by intro h; cases h⟩⟩
instance ty302 : TyF Tryz.prog 62 1 1 3 := ⟨⟨_, _, Tryz.t3, Tryz.underlying62, rfl, rfl, rfl, by kernel_rfl, by intro h; cases h⟩⟩
instance ty303 : TyF Tryz.prog 62 2 2 3 := ⟨⟨_, _, Tryz.t3, Tryz.underlying62, rfl, rfl, rfl, by kernel_rfl, by intro h; cases h⟩⟩
instance ty304 : TyF Tryz.prog 62 3 3 3 := ⟨⟨_, _, Tryz.t3, Tryz.underlying62, rfl, rfl, rfl, by kernel_rfl, by intro h; cases h⟩⟩
instance ty305 : TyI Tryz.prog 63 true 4 32 (.pointer none :: (.int .i64 0 :: (.int .i64 0 :: [.int .i64 0]))) := ⟨⟨Tryz.t63, by kernel_rfl, by kernel_rfl, by kernel_rfl, by kernel_rfl, (fun h => by cases h), by kernel_rfl, by kernel_rfl⟩, Tryz.isAgg63⟩
instance ty306 : TyS Tryz.prog 63 [(0, 1), (1, 1), (2, 1), (3, 1)] := ⟨_, Tryz.underlying63, fun w => by simp [Tryz.sizeOf23, Tryz.sizeOf3]⟩
instance ty307 : TyF Tryz.prog 63 0 0 23 := ⟨⟨_, _, Tryz.t23, Tryz.underlying63, rfl, rfl, rfl, by kernel_rfl, by intro h; cases h⟩⟩
instance ty308 : TyF Tryz.prog 63 1 1 3 := ⟨⟨_, _, Tryz.t3, Tryz.underlying63, rfl, rfl, rfl, by kernel_rfl, by intro h; cases h⟩⟩
instance ty309 : TyF Tryz.prog 63 2 2 3 := ⟨⟨_, _, Tryz.t3, Tryz.underlying63, rfl, rfl, rfl, by kernel_rfl, by intro h; cases h⟩⟩
instance ty310 : TyF Tryz.prog 63 3 3 3 := ⟨⟨_, _, Tryz.t3, Tryz.underlying63, rfl, rfl, rfl, by kernel_rfl, by intro h; cases h⟩⟩
instance ty312 : TyU Tryz.prog 66 (.slice 33) := ⟨Tryz.underlying66⟩
instance ty313 : TyI Tryz.prog 66 false 1 24 ([.slice none 0 0]) := ⟨⟨Tryz.t66, by kernel_rfl, by kernel_rfl, by kernel_rfl, by kernel_rfl, (fun _ => ⟨_, rfl, rfl⟩), by kernel_rfl, by kernel_rfl⟩, Tryz.isAgg66⟩
instance ty314 : TyU Tryz.prog 67 (.slice 3) := ⟨Tryz.underlying67⟩
instance ty315 : TyI Tryz.prog 67 false 1 24 ([.slice none 0 0]) := ⟨⟨Tryz.t67, by kernel_rfl, by kernel_rfl, by kernel_rfl, by kernel_rfl, (fun _ => ⟨_, rfl, rfl⟩), by kernel_rfl, by kernel_rfl⟩, Tryz.isAgg67⟩
instance ty318 : TyF Tryz.prog 68 0 0 4 := ⟨⟨_, _, Tryz.t4, Tryz.underlying68, rfl, rfl, rfl, by kernel_rfl, by intro h; cases h⟩⟩
instance ty319 : TyF Tryz.prog 68 1 1 66 := ⟨⟨_, _, Tryz.t66, Tryz.underlying68, rfl, rfl, rfl, by kernel_rfl, by intro h; cases h⟩⟩
instance ty320 : TyF Tryz.prog 68 2 2 66 := ⟨⟨_, _, Tryz.t66, Tryz.underlying68, rfl, rfl, rfl, by kernel_rfl, by intro h; cases h⟩⟩
instance ty321 : TyF Tryz.prog 68 3 3 67 := ⟨⟨_, _, Tryz.t67, Tryz.underlying68, rfl, rfl, rfl, by kernel_rfl, by intro h; cases h⟩⟩
instance ty322 : TyI Tryz.prog 69 true 4 80 (.bool false :: (.slice none 0 0 :: (.slice none 0 0 :: [.slice none 0 0]))) := ⟨⟨Tryz.t69, by kernel_rfl, by kernel_rfl, by kernel_rfl, by kernel_rfl, (fun h => by cases h), by kernel_rfl, by kernel_rfl⟩, Tryz.isAgg69⟩
instance ty323 : TyS Tryz.prog 69 [(0, 1), (1, 1), (2, 1), (3, 1)] := ⟨_, Tryz.underlying69, fun w => by simp [Tryz.sizeOf4, Tryz.sizeOf66, Tryz.sizeOf67]⟩
instance ty324 : TyF Tryz.prog 69 0 0 4 := ⟨⟨_, _, Tryz.t4, Tryz.underlying69, rfl, rfl, rfl, by kernel_rfl, by intro h; cases h⟩⟩
instance ty325 : TyF Tryz.prog 69 1 1 66 := ⟨⟨_, _, Tryz.t66, Tryz.underlying69, rfl, rfl, rfl, by kernel_rfl, by intro h; cases h⟩⟩
instance ty326 : TyF Tryz.prog 69 2 2 66 := ⟨⟨_, _, Tryz.t66, Tryz.underlying69, rfl, rfl, rfl, by kernel_rfl, by intro h; cases h⟩⟩
instance ty327 : TyF Tryz.prog 69 3 3 67 := ⟨⟨_, _, Tryz.t67, Tryz.underlying69, rfl, rfl, rfl, by kernel_rfl, by intro h; cases h⟩⟩
instance ty330 : TyF Tryz.prog 70 0 0 3 := ⟨⟨_, _, Tryz.t3, Tryz.underlying70, rfl, rfl, rfl, by kernel_rfl, by intro h; cases h⟩⟩
instance ty331 : TyF Tryz.prog 70 1 1 3 := ⟨⟨_, _, Tryz.t3, Tryz.underlying70, rfl, rfl, rfl, by kernel_rfl, by intro h; cases h⟩⟩
instance ty332 : TyF Tryz.prog 70 2 2 33 := ⟨⟨_, _, Tryz.t33, Tryz.underlying70, rfl, rfl, rfl, by kernel_rfl, by intro h; cases h⟩⟩
instance ty333 : TyF Tryz.prog 70 3 3 3 := ⟨⟨_, _, Tryz.t3, Tryz.underlying70, rfl, rfl, rfl, by kernel_rfl, by intro h; cases h⟩⟩
instance ty334 : TyI Tryz.prog 71 true 4 48 (.int .i64 0 :: (.int .i64 0 :: (.slice none 0 0 :: [.int .i64 0]))) := ⟨⟨Tryz.t71, by kernel_rfl, by kernel_rfl, by kernel_rfl, by kernel_rfl, (fun h => by cases h), by kernel_rfl, by kernel_rfl⟩, Tryz.isAgg71⟩
instance ty335 : TyS Tryz.prog 71 [(0, 1), (1, 1), (2, 1), (3, 1)] := ⟨_, Tryz.underlying71, fun w => by simp [Tryz.sizeOf3, Tryz.sizeOf33]⟩
instance ty336 : TyF Tryz.prog 71 0 0 3 := ⟨⟨_, _, Tryz.t3, Tryz.underlying71, rfl, rfl, rfl, by kernel_rfl, by intro h; cases h⟩⟩
instance ty337 : TyF Tryz.prog 71 1 1 3 := ⟨⟨_, _, Tryz.t3, Tryz.underlying71, rfl, rfl, rfl, by kernel_rfl, by intro h; cases h⟩⟩
instance ty338 : TyF Tryz.prog 71 2 2 33 := ⟨⟨_, _, Tryz.t33, Tryz.underlying71, rfl, rfl, rfl, by kernel_rfl, by intro h; cases h⟩⟩
instance ty339 : TyF Tryz.prog 71 3 3 3 := ⟨⟨_, _, Tryz.t3, Tryz.underlying71, rfl, rfl, rfl, by kernel_rfl, by intro h; cases h⟩⟩
instance ty356 : TyF Tryz.prog 87 0 0 33 := ⟨⟨_, _, Tryz.t33, Tryz.underlying87, rfl, rfl, rfl, by kernel_rfl, by intro h; cases h⟩⟩
instance ty357 : TyF Tryz.prog 87 1 1 3 := ⟨⟨_, _, Tryz.t3, Tryz.underlying87, rfl, rfl, rfl, by kernel_rfl, by intro h; cases h⟩⟩
instance ty358 : TyI Tryz.prog 88 true 2 32 (.slice none 0 0 :: [.int .i64 0]) := ⟨⟨Tryz.t88, by kernel_rfl, by kernel_rfl, by kernel_rfl, by kernel_rfl, (fun h => by cases h), by kernel_rfl, by kernel_rfl⟩, Tryz.isAgg88⟩
instance ty359 : TyS Tryz.prog 88 [(0, 1), (1, 1)] := ⟨_, Tryz.underlying88, fun w => by simp [Tryz.sizeOf33, Tryz.sizeOf3]⟩
instance ty360 : TyF Tryz.prog 88 0 0 33 := ⟨⟨_, _, Tryz.t33, Tryz.underlying88, rfl, rfl, rfl, by kernel_rfl, by intro h; cases h⟩⟩
instance ty361 : TyF Tryz.prog 88 1 1 3 := ⟨⟨_, _, Tryz.t3, Tryz.underlying88, rfl, rfl, rfl, by kernel_rfl, by intro h; cases h⟩⟩
instance ty365 : TyI Tryz.prog 91 false 1 8 ([.pointer none]) := ⟨⟨Tryz.t91, by kernel_rfl, by kernel_rfl, by kernel_rfl, by kernel_rfl, (fun _ => ⟨_, rfl, rfl⟩), by kernel_rfl, by kernel_rfl⟩, Tryz.isAgg91⟩
instance ty371 : TyI Tryz.prog 97 false 1 8 ([.pointer none]) := ⟨⟨Tryz.t97, by kernel_rfl, by kernel_rfl, by kernel_rfl, by kernel_rfl, (fun _ => ⟨_, rfl, rfl⟩), by kernel_rfl, by kernel_rfl⟩, Tryz.isAgg97⟩
instance ty379 : TyI Tryz.prog 107 false 1 8 ([.pointer none]) := ⟨⟨Tryz.t107, by kernel_rfl, by kernel_rfl, by kernel_rfl, by kernel_rfl, (fun _ => ⟨_, rfl, rfl⟩), by kernel_rfl, by kernel_rfl⟩, Tryz.isAgg107⟩
instance ty415 : TyU Tryz.prog 147 (.slice 184) := ⟨Tryz.underlying147⟩
instance ty416 : TyI Tryz.prog 147 false 1 24 ([.slice none 0 0]) := ⟨⟨Tryz.t147, by kernel_rfl, by kernel_rfl, by kernel_rfl, by kernel_rfl, (fun _ => ⟨_, rfl, rfl⟩), by kernel_rfl, by kernel_rfl⟩, Tryz.isAgg147⟩
instance ty418 : TyI Tryz.prog 148 false 1 24 ([.slice none 0 0]) := ⟨⟨Tryz.t148, by kernel_rfl, by kernel_rfl, by kernel_rfl, by kernel_rfl, (fun _ => ⟨_, rfl, rfl⟩), by kernel_rfl, by kernel_rfl⟩, Tryz.isAgg148⟩
instance ty421 : TyF Tryz.prog 149 0 0 147 := ⟨⟨_, _, Tryz.t147, Tryz.underlying149, rfl, rfl, rfl, by kernel_rfl, by intro h; cases h⟩⟩
instance ty422 : TyF Tryz.prog 149 1 1 148 := ⟨⟨_, _, Tryz.t148, Tryz.underlying149, rfl, rfl, rfl, by kernel_rfl, by intro h; cases h⟩⟩
instance ty423 : TyF Tryz.prog 149 2 2 3 := ⟨⟨_, _, Tryz.t3, Tryz.underlying149, rfl, rfl, rfl, by kernel_rfl, by intro h; cases h⟩⟩
instance ty424 : TyF Tryz.prog 149 3 3 3 := ⟨⟨_, _, Tryz.t3, Tryz.underlying149, rfl, rfl, rfl, by kernel_rfl, by intro h; cases h⟩⟩
instance ty425 : TyI Tryz.prog 150 true 4 64 (.slice none 0 0 :: (.slice none 0 0 :: (.int .i64 0 :: [.int .i64 0]))) := ⟨⟨Tryz.t150, by kernel_rfl, by kernel_rfl, by kernel_rfl, by kernel_rfl, (fun h => by cases h), by kernel_rfl, by kernel_rfl⟩, Tryz.isAgg150⟩
instance ty426 : TyS Tryz.prog 150 [(0, 1), (1, 1), (2, 1), (3, 1)] := ⟨_, Tryz.underlying150, fun w => by simp [Tryz.sizeOf147, Tryz.sizeOf148, Tryz.sizeOf3]⟩
instance ty427 : TyF Tryz.prog 150 0 0 147 := ⟨⟨_, _, Tryz.t147, Tryz.underlying150, rfl, rfl, rfl, by kernel_rfl, by intro h; cases h⟩⟩
instance ty428 : TyF Tryz.prog 150 1 1 148 := ⟨⟨_, _, Tryz.t148, Tryz.underlying150, rfl, rfl, rfl, by kernel_rfl, by intro h; cases h⟩⟩
instance ty429 : TyF Tryz.prog 150 2 2 3 := ⟨⟨_, _, Tryz.t3, Tryz.underlying150, rfl, rfl, rfl, by kernel_rfl, by intro h; cases h⟩⟩
instance ty430 : TyF Tryz.prog 150 3 3 3 := ⟨⟨_, _, Tryz.t3, Tryz.underlying150, rfl, rfl, rfl, by kernel_rfl, by intro h; cases h⟩⟩
instance ty435 : TyF Tryz.prog 152 0 0 30 := ⟨⟨_, _, Tryz.t30, Tryz.underlying152, rfl, rfl, rfl, by kernel_rfl, by intro h; cases h⟩⟩
instance ty436 : TyF Tryz.prog 152 1 1 151 := ⟨⟨_, _, Tryz.t151, Tryz.underlying152, rfl, rfl, rfl, by kernel_rfl, by intro h; cases h⟩⟩
instance ty437 : TyF Tryz.prog 152 2 2 3 := ⟨⟨_, _, Tryz.t3, Tryz.underlying152, rfl, rfl, rfl, by kernel_rfl, by intro h; cases h⟩⟩
instance ty438 : TyF Tryz.prog 152 3 3 3 := ⟨⟨_, _, Tryz.t3, Tryz.underlying152, rfl, rfl, rfl, by kernel_rfl, by intro h; cases h⟩⟩
instance ty439 : TyI Tryz.prog 153 true 4 64 (.slice none 0 0 :: (.slice none 0 0 :: (.int .i64 0 :: [.int .i64 0]))) := ⟨⟨Tryz.t153, by kernel_rfl, by kernel_rfl, by kernel_rfl, by kernel_rfl, (fun h => by cases h), by kernel_rfl, by kernel_rfl⟩, Tryz.isAgg153⟩
instance ty440 : TyS Tryz.prog 153 [(0, 1), (1, 1), (2, 1), (3, 1)] := ⟨_, Tryz.underlying153, fun w => by simp [Tryz.sizeOf30, Tryz.sizeOf151, Tryz.sizeOf3]⟩
instance ty441 : TyF Tryz.prog 153 0 0 30 := ⟨⟨_, _, Tryz.t30, Tryz.underlying153, rfl, rfl, rfl, by kernel_rfl, by intro h; cases h⟩⟩
instance ty442 : TyF Tryz.prog 153 1 1 151 := ⟨⟨_, _, Tryz.t151, Tryz.underlying153, rfl, rfl, rfl, by kernel_rfl, by intro h; cases h⟩⟩
instance ty443 : TyF Tryz.prog 153 2 2 3 := ⟨⟨_, _, Tryz.t3, Tryz.underlying153, rfl, rfl, rfl, by kernel_rfl, by intro h; cases h⟩⟩
instance ty444 : TyF Tryz.prog 153 3 3 3 := ⟨⟨_, _, Tryz.t3, Tryz.underlying153, rfl, rfl, rfl, by kernel_rfl, by intro h; cases h⟩⟩
instance ty445 : TyU Tryz.prog 154 (.slice 206) := ⟨Tryz.underlying154⟩
instance ty446 : TyI Tryz.prog 154 false 1 24 ([.slice none 0 0]) := ⟨⟨Tryz.t154, by kernel_rfl, by kernel_rfl, by kernel_rfl, by kernel_rfl, (fun _ => ⟨_, rfl, rfl⟩), by kernel_rfl, by kernel_rfl⟩, Tryz.isAgg154⟩
instance ty447 : TyI Tryz.prog 155 false 1 8 ([.chan none]) := ⟨⟨Tryz.t155, by kernel_rfl, by kernel_rfl, by kernel_rfl, by kernel_rfl, (fun _ => ⟨_, rfl, rfl⟩), by kernel_rfl, by kernel_rfl⟩, Tryz.isAgg155⟩
instance ty450 : TyF Tryz.prog 156 0 0 91 := ⟨⟨_, _, Tryz.t91, Tryz.underlying156, rfl, rfl, rfl, by kernel_rfl, by intro h; cases h⟩⟩
instance ty451 : TyF Tryz.prog 156 1 1 154 := ⟨⟨_, _, Tryz.t154, Tryz.underlying156, rfl, rfl, rfl, by kernel_rfl, by intro h; cases h⟩⟩
instance ty452 : TyF Tryz.prog 156 2 2 155 := ⟨⟨_, _, Tryz.t155, Tryz.underlying156, rfl, rfl, rfl, by kernel_rfl, by intro h; cases h⟩⟩
instance ty453 : TyF Tryz.prog 156 3 3 3 := ⟨⟨_, _, Tryz.t3, Tryz.underlying156, rfl, rfl, rfl, by kernel_rfl, by intro h; cases h⟩⟩
instance ty454 : TyF Tryz.prog 156 4 4 3 := ⟨⟨_, _, Tryz.t3, Tryz.underlying156, rfl, rfl, rfl, by kernel_rfl, by intro h; cases h⟩⟩
instance ty455 : TyF Tryz.prog 156 5 5 3 := ⟨⟨_, _, Tryz.t3, Tryz.underlying156, rfl, rfl, rfl, by kernel_rfl, by intro h; cases h⟩⟩
instance ty456 : TyI Tryz.prog 157 true 6 64 (.pointer none :: (.slice none 0 0 :: (.chan none :: (.int .i64 0 :: (.int .i64 0 :: [.int .i64 0]))))) := ⟨⟨Tryz.t157, by kernel_rfl, by kernel_rfl, by kernel_rfl, by kernel_rfl, (fun h => by cases h), by kernel_rfl, by kernel_rfl⟩, Tryz.isAgg157⟩
instance ty457 : TyS Tryz.prog 157 [(0, 1), (1, 1), (2, 1), (3, 1), (4, 1), (5, 1)] := ⟨_, Tryz.underlying157, fun w => by simp [Tryz.sizeOf91, Tryz.sizeOf154, Tryz.sizeOf155, Tryz.sizeOf3]⟩
instance ty458 : TyF Tryz.prog 157 0 0 91 := ⟨⟨_, _, Tryz.t91, Tryz.underlying157, rfl, rfl, rfl, by kernel_rfl, by intro h; cases h⟩⟩
instance ty459 : TyF Tryz.prog 157 1 1 154 := ⟨⟨_, _, Tryz.t154, Tryz.underlying157, rfl, rfl, rfl, by kernel_rfl, by intro h; cases h⟩⟩
instance ty460 : TyF Tryz.prog 157 2 2 155 := ⟨⟨_, _, Tryz.t155, Tryz.underlying157, rfl, rfl, rfl, by kernel_rfl, by intro h; cases h⟩⟩
instance ty461 : TyF Tryz.prog 157 3 3 3 := ⟨⟨_, _, Tryz.t3, Tryz.underlying157, rfl, rfl, rfl, by kernel_rfl, by intro h; cases h⟩⟩
instance ty462 : TyF Tryz.prog 157 4 4 3 := ⟨⟨_, _, Tryz.t3, Tryz.underlying157, rfl, rfl, rfl, by kernel_rfl, by intro h; cases h⟩⟩
instance ty463 : TyF Tryz.prog 157 5 5 3 := ⟨⟨_, _, Tryz.t3, Tryz.underlying157, rfl, rfl, rfl, by kernel_rfl, by intro h; cases h⟩⟩
instance ty464 : TyU Tryz.prog 158 (.slice 4) := ⟨Tryz.underlying158⟩
instance ty468 : TyF Tryz.prog 159 0 0 94 := ⟨⟨_, _, Tryz.t94, Tryz.underlying159, rfl, rfl, rfl, by kernel_rfl, by intro h; cases h⟩⟩
instance ty469 : TyF Tryz.prog 159 1 1 67 := ⟨⟨_, _, Tryz.t67, Tryz.underlying159, rfl, rfl, rfl, by kernel_rfl, by intro h; cases h⟩⟩
instance ty470 : TyF Tryz.prog 159 2 2 67 := ⟨⟨_, _, Tryz.t67, Tryz.underlying159, rfl, rfl, rfl, by kernel_rfl, by intro h; cases h⟩⟩
instance ty471 : TyF Tryz.prog 159 3 3 158 := ⟨⟨_, _, Tryz.t158, Tryz.underlying159, rfl, rfl, rfl, by kernel_rfl, by intro h; cases h⟩⟩
instance ty472 : TyF Tryz.prog 159 4 4 30 := ⟨⟨_, _, Tryz.t30, Tryz.underlying159, rfl, rfl, rfl, by kernel_rfl, by intro h; cases h⟩⟩
instance ty473 : TyF Tryz.prog 159 5 5 67 := ⟨⟨_, _, Tryz.t67, Tryz.underlying159, rfl, rfl, rfl, by kernel_rfl, by intro h; cases h⟩⟩
instance ty474 : TyF Tryz.prog 159 6 6 3 := ⟨⟨_, _, Tryz.t3, Tryz.underlying159, rfl, rfl, rfl, by kernel_rfl, by intro h; cases h⟩⟩
instance ty475 : TyF Tryz.prog 159 7 7 3 := ⟨⟨_, _, Tryz.t3, Tryz.underlying159, rfl, rfl, rfl, by kernel_rfl, by intro h; cases h⟩⟩
instance ty476 : TyF Tryz.prog 159 8 8 3 := ⟨⟨_, _, Tryz.t3, Tryz.underlying159, rfl, rfl, rfl, by kernel_rfl, by intro h; cases h⟩⟩
instance ty477 : TyI Tryz.prog 160 true 9 152 (.pointer none :: (.slice none 0 0 :: (.slice none 0 0 :: (.slice none 0 0 :: (.slice none 0 0 :: (.slice none 0 0 :: (.int .i64 0 :: (.int .i64 0 :: [.int .i64 0])))))))) := ⟨⟨Tryz.t160, by kernel_rfl, by kernel_rfl, by kernel_rfl, by kernel_rfl, (fun h => by cases h), by kernel_rfl, by kernel_rfl⟩, Tryz.isAgg160⟩
instance ty478 : TyS Tryz.prog 160 [(0, 1), (1, 1), (2, 1), (3, 1), (4, 1), (5, 1), (6, 1), (7, 1), (8, 1)] := ⟨_, Tryz.underlying160, fun w => by simp [Tryz.sizeOf94, Tryz.sizeOf67, Tryz.sizeOf158, Tryz.sizeOf30, Tryz.sizeOf3]⟩
instance ty479 : TyF Tryz.prog 160 0 0 94 := ⟨⟨_, _, Tryz.t94, Tryz.underlying160, rfl, rfl, rfl, by kernel_rfl, by intro h; cases h⟩⟩
instance ty480 : TyF Tryz.prog 160 1 1 67 := ⟨⟨_, _, Tryz.t67, Tryz.underlying160, rfl, rfl, rfl, by kernel_rfl, by intro h; cases h⟩⟩
instance ty481 : TyF Tryz.prog 160 2 2 67 := ⟨⟨_, _, Tryz.t67, Tryz.underlying160, rfl, rfl, rfl, by kernel_rfl, by intro h; cases h⟩⟩
instance ty482 : TyF Tryz.prog 160 3 3 158 := ⟨⟨_, _, Tryz.t158, Tryz.underlying160, rfl, rfl, rfl, by kernel_rfl, by intro h; cases h⟩⟩
instance ty483 : TyF Tryz.prog 160 4 4 30 := ⟨⟨_, _, Tryz.t30, Tryz.underlying160, rfl, rfl, rfl, by kernel_rfl, by intro h; cases h⟩⟩
instance ty484 : TyF Tryz.prog 160 5 5 67 := ⟨⟨_, _, Tryz.t67, Tryz.underlying160, rfl, rfl, rfl, by kernel_rfl, by intro h; cases h⟩⟩
instance ty485 : TyF Tryz.prog 160 6 6 3 := ⟨⟨_, _, Tryz.t3, Tryz.underlying160, rfl, rfl, rfl, by kernel_rfl, by intro h; cases h⟩⟩
instance ty486 : TyF Tryz.prog 160 7 7 3 := ⟨⟨_, _, Tryz.t3, Tryz.underlying160, rfl, rfl, rfl, by kernel_rfl, by intro h; cases h⟩⟩
instance ty487 : TyF Tryz.prog 160 8 8 3 := ⟨⟨_, _, Tryz.t3, Tryz.underlying160, rfl, rfl, rfl, by kernel_rfl, by intro h; cases h⟩⟩
instance ty489 : TyU Tryz.prog 162 (.map 3 33) := ⟨Tryz.underlying162⟩
instance ty490 : TyI Tryz.prog 162 false 1 8 ([.map none]) := ⟨⟨Tryz.t162, by kernel_rfl, by kernel_rfl, by kernel_rfl, by kernel_rfl, (fun _ => ⟨_, rfl, rfl⟩), by kernel_rfl, by kernel_rfl⟩, Tryz.isAgg162⟩
instance ty493 : TyF Tryz.prog 163 0 0 91 := ⟨⟨_, _, Tryz.t91, Tryz.underlying163, rfl, rfl, rfl, by kernel_rfl, by intro h; cases h⟩⟩
instance ty494 : TyF Tryz.prog 163 1 1 97 := ⟨⟨_, _, Tryz.t97, Tryz.underlying163, rfl, rfl, rfl, by kernel_rfl, by intro h; cases h⟩⟩
instance ty495 : TyF Tryz.prog 163 2 2 3 := ⟨⟨_, _, Tryz.t3, Tryz.underlying163, rfl, rfl, rfl, by kernel_rfl, by intro h; cases h⟩⟩
instance ty496 : TyF Tryz.prog 163 3 3 67 := ⟨⟨_, _, Tryz.t67, Tryz.underlying163, rfl, rfl, rfl, by kernel_rfl, by intro h; cases h⟩⟩
instance ty497 : TyF Tryz.prog 163 4 4 162 := ⟨⟨_, _, Tryz.t162, Tryz.underlying163, rfl, rfl, rfl, by kernel_rfl, by intro h; cases h⟩⟩
instance ty498 : TyF Tryz.prog 163 5 5 3 := ⟨⟨_, _, Tryz.t3, Tryz.underlying163, rfl, rfl, rfl, by kernel_rfl, by intro h; cases h⟩⟩
instance ty499 : TyF Tryz.prog 163 6 6 3 := ⟨⟨_, _, Tryz.t3, Tryz.underlying163, rfl, rfl, rfl, by kernel_rfl, by intro h; cases h⟩⟩
instance ty500 : TyI Tryz.prog 164 true 7 72 (.pointer none :: (.pointer none :: (.int .i64 0 :: (.slice none 0 0 :: (.map none :: (.int .i64 0 :: [.int .i64 0])))))) := ⟨⟨Tryz.t164, by kernel_rfl, by kernel_rfl, by kernel_rfl, by kernel_rfl, (fun h => by cases h), by kernel_rfl, by kernel_rfl⟩, Tryz.isAgg164⟩
instance ty501 : TyS Tryz.prog 164 [(0, 1), (1, 1), (2, 1), (3, 1), (4, 1), (5, 1), (6, 1)] := ⟨_, Tryz.underlying164, fun w => by simp [Tryz.sizeOf91, Tryz.sizeOf97, Tryz.sizeOf3, Tryz.sizeOf67, Tryz.sizeOf162]⟩
instance ty502 : TyF Tryz.prog 164 0 0 91 := ⟨⟨_, _, Tryz.t91, Tryz.underlying164, rfl, rfl, rfl, by kernel_rfl, by intro h; cases h⟩⟩
instance ty503 : TyF Tryz.prog 164 1 1 97 := ⟨⟨_, _, Tryz.t97, Tryz.underlying164, rfl, rfl, rfl, by kernel_rfl, by intro h; cases h⟩⟩
instance ty504 : TyF Tryz.prog 164 2 2 3 := ⟨⟨_, _, Tryz.t3, Tryz.underlying164, rfl, rfl, rfl, by kernel_rfl, by intro h; cases h⟩⟩
instance ty505 : TyF Tryz.prog 164 3 3 67 := ⟨⟨_, _, Tryz.t67, Tryz.underlying164, rfl, rfl, rfl, by kernel_rfl, by intro h; cases h⟩⟩
instance ty506 : TyF Tryz.prog 164 4 4 162 := ⟨⟨_, _, Tryz.t162, Tryz.underlying164, rfl, rfl, rfl, by kernel_rfl, by intro h; cases h⟩⟩
instance ty507 : TyF Tryz.prog 164 5 5 3 := ⟨⟨_, _, Tryz.t3, Tryz.underlying164, rfl, rfl, rfl, by kernel_rfl, by intro h; cases h⟩⟩
instance ty508 : TyF Tryz.prog 164 6 6 3 := ⟨⟨_, _, Tryz.t3, Tryz.underlying164, rfl, rfl, rfl, by kernel_rfl, by intro h; cases h⟩⟩
instance ty511 : TyU Tryz.prog 167 (.slice 171) := ⟨Tryz.underlying167⟩
instance ty515 : TyF Tryz.prog 168 0 0 94 := ⟨⟨_, _, Tryz.t94, Tryz.underlying168, rfl, rfl, rfl, by kernel_rfl, by intro h; cases h⟩⟩
instance ty516 : TyF Tryz.prog 168 1 1 100 := ⟨⟨_, _, Tryz.t100, Tryz.underlying168, rfl, rfl, rfl, by kernel_rfl, by intro h; cases h⟩⟩
instance ty517 : TyF Tryz.prog 168 2 2 3 := ⟨⟨_, _, Tryz.t3, Tryz.underlying168, rfl, rfl, rfl, by kernel_rfl, by intro h; cases h⟩⟩
instance ty518 : TyF Tryz.prog 168 3 3 167 := ⟨⟨_, _, Tryz.t167, Tryz.underlying168, rfl, rfl, rfl, by kernel_rfl, by intro h; cases h⟩⟩
instance ty519 : TyF Tryz.prog 168 4 4 3 := ⟨⟨_, _, Tryz.t3, Tryz.underlying168, rfl, rfl, rfl, by kernel_rfl, by intro h; cases h⟩⟩
instance ty520 : TyF Tryz.prog 168 5 5 3 := ⟨⟨_, _, Tryz.t3, Tryz.underlying168, rfl, rfl, rfl, by kernel_rfl, by intro h; cases h⟩⟩
instance ty521 : TyI Tryz.prog 169 true 6 64 (.pointer none :: (.pointer none :: (.int .i64 0 :: (.slice none 0 0 :: (.int .i64 0 :: [.int .i64 0]))))) := ⟨⟨Tryz.t169, by kernel_rfl, by kernel_rfl, by kernel_rfl, by kernel_rfl, (fun h => by cases h), by kernel_rfl, by kernel_rfl⟩, Tryz.isAgg169⟩
instance ty522 : TyS Tryz.prog 169 [(0, 1), (1, 1), (2, 1), (3, 1), (4, 1), (5, 1)] := ⟨_, Tryz.underlying169, fun w => by simp [Tryz.sizeOf94, Tryz.sizeOf100, Tryz.sizeOf3, Tryz.sizeOf167]⟩
instance ty523 : TyF Tryz.prog 169 0 0 94 := ⟨⟨_, _, Tryz.t94, Tryz.underlying169, rfl, rfl, rfl, by kernel_rfl, by intro h; cases h⟩⟩
instance ty524 : TyF Tryz.prog 169 1 1 100 := ⟨⟨_, _, Tryz.t100, Tryz.underlying169, rfl, rfl, rfl, by kernel_rfl, by intro h; cases h⟩⟩
instance ty525 : TyF Tryz.prog 169 2 2 3 := ⟨⟨_, _, Tryz.t3, Tryz.underlying169, rfl, rfl, rfl, by kernel_rfl, by intro h; cases h⟩⟩
instance ty526 : TyF Tryz.prog 169 3 3 167 := ⟨⟨_, _, Tryz.t167, Tryz.underlying169, rfl, rfl, rfl, by kernel_rfl, by intro h; cases h⟩⟩
instance ty527 : TyF Tryz.prog 169 4 4 3 := ⟨⟨_, _, Tryz.t3, Tryz.underlying169, rfl, rfl, rfl, by kernel_rfl, by intro h; cases h⟩⟩
instance ty528 : TyF Tryz.prog 169 5 5 3 := ⟨⟨_, _, Tryz.t3, Tryz.underlying169, rfl, rfl, rfl, by kernel_rfl, by intro h; cases h⟩⟩
instance ty531 : TyF Tryz.prog 170 0 0 3 := ⟨⟨_, _, Tryz.t3, Tryz.underlying170, rfl, rfl, rfl, by kernel_rfl, by intro h; cases h⟩⟩
instance ty532 : TyF Tryz.prog 170 1 1 9 := ⟨⟨_, _, Tryz.t9, Tryz.underlying170, rfl, rfl, rfl, by kernel_rfl, by intro h; cases h⟩⟩
instance ty533 : TyI Tryz.prog 171 true 2 24 (.int .i64 0 :: [.string ⟨#[]⟩]) := ⟨⟨Tryz.t171, by kernel_rfl, by kernel_rfl, by kernel_rfl, by kernel_rfl, (fun h => by cases h), by kernel_rfl, by kernel_rfl⟩, Tryz.isAgg171⟩
instance ty535 : TyF Tryz.prog 171 0 0 3 := ⟨⟨_, _, Tryz.t3, Tryz.underlying171, rfl, rfl, rfl, by kernel_rfl, by intro h; cases h⟩⟩
instance ty536 : TyF Tryz.prog 171 1 1 9 := ⟨⟨_, _, Tryz.t9, Tryz.underlying171, rfl, rfl, rfl, by kernel_rfl, by intro h; cases h⟩⟩
instance ty541 : TyF Tryz.prog 174 0 0 23 := ⟨⟨_, _, Tryz.t23, Tryz.underlying174, rfl, rfl, rfl, by kernel_rfl, by intro h; cases h⟩⟩
instance ty542 : TyF Tryz.prog 174 1 1 3 := ⟨⟨_, _, Tryz.t3, Tryz.underlying174, rfl, rfl, rfl, by kernel_rfl, by intro h; cases h⟩⟩
instance ty543 : TyF Tryz.prog 174 2 2 67 := ⟨⟨_, _, Tryz.t67, Tryz.underlying174, rfl, rfl, rfl, by kernel_rfl, by intro h; cases h⟩⟩
instance ty544 : TyF Tryz.prog 174 3 3 162 := ⟨⟨_, _, Tryz.t162, Tryz.underlying174, rfl, rfl, rfl, by kernel_rfl, by intro h; cases h⟩⟩
instance ty545 : TyI Tryz.prog 175 true 4 48 (.pointer none :: (.int .i64 0 :: (.slice none 0 0 :: [.map none]))) := ⟨⟨Tryz.t175, by kernel_rfl, by kernel_rfl, by kernel_rfl, by kernel_rfl, (fun h => by cases h), by kernel_rfl, by kernel_rfl⟩, Tryz.isAgg175⟩
instance ty546 : TyS Tryz.prog 175 [(0, 1), (1, 1), (2, 1), (3, 1)] := ⟨_, Tryz.underlying175, fun w => by simp [Tryz.sizeOf23, Tryz.sizeOf3, Tryz.sizeOf67, Tryz.sizeOf162]⟩
instance ty547 : TyF Tryz.prog 175 0 0 23 := ⟨⟨_, _, Tryz.t23, Tryz.underlying175, rfl, rfl, rfl, by kernel_rfl, by intro h; cases h⟩⟩
instance ty548 : TyF Tryz.prog 175 1 1 3 := ⟨⟨_, _, Tryz.t3, Tryz.underlying175, rfl, rfl, rfl, by kernel_rfl, by intro h; cases h⟩⟩
instance ty549 : TyF Tryz.prog 175 2 2 67 := ⟨⟨_, _, Tryz.t67, Tryz.underlying175, rfl, rfl, rfl, by kernel_rfl, by intro h; cases h⟩⟩
instance ty550 : TyF Tryz.prog 175 3 3 162 := ⟨⟨_, _, Tryz.t162, Tryz.underlying175, rfl, rfl, rfl, by kernel_rfl, by intro h; cases h⟩⟩
instance ty556 : TyI Tryz.prog 180 false 1 8 ([.int .u64 0]) := ⟨⟨Tryz.t180, by kernel_rfl, by kernel_rfl, by kernel_rfl, by kernel_rfl, (fun _ => ⟨_, rfl, rfl⟩), by kernel_rfl, by kernel_rfl⟩, Tryz.isAgg180⟩
instance ty559 : TyU Tryz.prog 184 (.array 256 5) := ⟨Tryz.underlying184⟩
instance ty560 : TyI Tryz.prog 184 true 256 256 (reps 256 (.int .u8 0)) := ⟨⟨Tryz.t184, by kernel_rfl, by kernel_rfl, by kernel_rfl, by kernel_rfl, (fun h => by cases h), by kernel_rfl, by kernel_rfl⟩, Tryz.isAgg184⟩
instance ty581 : TyF Tryz.prog 205 0 0 4 := ⟨⟨_, _, Tryz.t4, Tryz.underlying205, rfl, rfl, rfl, by kernel_rfl, by intro h; cases h⟩⟩
instance ty582 : TyF Tryz.prog 205 1 1 3 := ⟨⟨_, _, Tryz.t3, Tryz.underlying205, rfl, rfl, rfl, by kernel_rfl, by intro h; cases h⟩⟩
instance ty583 : TyF Tryz.prog 205 2 2 3 := ⟨⟨_, _, Tryz.t3, Tryz.underlying205, rfl, rfl, rfl, by kernel_rfl, by intro h; cases h⟩⟩
instance ty584 : TyF Tryz.prog 205 3 3 4 := ⟨⟨_, _, Tryz.t4, Tryz.underlying205, rfl, rfl, rfl, by kernel_rfl, by intro h; cases h⟩⟩
instance ty585 : TyF Tryz.prog 205 4 4 33 := ⟨⟨_, _, Tryz.t33, Tryz.underlying205, rfl, rfl, rfl, by kernel_rfl, by intro h; cases h⟩⟩
instance ty586 : TyI Tryz.prog 206 true 5 56 (.bool false :: (.int .i64 0 :: (.int .i64 0 :: (.bool false :: [.slice none 0 0])))) := ⟨⟨Tryz.t206, by kernel_rfl, by kernel_rfl, by kernel_rfl, by kernel_rfl, (fun h => by cases h), by kernel_rfl, by kernel_rfl⟩, Tryz.isAgg206⟩
instance ty587 : TyS Tryz.prog 206 [(0, 1), (1, 1), (2, 1), (3, 1), (4, 1)] := ⟨_, Tryz.underlying206, fun w => by simp [Tryz.sizeOf4, Tryz.sizeOf3, Tryz.sizeOf33]⟩
instance ty588 : TyF Tryz.prog 206 0 0 4 := ⟨⟨_, _, Tryz.t4, Tryz.underlying206, rfl, rfl, rfl, by kernel_rfl, by intro h; cases h⟩⟩
instance ty589 : TyF Tryz.prog 206 1 1 3 := ⟨⟨_, _, Tryz.t3, Tryz.underlying206, rfl, rfl, rfl, by kernel_rfl, by intro h; cases h⟩⟩
instance ty590 : TyF Tryz.prog 206 2 2 3 := ⟨⟨_, _, Tryz.t3, Tryz.underlying206, rfl, rfl, rfl, by kernel_rfl, by intro h; cases h⟩⟩
instance ty591 : TyF Tryz.prog 206 3 3 4 := ⟨⟨_, _, Tryz.t4, Tryz.underlying206, rfl, rfl, rfl, by kernel_rfl, by intro h; cases h⟩⟩
instance ty592 : TyF Tryz.prog 206 4 4 33 := ⟨⟨_, _, Tryz.t33, Tryz.underlying206, rfl, rfl, rfl, by kernel_rfl, by intro h; cases h⟩⟩
instance ty606 : TyF Tryz.prog 218 0 0 5 := ⟨⟨_, _, Tryz.t5, Tryz.underlying218, rfl, rfl, rfl, by kernel_rfl, by intro h; cases h⟩⟩
instance ty607 : TyF Tryz.prog 218 1 1 5 := ⟨⟨_, _, Tryz.t5, Tryz.underlying218, rfl, rfl, rfl, by kernel_rfl, by intro h; cases h⟩⟩
instance ty610 : TyF Tryz.prog 219 0 0 5 := ⟨⟨_, _, Tryz.t5, Tryz.underlying219, rfl, rfl, rfl, by kernel_rfl, by intro h; cases h⟩⟩
instance ty611 : TyF Tryz.prog 219 1 1 5 := ⟨⟨_, _, Tryz.t5, Tryz.underlying219, rfl, rfl, rfl, by kernel_rfl, by intro h; cases h⟩⟩
instance ty615 : TyU Tryz.prog 222 (.array 24 5) := ⟨Tryz.underlying222⟩
instance ty616 : TyI Tryz.prog 222 true 24 24 (reps 24 (.int .u8 0)) := ⟨⟨Tryz.t222, by kernel_rfl, by kernel_rfl, by kernel_rfl, by kernel_rfl, (fun h => by cases h), by kernel_rfl, by kernel_rfl⟩, Tryz.isAgg222⟩
instance ty647 : TyF Tryz.prog 250 0 0 3 := ⟨⟨_, _, Tryz.t3, Tryz.underlying250, rfl, rfl, rfl, by kernel_rfl, by intro h; cases h⟩⟩
instance ty648 : TyF Tryz.prog 250 1 1 184 := ⟨⟨_, _, Tryz.t184, Tryz.underlying250, rfl, rfl, rfl, by kernel_rfl, by intro h; cases h⟩⟩
instance ty649 : TyI Tryz.prog 251 true 257 264 (.int .i64 0 :: reps 256 (.int .u8 0)) := ⟨⟨Tryz.t251, by kernel_rfl, by kernel_rfl, by kernel_rfl, by kernel_rfl, (fun h => by cases h), by kernel_rfl, by kernel_rfl⟩, Tryz.isAgg251⟩
instance ty651 : TyF Tryz.prog 251 0 0 3 := ⟨⟨_, _, Tryz.t3, Tryz.underlying251, rfl, rfl, rfl, by kernel_rfl, by intro h; cases h⟩⟩
instance ty652 : TyF Tryz.prog 251 1 1 184 := ⟨⟨_, _, Tryz.t184, Tryz.underlying251, rfl, rfl, rfl, by kernel_rfl, by intro h; cases h⟩⟩
instance ty662 : TyF Tryz.prog 257 0 0 17 := ⟨⟨_, _, Tryz.t17, Tryz.underlying257, rfl, rfl, rfl, by kernel_rfl, by intro h; cases h⟩⟩
instance ty663 : TyF Tryz.prog 257 1 1 17 := ⟨⟨_, _, Tryz.t17, Tryz.underlying257, rfl, rfl, rfl, by kernel_rfl, by intro h; cases h⟩⟩
instance ty664 : TyF Tryz.prog 257 2 2 17 := ⟨⟨_, _, Tryz.t17, Tryz.underlying257, rfl, rfl, rfl, by kernel_rfl, by intro h; cases h⟩⟩
instance ty665 : TyF Tryz.prog 257 3 3 9 := ⟨⟨_, _, Tryz.t9, Tryz.underlying257, rfl, rfl, rfl, by kernel_rfl, by intro h; cases h⟩⟩
instance ty668 : TyF Tryz.prog 258 0 0 17 := ⟨⟨_, _, Tryz.t17, Tryz.underlying258, rfl, rfl, rfl, by kernel_rfl, by intro h; cases h⟩⟩
instance ty669 : TyF Tryz.prog 258 1 1 17 := ⟨⟨_, _, Tryz.t17, Tryz.underlying258, rfl, rfl, rfl, by kernel_rfl, by intro h; cases h⟩⟩
instance ty670 : TyF Tryz.prog 258 2 2 17 := ⟨⟨_, _, Tryz.t17, Tryz.underlying258, rfl, rfl, rfl, by kernel_rfl, by intro h; cases h⟩⟩
instance ty671 : TyF Tryz.prog 258 3 3 9 := ⟨⟨_, _, Tryz.t9, Tryz.underlying258, rfl, rfl, rfl, by kernel_rfl, by intro h; cases h⟩⟩
instance ty686 : TyF Tryz.prog 268 0 0 12 := ⟨⟨_, _, Tryz.t12, Tryz.underlying268, rfl, rfl, rfl, by kernel_rfl, by intro h; cases h⟩⟩
instance ty687 : TyF Tryz.prog 268 1 1 12 := ⟨⟨_, _, Tryz.t12, Tryz.underlying268, rfl, rfl, rfl, by kernel_rfl, by intro h; cases h⟩⟩
instance ty688 : TyF Tryz.prog 268 2 2 240 := ⟨⟨_, _, Tryz.t240, Tryz.underlying268, rfl, rfl, rfl, by kernel_rfl, by intro h; cases h⟩⟩
instance ty689 : TyF Tryz.prog 268 3 3 262 := ⟨⟨_, _, Tryz.t262, Tryz.underlying268, rfl, rfl, rfl, by kernel_rfl, by intro h; cases h⟩⟩
instance ty690 : TyF Tryz.prog 268 4 4 5 := ⟨⟨_, _, Tryz.t5, Tryz.underlying268, rfl, rfl, rfl, by kernel_rfl, by intro h; cases h⟩⟩
instance ty691 : TyF Tryz.prog 268 5 5 5 := ⟨⟨_, _, Tryz.t5, Tryz.underlying268, rfl, rfl, rfl, by kernel_rfl, by intro h; cases h⟩⟩
instance ty692 : TyF Tryz.prog 268 6 6 263 := ⟨⟨_, _, Tryz.t263, Tryz.underlying268, rfl, rfl, rfl, by kernel_rfl, by intro h; cases h⟩⟩
instance ty693 : TyF Tryz.prog 268 7 7 264 := ⟨⟨_, _, Tryz.t264, Tryz.underlying268, rfl, rfl, rfl, by kernel_rfl, by intro h; cases h⟩⟩
instance ty694 : TyF Tryz.prog 268 8 8 265 := ⟨⟨_, _, Tryz.t265, Tryz.underlying268, rfl, rfl, rfl, by kernel_rfl, by intro h; cases h⟩⟩
instance ty695 : TyF Tryz.prog 268 9 9 266 := ⟨⟨_, _, Tryz.t266, Tryz.underlying268, rfl, rfl, rfl, by kernel_rfl, by intro h; cases h⟩⟩
instance ty696 : TyF Tryz.prog 268 10 10 267 := ⟨⟨_, _, Tryz.t267, Tryz.underlying268, rfl, rfl, rfl, by kernel_rfl, by intro h; cases h⟩⟩
instance ty699 : TyF Tryz.prog 269 0 0 12 := ⟨⟨_, _, Tryz.t12, Tryz.underlying269, rfl, rfl, rfl, by kernel_rfl, by intro h; cases h⟩⟩
instance ty700 : TyF Tryz.prog 269 1 1 12 := ⟨⟨_, _, Tryz.t12, Tryz.underlying269, rfl, rfl, rfl, by kernel_rfl, by intro h; cases h⟩⟩
instance ty701 : TyF Tryz.prog 269 2 2 240 := ⟨⟨_, _, Tryz.t240, Tryz.underlying269, rfl, rfl, rfl, by kernel_rfl, by intro h; cases h⟩⟩
instance ty702 : TyF Tryz.prog 269 3 3 262 := ⟨⟨_, _, Tryz.t262, Tryz.underlying269, rfl, rfl, rfl, by kernel_rfl, by intro h; cases h⟩⟩
instance ty703 : TyF Tryz.prog 269 4 4 5 := ⟨⟨_, _, Tryz.t5, Tryz.underlying269, rfl, rfl, rfl, by kernel_rfl, by intro h; cases h⟩⟩
instance ty704 : TyF Tryz.prog 269 5 5 5 := ⟨⟨_, _, Tryz.t5, Tryz.underlying269, rfl, rfl, rfl, by kernel_rfl, by intro h; cases h⟩⟩
instance ty705 : TyF Tryz.prog 269 6 6 263 := ⟨⟨_, _, Tryz.t263, Tryz.underlying269, rfl, rfl, rfl, by kernel_rfl, by intro h; cases h⟩⟩
instance ty706 : TyF Tryz.prog 269 7 7 264 := ⟨⟨_, _, Tryz.t264, Tryz.underlying269, rfl, rfl, rfl, by kernel_rfl, by intro h; cases h⟩⟩
instance ty707 : TyF Tryz.prog 269 8 8 265 := ⟨⟨_, _, Tryz.t265, Tryz.underlying269, rfl, rfl, rfl, by kernel_rfl, by intro h; cases h⟩⟩
instance ty708 : TyF Tryz.prog 269 9 9 266 := ⟨⟨_, _, Tryz.t266, Tryz.underlying269, rfl, rfl, rfl, by kernel_rfl, by intro h; cases h⟩⟩
instance ty709 : TyF Tryz.prog 269 10 10 267 := ⟨⟨_, _, Tryz.t267, Tryz.underlying269, rfl, rfl, rfl, by kernel_rfl, by intro h; cases h⟩⟩
instance ty714 : TyF Tryz.prog 272 0 0 3 := ⟨⟨_, _, Tryz.t3, Tryz.underlying272, rfl, rfl, rfl, by kernel_rfl, by intro h; cases h⟩⟩
instance ty715 : TyF Tryz.prog 272 1 1 9 := ⟨⟨_, _, Tryz.t9, Tryz.underlying272, rfl, rfl, rfl, by kernel_rfl, by intro h; cases h⟩⟩
instance ty718 : TyF Tryz.prog 273 0 0 3 := ⟨⟨_, _, Tryz.t3, Tryz.underlying273, rfl, rfl, rfl, by kernel_rfl, by intro h; cases h⟩⟩
instance ty719 : TyF Tryz.prog 273 1 1 9 := ⟨⟨_, _, Tryz.t9, Tryz.underlying273, rfl, rfl, rfl, by kernel_rfl, by intro h; cases h⟩⟩
instance ty723 : TyF Tryz.prog 275 0 0 3 := ⟨⟨_, _, Tryz.t3, Tryz.underlying275, rfl, rfl, rfl, by kernel_rfl, by intro h; cases h⟩⟩
instance ty724 : TyF Tryz.prog 275 1 1 3 := ⟨⟨_, _, Tryz.t3, Tryz.underlying275, rfl, rfl, rfl, by kernel_rfl, by intro h; cases h⟩⟩
instance ty725 : TyF Tryz.prog 275 2 2 3 := ⟨⟨_, _, Tryz.t3, Tryz.underlying275, rfl, rfl, rfl, by kernel_rfl, by intro h; cases h⟩⟩
instance ty726 : TyF Tryz.prog 275 3 3 5 := ⟨⟨_, _, Tryz.t5, Tryz.underlying275, rfl, rfl, rfl, by kernel_rfl, by intro h; cases h⟩⟩
instance ty727 : TyF Tryz.prog 275 4 4 33 := ⟨⟨_, _, Tryz.t33, Tryz.underlying275, rfl, rfl, rfl, by kernel_rfl, by intro h; cases h⟩⟩
instance ty730 : TyF Tryz.prog 276 0 0 3 := ⟨⟨_, _, Tryz.t3, Tryz.underlying276, rfl, rfl, rfl, by kernel_rfl, by intro h; cases h⟩⟩
instance ty731 : TyF Tryz.prog 276 1 1 3 := ⟨⟨_, _, Tryz.t3, Tryz.underlying276, rfl, rfl, rfl, by kernel_rfl, by intro h; cases h⟩⟩
instance ty732 : TyF Tryz.prog 276 2 2 3 := ⟨⟨_, _, Tryz.t3, Tryz.underlying276, rfl, rfl, rfl, by kernel_rfl, by intro h; cases h⟩⟩
instance ty733 : TyF Tryz.prog 276 3 3 5 := ⟨⟨_, _, Tryz.t5, Tryz.underlying276, rfl, rfl, rfl, by kernel_rfl, by intro h; cases h⟩⟩
instance ty734 : TyF Tryz.prog 276 4 4 33 := ⟨⟨_, _, Tryz.t33, Tryz.underlying276, rfl, rfl, rfl, by kernel_rfl, by intro h; cases h⟩⟩
def tab : Tab := ⟨[(2, (.int .i64)), (3, (.int .i64)), (4, .bool), (5, (.int .u8)), (6, (.int .u8)), (9, .string), (10, .string), (11, .string), (12, (.int .u64)), (15, (.pointer 258)), (16, (.pointer 261)), (17, (.pointer 269)), (21, (.int .i32)), (22, (.slice 32)), (23, (.pointer 164)), (24, (.pointer 63)), (30, (.slice 9)), (33, (.slice 5)), (34, (.int .i64)), (38, (.slice 48)), (50, (.pointer 56)), (54, (.pointer 169)), (66, (.slice 33)), (67, (.slice 3)), (86, (.pointer 88)), (91, (.pointer 150)), (94, (.pointer 153)), (97, (.pointer 157)), (100, (.pointer 160)), (107, (.pointer 175)), (115, (.int .u64)), (147, (.slice 184)), (148, (.slice 251)), (151, (.slice 273)), (154, (.slice 206)), (158, (.slice 4)), (162, (.map 3 33)), (167, (.slice 171)), (180, (.int .u64)), (184, (.array 256 5)), (208, (.array 20 180)), (220, (.array 16 219)), (222, (.array 24 5)), (231, (.pointer 206)), (236, (.pointer 33)), (240, (.int .u32)), (241, (.array 65 5)), (255, (.array 32 5)), (256, (.array 64 5)), (259, (.array 0 16)), (262, (.int .u8)), (263, (.int .u8)), (265, (.pointer 5)), (266, (.int .i32)), (267, (.int .i32))],
  [(1, 1), (2, 1), (3, 1), (4, 1), (5, 1), (6, 1), (7, 4), (8, 4), (9, 1), (10, 1), (11, 1), (12, 1), (13, 2), (14, 2), (15, 1), (16, 1), (17, 1), (18, 1), (19, 1), (20, 1), (21, 1), (22, 1), (23, 1), (24, 1), (26, 1), (27, 1), (28, 2), (29, 2), (30, 1), (31, 6), (32, 6), (33, 1), (34, 1), (36, 1), (37, 1), (38, 1), (40, 1), (41, 1), (43, 1), (44, 1), (46, 1), (47, 2), (48, 2), (49, 1), (50, 1), (51, 1), (53, 1), (54, 1), (55, 2), (56, 2), (57, 1), (58, 1), (59, 1), (60, 1), (61, 1), (62, 4), (63, 4), (65, 1), (66, 1), (67, 1), (68, 4), (69, 4), (70, 4), (71, 4), (73, 1), (74, 1), (75, 1), (76, 1), (77, 1), (79, 1), (80, 1), (81, 1), (82, 1), (83, 1), (84, 1), (85, 1), (86, 1), (87, 2), (88, 2), (89, 1), (90, 1), (91, 1), (93, 1), (94, 1), (96, 1), (97, 1), (99, 1), (100, 1), (102, 1), (104, 1), (106, 1), (107, 1), (108, 1), (109, 1), (110, 1), (111, 1), (112, 1), (113, 1), (114, 1), (115, 1), (116, 1), (117, 1), (118, 1), (119, 1), (121, 1), (123, 1), (124, 1), (125, 1), (127, 1), (128, 1), (129, 1), (131, 1), (132, 1), (133, 1), (135, 1), (136, 1), (137, 1), (138, 1), (139, 1), (140, 1), (141, 1), (142, 1), (143, 1), (144, 1), (145, 1), (146, 1), (147, 1), (148, 1), (149, 4), (150, 4), (151, 1), (152, 4), (153, 4), (154, 1), (155, 1), (156, 6), (157, 6), (158, 1), (159, 9), (160, 9), (161, 1), (162, 1), (163, 7), (164, 7), (165, 1), (166, 1), (167, 1), (168, 6), (169, 6), (170, 2), (171, 2), (172, 1), (173, 1), (174, 4), (175, 4), (176, 1), (177, 1), (178, 1), (179, 1), (180, 1), (181, 1), (183, 1), (184, 256), (185, 1), (186, 1), (187, 1), (188, 1), (189, 1), (190, 1), (191, 1), (192, 1), (194, 1), (195, 1), (196, 1), (197, 1), (199, 1), (200, 1), (201, 1), (202, 1), (203, 1), (204, 1), (205, 5), (206, 5), (207, 1), (208, 20), (209, 1), (210, 1), (211, 1), (213, 1), (214, 1), (215, 1), (216, 1), (217, 1), (218, 2), (219, 2), (220, 32), (221, 1), (222, 24), (223, 1), (224, 1), (226, 1), (227, 1), (228, 1), (229, 1), (230, 1), (231, 1), (233, 1), (234, 1), (235, 1), (236, 1), (238, 1), (239, 1), (240, 1), (241, 65), (242, 1), (243, 1), (244, 1), (245, 1), (246, 1), (247, 1), (248, 1), (249, 1), (250, 257), (251, 257), (252, 1), (253, 1), (254, 1), (255, 32), (256, 64), (257, 4), (258, 4), (262, 1), (263, 1), (264, 1), (265, 1), (266, 1), (267, 1), (268, 11), (269, 11), (270, 1), (271, 1), (272, 2), (273, 2), (274, 1), (275, 5), (276, 5)],
  [(7, 0, 0), (7, 1, 1), (7, 2, 2), (7, 3, 3), (8, 0, 0), (8, 1, 1), (8, 2, 2), (8, 3, 3), (13, 0, 0), (13, 1, 1), (14, 0, 0), (14, 1, 1), (18, 0, 0), (19, 0, 0), (28, 0, 0), (28, 1, 1), (29, 0, 0), (29, 1, 1), (31, 0, 0), (31, 1, 1), (31, 2, 3), (31, 3, 4), (31, 4, 5), (32, 0, 0), (32, 1, 1), (32, 2, 3), (32, 3, 4), (32, 4, 5), (47, 0, 0), (47, 1, 1), (48, 0, 0), (48, 1, 1), (55, 0, 0), (55, 1, 1), (56, 0, 0), (56, 1, 1), (62, 0, 0), (62, 1, 1), (62, 2, 2), (62, 3, 3), (63, 0, 0), (63, 1, 1), (63, 2, 2), (63, 3, 3), (68, 0, 0), (68, 1, 1), (68, 2, 2), (68, 3, 3), (69, 0, 0), (69, 1, 1), (69, 2, 2), (69, 3, 3), (70, 0, 0), (70, 1, 1), (70, 2, 2), (70, 3, 3), (71, 0, 0), (71, 1, 1), (71, 2, 2), (71, 3, 3), (87, 0, 0), (87, 1, 1), (88, 0, 0), (88, 1, 1), (149, 0, 0), (149, 1, 1), (149, 2, 2), (149, 3, 3), (150, 0, 0), (150, 1, 1), (150, 2, 2), (150, 3, 3), (152, 0, 0), (152, 1, 1), (152, 2, 2), (152, 3, 3), (153, 0, 0), (153, 1, 1), (153, 2, 2), (153, 3, 3), (156, 0, 0), (156, 1, 1), (156, 2, 2), (156, 3, 3), (156, 4, 4), (156, 5, 5), (157, 0, 0), (157, 1, 1), (157, 2, 2), (157, 3, 3), (157, 4, 4), (157, 5, 5), (159, 0, 0), (159, 1, 1), (159, 2, 2), (159, 3, 3), (159, 4, 4), (159, 5, 5), (159, 6, 6), (159, 7, 7), (159, 8, 8), (160, 0, 0), (160, 1, 1), (160, 2, 2), (160, 3, 3), (160, 4, 4), (160, 5, 5), (160, 6, 6), (160, 7, 7), (160, 8, 8), (163, 0, 0), (163, 1, 1), (163, 2, 2), (163, 3, 3), (163, 4, 4), (163, 5, 5), (163, 6, 6), (164, 0, 0), (164, 1, 1), (164, 2, 2), (164, 3, 3), (164, 4, 4), (164, 5, 5), (164, 6, 6), (168, 0, 0), (168, 1, 1), (168, 2, 2), (168, 3, 3), (168, 4, 4), (168, 5, 5), (169, 0, 0), (169, 1, 1), (169, 2, 2), (169, 3, 3), (169, 4, 4), (169, 5, 5), (170, 0, 0), (170, 1, 1), (171, 0, 0), (171, 1, 1), (174, 0, 0), (174, 1, 1), (174, 2, 2), (174, 3, 3), (175, 0, 0), (175, 1, 1), (175, 2, 2), (175, 3, 3), (205, 0, 0), (205, 1, 1), (205, 2, 2), (205, 3, 3), (205, 4, 4), (206, 0, 0), (206, 1, 1), (206, 2, 2), (206, 3, 3), (206, 4, 4), (218, 0, 0), (218, 1, 1), (219, 0, 0), (219, 1, 1), (250, 0, 0), (250, 1, 1), (251, 0, 0), (251, 1, 1), (257, 0, 0), (257, 1, 1), (257, 2, 2), (257, 3, 3), (258, 0, 0), (258, 1, 1), (258, 2, 2), (258, 3, 3), (268, 0, 0), (268, 1, 1), (268, 2, 2), (268, 3, 3), (268, 4, 4), (268, 5, 5), (268, 6, 6), (268, 7, 7), (268, 8, 8), (268, 9, 9), (268, 10, 10), (269, 0, 0), (269, 1, 1), (269, 2, 2), (269, 3, 3), (269, 4, 4), (269, 5, 5), (269, 6, 6), (269, 7, 7), (269, 8, 8), (269, 9, 9), (269, 10, 10), (272, 0, 0), (272, 1, 1), (273, 0, 0), (273, 1, 1), (275, 0, 0), (275, 1, 1), (275, 2, 2), (275, 3, 3), (275, 4, 4), (276, 0, 0), (276, 1, 1), (276, 2, 2), (276, 3, 3), (276, 4, 4)]⟩
theorem tabC {α : Type} {p : α → Prop} {a : α} {l : List α} (h : p a) (t : ∀ x ∈ l, p x) : ∀ x ∈ a :: l, p x := List.forall_mem_cons.2 ⟨h, t⟩
theorem tabN {α : Type} {p : α → Prop} : ∀ x ∈ ([] : List α), p x := fun x h => by cases h
theorem tabG {P : Program} (s f off ft : Nat) [TyF P s f off ft] (b o : Nat) (w : World) : (Instr.fieldAt s (.pointer (some ⟨b, o, none⟩)) f).run P w = .ok (.pointer (some ⟨b, o + off, none⟩)) w := run_fieldAt (s := s) (f := f) (off := off) (ft := ft) b o w
instance ty735 : TabOk Tryz.prog tab where
  u := tabC Tryz.underlying2 <| tabC Tryz.underlying3 <| tabC Tryz.underlying4 <| tabC Tryz.underlying5 <| tabC Tryz.underlying6 <| tabC Tryz.underlying9 <| tabC Tryz.underlying10 <| tabC Tryz.underlying11 <| tabC Tryz.underlying12 <| tabC Tryz.underlying15 <| tabC Tryz.underlying16 <| tabC Tryz.underlying17 <| tabC Tryz.underlying21 <| tabC Tryz.underlying22 <| tabC Tryz.underlying23 <| tabC Tryz.underlying24 <| tabC Tryz.underlying30 <| tabC Tryz.underlying33 <| tabC Tryz.underlying34 <| tabC Tryz.underlying38 <| tabC Tryz.underlying50 <| tabC Tryz.underlying54 <| tabC Tryz.underlying66 <| tabC Tryz.underlying67 <| tabC Tryz.underlying86 <| tabC Tryz.underlying91 <| tabC Tryz.underlying94 <| tabC Tryz.underlying97 <| tabC Tryz.underlying100 <| tabC Tryz.underlying107 <| tabC Tryz.underlying115 <| tabC Tryz.underlying147 <| tabC Tryz.underlying148 <| tabC Tryz.underlying151 <| tabC Tryz.underlying154 <| tabC Tryz.underlying158 <| tabC Tryz.underlying162 <| tabC Tryz.underlying167 <| tabC Tryz.underlying180 <| tabC Tryz.underlying184 <| tabC Tryz.underlying208 <| tabC Tryz.underlying220 <| tabC Tryz.underlying222 <| tabC Tryz.underlying231 <| tabC Tryz.underlying236 <| tabC Tryz.underlying240 <| tabC Tryz.underlying241 <| tabC Tryz.underlying255 <| tabC Tryz.underlying256 <| tabC Tryz.underlying259 <| tabC Tryz.underlying262 <| tabC Tryz.underlying263 <| tabC Tryz.underlying265 <| tabC Tryz.underlying266 <| tabC Tryz.underlying267 <| tabN
  sz := tabC Tryz.sizeOf1 <| tabC Tryz.sizeOf2 <| tabC Tryz.sizeOf3 <| tabC Tryz.sizeOf4 <| tabC Tryz.sizeOf5 <| tabC Tryz.sizeOf6 <| tabC Tryz.sizeOf7 <| tabC Tryz.sizeOf8 <| tabC Tryz.sizeOf9 <| tabC Tryz.sizeOf10 <| tabC Tryz.sizeOf11 <| tabC Tryz.sizeOf12 <| tabC Tryz.sizeOf13 <| tabC Tryz.sizeOf14 <| tabC Tryz.sizeOf15 <| tabC Tryz.sizeOf16 <| tabC Tryz.sizeOf17 <| tabC Tryz.sizeOf18 <| tabC Tryz.sizeOf19 <| tabC Tryz.sizeOf20 <| tabC Tryz.sizeOf21 <| tabC Tryz.sizeOf22 <| tabC Tryz.sizeOf23 <| tabC Tryz.sizeOf24 <| tabC Tryz.sizeOf26 <| tabC Tryz.sizeOf27 <| tabC Tryz.sizeOf28 <| tabC Tryz.sizeOf29 <| tabC Tryz.sizeOf30 <| tabC Tryz.sizeOf31 <| tabC Tryz.sizeOf32 <| tabC Tryz.sizeOf33 <| tabC Tryz.sizeOf34 <| tabC Tryz.sizeOf36 <| tabC Tryz.sizeOf37 <| tabC Tryz.sizeOf38 <| tabC Tryz.sizeOf40 <| tabC Tryz.sizeOf41 <| tabC Tryz.sizeOf43 <| tabC Tryz.sizeOf44 <| tabC Tryz.sizeOf46 <| tabC Tryz.sizeOf47 <| tabC Tryz.sizeOf48 <| tabC Tryz.sizeOf49 <| tabC Tryz.sizeOf50 <| tabC Tryz.sizeOf51 <| tabC Tryz.sizeOf53 <| tabC Tryz.sizeOf54 <| tabC Tryz.sizeOf55 <| tabC Tryz.sizeOf56 <| tabC Tryz.sizeOf57 <| tabC Tryz.sizeOf58 <| tabC Tryz.sizeOf59 <| tabC Tryz.sizeOf60 <| tabC Tryz.sizeOf61 <| tabC Tryz.sizeOf62 <| tabC Tryz.sizeOf63 <| tabC Tryz.sizeOf65 <| tabC Tryz.sizeOf66 <| tabC Tryz.sizeOf67 <| tabC Tryz.sizeOf68 <| tabC Tryz.sizeOf69 <| tabC Tryz.sizeOf70 <| tabC Tryz.sizeOf71 <| tabC Tryz.sizeOf73 <| tabC Tryz.sizeOf74 <| tabC Tryz.sizeOf75 <| tabC Tryz.sizeOf76 <| tabC Tryz.sizeOf77 <| tabC Tryz.sizeOf79 <| tabC Tryz.sizeOf80 <| tabC Tryz.sizeOf81 <| tabC Tryz.sizeOf82 <| tabC Tryz.sizeOf83 <| tabC Tryz.sizeOf84 <| tabC Tryz.sizeOf85 <| tabC Tryz.sizeOf86 <| tabC Tryz.sizeOf87 <| tabC Tryz.sizeOf88 <| tabC Tryz.sizeOf89 <| tabC Tryz.sizeOf90 <| tabC Tryz.sizeOf91 <| tabC Tryz.sizeOf93 <| tabC Tryz.sizeOf94 <| tabC Tryz.sizeOf96 <| tabC Tryz.sizeOf97 <| tabC Tryz.sizeOf99 <| tabC Tryz.sizeOf100 <| tabC Tryz.sizeOf102 <| tabC Tryz.sizeOf104 <| tabC Tryz.sizeOf106 <| tabC Tryz.sizeOf107 <| tabC Tryz.sizeOf108 <| tabC Tryz.sizeOf109 <| tabC Tryz.sizeOf110 <| tabC Tryz.sizeOf111 <| tabC Tryz.sizeOf112 <| tabC Tryz.sizeOf113 <| tabC Tryz.sizeOf114 <| tabC Tryz.sizeOf115 <| tabC Tryz.sizeOf116 <| tabC Tryz.sizeOf117 <| tabC Tryz.sizeOf118 <| tabC Tryz.sizeOf119 <| tabC Tryz.sizeOf121 <| tabC Tryz.sizeOf123 <| tabC Tryz.sizeOf124 <| tabC Tryz.sizeOf125 <| tabC Tryz.sizeOf127 <| tabC Tryz.sizeOf128 <| tabC Tryz.sizeOf129 <| tabC Tryz.sizeOf131 <| tabC Tryz.sizeOf132 <| tabC Tryz.sizeOf133 <| tabC Tryz.sizeOf135 <| tabC Tryz.sizeOf136 <| tabC Tryz.sizeOf137 <| tabC Tryz.sizeOf138 <| tabC Tryz.sizeOf139 <| tabC Tryz.sizeOf140 <| tabC Tryz.sizeOf141 <| tabC Tryz.sizeOf142 <| tabC Tryz.sizeOf143 <| tabC Tryz.sizeOf144 <| tabC Tryz.sizeOf145 <| tabC Tryz.sizeOf146 <| tabC Tryz.sizeOf147 <| tabC Tryz.sizeOf148 <| tabC Tryz.sizeOf149 <| tabC Tryz.sizeOf150 <| tabC Tryz.sizeOf151 <| tabC Tryz.sizeOf152 <| tabC Tryz.sizeOf153 <| tabC Tryz.sizeOf154 <| tabC Tryz.sizeOf155 <| tabC Tryz.sizeOf156 <| tabC Tryz.sizeOf157 <| tabC Tryz.sizeOf158 <| tabC Tryz.sizeOf159 <| tabC Tryz.sizeOf160 <| tabC Tryz.sizeOf161 <| tabC Tryz.sizeOf162 <| tabC Tryz.sizeOf163 <| tabC Tryz.sizeOf164 <| tabC Tryz.sizeOf165 <| tabC Tryz.sizeOf166 <| tabC Tryz.sizeOf167 <| tabC Tryz.sizeOf168 <| tabC Tryz.sizeOf169 <| tabC Tryz.sizeOf170 <| tabC Tryz.sizeOf171 <| tabC Tryz.sizeOf172 <| tabC Tryz.sizeOf173 <| tabC Tryz.sizeOf174 <| tabC Tryz.sizeOf175 <| tabC Tryz.sizeOf176 <| tabC Tryz.sizeOf177 <| tabC Tryz.sizeOf178 <| tabC Tryz.sizeOf179 <| tabC Tryz.sizeOf180 <| tabC Tryz.sizeOf181 <| tabC Tryz.sizeOf183 <| tabC Tryz.sizeOf184 <| tabC Tryz.sizeOf185 <| tabC Tryz.sizeOf186 <| tabC Tryz.sizeOf187 <| tabC Tryz.sizeOf188 <| tabC Tryz.sizeOf189 <| tabC Tryz.sizeOf190 <| tabC Tryz.sizeOf191 <| tabC Tryz.sizeOf192 <| tabC Tryz.sizeOf194 <| tabC Tryz.sizeOf195 <| tabC Tryz.sizeOf196 <| tabC Tryz.sizeOf197 <| tabC Tryz.sizeOf199 <| tabC Tryz.sizeOf200 <| tabC Tryz.sizeOf201 <| tabC Tryz.sizeOf202 <| tabC Tryz.sizeOf203 <| tabC Tryz.sizeOf204 <| tabC Tryz.sizeOf205 <| tabC Tryz.sizeOf206 <| tabC Tryz.sizeOf207 <| tabC Tryz.sizeOf208 <| tabC Tryz.sizeOf209 <| tabC Tryz.sizeOf210 <| tabC Tryz.sizeOf211 <| tabC Tryz.sizeOf213 <| tabC Tryz.sizeOf214 <| tabC Tryz.sizeOf215 <| tabC Tryz.sizeOf216 <| tabC Tryz.sizeOf217 <| tabC Tryz.sizeOf218 <| tabC Tryz.sizeOf219 <| tabC Tryz.sizeOf220 <| tabC Tryz.sizeOf221 <| tabC Tryz.sizeOf222 <| tabC Tryz.sizeOf223 <| tabC Tryz.sizeOf224 <| tabC Tryz.sizeOf226 <| tabC Tryz.sizeOf227 <| tabC Tryz.sizeOf228 <| tabC Tryz.sizeOf229 <| tabC Tryz.sizeOf230 <| tabC Tryz.sizeOf231 <| tabC Tryz.sizeOf233 <| tabC Tryz.sizeOf234 <| tabC Tryz.sizeOf235 <| tabC Tryz.sizeOf236 <| tabC Tryz.sizeOf238 <| tabC Tryz.sizeOf239 <| tabC Tryz.sizeOf240 <| tabC Tryz.sizeOf241 <| tabC Tryz.sizeOf242 <| tabC Tryz.sizeOf243 <| tabC Tryz.sizeOf244 <| tabC Tryz.sizeOf245 <| tabC Tryz.sizeOf246 <| tabC Tryz.sizeOf247 <| tabC Tryz.sizeOf248 <| tabC Tryz.sizeOf249 <| tabC Tryz.sizeOf250 <| tabC Tryz.sizeOf251 <| tabC Tryz.sizeOf252 <| tabC Tryz.sizeOf253 <| tabC Tryz.sizeOf254 <| tabC Tryz.sizeOf255 <| tabC Tryz.sizeOf256 <| tabC Tryz.sizeOf257 <| tabC Tryz.sizeOf258 <| tabC Tryz.sizeOf262 <| tabC Tryz.sizeOf263 <| tabC Tryz.sizeOf264 <| tabC Tryz.sizeOf265 <| tabC Tryz.sizeOf266 <| tabC Tryz.sizeOf267 <| tabC Tryz.sizeOf268 <| tabC Tryz.sizeOf269 <| tabC Tryz.sizeOf270 <| tabC Tryz.sizeOf271 <| tabC Tryz.sizeOf272 <| tabC Tryz.sizeOf273 <| tabC Tryz.sizeOf274 <| tabC Tryz.sizeOf275 <| tabC Tryz.sizeOf276 <| tabN
  off := tabC (tabG 7 0 0 2) <| tabC (tabG 7 1 1 3) <| tabC (tabG 7 2 2 4) <| tabC (tabG 7 3 3 6) <| tabC (tabG 8 0 0 2) <| tabC (tabG 8 1 1 3) <| tabC (tabG 8 2 2 4) <| tabC (tabG 8 3 3 6) <| tabC (tabG 13 0 0 9) <| tabC (tabG 13 1 1 12) <| tabC (tabG 14 0 0 9) <| tabC (tabG 14 1 1 12) <| tabC (tabG 18 0 0 17) <| tabC (tabG 19 0 0 17) <| tabC (tabG 28 0 0 2) <| tabC (tabG 28 1 1 3) <| tabC (tabG 29 0 0 2) <| tabC (tabG 29 1 1 3) <| tabC (tabG 31 0 0 3) <| tabC (tabG 31 1 1 29) <| tabC (tabG 31 2 3 9) <| tabC (tabG 31 3 4 22) <| tabC (tabG 31 4 5 30) <| tabC (tabG 32 0 0 3) <| tabC (tabG 32 1 1 29) <| tabC (tabG 32 2 3 9) <| tabC (tabG 32 3 4 22) <| tabC (tabG 32 4 5 30) <| tabC (tabG 47 0 0 33) <| tabC (tabG 47 1 1 33) <| tabC (tabG 48 0 0 33) <| tabC (tabG 48 1 1 33) <| tabC (tabG 55 0 0 23) <| tabC (tabG 55 1 1 54) <| tabC (tabG 56 0 0 23) <| tabC (tabG 56 1 1 54) <| tabC (tabG 62 0 0 23) <| tabC (tabG 62 1 1 3) <| tabC (tabG 62 2 2 3) <| tabC (tabG 62 3 3 3) <| tabC (tabG 63 0 0 23) <| tabC (tabG 63 1 1 3) <| tabC (tabG 63 2 2 3) <| tabC (tabG 63 3 3 3) <| tabC (tabG 68 0 0 4) <| tabC (tabG 68 1 1 66) <| tabC (tabG 68 2 2 66) <| tabC (tabG 68 3 3 67) <| tabC (tabG 69 0 0 4) <| tabC (tabG 69 1 1 66) <| tabC (tabG 69 2 2 66) <| tabC (tabG 69 3 3 67) <| tabC (tabG 70 0 0 3) <| tabC (tabG 70 1 1 3) <| tabC (tabG 70 2 2 33) <| tabC (tabG 70 3 3 3) <| tabC (tabG 71 0 0 3) <| tabC (tabG 71 1 1 3) <| tabC (tabG 71 2 2 33) <| tabC (tabG 71 3 3 3) <| tabC (tabG 87 0 0 33) <| tabC (tabG 87 1 1 3) <| tabC (tabG 88 0 0 33) <| tabC (tabG 88 1 1 3) <| tabC (tabG 149 0 0 147) <| tabC (tabG 149 1 1 148) <| tabC (tabG 149 2 2 3) <| tabC (tabG 149 3 3 3) <| tabC (tabG 150 0 0 147) <| tabC (tabG 150 1 1 148) <| tabC (tabG 150 2 2 3) <| tabC (tabG 150 3 3 3) <| tabC (tabG 152 0 0 30) <| tabC (tabG 152 1 1 151) <| tabC (tabG 152 2 2 3) <| tabC (tabG 152 3 3 3) <| tabC (tabG 153 0 0 30) <| tabC (tabG 153 1 1 151) <| tabC (tabG 153 2 2 3) <| tabC (tabG 153 3 3 3) <| tabC (tabG 156 0 0 91) <| tabC (tabG 156 1 1 154) <| tabC (tabG 156 2 2 155) <| tabC (tabG 156 3 3 3) <| tabC (tabG 156 4 4 3) <| tabC (tabG 156 5 5 3) <| tabC (tabG 157 0 0 91) <| tabC (tabG 157 1 1 154) <| tabC (tabG 157 2 2 155) <| tabC (tabG 157 3 3 3) <| tabC (tabG 157 4 4 3) <| tabC (tabG 157 5 5 3) <| tabC (tabG 159 0 0 94) <| tabC (tabG 159 1 1 67) <| tabC (tabG 159 2 2 67) <| tabC (tabG 159 3 3 158) <| tabC (tabG 159 4 4 30) <| tabC (tabG 159 5 5 67) <| tabC (tabG 159 6 6 3) <| tabC (tabG 159 7 7 3) <| tabC (tabG 159 8 8 3) <| tabC (tabG 160 0 0 94) <| tabC (tabG 160 1 1 67) <| tabC (tabG 160 2 2 67) <| tabC (tabG 160 3 3 158) <| tabC (tabG 160 4 4 30) <| tabC (tabG 160 5 5 67) <| tabC (tabG 160 6 6 3) <| tabC (tabG 160 7 7 3) <| tabC (tabG 160 8 8 3) <| tabC (tabG 163 0 0 91) <| tabC (tabG 163 1 1 97) <| tabC (tabG 163 2 2 3) <| tabC (tabG 163 3 3 67) <| tabC (tabG 163 4 4 162) <| tabC (tabG 163 5 5 3) <| tabC (tabG 163 6 6 3) <| tabC (tabG 164 0 0 91) <| tabC (tabG 164 1 1 97) <| tabC (tabG 164 2 2 3) <| tabC (tabG 164 3 3 67) <| tabC (tabG 164 4 4 162) <| tabC (tabG 164 5 5 3) <| tabC (tabG 164 6 6 3) <| tabC (tabG 168 0 0 94) <| tabC (tabG 168 1 1 100) <| tabC (tabG 168 2 2 3) <| tabC (tabG 168 3 3 167) <| tabC (tabG 168 4 4 3) <| tabC (tabG 168 5 5 3) <| tabC (tabG 169 0 0 94) <| tabC (tabG 169 1 1 100) <| tabC (tabG 169 2 2 3) <| tabC (tabG 169 3 3 167) <| tabC (tabG 169 4 4 3) <| tabC (tabG 169 5 5 3) <| tabC (tabG 170 0 0 3) <| tabC (tabG 170 1 1 9) <| tabC (tabG 171 0 0 3) <| tabC (tabG 171 1 1 9) <| tabC (tabG 174 0 0 23) <| tabC (tabG 174 1 1 3) <| tabC (tabG 174 2 2 67) <| tabC (tabG 174 3 3 162) <| tabC (tabG 175 0 0 23) <| tabC (tabG 175 1 1 3) <| tabC (tabG 175 2 2 67) <| tabC (tabG 175 3 3 162) <| tabC (tabG 205 0 0 4) <| tabC (tabG 205 1 1 3) <| tabC (tabG 205 2 2 3) <| tabC (tabG 205 3 3 4) <| tabC (tabG 205 4 4 33) <| tabC (tabG 206 0 0 4) <| tabC (tabG 206 1 1 3) <| tabC (tabG 206 2 2 3) <| tabC (tabG 206 3 3 4) <| tabC (tabG 206 4 4 33) <| tabC (tabG 218 0 0 5) <| tabC (tabG 218 1 1 5) <| tabC (tabG 219 0 0 5) <| tabC (tabG 219 1 1 5) <| tabC (tabG 250 0 0 3) <| tabC (tabG 250 1 1 184) <| tabC (tabG 251 0 0 3) <| tabC (tabG 251 1 1 184) <| tabC (tabG 257 0 0 17) <| tabC (tabG 257 1 1 17) <| tabC (tabG 257 2 2 17) <| tabC (tabG 257 3 3 9) <| tabC (tabG 258 0 0 17) <| tabC (tabG 258 1 1 17) <| tabC (tabG 258 2 2 17) <| tabC (tabG 258 3 3 9) <| tabC (tabG 268 0 0 12) <| tabC (tabG 268 1 1 12) <| tabC (tabG 268 2 2 240) <| tabC (tabG 268 3 3 262) <| tabC (tabG 268 4 4 5) <| tabC (tabG 268 5 5 5) <| tabC (tabG 268 6 6 263) <| tabC (tabG 268 7 7 264) <| tabC (tabG 268 8 8 265) <| tabC (tabG 268 9 9 266) <| tabC (tabG 268 10 10 267) <| tabC (tabG 269 0 0 12) <| tabC (tabG 269 1 1 12) <| tabC (tabG 269 2 2 240) <| tabC (tabG 269 3 3 262) <| tabC (tabG 269 4 4 5) <| tabC (tabG 269 5 5 5) <| tabC (tabG 269 6 6 263) <| tabC (tabG 269 7 7 264) <| tabC (tabG 269 8 8 265) <| tabC (tabG 269 9 9 266) <| tabC (tabG 269 10 10 267) <| tabC (tabG 272 0 0 3) <| tabC (tabG 272 1 1 9) <| tabC (tabG 273 0 0 3) <| tabC (tabG 273 1 1 9) <| tabC (tabG 275 0 0 3) <| tabC (tabG 275 1 1 3) <| tabC (tabG 275 2 2 3) <| tabC (tabG 275 3 3 5) <| tabC (tabG 275 4 4 33) <| tabC (tabG 276 0 0 3) <| tabC (tabG 276 1 1 3) <| tabC (tabG 276 2 2 3) <| tabC (tabG 276 3 3 5) <| tabC (tabG 276 4 4 33) <| tabN
end Go.Sl
