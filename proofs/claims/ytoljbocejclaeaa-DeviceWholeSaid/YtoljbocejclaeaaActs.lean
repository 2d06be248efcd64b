/- A call (Act) as a row hands it in, and a list of them. -/
import Derived.Test.YtoljbocejclaeaaBp
import Derived.Test.YtoljbocejclaeaaTornw
set_option linter.unusedVariables false
set_option linter.unusedSimpArgs false
namespace Go.Proofs.Ytoljbocejclaeaa
open Go Go.Sl Go.ChangeShapes Go.WideShapes
structure ActR where
  kd : Int
  k : Int
  at' : Int
  by' : UInt8
  qb : Option Addr
  cb : Nat
  bytes : List UInt8
  qk : Option Addr
  ck : Nat
  kept : List Bool
instance : Inhabited ActR := ⟨⟨0, 0, 0, 0, none, 0, [], none, 0, []⟩⟩
def ActR.row (a : ActR) : List Value := [int a.kd, int a.k, int a.at', byte a.by', .slice a.qb a.bytes.length a.cb, .slice a.qk a.kept.length a.ck]
structure ActR.ok (F : List Assn) (a : ActR) : Prop where
  bytes : RdS F 1 (.slice a.qb a.bytes.length a.cb) a.bytes.length (bytesV a.bytes)
  kept : RdS F 1 (.slice a.qk a.kept.length a.ck) a.kept.length (boolsV a.kept)
theorem six {l : List Value} (h : l.length = 6) : ∃ a b c d e f, l = [a, b, c, d, e, f] := by
  match l, h with
  | [a, b, c, d, e, f], _ => exact ⟨a, b, c, d, e, f, rfl⟩
theorem act_dec {H : Type} {enc : TypeId × Value → H} {W : World} (n : Nat) (cs : List Value) (x : DataW H × List MemPlace) (h : DataW.trod enc Try.prog W 0 (fun _ => true) true n 38 cs = some x) : ∃ y : ActR, cs = y.row ∧ y.row.length = 6 ∧ y.ok [old W] := by
  obtain ⟨xs, m, _, _, hl, hxl, hf⟩ := DataW.trod_struct Try.underlying38 h
  obtain ⟨c0, c1, c2, c3, c4, c5, rfl⟩ := six (l := cs) (hl.trans (by kernel_rfl))
  obtain ⟨x0, h0⟩ : ∃ x0, xs[0]? = some x0 := ⟨_, List.getElem?_eq_getElem (by rw [hxl]; decide)⟩
  obtain ⟨x1, h1⟩ : ∃ x0, xs[1]? = some x0 := ⟨_, List.getElem?_eq_getElem (by rw [hxl]; decide)⟩
  obtain ⟨x2, h2⟩ : ∃ x0, xs[2]? = some x0 := ⟨_, List.getElem?_eq_getElem (by rw [hxl]; decide)⟩
  obtain ⟨x3, h3⟩ : ∃ x0, xs[3]? = some x0 := ⟨_, List.getElem?_eq_getElem (by rw [hxl]; decide)⟩
  obtain ⟨x4, h4⟩ : ∃ x0, xs[4]? = some x0 := ⟨_, List.getElem?_eq_getElem (by rw [hxl]; decide)⟩
  obtain ⟨x5, h5⟩ : ∃ x0, xs[5]? = some x0 := ⟨_, List.getElem?_eq_getElem (by rw [hxl]; decide)⟩
  have c3' : Try.prog.cellsOf 3 = 1 := by kernel_rfl
  have c5' : Try.prog.cellsOf 5 = 1 := by kernel_rfl
  have c36' : Try.prog.cellsOf 36 = 1 := by kernel_rfl
  have c23' : Try.prog.cellsOf 23 = 1 := by kernel_rfl
  have c4' : Try.prog.cellsOf 4 = 1 := by kernel_rfl
  have e0 : DataW.trod enc Try.prog W 0 (fun _ => true) true m 3 (([c0, c1, c2, c3, c4, c5].drop 0).take (Try.prog.cellsOf 3)) = some x0 := (hf 0 _ rfl).trans h0
  rw [c3'] at e0
  have e1 : DataW.trod enc Try.prog W 0 (fun _ => true) true m 3 (([c0, c1, c2, c3, c4, c5].drop 1).take (Try.prog.cellsOf 3)) = some x1 := (hf 1 _ rfl).trans h1
  rw [c3'] at e1
  have e2 : DataW.trod enc Try.prog W 0 (fun _ => true) true m 3 (([c0, c1, c2, c3, c4, c5].drop 2).take (Try.prog.cellsOf 3)) = some x2 := (hf 2 _ rfl).trans h2
  rw [c3'] at e2
  have e3 : DataW.trod enc Try.prog W 0 (fun _ => true) true m 5 (([c0, c1, c2, c3, c4, c5].drop 3).take (Try.prog.cellsOf 5)) = some x3 := (hf 3 _ rfl).trans h3
  rw [c5'] at e3
  have e4 : DataW.trod enc Try.prog W 0 (fun _ => true) true m 36 (([c0, c1, c2, c3, c4, c5].drop 4).take (Try.prog.cellsOf 36)) = some x4 := (hf 4 _ rfl).trans h4
  rw [c36'] at e4
  have e5 : DataW.trod enc Try.prog W 0 (fun _ => true) true m 23 (([c0, c1, c2, c3, c4, c5].drop 5).take (Try.prog.cellsOf 23)) = some x5 := (hf 5 _ rfl).trans h5
  rw [c23'] at e5
  obtain ⟨kd, g0, _⟩ := DataW.trod_int Try.underlying3 e0
  obtain ⟨k, g1, _⟩ := DataW.trod_int Try.underlying3 e1
  obtain ⟨at', g2, _⟩ := DataW.trod_int Try.underlying3 e2
  obtain ⟨b, g3, _, hw⟩ := DataW.trod_int Try.underlying5 e3
  obtain ⟨qb, cb, lb, g4, _, _, hb⟩ := open_bytes_rd Try.underlying36 Try.underlying5 c5' e4
  obtain ⟨qk, ck, lk, g5, _, _, hk⟩ := open_bools_rd' Try.underlying23 Try.underlying4 c4' e5
  refine ⟨⟨kd, k, at', UInt8.ofNat b.toNat, qb, cb, lb, qk, ck, lk⟩, ?_, rfl, ⟨hb, hk⟩⟩
  have g0 : [c0] = [int kd] := g0
  have g1 : [c1] = [int k] := g1
  have g2 : [c2] = [int at'] := g2
  have g3 : [c3] = [.int .u8 b] := g3
  have g4 : [c4] = [.slice qb lb.length cb] := g4
  have g5 : [c5] = [.slice qk lk.length ck] := g5
  cases g0; cases g1; cases g2; cases g3; cases g4; cases g5
  simp only [ActR.row]
  rw [byte_of hw]
end Go.Proofs.Ytoljbocejclaeaa
