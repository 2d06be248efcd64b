/-
  thimblelaw15.DeviceNobody answers true for every input: devices that are nil, or that no call made, have no sectors, and take nothing. Conditions: none.
-/
import Derived.Test.YtoljbocejclaeaaRows
import Derived.Test.YtoljbocejclaeaaBp
import Derived.Test.YtoljbocejclaeaaActs
import Derived.Test.YtoljbocejclaeaaNobx
set_option linter.unusedVariables false
namespace Go.Proofs.Ytoljbocejclaeaa.deviceNobody
open Go Go.Sl Go.ChangeShapes Go.WideShapes Go.ChangeAt Go.RowKit

theorem own : ownKnob Try.prog.godebug = none := by kernel_rfl
theorem contract (H : Type) (enc : TypeId × Value → H) (W : World) (base : Nat) (args : Array Value) (ds gs : List (DataW H)) (before : List MemPlace)
    (hval : ∀ (j : Nat) t v, Try.f6.params[j]? = some t → args[j]? = some v → Value.okWide Try.prog W .any base t v)
    (hW : DataW.Whole enc Try.prog Try.f6.params.toList Rows.deviceNobodySpec.vars false W args.toList ds gs before) :
    Calls Try.prog 6 args W fun e W' => ∃ v, e = .returned v ∧ Rows.deviceNobodySpec.post enc Try.prog Try.f6 false true false false W args v W' := by
  have hW' := hW
  obtain ⟨p, q, hA0, hV, rfl, hfz, hnd⟩ := hW
  have hA : DataW.TrodAll enc Try.prog W 0 (fun _ => true) true Try.f6.params.toList args.toList ds p := hA0
  rw [Try.params6] at hA hval
  obtain ⟨v0, vs0, d0, ds0, p0, q0', hargs, rfl, rfl, h0, r0'⟩ := trodAll_cons hA
  obtain ⟨rfl, rfl, rfl⟩ := trodAll_nil r0'
  obtain rfl : args = #[v0] := by cases args; simp_all
  obtain ⟨rfl, rfl⟩ := trodVars_none hV
  obtain ⟨s0, hs0, _⟩ := okWide_struct Try.underlying38 (hval 0 _ v0 rfl rfl)
  obtain ⟨n0, t0⟩ := trod_struct1 hs0 h0
  obtain ⟨y0, e0, _, o0⟩ := act_dec n0 _ _ t0
  obtain rfl : s0 = y0.row.toArray := by apply Array.ext'; simpa using e0
  subst hs0
  have hw := nobody_walk y0.kd y0.k y0.at' (y0.by'.toNat : Int) y0.qb y0.qk y0.bytes.length y0.cb y0.kept.length y0.ck (Sat.old_self W)
  refine Calls.mono hw ?_
  rintro e W' ⟨_, rfl, rfl, hS⟩
  exact ⟨_, rfl, post_of_old hS (pv := []) hW' (fun _ _ _ => (trodAll_cons_mk (shut_bool Try.underlying4 _) trodAll_mk0))
    (fun sp h => trodAll_again hS.old_same 6 (by kernel_rfl) hA0 (fun p hp => h p (by simpa using hp)))
    (fun _ _ => rfl) (by simp) (ok_one (by kernel_rfl) rfl (okWide_bool_mk Try.underlying4 _))⟩

set_option maxRecDepth 100000 in
theorem lifted (os : Os) (started : os.Started) (H : Type) (enc : TypeId × Value → H) :
    ReturnsInHanded {} Try.checked os 6 .any (Rows.deviceNobodySpec.pre6 enc Try.prog Try.f6 Rows.deviceNobodyRow.domain false) (Rows.deviceNobodySpec.post enc Try.prog Try.f6 false true false false) := by
  refine returnsInHanded_of_change (C := Try.checked) own started (by kernel_rfl) Try.func6
    (ChangeSpec.witness6 (enc := enc) (C := Try.checked) false ⟨#[], #[.agg #[.int .i64 0, .int .i64 0, .int .i64 0, .int .u8 0, .slice none 0 0, .slice none 0 0]], []⟩ 8 (by kernel_rfl) (by kernel_rfl) (by kernel_rfl) (by kernel_rfl)) ?_
  intro W base args ds gs before hval hW _ _
  exact contract H enc W base args ds gs before hval hW

theorem over : Rows.deviceNobodyRow.holds Try.pinned (OpenSpec.ofChange Rows.deviceNobodySpec) :=
  OpenClaim.holds_of_wide 6 Try.f6 rfl rfl rfl rfl rfl rfl rfl ⟨rfl, rfl, rfl, rfl, rfl⟩ rfl rfl rfl rfl rfl (by kernel_rfl) Try.func6 (by kernel_rfl)
    (of_decide_eq_true (by kernel_rfl)) (by unfold Func.isWrapper; first | (rw [if_pos (by decide +kernel)]; kernel_rfl) | (rw [if_neg (by decide +kernel)]; exact ⟨rfl, rfl⟩))
    (fun os started H enc _ => lifted os started H enc)

theorem proved : Rows.DeviceNobodySaid := over
end Go.Proofs.Ytoljbocejclaeaa.deviceNobody
