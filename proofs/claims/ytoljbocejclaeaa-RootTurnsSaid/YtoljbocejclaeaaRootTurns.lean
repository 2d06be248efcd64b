/-
  thimblelaw17.RootTurns answers true for every input: what is saved is the latest one at once, and is found again. Conditions: none.
-/
import Derived.Test.YtoljbocejclaeaaRows
import Derived.Test.YtoljbocejclaeaaBp
import Derived.Test.YtoljbocejclaeaaTurnw
set_option linter.unusedVariables false
namespace Go.Proofs.Ytoljbocejclaeaa.rootTurns
open Go Go.Sl Go.ChangeShapes Go.WideShapes Go.ChangeAt Go.RowKit

theorem own : ownKnob Try.prog.godebug = none := by kernel_rfl
theorem contract (H : Type) (enc : TypeId × Value → H) (W : World) (base : Nat) (args : Array Value) (ds gs : List (DataW H)) (before : List MemPlace)
    (hval : ∀ (j : Nat) t v, Try.f9.params[j]? = some t → args[j]? = some v → Value.okWide Try.prog W .any base t v)
    (hW : DataW.Whole enc Try.prog Try.f9.params.toList Rows.rootTurnsSpec.vars false W args.toList ds gs before) :
    Calls Try.prog 9 args W fun e W' => ∃ v, e = .returned v ∧ Rows.rootTurnsSpec.post enc Try.prog Try.f9 false true false false W args v W' := by
  have hW' := hW
  obtain ⟨p, q, hA0, hV, rfl, hfz, hnd⟩ := hW
  have hA : DataW.TrodAll enc Try.prog W 0 (fun _ => true) true Try.f9.params.toList args.toList ds p := hA0
  rw [Try.params9] at hA hval
  obtain ⟨v0, vs0, d0, ds0, p0, q0', hargs, rfl, rfl, h0, r0'⟩ := trodAll_cons hA
  obtain ⟨v1, vs1, d1, ds1, p1, q1', rfl, rfl, rfl, h1, r1'⟩ := trodAll_cons r0'
  obtain ⟨rfl, rfl, rfl⟩ := trodAll_nil r1'
  obtain rfl : args = #[v0, v1] := by cases args; simp_all
  obtain ⟨rfl, rfl⟩ := trodVars_none hV
  obtain ⟨n0, t0⟩ := trod_slice1 (okWide_slice Try.underlying70 (hval 0 _ v0 rfl rfl)) h0
  obtain ⟨q0, c0, y0, e0, k0, m0, o0, r0⟩ := open_slice_rd (W := W) (c := 1) LsR.row (LsR.ok [old W]) Try.underlying70 (by kernel_rfl) (by omega) ls_dec t0
  cases e0
  obtain ⟨n1, t1⟩ := trod_slice1 (okWide_slice Try.underlying31 (hval 1 _ v1 rfl rfl)) h1
  obtain ⟨q1, c1, l1, e1, k1, m1, g1, r1⟩ := open_ints_rd (W := W) Try.underlying31 Try.underlying3 (by kernel_rfl) t1
  cases e1
  have hw := turns_walk (Sat.old_self W) r0 (fun y hy => (o0 y hy).1) r1
  refine Calls.mono hw ?_
  rintro e W' ⟨_, rfl, rfl, hS⟩
  exact ⟨_, rfl, post_of_old hS (pv := []) hW' (fun _ _ _ => (trodAll_cons_mk (shut_bool Try.underlying4 _) trodAll_mk0))
    (fun sp h => trodAll_again hS.old_same 6 (by kernel_rfl) hA0 (fun p hp => h p (by simpa using hp)))
    (fun _ _ => rfl) (by simp) (ok_one (by kernel_rfl) rfl (okWide_bool_mk Try.underlying4 _))⟩

set_option maxRecDepth 100000 in
theorem lifted (os : Os) (started : os.Started) (H : Type) (enc : TypeId × Value → H) :
    ReturnsInHanded {} Try.checked os 9 .any (Rows.rootTurnsSpec.pre6 enc Try.prog Try.f9 Rows.rootTurnsRow.domain false) (Rows.rootTurnsSpec.post enc Try.prog Try.f9 false true false false) := by
  refine returnsInHanded_of_change (C := Try.checked) own started (by kernel_rfl) Try.func9
    (ChangeSpec.witness6 (enc := enc) (C := Try.checked) false ⟨#[], #[.slice none 0 0, .slice none 0 0], []⟩ 8 (by kernel_rfl) (by kernel_rfl) (by kernel_rfl) (by kernel_rfl)) ?_
  intro W base args ds gs before hval hW _ _
  exact contract H enc W base args ds gs before hval hW

theorem over : Rows.rootTurnsRow.holds Try.pinned (OpenSpec.ofChange Rows.rootTurnsSpec) :=
  OpenClaim.holds_of_wide 9 Try.f9 rfl rfl rfl rfl rfl rfl rfl ⟨rfl, rfl, rfl, rfl, rfl⟩ rfl rfl rfl rfl rfl (by kernel_rfl) Try.func9 (by kernel_rfl)
    (of_decide_eq_true (by kernel_rfl)) (by unfold Func.isWrapper; first | (rw [if_pos (by decide +kernel)]; kernel_rfl) | (rw [if_neg (by decide +kernel)]; exact ⟨rfl, rfl⟩))
    (fun os started H enc _ => lifted os started H enc)

theorem proved : Rows.RootTurnsSaid := over
end Go.Proofs.Ytoljbocejclaeaa.rootTurns
