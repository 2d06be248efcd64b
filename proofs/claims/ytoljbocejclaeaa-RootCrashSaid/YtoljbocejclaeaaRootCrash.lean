/-
  thimblelaw17.RootCrash answers true for every input: wherever a Save is cut off, and whatever is lost or torn, what is opened is what was the latest one, or what was being saved; that, if Save was OK. Conditions: none.
-/
import Derived.Test.YtoljbocejclaeaaRows
import Derived.Test.YtoljbocejclaeaaBp
import Derived.Test.YtoljbocejclaeaaCrasw
set_option linter.unusedVariables false
namespace Go.Proofs.Ytoljbocejclaeaa.rootCrash
open Go Go.Sl Go.ChangeShapes Go.WideShapes Go.ChangeAt Go.RowKit

theorem own : ownKnob Try.prog.godebug = none := by kernel_rfl
theorem contract (H : Type) (enc : TypeId × Value → H) (W : World) (base : Nat) (args : Array Value) (ds gs : List (DataW H)) (before : List MemPlace)
    (hval : ∀ (j : Nat) t v, Try.f10.params[j]? = some t → args[j]? = some v → Value.okWide Try.prog W .any base t v)
    (hW : DataW.Whole enc Try.prog Try.f10.params.toList Rows.rootCrashSpec.vars false W args.toList ds gs before) :
    Calls Try.prog 10 args W fun e W' => ∃ v, e = .returned v ∧ Rows.rootCrashSpec.post enc Try.prog Try.f10 false true false false W args v W' := by
  have hW' := hW
  obtain ⟨p, q, hA0, hV, rfl, hfz, hnd⟩ := hW
  have hA : DataW.TrodAll enc Try.prog W 0 (fun _ => true) true Try.f10.params.toList args.toList ds p := hA0
  rw [Try.params10] at hA hval
  obtain ⟨v0, vs0, d0, ds0, p0, q0', hargs, rfl, rfl, h0, r0'⟩ := trodAll_cons hA
  obtain ⟨v1, vs1, d1, ds1, p1, q1', rfl, rfl, rfl, h1, r1'⟩ := trodAll_cons r0'
  obtain ⟨v2, vs2, d2, ds2, p2, q2', rfl, rfl, rfl, h2, r2'⟩ := trodAll_cons r1'
  obtain ⟨v3, vs3, d3, ds3, p3, q3', rfl, rfl, rfl, h3, r3'⟩ := trodAll_cons r2'
  obtain ⟨v4, vs4, d4, ds4, p4, q4', rfl, rfl, rfl, h4, r4'⟩ := trodAll_cons r3'
  obtain ⟨v5, vs5, d5, ds5, p5, q5', rfl, rfl, rfl, h5, r5'⟩ := trodAll_cons r4'
  obtain ⟨rfl, rfl, rfl⟩ := trodAll_nil r5'
  obtain rfl : args = #[v0, v1, v2, v3, v4, v5] := by cases args; simp_all
  obtain ⟨rfl, rfl⟩ := trodVars_none hV
  obtain ⟨n0, t0⟩ := trod_slice1 (okWide_slice Try.underlying70 (hval 0 _ v0 rfl rfl)) h0
  obtain ⟨q0, c0, y0, e0, k0, m0, o0, r0⟩ := open_slice_rd (W := W) (c := 1) LsR.row (LsR.ok [old W]) Try.underlying70 (by kernel_rfl) (by omega) ls_dec t0
  cases e0
  obtain ⟨n1, t1⟩ := trod_slice1 (okWide_slice Try.underlying31 (hval 1 _ v1 rfl rfl)) h1
  obtain ⟨q1, c1, l1, e1, k1, m1, g1, r1⟩ := open_ints_rd (W := W) Try.underlying31 Try.underlying3 (by kernel_rfl) t1
  cases e1
  obtain ⟨a2, rfl, rfl, rfl, w2⟩ := open_int Try.underlying3 (hval 2 _ v2 rfl rfl) h2
  obtain ⟨a3, rfl, rfl, rfl⟩ := open_bool Try.underlying4 (hval 3 _ v3 rfl rfl) h3
  obtain ⟨a4, rfl, rfl, rfl, w4⟩ := open_int Try.underlying3 (hval 4 _ v4 rfl rfl) h4
  obtain ⟨a5, rfl, rfl, rfl, w5⟩ := open_int Try.underlying3 (hval 5 _ v5 rfl rfl) h5
  have hw := crash_walk a2 a4 a5 a3 (Sat.old_self W) r0 (fun y hy => (o0 y hy).1) r1
  refine Calls.mono hw ?_
  rintro e W' ⟨_, rfl, rfl, hS⟩
  exact ⟨_, rfl, post_of_old hS (pv := []) hW' (fun _ _ _ => (trodAll_cons_mk (shut_bool Try.underlying4 _) trodAll_mk0))
    (fun sp h => trodAll_again hS.old_same 6 (by kernel_rfl) hA0 (fun p hp => h p (by simpa using hp)))
    (fun _ _ => rfl) (by simp) (ok_one (by kernel_rfl) rfl (okWide_bool_mk Try.underlying4 _))⟩

set_option maxRecDepth 100000 in
theorem lifted (os : Os) (started : os.Started) (H : Type) (enc : TypeId × Value → H) :
    ReturnsInHanded {} Try.checked os 10 .any (Rows.rootCrashSpec.pre6 enc Try.prog Try.f10 Rows.rootCrashRow.domain false) (Rows.rootCrashSpec.post enc Try.prog Try.f10 false true false false) := by
  refine returnsInHanded_of_change (C := Try.checked) own started (by kernel_rfl) Try.func10
    (ChangeSpec.witness6 (enc := enc) (C := Try.checked) false ⟨#[], #[.slice none 0 0, .slice none 0 0, .int .i64 0, .bool false, .int .i64 0, .int .i64 0], []⟩ 8 (by kernel_rfl) (by kernel_rfl) (by kernel_rfl) (by kernel_rfl)) ?_
  intro W base args ds gs before hval hW _ _
  exact contract H enc W base args ds gs before hval hW

theorem over : Rows.rootCrashRow.holds Try.pinned (OpenSpec.ofChange Rows.rootCrashSpec) :=
  OpenClaim.holds_of_wide 10 Try.f10 rfl rfl rfl rfl rfl rfl rfl ⟨rfl, rfl, rfl, rfl, rfl⟩ rfl rfl rfl rfl rfl (by kernel_rfl) Try.func10 (by kernel_rfl)
    (of_decide_eq_true (by kernel_rfl)) (by unfold Func.isWrapper; first | (rw [if_pos (by decide +kernel)]; kernel_rfl) | (rw [if_neg (by decide +kernel)]; exact ⟨rfl, rfl⟩))
    (fun os started H enc _ => lifted os started H enc)

theorem proved : Rows.RootCrashSaid := over
end Go.Proofs.Ytoljbocejclaeaa.rootCrash
