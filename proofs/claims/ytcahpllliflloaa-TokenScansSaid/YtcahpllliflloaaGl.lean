/-
  From a contract on parts of the heap to a row: what lay in the world lies there as it did. Nothing of a program stands here.
-/
import Derived.Test.YtcahpllliflloaaRf
import Derived.ProofKit
import Derived.OpenShut
import Derived.JoinedCond
import Derived.WalkKit
set_option linter.unusedVariables false
set_option linter.unusedSimpArgs false
namespace Go.Sl
open Go Go.ChangeShapes Go.WideShapes Go.ChangeAt Go.RowKit
theorem Sat.kept {l : List Assn} {W w : World} (h : Sat (old W :: l) w) : W.keptBut w (fun _ => False) := by
  have he := h.old_env
  simp only [envOf, Prod.mk.injEq] at he
  refine ⟨he.1, he.2, fun i hi => ?_⟩
  have r := (World.keptBut_refl W (fun _ => False)).2.2 i hi
  rw [h.old_same i hi]
  exact r
theorem Sat.frozen_old {l : List Assn} {W w : World} (h : Sat (old W :: l) w) (a : Addr) (ha : a.block < W.heap.size) : w.frozen? a = W.frozen? a := by
  unfold World.frozen?
  rw [h.old_same _ ha]
section
variable {H : Type} {enc : TypeId × Value → H} {P : Program}
/-- The row's word on the end, where all that was there lies as it lay. -/
theorem post_of_old {l : List Assn} {f : Func} {s : ChangeSpec} {apart fresh handsOn again : Bool} {W W' : World} {args : Array Value} {v : Value} {ds gs : List (DataW H)} {before pa pv : List MemPlace}
    (hS : Sat (old W :: l) W') (hW : DataW.Whole enc P f.params.toList s.vars apart W args.toList ds gs before)
    (hres : ∀ (b : Nat) (sp : Nat → Bool) (hd : Bool), DataW.TrodAll enc P W' b sp hd f.resultTypes.toList (v.resultList f.resultTypes.size) (s.fn H (ds ++ gs)).results [])
    (hargs : ∀ sp : Nat → Bool, (∀ p ∈ before, sp p.block = true) → DataW.TrodAll enc P W' 0 sp true f.params.toList args.toList (s.fn H (ds ++ gs)).args pa)
    (hvars : ∀ sp : Nat → Bool, (∀ p ∈ before, sp p.block = true) → DataW.TrodVars enc P W' sp s.vars (s.fn H (ds ++ gs)).vars pv)
    (hps : before = pa ++ pv)
    (hok : ∀ (j : Nat) (t : TypeId) (r : Value), f.resultTypes[j]? = some t → (v.resultList f.resultTypes.size)[j]? = some r → Value.okWide P W' .any 0 t r) :
    s.post enc P f apart fresh handsOn again W args v W' := by
  have hlt := hW.lt
  have hold : ∀ p ∈ before, (fun b => decide (b < W.heap.size)) p.block = true := fun p hp => by simpa using hlt p hp
  refine ⟨ds, gs, before, [], pa, pv, hW, hres _ _ _, hargs _ hold, hvars _ hold, World.keptBut_mono (fun p hp => hp.elim) hS.kept, fun _ => ?_⟩
  obtain ⟨_, _, _, _, _, hz, hn⟩ := hW
  refine ⟨hok, _, _, ([] ++ pa) ++ pv, ⟨[] ++ pa, pv, trodAll_append (hargs _ (fun _ _ => rfl)) (hres _ _ _), hvars _ (fun _ _ => rfl), rfl, ?_, ?_⟩, ?_⟩
  · intro b off hp
    have hp' : MemPlace.cell b off ∈ before := by rw [hps]; simpa using hp
    rw [hS.frozen_old _ (hlt _ hp')]
    exact hz b off hp'
  · intro ha
    simpa [hps] using hn ha
  · intro p hp _
    rw [hps]
    simpa using hp
end
end Go.Sl
