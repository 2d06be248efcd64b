/-
  Code with labels in it to which nothing jumps. Nothing of a program stands here.
-/
import Derived.Test.YtcahpllliflloaaEx
import Derived.Test.YtcahpllliflloaaNu
set_option linter.unusedVariables false
set_option linter.unusedSimpArgs false
namespace Go.Sl
open Go
section
variable {P : Program} {b : Frame} {a : Act} {k : List Item} {cs : List Frame} {w : World} {Q : Exit → Act → World → Prop} {F : Fence} {n : Nat}
theorem stepR_scope {c : Code} : Go.step P (lone (b.atR a (.code (.scope c) :: k)) cs w) = .next (lone (b.atR a (.code c :: .inScope c :: k)) cs w) :=
  step_lone_go (by simp [stepG, stepG.exec, Frame.atR])
theorem stepR_inScope {c : Code} : Go.step P (lone (b.atR a (.inScope c :: k)) cs w) = .next (lone (b.atR a k) cs w) :=
  step_lone_go (by simp [stepG, stepG.exec, Frame.atR])
theorem wpIn_scope {c : Code} (hQ : ∀ l a w, ¬ Q (.goto l) a w) (h : c.wpIn F n P Q a w) : (Code.scope c).wpIn F n P Q a w := by
  intro b k cs hro hb hr
  have h0 : (lone (b.atR a (.code (.scope c) :: k)) cs w).fenced P F := fenced_calm hb hr rfl
  obtain ⟨e, a₁, w₁, hq, harr⟩ := h b (.inScope c :: k) cs hro hb hr
  cases e with
  | normal => exact ⟨.normal, a₁, w₁, hq, .head h0 stepR_scope (StepsIn.trans harr (.one (fenced_calm hb hr rfl) stepR_inScope))⟩
  | exit id =>
    have hx : exitTo id (.inScope c :: k) = exitTo id k := by simp [exitTo]
    exact ⟨.exit id, a₁, w₁, hq, fun k' hk => .head h0 stepR_scope (harr.1 k' (by rw [hx]; exact hk)),
      fun hr' hk => let ⟨k₁, h1, h2⟩ := harr.2 hr' (by rw [hx]; exact hk); ⟨k₁, h1, .head h0 stepR_scope h2⟩⟩
  | goto l => exact absurd hq (hQ _ _ _)
  | ret => exact ⟨_, a₁, w₁, hq, .of_steps (.one h0 stepR_scope) harr⟩
  | panic ch => exact ⟨_, a₁, w₁, hq, .of_steps (.one h0 stepR_scope) harr⟩
  | outgrown => exact ⟨_, a₁, w₁, hq, .of_steps (.one h0 stepR_scope) harr⟩
end
theorem post_goto {P : Program} {r : Option Nat} {Q : Po} {l : Nat} (k : List It) (a : Act) (w : World) : post P r Q k (.goto l) a w = Q (.goto l) a w := by
  induction k with
  | nil => rfl
  | cons x k ih => cases x <;> simpa [post] using ih
theorem MC.scope {X : Cx} {ds : List Deferred} {k : List It} {fr : Fr} {w : World} {c : Code} (hQ : ∀ l a w, ¬ X.Q (.goto l) a w) (h : MC X ds (.code c :: k) fr w) : MC X ds (.code (.scope c) :: k) fr w := fun a hf => by
  have := h a hf
  simp only [post] at this ⊢
  exact wpIn_scope (fun l a w hg => hQ l a w (by rw [post_goto] at hg; exact hg)) this
/-! ### Arrays of one-cell elements, put together -/
section
variable {P : Program} {r : Option Nat} {fr : Fr} {d : Option Tmp} {ty : TypeId} {pos : String} {aft : Array Edge} {g : Option (Nat × Bool)} {t e : TypeId}
theorem po_buildArr {n bytes bytes' : Nat} {zero zero' : List Value} [hT : TyU P t (.array n e)] [hI : TyI P t true n bytes zero] [hE : TyI P e false 1 bytes' zero'] {ps : Array (Nat × Operand)} {vs : List Value} (hv : evs fr (ps.toList.map (·.2)) = some vs)
    (hp : ps.toList.map (·.1) = upto 0 vs.length) (hn : vs.length = n) (h1 : ∀ v ∈ vs, v.oneCell' = true) : Pure P ⟨d, .build t ps, ty, pos, aft, g⟩ fr (.agg vs.toArray) := fun m ds a hf w => by
  obtain ⟨_, _, _, _, _, _, hzl, _⟩ := hI.info
  have e1 : (ps.map fun (i, x) => (i, a.eval x)).toList = (upto 0 vs.length).zip vs := by simpa using evps_map hf (evps_ones _ vs 0 hp hv)
  have hfill := fill_lay (fun i => some (i * 1, 1)) ((upto 0 vs.length).zip vs) (ones 0 vs) zero vs (zip_ones vs 0 h1) (layOk_ones _ vs 0 (by omega)) (lay_ones vs [] zero (by omega))
  have hz : (if True then Value.agg zero.toArray else zero.headD undef).cells = zero.toArray := by rw [if_pos trivial]; rfl
  simp only [execOp, Instr.build, Sem.run_bind, TyI.run_zero (P := P) (t := t) w, Result.andThen_ok, TyU.run (P := P) (t := t) w, TyI.run_size (P := P) (t := e) w, e1, hz, hfill]
  rfl
end
end Go.Sl
