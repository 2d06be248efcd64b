/- Tokens: two tokens compared. -/
import Derived.Test.YtcahpllliflloaaKm
import Derived.Laws.StructEq
set_option linter.unusedVariables false
set_option linter.unusedSimpArgs false
namespace Go.Proofs.Ytcahpllliflloaa
open Go Go.Sl Go.Tk
attribute [local irreducible] LooksAt

theorem tok_fields : ∃ fs : Array Field, Try.prog.underlying 36 = some (.struct fs) ∧ Try.prog.fieldsOf 36 = fs ∧ fs.toList.map (fun f => (f.name ≠ "_", f.type, f.offset)) = [(True, 3, 0), (True, 9, 1), (True, 3, 2)] :=
  ⟨_, Try.underlying36, by unfold Program.fieldsOf; rw [Try.underlying36], by simp⟩
theorem eqFields_cons (P : Program) (d : Nat) (xs ys : Array Value) (f : Field) (fs : List Field) (w : World) (hn : f.name ≠ "_") {a b : Value} {r : Bool} (h1 : (part f.type xs f.offset).run P w = .ok a w) (h2 : (part f.type ys f.offset).run P w = .ok b w) (h3 : (Op.equalIn d f.type a b).run P w = .ok r w) :
    (Op.eqFields d xs ys (f :: fs)).run P w = if r then (Op.eqFields d xs ys fs).run P w else .ok false w := by
  simp only [Op.eqFields, Sem.run_bind, if_pos hn, h1, h2, h3, Result.andThen_ok]
  cases r <;> simp
theorem tok_equal (k1 k2 n1 n2 : Int) (t1 t2 : Bs) (w : World) : (Op.equalIn 10000 36 (.agg #[int k1, str t1, int n1]) (.agg #[int k2, str t2, int n2])).run Try.prog w = .ok (decide (k1 = k2) && (decide (t1 = t2) && decide (n1 = n2))) w := by
  obtain ⟨fs, h1, h2, h3⟩ := tok_fields
  rw [run_equalIn_agg w 9999 _ _ _ (by rw [h1, h2]) Try.stoodInHeld36, h2]
  match hl : fs.toList, h3 with
  | [f0, f1, f2], h3 =>
    simp only [List.map_cons, List.map_nil, List.cons.injEq, Prod.mk.injEq, eq_iff_iff, iff_true, and_true] at h3
    obtain ⟨⟨a1, a2, a3⟩, ⟨b1, b2, b3⟩, c1, c2, c3⟩ := h3
    have p0 : ∀ (k n : Int) (t : Bs), (part f0.type #[int k, str t, int n] f0.offset).run Try.prog w = .ok (int k) w := fun k n t => by
      rw [a2, a3]; exact run_part (agg := false) (size := 1) [int k, str t, int n] 0 (Nat.le_add_left 1 2) w
    have p1 : ∀ (k n : Int) (t : Bs), (part f1.type #[int k, str t, int n] f1.offset).run Try.prog w = .ok (str t) w := fun k n t => by
      rw [b2, b3]; exact run_part (agg := false) (size := 1) [int k, str t, int n] 1 (Nat.le_add_left 2 1) w
    have p2 : ∀ (k n : Int) (t : Bs), (part f2.type #[int k, str t, int n] f2.offset).run Try.prog w = .ok (int n) w := fun k n t => by
      rw [c2, c3]; exact run_part (agg := false) (size := 1) [int k, str t, int n] 2 (Nat.le_refl 3) w
    have e0 : ∀ a b : Int, (Op.equalIn 9999 f0.type (int a) (int b)).run Try.prog w = .ok (decide (a = b)) w := fun a b => by
      rw [a2, run_equalIn_int w 9998 _ .i64 .i64 a b Try.underlying3]; congr 1
    have e2 : ∀ a b : Int, (Op.equalIn 9999 f2.type (int a) (int b)).run Try.prog w = .ok (decide (a = b)) w := fun a b => by
      rw [c2, run_equalIn_int w 9998 _ .i64 .i64 a b Try.underlying3]; congr 1
    have e1 : ∀ a b : Bs, (Op.equalIn 9999 f1.type (str a) (str b)).run Try.prog w = .ok (decide (a = b)) w := fun a b => by
      rw [b2, run_equalIn_string w 9998 _ _ _ Try.underlying9]
      congr 1
      by_cases h : a = b
      · subst h; simp
      · have h2 : ¬ (ByteArray.mk a.toArray).toList = (ByteArray.mk b.toArray).toList := fun e => h (by simpa [bytes_toList] using e)
        rw [decide_eq_false h]; exact beq_eq_false_iff_ne.2 h2
    rw [eqFields_cons _ _ _ _ _ _ _ a1 (p0 _ _ _) (p0 _ _ _) (e0 _ _), eqFields_cons _ _ _ _ _ _ _ b1 (p1 _ _ _) (p1 _ _ _) (e1 _ _), eqFields_cons _ _ _ _ _ _ _ c1 (p2 _ _ _) (p2 _ _ _) (e2 _ _)]
    by_cases h4 : k1 = k2 <;> by_cases h5 : t1 = t2 <;> by_cases h6 : n1 = n2 <;> simp [h4, h5, h6, Op.eqFields]
  | [], h3 => simp at h3
  | [_], h3 => simp at h3
  | [_, _], h3 => simp at h3
  | _ :: _ :: _ :: _ :: _, h3 => simp at h3
theorem bin_tok_eql (k1 k2 n1 n2 : Int) (t1 t2 : Bs) : Bin Try.prog .eql 36 (.agg #[int k1, str t1, int n1]) (.agg #[int k2, str t2, int n2]) (bool (decide (k1 = k2) && (decide (t1 = t2) && decide (n1 = n2)))) := fun x y w => by
  rw [Sem.run_bind, run_eqGuard_agg w _ _ x y _ _ Try.eqGuardType36, Result.andThen_ok, run_eql_struct, tok_equal]; rfl
theorem bin_tok_neq (k1 k2 n1 n2 : Int) (t1 t2 : Bs) : Bin Try.prog .neq 36 (.agg #[int k1, str t1, int n1]) (.agg #[int k2, str t2, int n2]) (bool (!(decide (k1 = k2) && (decide (t1 = t2) && decide (n1 = n2))))) := fun x y w => by
  rw [Sem.run_bind, run_eqGuard_agg w _ _ x y _ _ Try.eqGuardType36, Result.andThen_ok, run_neq_struct, tok_equal]; rfl
end Go.Proofs.Ytcahpllliflloaa
