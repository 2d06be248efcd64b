/- The laws' helpers: the examples. -/
import Derived.Test.YtoljbocejclaeaaDevh
set_option linter.unusedVariables false
set_option linter.unusedSimpArgs false
namespace Go.Proofs.Ytoljbocejclaeaa
open Go Go.Sl
attribute [local irreducible] LooksAt

theorem RdS.nil (F : List Assn) (size : Nat) : RdS F size (.slice none 0 0) 0 [] := ⟨none, 0, rfl, Nat.le_refl _, by simp, fun h => by simp at h⟩
theorem bytesV_get {l : List UInt8} {j : Nat} {c : UInt8} (h : l[j]? = some c) : (bytesV l)[j]? = some (byte c) := by
  simp only [bytesV, List.getElem?_map, h]; rfl
theorem read_ok {F : List Assn} {p : Nat} {D : Dev} {w : World} {k : Int} (hs : Sat (dev p D :: F) w) (hD : D.ok) (hO : D.O.length ≤ 100000) (h0 : D.wrong k 256 = 0) :
    Ret Try.prog 20 [ptr p, int k] w fun v w' => ∃ vb, v = .tuple #[vb, int 0] ∧ Sat (sl vb 5 1 256 (bytesV (D.get k.toNat)) :: dev p D.red :: F) w' :=
  (read_spec hs hD hO).mono fun v w' h => by rw [if_pos h0] at h; exact h
theorem write_ok {F : List Assn} {p : Nat} {D : Dev} {w : World} {k : Int} {vb : Value} {nb : Nat} {l : List UInt8} (hs : Sat (dev p D :: F) w) (hD : D.ok) (hl : RdS F 1 vb nb (bytesV l)) (hO : D.O.length ≤ 100000) (h0 : D.wrong k l.length = 0) :
    Ret Try.prog 18 [ptr p, int k, vb] w fun v w' => v = int 0 ∧ Sat (dev p (D.write k.toNat l) :: F) w' :=
  (write_spec hs hD hl hO).mono fun v w' h => by rw [if_pos h0, h0] at h; exact h
theorem sync_ok {F : List Assn} {p : Nat} {D : Dev} {w : World} (hs : Sat (dev p D :: F) w) (hD : D.ok) (hO : D.O.length ≤ 100000) (h0 : D.wrong 0 256 = 0) :
    Ret Try.prog 14 [ptr p] w fun v w' => v = int 0 ∧ Sat (dev p D.sync :: F) w' :=
  (sync_spec hs hD hO).mono fun v w' h => by rw [if_pos h0, h0] at h; exact h
theorem works_spec {F : List Assn} {w : World} (hs : Sat F w) :
    Ret Try.prog 11 [] w fun v w' => v = bool true ∧ Sat F w' := by
  refine Ret.enter [] _ Try.func11 rfl Try.ntmps11 rfl ?_
  repeat (first | (refine MC.run1 tab 1000 rfl rfl (by first | exact True.intro | (simp only [Conds, rng, Int.toNat_natCast, List.length_append, bytesV_length] <;> omega) | (simp [Conds, rng] <;> omega)) ?_) | (refine MC.la true (la_load1 hs rfl (by rfl)) rfl ?_) | (refine MC.part rfl rfl (fun h => absurd h (by first | decide | omega)) (fun _ => ?_)) | (refine MC.part rfl rfl (fun _ => ?_) (fun h => absurd (by first | decide | omega) h)) | (refine MC.cond rfl (fun h => absurd h (by first | decide | omega)) (fun _ => ?_)) | (refine MC.cond rfl (fun _ => ?_) (fun h => absurd (by first | decide | omega) h)))
  refine MC.does true (does_call rfl (new_spec hs 2 (by decide) (by decide))) rfl ?_
  rintro _ w ⟨p, rfl, hs⟩
  have hD := Dev.new_ok (n := 2) (by decide) (by decide)
  repeat (first | (refine MC.run1 tab 1000 rfl rfl (by first | exact True.intro | (simp only [Conds, rng, Int.toNat_natCast, List.length_append, bytesV_length] <;> omega) | (simp [Conds, rng] <;> omega)) ?_) | (refine MC.la true (la_load1 hs rfl (by rfl)) rfl ?_) | (refine MC.part rfl rfl (fun h => absurd h (by first | decide | omega)) (fun _ => ?_)) | (refine MC.part rfl rfl (fun _ => ?_) (fun h => absurd (by first | decide | omega) h)) | (refine MC.cond rfl (fun h => absurd h (by first | decide | omega)) (fun _ => ?_)) | (refine MC.cond rfl (fun _ => ?_) (fun h => absurd (by first | decide | omega) h)))
  refine MC.does true (does_call rfl (filled_spec (c := 7) (l := []) hs (RdS.nil _ 1))) rfl ?_
  rintro _ w ⟨b, rfl, hs⟩
  have hl : (filled 7 []).length = 256 := filled_length _ _
  have hs := hs.swap
  have hr : RdS (blk b (bytesV (filled 7 [])) 5 :: F) 1 (.slice (some ⟨b, 0, none⟩) 256 256) 256 (bytesV (filled 7 [])) := ⟨_, _, rfl, Nat.le_refl _, by simp [hl], fun _ => ⟨b, 0, rfl, Rd.of_at⟩⟩
  have hw := write_ok (k := 1) hs hD hr (by decide) (by rw [hl]; decide)
  repeat (first | (refine MC.run1 tab 1000 rfl rfl (by first | exact True.intro | (simp only [Conds, rng, Int.toNat_natCast, List.length_append, bytesV_length] <;> omega) | (simp [Conds, rng] <;> omega)) ?_) | (refine MC.la true (la_load1 hs rfl (by rfl)) rfl ?_) | (refine MC.part rfl rfl (fun h => absurd h (by first | decide | omega)) (fun _ => ?_)) | (refine MC.part rfl rfl (fun _ => ?_) (fun h => absurd (by first | decide | omega) h)) | (refine MC.cond rfl (fun h => absurd h (by first | decide | omega)) (fun _ => ?_)) | (refine MC.cond rfl (fun _ => ?_) (fun h => absurd (by first | decide | omega) h)))
  refine MC.does true (does_call rfl (hw)) rfl ?_
  rintro _ w ⟨rfl, hs⟩
  have hD1 := Dev.write_ok hD (k := (1 : Int).toNat) (by decide) hl
  repeat (first | (refine MC.run1 tab 1000 rfl rfl (by first | exact True.intro | (simp only [Conds, rng, Int.toNat_natCast, List.length_append, bytesV_length] <;> omega) | (simp [Conds, rng] <;> omega)) ?_) | (refine MC.la true (la_load1 hs rfl (by rfl)) rfl ?_) | (refine MC.part rfl rfl (fun h => absurd h (by first | decide | omega)) (fun _ => ?_)) | (refine MC.part rfl rfl (fun _ => ?_) (fun h => absurd (by first | decide | omega) h)) | (refine MC.cond rfl (fun h => absurd h (by first | decide | omega)) (fun _ => ?_)) | (refine MC.cond rfl (fun _ => ?_) (fun h => absurd (by first | decide | omega) h)))
  have hlo := lose_spec (torn := 0) (at' := 3) (kept := []) hs hD1 (by decide) (RdS.nil _ 1)
  refine MC.does true (does_call rfl (hlo)) rfl ?_
  rintro _ w ⟨q, rfl, hs⟩
  repeat (first | (refine MC.run1 tab 1000 rfl rfl (by first | exact True.intro | (simp only [Conds, rng, Int.toNat_natCast, List.length_append, bytesV_length] <;> omega) | (simp [Conds, rng] <;> omega)) ?_) | (refine MC.la true (la_load1 hs rfl (by rfl)) rfl ?_) | (refine MC.part rfl rfl (fun h => absurd h (by first | decide | omega)) (fun _ => ?_)) | (refine MC.part rfl rfl (fun _ => ?_) (fun h => absurd (by first | decide | omega) h)) | (refine MC.cond rfl (fun h => absurd h (by first | decide | omega)) (fun _ => ?_)) | (refine MC.cond rfl (fun _ => ?_) (fun h => absurd (by first | decide | omega) h)))
  have hD2 := Dev.lose_ok hD1 [] 0 3
  have hrd := read_ok (k := 1) hs hD2 (by decide) (by decide)
  refine MC.does true (does_call rfl (hrd)) rfl ?_
  rintro _ w ⟨vb, rfl, hs⟩
  obtain ⟨_, qv, cv, rfl, _⟩ := hs.sl_len
  have g2 : ((((Dev.new 2).write (1 : Int).toNat (filled 7 [])).lose [] 0 3).get (1 : Int).toNat)[2]? = some 7 := by decide +kernel
  have g3 : ((((Dev.new 2).write (1 : Int).toNat (filled 7 [])).lose [] 0 3).get (1 : Int).toNat)[3]? = some 0 := by decide +kernel
  have hr0 := RdS.of_sl hs
  obtain ⟨q', c', e1, h1, h2, h3⟩ := id hr0
  injection e1 with e1
  subst e1
  obtain ⟨bo, oo, rfl, hr⟩ := h3 (by decide)
  repeat (first | (refine MC.run1 tab 1000 rfl rfl (by first | exact True.intro | (simp only [Conds, rng, Int.toNat_natCast, List.length_append, bytesV_length] <;> omega) | (simp [Conds, rng] <;> omega)) ?_) | (refine MC.la true (la_load1 hs rfl (by rfl)) rfl ?_) | (refine MC.part rfl rfl (fun h => absurd h (by first | decide | omega)) (fun _ => ?_)) | (refine MC.part rfl rfl (fun _ => ?_) (fun h => absurd (by first | decide | omega) h)) | (refine MC.cond rfl (fun h => absurd h (by first | decide | omega)) (fun _ => ?_)) | (refine MC.cond rfl (fun _ => ?_) (fun h => absurd (by first | decide | omega) h)))
  refine MC.la true (la_load1_rd hr hs (j := (2 : Int).toNat * 1) rfl (v := byte 7) (bytesV_get g2)) rfl ?_
  repeat (first | (refine MC.run1 tab 1000 rfl rfl (by first | exact True.intro | (simp only [Conds, rng, Int.toNat_natCast, List.length_append, bytesV_length] <;> omega) | (simp [Conds, rng] <;> omega)) ?_) | (refine MC.la true (la_load1 hs rfl (by rfl)) rfl ?_) | (refine MC.part rfl rfl (fun h => absurd h (by first | decide | omega)) (fun _ => ?_)) | (refine MC.part rfl rfl (fun _ => ?_) (fun h => absurd (by first | decide | omega) h)) | (refine MC.cond rfl (fun h => absurd h (by first | decide | omega)) (fun _ => ?_)) | (refine MC.cond rfl (fun _ => ?_) (fun h => absurd (by first | decide | omega) h)))
  refine MC.la true (la_load1_rd hr hs (j := (3 : Int).toNat * 1) rfl (v := byte 0) (bytesV_get g3)) rfl ?_
  repeat (first | (refine MC.run1 tab 1000 rfl rfl (by first | exact True.intro | (simp only [Conds, rng, Int.toNat_natCast, List.length_append, bytesV_length] <;> omega) | (simp [Conds, rng] <;> omega)) ?_) | (refine MC.la true (la_load1 hs rfl (by rfl)) rfl ?_) | (refine MC.part rfl rfl (fun h => absurd h (by first | decide | omega)) (fun _ => ?_)) | (refine MC.part rfl rfl (fun _ => ?_) (fun h => absurd (by first | decide | omega) h)) | (refine MC.cond rfl (fun h => absurd h (by first | decide | omega)) (fun _ => ?_)) | (refine MC.cond rfl (fun _ => ?_) (fun h => absurd (by first | decide | omega) h)))
  have hs := hs.pickF 3 [2] rfl rfl
  (try dsimp only [List.eraseIdx, List.cons_append, List.nil_append, List.drop_succ_cons, List.drop_zero, List.append_eq] at hs)
  refine MC.does true (does_call rfl (sync_ok hs hD1 (by decide) (by decide))) rfl ?_
  rintro _ w ⟨rfl, hs⟩
  have hD3 := Dev.sync_ok hD1
  repeat (first | (refine MC.run1 tab 1000 rfl rfl (by first | exact True.intro | (simp only [Conds, rng, Int.toNat_natCast, List.length_append, bytesV_length] <;> omega) | (simp [Conds, rng] <;> omega)) ?_) | (refine MC.la true (la_load1 hs rfl (by rfl)) rfl ?_) | (refine MC.part rfl rfl (fun h => absurd h (by first | decide | omega)) (fun _ => ?_)) | (refine MC.part rfl rfl (fun _ => ?_) (fun h => absurd (by first | decide | omega) h)) | (refine MC.cond rfl (fun h => absurd h (by first | decide | omega)) (fun _ => ?_)) | (refine MC.cond rfl (fun _ => ?_) (fun h => absurd (by first | decide | omega) h)))
  refine MC.does true (does_call rfl (open_spec hs hD3 (by decide))) rfl ?_
  intro va w hs
  obtain ⟨_, qa, ca, rfl, _⟩ := hs.sl_len
  repeat (first | (refine MC.run1 tab 1000 rfl rfl (by first | exact True.intro | (simp only [Conds, rng, Int.toNat_natCast, List.length_append, bytesV_length] <;> omega) | (simp [Conds, rng] <;> omega)) ?_) | (refine MC.la true (la_load1 hs rfl (by rfl)) rfl ?_) | (refine MC.part rfl rfl (fun h => absurd h (by first | decide | omega)) (fun _ => ?_)) | (refine MC.part rfl rfl (fun _ => ?_) (fun h => absurd (by first | decide | omega) h)) | (refine MC.cond rfl (fun h => absurd h (by first | decide | omega)) (fun _ => ?_)) | (refine MC.cond rfl (fun _ => ?_) (fun h => absurd (by first | decide | omega) h)))
  refine MC.ret rfl ?_
  exact ⟨rfl, hs.tail.tail.tail⟩
end Go.Proofs.Ytoljbocejclaeaa
