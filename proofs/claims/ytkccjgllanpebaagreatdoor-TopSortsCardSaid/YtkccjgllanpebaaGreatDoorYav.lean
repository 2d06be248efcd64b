/-
  Chains: Put | Values of their own memory: Copy | Chains: the pages, one by one | Values in a row: what lies where, and swapping two
-/
import Derived.Test.YtkccjgllanpebaaGreatDoorYau
import Derived.Test.YtkccjgllanpebaaGreatDoorYam
import Derived.Test.YtkccjgllanpebaaGreatDoorYab
set_option maxHeartbeats 1000000
set_option linter.unusedVariables false
set_option linter.unusedSimpArgs false
namespace Go.Proofs.YtkccjgllanpebaaGreatDoor
open Go Go.Sl Go.Tr
attribute [local irreducible] LooksAt
theorem po_sliceArr_lo {P : Program} {fr : Fr} {d : Option Tmp} {ty : TypeId} {pos : String} {aft : Array Edge} {g : Option (Nat × Bool)} {x lo : Operand} {t e : TypeId} {n b o : Nat} {agg : Bool} {size bytes : Nat} {zero : List Value} [h1 : TyU P t (.array n e)] [h2 : TyI P e agg size bytes zero] {k : IntKind} {j : Nat} (hx : ev fr x = some (.pointer (some ⟨b, o, none⟩))) (hl : ev fr lo = some (.int k (j : Int))) (h : j < n) :
    Pure P ⟨d, .slice t x (some lo) none none, ty, pos, aft, g⟩ fr (.slice (some ⟨b, o + j * size, none⟩) (n - j) (n - j)) := fun m ds ac hf w => by
  simp only [execOp, hf.ev hx, hf.ev hl, Instr.sliceAt, Option.map_some, Option.map_none, Instr.sliceBounds]
  simp [TyU.run (P := P) (t := t) w, Instr.sureAddr, run_bound (P := P) (Nat.le_of_lt h), TyI.run_size (P := P) (t := e) w, Addr.add]
  rw [if_neg (by omega)]
  split
  · next h' => rw [h']; rfl
  · rfl
theorem reps_len (n : Nat) (v : Value) : (reps n v).length = n := List.length_replicate
theorem start_len (nx : Nat) : (two nx ++ List.replicate 254 (0 : UInt8)).length = 256 := by rw [List.length_append, List.length_replicate]; rfl
theorem page_start (nx : Nat) : ((reps 256 (Value.int .u8 0)).set (0 + Int.toNat 0 * 1) (Value.int .u8 (IntKind.u8.wrap ((nx : Int) / 256)))).set (0 + Int.toNat 1 * 1) (Value.int .u8 (IntKind.u8.wrap (nx : Int))) = bytesV (two nx ++ List.replicate 254 0) := by
  rw [show reps 256 (Value.int .u8 0) = Value.int .u8 0 :: Value.int .u8 0 :: reps 254 (Value.int .u8 0) from rfl]
  have e1 : IntKind.u8.wrap ((nx : Int) / 256) = (((UInt8.ofNat (nx / 256)).toNat : Nat) : Int) := by rw [wrap_u8]; simp
  have e2 : IntKind.u8.wrap (nx : Int) = (((UInt8.ofNat nx).toNat : Nat) : Int) := by rw [wrap_u8]; simp
  rw [e1, e2]
  show Value.int .u8 _ :: Value.int .u8 _ :: reps 254 (Value.int .u8 0) = _
  rw [show reps 254 (Value.int .u8 0) = bytesV (List.replicate 254 0) by unfold bytesV; rw [List.map_replicate]; rfl]
  rfl
theorem page_done (nx : Nat) (t : Bs) : splice (bytesV (two nx ++ List.replicate 254 0)) (0 + 2 * 1) (List.take (min t.length (256 - 2)) (bytesV t)) = bytesV (link nx t) := by
  have e1 : List.take (min t.length (256 - 2)) (bytesV t) = bytesV (t.take 254) := by
    rw [bytesV_take]
    congr 1
    rcases Nat.le_total t.length 254 with h | h
    · rw [Nat.min_eq_left h, List.take_length, List.take_of_length_le h]
    · rw [Nat.min_eq_right h]
  have h2 : (t.take 254).length ≤ 254 := by rw [List.length_take]; omega
  rw [e1, splice_eq _ _ _ (by rw [bytesV_length, bytesV_length, start_len]; omega), bytesV_length, bytesV_take, bytesV_drop, ← bytesV_append, ← bytesV_append]
  congr 1
  unfold link
  rw [show (0 + 2 * 1 : Nat) = (two nx).length from rfl, List.take_left, ← List.drop_drop, List.drop_left, List.drop_replicate, List.append_assoc]
section
variable {F : List Assn} {z : Pw} {s : St} {mk : Option (Nat × St)} {w : World}
theorem putM_fresh {E : En} {s s' : St} {k : Nat} {b : Bs} {r : Res Unit} (h : s.kind E k = some 1) (hb : b.length = 256) (hp : putM E k b s r s') : r = .ok () ∧ s' = ⟨s.kinds, upd s.by_ k b⟩ := by
  unfold putM at hp
  rw [if_pos h, if_pos hb] at hp
  exact hp
theorem link_len (next : Nat) (b : Bs) : (link next b).length = 256 := by
  unfold link two
  simp only [List.length_append, List.length_cons, List.length_nil, List.length_replicate]
  have : (b.take 254).length ≤ 254 := by rw [List.length_take]; omega
  omega
theorem cput_spec {vb : Value} {nb : Nat} {b : Bs} (hs : Sat (pgr z s mk :: F) w) (hl : RdS F 1 vb nb (bytesV b)) (hb : b.length ≤ 1000000) :
    Ret Tryz.prog 52 [ptr z.p, vb] w (OutK (chainPut z.E b) z s mk F) := by
  obtain ⟨q, c, rfl, hc, hlen⟩ := hl.shape
  obtain rfl : nb = b.length := by simpa using hlen.symm
  have hpg := fun w => pages_spec (n := b.length) (w := w) (by omega)
  refine Ret.enter [(true, ptr z.p), (true, .slice q b.length c)] _ Tryz.func52 rfl Tryz.ntmps52 rfl ?_
  by_cases hbig : 16384 < b.length
  · refine zz ?_
    refine MC.ret rfl ?_
    exact .inr ⟨3, s, by decide, by unfold chainPut; rw [if_pos hbig]; exact ⟨rfl, rfl⟩, rfl, hs⟩
  · have hpn : pagesOf b.length ≤ 1000 := by unfold pagesOf; omega
    refine zz ?_
    refine zc rfl (hpg _) ?_
    rintro _ w ⟨rfl, rfl⟩
    refine zz ?_
    refine zc rfl (taken_spec hs hpn) ?_
    rintro _ w (⟨l, s1, vl, hm, hll, hnd, hk, rfl, hs⟩ | ⟨s1, hm, rfl, hs⟩)
    · obtain ⟨_, ql, cl, rfl, hcl⟩ := hs.sl_len
      refine zz ?_
      refine MC.loop (σ := Nat × St) (fun x => [(0, true, ptr z.p), (1, true, .slice q b.length c), (6, true, .slice ql l.length cl), (26, true, .slice ql l.length cl), (27, true, int ((l.length : Nat) : Int)), (28, true, int ((x.1 : Nat) : Int))])
        (fun x w => x.1 ≤ l.length ∧ x.2.kinds = s1.kinds ∧ (∀ r s', chainPuts z.E (l.drop x.1) (b.drop (254 * x.1)) x.2 r s' → chainPuts z.E l b s1 r s') ∧
          Sat (sl (.slice ql l.length cl) 3 1 l.length (bufV l) :: pgr z x.2 mk :: F) w) (fun x => l.length - x.1) (0, s1) zi ⟨Nat.zero_le _, rfl, fun r s' h => h, hs⟩ ?_
      clear hs
      rintro ⟨i, s2⟩ w ⟨hi, hks, hm2, hs⟩
      dsimp only [] at hi hks hm2 hs ⊢
      have hr0 := RdS.of_sl hs
      rcases Nat.lt_or_ge i l.length with hlt | hge
      · obtain ⟨lb, lo, rfl, hrl⟩ := hr0.at_ (by omega)
        have hyat : (bufV l)[((i : Nat) : Int).toNat * 1]? = some (int ((l[i] : Nat) : Int)) := by
          rw [Int.toNat_natCast, Nat.mul_one]; simp [bufV, hlt]
        refine zz ?_
        refine MC.la true (la_load1_rd hrl hs (j := ((i : Nat) : Int).toNat * 1) rfl hyat) rfl ?_
        refine zz ?_
        refine MC.cutAtS (σ := Nat) 1 (fun x => [(0, true, ptr z.p), (1, true, .slice q b.length c), (6, true, .slice (some ⟨lb, lo, none⟩) l.length cl), (26, true, .slice (some ⟨lb, lo, none⟩) l.length cl), (27, true, int ((l.length : Nat) : Int)), (28, true, int ((i : Nat) : Int)), (8, true, int ((i : Nat) : Int)), (9, true, int ((l[i] : Nat) : Int)), (10, true, int ((x : Nat) : Int))])
          (fun x w => x = (if h : i + 1 < l.length then l[i + 1] else 65535) ∧ Sat (sl (.slice (some ⟨lb, lo, none⟩) l.length cl) 3 1 l.length (bufV l) :: pgr z s2 mk :: F) w) rfl ?_ ?_
        rotate_left
        · by_cases hn : i + 1 < l.length
          · have hyat2 : (bufV l)[(((i : Nat) : Int) + 1).toNat * 1]? = some (int ((l[i + 1] : Nat) : Int)) := by
              rw [show (((i : Nat) : Int) + 1).toNat = i + 1 by omega, Nat.mul_one]; simp [bufV, hn]
            refine zz ?_
            refine MC.la true (la_load1_rd hrl hs (j := (((i : Nat) : Int) + 1).toNat * 1) rfl hyat2) rfl ?_
            refine zz ?_
            exact MC.meetS l[i + 1] zi ⟨by rw [dif_pos hn], hs⟩
          · refine zz ?_
            exact MC.meetS 65535 zi ⟨by rw [dif_neg hn], hs⟩
        clear hs
        rintro nx w ⟨hnx, hs⟩
        (try dsimp only [List.drop_succ_cons, List.drop_zero, List.take_succ_cons, List.take_zero, List.cons_append, List.nil_append])
        have hnb : nx ≤ 100000 := by
          rw [hnx]; split
          · exact (hk _ (List.getElem_mem _)).1
          · decide
        have hi254 : i * 254 ≤ b.length := by
          have : l.length = pagesOf b.length := hll
          unfold pagesOf at this
          omega
        refine zz ?_
        refine MC.does true (does_alloc hs) rfl ?_; rintro _ w ⟨ba, rfl, hs⟩
        refine zz ?_
        refine MC.does true (does_store1 hs rfl rfl rfl (by rw [reps_len]; decide)) rfl ?_; intro _ w hs
        refine zz ?_
        refine MC.does true (does_store1 hs rfl rfl rfl (by rw [List.length_set, reps_len]; decide)) rfl ?_; intro _ w hs
        rw [page_start] at hs
        refine zz ?_
        refine MC.draw hs [0, 1, 2, 3, 4, 5] (by rfl) ?_; intro w hs
        refine MC.pure (f := true) (po_sliceArr_lo rfl rfl (by decide)) rfl ?_
        refine zd ?_
        refine MC.pure (f := true) (po_slice_lo (a := i * 254) rfl rfl hi254) rfl ?_
        have hsub := hl.subLo (a := i * 254) hi254
        refine MC.doesK true (does_copy hs rfl rfl (hsub.src2 (bytesV_one _)) ?_) rfl rfl rfl ?_
        · rw [bytesV_length, start_len]
          show 2 + min (b.length - i * 254) 254 * 1 ≤ 256
          have := Nat.min_le_right (b.length - i * 254) 254
          omega
        rintro _ w ⟨rfl, hs⟩
        refine zh ?_
        refine zd ?_
        refine zz ?_
        have e5 : splice (bytesV (two nx ++ List.replicate 254 0)) (0 + 2 * 1) (List.take (min (List.length b - i * 254) (256 - 2) * 1) (bytesV (List.drop (i * 254) b))) = bytesV (link nx (b.drop (i * 254))) := by
          rw [← List.length_drop, show min (List.drop (i * 254) b).length (256 - 2) * 1 = min (List.drop (i * 254) b).length (256 - 2) from Nat.mul_one _]
          exact page_done nx _
        rw [e5] at hs
        have hs := hs.pickF 3 [2, 0, 1] rfl rfl
        have hki : s2.kind z.E l[i] = some 1 := by
          have := (hk l[i] (List.getElem_mem hlt)).2
          unfold St.kind at this ⊢
          rw [hks]; exact this
        have hrd : RdS (blk ba (bytesV (link nx (b.drop (i * 254)))) 184 :: sl (.slice (some ⟨lb, lo, none⟩) l.length cl) 3 1 l.length (bufV l) :: F) 1 (.slice (some ⟨ba, 0, none⟩) 256 256) 256 (bytesV (link nx (b.drop (i * 254)))) :=
          ⟨_, _, rfl, Nat.le_refl _, by rw [bytesV_length, link_len], fun _ => ⟨ba, 0, rfl, Rd.of_at⟩⟩
        refine MC.pure (f := true) (po_sliceArr rfl) rfl ?_
        refine zc rfl (pput_spec hs hrd (hk _ (List.getElem_mem hlt)).1) ?_
        have hnext : ∀ r s3, putM z.E l[i] (link nx (b.drop (i * 254))) s2 r s3 → r = .ok () ∧ s3.kinds = s1.kinds ∧ ∀ r' s', chainPuts z.E (l.drop (i + 1)) (b.drop (254 * (i + 1))) s3 r' s' → chainPuts z.E l b s1 r' s' := fun r s3 h => by
          obtain ⟨rfl, e⟩ := putM_fresh hki (link_len _ _) h
          refine ⟨rfl, by rw [e]; exact hks, fun r' s' h' => hm2 _ _ ?_⟩
          rw [Nat.mul_comm] at h
          rw [List.drop_eq_getElem_cons hlt]
          by_cases hn : i + 1 < l.length
          · rw [List.drop_eq_getElem_cons hn] at h' ⊢
            rw [dif_pos hn] at hnx
            rw [hnx] at h
            refine .inr ⟨(), s3, h, ?_⟩
            rw [List.drop_drop, show 254 * i + 254 = 254 * (i + 1) by omega]
            exact h'
          · rw [List.drop_of_length_le (by omega)] at h' ⊢
            rw [dif_neg hn] at hnx
            rw [hnx] at h
            obtain ⟨rfl, rfl⟩ := h'
            exact h
        rintro _ w (⟨_, s3, hp, rfl, hs⟩ | ⟨e, s3, _, hp, rfl, hs⟩)
        · obtain ⟨_, h1, h2⟩ := hnext _ _ hp
          refine zz ?_
          exact MC.again (i + 1, s3) zi ⟨hlt, h1, h2, (hs.pickF 3 [1, 2, 0] rfl rfl).tail⟩ (by show l.length - (i + 1) < l.length - i; omega)
        · cases (hnext _ _ hp).1
      · obtain rfl : i = l.length := by omega
        have hl0 : 0 < l.length := by rw [hll]; exact pagesOf_pos _
        obtain ⟨lb, lo, rfl, hrl⟩ := hr0.at_ (by omega)
        have hyat : (bufV l)[0]? = some (int ((l[0] : Nat) : Int)) := by simp [bufV, hl0]
        refine zz ?_
        refine MC.la true (la_load1_rd hrl hs (j := 0) rfl hyat) rfl ?_
        refine zz ?_
        refine MC.ret rfl ?_
        refine .inl ⟨l.headD 0, s2, ?_, ?_, hs.tail⟩
        · unfold chainPut; rw [if_neg hbig]
          refine .inr ⟨l, s1, hm, .inr ⟨(), s2, hm2 _ _ ?_, rfl, rfl⟩⟩
          rw [List.drop_length]; exact ⟨rfl, rfl⟩
        · cases l with
          | nil => cases hl0
          | cons a l => rfl
    · refine zz ?_
      refine MC.ret rfl ?_
      exact .inr ⟨190, s1, by decide, by unfold chainPut; rw [if_neg hbig]; exact .inl ⟨_, hm, rfl⟩, rfl, hs⟩
end
end Go.Proofs.YtkccjgllanpebaaGreatDoor

namespace Go.Sl
theorem All.perm {l l' : List Pt} (p : l.Perm l') : ∀ {h : Hp}, All l h → All l' h := by
  induction p with
  | nil => intro h a; exact a
  | cons x _ ih => intro h a; exact a.cons_imp fun _ => ih
  | swap x y l => intro h a; exact a.swap
  | trans _ _ ih1 ih2 => intro h a; exact ih2 (ih1 a)
theorem Sat.perm {l l' : List Assn} {w : World} (p : l.Perm l') (h : Sat l w) : Sat l' w := All.perm (p.map _) h
end Go.Sl
namespace Go.Proofs.YtkccjgllanpebaaGreatDoor
open Go Go.Sl Go.Tr Go.Kv
attribute [local irreducible] LooksAt

theorem strsV_one (l : List Bs) : ∀ u ∈ strsV l, u.oneCell' = true := fun u hu => by
  obtain ⟨i, _, rfl⟩ := List.mem_map.1 hu; rfl
theorem sclone_spec {F : List Assn} {vk : Value} {ks : List Bs} {w : World} (hs : Sat F w) (hl : RdS F 1 vk ks.length (strsV ks)) (hn : ks.length ≤ 100000) :
    Ret Tryz.prog 70 [vk] w fun v w' => Sat (sl v 9 1 ks.length (strsV ks) :: F) w' := by
  obtain ⟨q, c, rfl, hc, hlen⟩ := hl.shape
  cases q with
  | none =>
    have h0 : ks.length = 0 := by
      rcases Nat.eq_zero_or_pos ks.length with h | h
      · exact h
      · obtain ⟨b, o, h', _⟩ := hl.at_ (by omega); cases h'
    have hl0 : ks = [] := List.eq_nil_of_length_eq_zero h0
    subst hl0
    refine Ret.enter [(true, .slice none 0 c)] _ Tryz.func70 rfl Tryz.ntmps70 rfl ?_
    refine zz ?_
    refine MC.pure (f := true) (po_bin rfl rfl br_slice_nil) rfl ?_
    refine zz ?_
    refine MC.ret rfl ?_
    exact hs.sl_nil _ _
  | some a =>
    refine Ret.enter [(true, .slice (some a) ks.length c)] _ Tryz.func70 rfl Tryz.ntmps70 rfl ?_
    refine zz ?_
    refine MC.pure (f := true) (po_bin rfl rfl br_slice_nil) rfl ?_
    refine zz ?_
    refine MC.does true (does_buildSlice0 hs) rfl ?_
    rintro _ w ⟨b1, rfl, hs⟩
    have hs := Sat.sl_mk (xs := []) (spare := []) (n := 0) (c := 0) (size := 1) hs (Nat.le_refl _) rfl rfl
    refine zz ?_
    refine MC.does true (does_append hs rfl rfl (RdS.src hl (strsV_one _)) (by omega) (by omega)) rfl ?_
    intro vn w hs
    rw [Nat.zero_add, List.nil_append] at hs
    refine zz ?_
    refine MC.ret rfl ?_
    exact hs
theorem flat_snoc (rows : List (List Value)) (r : List Value) : (rows ++ [r]).flatten = rows.flatten ++ r := by simp
theorem VL.snoc {F : List Assn} {l : List V} {rows : List (List Value)} {v : V} {r : List Value} (h : VL F l rows) (hv : VR F v r) : VL F (l ++ [v]) (rows ++ [r]) := by
  refine ⟨by rw [List.length_append, List.length_append, h.len]; rfl, fun i x y hx hy => ?_⟩
  have hl := h.len
  rcases Nat.lt_or_ge i l.length with hi | hi
  · rw [List.getElem?_append_left hi] at hx
    rw [List.getElem?_append_left (by omega)] at hy
    exact h.row i x y hx hy
  · rw [List.getElem?_append_right hi] at hx
    rw [List.getElem?_append_right (by omega)] at hy
    have e : i - l.length = 0 := by
      rcases Nat.eq_zero_or_pos (i - l.length) with h | h
      · exact h
      · rw [List.getElem?_eq_none (by simp; omega)] at hx; cases hx
    rw [e] at hx
    rw [show i - rows.length = 0 by omega] at hy
    simp at hx hy
    subst hx; subst hy
    exact hv
theorem VL.nil (F : List Assn) : VL F [] [] := ⟨rfl, fun i v r h => by simp at h⟩
instance suf_app (G F : List Assn) : Suf (G ++ F) F := ⟨fun w h => by
  induction G with
  | nil => exact h
  | cons a G ih => exact ih h.tail⟩
theorem suf_left (G F : List Assn) : Suf (G ++ F) G := ⟨fun w h => by
  exact (suf_app F G).out w (Sat.perm List.perm_append_comm h)⟩
set_option maxHeartbeats 4000000 in
theorem copy_spec : ∀ (v : V) {F : List Assn} {w : World} {r : List Value} (hs : Sat F w) (hv : VR F v r) (hz : sizeV v ≤ 1000),
    Ret Tryz.prog 32 [.agg r.toArray] w fun u w' => ∃ (r' : List Value) (G : List Assn), u = .agg r'.toArray ∧ VR G v r' ∧ Sat (G ++ F) w' := by
  refine V.ind ?_
  intro k m e t l ks ih F w r hs hv hz
  obtain ⟨ql, qk, cl, ck, rows, rfl, hcl, hck, hl, hvl, hk, hfit⟩ := hv.open_
  have hll := sizeL_len l
  obtain ⟨z2, z3, z4⟩ := sizeV_sub (k := k) (m := m) (e := e) (t := t) (l := l) (ks := ks)
  refine Ret.enter [(true, .agg #[int k, int m, int e, str t, .slice ql l.length cl, .slice qk ks.length ck])] _ Tryz.func32 rfl Tryz.ntmps32 rfl ?_
  refine zz ?_
  refine MC.does true (does_box hs rfl rfl) rfl ?_; rintro _ w ⟨b1, rfl, hs⟩
  refine zz ?_
  refine MC.does true (does_alloc hs) rfl ?_; rintro _ w ⟨b2, rfl, hs⟩
  refine zz ?_
  refine MC.cutAtS (σ := Nat) 1 (fun b3 => [(1, true, ptr b1), (2, true, ptr b2), (3, true, ptr b3)]) (fun b3 w => ∃ vkc, Sat (sl vkc 9 1 ks.length (strsV ks) :: blk b3 [int k, int m, int e, str t, .slice none 0 0, vkc] 32 :: blk b2 [int 0, int 0, int 0, str [], .slice none 0 0, .slice none 0 0] 32 :: blk b1 [int k, int m, int e, str t, .slice ql l.length cl, .slice qk ks.length ck] 32 :: F) w) rfl ?_ ?_
  rotate_left
  · (try dsimp only [List.drop_succ_cons, List.drop_zero, List.take_succ_cons, List.take_zero, List.cons_append, List.nil_append])
    refine MC.draw hs [0, 1, 2, 3, 4, 5, 6, 7, 8, 9, 10, 11] (by rfl) ?_; intro w hs
    refine zd ?_
    refine MC.laD true (la_loadV hs rfl (vs := [int m, int e]) rfl rfl rfl) rfl ?_
    refine zd ?_
    refine MC.fork 10 [8, 9, 11] rfl rfl (does_call rfl (sclone_spec hs hk.up (by omega))) (does_alloc hs) ?_ ?_
    · intro vkc w hs
      refine zh ?_
      obtain ⟨_, qk2, ck2, rfl, _⟩ := hs.sl_len
      refine zd ?_
      refine MC.pure (f := true) (po_build (ls := [(0, [int k]), (1, [int m, int e]), (2, [str t]), (4, [.slice qk2 ks.length ck2])]) (out := [int k, int m, int e, str t, .slice none 0 0, .slice qk2 ks.length ck2]) rfl rfl ⟨⟨_, rfl, by simp⟩, ⟨_, rfl, by simp⟩, ⟨_, rfl, by simp⟩, ⟨_, rfl, by simp⟩, trivial⟩ rfl) rfl ?_
      refine zd ?_
      refine MC.doesK true (does_alloc hs) rfl rfl rfl ?_; rintro _ w ⟨b3, rfl, hs⟩; refine zh ?_
      refine zd ?_
      refine MC.doesK true (does_store (vs := [int k, int m, int e, str t, .slice none 0 0, .slice qk2 ks.length ck2]) hs rfl rfl rfl rfl (all1 rfl) (by simp)) rfl rfl rfl ?_; intro _ w hs; rw [splice_all (by rfl)] at hs; refine zh ?_
      refine zd ?_
      exact MC.meetS b3 zi ⟨_, hs.pickF 4 [1, 0, 2, 3] rfl rfl⟩
    · rintro _ w ⟨b3, rfl, hs⟩
      refine zh ?_
      refine zd ?_
      refine MC.doesK true (does_call rfl (sclone_spec hs hk.up (by omega))) rfl rfl rfl ?_
      intro vkc w hs
      refine zh ?_
      obtain ⟨_, qk2, ck2, rfl, _⟩ := hs.sl_len
      refine zd ?_
      refine MC.pure (f := true) (po_build (ls := [(0, [int k]), (1, [int m, int e]), (2, [str t]), (4, [.slice qk2 ks.length ck2])]) (out := [int k, int m, int e, str t, .slice none 0 0, .slice qk2 ks.length ck2]) rfl rfl ⟨⟨_, rfl, by simp⟩, ⟨_, rfl, by simp⟩, ⟨_, rfl, by simp⟩, ⟨_, rfl, by simp⟩, trivial⟩ rfl) rfl ?_
      refine zd ?_
      refine MC.doesK true (does_store (vs := [int k, int m, int e, str t, .slice none 0 0, .slice qk2 ks.length ck2]) hs rfl rfl rfl rfl (all1 rfl) (by simp)) rfl rfl rfl ?_; intro _ w hs; rw [splice_all (by rfl)] at hs; refine zh ?_
      refine zd ?_
      exact MC.meetS b3 zi ⟨_, hs⟩
  · clear hs
    rintro b3 w ⟨vkc, hs⟩
    dsimp only [List.drop] at hs ⊢
    have hs : Sat (blk b3 [int k, int m, int e, str t, .slice none 0 0, vkc] 32 :: blk b2 [int 0, int 0, int 0, str [], .slice none 0 0, .slice none 0 0] 32 :: sl vkc 9 1 ks.length (strsV ks) :: blk b1 [int k, int m, int e, str t, .slice ql l.length cl, .slice qk ks.length ck] 32 :: F) w := hs.pickF 4 [1, 2, 0, 3] rfl rfl
    refine zz ?_
    have hs := (hs.pickF 4 [0, 1, 2] rfl rfl).sl_nil 32 6
    refine MC.cutAtS (σ := Value) 2 (fun _ => [(2, true, ptr b2), (3, true, ptr b3)]) (fun vx w => ∃ (H : List Assn) (rows' : List (List Value)), VL H l rows' ∧ Sat (sl vx 32 6 l.length rows'.flatten :: blk b3 [int k, int m, int e, str t, vx, vkc] 32 :: blk b2 [int 0, int 0, int 0, str [], .slice none 0 0, .slice none 0 0] 32 :: sl vkc 9 1 ks.length (strsV ks) :: (H ++ F)) w) rfl ?_ ?_
    rotate_left
    · (try dsimp only [List.drop_succ_cons, List.drop_zero, List.take_succ_cons, List.take_zero, List.cons_append, List.nil_append])
      refine MC.loop (σ := Nat) (fun i => [(2, true, ptr b2), (3, true, ptr b3), (17, true, .slice ql l.length cl), (18, true, int ((l.length : Nat) : Int)), (19, true, int ((i : Nat) : Int))])
        (fun i w => i ≤ l.length ∧ ∃ (H : List Assn) (rows' : List (List Value)) (vx : Value), VL H (l.take i) rows' ∧ Sat (sl vx 32 6 i rows'.flatten :: blk b3 [int k, int m, int e, str t, vx, vkc] 32 :: blk b2 [int 0, int 0, int 0, str [], .slice none 0 0, .slice none 0 0] 32 :: sl vkc 9 1 ks.length (strsV ks) :: (H ++ F)) w) (fun i => l.length - i) 0 zi ⟨Nat.zero_le _, [], [], _, VL.nil _, hs⟩ ?_
      clear hs
      rintro i w ⟨hi, H, rows', vx, hH, hq⟩
      dsimp only [] at hi ⊢
      obtain ⟨_, qx, cx, rfl, hcx⟩ := hq.sl_len
      rcases Nat.lt_or_ge i l.length with hlt | hge
      · obtain ⟨bl, ol, rfl, hrl⟩ := hl.at_ (by omega)
        have hri : i < rows.length := by rw [hvl.len]; exact hlt
        have hvr := hvl.row i l[i] rows[i] (List.getElem?_eq_getElem hlt) (List.getElem?_eq_getElem hri)
        have hr6 := hvr.len
        have hat := flat_take hvl.six hri
        have hmem := List.getElem_mem hlt
        have hzi := sizeL_mem hmem
        have hih := fun {F : List Assn} {w : World} {r : List Value} => @ih l[i] hmem F w r
        have htk : l.take (i + 1) = l.take i ++ [l[i]] := List.take_succ_eq_append_getElem hlt
        obtain ⟨x, hx⟩ : ∃ x, l[i] = x := ⟨_, rfl⟩
        obtain ⟨r, hr⟩ : ∃ r, rows[i] = r := ⟨_, rfl⟩
        rw [hx] at hvr hih hzi htk
        rw [hr] at hvr hr6 hat
        obtain ⟨k1, m1, e1, t1, l1, ks1⟩ := x
        obtain ⟨ql1, qk1, cl1, ck1, rws, rfl, -⟩ := hvr.open_
        have hs := hq
        refine zz ?_
        refine MC.la true (la_loadV_rd hrl hs (j := ((i : Nat) : Int).toNat * 6) (vs := [int k1, int m1, int e1, str t1, .slice ql1 l1.length cl1, .slice qk1 ks1.length ck1]) rfl hat hr6 rfl) rfl ?_
        refine MC.does true (does_alloc hs) rfl ?_; rintro _ w ⟨b5, rfl, hs⟩
        refine zz ?_
        refine MC.does true (does_store (vs := [int k1, int m1, int e1, str t1, .slice ql1 l1.length cl1, .slice qk1 ks1.length ck1]) hs rfl rfl rfl rfl (all1 rfl) (by simp)) rfl ?_; intro _ w hs; rw [splice_all (by rfl)] at hs
        refine zz ?_
        refine MC.draw hs [0, 1, 2, 3, 4, 5, 6, 7] (by rfl) ?_; intro w hs
        refine zd ?_
        refine MC.laD true (la_loadV hs rfl (vs := [int k1, int m1, int e1, str t1, .slice ql1 l1.length cl1, .slice qk1 ks1.length ck1]) rfl rfl rfl) rfl ?_
        refine zd ?_
        refine MC.doesK true (does_call rfl (hih hs hvr.up (by omega))) rfl rfl rfl ?_
        rintro _ w ⟨r', G, rfl, hG, hs⟩
        have hG0 := hG
        obtain ⟨ql2, qk2, cl2, ck2, rws2, rfl, -⟩ := hG.open_
        have hs : Sat (blk b5 [int k1, int m1, int e1, str t1, .slice ql1 l1.length cl1, .slice qk1 ks1.length ck1] 32 :: sl (.slice qx i cx) 32 6 i rows'.flatten :: blk b3 [int k, int m, int e, str t, .slice qx i cx, vkc] 32 :: blk b2 [int 0, int 0, int 0, str [], .slice none 0 0, .slice none 0 0] 32 :: sl vkc 9 1 ks.length (strsV ks) :: ((G ++ H) ++ F)) w := by
          refine Sat.perm ?_ hs
          rw [List.append_assoc]
          exact List.perm_append_comm_assoc G [_, _, _, _, _] (H ++ F)
        refine zh ?_
        refine zd ?_
        refine MC.doesK true (does_buildSlice (vs := [(0, .agg #[int k1, int m1, int e1, str t1, .slice ql2 l1.length cl2, .slice qk2 ks1.length ck2])]) (ls := [(0, [int k1, int m1, int e1, str t1, .slice ql2 l1.length cl2, .slice qk2 ks1.length ck2])]) (out := [int k1, int m1, int e1, str t1, .slice ql2 l1.length cl2, .slice qk2 ks1.length ck2]) hs rfl rfl ⟨⟨_, rfl, by simp [rep]⟩, trivial⟩ rfl rfl) rfl rfl rfl ?_
        rintro _ w ⟨b8, rfl, hs⟩; refine zh ?_
        refine zd ?_
        have hs := Sat.sl_mk (size := 6) (n := 1) (c := 1) (xs := [int k1, int m1, int e1, str t1, .slice ql2 l1.length cl2, .slice qk2 ks1.length ck2]) (spare := []) hs (Nat.le_refl _) rfl rfl
        have hs := hs.pickF 6 [2, 0, 1, 3, 4, 5] rfl rfl
        have hr8 := RdS.of_sl hs.tail
        refine MC.doesK true (does_append hs rfl rfl (RdS.src hr8 (fun u hu => by simp only [List.mem_cons, List.not_mem_nil, or_false] at hu; rcases hu with rfl | rfl | rfl | rfl | rfl | rfl <;> rfl)) (by omega) (by omega)) rfl rfl rfl ?_
        intro vn w hs; refine zh ?_
        obtain ⟨_, qn, cn, rfl, _⟩ := hs.sl_len
        refine zd ?_
        have hs := hs.pickF 6 [3, 0, 4, 5] rfl rfl
        refine MC.doesD true (does_store1 hs rfl rfl rfl (by simp)) rfl rfl rfl rfl ?_; intro _ w hs
        refine zz ?_
        have hs := hs.pickF 2 [1, 0] rfl rfl
        have hN : VL (G ++ H) (l.take (i + 1)) (rows' ++ [[int k1, int m1, int e1, str t1, .slice ql2 l1.length cl2, .slice qk2 ks1.length ck2]]) := by rw [htk]; exact VL.snoc (@VL.up _ _ (suf_app G H) _ _ hH) (@VR.up _ _ (suf_left G H) _ _ hG0)
        rw [← flat_snoc] at hs
        exact MC.again (i + 1) zi ⟨hlt, G ++ H, _, _, hN, hs⟩ (by show l.length - (i + 1) < l.length - i; omega)
      · obtain rfl : i = l.length := by omega
        rw [List.take_length] at hH
        refine zz ?_
        exact MC.meetS _ zi ⟨H, rows', hH, hq⟩
    · clear hs
      rintro vx w ⟨H, rows', hH, hs⟩
      dsimp only [List.drop] at hs ⊢
      obtain ⟨hrl', qx, cx, rfl, hcx⟩ := hs.sl_len
      obtain ⟨_, qk2, ck2, rfl, hck2⟩ := (hs.pickF 4 [3] rfl rfl).sl_len
      have hs := (hs.pickF 4 [2, 0, 1, 3] rfl rfl)
      refine zz ?_
      refine MC.la true (la_loadV (hs.pickF 4 [2, 0, 1, 3] rfl rfl) rfl (vs := [int k, int m, int e, str t, .slice qx l.length cx, .slice qk2 ks.length ck2]) rfl rfl rfl) rfl ?_
      refine MC.does true (does_store (vs := [int k, int m, int e, str t, .slice qx l.length cx, .slice qk2 ks.length ck2]) hs rfl rfl rfl rfl (all1 rfl) (by simp)) rfl ?_; intro _ w hs; rw [splice_all (by rfl)] at hs
      refine zz ?_
      have h2 := hs.pickF 4 [1, 3] rfl rfl
      have h3 := (suf_left (sl (.slice qx l.length cx) 32 6 l.length rows'.flatten :: sl (.slice qk2 ks.length ck2) 9 1 ks.length (strsV ks) :: H) F).out w h2
      have hk2 := RdS.of_sl h3.tail
      exact MC.retC rfl hs rfl (vs := [int k, int m, int e, str t, .slice qx l.length cx, .slice qk2 ks.length ck2]) (by rfl) (by rfl) (by rfl) ⟨_, _, rfl, VR.mk (rows := rows') (RdS.of_sl h3) (@VL.six H _ _ hH) hH.len (fun i v r hv hr => VR.up (hH.row i v r hv hr)) hk2.up hfit, h2⟩
end Go.Proofs.YtkccjgllanpebaaGreatDoor

namespace Go.Proofs.YtkccjgllanpebaaGreatDoor
open Go Go.Sl Go.Tr
attribute [local irreducible] LooksAt
structure Rx where
  er : Option Int
  head : Nat
  l : List Nat
  out : Bs
  b : Bs
  vb : Value
abbrev Rx.next (x : Rx) : Nat := (x.b.getD 0 0).toNat * 256 + (x.b.getD 1 0).toNat
abbrev Rx.n (x : Rx) (size : Nat) : Nat := min 254 (size - x.out.length)
structure Ch where
  z : Pw
  s : St
  mrk : Option (Nat × St)
  size : Nat
  head0 : Nat
  bsz : Nat
  bp : Nat
  bh : Nat
  b9 : Nat
  b10 : Nat
def Ch.go (C : Ch) (r : Res (List Nat × Bs)) : Prop := chainGo C.z.E C.size (pagesOf C.size) C.head0 [] [] C.s r C.s
def Ch.rest (C : Ch) (m head : Nat) (l : List Nat) (out : Bs) : Prop := ∀ r, chainGo C.z.E C.size m head l out C.s r C.s → C.go r
def Ch.yok (C : Ch) (x : Rx) : Prop := match x.er with
  | none => getM C.z.E x.head C.s (.ok x.b) C.s ∧ x.b.length = 256 ∧ (x.l.length + 1 ≤ pagesOf C.size ∧ x.out.length ≤ C.size) ∧ C.rest (pagesOf C.size - x.l.length) x.head x.l x.out
  | some e => x.b = [] ∧ x.vb = .slice none 0 0 ∧ (0 < e ∧ e ≤ 1000) ∧ C.go (.err e)
def Ch.nok (C : Ch) (x : Rx) : Prop := x.er = none ∧ C.yok x ∧ decide (x.next = 65535) = decide (x.l.length + 1 = pagesOf C.size) ∧ (x.b.drop (2 + x.n C.size)).any (· != 0) = false
def Bd (b9 b10 : Nat) (l : List Nat) (out : Bs) : Assn := Sl.ex fun vl : Value => Sl.ex fun vo : Value => star [blk b9 [vl] 67, sl vl 3 1 l.length (bufV l), blk b10 [vo] 33, sl vo 5 1 out.length (bytesV out)]
abbrev Ch.lb (C : Ch) : List Value := [ptr C.bsz, ptr C.bp, ptr C.bh]
abbrev Ch.base (C : Ch) (head : Nat) (l : List Nat) (out : Bs) (R : List Assn) : List Assn := blk C.bsz [int ((C.size : Nat) : Int)] 3 :: blk C.bp [ptr C.z.p] 23 :: blk C.bh [int ((head : Nat) : Int)] 3 :: pgr C.z C.s C.mrk :: Bd C.b9 C.b10 l out :: R
def Rx.ar (x : Rx) : Value × Value := (int (match x.er with
  | none => ((x.head : Nat) : Int)
  | some e => 0 - e), x.vb)
def Ch.Jy (C : Ch) (R : List Assn) (x : Rx) : List Assn := fact (C.yok x) :: sl x.vb 5 1 x.b.length (bytesV x.b) :: C.base x.head x.l x.out R
def Ch.Jn (C : Ch) (R : List Assn) (x : Rx) : List Assn := fact (C.nok x) :: sl x.vb 5 1 x.b.length (bytesV x.b) :: C.base x.head (x.l ++ [x.head]) (x.out ++ (x.b.drop 2).take (x.n C.size)) R
def Ch.JN (C : Ch) (R : List Assn) : List Assn := [Sl.ex fun y : {y : List Nat × Bs // C.go (.ok y)} => star [Bd C.b9 C.b10 y.1.1 y.1.2, pgr C.z C.s C.mrk]] ++ R
theorem Ch.step {C : Ch} {x : Rx} (h : C.nok x) (r : Res (List Nat × Bs)) (hr : chainGo C.z.E C.size (pagesOf C.size - (x.l.length + 1)) x.next (x.l ++ [x.head]) (x.out ++ (x.b.drop 2).take (x.n C.size)) C.s r C.s) : C.go r := by
  obtain ⟨h0, h1, h2, h3⟩ := h
  unfold Ch.yok at h1
  rw [h0] at h1
  obtain ⟨g1, g2, g3, g4⟩ := h1
  refine g4 r ?_
  rw [show pagesOf C.size - x.l.length = (pagesOf C.size - (x.l.length + 1)) + 1 by omega]
  unfold chainGo
  refine .inr ⟨x.b, C.s, g1, ?_⟩
  dsimp only []
  rw [if_neg (by rw [h2]; exact fun h => h rfl), if_neg (by rw [h3]; decide)]
  exact hr
theorem pages1_spec {C : Ch} {R : List Assn} (hs16 : C.size ≤ 16384) (hh : C.head0 ≤ 100000) (pre : List Assn) (Jx : World → Prop) :
    Iter2 Tryz.prog 158 C.lb (C.base C.head0 [] [] R) (C.JN R) Rx.ar (C.Jy R) (C.Jn R) pre Jx := by
  intro L w hround h0
  have hs := h0.app_swap
  dsimp only [List.cons_append] at hs
  have hpb : pagesOf C.size ≤ 1000 := by unfold pagesOf; omega
  have hpg := fun w => pages_spec (n := C.size) (w := w) (by omega)
  refine Ret.enter [(true, .func (.yield L) #[] #[]), (true, ptr C.bsz), (true, ptr C.bp), (true, ptr C.bh)] _ Tryz.func158 rfl Tryz.ntmps158 rfl ?_
  refine zz ?_
  refine zc rfl (hpg _) ?_
  rintro _ w ⟨rfl, rfl⟩
  refine zz ?_
  refine MC.loop (σ := Nat × Nat × List Nat × Bs) (fun x => [(0, true, .func (.yield L) #[] #[]), (1, true, ptr C.bsz), (2, true, ptr C.bp), (3, true, ptr C.bh), (8, true, int ((pagesOf C.size : Nat) : Int)), (9, true, int ((x.1 : Nat) : Int))])
    (fun x w => x.1 ≤ pagesOf C.size ∧ x.2.2.1.length = x.1 ∧ (x.2.1 ≤ 100000 ∧ x.2.2.2.length ≤ C.size) ∧ C.rest (pagesOf C.size - x.1) x.2.1 x.2.2.1 x.2.2.2 ∧ Sat (C.base x.2.1 x.2.2.1 x.2.2.2 (R ++ pre)) w) (fun x => pagesOf C.size - x.1) (0, C.head0, [], []) zi ⟨Nat.zero_le _, rfl, ⟨hh, Nat.zero_le _⟩, fun r h => h, hs⟩ ?_
  clear hs
  rintro ⟨i, head, l, out⟩ w ⟨hi, hl, ⟨hhd, hol⟩, hr, hs⟩
  dsimp only [] at hi hl hhd hol hr hs ⊢
  rcases Nat.lt_or_ge i (pagesOf C.size) with hlt | hge
  · have hget := pget_spec (hs.pickF 4 [3, 0, 1, 2] rfl rfl) hhd
    refine zz ?_
    refine zc rfl (hget) ?_
    rintro _ w (⟨b, s', hm, vb, rfl, hbl, hs⟩ | ⟨e, s', he, hm, vb, rfl, hs⟩)
    · obtain rfl : s' = C.s := hm.1
      have hs := hs.pickF 5 [0, 2, 3, 4, 1] rfl rfl
      obtain ⟨_, q, c, rfl, hc⟩ := hs.sl_len
      rw [hbl] at hc
      obtain ⟨x, hx⟩ : ∃ x : Rx, x = ⟨none, head, l, out, b, .slice q b.length c⟩ := ⟨_, rfl⟩
      have hyok : C.yok x := by
        subst hx
        exact ⟨hm, hbl, ⟨by show l.length + 1 ≤ _; omega, hol⟩, by show C.rest (pagesOf C.size - l.length) head l out; rw [hl]; exact hr⟩
      have hjy : Sat (pre ++ C.Jy R x) w := by
        refine Sat.app_swap ?_
        subst hx
        exact Sat.fact_iff.2 ⟨hyok, hs⟩
      refine zz ?_
      have hy := hround x w hjy
      have hax : x.ar = (int ((head : Nat) : Int), .slice q b.length c) := by subst hx; rfl
      rw [hax] at hy
      refine MC.does true (does_yield rfl rfl hy) rfl ?_
      rintro _ w (⟨rfl, hs⟩ | ⟨rfl, hs⟩)
      · have hs := hs.app_swap
        obtain ⟨hnok, hs⟩ := Sat.fact_iff.1 hs
        have hst := C.step hnok
        subst hx
        dsimp only [] at hs hst
        have hs : Sat (sl (.slice q b.length c) 5 1 b.length (bytesV b) :: C.base head (l ++ [head]) (out ++ (b.drop 2).take (min 254 (C.size - out.length))) (R ++ pre)) w := hs
        have hs := hs.pickF 6 [1, 2, 3, 4, 5, 0] rfl rfl
        have hr0 := RdS.of_sl hs.tail.tail.tail.tail.tail
        obtain ⟨lb, lo, rfl, hrl⟩ := hr0.at_ (by omega)
        have hb0 := Go.Sl.bytesV_get b 0 (by omega)
        have hb1 := Go.Sl.bytesV_get b 1 (by omega)
        have hd0 := byteAt_bd b 0
        have hd1 := byteAt_bd b 1
        refine zz ?_
        refine MC.draw hs [0, 1, 2, 3, 4, 5, 6, 7, 8, 9, 10] (by rfl) ?_; intro w hs
        refine zd ?_
        refine MC.laD true (la_load1_rd hrl hs (j := Int.toNat 0 * 1) rfl hb0) rfl ?_
        refine zd ?_
        refine MC.laD true (la_load1_rd hrl hs (j := Int.toNat 1 * 1) rfl hb1) rfl ?_
        refine zd ?_
        refine MC.pure (f := true) (po_bin rfl rfl (br_orS' 8 (byteAt b 0).toNat hd1.1 (by show byteAt b 1 < 256; omega) (by show byteAt b 0 * 256 = ((byteAt b 0).toNat : Int) * 256; omega) (by simp [IntKind.max, IntKind.signed, IntKind.bits]; omega))) rfl ?_
        refine zd ?_
        refine MC.doesK true (does_store1 hs rfl rfl rfl (by first | decide | (simp; done) | (simp; omega))) rfl rfl rfl ?_; intro _ w hs; refine zh ?_
        refine zd ?_
        refine zz ?_
        have en : byteAt b 0 * 256 + byteAt b 1 = (((b.getD 0 0).toNat * 256 + (b.getD 1 0).toNat : Nat) : Int) := by
          rw [List.getD_eq_getElem?_getD, List.getD_eq_getElem?_getD, Int.natCast_add, Int.natCast_mul]
          rfl
        have ex2 : (b.getD 0 0).toNat * 256 + (b.getD 1 0).toNat ≤ 100000 := by
          have h1 := (b.getD 0 0).toNat_lt
          have h2 := (b.getD 1 0).toNat_lt
          omega
        rw [en] at hs
        exact MC.again (i + 1, (b.getD 0 0).toNat * 256 + (b.getD 1 0).toNat, l ++ [head], out ++ (b.drop 2).take (min 254 (C.size - out.length))) zi ⟨hlt, by simp [hl], ⟨ex2, by show (out ++ _).length ≤ _; rw [List.length_append, List.length_take]; omega⟩, fun r h => hst r (by rw [← hl] at h; exact h), (hs.pickF 6 [5, 0, 1, 2, 3, 4] rfl rfl).tail⟩ (by show pagesOf C.size - (i + 1) < pagesOf C.size - i; omega)
      · refine zz ?_
        refine MC.ret rfl ?_
        exact .inr hs
    · obtain rfl : s' = C.s := hm.1
      have hs := hs.pickF 4 [1, 2, 3, 0] rfl rfl
      have hebd : 0 < e ∧ e ≤ 1000 := by
        obtain ⟨_, h⟩ := hm
        split at h
        · cases h
        · split at h
          · rcases h with h | ⟨_, h⟩
            · cases h
            · cases h; decide
          · cases h; decide
      obtain ⟨x, hx⟩ : ∃ x : Rx, x = ⟨some e, head, l, out, [], .slice none 0 0⟩ := ⟨_, rfl⟩
      have hgo : C.go (.err e) := by
        refine hr _ ?_
        rw [show pagesOf C.size - i = (pagesOf C.size - (i + 1)) + 1 by omega]
        unfold chainGo
        exact .inl ⟨e, hm, rfl⟩
      have hjy : Sat (pre ++ C.Jy R x) w := by
        refine Sat.app_swap ?_
        subst hx
        refine Sat.fact_iff.2 ⟨⟨rfl, rfl, hebd, hgo⟩, ?_⟩
        exact hs.sl_nil _ _
      have hy := hround x w hjy
      have hax : x.ar = (int (0 - e), .slice none 0 0) := by subst hx; rfl
      rw [hax] at hy
      refine zz ?_
      refine MC.does true (does_yield rfl rfl hy) rfl ?_
      rintro _ w (⟨rfl, hs⟩ | ⟨rfl, hs⟩)
      · obtain ⟨hnok, _⟩ := Sat.fact_iff.1 hs.app_swap
        subst hx
        exact absurd hnok.1 (by simp)
      · refine zz ?_
        refine MC.ret rfl ?_
        exact .inr hs
  · obtain rfl : i = pagesOf C.size := by omega
    refine zz ?_
    refine MC.end_ rfl ?_
    refine .inl (Sat.app_swap ?_)
    have hgo : C.go (.ok (l, out)) := by
      refine hr _ ?_
      rw [Nat.sub_self]
      exact ⟨rfl, rfl⟩
    have hs := (hs.pickF 5 [4, 3, 0, 1, 2] rfl rfl)
    have hs := Sat.restar (l := [_, _]) hs
    have hs := (hs.pickF 4 [1, 2, 3, 0] rfl rfl).tail.tail.tail
    exact Sat.ex_iff.2 ⟨⟨(l, out), hgo⟩, hs⟩
end Go.Proofs.YtkccjgllanpebaaGreatDoor

namespace Go.Proofs.YtkccjgllanpebaaGreatDoor
open Go Go.Sl Go.Tr Go.Kv Go.Ms
attribute [local irreducible] LooksAt
abbrev E := V × List Value
def cellsD (D : List E) : List Value := D.flatMap (·.2)
def DL (F : List Assn) (D : List E) : Prop := ∀ p ∈ D, VR F p.1 p.2
theorem cellsD_app (A B : List E) : cellsD (A ++ B) = cellsD A ++ cellsD B := List.flatMap_append
theorem cellsD_cons (x : E) (B : List E) : cellsD (x :: B) = x.2 ++ cellsD B := List.flatMap_cons
theorem DL.perm {F : List Assn} {D D' : List E} (h : DL F D) (p : D'.Perm D) : DL F D' := fun x hx => h x (p.mem_iff.1 hx)
theorem DL.mem {F : List Assn} {D D' : List E} (h : DL F D) (hm : ∀ x, x ∈ D' → x ∈ D) : DL F D' := fun x hx => h x (hm x hx)
theorem DL.up {F G : List Assn} [hs : Suf G F] {D : List E} (h : DL F D) : DL G D := fun x hx => (h x hx).up
theorem DL.left {F : List Assn} {A B : List E} (h : DL F (A ++ B)) : DL F A := fun x hx => h x (List.mem_append_left _ hx)
theorem DL.right {F : List Assn} {A B : List E} (h : DL F (A ++ B)) : DL F B := fun x hx => h x (List.mem_append_right _ hx)
theorem DL.at {F : List Assn} {A B : List E} {x : E} (h : DL F (A ++ x :: B)) : VR F x.1 x.2 := h x (List.mem_append_right _ List.mem_cons_self)
theorem DL.len {F : List Assn} : ∀ {D : List E}, DL F D → (cellsD D).length = D.length * 6
  | [], _ => rfl
  | x :: D, h => by
    rw [cellsD_cons, List.length_append, (h x List.mem_cons_self).len, DL.len (D := D) (fun y hy => h y (List.mem_cons_of_mem _ hy)), List.length_cons]; omega
theorem VR.cells {F : List Assn} {v : V} {r : List Value} (h : VR F v r) : (Value.agg r.toArray).cells = r.toArray := by
  obtain ⟨k, m, e, t, l, ks⟩ := v
  obtain ⟨ql, qk, cl, ck, rows, rfl, -⟩ := h.open_
  rfl
theorem VR.ones {F : List Assn} {v : V} {r : List Value} (h : VR F v r) : ∀ u ∈ r, u.oneCell' = true := by
  obtain ⟨k, m, e, t, l, ks⟩ := v
  obtain ⟨ql, qk, cl, ck, rows, rfl, -⟩ := h.open_
  exact (all1 rfl)
theorem D_at {F : List Assn} {A B : List E} {x : E} {sp : List Value} {o : Nat} (h : DL F (A ++ x :: B)) (ho : o = A.length * 6) : ((cellsD (A ++ x :: B) ++ sp).drop o).take 6 = x.2 := by
  have hA := DL.len h.left
  have hx := h.at.len
  rw [cellsD_app, cellsD_cons, List.append_assoc, List.drop_append_of_le_length (by omega), List.drop_of_length_le (by omega), List.nil_append, List.append_assoc, List.take_append_of_le_length (by omega), List.take_of_length_le (by omega)]
theorem splice_midD {A B C W : List Value} {o : Nat} (hV : W.length = B.length) (ho : o = A.length) : splice (A ++ (B ++ C)) o W = A ++ (W ++ C) := by
  rw [splice_eq W _ o (by rw [List.length_append, List.length_append]; omega), ho, hV, List.take_left, List.drop_append, List.drop_of_length_le (by omega), List.nil_append, List.append_assoc, Nat.add_sub_cancel_left, List.drop_left]
theorem D_put {F : List Assn} {A B : List E} {x : E} {r sp : List Value} {o : Nat} (h : DL F (A ++ x :: B)) (hr : r.length = 6) (ho : o = A.length * 6) : splice (cellsD (A ++ x :: B) ++ sp) o r = cellsD A ++ (r ++ (cellsD B ++ sp)) := by
  have hA := DL.len h.left
  have hx := h.at.len
  rw [cellsD_app, cellsD_cons, List.append_assoc, List.append_assoc]
  exact splice_midD (by omega) (by omega)
theorem D_in {F : List Assn} {A B : List E} {x : E} {sp : List Value} {o : Nat} (h : DL F (A ++ x :: B)) (ho : o = A.length * 6) : o + 6 ≤ (cellsD (A ++ x :: B) ++ sp).length := by
  rw [List.length_append, h.len, List.length_append, List.length_cons]; omega
theorem put_eq (A B : List E) (y : E) (sp : List Value) : cellsD A ++ (y.2 ++ (cellsD B ++ sp)) = cellsD (A ++ y :: B) ++ sp := by
  rw [cellsD_app, cellsD_cons, List.append_assoc, List.append_assoc]
theorem D_set {F : List Assn} {A B : List E} {x y : E} {sp : List Value} {o : Nat} (h : DL F (A ++ x :: B)) (hy : VR F y.1 y.2) (ho : o = A.length * 6) : splice (cellsD (A ++ x :: B) ++ sp) o y.2 = cellsD (A ++ y :: B) ++ sp := by
  rw [D_put h hy.len ho, put_eq]
theorem DL.set {F : List Assn} {A B : List E} {x y : E} (h : DL F (A ++ x :: B)) (hy : VR F y.1 y.2) : DL F (A ++ y :: B) := fun z hz => by
  rcases List.mem_append.1 hz with hz | hz
  · exact h z (List.mem_append_left _ hz)
  · rcases List.mem_cons.1 hz with rfl | hz
    · exact hy
    · exact h z (List.mem_append_right _ (List.mem_cons_of_mem _ hz))
theorem two_eq (A B C : List E) (u x : E) : A ++ u :: (B ++ x :: C) = (A ++ u :: B) ++ x :: C := by rw [List.append_assoc]; rfl
theorem DL.two {F : List Assn} {A B C : List E} {u x : E} (h : DL F (A ++ u :: (B ++ x :: C))) : VR F x.1 x.2 := by rw [two_eq] at h; exact h.at
theorem D_at2 {F : List Assn} {A B C : List E} {u x : E} {sp : List Value} {o : Nat} (h : DL F (A ++ u :: (B ++ x :: C))) (ho : o = (A.length + 1 + B.length) * 6) : ((cellsD (A ++ u :: (B ++ x :: C)) ++ sp).drop o).take 6 = x.2 := by
  rw [two_eq] at h ⊢; exact D_at h (by rw [List.length_append, List.length_cons]; omega)
theorem D_in2 {F : List Assn} {A B C : List E} {u x : E} {sp : List Value} {o : Nat} (h : DL F (A ++ u :: (B ++ x :: C))) (ho : o = (A.length + 1 + B.length) * 6) : o + 6 ≤ (cellsD (A ++ u :: (B ++ x :: C)) ++ sp).length := by
  rw [two_eq] at h ⊢; exact D_in h (by rw [List.length_append, List.length_cons]; omega)
theorem D_set2 {F : List Assn} {A B C : List E} {u x y : E} {sp : List Value} {o : Nat} (h : DL F (A ++ u :: (B ++ x :: C))) (hy : VR F y.1 y.2) (ho : o = (A.length + 1 + B.length) * 6) : splice (cellsD (A ++ u :: (B ++ x :: C)) ++ sp) o y.2 = cellsD (A ++ u :: (B ++ y :: C)) ++ sp := by
  rw [two_eq] at h ⊢; rw [two_eq, D_set h hy (by rw [List.length_append, List.length_cons]; omega)]
theorem DL.set2 {F : List Assn} {A B C : List E} {u x y : E} (h : DL F (A ++ u :: (B ++ x :: C))) (hy : VR F y.1 y.2) : DL F (A ++ u :: (B ++ y :: C)) := by
  rw [two_eq] at h ⊢; exact h.set hy
theorem DL.swap {F : List Assn} {A B C : List E} {u x : E} (h : DL F (A ++ u :: (B ++ x :: C))) : DL F (A ++ x :: (B ++ u :: C)) := (h.set h.two).set2 h.at
end Go.Proofs.YtkccjgllanpebaaGreatDoor
