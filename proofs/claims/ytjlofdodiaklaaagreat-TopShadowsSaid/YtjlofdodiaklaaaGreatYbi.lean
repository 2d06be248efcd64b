/-
  The top law: its walk, up to the loss (under way) | Groups of changes as a row hands them in
-/
import Derived.Test.YtjlofdodiaklaaaGreatYbh
import Derived.Test.YtjlofdodiaklaaaGreatYam
set_option maxHeartbeats 1000000
set_option linter.unusedVariables false
set_option linter.unusedSimpArgs false
namespace Go.Proofs.YtjlofdodiaklaaaGreat
open Go Go.Sl Go.Tr Go.Pa
attribute [local irreducible] LooksAt

structure ActR where
  kind : Int
  kv : Value
  vv : Value
  key : Bs
  val : Bs
def ActR.row (y : ActR) : List Value := [int y.kind, y.kv, y.vv]
structure ActR.ok (F : List Assn) (y : ActR) : Prop where
  k : RdS F 1 y.kv y.key.length (bytesV y.key)
  v : RdS F 1 y.vv y.val.length (bytesV y.val)
structure GrR where
  v : Value
  acts : List ActR
def GrR.row (y : GrR) : List Value := [y.v]
structure GrR.ok (F : List Assn) (y : GrR) : Prop where
  r : RdS F 3 y.v y.acts.length (y.acts.flatMap ActR.row)
  a : ∀ x ∈ y.acts, x.ok F
structure OS where
  i : Nat
  n : Nat
  down : Bool
  vl : Value
  vw : Value
structure XS where
  n : Nat
  down : Bool
  vl : Value
  vw : Value
section
variable {F : List Assn} {w : World}
set_option maxHeartbeats 4000000 in
theorem top_walk {vg vk : Value} {groups : List GrR} {kept : List Bool} (cut torn at' : Int) (hs : Sat F w) (hg : RdS F 1 vg groups.length (groups.flatMap GrR.row)) (hok : ∀ y ∈ groups, y.ok F) (hk : RdS F 1 vk kept.length (boolsV kept)) :
    Ret Tryz.prog 3 [vg, int cut, vk, int torn, int at'] w fun v w' => v = bool true ∧ Sat F w' := by
  obtain ⟨qg, cg, rfl, hcg, _⟩ := hg.shape
  obtain ⟨qk, ck, rfl, hck, _⟩ := hk.shape
  refine Ret.enter [(true, .slice qg groups.length cg), (true, int cut), (true, .slice qk kept.length ck), (true, int torn), (true, int at')] _ Tryz.func3 rfl Tryz.ntmps3 rfl ?_
  refine zz ?_
  refine MC.does true (does_call rfl (new_spec hs 400 (by decide) (by decide))) rfl ?_
  rintro _ w ⟨pd, rfl, hs⟩
  have hD0 : (Dev.new 400).ok := Dev.new_ok (by decide) (by decide)
  have hcn := cnew_spec (sec := fun k => (Dev.new 400).get k) hs hD0
  refine zz ?_
  refine MC.does true (does_call rfl (hcn)) rfl ?_
  rintro _ w ⟨qc, rfl, hs⟩
  have hpn := pnew_spec (n := 0) (vl := .slice none 0 0) (live := []) hs hD0 (by decide) List.length_replicate (RdS.nil _ _) (by simp) (by simp) (by simp)
  refine zz ?_
  refine MC.does true (does_call rfl (hpn)) rfl ?_
  rintro _ w ⟨pp, rfl, hs⟩
  have hs := hs fun _ => []
  obtain ⟨A1, A2, A3, A4, A5, A6, rds, hs, hz, hback⟩ := pgr_dev hs
  have hD1 : ({ Dev.new 400 with reads := rds } : Dev).ok := { hD0 with }
  have hro := ropen_spec (at' := 0) hs hD1 (by show 0 ≤ 100000; decide) (by decide) (by show (0 : Int) + 2 ≤ ((List.replicate 400 _).length : Int); rw [List.length_replicate]; decide) (by show (0 : Int) ≠ 1; decide)
  refine zz ?_
  refine MC.does true (does_call rfl (hro)) rfl ?_
  rintro _ w ⟨rr, rfl, hs⟩
  have hs := hback _ _ _ (Dev.red_ok (Dev.red_ok hD1)) rfl rfl (hs.pickF 8 [1, 2, 3, 4, 5, 6, 7, 0] rfl rfl)
  have hC0 : Coh (Dev.new 400) Sv.no Sv.no := ⟨hD0, List.length_replicate, rfl, rfl, rfl, Sv.no_ok, Sv.no_ok⟩
  have htn := tNew_spec hs
  refine zz ?_
  refine MC.does true (does_call rfl (htn)) rfl ?_
  rintro _ w ⟨tp, rfl, hs⟩
  obtain ⟨A1, A2, A3, A4, A5, A6, rds2, hs, hz, hback⟩ := pgr_dev hs
  refine zz ?_
  obtain ⟨N, hN, hN120⟩ : ∃ N : Nat, IntKind.u64.wrap cut % 120 = ((N : Nat) : Int) ∧ N < 120 := ⟨(IntKind.u64.wrap cut % 120).toNat, by rw [wrap_u64]; omega, by rw [wrap_u64]; omega⟩
  rw [hN]
  have hcu := cut_spec hs (show Dev.ok _ from { hD0 with }) ((N : Nat) : Int)
  refine MC.does true (does_call rfl (hcu)) rfl ?_
  rintro _ w ⟨rfl, hs⟩
  rw [if_neg (by omega)]
  obtain ⟨fz, hfz, hf0, hf1⟩ : ∃ fz, Dev.cut { Dev.new 400 with reads := rds2 } ((N : Nat) : Int) = ⟨(Dev.new 400).S, [], rds2, fz⟩ ∧ 0 ≤ fz ∧ fz ≤ 2305843009213693952 := ⟨min ((N : Nat) : Int) 1152921504606846976 + 1, by unfold Dev.cut; rw [if_neg (by omega)]; rfl, by omega, by omega⟩
  have hs := hs.imp (B := dev pd ⟨(Dev.new 400).S, [], rds2, fz⟩) (fun e k h => by rw [← hfz]; exact h)
  have hDz : (⟨(Dev.new 400).S, [], rds2, fz⟩ : Dev).ok := { hD0 with fuse0 := hf0, fuse1 := hf1 }
  have hs := hback _ _ _ hDz rfl rfl hs
  obtain ⟨z, hzp, hzd, hzE, hzD, hs⟩ : ∃ z : Pw, z.p = pp ∧ z.pd = pd ∧ z.E = ⟨fun k => (⟨(Dev.new 400).S, [], rds2, fz⟩ : Dev).get k, decide (fz = 1), 2⟩ ∧ z.D = ⟨(Dev.new 400).S, [], rds2, fz⟩ ∧ Sat (pgr z ⟨liveK [], fun _ => []⟩ none :: tbT z tp ⟨0, 0, 0⟩ :: rt rr pd 0 Sv.no Sv.no :: F) w := by
    refine ⟨⟨pp, qc, pd, ⟨(Dev.new 400).S, [], rds2, fz⟩, ⟨fun k => (Dev.new 400).get k, decide (fz = 1), 2⟩, fun k => k ∈ ([] : List Nat)⟩, rfl, rfl, rfl, rfl, ?_⟩
    have e1 := hC0.readA
    have e2 := hC0.readB
    have hs : Sat (_ :: _ :: rt rr pd 0 (readS 0 ((Dev.new 400).get (0 : Int).toNat)) (readS 1 ((Dev.new 400).get ((0 : Int) + 1).toNat)) :: F) w := hs
    rw [e1, e2] at hs
    exact hs
  have hR : Rnd z ⟨liveK [], fun _ => []⟩ ⟨0, 0, 0⟩ [] Sv.no Sv.no 0 := by
    have hlen : (liveK []).length = 398 := liveK_len _
    refine ⟨by rw [hzD]; exact ⟨hDz, hC0.len, rfl, hC0.a, hC0.b, hC0.okA, hC0.okB⟩, by rw [hzE], hlen, ?_, fun k => by rw [hzE, hzD], (trT_zero rfl).2 ⟨rfl, trivial, by rw [hzE]; show 2 + (liveK []).length ≤ 8192; omega, Kst.refl _⟩, ⟨⟨List.Pairwise.nil, rfl⟩, (fun p hp => by cases hp), Nat.le_refl _, Nat.le_refl _, Nat.zero_le _⟩, rfl⟩
    intro c hc
    unfold liveK at hc
    obtain ⟨i, _, rfl⟩ := List.mem_map.1 hc
    exact .inl (if_neg (by simp))
  clear hback hzE hzD
  refine zz ?_
  refine MC.cutAtS (σ := XS) 2 (fun x => [(2, true, .slice qk kept.length ck), (3, true, int torn), (4, true, int at'), (11, true, ptr pd), (18, true, x.vl), (19, true, x.vw), (20, true, int ((x.n : Nat) : Int)), (21, true, bool x.down)])
    (fun x w => ∃ (G : List Assn) (_ : Suf G F) (D : Dev) (was l : List (Bs × Bs)), x.n ≤ 5 ∧ Gone D x.n x.down was l ∧ RdS G 2 x.vl l.length (pairsV l) ∧ RdS G 2 x.vw was.length (pairsV was) ∧ Sat (devr pd D :: G) w) rfl ?_ ?_
  rotate_left
  · (try dsimp only [List.drop_succ_cons, List.drop_zero, List.take_succ_cons, List.take_zero, List.cons_append, List.nil_append])
    refine MC.loop (σ := OS) (fun x => [(0, true, .slice qg groups.length cg), (2, true, .slice qk kept.length ck), (3, true, int torn), (4, true, int at'), (11, true, ptr pd), (14, true, ptr pp), (15, true, ptr rr), (17, true, ptr tp), (18, true, x.vl), (19, true, x.vw), (20, true, int ((x.n : Nat) : Int)), (21, true, bool x.down), (22, true, int ((x.i : Nat) : Int))])
      (fun x w => x.i ≤ groups.length ∧ x.i ≤ 5 ∧ x.n ≤ 5 ∧ ∃ (G : List Assn) (_ : Suf G F) (was l : List (Bs × Bs)), RdS G 2 x.vl l.length (pairsV l) ∧ RdS G 2 x.vw was.length (pairsV was) ∧
        ((x.down = true ∧ ∃ D, Gone D x.n true was l ∧ Sat (devr pd D :: G) w) ∨ (x.down = false ∧ x.n = x.i ∧ was = l ∧ ∃ (z : Pw) (s : St) (t : T) (A B : Sv), z.p = pp ∧ z.pd = pd ∧ Rnd z s t l A B x.n ∧ Sat (pgr z s none :: tbT z tp t :: rt rr pd 0 A B :: G) w)))
      (fun x => 6 - x.i) ⟨0, 0, false, .slice none 0 0, .slice none 0 0⟩ (by repeat (first | exact trivial | refine ⟨rfl, ?_⟩))
      ⟨Nat.zero_le _, Nat.zero_le _, Nat.zero_le _, F, inferInstance, [], [], RdS.nil _ _, RdS.nil _ _, .inr ⟨rfl, rfl, rfl, z, _, _, _, _, hzp, hzd, hR, hs⟩⟩ ?_
    clear hs hR hzp hzd
    rintro ⟨i, n, dn', vl, vw⟩ w ⟨hi, hi5, hn5, G, hG, was, l, hvl, hvw, hst⟩
    dsimp only [] at hi hi5 hn5 hvl hvw hst ⊢
    rcases hst with ⟨rfl, D, hgone, hs⟩ | ⟨rfl, rfl, rfl, z, s, t, A, B, rfl, rfl, hR, hs⟩
    · rcases Nat.lt_or_ge i groups.length with hlt | hge
      · rcases Nat.lt_or_ge i 5 with h5 | h5
        · refine zz ?_
          exact MC.meetS (⟨n, true, vl, vw⟩ : XS) (by repeat (first | exact trivial | refine ⟨rfl, ?_⟩)) ⟨G, hG, D, was, l, hn5, hgone, hvl, hvw, hs⟩
        · refine zz ?_
          exact MC.meetS (⟨n, true, vl, vw⟩ : XS) (by repeat (first | exact trivial | refine ⟨rfl, ?_⟩)) ⟨G, hG, D, was, l, hn5, hgone, hvl, hvw, hs⟩
      · refine zz ?_
        exact MC.meetS (⟨n, true, vl, vw⟩ : XS) (by repeat (first | exact trivial | refine ⟨rfl, ?_⟩)) ⟨G, hG, D, was, l, hn5, hgone, hvl, hvw, hs⟩
    have hout : ∃ (G : List Assn) (_ : Suf G F) (D : Dev) (was l : List (Bs × Bs)), n ≤ 5 ∧ Gone D n false was l ∧ RdS G 2 vl l.length (pairsV l) ∧ RdS G 2 vw was.length (pairsV was) ∧ Sat (devr z.pd D :: G) w := by
      obtain ⟨g, _, _, h⟩ := pgr_open hs
      exact ⟨G, hG, z.D, was, was, hn5, hR.gone, hvl, hvw, h.pickF 9 [5] rfl rfl⟩
    rcases Nat.lt_or_ge n groups.length with hlt | hge
    rotate_left
    · refine zz ?_
      exact MC.meetS (⟨n, false, vl, vw⟩ : XS) (by repeat (first | exact trivial | refine ⟨rfl, ?_⟩)) hout
    rcases Nat.lt_or_ge n 5 with h5 | h5
    rotate_left
    · refine zz ?_
      exact MC.meetS (⟨n, false, vl, vw⟩ : XS) (by repeat (first | exact trivial | refine ⟨rfl, ?_⟩)) hout
    clear hout
    obtain ⟨bl, ol, rfl, hrl⟩ := hg.at_ (by omega)
    have hya : (groups.flatMap GrR.row)[((n : Nat) : Int).toNat * 1]? = some groups[n].v := by
      have := rows_get (f := GrR.row) (c := 1) (xs := groups) (fun _ _ => rfl) hlt
      have h2 : (((groups.flatMap GrR.row).drop (n * 1)).take 1).head? = some groups[n].v := by rw [this]; rfl
      rw [List.head?_take, if_neg (by decide), List.head?_drop] at h2
      rw [Int.toNat_natCast]; exact h2
    have hyo := hok _ (List.getElem_mem hlt)
    obtain ⟨y, hy⟩ : ∃ y, groups[n] = y := ⟨_, rfl⟩
    rw [hy] at hya hyo
    obtain ⟨gv, acts⟩ := y
    have har : RdS F 3 gv acts.length (acts.flatMap ActR.row) := hyo.r
    have hao : ∀ x ∈ acts, x.ok F := hyo.a
    obtain ⟨qa, ca, rfl, hca, _⟩ := har.shape
    have hya : (groups.flatMap GrR.row)[((n : Nat) : Int).toNat * 1]? = some (.slice qa acts.length ca) := hya
    clear hyo hy
    refine zz ?_
    refine MC.cutAtS (σ := Value) 2 (fun v => [(0, true, .slice (some ⟨bl, ol, none⟩) groups.length cg), (2, true, .slice qk kept.length ck), (3, true, int torn), (4, true, int at'), (11, true, ptr z.pd), (14, true, ptr z.p), (15, true, ptr rr), (17, true, ptr tp), (18, true, v), (19, true, vw), (20, true, int ((n : Nat) : Int)), (21, true, bool false), (22, true, int ((n : Nat) : Int))])
      (fun v w => ∃ (G : List Assn) (_ : Suf G F) (s' : St) (t' : T) (l : List (Bs × Bs)), Mid z s s' t' l (n * 15 + 15) ∧ RdS G 2 v l.length (pairsV l) ∧ RdS G 2 vw was.length (pairsV was) ∧ Sat (pgr z s' none :: tbT z tp t' :: rt rr z.pd 0 A B :: G) w) rfl ?_ ?_
    rotate_left
    · (try dsimp only [List.drop_succ_cons, List.drop_zero, List.take_succ_cons, List.take_zero, List.cons_append, List.nil_append])
      refine MC.loop (σ := Nat × Value) (fun x => [(0, true, .slice (some ⟨bl, ol, none⟩) groups.length cg), (2, true, .slice qk kept.length ck), (3, true, int torn), (4, true, int at'), (11, true, ptr z.pd), (14, true, ptr z.p), (15, true, ptr rr), (17, true, ptr tp), (18, true, x.2), (19, true, vw), (20, true, int ((n : Nat) : Int)), (21, true, bool false), (22, true, int ((n : Nat) : Int)), (23, true, int ((x.1 : Nat) : Int))])
        (fun x w => x.1 ≤ acts.length ∧ x.1 ≤ 15 ∧ ∃ (G : List Assn) (_ : Suf G F) (s' : St) (t' : T) (l : List (Bs × Bs)), Mid z s s' t' l (n * 15 + x.1) ∧ RdS G 2 x.2 l.length (pairsV l) ∧ RdS G 2 vw was.length (pairsV was) ∧ Sat (pgr z s' none :: tbT z tp t' :: rt rr z.pd 0 A B :: G) w)
        (fun x => 15 - x.1) (0, vl) (by repeat (first | exact trivial | refine ⟨rfl, ?_⟩)) ⟨Nat.zero_le _, Nat.zero_le _, G, hG, s, t, was, hR.mid, hvl, hvw, hs⟩ ?_
      clear hs hvl hvw
      rintro ⟨k, vl⟩ w ⟨hk', hk15, G, hG, s', t, l, hm, hvl, hvw, hs⟩
      dsimp only [] at hk' hk15 hm hvl ⊢
      have hex : ∃ (G : List Assn) (_ : Suf G F) (s' : St) (t' : T) (l : List (Bs × Bs)), Mid z s s' t' l (n * 15 + 15) ∧ RdS G 2 vl l.length (pairsV l) ∧ RdS G 2 vw was.length (pairsV was) ∧ Sat (pgr z s' none :: tbT z tp t' :: rt rr z.pd 0 A B :: G) w :=
        ⟨G, hG, s', t, l, ⟨hm.ps, hm.low.mono (by omega)⟩, hvl, hvw, hs⟩
      rcases Nat.lt_or_ge k acts.length with hka | hka
      rotate_left
      · refine zz ?_
        refine MC.la true (la_load1_rd hrl hs (j := ((n : Nat) : Int).toNat * 1) rfl hya) rfl ?_
        refine zz ?_
        exact MC.meetS vl (by repeat (first | exact trivial | refine ⟨rfl, ?_⟩)) hex
      rcases Nat.lt_or_ge k 15 with hk5 | hk5
      rotate_left
      · refine zz ?_
        refine MC.la true (la_load1_rd hrl hs (j := ((n : Nat) : Int).toNat * 1) rfl hya) rfl ?_
        refine zz ?_
        exact MC.meetS vl (by repeat (first | exact trivial | refine ⟨rfl, ?_⟩)) hex
      clear hex
      obtain ⟨ba, oa, rfl, hra⟩ := har.at_ (by omega)
      have hxa := rows_get (f := ActR.row) (c := 3) (xs := acts) (fun _ _ => rfl) hka
      have hxo := hao _ (List.getElem_mem hka)
      obtain ⟨y, hy⟩ : ∃ y, acts[k] = y := ⟨_, rfl⟩
      rw [hy] at hxa hxo
      obtain ⟨kd, kv, vv, key, val⟩ := y
      have hkr : RdS F 1 kv key.length (bytesV key) := hxo.k
      have hvr : RdS F 1 vv val.length (bytesV val) := hxo.v
      have hxa : ((acts.flatMap ActR.row).drop (k * 3)).take 3 = [int kd, kv, vv] := hxa
      obtain ⟨qy, cy, rfl, hcy, _⟩ := hkr.shape
      obtain ⟨qv, cv, rfl, hcv, _⟩ := hvr.shape
      clear hxo hy
      refine zz ?_
      refine MC.la true (la_load1_rd hrl hs (j := ((n : Nat) : Int).toNat * 1) rfl hya) rfl ?_
      refine zz ?_
      refine MC.la true (la_load1_rd hrl hs (j := ((n : Nat) : Int).toNat * 1) rfl hya) rfl ?_
      refine zz ?_
      refine MC.la true (la_loadV_rd hra hs (j := ((k : Nat) : Int).toNat * 3) (vs := [int kd, .slice qy key.length cy, .slice qv val.length cv]) rfl (by rw [Int.toNat_natCast]; exact hxa) rfl rfl) rfl ?_
      refine zz ?_
      refine MC.does true (does_alloc hs) rfl ?_
      rintro _ w ⟨b24, rfl, hs⟩
      refine zz ?_
      refine MC.does true (does_store (vs := [int kd, .slice qy key.length cy, .slice qv val.length cv]) hs rfl rfl rfl rfl (all1 rfl) (by simp)) rfl ?_; intro _ w hs; rw [splice_all (by rfl)] at hs
      refine zz ?_
      refine MC.does true (does_call rfl (short_spec (n := 700) (Suf.sat hs : Sat F _) hvr)) rfl ?_
      rintro v25 w ⟨hv25, rfl⟩
      have hs := hs.pickF 4 [1, 2, 0, 3] rfl rfl
      obtain ⟨c25, d25, rfl, _, _⟩ := hv25.shape
      have hroot := hm.low.root
      have hhigh := hm.low.high
      have hcnt := hm.low.holds.cnt
      have hfew := hm.low.few
      have hv7 : (val.take 700).length ≤ 700 := by rw [List.length_take]; omega
      by_cases h0 : kd = 0
      · subst h0
        have hpt := tPut_spec hs (hkr.up) (hv25.up) (by omega) hroot (by omega) (by omega)
        refine zz ?_
        refine MC.does true (does_call rfl (hpt)) rfl ?_
        rintro _ w (⟨t', s'', hp, hk1, hk2, ht1, rfl, hs⟩ | ⟨e, he, rfl, hs⟩)
        · have hm' := hm.put hp ⟨hk1, hk2⟩ ht1
          have hlp := lPut_spec (key := key) (value := val.take 700) hs hvl.up (by omega)
          refine zz ?_
          refine MC.la true (la_tostr rfl hkr hs) rfl ?_
          refine zz ?_
          refine MC.la true (la_tostr rfl hv25 hs) rfl ?_
          refine zz ?_
          refine MC.does true (does_call rfl (hlp)) rfl ?_
          rintro v18 w hs
          rw [ins_list hm.low.holds.srt] at hs
          have hs := hs.pickF 5 [1, 2, 4, 0] rfl rfl
          refine zz ?_
          exact MC.again (k + 1, v18) (by repeat (first | exact trivial | refine ⟨rfl, ?_⟩)) ⟨hka, hk5, sl v18 106 2 (insL l key (val.take 700)).length (pairsV (insL l key (val.take 700))) :: G, inferInstance, s'', t', _, hm', RdS.of_sl (hs.pickF 4 [3] rfl rfl), hvw.up, hs⟩ (by show 15 - (k + 1) < 15 - k; omega)
        · have hs := hs.pickF 4 [0, 1, 3] rfl rfl
          refine zz ?_
          exact MC.again (k + 1, vl) (by repeat (first | exact trivial | refine ⟨rfl, ?_⟩)) ⟨hka, hk5, G, hG, s', t, l, ⟨hm.ps, hm.low.mono (by omega)⟩, hvl, hvw, hs⟩ (by show 15 - (k + 1) < 15 - k; omega)
      · by_cases h1 : kd = 1
        · subst h1
          have hdt := tDel_spec hs (hkr.up) hroot (by omega) (by omega) (fit_of hm.low.holds hm.ps)
          refine zz ?_
          refine MC.does true (does_call rfl (hdt)) rfl ?_
          rintro _ w (⟨t', s'', is, hd, rfl, hs⟩ | ⟨e, he, rfl, hs⟩)
          · obtain ⟨his, hm'⟩ := hm.del hd
            have hld := lDel_spec (key := key) hs hvl.up (by omega)
            obtain ⟨hdl, hhk⟩ := del_list (k := key) hm.low.holds.srt
            rw [hdl, hhk, ← his] at hld
            rw [← norm_tb] at hs
            cases is with
            | true =>
              refine zz ?_
              refine MC.la true (la_tostr rfl hkr hs) rfl ?_
              refine zz ?_
              refine MC.does true (does_call rfl (hld)) rfl ?_
              rintro _ w ⟨v18, rfl, hs⟩
              rw [if_pos rfl, ← norm_tb] at hs
              have hs := hs.pickF 5 [1, 2, 4, 0] rfl rfl
              refine zz ?_
              exact MC.again (k + 1, v18) (by repeat (first | exact trivial | refine ⟨rfl, ?_⟩)) ⟨hka, hk5, sl v18 106 2 (delL l key).length (pairsV (delL l key)) :: G, inferInstance, s'', _, _, hm', RdS.of_sl (hs.pickF 4 [3] rfl rfl), hvw.up, hs⟩ (by show 15 - (k + 1) < 15 - k; omega)
            | false =>
              have hs := hs.pickF 4 [0, 1, 3] rfl rfl
              rw [del_no hm.low.holds.srt his.symm] at hm'
              refine zz ?_
              exact MC.again (k + 1, vl) (by repeat (first | exact trivial | refine ⟨rfl, ?_⟩)) ⟨hka, hk5, G, hG, s'', _, l, hm', hvl, hvw, hs⟩ (by show 15 - (k + 1) < 15 - k; omega)
          · have hs := hs.pickF 4 [0, 1, 3] rfl rfl
            refine zz ?_
            exact MC.again (k + 1, vl) (by repeat (first | exact trivial | refine ⟨rfl, ?_⟩)) ⟨hka, hk5, G, hG, s', t, l, ⟨hm.ps, hm.low.mono (by omega)⟩, hvl, hvw, hs⟩ (by show 15 - (k + 1) < 15 - k; omega)
        · refine zz ?_
          have hs := hs.pickF 4 [0, 1, 3] rfl rfl
          refine zz ?_
          exact MC.again (k + 1, vl) (by repeat (first | exact trivial | refine ⟨rfl, ?_⟩)) ⟨hka, hk5, G, hG, s', t, l, ⟨hm.ps, hm.low.mono (by omega)⟩, hvl, hvw, hs⟩ (by show 15 - (k + 1) < 15 - k; omega)
    · clear hs hvl hvw
      rintro v18 w ⟨G, hG, s', t', l, hm, hvl, hvw, hs⟩
      dsimp only [List.drop] at hs ⊢
      have hdown : ∀ (w : World) (D : Dev), Gone D n true was l → Sat (devr z.pd D :: G) w → ∃ (G : List Assn) (_ : Suf G F) (was l : List (Bs × Bs)), RdS G 2 v18 l.length (pairsV l) ∧ RdS G 2 vw was.length (pairsV was) ∧
        (((true : Bool) = true ∧ ∃ D, Gone D n true was l ∧ Sat (devr z.pd D :: G) w) ∨ ((true : Bool) = false ∧ n = n + 1 ∧ was = l ∧ ∃ (z' : Pw) (s : St) (t : T) (A B : Sv), z'.p = z.p ∧ z'.pd = z.pd ∧ Rnd z' s t l A B n ∧ Sat (pgr z' s none :: tbT z' tp t :: rt rr z.pd 0 A B :: G) w)) :=
        fun w D hg hs => ⟨G, hG, was, l, hvl, hvw, .inl ⟨rfl, D, hg, hs⟩⟩
      have hfl := flush_top hs hR hm
      refine zz ?_
      refine MC.does true (does_call rfl (hfl)) rfl ?_
      rintro _ w (⟨e, D, he, rfl, hgone, hs⟩ | ⟨rfl, D, hC, hS, hs⟩)
      · refine zz ?_
        exact MC.again (⟨n + 1, n, true, v18, vw⟩ : OS) (by repeat (first | exact trivial | refine ⟨rfl, ?_⟩)) ⟨hlt, h5, hn5, hdown _ _ hgone (hs.pickF 3 [0] rfl rfl)⟩ (by show 6 - (n + 1) < 6 - n; omega)
      · have hsv := saved_spec hs (by have := hm.low.root; unfold rootI; split <;> omega)
        refine zz ?_
        refine MC.does true (does_call rfl (hsv)) rfl ?_
        intro vf w hs
        have hs := hs.pickF 4 [0, 1, 3, 2] rfl rfl
        have hsa := save_round hs hR hm (by omega) hC hS
        refine zz ?_
        refine MC.does true (does_call rfl (hsa)) rfl ?_
        rintro _ w (⟨rfl, D', hgone, hs⟩ | ⟨rfl, D', A', B', hnext, hlen, hs⟩)
        · refine zz ?_
          exact MC.again (⟨n + 1, n, true, v18, vw⟩ : OS) (by repeat (first | exact trivial | refine ⟨rfl, ?_⟩)) ⟨hlt, h5, hn5, hdown _ _ hgone (hs.pickF 2 [0] rfl rfl)⟩ (by show 6 - (n + 1) < 6 - n; omega)
        · have hdo := done_spec hs (fun k hk => by
            have h1 : In4 k := hR.in4 hm.len hk
            show k < D'.S.length
            rw [hlen]; exact h1.2)
          refine zz ?_
          refine MC.does true (does_call rfl (hdo)) rfl ?_
          rintro _ w ⟨rfl, hs⟩
          have hs := (hs fun _ => []).pickF 3 [0, 2, 1] rfl rfl
          refine zz ?_
          refine MC.again (⟨n + 1, n + 1, false, v18, v18⟩ : OS) (by repeat (first | exact trivial | refine ⟨rfl, ?_⟩)) ⟨hlt, h5, h5, G, hG, l, l, hvl, hvl, .inr ⟨rfl, rfl, rfl, _, _, t', _, _, ?_, ?_, ?_, hs⟩⟩ (by show 6 - (n + 1) < 6 - n; omega)
          · rfl
          · rfl
          · exact hnext _ _ _
  · clear hs hR hzp hzd
    rintro ⟨n, down, vl, vw⟩ w ⟨G, hG, D, was, l, hn5, hgone, hvl, hvw, hs⟩
    dsimp only [List.drop] at hn5 hgone hvl hvw hs ⊢
    obtain ⟨rds3, hs⟩ := Sat.ex_iff.1 hs
    obtain ⟨hDo, hDO, hlose⟩ := hgone
    obtain ⟨⟨hL1, hL2, hL3, hL4⟩, A, B, hA, hB, hA40, hB40, htell⟩ := hlose kept torn at'
    have hlo := lose_spec (kept := kept) (torn := torn) (at' := at') hs { hDo with } (by show D.O.length ≤ 100000; omega) hk.up
    refine zz ?_
    refine MC.does true (does_call rfl (hlo)) rfl ?_
    rintro _ w ⟨xd, rfl, hs⟩
    have hs := hs.imp (B := dev xd (D.lose kept torn at')) (fun _ _ h => h)
    generalize D.lose kept torn at' = L at hs hL1 hL2 hL3 hL4 hA hB htell
    have hs := hs.pickF 2 [0] rfl rfl
    have hro := ropen_spec (at' := 0) hs hL1 (by rw [hL3]; decide) (by decide) (by rw [hL2]; decide) (by rw [hL4]; decide)
    rw [hA, hB] at hro
    refine zz ?_
    refine MC.does true (does_call rfl (hro)) rfl ?_
    rintro _ w ⟨r2, rfl, hs⟩
    have hla := latest_spec hs (by omega) (by omega)
    refine zz ?_
    refine MC.does true (does_call rfl (hla)) rfl ?_
    rintro _ w ⟨vf, rfl, hs⟩
    generalize latestOf A B = SS at hs htell
    have hcase : (n = 0 ∧ SS.stands = false) ∨ ∃ (e : Nat) (t : T) (ll : List (Bs × Bs)) (vv : Value), SS = ⟨true, ((e : Nat) : Int), savedF t⟩ ∧ Stands In4 (fun k => L.get k) t ll ∧ RdS G 2 vv ll.length (pairsV ll) ∧ n ≤ 5 ∧
        ((e = n ∧ vv = vw) ∨ (e = n + 1 ∧ down = true ∧ vv = vl)) := by
      rcases htell with h | ⟨rfl, h⟩
      · unfold Tells at h
        split at h
        · next e => exact .inl ⟨e, h⟩
        · obtain ⟨t, h1, h2⟩ := h
          exact .inr ⟨n, t, was, vw, h1, h2, hvw, hn5, .inl ⟨rfl, rfl⟩⟩
      · unfold Tells at h
        rw [if_neg (by omega)] at h
        obtain ⟨t, h1, h2⟩ := h
        exact .inr ⟨n + 1, t, l, vl, h1, h2, hvl, hn5, .inr ⟨rfl, rfl, rfl⟩⟩
    clear htell hvl hvw
    rcases hcase with ⟨rfl, hno⟩ | ⟨e, t, ll, vv, hSS, hst, hvv, -, hev⟩
    · rw [hno]
      refine zz ?_
      refine MC.ret rfl ?_
      exact ⟨rfl, Suf.sat hs⟩
    · have hEp : SS.epoch = ((e : Nat) : Int) := by rw [hSS]
      have hSt : SS.stands = true := by rw [hSS]
      have hFl : SS.fields = savedF t := by rw [hSS]
      have hs := hs.imp (B := sl vf 3 1 3 (intsV (savedF t))) (fun _ _ h => by rw [hFl] at h; exact h)
      rw [hEp, hSt]
      obtain ⟨_, qf, cf, rfl, hcf⟩ := hs.sl_len
      have hlow := hst.1
      have hRo : -1 ≤ rootI t ∧ rootI t ≤ 100000 := by have := hlow.root; unfold rootI; split <;> omega
      have hcnt := hlow.holds.cnt
      have hfew := hlow.few
      have hhigh := hlow.high
      rcases hev with ⟨rfl, rfl⟩ | ⟨rfl, rfl, rfl⟩
      · refine zz ?_
        refine MC.loop (σ := Nat × Value) (fun x => [(19, true, vv), (20, true, int ((e : Nat) : Int)), (28, true, ptr xd), (30, true, .slice qf 3 cf), (31, true, int ((e : Nat) : Int)), (33, true, x.2), (34, true, int (((x.1 + 2 : Nat)) : Int))])
          (fun x w => x.1 ≤ 398 ∧ Sat (sl x.2 3 1 x.1 (bufV ((List.range x.1).map (· + 2))) :: sl (.slice qf 3 cf) 3 1 3 (intsV (savedF t)) :: dev xd L.red.red :: G) w) (fun x => 398 - x.1) (0, .slice none 0 0) (by repeat (first | exact trivial | refine ⟨rfl, ?_⟩)) ⟨Nat.zero_le _, (hs.pickF 3 [0, 2] rfl rfl).sl_nil _ _⟩ ?_
        clear hs
        rintro ⟨j, va⟩ w ⟨hj, hs⟩
        dsimp only [] at hj hs ⊢
        obtain ⟨_, qa, ca, rfl, hca⟩ := hs.sl_len
        rcases Nat.lt_or_ge j 398 with hjl | hjl
        · refine zz ?_
          refine MC.does true (does_buildL hs rfl rfl rfl (all1 rfl) rfl) rfl ?_; rintro _ w ⟨b5, rfl, hs⟩
          refine MC.does true (does_append hs rfl rfl (src_at rfl (all1 rfl)) (by omega) (by omega)) rfl ?_
          intro va w hs
          have e3 : bufV ((List.range j).map (· + 2)) ++ [int ((j + 2 : Nat) : Int)] = bufV ((List.range (j + 1)).map (· + 2)) := by
            rw [List.range_succ]; simp [bufV]
          have hs := hs.tail
          rw [e3] at hs
          refine zz ?_
          exact MC.again (j + 1, va) (by rw [show j + 1 + 2 = j + 2 + 1 by omega]; exact (by repeat (first | exact trivial | refine ⟨rfl, ?_⟩))) ⟨hjl, hs⟩ (by show 398 - (j + 1) < 398 - j; omega)
        · obtain rfl : j = 398 := by omega
          obtain ⟨live, hlive⟩ : ∃ live, live = (List.range 398).map (· + 2) := ⟨_, rfl⟩
          rw [← hlive] at hs
          have hll : live.length = 398 := by rw [hlive, List.length_map, List.length_range]
          have hin : ∀ k, k ∈ live ↔ 2 ≤ k ∧ k < 400 := fun k => by
            rw [hlive, List.mem_map]
            constructor
            · rintro ⟨a, ha, rfl⟩
              have := List.mem_range.1 ha
              omega
            · rintro ⟨h1, h2⟩
              exact ⟨k - 2, List.mem_range.2 (by omega), by omega⟩
          have hnd : live.Nodup := by
            rw [hlive]
            exact List.Pairwise.map _ (fun a b h e => h (Nat.add_right_cancel e)) List.nodup_range
          clear hlive
          have hrf : RdS (sl (.slice qf 3 cf) 3 1 3 (intsV (savedF t)) :: G) 1 (.slice qf 3 cf) 3 (intsV (savedF t)) := RdS.of_sl (hs.pickF 3 [1] rfl rfl)
          have hra : RdS (sl (.slice qa 398 ca) 3 1 398 (bufV live) :: sl (.slice qf 3 cf) 3 1 3 (intsV (savedF t)) :: G) 1 (.slice qa 398 ca) live.length (bufV live) := by
            rw [hll]; exact RdS.of_sl (hs.pickF 3 [0, 1] rfl rfl)
          have hs := hs.pickF 3 [2, 0, 1] rfl rfl
          have hLr : L.red.red.ok := Dev.red_ok (Dev.red_ok hL1)
          have hcn := cnew_spec (sec := fun k => L.red.red.get k) hs hLr
          refine zz ?_
          refine MC.does true (does_call rfl (hcn)) rfl ?_
          rintro _ w ⟨q2, rfl, hs⟩
          have hpn := pnew_spec (n := 398) hs hLr (by show L.O.length ≤ 100000; rw [hL3]; decide) hL2 hra (fun k hk => (hin k).1 hk) hnd (by omega)
          refine zz ?_
          refine MC.does true (does_call rfl (hpn)) rfl ?_
          rintro _ w ⟨p2, rfl, hs⟩
          have hs := (hs fun _ => []).pickF 3 [0, 2] rfl rfl
          have hE : (⟨fun k => L.red.red.get k, decide (L.red.red.fuse = 1), 2⟩ : En) = ⟨fun k => L.get k, false, 2⟩ := by
            have : L.red.red.fuse = 0 := hL4
            rw [this]; rfl
          rw [hE] at hs
          obtain ⟨hsm0, hsm1⟩ := stands_small (b := fun _ => []) hst (fun k h1 h2 => (hin k).2 ⟨h1, h2⟩)
          have hget := stands_get (b := fun _ => []) hst (fun k h1 h2 => (hin k).2 ⟨h1, h2⟩)
          obtain ⟨bf, ofs, rfl, hrd⟩ := hrf.at_ (by omega)
          refine zz ?_
          refine MC.draw hs [0, 1, 2, 3, 4, 5, 6, 7, 8, 9, 10, 11, 12, 13, 14, 15, 16] (by rfl) ?_; intro w hs
          refine zd ?_
          refine MC.laD true (la_load1_rd hrd hs (j := (0 : Int).toNat * 1) (v := int (rootI t + 1)) rfl rfl) rfl ?_
          refine zd ?_
          refine MC.laD true (la_load1_rd hrd hs (j := (1 : Int).toNat * 1) (v := int ((t.height : Nat) : Int)) rfl rfl) rfl ?_
          refine zd ?_
          refine MC.laD true (la_load1_rd hrd hs (j := (2 : Int).toNat * 1) (v := int ((t.count : Nat) : Int)) rfl rfl) rfl ?_
          refine zd ?_
          have hto := tOpen_spec (t := t) hs hsm0 hsm1 (by omega) hlow.root (by omega)
          rw [show rootI t = rootI t + 1 - 1 by omega] at hto
          refine MC.doesK true (does_call rfl (hto)) rfl rfl rfl ?_
          rintro _ w ⟨tq, rfl, hs⟩
          refine zh ?_
          refine zd ?_
          refine zz ?_
          have hhs := has_spec (F := sl (.slice (some ⟨bf, ofs, none⟩) 3 cf) 3 1 3 (intsV (savedF t)) :: G) hs hvv.up (by omega) hlow.keys hget hcnt hlow.root (by omega)
          refine MC.does true (does_call rfl (hhs)) rfl ?_
          rintro _ w ⟨rfl, hs⟩
          refine zz ?_
          refine MC.ret rfl ?_
          exact ⟨rfl, Suf.sat hs⟩
      · refine zz ?_
        refine MC.partN rfl rfl (fun h => absurd (by omega) h) (fun _ => ?_)
        refine zz ?_
        refine MC.loop (σ := Nat × Value) (fun x => [(18, true, vv), (20, true, int ((n : Nat) : Int)), (28, true, ptr xd), (30, true, .slice qf 3 cf), (31, true, int ((n + 1 : Nat) : Int)), (33, true, x.2), (34, true, int (((x.1 + 2 : Nat)) : Int))])
          (fun x w => x.1 ≤ 398 ∧ Sat (sl x.2 3 1 x.1 (bufV ((List.range x.1).map (· + 2))) :: sl (.slice qf 3 cf) 3 1 3 (intsV (savedF t)) :: dev xd L.red.red :: G) w) (fun x => 398 - x.1) (0, .slice none 0 0) (by repeat (first | exact trivial | refine ⟨rfl, ?_⟩)) ⟨Nat.zero_le _, (hs.pickF 3 [0, 2] rfl rfl).sl_nil _ _⟩ ?_
        clear hs
        rintro ⟨j, va⟩ w ⟨hj, hs⟩
        dsimp only [] at hj hs ⊢
        obtain ⟨_, qa, ca, rfl, hca⟩ := hs.sl_len
        rcases Nat.lt_or_ge j 398 with hjl | hjl
        · refine zz ?_
          refine MC.does true (does_buildL hs rfl rfl rfl (all1 rfl) rfl) rfl ?_; rintro _ w ⟨b5, rfl, hs⟩
          refine MC.does true (does_append hs rfl rfl (src_at rfl (all1 rfl)) (by omega) (by omega)) rfl ?_
          intro va w hs
          have e3 : bufV ((List.range j).map (· + 2)) ++ [int ((j + 2 : Nat) : Int)] = bufV ((List.range (j + 1)).map (· + 2)) := by
            rw [List.range_succ]; simp [bufV]
          have hs := hs.tail
          rw [e3] at hs
          refine zz ?_
          exact MC.again (j + 1, va) (by rw [show j + 1 + 2 = j + 2 + 1 by omega]; exact (by repeat (first | exact trivial | refine ⟨rfl, ?_⟩))) ⟨hjl, hs⟩ (by show 398 - (j + 1) < 398 - j; omega)
        · obtain rfl : j = 398 := by omega
          obtain ⟨live, hlive⟩ : ∃ live, live = (List.range 398).map (· + 2) := ⟨_, rfl⟩
          rw [← hlive] at hs
          have hll : live.length = 398 := by rw [hlive, List.length_map, List.length_range]
          have hin : ∀ k, k ∈ live ↔ 2 ≤ k ∧ k < 400 := fun k => by
            rw [hlive, List.mem_map]
            constructor
            · rintro ⟨a, ha, rfl⟩
              have := List.mem_range.1 ha
              omega
            · rintro ⟨h1, h2⟩
              exact ⟨k - 2, List.mem_range.2 (by omega), by omega⟩
          have hnd : live.Nodup := by
            rw [hlive]
            exact List.Pairwise.map _ (fun a b h e => h (Nat.add_right_cancel e)) List.nodup_range
          clear hlive
          have hrf : RdS (sl (.slice qf 3 cf) 3 1 3 (intsV (savedF t)) :: G) 1 (.slice qf 3 cf) 3 (intsV (savedF t)) := RdS.of_sl (hs.pickF 3 [1] rfl rfl)
          have hra : RdS (sl (.slice qa 398 ca) 3 1 398 (bufV live) :: sl (.slice qf 3 cf) 3 1 3 (intsV (savedF t)) :: G) 1 (.slice qa 398 ca) live.length (bufV live) := by
            rw [hll]; exact RdS.of_sl (hs.pickF 3 [0, 1] rfl rfl)
          have hs := hs.pickF 3 [2, 0, 1] rfl rfl
          have hLr : L.red.red.ok := Dev.red_ok (Dev.red_ok hL1)
          have hcn := cnew_spec (sec := fun k => L.red.red.get k) hs hLr
          refine zz ?_
          refine MC.does true (does_call rfl (hcn)) rfl ?_
          rintro _ w ⟨q2, rfl, hs⟩
          have hpn := pnew_spec (n := 398) hs hLr (by show L.O.length ≤ 100000; rw [hL3]; decide) hL2 hra (fun k hk => (hin k).1 hk) hnd (by omega)
          refine zz ?_
          refine MC.does true (does_call rfl (hpn)) rfl ?_
          rintro _ w ⟨p2, rfl, hs⟩
          have hs := (hs fun _ => []).pickF 3 [0, 2] rfl rfl
          have hE : (⟨fun k => L.red.red.get k, decide (L.red.red.fuse = 1), 2⟩ : En) = ⟨fun k => L.get k, false, 2⟩ := by
            have : L.red.red.fuse = 0 := hL4
            rw [this]; rfl
          rw [hE] at hs
          obtain ⟨hsm0, hsm1⟩ := stands_small (b := fun _ => []) hst (fun k h1 h2 => (hin k).2 ⟨h1, h2⟩)
          have hget := stands_get (b := fun _ => []) hst (fun k h1 h2 => (hin k).2 ⟨h1, h2⟩)
          obtain ⟨bf, ofs, rfl, hrd⟩ := hrf.at_ (by omega)
          refine zz ?_
          refine MC.draw hs [0, 1, 2, 3, 4, 5, 6, 7, 8, 9, 10, 11, 12, 13, 14, 15, 16] (by rfl) ?_; intro w hs
          refine zd ?_
          refine MC.laD true (la_load1_rd hrd hs (j := (0 : Int).toNat * 1) (v := int (rootI t + 1)) rfl rfl) rfl ?_
          refine zd ?_
          refine MC.laD true (la_load1_rd hrd hs (j := (1 : Int).toNat * 1) (v := int ((t.height : Nat) : Int)) rfl rfl) rfl ?_
          refine zd ?_
          refine MC.laD true (la_load1_rd hrd hs (j := (2 : Int).toNat * 1) (v := int ((t.count : Nat) : Int)) rfl rfl) rfl ?_
          refine zd ?_
          have hto := tOpen_spec (t := t) hs hsm0 hsm1 (by omega) hlow.root (by omega)
          rw [show rootI t = rootI t + 1 - 1 by omega] at hto
          refine MC.doesK true (does_call rfl (hto)) rfl rfl rfl ?_
          rintro _ w ⟨tq, rfl, hs⟩
          refine zh ?_
          refine zd ?_
          refine zz ?_
          have hhs := has_spec (F := sl (.slice (some ⟨bf, ofs, none⟩) 3 cf) 3 1 3 (intsV (savedF t)) :: G) hs hvv.up (by omega) hlow.keys hget hcnt hlow.root (by omega)
          refine MC.does true (does_call rfl (hhs)) rfl ?_
          rintro _ w ⟨rfl, hs⟩
          refine zz ?_
          refine MC.ret rfl ?_
          exact ⟨rfl, Suf.sat hs⟩
end
end Go.Proofs.YtjlofdodiaklaaaGreat

namespace Go.Proofs.YtjlofdodiaklaaaGreat
open Go Go.Sl Go.ChangeShapes Go.WideShapes
instance : Inhabited ActR := ⟨⟨0, .slice none 0 0, .slice none 0 0, [], []⟩⟩
instance : Inhabited GrR := ⟨⟨.slice none 0 0, []⟩⟩
theorem three {l : List Value} (h : l.length = 3) : ∃ a b c, l = [a, b, c] := by
  match l, h with
  | [a, b, c], _ => exact ⟨a, b, c, rfl⟩
theorem act22_dec {H : Type} {enc : TypeId × Value → H} {W : World} (n : Nat) (cs : List Value) (x : DataW H × List MemPlace) (h : DataW.trod enc Tryz.prog W 0 (fun _ => true) true n 46 cs = some x) : ∃ y : ActR, cs = y.row ∧ y.row.length = 3 ∧ y.ok [old W] := by
  obtain ⟨xs, m, _, _, hl, hxl, hf⟩ := DataW.trod_struct Tryz.underlying46 h
  obtain ⟨c0, c1, c2, rfl⟩ := three (l := cs) (hl.trans (by kernel_rfl))
  obtain ⟨x0, h0⟩ : ∃ x0, xs[0]? = some x0 := ⟨_, List.getElem?_eq_getElem (by rw [hxl]; decide)⟩
  obtain ⟨x1, h1⟩ : ∃ x0, xs[1]? = some x0 := ⟨_, List.getElem?_eq_getElem (by rw [hxl]; decide)⟩
  obtain ⟨x2, h2⟩ : ∃ x0, xs[2]? = some x0 := ⟨_, List.getElem?_eq_getElem (by rw [hxl]; decide)⟩
  have ci : Tryz.prog.cellsOf 3 = 1 := by kernel_rfl
  have cu : Tryz.prog.cellsOf 5 = 1 := by kernel_rfl
  have cb : Tryz.prog.cellsOf 44 = 1 := by kernel_rfl
  have e0 : DataW.trod enc Tryz.prog W 0 (fun _ => true) true m 3 (([c0, c1, c2].drop 0).take (Tryz.prog.cellsOf 3)) = some x0 := (hf 0 _ rfl).trans h0
  rw [ci] at e0
  have e1 : DataW.trod enc Tryz.prog W 0 (fun _ => true) true m 44 (([c0, c1, c2].drop 1).take (Tryz.prog.cellsOf 44)) = some x1 := (hf 1 _ rfl).trans h1
  rw [cb] at e1
  have e2 : DataW.trod enc Tryz.prog W 0 (fun _ => true) true m 44 (([c0, c1, c2].drop 2).take (Tryz.prog.cellsOf 44)) = some x2 := (hf 2 _ rfl).trans h2
  rw [cb] at e2
  obtain ⟨kd, g0, _⟩ := DataW.trod_int Tryz.underlying3 e0
  obtain ⟨qk, ck, lk, g1, _, _, hk⟩ := open_bytes_rd Tryz.underlying44 Tryz.underlying5 cu e1
  obtain ⟨qv, cv, lv, g2, _, _, hv⟩ := open_bytes_rd Tryz.underlying44 Tryz.underlying5 cu e2
  refine ⟨⟨kd, .slice qk lk.length ck, .slice qv lv.length cv, lk, lv⟩, ?_, rfl, ⟨hk, hv⟩⟩
  have g0 : [c0] = [int kd] := g0
  have g1 : [c1] = [.slice qk lk.length ck] := g1
  have g2 : [c2] = [.slice qv lv.length cv] := g2
  cases g0; cases g1; cases g2
  rfl
theorem gr_dec {H : Type} {enc : TypeId × Value → H} {W : World} (n : Nat) (cs : List Value) (x : DataW H × List MemPlace) (h : DataW.trod enc Tryz.prog W 0 (fun _ => true) true n 43 cs = some x) : ∃ y : GrR, cs = y.row ∧ y.row.length = 1 ∧ y.ok [old W] := by
  obtain ⟨q, c, ys, rfl, _, _, ho, hr⟩ := open_slice_rd (W := W) (c := 3) ActR.row (ActR.ok [old W]) Tryz.underlying43 (by kernel_rfl) (by omega) act22_dec h
  exact ⟨⟨.slice q ys.length c, ys⟩, rfl, rfl, ⟨hr, fun y hy => (ho y hy).1⟩⟩
end Go.Proofs.YtjlofdodiaklaaaGreat
