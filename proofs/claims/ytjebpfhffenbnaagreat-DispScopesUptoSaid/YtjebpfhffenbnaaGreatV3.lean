/- disp: indices, types of telescopes. -/
import Derived.Test.YtjebpfhffenbnaaGreatV2
namespace Go.Proofs.YtjebpfhffenbnaaGreat
namespace Ev
open Go
set_option maxRecDepth 100000
set_option linter.unusedSimpArgs false
set_option linter.unusedVariables false
section
attribute [local simp] allD_map_d sks_map_d tk tn tks initA EndsM one_sos one_cos one_ars one_ts
def inT (v : Vw) (n : Nat) (so : So) (l : List T) (first : Nat) (more vars : Int) : List T := shA (fun x => putT v x first more vars) (shT v first more vars n) so.idx l
theorem indices8_ok (v : Vw) (hv : VwOk v) (n : Nat) (hN : n ≤ 1000000) (k : Int) (so : So) (hk0 : 0 ≤ k) (hk : v.b.sorts[k.toNat]? = some so) (l : List T) (hll : l.length = so.idx.length) (first : Nat) (hfi : first ≤ v.args.length) (more vars : Int) (h0 : 0 ≤ more) (h1 : more ≤ 1000) (h2 : 0 ≤ vars) (h3 : vars ≤ 1000) (cons : Int)
    (hl : ∀ x ∈ l, formedM x = true ∧ okT x ∧ nodes x ≤ n) (hg : indF n (plV v first more) so l cons = true) :
    OwnC Tryz.prog n_disp_view_indices [.rp (cVw v), .int .i64 k, eTs l, .int .i64 first, .int .i64 more, .int .i64 vars] [.one (.row 3 ((inT v n so l first more vars).map eT) false)] ∧ (∀ y ∈ inT v n so l first more vars, okT y) ∧ (inT v n so l first more vars).length ≤ 40 := by
  have hp := hv.pos
  have hpl := hv.len
  have hal := hv.al
  have hsil := hv.si _ (List.mem_of_getElem? hk)
  have hklt := (List.getElem?_eq_some_iff.1 hk).1
  have hk' := (List.getElem?_eq_some_iff.1 hk).2
  have hrec : ∀ (i : Nat) (h : i < so.idx.length) (h' : i < l.length), so.idx[i].rc = true →
      Pure Tryz.prog n_disp_view_shown [.rp (cVw v), .agg (cT l[i]), .int .i64 first, .int .i64 more, .int .i64 vars] [.agg (cT (shT v first more vars n l[i]))] ∧ okT (shT v first more vars n l[i]) := fun i h h' hr => by
    obtain ⟨x1, x2, x3⟩ := hl _ (List.getElem_mem h')
    refine shown_ok v hv first hfi more vars h0 h1 h2 h3 cons n _ hN x1 x2 x3 (.inr ?_)
    rw [indF] at hg
    have hA := (allI_iff _ _ _).1 hg i h
    rw [Nat.zero_add, List.getElem?_eq_getElem h'] at hA
    simpa only [hr, if_true] using hA
  have hput : ∀ (i : Nat) (h' : i < l.length), Pure Tryz.prog n_disp_view_put [.rp (cVw v), .agg (cT l[i]), .int .i64 first, .int .i64 more, .int .i64 vars] [.agg (cT (putT v l[i] first more vars))] := fun i h' => by
    obtain ⟨x1, x2, x3⟩ := hl _ (List.getElem_mem h')
    exact put_ok8 v hp _ x1 (by omega) first (by omega) more vars h0 (by omega) h2 (by omega)
  have oAll : ∀ y ∈ inT v n so l first more vars, okT y := shA_mem _ _ fun i h h' => by
    obtain ⟨x1, x2, x3⟩ := hl _ (List.getElem_mem h')
    exact ⟨put_okT hp x1 x2 (by omega) first more vars h0 (by omega) h2 (by omega), fun hr => (hrec i h h' hr).2⟩
  have hlen := shA_len (fun x => putT v x first more vars) (shT v first more vars n) so.idx l
  refine ⟨?_, oAll, by rw [inT]; omega⟩
  have hsn := shA_snoc (fun x => putT v x first more vars) (shT v first more vars n) so.idx l
  have hsl2 := fun i => shA_len (fun x => putT v x first more vars) (shT v first more vars n) (so.idx.take i) l
  rw [inT]
  clear oAll hl hg hlen
  refine o_disp_view_indices rfl fun hs => ?_
  simp -dsimp [x_disp_view_indices, cVw, cBl, eTs, eSos, hk0, hklt, hk, hk', eSo, cSo, eArs, cT]
  refine wp_upto so.idx.length (fun i st => (st.s 0 = .d (.rp (cVw v)) ∧ st.s 2 = .d (eTs l) ∧ st.s 3 = .d (.int .i64 first) ∧ st.s 4 = .d (.int .i64 more) ∧ st.s 5 = .d (.int .i64 vars)) ∧ (st.s 12 = .rsl 12 1 ∧ st.h 12 = ⟨1, .row 3 [] false⟩) ∧
    (st.s 24 = .d (eArs so.idx) ∧ st.s 25 = .d (.int .i64 so.idx.length)) ∧ st.s 26 = .d (.int .i64 i) ∧
    ∃ u, st.s 13 = .rsl 13 u ∧ st.h 13 = ⟨u, .row 3 ((shA (fun x => putT v x first more vars) (shT v first more vars n) (so.idx.take i) l).map eT) false⟩) ?_ ?_
  · simp -dsimp [cVw, cBl, eTs, eArs, eSos, shA]
  · rintro i ⟨s, hp'⟩ hi ⟨⟨g0, g2, g3, g4, g5⟩, ⟨g12, k12⟩, ⟨g24, g25⟩, g26, u, g13, k13⟩
    dsimp only at g0 g2 g3 g4 g5 g12 k12 g24 g25 g26 g13 k13
    simp only [eTs, eArs] at g2 g24
    rcases Nat.lt_or_ge i so.idx.length with hlt | hge
    · have w2 : IntKind.i64.wrap ((i : Int) + 1) = (i : Int) + 1 := wrap_id (by omega) (by omega)
      have hltA : i < l.length := by omega
      have hsn1 := hsn i hlt hltA
      have hsl1 := hsl2 i
      rw [List.length_take] at hsl1
      have hPi := hput i hltA
      have hRi := hrec i hlt hltA
      generalize hAr : so.idx[i] = Ar_ at *
      generalize hX : l[i] = X at *
      rw [hsn1]
      generalize shA (fun x => putT v x first more vars) (shT v first more vars n) (so.idx.take i) l = G at *
      have hgl : G.length ≤ 40 := by omega
      have r1 : (G.length + 1) * 40 ≤ maxRoom := room41 hgl trivial
      have r2 : (G.length + 1 + 1) * 40 ≤ maxRoom := room42 hgl
      simp only [cT] at hPi hRi
      simp -dsimp [g0, g2, g3, g4, g5, g12, k12, g24, g25, g26, g13, k13, hlt, hltA, hAr, hX, eAr, cAr, cT]
      refine call_of hPi ?_
      cases hr : Ar_.rc with
      | false => simp -dsimp [g0, g2, g3, g4, g5, g12, k12, g24, g25, g26, g13, k13, hlt, hltA, hAr, hX, eAr, cAr, cT, hr, r1, w2, eT_eq, eTs, eArs]
      | true =>
        have hRi' := (hRi hr).1
        simp -dsimp [g0, g2, g3, g4, g5, g12, k12, g24, g25, g26, g13, k13, hlt, hltA, hAr, hX, eAr, cAr, cT, hr, r1]
        refine call_of hRi' ?_
        simp -dsimp [g0, g2, g3, g4, g5, g12, k12, g24, g25, g26, g13, k13, hlt, hltA, hAr, hX, eAr, cAr, cT, hr, r1, r2, w2, eT_eq, eTs, eArs]
    · have e : i = so.idx.length := by omega
      subst e
      rw [List.take_length] at k13
      simp -dsimp [g0, g2, g3, g4, g5, g12, k12, g24, g25, g26, g13, k13]
theorem own8_ok (v : Vw) (hv : VwOk v) (vars : Int) (h2 : 0 ≤ vars) (h3 : vars ≤ 1000) : Pure Tryz.prog n_disp_view_own [.rp (cVw v), .int .i64 vars] [eTs (v.pos.map fun p => lv p vars)] ∧ ∀ y ∈ v.pos.map (fun p => lv p vars), okT y := by
  have hp := hv.pos
  have hpl := hv.len
  have hal := hv.al
  refine ⟨?_, fun y hy => ?_⟩
  case refine_2 =>
    obtain ⟨p, hpm, rfl⟩ := List.mem_map.1 hy
    have := hp.at_ p hpm
    exact lv_okT (by omega) (by omega) (by omega) (by omega)
  refine p_disp_view_own rfl fun hs => ?_
  simp -dsimp [x_disp_view_own, cVw, cBl]
  refine wp_upto v.pos.length (fun i st => st.s 1 = .d (.int .i64 vars) ∧ (st.s 4 = .rsl 4 1 ∧ st.h 4 = ⟨1, .row 3 [] false⟩) ∧ (st.s 11 = .d (.sl 1 (v.pos.map (.int .i64))) ∧ st.s 12 = .d (.int .i64 v.pos.length)) ∧ st.s 13 = .d (.int .i64 i) ∧
    ∃ u, st.s 5 = .rsl 5 u ∧ st.h 5 = ⟨u, .row 3 (((v.pos.map fun p => lv p vars).take i).map eT) false⟩) ?_ ?_
  · simp -dsimp
  · rintro i ⟨s, hp'⟩ hi ⟨g1, ⟨g4, k4⟩, ⟨g11, g12⟩, g13, u, g5, k5⟩
    dsimp only at g1 g4 k4 g11 g12 g13 g5 k5
    rcases Nat.lt_or_ge i v.pos.length with hlt | hge
    · have w1 : IntKind.i64.wrap ((i : Int) + 1) = (i : Int) + 1 := wrap_id (by omega) (by omega)
      have hpj := hp.at_ _ (List.getElem_mem hlt)
      have hP := level_ok8 v.pos[i] vars (by omega) (by omega) (by omega) (by omega)
      have hn : ((v.pos.map fun p => lv p vars).take (i + 1)).map eT = ((v.pos.map fun p => lv p vars).take i).map eT ++ [.agg (cT (lv v.pos[i] vars))] := by
        rw [take_snoc (List.getElem?_eq_getElem (by simpa using hlt)), List.map_append]
        simp [eT_eq]
      generalize hX : lv v.pos[i] vars = X at *
      generalize hM : (v.pos.map fun p => lv p vars) = M at *
      have hMl : M.length = v.pos.length := by rw [← hM, List.length_map]
      have hr : (min i M.length + 1) * 40 ≤ maxRoom := by simp only [maxRoom]; omega
      rw [hn]
      simp only [cT] at hP
      simp -dsimp [g1, g4, k4, g11, g12, g13, g5, k5, hlt, cT]
      refine call_of hP ?_
      simp -dsimp [g1, g4, k4, g11, g12, g13, g5, k5, hlt, cT, hr, w1]
      try exact hlt
    · have e : i = v.pos.length := by omega
      subst e
      rw [List.take_of_length_le (by simp)] at k5
      simp -dsimp [g1, g4, k4, g11, g12, g13, g5, k5, eTs]
/-- Domains put. -/
def dmP (v : Vw) (first : Nat) (vars : Int) : Nat → List T → List T
  | _, [] => []
  | j, d :: ds => putT v d first j vars :: dmP v first vars (j + 1) ds
theorem dmP_snoc (v : Vw) (first : Nat) (vars : Int) : ∀ (l : List T) (j i : Nat) (h : i < l.length), dmP v first vars j (l.take (i + 1)) = dmP v first vars j (l.take i) ++ [putT v l[i] first ((j + i : Nat) : Int) vars]
  | d :: ds, j, 0, h => by simp [dmP]
  | d :: ds, j, i + 1, h => by
    simp only [List.take_succ_cons, dmP, List.getElem_cons_succ, List.cons_append]
    rw [dmP_snoc v first vars ds (j + 1) i (by simpa using h)]
    congr 4
    omega
theorem dmP_len (v : Vw) (first : Nat) (vars : Int) : ∀ (l : List T) (j : Nat), (dmP v first vars j l).length = l.length
  | [], j => rfl
  | d :: ds, j => by rw [dmP, List.length_cons, dmP_len v first vars ds, List.length_cons]
theorem dmP_mem {v : Vw} {first : Nat} {vars : Int} {q : T → Prop} : ∀ (l : List T) (j : Nat), (∀ (i : Nat) (h : i < l.length), q (putT v l[i] first ((j + i : Nat) : Int) vars)) → ∀ y ∈ dmP v first vars j l, q y
  | [], j, _, y, hy => by simp [dmP] at hy
  | d :: ds, j, h, y, hy => by
    rw [dmP] at hy
    rcases List.mem_cons.1 hy with rfl | hy
    · have := h 0 (by simp)
      simpa using this
    · refine dmP_mem ds (j + 1) (fun i hi => ?_) y hy
      have := h (i + 1) (by simpa using hi)
      simp only [List.getElem_cons_succ] at this
      rwa [show j + 1 + i = j + (i + 1) by omega]
/-- The types that an argument stands for. -/
def tyA (v : Vw) (n : Nat) (i : Nat) (p : Int) (a : Ar) : List T :=
  putT v (argTy v.b v.base a) i 0 p :: (if a.rc then [nestT 4 (dmP v i (p + 1) 0 a.dom) (spT (lv a.sort (p + 1 + a.dom.length)) ((match v.b.sorts[a.sort.toNat]? with
    | some so => inT v n so a.idx i a.dom.length (p + 1)
    | none => []) ++ [spT (lv p (p + 1 + a.dom.length)) (varsN a.dom.length)]))] else [])
def tyL (v : Vw) (n : Nat) : Nat → List Ar → List T
  | _, [] => []
  | i, a :: l => tyA v n i ((v.pos[i]?).getD 0) a ++ tyL v n (i + 1) l
theorem tyL_snoc (v : Vw) (n : Nat) : ∀ (l : List Ar) (i j : Nat) (h : j < l.length), tyL v n i (l.take (j + 1)) = tyL v n i (l.take j) ++ tyA v n (i + j) ((v.pos[i + j]?).getD 0) l[j]
  | a :: l, i, 0, h => by simp [tyL]
  | a :: l, i, j + 1, h => by
    simp only [List.take_succ_cons, tyL, List.getElem_cons_succ, List.append_assoc]
    rw [tyL_snoc v n l (i + 1) j (by simpa using h), show i + 1 + j = i + (j + 1) by omega]
theorem varsT_N (n : Nat) (h : n ≤ 65536) : varsT n = varsN n := by
  rw [varsT]
  split
  · have : n = 0 := by omega
    subst this; rfl
  · rw [Int.toNat_natCast]
theorem varsN_ok (n : Nat) (h : n ≤ 65536) : ∀ y ∈ varsN n, okT y := fun y hy => by
  simp only [varsN, List.mem_map, List.mem_range] at hy
  obtain ⟨i, hi, rfl⟩ := hy
  exact okT_leaf (by omega) (by omega)
/-- What the types of a telescope ask. -/
structure TyOk (v : Vw) (n : Nat) (cons : Int) : Prop where
  vw : VwOk v
  fit : Fit v.b
  b0 : 0 ≤ v.base
  b1 : v.base ≤ 60000
  pos : ∀ p ∈ v.pos, p ≤ 900
  ok : okArs v.args
  fine : FineArs v.args
  row : rowM v.b v.args = true
  good : rowF n v.b v.base v.args cons = true
set_option maxHeartbeats 2000000 in
theorem types8_ok (v : Vw) (n : Nat) (hN : n ≤ 1000000) (hn9 : 9000 ≤ n) (cons : Int) (H : TyOk v n cons) : Pure Tryz.prog n_disp_view_types [.rp (cVw v)] [eTs (tyL v n 0 v.args)] ∧ (∀ y ∈ tyL v n 0 v.args, okT y) ∧ (tyL v n 0 v.args).length ≤ 40 := by
  have hv := H.vw
  have hp := hv.pos
  have hpl := hv.len
  have hal := hv.al
  have hsl := H.fit.s
  obtain ⟨hr1, hr2⟩ := rowM_at H.row
  have hsn := tyL_snoc v n v.args 0
  -- what each argument gives
  have hA : ∀ (i : Nat) (hi : i < v.args.length), ∃ p : Int, v.pos[i]? = some p ∧ 0 ≤ p ∧ p ≤ 900 := fun i hi =>
    ⟨_, List.getElem?_eq_getElem (by omega), (hp.at_ _ (List.getElem_mem _)).1, H.pos _ (List.getElem_mem (by omega))⟩
  have hty : ∀ (i : Nat) (hi : i < v.args.length), formedM (argTy v.b v.base v.args[i]) = true ∧ okT (argTy v.b v.base v.args[i]) ∧ nodes (argTy v.b v.base v.args[i]) ≤ 1000000 := fun i hi => by
    have fa := H.fine.2 _ (List.getElem_mem hi)
    have oa := H.ok.2 _ (List.getElem_mem hi)
    have := argTy_nodes (b := v.b) (base := v.base) fa
    exact ⟨(argTy_right H.fit H.b0 H.b1 fa (by omega) (hr2 i hi)).2, argTy_okT _ _ oa, by omega⟩
  have hrc : ∀ (i : Nat) (hi : i < v.args.length), v.args[i].rc = true → 0 ≤ v.args[i].sort ∧ v.args[i].dom.length ≤ 12 ∧ (∀ x ∈ v.args[i].dom, formedM x = true ∧ okT x ∧ nodes x ≤ n) ∧ (∀ x ∈ v.args[i].idx, formedM x = true ∧ okT x ∧ nodes x ≤ n) ∧
      ∃ so, v.b.sorts[v.args[i].sort.toNat]? = some so ∧ v.args[i].idx.length = so.idx.length ∧ indF n (plV v i v.args[i].dom.length) so v.args[i].idx cons = true := fun i hi hr => by
    have fa := H.fine.2 _ (List.getElem_mem hi)
    have oa := H.ok.2 _ (List.getElem_mem hi)
    obtain ⟨_, s0, s1, d1, ⟨so, hso, hil⟩, hd, hx⟩ := argM_rec (hr2 i hi) hr (by omega) (by omega)
    refine ⟨s0, d1, fun x hxm => ?_, fun x hxm => ?_, so, hso, hil, ?_⟩
    · obtain ⟨j, hj, rfl⟩ := List.mem_iff_getElem.1 hxm
      have hnx : nodes v.args[i].dom[j] ≤ 9000 := Nat.le_trans (sum_mem (List.mem_map.2 ⟨_, hxm, rfl⟩)) fa.dom
      exact ⟨(in_facts (hd j hj) (by omega) (by omega) (by omega)).2.1, oa.dom.2 _ hxm, by omega⟩
    · have hnx : nodes x ≤ 9000 := Nat.le_trans (sum_mem (List.mem_map.2 ⟨_, hxm, rfl⟩)) fa.idx
      exact ⟨(in_facts (hx x hxm) (by omega) (by omega) (by omega)).2.1, oa.idx.2 _ hxm, by omega⟩
    · have hg := (allI_iff _ _ _).1 H.good i hi
      rw [Nat.zero_add, argF, if_pos hr, hso, Bool.and_eq_true] at hg
      exact hg.2
  have hTok : ∀ (i : Nat) (hi : i < v.args.length) (p : Int), v.pos[i]? = some p → 0 ≤ p → p ≤ 900 → ∀ y ∈ tyA v n i p v.args[i], okT y := fun i hi p hpi p0 p1 y hy => by
    obtain ⟨t1, t2, t3⟩ := hty i hi
    rw [tyA] at hy
    rcases List.mem_cons.1 hy with rfl | hy
    · exact put_okT hp t1 t2 t3 i 0 p (by omega) (by omega) p0 (by omega)
    · split at hy
      · rename_i hr
        obtain ⟨s0, d1, hd, hx, so, hso, hil, hg⟩ := hrc i hi hr
        have hsb := (List.getElem?_eq_some_iff.1 hso).1
        rw [List.mem_singleton] at hy
        subst hy
        rw [hso]
        have hI := indices8_ok v hv n hN v.args[i].sort so s0 hso v.args[i].idx hil i (by omega) v.args[i].dom.length (p + 1) (by omega) (by omega) (by omega) (by omega) cons hx hg
        refine nest_okT (by omega) _ (sp_okT _ _ (lv_okT (by omega) (by omega) (by omega) (by omega)) fun z hz => ?_) _ (dmP_mem _ _ fun j hj => ?_)
        · rcases List.mem_append.1 hz with hz | hz
          · exact hI.2.1 z hz
          · rw [List.mem_singleton] at hz
            subst hz
            exact sp_okT _ _ (lv_okT (by omega) (by omega) (by omega) (by omega)) (varsN_ok _ (by omega))
        · obtain ⟨x1, x2, x3⟩ := hd _ (List.getElem_mem hj)
          exact put_okT hp x1 x2 (by omega) i _ (p + 1) (by omega) (by omega) (by omega) (by omega)
      · simp at hy
  have hlen : ∀ (l : List Ar) (i : Nat), (tyL v n i l).length ≤ 2 * l.length := by
    intro l
    induction l with
    | nil => intro i; simp [tyL]
    | cons a l ih =>
      intro i
      have := ih (i + 1)
      rw [tyL, List.length_append, tyA, List.length_cons, List.length_cons]
      split <;> simp <;> omega
  have hAll : ∀ y ∈ tyL v n 0 v.args, okT y := by
    have go : ∀ j, j ≤ v.args.length → ∀ y ∈ tyL v n 0 (v.args.take j), okT y := by
      intro j
      induction j with
      | zero => intro _ y hy; simp [tyL] at hy
      | succ j ih =>
        intro hj y hy
        rw [hsn j (by omega)] at hy
        rcases List.mem_append.1 hy with hy | hy
        · exact ih (by omega) y hy
        · obtain ⟨p, hpi, p0, p1⟩ := hA j (by omega)
          rw [Nat.zero_add, hpi] at hy
          exact hTok j (by omega) p hpi p0 p1 y hy
    have := go v.args.length (Nat.le_refl _)
    rwa [List.take_length] at this
  refine ⟨?_, hAll, by have := hlen v.args 0; omega⟩
  refine p_disp_view_types rfl fun hs => ?_
  simp -dsimp [x_disp_view_types, cVw, cBl, eArs]
  refine wp_upto v.args.length (fun i st => st.s 0 = .d (.rp (cVw v)) ∧ (st.s 2 = .rsl 2 1 ∧ st.h 2 = ⟨1, .row 3 [] false⟩) ∧ (st.s 15 = .d (eArs v.args) ∧ st.s 16 = .d (.int .i64 v.args.length)) ∧ st.s 17 = .d (.int .i64 i) ∧
    ∃ u, st.s 3 = .rsl 3 u ∧ st.h 3 = ⟨u, .row 3 ((tyL v n 0 (v.args.take i)).map eT) false⟩) ?_ ?_
  · simp -dsimp [cVw, cBl, eArs, tyL]
  · rintro i ⟨s, hp'⟩ hi ⟨g0, ⟨g2, k2⟩, ⟨g15, g16⟩, g17, u, g3, k3⟩
    dsimp only at g0 g2 k2 g15 g16 g17 g3 k3
    simp only [eArs] at g15
    rcases Nat.lt_or_ge i v.args.length with hlt | hge
    · have w1 : IntKind.i64.wrap ((i : Int) + 1) = (i : Int) + 1 := wrap_id (by omega) (by omega)
      obtain ⟨p, hpi, p0, p1⟩ := hA i hlt
      have hlp : i < v.pos.length := by omega
      have hpi' : v.pos[i] = p := by have := (List.getElem?_eq_some_iff.1 hpi).2; exact this
      have hs1 := hsn i hlt
      rw [Nat.zero_add, hpi] at hs1
      have hl1 := hlen (v.args.take i) 0
      rw [List.length_take] at hl1
      rw [hs1]
      generalize tyL v n 0 (v.args.take i) = G at *
      have hgl : G.length ≤ 40 := by omega
      have hAT := argType_ok v.b v.base v.args[i] (H.ok.2 _ (List.getElem_mem hlt)) (H.fine.2 _ (List.getElem_mem hlt))
      obtain ⟨t1, t2, t3⟩ := hty i hlt
      have hPT := put_ok8 v hp (argTy v.b v.base v.args[i]) t1 t3 i (by omega) 0 p (by omega) (by omega) p0 (by omega)
      have hrci := hrc i hlt
      clear hsn hA hty hrc hTok hlen hAll
      simp only [Option.getD_some, tyA]
      generalize hR : v.args[i] = R at *
      generalize putT v (argTy v.b v.base R) i 0 p = PT at *
      generalize argTy v.b v.base R = AT at *
      simp only [eBl, cBl, cAr, cT, List.cons_append, List.nil_append] at hAT hPT
      simp -dsimp [g0, g2, k2, g15, g16, g17, g3, k3, hlt, hR, eAr, cAr, cT, cVw, cBl]
      refine call_of hAT ?_
      simp -dsimp [g0, g2, k2, g15, g16, g17, g3, k3, hlt, hR, eAr, cAr, cT, cVw, cBl, hlp, hpi, hpi']
      simp only [cVw, cBl, List.cons_append, List.nil_append] at hPT
      refine call_of hPT ?_
      cases hr : R.rc with
      | false =>
        simp -dsimp [g0, g2, k2, g15, g16, g17, g3, k3, hlt, hR, eAr, cAr, cT, cVw, cBl, hr, room41 hgl trivial, w1, eT_eq, eArs]
        done
      | true =>
        obtain ⟨s0, d1, hd, hx, so, hso, hil, hg⟩ := hrci hr
        have hI := indices8_ok v hv n hN R.sort so s0 hso R.idx hil i (by omega) R.dom.length (p + 1) (by omega) (by omega) (by omega) (by omega) cons hx hg
        have v1 : IntKind.i64.wrap (p + 1) = p + 1 := wrap_id (by omega) (by omega)
        have v2 : IntKind.i64.wrap (p + 1 + (R.dom.length : Int)) = p + 1 + R.dom.length := wrap_id (by omega) (by omega)
        have hdl := dmP_len v i (p + 1)
        have hds := dmP_snoc v i (p + 1) R.dom 0
        have hPd : ∀ (j : Nat) (hj : j < R.dom.length), Pure Tryz.prog n_disp_view_put [.rp (cVw v), .agg (cT R.dom[j]), .int .i64 i, .int .i64 j, .int .i64 (p + 1)] [.agg (cT (putT v R.dom[j] i j (p + 1)))] := fun j hj => by
          obtain ⟨x1, x2, x3⟩ := hd _ (List.getElem_mem hj)
          exact put_ok8 v hp _ x1 (by omega) i (by omega) j (p + 1) (by omega) (by omega) (by omega) (by omega)
        have hssl := (List.getElem?_eq_some_iff.1 hso).1
        have hsr : R.sort ≤ 10 := by omega
        have hL1 := level_ok8 p (p + 1 + R.dom.length) (by omega) (by omega) (by omega) (by omega)
        have oL1 := lv_okT (l := p) (vars := p + 1 + R.dom.length) (by omega) (by omega) (by omega) (by omega)
        have hV := vars_ok (R.dom.length : Int)
        rw [varsT_N _ (by omega)] at hV
        have oV := varsN_ok R.dom.length (by omega)
        have hVl := varsN_len R.dom.length
        have hS1 := spine_ok (lv p (p + 1 + R.dom.length)) (varsN R.dom.length) (by omega) oL1 ⟨by omega, oV⟩
        have oS1 := sp_okT (varsN R.dom.length) _ oL1 oV
        have hL2 := level_ok8 R.sort (p + 1 + R.dom.length) (by omega) (by omega) (by omega) (by omega)
        have oL2 := lv_okT (l := R.sort) (vars := p + 1 + R.dom.length) (by omega) (by omega) (by omega) (by omega)
        obtain ⟨hI1, hI2, hI3⟩ := hI
        rw [hso]
        simp only
        generalize inT v n so R.idx i R.dom.length (p + 1) = J at *
        generalize spT (lv p (p + 1 + R.dom.length)) (varsN R.dom.length) = S1 at *
        generalize lv p (p + 1 + R.dom.length) = L1 at *
        generalize varsN R.dom.length = Vs at *
        generalize lv R.sort (p + 1 + R.dom.length) = L2 at *
        have oJ : ∀ y ∈ J ++ [S1], okT y := fun y hy => by
          rcases List.mem_append.1 hy with hy | hy
          · exact hI2 y hy
          · rw [List.mem_singleton] at hy; subst hy; exact oS1
        have hS2 := spine_ok L2 (J ++ [S1]) (by rw [List.length_append, List.length_singleton]; omega) oL2 ⟨by rw [List.length_append, List.length_singleton]; omega, oJ⟩
        have oS2 := sp_okT (J ++ [S1]) _ oL2 oJ
        generalize spT L2 (J ++ [S1]) = S2 at *
        have oD : ∀ y ∈ dmP v i (p + 1) 0 R.dom, okT y := dmP_mem _ _ fun j hj => by
          obtain ⟨x1, x2, x3⟩ := hd _ (List.getElem_mem hj)
          exact put_okT hp x1 x2 (by omega) i _ (p + 1) (by omega) (by omega) (by omega) (by omega)
        have hPi := pis_ok (dmP v i (p + 1) 0 R.dom) S2 (by rw [hdl]; omega) oS2 ⟨by rw [hdl]; omega, oD⟩
        generalize nestT 4 (dmP v i (p + 1) 0 R.dom) S2 = PI at *
        simp only [cVw, cBl, cT, eTs, List.map_append, List.map_cons, List.map_nil, eT_eq, List.cons_append, List.nil_append] at hI1 hL1 hV hS1 hL2 hS2
        simp only [cT, eTs] at hPi
        simp -dsimp [g0, g2, k2, g15, g16, g17, g3, k3, hlt, hR, eAr, cAr, cT, cVw, cBl, hr, room41 hgl trivial, w1, hlp, hpi, hpi', v1, eTs, eArs]
        refine wp_upto R.dom.length (fun j st => (st.s 0 = .d (.rp (cVw v)) ∧ st.s 4 = .d (.int .i64 i) ∧ st.s 6 = .d (.int .i64 (p + 1)) ∧ st.s 7 = .d (.int .i64 R.dom.length)) ∧ (st.s 2 = .rsl 2 1 ∧ st.h 2 = ⟨1, .row 3 [] false⟩) ∧ (st.s 15 = .d (eArs v.args) ∧ st.s 16 = .d (.int .i64 v.args.length)) ∧ st.s 17 = .d (.int .i64 i) ∧
          (st.s 3 = .rsl 3 (u + 1) ∧ st.h 3 = ⟨u + 1, .row 3 (G.map eT ++ [.agg (cT PT)]) false⟩) ∧
          (st.s 5 = .ptr 5 ((hp' 5).ver + 1) 0 ∧ st.h 5 = ⟨(hp' 5).ver + 1, .box [.d (.bool true), .d (.int .i64 R.ty.kind), .d (.int .i64 R.ty.num), .d (.sl 3 (R.ty.kids.map eT)), .d (eTs R.dom), .d (.int .i64 R.sort), .d (eTs R.idx)] false⟩) ∧
          (st.s 60 = .d (eTs R.dom) ∧ st.s 61 = .d (.int .i64 R.dom.length)) ∧ st.s 62 = .d (.int .i64 j) ∧ ∃ w, st.s 8 = .rsl 8 w ∧ st.h 8 = ⟨w, .row 3 ((dmP v i (p + 1) 0 (R.dom.take j)).map eT) false⟩) ?_ ?_
        · simp -dsimp [g0, g2, k2, g15, g16, g17, g3, k3, hR, eAr, cAr, cT, cVw, cBl, hr, eTs, eArs, dmP]
        · clear g0 g2 k2 g15 g16 g17 g3 k3
          rintro j ⟨s, hq⟩ hj ⟨⟨g0, g4, g6, g7⟩, ⟨g2, k2⟩, ⟨g15, g16⟩, g17, ⟨g3, k3⟩, ⟨g5, k5⟩, ⟨g60, g61⟩, g62, w, g8, k8⟩
          dsimp only at g0 g4 g6 g7 g2 k2 g15 g16 g17 g3 k3 g5 k5 g60 g61 g62 g8 k8
          simp only [eTs, eArs] at g15 k5 g60
          rcases Nat.lt_or_ge j R.dom.length with hlt2 | hge2
          · have w2 : IntKind.i64.wrap ((j : Int) + 1) = (j : Int) + 1 := wrap_id (by omega) (by omega)
            have hPj := hPd j hlt2
            have hds1 := hds j hlt2
            have hdl1 := hdl (R.dom.take j) 0
            rw [List.length_take] at hdl1
            rw [Nat.zero_add] at hds1
            rw [hds1]
            generalize dmP v i (p + 1) 0 (R.dom.take j) = E at *
            have hel : E.length ≤ 40 := by omega
            generalize putT v R.dom[j] i j (p + 1) = Y at *
            generalize hX : R.dom[j] = X at *
            simp only [cVw, cBl, cT, List.cons_append, List.nil_append] at hPj
            simp -dsimp [g0, g4, g6, g7, g2, k2, g15, g16, g17, g3, k3, g5, k5, g60, g61, g62, g8, k8, hlt2, hX, cT, cVw, cBl]
            refine call_of hPj ?_
            simp -dsimp [g0, g4, g6, g7, g2, k2, g15, g16, g17, g3, k3, g5, k5, g60, g61, g62, g8, k8, hlt2, hX, cT, cVw, cBl, room41 hel trivial, w2, eT_eq, eTs, eArs]
            done
          · have ej : j = R.dom.length := by omega
            subst ej
            rw [List.take_length] at k8
            simp only [cVw, cBl, eTs, List.cons_append, List.nil_append] at g0 hI1
            simp -dsimp [g0, g4, g6, g7, g2, k2, g15, g16, g17, g3, k3, g5, k5, g60, g61, g62, g8, k8, eTs]
            refine callO_of hI1 (by simp [rowsV, rowsC, RV.cells]) ?_
            simp -dsimp [g0, g4, g6, g7, g2, k2, g15, g16, g17, g3, k3, g5, k5, g60, g61, g62, g8, k8, hlp, hpi, hpi', v2]
            refine call_of hL1 ?_
            simp -dsimp [g0, g4, g6, g7, g2, k2, g15, g16, g17, g3, k3, g5, k5, g60, g61, g62, g8, k8, cT]
            refine call_of hV ?_
            simp -dsimp [g0, g4, g6, g7, g2, k2, g15, g16, g17, g3, k3, g5, k5, g60, g61, g62, g8, k8, cT]
            refine call_of hS1 ?_
            simp -dsimp [g0, g4, g6, g7, g2, k2, g15, g16, g17, g3, k3, g5, k5, g60, g61, g62, g8, k8, cT, room41 hI3 trivial, v2]
            refine call_of hL2 ?_
            simp -dsimp [g0, g4, g6, g7, g2, k2, g15, g16, g17, g3, k3, g5, k5, g60, g61, g62, g8, k8, cT]
            refine call_of hS2 ?_
            simp -dsimp [g0, g4, g6, g7, g2, k2, g15, g16, g17, g3, k3, g5, k5, g60, g61, g62, g8, k8, cT]
            refine call_of hPi ?_
            simp -dsimp [g0, g4, g6, g7, g2, k2, g15, g16, g17, g3, k3, g5, k5, g60, g61, g62, g8, k8, cT, room42 hgl, w1, eT_eq, cVw, cBl, eArs]
            try exact hlt
    · have e : i = v.args.length := by omega
      subst e
      rw [List.take_length] at k3
      simp -dsimp [g0, g2, k2, g15, g16, g17, g3, k3, eTs]
end
end Ev
end Go.Proofs.YtjebpfhffenbnaaGreat
