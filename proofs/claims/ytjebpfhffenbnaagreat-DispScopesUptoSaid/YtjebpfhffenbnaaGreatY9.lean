/- DispScopes. -/
import Derived.Test.YtjebpfhffenbnaaGreatY8
namespace Go.Proofs.YtjebpfhffenbnaaGreat
namespace Ev
open Go
set_option maxRecDepth 100000
set_option linter.unusedSimpArgs false
set_option linter.unusedVariables false
section
attribute [local simp] allD_map_d sks_map_d tk tn tks initA EndsM one_sos one_cos one_ars one_ts
theorem mot_row8 {b : Bl} (fb : FineBl b) (hf : Fit b) {base k : Int} (hp : positE 9000 b base = 0) (b1 : base ≤ 60000) {so : So} (k0 : 0 ≤ k) (hk : b.sorts[k.toNat]? = some so) : Row8 b base so.idx k 0 := by
  obtain ⟨hz, b0, _, hpos⟩ := posE_zero8 hp
  obtain ⟨z1, z4, z8, zl, zs, zc⟩ := (checkB_zero b).1 hz
  obtain ⟨hlt, hS⟩ := List.getElem?_eq_some_iff.1 hk
  have fs := fb.sorts _ (List.getElem_mem hlt)
  have hsm := zs _ hlt
  rw [hS] at fs hsm
  obtain ⟨hrow, _, _, hbad⟩ := (sortM_true _ _ _).1 hsm
  have hfs := hf.s
  exact ⟨hf, b0, b1, fs.idx, hrow, sort_good hpos hk, k0, by omega, fun c hc => by omega, fun a ha hr => by
    have := hbad a ha
    rw [sortBad, if_pos hr] at this
    split at this
    · cases this
    · split at this
      · cases this
      · omega⟩
theorem own_sum (l : List Ar) (e V : Int) : (((posL e l).map fun p => lv p V).map nodes).sum = l.length := by
  rw [leaf_sum (fun p => lv p V) (fun p => leaf_nodes _ _), pos_len]
theorem mot_nodes {b : Bl} (fb : FineBl b) (hf : Fit b) {base k : Int} (hp : positE 9000 b base = 0) (b1 : base ≤ 60000) {so : So} (k0 : 0 ≤ k) (hk : b.sorts[k.toNat]? = some so) : nodes (motT b base k so) ≤ 1099511627776 := by
  have R := mot_row8 fb hf hp b1 k0 hk
  have h := ty_nodes8 R
  have hl := R.fine.1
  have hm : 300000000 * so.idx.length ≤ 300000000 * 20 := Nat.mul_le_mul_left _ hl
  rw [mot_is, nest_nodes, motL, List.map_append, List.sum_append, List.length_append, List.map_cons, List.map_nil, List.sum_cons, List.sum_nil, sp_nodes', own_sum, List.length_map, pos_len, List.length_singleton,
    show nodes (tC _) = 1 from leaf_nodes _ _, leaf_nodes]
  omega
theorem met_nodes {b : Bl} (fb : FineBl b) (hf : Fit b) {base c : Int} (hp : positE 9000 b base = 0) (b1 : base ≤ 60000) (k0 : 0 ≤ c) {S : Co} (hk : b.cons[c.toNat]? = some S) {so : So} (hso : b.sorts[S.sort.toNat]? = some so) : nodes (metT b base c S so) ≤ 1099511627776 := by
  obtain ⟨hz, b0, _, hpos⟩ := posE_zero8 hp
  obtain ⟨z1, z4, z8, zl, zs, zc⟩ := (checkB_zero b).1 hz
  obtain ⟨hlt, hS⟩ := List.getElem?_eq_some_iff.1 hk
  obtain ⟨hsg, so1, hso1, hig⟩ := con_good hpos hk
  have fs := fb.cons _ (List.getElem_mem hlt)
  have hcon := zc _ (List.getElem_mem hlt)
  rw [hS] at fs hcon
  obtain ⟨hrow, s0, so2, hso2, hil2⟩ := con_parts hcon
  rw [hso] at hso1 hso2
  cases hso1
  cases hso2
  rw [show ((c.toNat : Nat) : Int) = c by omega] at hsg hig
  have hsl := (List.getElem?_eq_some_iff.1 hso).1
  have hal := fs.args.1
  have hfs := hf.s
  have hfc := hf.c
  have R : Row8 b base S.args (b.sorts.length + c) c := ⟨hf, b0, b1, fs.args, hrow, hsg, by omega, by omega, fun c' hc => by omega, fun a ha hr => by
    obtain ⟨j, hj, rfl⟩ := List.mem_iff_getElem.1 ha
    have := argM_rec ((rowM_at hrow).2 j hj) hr (by omega) (by omega)
    omega⟩
  have h := ty_nodes8 R
  have hm : 300000000 * S.args.length ≤ 300000000 * 20 := Nat.mul_le_mul_left _ hal
  have hI := in_nodes8 (metV b base c S) so (l := S.idx) (fun x hx => by
    have hnx : nodes x ≤ 9000 := Nat.le_trans (sum_mem (List.mem_map.2 ⟨_, hx, rfl⟩)) fs.idx
    exact ⟨(in_facts (con_idx hcon hx) (by omega) (by omega) (by omega)).2.1, hnx⟩) fs.idx fs.idxL S.args.length 0 (metV b base c S).fin
  have e3 : metT b base c S so = nestT 4 (tyL (vwOf b base S.args (b.sorts.length + c)) 9000 0 S.args) (metB b base c S so) := rfl
  have e4 : (metV b base c S).pos = posL (b.sorts.length + c) S.args := rfl
  rw [e3, nest_nodes, metB, sp_nodes', List.map_append, List.sum_append, List.length_append, List.map_cons, List.map_nil, List.sum_cons, List.sum_nil, sp_nodes', e4, own_sum, List.length_map, pos_len, List.length_singleton,
    show nodes (tC _) = 1 from leaf_nodes _ _, show nodes (lv _ _) = 1 from leaf_nodes _ _]
  omega
theorem scope8 {t : T} {V : Int} (h : In8 t V) (h0 : 0 ≤ V) (h1 : V ≤ 60000) (hn : nodes t ≤ 1099511627776) (hc : checkM t = 0) : scopeM t V 65536 = true := by
  obtain ⟨n1, _, _⟩ := (check_iff2 hn).1 hc
  exact (scope_is h0 (by omega) (by omega)).2 ⟨hc, h.wi⟩
set_option maxHeartbeats 8000000 in
theorem scopes11_law (b : Bl) (ob : okBl b) (hb : bulk (eBl b) ≤ 1048576) (base k : Int) : Pure Tryz.prog n_porismlaw11_DispScopes [eBl b, .int .i64 base, .int .i64 k] [.bool true] := by
  refine p_porismlaw11_DispScopes rfl fun hs => ?_
  have hH := heavy07_ok b
  simp only [eBl, cBl] at hH
  simp -dsimp [x_porismlaw11_DispScopes, eBl, cBl]
  refine call_of hH ?_
  simp -dsimp
  (first | refine Ask_b ?_ ?_ | refine Cnd_b ?_ ?_) <;> intro h1 <;> (try simp only [decide_eq_true_eq, decide_eq_false_iff_not, beq_iff_eq, beq_eq_false_iff_ne, bne_iff_ne, bne_eq_false_iff_eq, Bool.not_eq_true', Bool.not_eq_false', Bool.and_eq_true, Bool.or_eq_true, Bool.and_eq_false_iff, Bool.or_eq_false_iff] at h1) <;> simp -dsimp [h1]
  have hf := fit_of h1
  have fb := fine_of hb h1
  have hfs := hf.s
  have hfc := hf.c
  obtain ⟨B0, B1⟩ := rem_le base 1000 (by omega) (by omega)
  generalize IntKind.i64.wrap ((IntKind.u64.wrap base).tmod 1000) = B at B0 B1 ⊢
  have hP := posit7_ok 9000 (by omega) (by omega) b ob fb hf B
  simp only [eBl, cBl] at hP
  refine call_of hP ?_
  by_cases hp : positE 9000 b B = 0
  case neg => simp -dsimp [hp]
  obtain ⟨hz, _, _, hpos⟩ := posE_zero8 hp
  obtain ⟨z1, z4, z8, zl, zs, zc⟩ := (checkB_zero b).1 hz
  have q2 : IntKind.u64.wrap (b.sorts.length : Int) = (b.sorts.length : Int) := u64_id (by omega) (by omega)
  have q3 : ¬((b.sorts.length : Int) = 0) := by omega
  have q4 : ¬ b.sorts = [] := fun h => by rw [h] at z1; simp at z1
  simp -dsimp [hp, q2, q3, q4, eSos]
  obtain ⟨K0, K1⟩ := rem_le k (b.sorts.length : Int) (by omega) (by omega)
  generalize IntKind.i64.wrap ((IntKind.u64.wrap k).tmod (b.sorts.length : Int)) = K at K0 K1 ⊢
  have hlt : K.toNat < b.sorts.length := by omega
  have hget : b.sorts[K.toNat]? = some b.sorts[K.toNat] := List.getElem?_eq_getElem hlt
  have hM1 := motive_ok b ob fb hf B K (by omega)
  have hU1 := mot_unpis ob fb hf hp (by omega) K0 hget
  have hm1 := mot_at hp K0 hget
  obtain ⟨I1, I2⟩ := mot_in8 fb hf hp (by omega) K0 hget
  have hN1 := mot_nodes fb hf hp (by omega) K0 hget
  have hE := e045_8 I1.fm
  rw [hm1.1, hm1.2] at hM1
  have hSc := scope_ok (motT b B K b.sorts[K.toNat]) K 65536
  have hS1 := fun h => scope8 I1 K0 (by omega) hN1 h
  have hil := (fb.sorts _ (List.getElem_mem hlt)).idx.1
  clear hm1 I1 hN1
  generalize hX : b.sorts[K.toNat] = X at *
  generalize motL b B K X = ML at *
  generalize motT b B K X = M1 at *
  simp only [rightT] at hM1
  simp only [eBl, cBl, cT, eTs, eSos, tk, tn, tks, List.map_nil] at hM1 hU1 hSc
  refine call_of hM1 ?_
  by_cases hc : checkM M1 = 0
  case neg =>
    rcases hE with hE | hE | hE
    · exact absurd hE hc
    · simp -dsimp [hE]
      refine call_of wakes11_ok ?_
      simp -dsimp
    · simp -dsimp [hE]
      refine call_of wakes11_ok ?_
      simp -dsimp
  rw [hS1 hc] at hSc
  rw [if_pos hc] at *
  simp -dsimp [hc]
  refine call_of hU1 ?_
  simp -dsimp [hc]
  refine wp_upto X.idx.length (fun i st => (st.s 1 = .d (.int .i64 B) ∧ st.s 2 = .d (.int .i64 K)) ∧ (st.s 3 = .ptr 3 1 0 ∧ st.h 3 = ⟨1, .box [.d (eSos b.sorts), .d (eCos b.cons), .d (.int .i64 b.elim)] false⟩) ∧ (st.s 7 = .ptr 7 1 0 ∧ st.h 7 = ⟨1, .box [.d (.int .i64 M1.kind), .d (.int .i64 M1.num), .d (.sl 3 (M1.kids.map eT))] false⟩) ∧
    st.s 9 = .d (.sl 3 (ML.map eT)) ∧ (st.s 10 = .ptr 10 1 0 ∧ st.h 10 = ⟨1, .box [.d (.int .i64 2), .d (.int .i64 b.elim), .d (.sl 3 [])] false⟩) ∧ st.s 11 = .d (.int .i64 (finL 0 (X.idx.take i) + 1)) ∧ st.s 12 = .d (.int .i64 i)) ?_ ?_
  · simp -dsimp [eSos, finL]
  · rintro i ⟨s, hq⟩ hi ⟨⟨g1, g2⟩, ⟨g3, k3⟩, ⟨g7, k7⟩, g9, ⟨g10, k10⟩, g11, g12⟩
    dsimp only at g1 g2 g3 k3 g7 k7 g9 g10 k10 g11 g12
    simp only [eSos] at k3
    rcases Nat.lt_or_ge i X.idx.length with hlt2 | hge
    · have w1 : IntKind.i64.wrap ((i : Int) + 1) = (i : Int) + 1 := wrap_id (by omega) (by omega)
      have hfi := fin_le (X.idx.take i) 0
      rw [List.length_take] at hfi
      have hfsn := fin_snoc X.idx 0 i hlt2
      rw [hfsn]
      generalize finL 0 (X.idx.take i) = F at *
      have w2 : IntKind.i64.wrap (F + 1 + 1) = F + 1 + 1 := wrap_id (by omega) (by omega)
      have w3 : IntKind.i64.wrap (F + 1 + 1 + 1) = F + 2 + 1 := by rw [wrap_id (by omega) (by omega)]; omega
      generalize hR : X.idx[i] = R at *
      cases hr : R.rc with
      | true => simp -dsimp [g1, g2, g3, k3, g7, k7, g9, g10, k10, g11, g12, K0, hlt, hget, hX, eSo, cSo, cT, eArs, hlt2, hR, eAr, cAr, hr, w1, w2, w3, eSos]
      | false => simp -dsimp [g1, g2, g3, k3, g7, k7, g9, g10, k10, g11, g12, K0, hlt, hget, hX, eSo, cSo, cT, eArs, hlt2, hR, eAr, cAr, hr, w1, w2, w3, eSos]
    · have e : i = X.idx.length := by omega
      subst e
      rw [List.take_length] at g11
      have hML : (ML.length : Int) = finL 0 X.idx + 1 := I2
      simp -dsimp [g1, g2, g3, k3, g7, k7, g9, g10, k10, g11, g12, K0, hlt, hget, hX, eSo, cSo, cT, eArs]
      refine call_of hSc ?_
      simp -dsimp [g1, g2, g3, k3, g7, k7, g9, g10, k10, g11, g12, hML]
      refine wp_upto b.cons.length (fun i st => st.s 1 = .d (.int .i64 B) ∧ (st.s 3 = .ptr 3 1 0 ∧ st.h 3 = ⟨1, .box [.d (eSos b.sorts), .d (eCos b.cons), .d (.int .i64 b.elim)] false⟩) ∧ st.s 13 = .d (.int .i64 i)) ?_ ?_
      · simp -dsimp [g1, g3, k3, eSos]
        done
      · clear g1 g2 g3 k3 g7 k7 g9 g10 k10 g11 g12
        rintro i ⟨s, hq⟩ hi ⟨g1, ⟨g3, k3⟩, g13⟩
        dsimp only at g1 g3 k3 g13
        simp only [eSos, eCos] at k3
        rcases Nat.lt_or_ge i b.cons.length with hlt3 | hge3
        · have w1 : IntKind.i64.wrap ((i : Int) + 1) = (i : Int) + 1 := wrap_id (by omega) (by omega)
          have w2 : IntKind.i64.wrap ((b.sorts.length : Int) + (i : Int)) = (b.sorts.length : Int) + i := wrap_id (by omega) (by omega)
          have hM := method_ok b ob fb hf B i (by omega)
          have hgc : b.cons[(i : Int).toNat]? = some b.cons[i] := by rw [Int.toNat_natCast]; exact List.getElem?_eq_getElem hlt3
          obtain ⟨_, s0, so, hso, _⟩ := con_parts (zc _ (List.getElem_mem hlt3))
          obtain ⟨m1, m2⟩ := met_at hp (by omega) hgc hso
          obtain ⟨J1, _⟩ := met_in8 fb hf hp (by omega) (by omega) hgc hso
          have hN := met_nodes fb hf hp (by omega) (by omega) hgc hso
          rw [m1, m2] at hM
          have hSc2 := scope_ok (metT b B i b.cons[i] so) (b.sorts.length + i) 65536
          have hS2 := fun h => scope8 J1 (by omega) (by omega) hN h
          generalize metT b B i b.cons[i] so = MT at *
          simp only [rightT] at hM
          simp only [eBl, cBl, cT, eSos, eCos] at hM hSc2
          simp -dsimp [g1, g3, k3, g13, hlt3]
          refine call_of hM ?_
          by_cases hcm : checkM MT = 0
          · rw [hS2 hcm] at hSc2
            simp -dsimp [g1, g3, k3, g13, hlt3, hcm, w2]
            refine call_of hSc2 ?_
            simp -dsimp [g1, g3, k3, g13, hlt3, hcm, w1, eSos, eCos]
          · simp -dsimp [g1, g3, k3, g13, hlt3, hcm, w1, eSos, eCos]
        · have e : i = b.cons.length := by omega
          subst e
          simp -dsimp [g1, g3, k3, g13]
          refine call_of wakes11_ok ?_
          simp -dsimp
end
end Ev
end Go.Proofs.YtjebpfhffenbnaaGreat
