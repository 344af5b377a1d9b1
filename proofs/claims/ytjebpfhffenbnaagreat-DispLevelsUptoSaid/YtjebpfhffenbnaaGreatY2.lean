/- DispLevels. -/
import Derived.Test.YtjebpfhffenbnaaGreatY1
namespace Go.Proofs.YtjebpfhffenbnaaGreat
namespace Ev
open Go
set_option maxRecDepth 100000
set_option linter.unusedSimpArgs false
set_option linter.unusedVariables false
section
attribute [local simp] allD_map_d sks_map_d tk tn tks initA EndsM one_sos one_cos one_ars one_ts
theorem nest_check {t t' : T} (h1 : sizeM t = sizeM t') (h2 : depthM t = depthM t') (h3 : formedM t = formedM t') (l : List T) : checkM (nestT 4 l t) = checkM (nestT 4 l t') := by
  have h : sizeM (nestT 4 l t) = sizeM (nestT 4 l t') ∧ depthM (nestT 4 l t) = depthM (nestT 4 l t') ∧ formedM (nestT 4 l t) = formedM (nestT 4 l t') := by
    induction l with
    | nil => exact ⟨h1, h2, h3⟩
    | cons x xs ih =>
      obtain ⟨i1, i2, i3⟩ := ih
      refine ⟨?_, ?_, ?_⟩
      · show sizeM (.mk 4 0 [x, nestT 4 xs t]) = sizeM (.mk 4 0 [x, nestT 4 xs t'])
        rw [sizeM, sizeM, List.map_cons, List.map_cons, List.map_cons, List.map_cons, i1]
      · show depthM (.mk 4 0 [x, nestT 4 xs t]) = depthM (.mk 4 0 [x, nestT 4 xs t'])
        rw [depthM, depthM, List.map_cons, List.map_cons, List.map_cons, List.map_cons, i2]
      · show formedM (.mk 4 0 [x, nestT 4 xs t]) = formedM (.mk 4 0 [x, nestT 4 xs t'])
        rw [formedM_is, formedM_is]
        simp only [List.length_cons, List.all_cons, i3]
  rw [checkM, checkM, h.1, h.2.1, h.2.2]
theorem motL_ok {b : Bl} (ob : okBl b) (fb : FineBl b) (hf : Fit b) {base k : Int} (hp : positE 9000 b base = 0) (b1 : base ≤ 60000) {so : So} (k0 : 0 ≤ k) (hk : b.sorts[k.toNat]? = some so) : (∀ y ∈ motL b base k so, okT y) ∧ (motL b base k so).length ≤ 41 := by
  obtain ⟨hz, b0, _, hpos⟩ := posE_zero8 hp
  obtain ⟨z1, z4, z8, zl, zs, zc⟩ := (checkB_zero b).1 hz
  obtain ⟨hlt, hS⟩ := List.getElem?_eq_some_iff.1 hk
  have hsg := sort_good hpos hk
  have os := ob.sorts _ (List.getElem_mem hlt)
  have fs := fb.sorts _ (List.getElem_mem hlt)
  have hrow := sort_row (zs _ hlt)
  rw [hS] at os fs hrow
  have hT := ty_ok hz fb hf b0 b1 os.idx fs.idx hrow hsg (e := k) k0 (by omega)
  have hfl := fin_le so.idx k
  have hil := fs.idx.1
  obtain ⟨_, oOwn⟩ := own8_ok (vwOf b base so.idx k) hT.vw (finL k so.idx) (by omega) (by omega)
  have hfi := former_is hf b0 (by omega : base ≤ 65535) k
  rw [if_pos ⟨k0, by omega⟩] at hfi
  have oC : okT (tC (former b base k)) := okT_leaf (by omega) (by omega)
  have oSp := sp_okT _ _ oC oOwn
  obtain ⟨_, h2, h3⟩ := types8_ok (vwOf b base so.idx k) 9000 (by omega) (by omega) 0 hT
  have e0 : (vwOf b base so.idx k).args = so.idx := rfl
  rw [e0] at h2 h3
  refine ⟨fun y hy => ?_, by rw [motL, List.length_append, List.length_singleton]; omega⟩
  rw [motL] at hy
  rcases List.mem_append.1 hy with hy | hy
  · exact h2 y hy
  · rw [List.mem_singleton] at hy
    subst hy
    exact oSp
theorem lv_okBl {b : Bl} (ob : okBl b) {e : Int} (he : 0 ≤ e ∧ e ≤ 6) : okBl (lvB b e) := ⟨ob.sortsL, ob.sorts, ob.consL, ob.cons, ⟨by show _ ≤ e; omega, by show e < _; omega⟩⟩
theorem lv_fine {b : Bl} (fb : FineBl b) (e : Int) : FineBl (lvB b e) := ⟨fb.s, fb.c, fb.sorts, fb.cons⟩
theorem lv_fit {b : Bl} (hf : Fit b) (e : Int) : Fit (lvB b e) := ⟨hf.s, hf.c⟩
/-- Motives of a positive block. -/
theorem mot_at {b : Bl} {base k : Int} (hp : positE 9000 b base = 0) (k0 : 0 ≤ k) {so : So} (hk : b.sorts[k.toNat]? = some so) : motE b base k = checkM (motT b base k so) ∧ motR b base k = rightT (motT b base k so) := by
  have hlt := (List.getElem?_eq_some_iff.1 hk).1
  have hm : mayP b base k b.sorts.length = 0 := by rw [mayP, if_neg (by omega), hp]
  have e : motE b base k = checkM (motT b base k so) := by rw [motE, if_pos hm, hk]
  exact ⟨e, by rw [motR, rightT, e, hk]⟩
theorem mot_unpis {b : Bl} (ob : okBl b) (fb : FineBl b) (hf : Fit b) {base k : Int} (hp : positE 9000 b base = 0) (b1 : base ≤ 60000) {so : So} (k0 : 0 ≤ k) (hk : b.sorts[k.toNat]? = some so) :
    Pure Tryz.prog n_porismref01_Unpis [.agg (cT (motT b base k so))] [eTs (motL b base k so), .agg (cT (.mk 2 b.elim []))] := by
  obtain ⟨hL, hLl⟩ := motL_ok ob fb hf hp b1 k0 hk
  have e := pi_back (motL b base k so) (.mk 2 b.elim [])
  have e2 := pi_head (t := .mk 2 b.elim []) (by show (2 : Int) ≠ 4; decide)
  rw [e2.1, e2.2, List.append_nil, ← mot_is] at e
  have h := runpis_ok (motT b base k so) (by rw [e.1]; omega) (by rw [e.2]; exact .mk _ _ _ (by simp only [n64]; omega) ob.elim (by simp) (by simp)) (by rw [e.1]; exact ⟨by omega, hL⟩)
  rw [e.1, e.2] at h
  exact h
set_option maxHeartbeats 4000000 in
theorem levels11_law (b : Bl) (ob : okBl b) (hb : bulk (eBl b) ≤ 1048576) (base k level : Int) : Pure Tryz.prog n_porismlaw11_DispLevels [eBl b, .int .i64 base, .int .i64 k, .int .i64 level] [.bool true] := by
  refine p_porismlaw11_DispLevels rfl fun hs => ?_
  have hH := heavy07_ok b
  simp only [eBl, cBl] at hH
  simp -dsimp [x_porismlaw11_DispLevels, eBl, cBl]
  refine call_of hH ?_
  simp -dsimp
  (first | refine Ask_b ?_ ?_ | refine Cnd_b ?_ ?_) <;> intro h1 <;> (try simp only [decide_eq_true_eq, decide_eq_false_iff_not, beq_iff_eq, beq_eq_false_iff_ne, bne_iff_ne, bne_eq_false_iff_eq, Bool.not_eq_true', Bool.not_eq_false', Bool.and_eq_true, Bool.or_eq_true, Bool.and_eq_false_iff, Bool.or_eq_false_iff] at h1) <;> simp -dsimp [h1]
  have hf := fit_of h1
  have fb := fine_of hb h1
  have hfs := hf.s
  have hfc := hf.c
  obtain ⟨B0, B1⟩ := rem_le base 1000 (by omega) (by omega)
  generalize IntKind.i64.wrap ((IntKind.u64.wrap base).tmod 1000) = B at B0 B1 ⊢
  have hP := posit7_ok 9000 (by omega) (by omega) b ob fb hf B
  simp only [eBl, cBl] at hP
  refine call_of hP ?_
  by_cases hp : positE 9000 b B = 0
  case neg => simp -dsimp [hp]
  obtain ⟨hz, _, _, hpos⟩ := posE_zero8 hp
  obtain ⟨z1, z4, z8, zl, zs, zc⟩ := (checkB_zero b).1 hz
  have q2 : IntKind.u64.wrap (b.sorts.length : Int) = (b.sorts.length : Int) := u64_id (by omega) (by omega)
  have q3 : ¬((b.sorts.length : Int) = 0) := by omega
  have q4 : ¬ b.sorts = [] := fun h => by rw [h] at z1; simp at z1
  have hT := twinBlock_ok b ob
  simp only [eBl, cBl] at hT
  simp -dsimp [hp]
  obtain ⟨L0, L1⟩ := rem_le level 7 (by omega) (by omega)
  generalize IntKind.i64.wrap ((IntKind.u64.wrap level).tmod 7) = L at L0 L1 ⊢
  refine call_of hT ?_
  simp -dsimp [q2, q3, q4, eSos]
  obtain ⟨K0, K1⟩ := rem_le k (b.sorts.length : Int) (by omega) (by omega)
  generalize IntKind.i64.wrap ((IntKind.u64.wrap k).tmod (b.sorts.length : Int)) = K at K0 K1 ⊢
  have hL6 : 0 ≤ L ∧ L ≤ 6 := ⟨L0, by omega⟩
  have hlt : K.toNat < b.sorts.length := by omega
  have hget : b.sorts[K.toNat]? = some b.sorts[K.toNat] := List.getElem?_eq_getElem hlt
  have hM1 := motive_ok b ob fb hf B K (by omega)
  have hM2 := motive_ok (lvB b L) (lv_okBl ob hL6) (lv_fine fb L) (lv_fit hf L) B K (by omega)
  have hpx := lv_posit ob hL6 hp
  have hU1 := mot_unpis ob fb hf hp (by omega) K0 hget
  have hU2 := mot_unpis (lv_okBl ob hL6) (lv_fine fb L) (lv_fit hf L) hpx (by omega) K0 (so := b.sorts[K.toNat]) hget
  have hm1 := mot_at hp K0 hget
  have hm2 := mot_at hpx K0 (so := b.sorts[K.toNat]) hget
  have hsame : checkM (motT (lvB b L) B K b.sorts[K.toNat]) = checkM (motT b B K b.sorts[K.toNat]) := by
    rw [mot_is, mot_is, lv_motL]
    have hel : inB b.elim 0 65535 = true := by
      rw [levelM, Bool.and_eq_true, decide_eq_true_eq, decide_eq_true_eq] at zl
      exact (inB_iff _ _ _).2 ⟨by omega, by omega⟩
    have hel2 : inB (lvB b L).elim 0 65535 = true := (inB_iff _ _ _).2 ⟨by show 0 ≤ L; omega, by show L ≤ 65535; omega⟩
    refine nest_check (by rw [sizeM, sizeM]) (by rw [depthM, depthM]) ?_ _
    have h0 : kidsM 2 = 0 := rfl
    rw [formedM_is, formedM_is, hel, hel2, h0]
    rfl
  rw [hm1.1, hm1.2] at hM1
  rw [hm2.1, hm2.2, hsame] at hM2
  rw [lv_motL] at hU2
  have hkT := keepTerms_ok (motL b B K b.sorts[K.toNat])
  have e2 : (lvB b L).elim = L := rfl
  rw [e2] at hU2
  have eb : eBl (lvB b L) = .agg [eSos b.sorts, eCos b.cons, .int .i64 L] := rfl
  rw [eb] at hM2
  generalize motL b B K b.sorts[K.toNat] = ML at *
  have hr2 : rightT (motT (lvB b L) B K b.sorts[K.toNat]) = if checkM (motT b B K b.sorts[K.toNat]) = 0 then motT (lvB b L) B K b.sorts[K.toNat] else zT := by rw [rightT, hsame]
  have hr1 : rightT (motT b B K b.sorts[K.toNat]) = if checkM (motT b B K b.sorts[K.toNat]) = 0 then motT b B K b.sorts[K.toNat] else zT := rfl
  rw [hr1] at hM1
  rw [hr2] at hM2
  clear hm1 hm2 hr1 hr2 hsame
  generalize motT (lvB b L) B K b.sorts[K.toNat] = M2 at *
  generalize motT b B K b.sorts[K.toNat] = M1 at *
  simp only [eBl, cBl, cT, eTs, eSos, tk, tn, tks, List.map_nil] at hM1 hM2 hU1 hU2 hkT
  refine call_of hM1 ?_
  simp -dsimp
  refine call_of hM2 ?_
  by_cases hc : checkM M1 = 0
  case neg =>
    simp -dsimp [hc]
    refine call_of wakes11_ok ?_
    simp -dsimp
  rw [if_pos hc] at *
  simp -dsimp [hc]
  refine call_of hU1 ?_
  simp -dsimp [hc]
  refine call_of hU2 ?_
  simp -dsimp [hc]
  refine call_of hkT ?_
  simp -dsimp [hc]
  refine wp_upto b.cons.length (fun i st => st.s 1 = .d (.int .i64 B) ∧ (st.s 4 = .ptr 4 1 0 ∧ st.h 4 = ⟨1, .box [.d (eSos b.sorts), .d (eCos b.cons), .d (.int .i64 b.elim)] false⟩) ∧ (st.s 9 = .ptr 9 1 0 ∧ st.h 9 = ⟨1, .box [.d (eSos b.sorts), .d (eCos b.cons), .d (.int .i64 L)] false⟩) ∧ st.s 18 = .d (.int .i64 i)) ?_ ?_
  · simp -dsimp [eSos]
    done
  · rintro i ⟨s, hq⟩ hi ⟨g1, ⟨g4, k4⟩, ⟨g9, k9⟩, g18⟩
    dsimp only at g1 g4 k4 g9 k9 g18
    simp only [eCos] at k4 k9
    rcases Nat.lt_or_ge i b.cons.length with hlt2 | hge
    · have w1 : IntKind.i64.wrap ((i : Int) + 1) = (i : Int) + 1 := wrap_id (by omega) (by omega)
      have h1 := method_ok b ob fb hf B i (by omega)
      have h2 := method_ok (lvB b L) (lv_okBl ob hL6) (lv_fine fb L) (lv_fit hf L) B i (by omega)
      obtain ⟨e3, e4⟩ := lv_met ob hL6 (base := B) (c := (i : Int)) hp
      rw [e3, e4, eb] at h2
      have hk := keepTerm_ok (metR b B i)
      generalize metR b B i = X at *
      generalize metE b B i = XE at *
      simp only [eBl, cBl, cT, eCos] at h1 h2 hk
      simp -dsimp [g1, g4, k4, g9, k9, g18, hlt2]
      refine call_of h1 ?_
      simp -dsimp [g1, g4, k4, g9, k9, g18, hlt2]
      refine call_of h2 ?_
      simp -dsimp [g1, g4, k4, g9, k9, g18, hlt2]
      refine call_of hk ?_
      simp -dsimp [g1, g4, k4, g9, k9, g18, hlt2, w1, eCos]
    · have e : i = b.cons.length := by omega
      subst e
      simp -dsimp [g1, g4, k4, g9, k9, g18]
      refine call_of wakes11_ok ?_
      simp -dsimp
end
end Ev
end Go.Proofs.YtjebpfhffenbnaaGreat
