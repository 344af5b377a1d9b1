/- DispLevels. -/
import Derived.Test.YtjebpfhffenbnaaGreatY1
namespace Go.Proofs.YtjebpfhffenbnaaGreat
namespace Ev
open Go
set_option maxRecDepth 100000
set_option linter.unusedSimpArgs false
set_option linter.unusedVariables false
section
attribute [local simp] allD_map_d sks_map_d tk tn tks initA EndsM one_sos one_cos one_ars one_ts
theorem motL_ok {b : Bl} (ob : okBl b) (fb : FineBl b) (hf : Fit b) {base k : Int} (hp : positE 9000 b base = 0) (b1 : base ≤ 60000) {so : So} (k0 : 0 ≤ k) (hk : b.sorts[k.toNat]? = some so) : (∀ y ∈ motL b base k so, okT y) ∧ (motL b base k so).length ≤ 41 := by
  obtain ⟨hz, b0, _, hpos⟩ := posE_zero8 hp
  obtain ⟨z1, z4, z8, zl, zs, zc⟩ := (checkB_zero b).1 hz
  obtain ⟨hlt, hS⟩ := List.getElem?_eq_some_iff.1 hk
  have hsg := sort_good hpos hk
  have os := ob.sorts _ (List.getElem_mem hlt)
  have fs := fb.sorts _ (List.getElem_mem hlt)
  have hrow := sort_row (zs _ hlt)
  rw [hS] at os fs hrow
  have hT := ty_ok hz fb hf b0 b1 os.idx fs.idx hrow hsg (e := k) k0 (by omega)
  have hfl := fin_le so.idx k
  have hil := fs.idx.1
  obtain ⟨_, oOwn⟩ := own8_ok (vwOf b base so.idx k) hT.vw (finL k so.idx) (by omega) (by omega)
  have hfi := former_is hf b0 (by omega : base ≤ 65535) k
  rw [if_pos ⟨k0, by omega⟩] at hfi
  have oC : okT (tC (former b base k)) := okT_leaf (by omega) (by omega)
  have oSp := sp_okT _ _ oC oOwn
  obtain ⟨_, h2, h3⟩ := types8_ok (vwOf b base so.idx k) 9000 (by omega) (by omega) 0 hT
  have e0 : (vwOf b base so.idx k).args = so.idx := rfl
  rw [e0] at h2 h3
  refine ⟨fun y hy => ?_, by rw [motL, List.length_append, List.length_singleton]; omega⟩
  rw [motL] at hy
  rcases List.mem_append.1 hy with hy | hy
  · exact h2 y hy
  · rw [List.mem_singleton] at hy
    subst hy
    exact oSp
/-- Motives of a positive block. -/
theorem mot_at {b : Bl} {base k : Int} (hp : positE 9000 b base = 0) (k0 : 0 ≤ k) {so : So} (hk : b.sorts[k.toNat]? = some so) : motE b base k = checkM (motT b base k so) ∧ motR b base k = rightT (motT b base k so) := by
  have hlt := (List.getElem?_eq_some_iff.1 hk).1
  have hm : mayP b base k b.sorts.length = 0 := by rw [mayP, if_neg (by omega), hp]
  have e : motE b base k = checkM (motT b base k so) := by rw [motE, if_pos hm, hk]
  exact ⟨e, by rw [motR, rightT, e, hk]⟩
theorem mot_unpis {b : Bl} (ob : okBl b) (fb : FineBl b) (hf : Fit b) {base k : Int} (hp : positE 9000 b base = 0) (b1 : base ≤ 60000) {so : So} (k0 : 0 ≤ k) (hk : b.sorts[k.toNat]? = some so) :
    Pure Tryz.prog n_porismref01_Unpis [.agg (cT (motT b base k so))] [eTs (motL b base k so), .agg (cT (.mk 2 b.elim []))] := by
  obtain ⟨hL, hLl⟩ := motL_ok ob fb hf hp b1 k0 hk
  have e := pi_back (motL b base k so) (.mk 2 b.elim [])
  have e2 := pi_head (t := .mk 2 b.elim []) (by show (2 : Int) ≠ 4; decide)
  rw [e2.1, e2.2, List.append_nil, ← mot_is] at e
  have h := runpis_ok (motT b base k so) (by rw [e.1]; omega) (by rw [e.2]; exact .mk _ _ _ (by simp only [n64]; omega) ob.elim (by simp) (by simp)) (by rw [e.1]; exact ⟨by omega, hL⟩)
  rw [e.1, e.2] at h
  exact h
end
end Ev
end Go.Proofs.YtjebpfhffenbnaaGreat
