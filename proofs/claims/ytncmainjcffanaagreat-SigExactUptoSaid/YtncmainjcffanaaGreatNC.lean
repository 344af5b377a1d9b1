/- The document's types of formers, decoders, constructors (porismref07). -/
import Derived.Test.YtncmainjcffanaaGreatN3
import Derived.Test.YtncmainjcffanaaGreatQ3
import Derived.Test.YtncmainjcffanaaGreatH4
namespace Go.Proofs.YtncmainjcffanaaGreat
namespace Ev
open Go
set_option maxRecDepth 100000
set_option linter.unusedSimpArgs false
set_option linter.unusedVariables false
-- x_porismlaw10_SigExact x_porismlaw10_same x_porismlaw10_none
attribute [local simp] allD_map_d sks_map_d tk tn tks initA EndsM one_sos one_cos one_ars one_ts
theorem rargType_ok (b : Bl) (hf : Fit b) (base : Int) (a : Ar) (h : okAr a) (fA : FineAr a) : Pure Tryz.prog n_porismref07_ArgType [eBl b, .int .i64 base, .agg (cAr a)] [.agg (cT (argTy b base a))] := by
  refine p_porismref07_ArgType rfl fun hs => ?_
  have d1 := fA.domL
  have i1 := fA.idxL
  have hF := former7_ok b hf base a.sort
  have hC := rc_ok (if former b base a.sort < 0 then 0 else former b base a.sort)
  rw [show T.mk 3 (if former b base a.sort < 0 then 0 else former b base a.sort) [] = fmT b base a.sort from by
    rw [fmT, tC]; congr 1; split <;> split <;> omega] at hC
  have hS := rspine_ok (fmT b base a.sort) a.idx (by omega) (fmT_ok _ _ _) h.idx
  have hP := rpis_ok a.dom (spT (fmT b base a.sort) a.idx) (by omega) (sp_okT _ _ (fmT_ok _ _ _) h.idx.2) h.dom
  have hT := twin_ok a.ty h.ty
  cases hr : a.rc with
  | false =>
    have e : argTy b base a = a.ty := by rw [argTy, hr]; rfl
    rw [e]
    simp only [cT] at hT
    simp -dsimp [x_porismref07_ArgType, eBl, cBl, cAr, cT, hr]
    refine call_of hT ?_
    simp -dsimp
  | true =>
    have e : argTy b base a = nestT 4 a.dom (spT (fmT b base a.sort) a.idx) := by rw [argTy, hr]; rfl
    rw [e]
    generalize nestT 4 a.dom (spT (fmT b base a.sort) a.idx) = P at hP
    generalize spT (fmT b base a.sort) a.idx = Sp at hS hP
    generalize fmT b base a.sort = F at hC hS
    simp only [eBl, cBl, cT, eTs] at hF hC hS hP
    simp -dsimp [x_porismref07_ArgType, eBl, cBl, cAr, cT, eTs, hr]
    refine call_of hF ?_
    simp -dsimp [hr]
    refine call_of hC ?_
    simp -dsimp [hr]
    refine call_of hS ?_
    simp -dsimp [hr]
    refine call_of hP ?_
    simp -dsimp [hr]
theorem rtele_ok (b : Bl) (hfit : Fit b) (base : Int) (l : List Ar) (h : okArs l) (hf : FineArs l) : Pure Tryz.prog n_porismref07_Tele [eBl b, .int .i64 base, eArs l] [eTs (l.map (argTy b base))] := by
  refine p_porismref07_Tele rfl fun hs => ?_
  have hl := hf.1
  simp -dsimp [x_porismref07_Tele, eBl, cBl, eArs]
  refine wp_upto l.length (fun i st => st.s 6 = .rsl 6 1 ∧ st.h 6 = ⟨1, .row 3 [] false⟩ ∧ st.s 1 = .d (.int .i64 base) ∧ st.s 3 = .ptr 3 1 0 ∧ st.h 3 = ⟨1, .box [.d (eSos b.sorts), .d (eCos b.cons), .d (.int .i64 b.elim)] false⟩ ∧
    st.s 2 = .d (.sl 7 (l.map eAr)) ∧ st.s 8 = .d (.int .i64 i) ∧ st.s 7 = .rsl 7 (1 + i) ∧ st.h 7 = ⟨1 + i, .row 3 (((l.map (argTy b base)).take i).map eT) false⟩) ?_ ?_
  · simp -dsimp
  · rintro i ⟨s, hp⟩ hi ⟨g1, g2, g3, g4, g5, g6, g7, g8, g9⟩
    dsimp only at g1 g2 g3 g4 g5 g6 g7 g8 g9
    rcases Nat.lt_or_ge i l.length with hlt | hge
    · have w1 : IntKind.i64.wrap ((i : Int) + 1) = (i : Int) + 1 := wrap_id (by omega) (by omega)
      have ha := rargType_ok b hfit base l[i] (h.2 _ (List.getElem_mem _)) (hf.2 _ (List.getElem_mem _))
      have hr : (min i l.length + 1) * 40 ≤ maxRoom := by simp only [maxRoom]; omega
      have htk : ((l.map (argTy b base)).take (i + 1)).map eT = ((l.map (argTy b base)).take i).map eT ++ [.agg (cT (argTy b base l[i]))] := by
        rw [take_snoc (List.getElem?_eq_getElem (by simpa using hlt) : (l.map (argTy b base))[i]? = some _), List.map_append]
        simp [eT_eq]
      rw [htk]
      generalize argTy b base l[i] = A at ha
      simp only [eBl, cBl, cAr, cT, eTs, List.cons_append, List.nil_append] at ha
      simp -dsimp [g1, g2, g3, g4, g5, g6, g7, g8, g9, hlt, eAr, cAr, cT, eTs]
      refine call_of ha ?_
      simp -dsimp [g1, g2, g3, g4, g5, g6, g7, g8, g9, hlt, w1, hr, cT]
      omega
    · have e : i = l.length := by omega
      subst e
      have ht : (l.map (argTy b base)).take l.length = l.map (argTy b base) := List.take_of_length_le (by simp)
      rw [ht] at g9
      simp -dsimp [g1, g2, g3, g4, g5, g6, g7, g8, g9, eTs]
theorem whole_ok (t : T) : Pure Tryz.prog n_porismref07_whole [.agg (cT t)] [.agg (cT (rightT t)), .int .i64 (checkM t)] := by
  refine p_porismref07_whole rfl fun hs => ?_
  have h := rcheck_ok t
  simp only [cT] at h
  simp -dsimp [x_porismref07_whole, cT]
  refine call_of h ?_
  simp -dsimp
  (first | refine Ask_b ?_ ?_ | refine Cnd_b ?_ ?_) <;> intro h1 <;> (try simp only [nrm] at h1) <;> simp -dsimp [h1]
  · have : rightT t = zT := by rw [rightT, if_neg h1]
    simp -dsimp [this, zT, cT]
  · have : rightT t = t := by rw [rightT, if_pos h1]
    simp -dsimp [this, h1]
theorem rformerType_ok (b : Bl) (hfit : Fit b) (ob : okBl b) (fb : FineBl b) (base k : Int) (k0 : 0 ≤ k) (s : So) (hget : b.sorts[k.toNat]? = some s) : Pure Tryz.prog n_porismref07_FormerType [eBl b, .int .i64 base, .int .i64 k] [.agg (cT (rightT (ftT b base s))), .int .i64 (checkM (ftT b base s))] := by
  refine p_porismref07_FormerType rfl fun hs => ?_
  have hs1 := ob.sorts s (List.mem_of_getElem? hget)
  have hf1 := fb.sorts s (List.mem_of_getElem? hget)
  have hA := rtele_ok b hfit base s.idx hs1.idx hf1.idx
  have hl := hf1.idx.1
  have hU := ru_ok s.level
  have hP := rpis_ok (s.idx.map (argTy b base)) (.mk 2 s.level []) (by simp; omega) (.mk _ _ _ ⟨by omega, by omega⟩ hs1.level (by simp) (by simp)) (args_okTs b base hs1.idx hf1.idx)
  have hW := whole_ok (ftT b base s)
  rw [show nestT 4 (s.idx.map (argTy b base)) (.mk 2 s.level []) = ftT b base s from rfl] at hP
  generalize ftT b base s = F at hP hW
  generalize rightT F = R at hW
  generalize s.idx.map (argTy b base) = As at hA hP
  simp only [eBl, cBl, cT, eTs, tk, tn, tks, List.map_nil, eSos] at hA hP hW hU
  simp -dsimp [x_porismref07_FormerType, eBl, cBl, eSos, k0, hget, eSo, cSo, cT, eTs]
  refine call_of hA ?_
  simp -dsimp [k0, hget, eSo, cSo, cT, eTs]
  refine call_of hU ?_
  simp -dsimp [k0, hget, eSo, cSo, cT, eTs]
  refine call_of hP ?_
  simp -dsimp
  refine call_of hW ?_
  simp -dsimp [cT]
end Ev
end Go.Proofs.YtncmainjcffanaaGreat
