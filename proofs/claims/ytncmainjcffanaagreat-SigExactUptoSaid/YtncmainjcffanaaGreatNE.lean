/- sig: types in new memory. -/
import Derived.Test.YtncmainjcffanaaGreatND
namespace Go.Proofs.YtncmainjcffanaaGreat
namespace Ev
open Go
set_option maxRecDepth 100000
set_option linter.unusedSimpArgs false
set_option linter.unusedVariables false
attribute [local simp] allD_map_d sks_map_d tk tn tks initA EndsM one_sos one_cos one_ars one_ts
theorem nformerType_ok (b : Bl) (ob : okBl b) (fb : FineBl b) (base k : Int) : PureN Tryz.prog n_sig_FormerType [eBl b, .int .i64 base, .int .i64 k] [.agg (cT (ftR b base k)), .int .i64 (ftE b base k)] := by
  refine new_small false hm Tryz.func10 c_sig_FormerType rfl fun hs n => ?_
  have hM := smay_ok b base k b.sorts.length
  simp only [eBl, cBl] at hM
  by_cases hz : mayE b base k b.sorts.length = 0
  · obtain ⟨_, _, _, k0, k1⟩ := mayE_zero hz
    have hlt : k.toNat < b.sorts.length := by omega
    have hget : b.sorts[k.toNat]? = some b.sorts[k.toNat] := List.getElem?_eq_getElem hlt
    have hE : ftE b base k = checkM (ftT b base b.sorts[k.toNat]) := by rw [ftE, if_pos hz, hget]
    have hR : ftR b base k = rightT (ftT b base b.sorts[k.toNat]) := by rw [ftR, rightT, hE, hget]
    rw [hE, hR]
    generalize b.sorts[k.toNat] = s at *
    have hs1 := ob.sorts s (List.mem_of_getElem? hget)
    have hf1 := fb.sorts s (List.mem_of_getElem? hget)
    have hA := argTypes_ok b base s.idx hs1.idx hf1.idx
    have hl := hf1.idx.1
    have hP := npis_ok (s.idx.map (argTy b base)) (.mk 2 s.level []) (by simp; omega) (.mk _ _ _ ⟨by omega, by omega⟩ hs1.level (by simp) (by simp)) (args_okTs b base hs1.idx hf1.idx)
    have hW := right_ok (ftT b base s)
    rw [show nestT 4 (s.idx.map (argTy b base)) (.mk 2 s.level []) = ftT b base s from rfl] at hP
    generalize ftT b base s = F at hP hW
    generalize rightT F = R at hW
    generalize s.idx.map (argTy b base) = As at hA hP
    simp only [eBl, cBl, cT, eTs, tk, tn, tks, List.map_nil] at hA hP hW
    rw [hz] at hM
    simp -dsimp [x_sig_FormerType, eBl, cBl, eSos] at hM ⊢
    refine call_of hM ?_
    simp only [eSos] at hA
    simp -dsimp [k0, hget, eSo, cSo, cT, eTs]
    refine call_of hA ?_
    simp -dsimp [k0, hget, eSo, cSo, cT, eTs]
    refine call_of (tu_ok _) ?_
    simp -dsimp [k0, hget, eSo, cSo, cT, eTs]
    refine callN_of hP ?_
    simp -dsimp
    refine callH_of (by simp -dsimp) hW ?_
    simp -dsimp [cT]
  · have hE : ftE b base k = mayE b base k b.sorts.length := by rw [ftE, if_neg hz]
    have hR : ftR b base k = zT := by rw [ftR, if_neg (by rw [hE]; exact hz)]
    rw [hE, hR]
    simp -dsimp [x_sig_FormerType, eBl, cBl, eSos] at hM ⊢
    refine call_of hM ?_
    simp -dsimp [hz, zT, cT]
theorem nconType_ok (b : Bl) (ob : okBl b) (fb : FineBl b) (base k : Int) : PureN Tryz.prog n_sig_ConType [eBl b, .int .i64 base, .int .i64 k] [.agg (cT (ctR b base k)), .int .i64 (ctE b base k)] := by
  refine new_small false hm Tryz.func12 c_sig_ConType rfl fun hs n => ?_
  have hM := smay_ok b base k b.cons.length
  simp only [eBl, cBl] at hM
  by_cases hz : mayE b base k b.cons.length = 0
  · obtain ⟨_, _, _, k0, k1⟩ := mayE_zero hz
    have hlt : k.toNat < b.cons.length := by omega
    have hget : b.cons[k.toNat]? = some b.cons[k.toNat] := List.getElem?_eq_getElem hlt
    have hE : ctE b base k = checkM (ctT b base b.cons[k.toNat]) := by rw [ctE, if_pos hz, hget]
    have hR : ctR b base k = rightT (ctT b base b.cons[k.toNat]) := by rw [ctR, rightT, hE, hget]
    rw [hE, hR]
    generalize b.cons[k.toNat] = c at *
    have hs1 := ob.cons c (List.mem_of_getElem? hget)
    have hf1 := fb.cons c (List.mem_of_getElem? hget)
    have hA := argTypes_ok b base c.args hs1.args hf1.args
    have hl := hf1.args.1
    have hli := hf1.idxL
    have hF := sformer_ok b base c.sort
    have hS := spine_ok (fmT b base c.sort) c.idx (by omega) (fmT_ok _ _ _) hs1.idx
    have hP := npis_ok (c.args.map (argTy b base)) (spT (fmT b base c.sort) c.idx) (by simp; omega) (sp_okT _ _ (fmT_ok _ _ _) hs1.idx.2) (args_okTs b base hs1.args hf1.args)
    have hW := right_ok (ctT b base c)
    rw [show nestT 4 (c.args.map (argTy b base)) (spT (fmT b base c.sort) c.idx) = ctT b base c from rfl] at hP
    generalize ctT b base c = F at hP hW
    generalize rightT F = R at hW
    generalize c.args.map (argTy b base) = As at hA hP
    generalize spT (fmT b base c.sort) c.idx = Sp at hS hP
    generalize fmT b base c.sort = Fm at hF hS
    simp only [eBl, cBl, cT, eTs, tk, tn, tks, List.map_nil, eCos] at hA hP hW hF hS
    rw [hz] at hM
    simp -dsimp [x_sig_ConType, eBl, cBl, eCos] at hM ⊢
    refine call_of hM ?_
    simp -dsimp [k0, hget, eCo, cCo, cT, eTs]
    refine call_of hA ?_
    simp -dsimp [k0, hget, eCo, cCo, cT, eTs]
    refine call_of hF ?_
    simp -dsimp [k0, hget, eCo, cCo, cT, eTs]
    refine call_of hS ?_
    simp -dsimp
    refine callN_of hP ?_
    simp -dsimp
    refine callH_of (by simp -dsimp) hW ?_
    simp -dsimp [cT]
  · have hE : ctE b base k = mayE b base k b.cons.length := by rw [ctE, if_neg hz]
    have hR : ctR b base k = zT := by rw [ctR, if_neg (by rw [hE]; exact hz)]
    rw [hE, hR]
    simp -dsimp [x_sig_ConType, eBl, cBl, eCos] at hM ⊢
    refine call_of hM ?_
    simp -dsimp [hz, zT, cT]
end Ev
end Go.Proofs.YtncmainjcffanaaGreat
