/- The document's types of constructors, decoders. -/
import Derived.Test.YtncmainjcffanaaGreatNC
import Derived.Test.YtncmainjcffanaaGreatKS
namespace Go.Proofs.YtncmainjcffanaaGreat
namespace Ev
open Go
set_option maxRecDepth 100000
set_option linter.unusedSimpArgs false
set_option linter.unusedVariables false
attribute [local simp] allD_map_d sks_map_d tk tn tks initA EndsM one_sos one_cos one_ars one_ts
theorem fmT_in {b : Bl} {base k : Int} (hb : 0 ≤ base ∧ base ≤ 65535) (hk : 0 ≤ k ∧ k < b.sorts.length) (hl : b.sorts.length ≤ 1000) : fmT b base k = .mk 3 (base + k) [] := by
  have e : former b base k = base + k := by
    rw [former, place, if_neg (by omega)]
    have e1 : IntKind.i64.wrap base = base := wrap_id (by omega) (by omega)
    have e2 : IntKind.i64.wrap (base + k) = base + k := wrap_id (by omega) (by omega)
    simp only [w64, Int.add_zero, e1, e2]
  rw [fmT, tC, e]
  congr 1
  split <;> omega
theorem rconType_ok (b : Bl) (hfit : Fit b) (ob : okBl b) (fb : FineBl b) (base k : Int) (hb : 0 ≤ base ∧ base ≤ 65535) (k0 : 0 ≤ k) (c : Co) (hget : b.cons[k.toNat]? = some c) (hc : 0 ≤ c.sort ∧ c.sort < b.sorts.length) :
    Pure Tryz.prog n_porismref07_ConType [eBl b, .int .i64 base, .int .i64 k] [.agg (cT (rightT (ctT b base c))), .int .i64 (checkM (ctT b base c))] := by
  refine p_porismref07_ConType rfl fun hs => ?_
  have hs1 := ob.cons c (List.mem_of_getElem? hget)
  have hf1 := fb.cons c (List.mem_of_getElem? hget)
  have hsl := hfit.s
  have hA := rtele_ok b hfit base c.args hs1.args hf1.args
  have hl := hf1.args.1
  have hli := hf1.idxL
  have w1 : IntKind.i64.wrap (base + c.sort) = base + c.sort := wrap_id (by omega) (by omega)
  have hC := rc_ok (base + c.sort)
  rw [← fmT_in hb hc (by omega)] at hC
  have hS := rspine_ok (fmT b base c.sort) c.idx (by omega) (fmT_ok _ _ _) hs1.idx
  have hP := rpis_ok (c.args.map (argTy b base)) (spT (fmT b base c.sort) c.idx) (by simp; omega) (sp_okT _ _ (fmT_ok _ _ _) hs1.idx.2) (args_okTs b base hs1.args hf1.args)
  have hW := whole_ok (ctT b base c)
  rw [show nestT 4 (c.args.map (argTy b base)) (spT (fmT b base c.sort) c.idx) = ctT b base c from rfl] at hP
  generalize ctT b base c = F at hP hW
  generalize rightT F = R at hW
  generalize c.args.map (argTy b base) = As at hA hP
  generalize spT (fmT b base c.sort) c.idx = Sp at hS hP
  generalize fmT b base c.sort = Fm at hC hS
  simp only [eBl, cBl, cT, eTs, tk, tn, tks, List.map_nil, eCos] at hA hP hW hC hS
  simp -dsimp [x_porismref07_ConType, eBl, cBl, eCos, k0, hget, eCo, cCo, cT, eTs, w1]
  refine call_of hA ?_
  simp -dsimp [k0, hget, eCo, cCo, cT, eTs, w1]
  refine call_of hC ?_
  simp -dsimp [k0, hget, eCo, cCo, cT, eTs, w1]
  refine call_of hS ?_
  simp -dsimp
  refine call_of hP ?_
  simp -dsimp
  refine call_of hW ?_
  simp -dsimp [cT]
theorem rdecoderType_ok (b : Bl) (hfit : Fit b) (ob : okBl b) (fb : FineBl b) (base k : Int) (hb : 0 ≤ base ∧ base ≤ 65535) (k0 : 0 ≤ k ∧ k < b.sorts.length) (s : So) (hget : b.sorts[k.toNat]? = some s) :
    Pure Tryz.prog n_porismref07_DecoderType [eBl b, .int .i64 base, .int .i64 k] [.agg (cT (if shiftE s.dty 1 0 = 0 then rightT (dtT b base k s) else zT)), .int .i64 (if shiftE s.dty 1 0 = 0 then checkM (dtT b base k s) else shiftE s.dty 1 0)] := by
  refine p_porismref07_DecoderType rfl fun hs => ?_
  have hs1 := ob.sorts s (List.mem_of_getElem? hget)
  have hf1 := fb.sorts s (List.mem_of_getElem? hget)
  have hsl := hfit.s
  have hA := rtele_ok b hfit base s.idx hs1.idx hf1.idx
  have hl := hf1.idx.1
  have w1 : IntKind.i64.wrap (base + k) = base + k := wrap_id (by omega) (by omega)
  have hC := rc_ok (base + k)
  rw [← fmT_in hb k0 (by omega)] at hC
  have hSh := rshift_ok s.dty 1 0 (by have := hf1.dty; omega)
  simp only [cT] at hSh
  have k1 := k0.1
  simp -dsimp [x_porismref07_DecoderType, eBl, cBl, eSos, k1, hget, eSo, cSo, cT, eTs]
  refine call_of hSh ?_
  by_cases he : shiftE s.dty 1 0 = 0
  · rw [if_pos he, if_pos he]
    have hV := rvars_ok s.idx.length (by omega)
    have hS := rspine_ok (fmT b base k) (varsN s.idx.length) (by rw [varsN_len]; omega) (fmT_ok _ _ _) (varsN_okTs _ (by omega))
    have oX := shift_okT hs1.dty hf1.dty
    have oS := sp_okT (varsN s.idx.length) _ (fmT_ok b base k) (varsN_okTs _ (by omega : s.idx.length ≤ 60)).2
    have hT := rt_ok 4 [spT (fmT b base k) (varsN s.idx.length), shiftT s.dty 1 0] (by simp [maxRoom])
    have hP := rpis_ok (s.idx.map (argTy b base)) (.mk 4 0 [spT (fmT b base k) (varsN s.idx.length), shiftT s.dty 1 0]) (by simp; omega) (okT_k (by omega) oS oX (by omega)) (args_okTs b base hs1.idx hf1.idx)
    have hW := whole_ok (dtT b base k s)
    rw [show nestT 4 (s.idx.map (argTy b base)) (.mk 4 0 [spT (fmT b base k) (varsN s.idx.length), shiftT s.dty 1 0]) = dtT b base k s from rfl] at hP
    generalize dtT b base k s = F at hP hW
    generalize rightT F = R at hW
    generalize shiftT s.dty 1 0 = X at hT hP oX
    generalize s.idx.map (argTy b base) = As at hA hP
    generalize spT (fmT b base k) (varsN s.idx.length) = Sp at hS hT hP oS
    generalize varsN s.idx.length = Vs at hV hS
    generalize fmT b base k = Fm at hC hS
    simp only [eBl, cBl, cT, eTs, eArs, tk, tn, tks, List.map_cons, List.map_nil, eSos, eT_eq] at hA hP hW hC hS hV hT
    simp -dsimp [he, k1, hget, eSo, cSo, cT, eTs, eArs, w1]
    refine call_of hA ?_
    simp -dsimp [he, k1, hget, eSo, cSo, cT, eTs, eArs, w1]
    refine call_of hC ?_
    simp -dsimp [he, k1, hget, eSo, cSo, cT, eTs, eArs, w1]
    refine call_of hV ?_
    simp -dsimp [he, k1, hget, eSo, cSo, cT, eTs, eArs, w1]
    refine call_of hS ?_
    simp -dsimp [he, k1, hget, eSo, cSo, cT, eTs, eArs, w1]
    refine call_of hT ?_
    simp -dsimp [cT]
    refine call_of hP ?_
    simp -dsimp
    refine call_of hW ?_
    simp -dsimp [cT]
  · rw [if_neg he, if_neg he]
    simp -dsimp [he, zT, cT]
end Ev
end Go.Proofs.YtncmainjcffanaaGreat
