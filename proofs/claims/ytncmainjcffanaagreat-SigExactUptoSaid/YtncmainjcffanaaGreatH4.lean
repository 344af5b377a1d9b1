/- sig: formers', constructors', decoders' types. -/
import Derived.Test.YtncmainjcffanaaGreatH3
namespace Go.Proofs.YtncmainjcffanaaGreat
namespace Ev
open Go
set_option maxRecDepth 100000
set_option linter.unusedSimpArgs false
set_option linter.unusedVariables false
attribute [local simp] allD_map_d sks_map_d tk tn tks one_sos one_cos one_ars one_ts

theorem okT_of_formed {t : T} : formedM t = true → okT t := by
  refine T.ind (p := fun t => formedM t = true → okT t) ?_ t
  intro k n ks ih h
  have hk := kids_formed h
  have hs := slim_of _ h
  have hl := hs.kids.1
  have h1 := h
  rw [formedM_is] at h1
  have hkb : 0 ≤ k ∧ k ≤ 13 := by
    split at h1
    · rename_i hl'
      have : ¬ kidsM k < 0 := by omega
      rw [kidsM] at this
      by_cases hi : isM k = true
      · simp only [isM, Bool.and_eq_true, decide_eq_true_eq] at hi
        omega
      · repeat' split at this
        all_goals omega
    · cases h1
  have hnb : n64 n := by
    split at h1
    · split at h1
      · rw [Bool.and_eq_true] at h1
        have := (inB_iff n 0 65535).1 h1.1
        exact ⟨by omega, by omega⟩
      · split at h1
        · rename_i h0
          subst h0
          exact ⟨by omega, by omega⟩
        · cases h1
    · cases h1
  exact .mk k n ks ⟨by omega, by omega⟩ hnb (by omega) fun x hx => ih x hx (hk x hx)
def rightT (t : T) : T := if checkM t = 0 then t else zT
theorem right_ok (t : T) : Pure Tryz.prog n_sig_right [.agg (cT t)] [.agg (cT (rightT t)), .int .i64 (checkM t)] := by
  refine p_sig_right rfl fun hs => ?_
  have h := check_ok t
  simp only [cT] at h
  simp -dsimp [x_sig_right, cT]
  refine call_of h ?_
  simp -dsimp
  (first | refine Ask_b ?_ ?_ | refine Cnd_b ?_ ?_) <;> intro h1 <;> (try simp only [nrm] at h1) <;> simp -dsimp [h1]
  · have : rightT t = zT := by rw [rightT, if_neg h1]
    simp -dsimp [this, zT]
  · have : rightT t = t := by rw [rightT, if_pos h1]
    simp -dsimp [this, h1]
theorem mayE_zero {b : Bl} {base k many : Int} (h : mayE b base k many = 0) : checkB b = 0 ∧ 0 ≤ base ∧ base ≤ 65535 ∧ 0 ≤ k ∧ k < many := by
  rw [mayE] at h
  split at h
  · split at h
    · cases h
    · refine ⟨by assumption, by omega, by omega, by omega, by omega⟩
  · contradiction
def ftT (b : Bl) (base : Int) (s : So) : T := nestT 4 (s.idx.map (argTy b base)) (.mk 2 s.level [])
def ftE (b : Bl) (base k : Int) : Int := if mayE b base k b.sorts.length = 0 then match b.sorts[k.toNat]? with | some s => checkM (ftT b base s) | none => 1 else mayE b base k b.sorts.length
def ftR (b : Bl) (base k : Int) : T := if ftE b base k = 0 then match b.sorts[k.toNat]? with | some s => ftT b base s | none => zT else zT
theorem args_okTs (b : Bl) (base : Int) {l : List Ar} (h : okArs l) (hf : FineArs l) : okTs (l.map (argTy b base)) :=
  okTs_of (by have := hf.1; simp; omega) fun x hx => by
    obtain ⟨a, ha, rfl⟩ := List.mem_map.1 hx
    exact argTy_okT b base (h.2 a ha)
theorem formerType_ok (b : Bl) (ob : okBl b) (fb : FineBl b) (base k : Int) : Pure Tryz.prog n_sig_FormerType [eBl b, .int .i64 base, .int .i64 k] [.agg (cT (ftR b base k)), .int .i64 (ftE b base k)] := by
  refine p_sig_FormerType rfl fun hs => ?_
  have hM := smay_ok b base k b.sorts.length
  simp only [eBl, cBl] at hM
  by_cases hz : mayE b base k b.sorts.length = 0
  · obtain ⟨_, _, _, k0, k1⟩ := mayE_zero hz
    have hlt : k.toNat < b.sorts.length := by omega
    have hget : b.sorts[k.toNat]? = some b.sorts[k.toNat] := List.getElem?_eq_getElem hlt
    have hE : ftE b base k = checkM (ftT b base b.sorts[k.toNat]) := by rw [ftE, if_pos hz, hget]
    have hR : ftR b base k = rightT (ftT b base b.sorts[k.toNat]) := by rw [ftR, rightT, hE, hget]
    rw [hE, hR]
    generalize b.sorts[k.toNat] = s at *
    have hs1 := ob.sorts s (List.mem_of_getElem? hget)
    have hf1 := fb.sorts s (List.mem_of_getElem? hget)
    have hA := argTypes_ok b base s.idx hs1.idx hf1.idx
    have hl := hf1.idx.1
    have hP := pis_ok (s.idx.map (argTy b base)) (.mk 2 s.level []) (by simp; omega) (.mk _ _ _ ⟨by omega, by omega⟩ hs1.level (by simp) (by simp)) (args_okTs b base hs1.idx hf1.idx)
    have hW := right_ok (ftT b base s)
    rw [show nestT 4 (s.idx.map (argTy b base)) (.mk 2 s.level []) = ftT b base s from rfl] at hP
    generalize ftT b base s = F at hP hW
    generalize rightT F = R at hW
    generalize s.idx.map (argTy b base) = As at hA hP
    simp only [eBl, cBl, cT, eTs, tk, tn, tks, List.map_nil] at hA hP hW
    rw [hz] at hM
    simp -dsimp [x_sig_FormerType, eBl, cBl, eSos] at hM ⊢
    refine call_of hM ?_
    simp only [eSos] at hA
    simp -dsimp [k0, hget, eSo, cSo, cT, eTs]
    refine call_of hA ?_
    simp -dsimp [k0, hget, eSo, cSo, cT, eTs]
    refine call_of (tu_ok _) ?_
    simp -dsimp [k0, hget, eSo, cSo, cT, eTs]
    refine call_of hP ?_
    simp -dsimp
    refine call_of hW ?_
    simp -dsimp [cT]
  · have hE : ftE b base k = mayE b base k b.sorts.length := by rw [ftE, if_neg hz]
    have hR : ftR b base k = zT := by rw [ftR, if_neg (by rw [hE]; exact hz)]
    rw [hE, hR]
    simp -dsimp [x_sig_FormerType, eBl, cBl, eSos] at hM ⊢
    refine call_of hM ?_
    simp -dsimp [hz, zT, cT]
def ctT (b : Bl) (base : Int) (c : Co) : T := nestT 4 (c.args.map (argTy b base)) (spT (fmT b base c.sort) c.idx)
def ctE (b : Bl) (base k : Int) : Int := if mayE b base k b.cons.length = 0 then match b.cons[k.toNat]? with | some c => checkM (ctT b base c) | none => 1 else mayE b base k b.cons.length
def ctR (b : Bl) (base k : Int) : T := if ctE b base k = 0 then match b.cons[k.toNat]? with | some c => ctT b base c | none => zT else zT
theorem conType_ok (b : Bl) (ob : okBl b) (fb : FineBl b) (base k : Int) : Pure Tryz.prog n_sig_ConType [eBl b, .int .i64 base, .int .i64 k] [.agg (cT (ctR b base k)), .int .i64 (ctE b base k)] := by
  refine p_sig_ConType rfl fun hs => ?_
  have hM := smay_ok b base k b.cons.length
  simp only [eBl, cBl] at hM
  by_cases hz : mayE b base k b.cons.length = 0
  · obtain ⟨_, _, _, k0, k1⟩ := mayE_zero hz
    have hlt : k.toNat < b.cons.length := by omega
    have hget : b.cons[k.toNat]? = some b.cons[k.toNat] := List.getElem?_eq_getElem hlt
    have hE : ctE b base k = checkM (ctT b base b.cons[k.toNat]) := by rw [ctE, if_pos hz, hget]
    have hR : ctR b base k = rightT (ctT b base b.cons[k.toNat]) := by rw [ctR, rightT, hE, hget]
    rw [hE, hR]
    generalize b.cons[k.toNat] = c at *
    have hs1 := ob.cons c (List.mem_of_getElem? hget)
    have hf1 := fb.cons c (List.mem_of_getElem? hget)
    have hA := argTypes_ok b base c.args hs1.args hf1.args
    have hl := hf1.args.1
    have hli := hf1.idxL
    have hF := sformer_ok b base c.sort
    have hS := spine_ok (fmT b base c.sort) c.idx (by omega) (fmT_ok _ _ _) hs1.idx
    have hP := pis_ok (c.args.map (argTy b base)) (spT (fmT b base c.sort) c.idx) (by simp; omega) (sp_okT _ _ (fmT_ok _ _ _) hs1.idx.2) (args_okTs b base hs1.args hf1.args)
    have hW := right_ok (ctT b base c)
    rw [show nestT 4 (c.args.map (argTy b base)) (spT (fmT b base c.sort) c.idx) = ctT b base c from rfl] at hP
    generalize ctT b base c = F at hP hW
    generalize rightT F = R at hW
    generalize c.args.map (argTy b base) = As at hA hP
    generalize spT (fmT b base c.sort) c.idx = Sp at hS hP
    generalize fmT b base c.sort = Fm at hF hS
    simp only [eBl, cBl, cT, eTs, tk, tn, tks, List.map_nil, eCos] at hA hP hW hF hS
    rw [hz] at hM
    simp -dsimp [x_sig_ConType, eBl, cBl, eCos] at hM ⊢
    refine call_of hM ?_
    simp -dsimp [k0, hget, eCo, cCo, cT, eTs]
    refine call_of hA ?_
    simp -dsimp [k0, hget, eCo, cCo, cT, eTs]
    refine call_of hF ?_
    simp -dsimp [k0, hget, eCo, cCo, cT, eTs]
    refine call_of hS ?_
    simp -dsimp
    refine call_of hP ?_
    simp -dsimp
    refine call_of hW ?_
    simp -dsimp [cT]
  · have hE : ctE b base k = mayE b base k b.cons.length := by rw [ctE, if_neg hz]
    have hR : ctR b base k = zT := by rw [ctR, if_neg (by rw [hE]; exact hz)]
    rw [hE, hR]
    simp -dsimp [x_sig_ConType, eBl, cBl, eCos] at hM ⊢
    refine call_of hM ?_
    simp -dsimp [hz, zT, cT]
/-- A decoder's type. -/
def dtT (b : Bl) (base k : Int) (s : So) : T := nestT 4 (s.idx.map (argTy b base)) (.mk 4 0 [spT (fmT b base k) (varsN s.idx.length), shiftT s.dty 1 0])
def dtE (b : Bl) (base k : Int) : Int := if mayE b base k b.sorts.length = 0 then match b.sorts[k.toNat]? with
    | some s => if s.dec = true then if shiftE s.dty 1 0 = 0 then checkM (dtT b base k s) else shiftE s.dty 1 0 else 1
    | none => 1 else mayE b base k b.sorts.length
def dtR (b : Bl) (base k : Int) : T := if dtE b base k = 0 then match b.sorts[k.toNat]? with | some s => dtT b base k s | none => zT else zT
theorem vars_is (n : Nat) (h : n ≤ 60) : Pure Tryz.prog n_tele_Vars [.int .i64 n] [eTs (varsN n)] := by
  have h1 := vars_ok n
  have hV : varsT n = varsN n := by
    rw [varsT]
    split
    · have : n = 0 := by omega
      subst this
      rfl
    · rfl
  rw [hV] at h1
  exact h1
theorem varsN_okTs (n : Nat) (h : n ≤ 60) : okTs (varsN n) := ⟨by rw [varsN_len]; omega, fun x hx => by
  obtain ⟨q, hq, rfl⟩ := varsN_mem hx
  exact okT_leaf (by omega) (by omega)⟩
theorem shift_okT {t : T} (ht : okT t) (hn : nodes t ≤ 9000) : okT (shiftT t 1 0) := by
  by_cases h : shiftE t 1 0 = 0
  · obtain ⟨_, hf, _⟩ := shift_right (by omega) h
    exact okT_of_formed hf
  · rw [shiftT, if_neg h]
    exact okT_leaf (by omega) (by omega)
theorem decoderType_ok (b : Bl) (ob : okBl b) (fb : FineBl b) (base k : Int) : Pure Tryz.prog n_sig_DecoderType [eBl b, .int .i64 base, .int .i64 k] [.agg (cT (dtR b base k)), .int .i64 (dtE b base k)] := by
  refine p_sig_DecoderType rfl fun hs => ?_
  have hM := smay_ok b base k b.sorts.length
  simp only [eBl, cBl] at hM
  by_cases hz : mayE b base k b.sorts.length = 0
  · obtain ⟨_, _, _, k0, k1⟩ := mayE_zero hz
    have hlt : k.toNat < b.sorts.length := by omega
    have hget : b.sorts[k.toNat]? = some b.sorts[k.toNat] := List.getElem?_eq_getElem hlt
    generalize hsx : b.sorts[k.toNat] = s at *
    have hE : dtE b base k = if s.dec = true then if shiftE s.dty 1 0 = 0 then checkM (dtT b base k s) else shiftE s.dty 1 0 else 1 := by rw [dtE, if_pos hz, hget]
    have hs1 := ob.sorts s (List.mem_of_getElem? hget)
    have hf1 := fb.sorts s (List.mem_of_getElem? hget)
    rw [hz] at hM
    simp -dsimp [x_sig_DecoderType, eBl, cBl, eSos] at hM ⊢
    refine call_of hM ?_
    by_cases hd : s.dec = true
    · have hSh := shift_ok s.dty 1 0 (by have := hf1.dty; omega)
      rw [if_pos hd] at hE
      simp only [cT] at hSh
      simp -dsimp [k0, hget, eSo, cSo, cT, eTs, hd]
      refine call_of hSh ?_
      by_cases he : shiftE s.dty 1 0 = 0
      · rw [if_pos he] at hE
        have hR : dtR b base k = rightT (dtT b base k s) := by rw [dtR, rightT, hE, hget]
        rw [hE, hR]
        have hA := argTypes_ok b base s.idx hs1.idx hf1.idx
        have hl := hf1.idx.1
        have hF := sformer_ok b base k
        have hV := vars_is s.idx.length (by omega)
        have hS := spine_ok (fmT b base k) (varsN s.idx.length) (by rw [varsN_len]; omega) (fmT_ok _ _ _) (varsN_okTs _ (by omega))
        have hN := node_ok 4 [spT (fmT b base k) (varsN s.idx.length), shiftT s.dty 1 0]
        have oN : okT (.mk 4 0 [spT (fmT b base k) (varsN s.idx.length), shiftT s.dty 1 0]) := okT_k (by omega) (sp_okT _ _ (fmT_ok _ _ _) (varsN_okTs _ (by omega)).2) (shift_okT hs1.dty hf1.dty) (by omega)
        have hP := pis_ok (s.idx.map (argTy b base)) _ (by simp; omega) oN (args_okTs b base hs1.idx hf1.idx)
        have hW := right_ok (dtT b base k s)
        rw [show nestT 4 (s.idx.map (argTy b base)) (.mk 4 0 [spT (fmT b base k) (varsN s.idx.length), shiftT s.dty 1 0]) = dtT b base k s from rfl] at hP
        generalize dtT b base k s = F at hP hW
        generalize rightT F = R at hW
        generalize s.idx.map (argTy b base) = As at hA hP
        generalize spT (fmT b base k) (varsN s.idx.length) = Sp at hS hN hP
        generalize varsN s.idx.length = Vs at hV hS
        generalize fmT b base k = Fm at hF hS
        generalize shiftT s.dty 1 0 = Sh at hN hP
        simp only [eBl, cBl, cT, eTs, tk, tn, tks, List.map_nil, List.map_cons, eSos, eT_eq] at hA hP hW hF hS hV hN
        simp -dsimp [k0, hget, eSo, cSo, cT, eTs, hd, he]
        refine call_of hA ?_
        simp -dsimp [k0, hget, eSo, cSo, cT, eTs, hd, he]
        refine call_of hF ?_
        simp -dsimp [k0, hget, eSo, cSo, cT, eTs, hd, he, eArs]
        refine call_of hV ?_
        simp -dsimp
        refine call_of hS ?_
        simp -dsimp [eT_eq, cT]
        refine call_of hN ?_
        simp -dsimp
        refine call_of hP ?_
        simp -dsimp
        refine call_of hW ?_
        simp -dsimp [cT]
      · rw [if_neg he] at hE
        have hR : dtR b base k = zT := by rw [dtR, if_neg (by rw [hE]; exact he)]
        rw [hE, hR]
        simp -dsimp [k0, hget, eSo, cSo, cT, eTs, hd, he, zT]
    · have hR : dtR b base k = zT := by rw [dtR, if_neg (by rw [hE, if_neg hd]; decide)]
      rw [hE, hR, if_neg hd]
      simp -dsimp [k0, hget, eSo, cSo, cT, eTs, hd, zT]
  · have hE : dtE b base k = mayE b base k b.sorts.length := by rw [dtE, if_neg hz]
    have hR : dtR b base k = zT := by rw [dtR, if_neg (by rw [hE]; exact hz)]
    rw [hE, hR]
    simp -dsimp [x_sig_DecoderType, eBl, cBl, eSos] at hM ⊢
    refine call_of hM ?_
    simp -dsimp [hz, zT, cT]
end Ev
end Go.Proofs.YtncmainjcffanaaGreat
