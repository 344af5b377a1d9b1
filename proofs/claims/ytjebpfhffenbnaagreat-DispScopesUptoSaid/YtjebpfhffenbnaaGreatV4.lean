/- disp: motives, methods. -/
import Derived.Test.YtjebpfhffenbnaaGreatV3
namespace Go.Proofs.YtjebpfhffenbnaaGreat
namespace Ev
open Go
set_option maxRecDepth 100000
set_option linter.unusedSimpArgs false
set_option linter.unusedVariables false
section
attribute [local simp] allD_map_d sks_map_d tk tn tks initA EndsM one_sos one_cos one_ars one_ts
theorem pos_mem : ∀ (l : List Ar) (e p : Int), p ∈ posL e l → e ≤ p ∧ p ≤ e + 2 * l.length
  | [], e, p, h => by simp [posL] at h
  | a :: l, e, p, h => by
    rw [posL] at h
    simp only [List.length_cons]
    rcases List.mem_cons.1 h with rfl | h
    · omega
    · have ih := pos_mem l _ p h
      split at ih <;> omega
def vwOf (b : Bl) (base : Int) (l : List Ar) (e : Int) : Vw := ⟨b, base, l, posL e l, finL e l⟩
theorem vw_ok {b : Bl} (hz : checkB b = 0) (fb : FineBl b) (base : Int) {l : List Ar} (hl : l.length ≤ 20) {e : Int} (h0 : 0 ≤ e) (h1 : e ≤ 100) : VwOk (vwOf b base l e) := by
  refine ⟨⟨by simp only [vwOf, pos_len]; omega, fun p hp => ?_⟩, by simp only [vwOf, pos_len], hl, fb.s, fb.c, fun c hc => (fb.cons c hc).args.1, fun s hs => (fb.sorts s hs).idx.1⟩
  have := pos_mem l e p hp
  omega
theorem ty_ok {b : Bl} (hz : checkB b = 0) (fb : FineBl b) (hf : Fit b) {base : Int} (b0 : 0 ≤ base) (b1 : base ≤ 60000) {l : List Ar} (ol : okArs l) (fl : FineArs l) (hr : rowM b l = true) {n : Nat} {cons : Int} (hg : rowF n b base l cons = true) {e : Int} (h0 : 0 ≤ e) (h1 : e ≤ 100) : TyOk (vwOf b base l e) n cons :=
  ⟨vw_ok hz fb base fl.1 h0 h1, hf, b0, b1, fun p hp => by have := pos_mem l e p hp; have := fl.1; omega, ol, fl, hr, hg⟩
theorem done8_ok (v : Vw) (n : Nat) (hN : n ≤ 1000000) (hn9 : 9000 ≤ n) (cons : Int) (H : TyOk v n cons) (body : T) (ob : okT body) : Pure Tryz.prog n_disp_view_done [.rp (cVw v), .agg (cT body)] [.agg (cT (rightT (nestT 4 (tyL v n 0 v.args) body))), .int .i64 (checkM (nestT 4 (tyL v n 0 v.args) body))] := by
  refine p_disp_view_done rfl fun hs => ?_
  obtain ⟨h1, h2, h3⟩ := types8_ok v n hN hn9 cons H
  have hP := pis_ok (tyL v n 0 v.args) body (by omega) ob ⟨by omega, h2⟩
  generalize tyL v n 0 v.args = L at *
  have hC := check_ok (nestT 4 L body)
  generalize nestT 4 L body = R at *
  simp only [cT, eTs] at h1 hP hC
  simp -dsimp [x_disp_view_done, cT]
  refine call_of h1 ?_
  simp -dsimp
  refine call_of hP ?_
  simp -dsimp [cT]
  refine call_of hC ?_
  by_cases hc : checkM R = 0
  · simp -dsimp [hc, rightT, cT]
  · simp -dsimp [hc, rightT, cT, zT]
def mayP (b : Bl) (base k many : Int) : Int := if positE 9000 b base = 0 ∧ (k < 0 ∨ many ≤ k) then 1 else positE 9000 b base
theorem may8_ok (b : Bl) (ob : okBl b) (fb : FineBl b) (base k many : Int) : Pure Tryz.prog n_disp_may [eBl b, .int .i64 base, .int .i64 k, .int .i64 many] [.int .i64 (mayP b base k many)] := by
  refine p_disp_may rfl fun hs => ?_
  have hP := posit_ok 9000 (by omega) (by omega) b ob fb base
  rw [mayP]
  generalize positE 9000 b base = E at *
  simp only [eBl, cBl] at hP
  simp -dsimp [x_disp_may, eBl, cBl]
  refine call_of hP ?_
  by_cases h1 : E = 0
  · by_cases h2 : k < 0
    · simp -dsimp [h1, h2]
    · by_cases h3 : many ≤ k
      · simp -dsimp [h1, h2, h3]
      · simp -dsimp [h1, h2, h3]
  · simp -dsimp [h1]
/-- The motive's type. -/
def motT (b : Bl) (base k : Int) (so : So) : T :=
  nestT 4 (tyL (vwOf b base so.idx k) 9000 0 so.idx) (.mk 4 0 [spT (tC (former b base k)) ((posL k so.idx).map fun p => lv p (finL k so.idx)), .mk 2 b.elim []])
def motE (b : Bl) (base k : Int) : Int := if mayP b base k b.sorts.length = 0 then (match b.sorts[k.toNat]? with | some so => checkM (motT b base k so) | none => 1) else mayP b base k b.sorts.length
def motR (b : Bl) (base k : Int) : T := if motE b base k = 0 then (match b.sorts[k.toNat]? with | some so => motT b base k so | none => zT) else zT
theorem mayP_zero {b : Bl} {base k many : Int} (h : mayP b base k many = 0) : positE 9000 b base = 0 ∧ 0 ≤ k ∧ k < many := by
  rw [mayP] at h
  split at h
  · cases h
  · rename_i hc
    exact ⟨h, by omega, by omega⟩
theorem posE_zero8 {n : Nat} {b : Bl} {base : Int} (h : positE n b base = 0) : checkB b = 0 ∧ 0 ≤ base ∧ base ≤ 65535 ∧ posF n b base = true := by
  rw [positE] at h
  split at h
  · rename_i hz
    split at h
    · cases h
    · split at h
      · rename_i hp
        exact ⟨hz, by omega, by omega, hp⟩
      · cases h
  · rename_i hz
    exact absurd h hz
theorem sort_good {n : Nat} {b : Bl} {base : Int} (h : posF n b base = true) {k : Nat} {so : So} (hk : b.sorts[k]? = some so) : rowF n b base so.idx 0 = true := by
  rw [posF, Bool.and_eq_true] at h
  obtain ⟨hlt, rfl⟩ := List.getElem?_eq_some_iff.1 hk
  have := (allI_iff _ _ _).1 h.1 k hlt
  rw [sortF, Bool.and_eq_true] at this
  exact this.1
theorem con_good {n : Nat} {b : Bl} {base : Int} (h : posF n b base = true) {c : Nat} {x : Co} (hk : b.cons[c]? = some x) : rowF n b base x.args c = true ∧ ∃ so, b.sorts[x.sort.toNat]? = some so ∧ indF n ⟨b, base, x.args, 0⟩ so x.idx c = true := by
  rw [posF, Bool.and_eq_true] at h
  obtain ⟨hlt, rfl⟩ := List.getElem?_eq_some_iff.1 hk
  have := (allI_iff _ _ _).1 h.2 c hlt
  rw [Nat.zero_add, conF, Bool.and_eq_true] at this
  refine ⟨this.1, ?_⟩
  have h2 := this.2
  split at h2
  · rename_i so hso
    rw [Bool.and_eq_true] at h2
    exact ⟨so, hso, h2.1⟩
  · cases h2
set_option maxHeartbeats 2000000 in
theorem motive_ok (b : Bl) (ob : okBl b) (fb : FineBl b) (hf : Fit b) (base k : Int) (b1 : base ≤ 60000) : Pure Tryz.prog n_disp_Motive [eBl b, .int .i64 base, .int .i64 k] [.agg (cT (motR b base k)), .int .i64 (motE b base k)] := by
  have hM := may8_ok b ob fb base k b.sorts.length
  by_cases hm : mayP b base k b.sorts.length = 0
  case neg =>
    have e1 : motE b base k = mayP b base k b.sorts.length := by rw [motE, if_neg hm]
    have e2 : motR b base k = zT := by rw [motR, if_neg (by rw [e1]; exact hm)]
    rw [e1, e2]
    generalize mayP b base k b.sorts.length = E at *
    refine p_disp_Motive rfl fun hs => ?_
    simp only [eBl, cBl] at hM
    simp -dsimp [x_disp_Motive, eBl, cBl, eSos]
    simp only [eSos] at hM
    refine call_of hM ?_
    simp -dsimp [hm, zT, cT]
  obtain ⟨hp, k0, k1⟩ := mayP_zero hm
  obtain ⟨hz, b0, _, hpos⟩ := posE_zero8 hp
  obtain ⟨z1, z4, z8, zl, zs, zc⟩ := (checkB_zero b).1 hz
  have hlt : k.toNat < b.sorts.length := by omega
  have hget : b.sorts[k.toNat]? = some b.sorts[k.toNat] := List.getElem?_eq_getElem hlt
  have hsg := sort_good hpos hget
  have os := ob.sorts _ (List.getElem_mem hlt)
  have fs := fb.sorts _ (List.getElem_mem hlt)
  have hrow := sort_row (zs _ hlt)
  generalize hS : b.sorts[k.toNat] = S at *
  have hT := ty_ok hz fb hf b0 b1 os.idx fs.idx hrow hsg (e := k) k0 (by omega)
  have hv := hT.vw
  have hfl := fin_le S.idx k
  have hil := fs.idx.1
  obtain ⟨hOwn, oOwn⟩ := own8_ok (vwOf b base S.idx k) hv (finL k S.idx) (by omega) (by omega)
  have hSh := show_ok b base k S.idx hil k0 (by omega)
  have hF := former_ok b base k
  have hfi := former_is hf b0 (by omega : base ≤ 65535) k
  rw [if_pos ⟨k0, k1⟩] at hfi
  have hC := tc_ok (former b base k)
  have oC : okT (tC (former b base k)) := okT_leaf (by omega) (by omega)
  have hSp := spine_ok (tC (former b base k)) ((posL k S.idx).map fun p => lv p (finL k S.idx)) (by rw [List.length_map, pos_len]; omega) oC ⟨by rw [List.length_map, pos_len]; omega, oOwn⟩
  have oSp := sp_okT _ _ oC oOwn
  have hU := tu_ok b.elim
  have hN := node_ok 4 [spT (tC (former b base k)) ((posL k S.idx).map fun p => lv p (finL k S.idx)), .mk 2 b.elim []]
  have oB : okT (.mk 4 0 [spT (tC (former b base k)) ((posL k S.idx).map fun p => lv p (finL k S.idx)), .mk 2 b.elim []]) := okT_k (by omega) oSp (.mk _ _ _ (by simp only [n64]; omega) ob.elim (by simp) (by simp)) (by omega)
  have hD := done8_ok (vwOf b base S.idx k) 9000 (by omega) (by omega) 0 hT _ oB
  have e0 : (vwOf b base S.idx k).args = S.idx := rfl
  have e1 : motE b base k = checkM (motT b base k S) := by rw [motE, if_pos hm, hget]
  have e2 : motR b base k = rightT (motT b base k S) := by rw [motR, rightT, e1, hget]
  rw [e0, ← motT] at hD
  rw [e1, e2]
  rw [hm] at hM
  clear e1 e2 e0 hT hv oOwn oC oSp oB hrow hsg os fs
  have e3 : (vwOf b base S.idx k).pos = posL k S.idx := rfl
  rw [e3] at hOwn
  have e4 : cVw (vwOf b base S.idx k) = cBl b ++ [.int .i64 base, eArs S.idx, .sl 1 ((posL k S.idx).map (.int .i64)), .int .i64 (finL k S.idx)] := rfl
  have e5 : cVw ⟨b, base, S.idx, posL k S.idx, finL k S.idx⟩ = cBl b ++ [.int .i64 base, eArs S.idx, .sl 1 ((posL k S.idx).map (.int .i64)), .int .i64 (finL k S.idx)] := rfl
  rw [e4] at hOwn hD
  rw [e5] at hSh
  generalize checkM (motT b base k S) = CE at *
  generalize rightT (motT b base k S) = RT at *
  generalize spT (tC (former b base k)) ((posL k S.idx).map fun p => lv p (finL k S.idx)) = SP at *
  generalize ((posL k S.idx).map fun p => lv p (finL k S.idx)) = OW at *
  generalize former b base k = FO at *
  refine p_disp_Motive rfl fun hs => ?_
  simp only [eBl, cBl, eSos, cT, eTs, eArs, tC, tk, tn, tks, List.map_nil, List.map_cons, eT_eq, List.cons_append, List.nil_append] at hM hOwn hSh hF hC hSp hU hN hD
  simp -dsimp [x_disp_Motive, eBl, cBl, eSos]
  refine call_of hM ?_
  simp -dsimp [k0, hlt, hS, hget, eSo, cSo, cT, eArs]
  refine call_of hSh ?_
  simp -dsimp
  refine call_of hF ?_
  simp -dsimp
  refine call_of hC ?_
  simp -dsimp
  refine call_of hOwn ?_
  simp -dsimp
  refine call_of hSp ?_
  simp -dsimp [cT]
  refine call_of hU ?_
  simp -dsimp [cT]
  refine call_of hN ?_
  simp -dsimp [cT]
  refine call_of hD ?_
  simp -dsimp [cT]
end
end Ev
end Go.Proofs.YtjebpfhffenbnaaGreat
