/- The document's posit: good terms, rows, blocks. -/
import Derived.Test.YtjebpfhffenbnaaGreatW2
namespace Go.Proofs.YtjebpfhffenbnaaGreat
namespace Ev
open Go
set_option maxRecDepth 100000
set_option linter.unusedSimpArgs false
set_option linter.unusedVariables false
section
attribute [local simp] allD_map_d sks_map_d tk tn tks initA EndsM one_sos one_cos one_ars one_ts
theorem var_is {t : T} (ft : formedM t = true) (h : t.kind = 1) : t = .mk 1 t.num [] ∧ 0 ≤ t.num := by
  obtain ⟨k, m, ks⟩ := t
  have c1' : k = 1 := h
  subst c1'
  refine ⟨?_, (var_formed rfl ft).1⟩
  rw [var_leaf rfl ft]; rfl
set_option maxHeartbeats 4000000 in
theorem good7_ok (cons : Int) : ∀ (n : Nat), n ≤ 1000000 → ∀ (p : Pl) (t : T), Pok p → p.more + nodes t ≤ 1000000000 → okT t → formedM t = true → nodes t ≤ n →
    Pure Tryz.prog n_porismref07_place_good [.agg (rp p), .agg (cT t), .int .i64 cons] [.bool (goodF n p t cons)] := by
  intro n
  induction n with
  | zero => intro _ p t _ _ _ _ h; have := nodes_pos t; omega
  | succ n ih =>
    intro hN p t hp hm ot ft hn
    have h0 := hp.m0
    have hal := hp.al
    have hfs := hp.fit.s
    have hfc := hp.fit.c
    obtain ⟨oH, oA⟩ := (spA_mem t).2 ot
    have mA := (spA_mem t).1
    obtain ⟨fH, fA⟩ := sp_formed2 t ft
    have hO2 := of7_ok p.b hp.fit p.base (spH t).num oH.num64
    have hsl := spA_lt t
    have hU := runspine_own t ot (by omega)
    have hm' : ∀ x ∈ (spA t).reverse, okT x ∧ formedM x = true ∧ nodes x < nodes t := fun x hx => ⟨oA x (by simpa using hx), fA x (by simpa using hx), mA x (by simpa using hx)⟩
    have hAl : (spA t).reverse.length ≤ 1000000 := by rw [List.length_reverse]; omega
    have hCl : ∀ (i : Nat) (hi : i < (spA t).reverse.length), Pure Tryz.prog n_porismref07_place_clean [.agg (rp p), .agg (cT (spA t).reverse[i])] [.bool (cleanF n p (spA t).reverse[i])] := fun i hi => by
      obtain ⟨x1, x2, x3⟩ := hm' _ (List.getElem_mem hi)
      exact clean7_ok n (by omega) p _ hp (by omega) x1 x2 (by omega)
    have hGl : ∀ (i : Nat) (hi : i < (spA t).reverse.length), Pure Tryz.prog n_porismref07_place_good [.agg (rp p), .agg (cT (spA t).reverse[i]), .int .i64 cons] [.bool (goodF n p (spA t).reverse[i] cons)] := fun i hi => by
      obtain ⟨x1, x2, x3⟩ := hm' _ (List.getElem_mem hi)
      exact ih (by omega) p _ hp (by omega) x1 x2 (by omega)
    have hFl : ∀ (i : Nat) (hi : i < (spA t).reverse.length), formedM (spA t).reverse[i] = true := fun i hi => (hm' _ (List.getElem_mem hi)).2.1
    have hgk : guardB p (spH t) = true → (spH t).kind = 1 := fun h => (guardB_j h).1
    have hgj : guardB p (spH t) = true → ∃ j : Nat, guardN p (spH t) = j ∧ j < p.args.length := fun h => (guardB_j h).2
    have hvar : (spH t).kind = 1 → spH t = .mk 1 (spH t).num [] ∧ 0 ≤ (spH t).num := fun h => var_is fH h
    rw [goodF]
    have hV : goodG (cleanF n p) (fun x => goodF n p x cons) p t cons = if guardB p (spH t) then (match p.args[(guardN p (spH t)).toNat]? with
      | some a => decide ((spA t).reverse.length = a.dom.length) && (spA t).reverse.all (cleanF n p)
      | none => false)
      else if (spH t).kind = 3 then if (ofM p.b p.base (spH t).num).1 = 5 then if (ofM p.b p.base (spH t).num).2 < cons then match p.b.cons[(ofM p.b p.base (spH t).num).2.toNat]? with
        | some c => if (spA t).reverse.length = c.args.length then allI (fun i a => match (spA t).reverse[i]? with | some x => fitA (cleanF n p) (fun x => goodF n p x cons) p a x | none => false) 0 c.args else false
        | none => false else false else false
      else false := rfl
    generalize goodG (cleanF n p) (fun x => goodF n p x cons) p t cons = V at hV ⊢
    simp only [cT] at hU
    clear oA mA fA hm' hsl
    have hof5 := of_five (b := p.b) (base := p.base) (n := (spH t).num)
    have hofk := of_kind (b := p.b) (base := p.base) (n := (spH t).num)
    generalize (spA t).reverse = A at *
    generalize spH t = H at *
    by_cases c1 : H.kind = 1
    · obtain ⟨hHe, hn0⟩ := hvar c1
      have hG := guarded7_ok p H.num hn0 h0 (by omega) (by omega)
      obtain ⟨gn1, gn2⟩ := grd_neg p H.num
      rw [← hHe] at gn1 gn2
      by_cases hg : guardB p H = true
      case neg =>
        have hg' : guardB p H = false := by simpa using hg
        have hlt0 := gn1.2 hg'
        have hv : V = false := by rw [hV, if_neg hg, if_neg (by omega)]
        rw [hv]
        refine p_porismref07_place_good rfl fun hs => ?_
        simp only [rp, cBl, List.cons_append, List.nil_append] at hG
        simp -dsimp [x_porismref07_place_good, rp, cBl, cT]
        refine callO_of hU (by simp [rowsV, rowsC, RV.cells]) ?_
        simp -dsimp [c1]
        refine call_of hG ?_
        simp -dsimp [c1, hlt0]
      obtain ⟨j, hj, hjl⟩ := hgj hg
      have hge : p.args[j]? = some p.args[j] := List.getElem?_eq_getElem hjl
      have hgv : grd p H.num = j := by rw [gn2 hg, hj]
      rw [hgv] at hG
      have hj0 : ¬ ((j : Int) < 0) := by omega
      rw [if_pos hg, hj, Int.toNat_natCast, hge] at hV
      simp only at hV
      clear gn1 gn2 hgv hof5 hofk
      generalize hR : p.args[j] = R at *
      by_cases hll : A.length = R.dom.length
      case neg =>
        have hll' : ¬ (A.length : Int) = R.dom.length := by omega
        have hv : V = false := by rw [hV]; simp [hll]
        rw [hv]
        refine p_porismref07_place_good rfl fun hs => ?_
        simp only [rp, cBl, List.cons_append, List.nil_append] at hG
        simp -dsimp [x_porismref07_place_good, rp, cBl, cT]
        refine callO_of hU (by simp [rowsV, rowsC, RV.cells]) ?_
        simp -dsimp [c1]
        refine call_of hG ?_
        simp -dsimp [c1, hj0, eArs, hjl, hge, hR, eAr, cAr, cT, eTs, hll, hll']
      have hll' : (A.length : Int) = R.dom.length := by omega
      have hV2 : V = A.all (cleanF n p) := by rw [hV]; simp [hll]
      have hB2 : ∀ (j : Nat) (hj : j < A.length), cleanF n p A[j] = false → V = false := fun j hj hc => by
        rw [hV2, Bool.eq_false_iff]
        intro h2
        have := all_iff'.1 h2 j hj
        rw [hc] at this
        cases this
      refine p_porismref07_place_good rfl fun hs => ?_
      simp only [rp, cBl, List.cons_append, List.nil_append] at hG
      simp -dsimp [x_porismref07_place_good, rp, cBl, cT]
      refine callO_of hU (by simp [rowsV, rowsC, RV.cells]) ?_
      simp -dsimp [c1]
      refine call_of hG ?_
      simp -dsimp [c1, hj0, eArs, hjl, hge, hR, eAr, cAr, cT, eTs, hll']
      refine wp_upto A.length (fun i st => (st.s 3 = .ptr 3 1 0 ∧ st.h 3 = ⟨1, .box [.d (eSos p.b.sorts), .d (eCos p.b.cons), .d (.int .i64 p.b.elim), .d (.int .i64 p.base), .d (.sl 1 ((vrs p).map (.int .i64))), .d (eArs p.args)] false⟩) ∧
        (st.s 8 = .rsl 17 1 ∧ st.h 17 = ⟨1, .row 3 (A.map eT) false⟩) ∧ st.s 10 = .d (.int .i64 i) ∧ ∀ (m : Nat) (hm : m < A.length), m < i → cleanF n p A[m] = true) ?_ ?_
      · simp -dsimp [eArs]
      · rintro i ⟨s, hq⟩ hi ⟨⟨g3, k3⟩, ⟨g8, k17⟩, g10, gz⟩
        dsimp only at g3 k3 g8 k17 g10
        rcases Nat.lt_or_ge i A.length with hlt | hge2
        · have w1 : IntKind.i64.wrap ((i : Int) + 1) = (i : Int) + 1 := wrap_id (by omega) (by omega)
          have hC := hCl i hlt
          have hB2i := hB2 i hlt
          have hnx : cleanF n p A[i] = true → ∀ (m : Nat) (hm : m < A.length), m < i + 1 → cleanF n p A[m] = true := fun h m hm hmj => by
            rcases Nat.lt_or_ge m i with h' | h'
            · exact gz m hm h'
            · have : m = i := by omega
              subst this
              exact h
          generalize hY : A[i] = Y at *
          simp only [rp, cBl, cT, List.cons_append, List.nil_append] at hC
          simp -dsimp [g3, k3, g8, k17, g10, hlt, hY, cT]
          refine call_of hC ?_
          cases hc : cleanF n p Y with
          | false =>
            have hv := hB2i hc
            simp -dsimp [g3, k3, g8, k17, g10, hv]
          | true =>
            have hnx' := hnx hc
            simp -dsimp [g3, k3, g8, k17, g10, hlt, w1]
            exact hnx'
        · have ej : i = A.length := by omega
          subst ej
          have hv : V = true := by rw [hV2]; exact all_iff'.2 fun m hm => gz m hm hm
          simp -dsimp [g3, k3, g8, k17, g10, hv]
    have hgf : ¬ guardB p H = true := fun h => c1 (hgk h)
    rw [if_neg hgf] at hV
    by_cases c3 : H.kind = 3
    case neg =>
      have hv : V = false := by rw [hV, if_neg c3]
      rw [hv]
      refine p_porismref07_place_good rfl fun hs => ?_
      simp -dsimp [x_porismref07_place_good, rp, cBl, cT]
      refine callO_of hU (by simp [rowsV, rowsC, RV.cells]) ?_
      simp -dsimp [c1, c3]
    rw [if_pos c3] at hV
    by_cases c5 : (ofM p.b p.base H.num).1 = 5
    case neg =>
      have hv : V = false := by rw [hV, if_neg c5]
      rw [hv]
      generalize ofM p.b p.base H.num = o at *
      refine p_porismref07_place_good rfl fun hs => ?_
      simp only [eBl, cBl] at hO2
      simp -dsimp [x_porismref07_place_good, rp, cBl, cT]
      refine callO_of hU (by simp [rowsV, rowsC, RV.cells]) ?_
      simp -dsimp [c1, c3]
      refine call_of hO2 ?_
      simp -dsimp [c5]
    rw [if_pos c5] at hV
    obtain ⟨k, k1, _, k3⟩ := hof5 c5
    rw [k3] at hV hO2
    have hget : p.b.cons[k]? = some p.b.cons[k] := List.getElem?_eq_getElem k1
    have hcal := hp.ca _ (List.getElem_mem k1)
    simp only [Int.toNat_natCast, hget] at hV
    clear hofk hof5 c5 k3
    generalize hSk : p.b.cons[k] = S at *
    by_cases c6 : (k : Int) < cons
    case neg =>
      have hv : V = false := by rw [hV, if_neg c6]
      rw [hv]
      have c6' : cons ≤ (k : Int) := by omega
      refine p_porismref07_place_good rfl fun hs => ?_
      simp only [eBl, cBl] at hO2
      simp -dsimp [x_porismref07_place_good, rp, cBl, cT]
      refine callO_of hU (by simp [rowsV, rowsC, RV.cells]) ?_
      simp -dsimp [c1, c3]
      refine call_of hO2 ?_
      simp -dsimp [c6']
    rw [if_pos c6] at hV
    have c6' : ¬ cons ≤ (k : Int) := by omega
    by_cases c7 : A.length = S.args.length
    case neg =>
      have hv : V = false := by rw [hV, if_neg c7]
      rw [hv]
      have c7' : ¬ (A.length : Int) = S.args.length := by omega
      refine p_porismref07_place_good rfl fun hs => ?_
      simp only [eBl, cBl] at hO2
      simp -dsimp [x_porismref07_place_good, rp, cBl, cT]
      refine callO_of hU (by simp [rowsV, rowsC, RV.cells]) ?_
      simp -dsimp [c1, c3]
      refine call_of hO2 ?_
      simp -dsimp [c6, c6', k1, hget, hSk, eCos, eCo, cCo, cT, eArs, c7, c7']
    rw [if_pos c7] at hV
    have c7' : (A.length : Int) = S.args.length := by omega
    have hfit : ∀ (i : Nat) (hi : i < S.args.length), (match A[i]? with | some x => fitA (cleanF n p) (fun x => goodF n p x cons) p S.args[i] x | none => false) = fitA (cleanF n p) (fun x => goodF n p x cons) p S.args[i] (A[i]'(by omega)) := fun i hi => by rw [List.getElem?_eq_getElem (by omega : i < A.length)]
    have hVt : (∀ (i : Nat) (hi : i < S.args.length), fitA (cleanF n p) (fun x => goodF n p x cons) p S.args[i] (A[i]'(by omega)) = true) → V = true := fun h => by
      rw [hV]
      exact (allI_iff _ _ _).2 fun j hj => by simp only [Nat.zero_add]; rw [hfit j hj]; exact h j hj
    have hVf : ∀ (i : Nat) (hi : i < S.args.length), fitA (cleanF n p) (fun x => goodF n p x cons) p S.args[i] (A[i]'(by omega)) = false → V = false := fun i hi h => by
      rw [hV, Bool.eq_false_iff]
      intro h2
      have := (allI_iff _ _ _).1 h2 i hi
      simp only [Nat.zero_add] at this
      rw [hfit i hi, h] at this
      cases this
    refine p_porismref07_place_good rfl fun hs => ?_
    simp only [eBl, cBl] at hO2
    simp -dsimp [x_porismref07_place_good, rp, cBl, cT]
    refine callO_of hU (by simp [rowsV, rowsC, RV.cells]) ?_
    simp -dsimp [c1, c3]
    refine call_of hO2 ?_
    simp -dsimp [c6, c6', k1, hget, hSk, eCos, eCo, cCo, cT, eArs, c7']
    refine wp_upto A.length (fun i st => (st.s 2 = .d (.int .i64 cons) ∧ st.s 12 = .d (.int .i64 k)) ∧ (st.s 3 = .ptr 3 1 0 ∧ st.h 3 = ⟨1, .box [.d (eSos p.b.sorts), .d (eCos p.b.cons), .d (.int .i64 p.b.elim), .d (.int .i64 p.base), .d (.sl 1 ((vrs p).map (.int .i64))), .d (eArs p.args)] false⟩) ∧
      (st.s 8 = .rsl 17 1 ∧ st.h 17 = ⟨1, .row 3 (A.map eT) false⟩) ∧ st.s 13 = .d (.int .i64 i) ∧ ∀ (j : Nat) (hj : j < S.args.length), j < i → fitA (cleanF n p) (fun x => goodF n p x cons) p S.args[j] (A[j]'(by omega)) = true) ?_ ?_
    · simp -dsimp [eCos, eArs]
    · rintro i ⟨s, hq⟩ hi ⟨⟨g2, g12⟩, ⟨g3, k3⟩, ⟨g8, k17⟩, g13, g⟩
      dsimp only at g2 g12 g3 k3 g8 k17 g13
      simp only [eCos] at k3
      rcases Nat.lt_or_ge i A.length with hlt | hge2
      · have w1 : IntKind.i64.wrap ((i : Int) + 1) = (i : Int) + 1 := wrap_id (by omega) (by omega)
        have hltS : i < S.args.length := by omega
        have hcv := hVf i hltS
        have hfi : ∀ h : fitA (cleanF n p) (fun x => goodF n p x cons) p S.args[i] A[i] = true, ∀ (j : Nat) (hj : j < S.args.length), j < i + 1 → fitA (cleanF n p) (fun x => goodF n p x cons) p S.args[j] (A[j]'(by omega)) = true := fun h j hj hji => by
          rcases Nat.lt_or_ge j i with h' | h'
          · exact g j hj h'
          · have : j = i := by omega
            subst this
            exact h
        have hCx := hCl i hlt
        have hDx := hGl i hlt
        have hFx := hFl i hlt
        generalize hX : A[i] = X at *
        generalize hAr : S.args[i] = R at *
        simp only [rp, cBl, cT, eCos, List.cons_append, List.nil_append] at hCx hDx
        simp -dsimp [g2, g12, g3, k3, g8, k17, g13, hlt, k1, hget, hSk, hltS, hAr, hX, eCo, cCo, eAr, cAr, cT, eArs]
        cases hr : R.rc with
        | false =>
          simp -dsimp [g2, g12, g3, k3, g8, k17, g13, hlt, hltS, hAr, hX, eAr, cAr, cT, hr]
          simp only [eArs] at hCx
          refine call_of hCx ?_
          cases hc : cleanF n p X with
          | false =>
            have hw := hcv (by simp [fitA, hr, hc])
            simp -dsimp [g2, g12, g3, k3, g8, k17, g13, hlt, hltS, hAr, hX, eAr, cAr, cT, hr, hw]
          | true =>
            have hnx := hfi (by simp [fitA, hr, hc])
            simp -dsimp [g2, g12, g3, k3, g8, k17, g13, hlt, hltS, hAr, hX, eAr, cAr, cT, hr, w1, eCos, eArs]
            exact hnx
        | true =>
          by_cases hd : R.dom.length = 0
          · have hdn : R.dom = [] := List.length_eq_zero_iff.1 hd
            simp -dsimp [g2, g12, g3, k3, g8, k17, g13, hlt, hltS, hAr, hX, eAr, cAr, cT, hr, hdn, eTs]
            simp only [eArs] at hDx
            refine call_of hDx ?_
            cases hc : goodF n p X cons with
            | false =>
              have hw := hcv (by simp [fitA, hr, hd, hc])
              simp -dsimp [g2, g12, g3, k3, g8, k17, g13, hlt, hltS, hAr, hX, eAr, cAr, cT, hr, hdn, eTs, hw]
            | true =>
              have hnx := hfi (by simp [fitA, hr, hd, hc])
              simp -dsimp [g2, g12, g3, k3, g8, k17, g13, hlt, hltS, hAr, hX, eAr, cAr, cT, hr, hdn, eTs, w1, eCos, eArs]
              exact hnx
          · have hd' : ¬ (R.dom.length : Int) = 0 := by omega
            have hd2 : (0 : Int) < R.dom.length := by omega
            have hdn : ¬ R.dom = [] := fun h => hd (by rw [h]; rfl)
            have hd3 : 0 < R.dom.length := by omega
            by_cases hk1 : X.kind = 1
            case neg =>
              have hgX : guardB p X = false := by rw [Bool.eq_false_iff]; intro h; exact hk1 (guardB_j h).1
              have hw := hcv (by simp [fitA, hr, hdn, hgX])
              simp -dsimp [g2, g12, g3, k3, g8, k17, g13, hlt, hltS, hAr, hX, eAr, cAr, cT, hr, hdn, hd', hd2, hd3, hk1, eTs, hw]
            obtain ⟨hXe, hXn⟩ := var_is hFx hk1
            have hGX := guarded7_ok p X.num hXn h0 (by omega) (by omega)
            obtain ⟨gn1, _⟩ := grd_neg p X.num
            rw [← hXe] at gn1
            simp only [rp, cBl, eCos, eArs, List.cons_append, List.nil_append] at hGX
            simp -dsimp [g2, g12, g3, k3, g8, k17, g13, hlt, hltS, hAr, hX, eAr, cAr, cT, hr, hdn, hd', hd2, hd3, hk1, eTs, eArs]
            refine call_of hGX ?_
            cases hc : guardB p X with
            | false =>
              have hneg : ¬ 0 ≤ grd p X.num := by have := gn1.2 hc; omega
              have hw := hcv (by simp [fitA, hr, hdn, hc])
              simp -dsimp [g2, g12, g3, k3, g8, k17, g13, hlt, hltS, hAr, hX, hr, hdn, hd', hd2, hd3, hneg, hw]
            | true =>
              have hnn : 0 ≤ grd p X.num := by
                by_cases h : 0 ≤ grd p X.num
                · exact h
                · rw [gn1.1 (by omega)] at hc; cases hc
              have hnx := hfi (by simp [fitA, hr, hdn, hc])
              simp -dsimp [g2, g12, g3, k3, g8, k17, g13, hlt, hltS, hAr, hX, hr, hdn, hd', hd2, hd3, hnn, w1, eCos, eArs]
              exact hnx
      · have ej : i = A.length := by omega
        subst ej
        have hv := hVt fun j hj => g j hj (by omega)
        simp -dsimp [g2, g12, g3, k3, g8, k17, g13, hv]
end
end Ev
end Go.Proofs.YtjebpfhffenbnaaGreat
