/- Texts of this claim, in one. -/
import Derived.Test.YtdhfkbdhdgaccaaGreatMb
set_option maxRecDepth 100000
set_option linter.unusedSimpArgs false
set_option linter.unusedVariables false
namespace Go.Proofs.YtdhfkbdhdgaccaaGreat
namespace Ev
open Go
section
section
attribute [local simp] zae zaf tk tn tks zb1 zcb za9 zba zbb zbz
theorem zOx {t : T} (ft : zab t = true) (h : t.kind = 1) : t = .mk 1 t.num [] ∧ 0 ≤ t.num := by
  obtain ⟨k, m, ks⟩ := t
  have c1' : k = 1 := h
  subst c1'
  refine ⟨?_, (zdh rfl ft).1⟩
  rw [zku rfl ft]; rfl
set_option maxHeartbeats 4000000 in
theorem zNp (cons : Int) : ∀ (n : Nat), n ≤ 1000000 → ∀ (p : Pl) (t : T), Pok p → p.more + zac t ≤ 1000000000 → okT t → zab t = true → zac t ≤ n →
    Pure Tryz.prog zbw [.agg (rp p), .agg (cT t), .int .i64 cons] [.bool (zcv n p t cons)] := by
  intro n
  induction n with
  | zero => intro _ p t _ _ _ _ h; have := zf0 t; omega
  | succ n ih =>
    intro hN p t hp hm ot ft hn
    have h0 := hp.m0
    have hal := hp.al
    have hfs := hp.fit.s
    have hfc := hp.fit.c
    obtain ⟨oH, oA⟩ := (zh0 t).2 ot
    have mA := (zh0 t).1
    obtain ⟨fH, fA⟩ := zh1 t ft
    have hO2 := zI3 p.b hp.fit p.base (spH t).num oH.num64
    have hsl := zuh t
    have hU := zoz t ot (by omega)
    have hm' : ∀ x ∈ (spA t).reverse, okT x ∧ zab x = true ∧ zac x < zac t := fun x hx => ⟨oA x (by simpa using hx), fA x (by simpa using hx), mA x (by simpa using hx)⟩
    have hAl : (spA t).reverse.length ≤ 1000000 := by rw [List.length_reverse]; omega
    have hCl : ∀ (i : Nat) (hi : i < (spA t).reverse.length), Pure Tryz.prog zag [.agg (rp p), .agg (cT (spA t).reverse[i])] [.bool (zah n p (spA t).reverse[i])] := fun i hi => by
      obtain ⟨x1, x2, x3⟩ := hm' _ (List.getElem_mem hi)
      exact zlj n (by omega) p _ hp (by omega) x1 x2 (by omega)
    have hGl : ∀ (i : Nat) (hi : i < (spA t).reverse.length), Pure Tryz.prog zbw [.agg (rp p), .agg (cT (spA t).reverse[i]), .int .i64 cons] [.bool (zcv n p (spA t).reverse[i] cons)] := fun i hi => by
      obtain ⟨x1, x2, x3⟩ := hm' _ (List.getElem_mem hi)
      exact ih (by omega) p _ hp (by omega) x1 x2 (by omega)
    have hFl : ∀ (i : Nat) (hi : i < (spA t).reverse.length), zab (spA t).reverse[i] = true := fun i hi => (hm' _ (List.getElem_mem hi)).2.1
    have hgk : za0 p (spH t) = true → (spH t).kind = 1 := fun h => (zjm h).1
    have hgj : za0 p (spH t) = true → ∃ j : Nat, zcu p (spH t) = j ∧ j < p.args.length := fun h => (zjm h).2
    have hvar : (spH t).kind = 1 → spH t = .mk 1 (spH t).num [] ∧ 0 ≤ (spH t).num := fun h => zOx fH h
    rw [zcv]
    have hV : zya (zah n p) (fun x => zcv n p x cons) p t cons = if za0 p (spH t) then (match p.args[(zcu p (spH t)).toNat]? with
      | some a => decide ((spA t).reverse.length = a.dom.length) && (spA t).reverse.all (zah n p)
      | none => false)
      else if (spH t).kind = 3 then if (ofM p.b p.base (spH t).num).1 = 5 then if (ofM p.b p.base (spH t).num).2 < cons then match p.b.cons[(ofM p.b p.base (spH t).num).2.toNat]? with
        | some c => if (spA t).reverse.length = c.args.length then allI (fun i a => match (spA t).reverse[i]? with | some x => fitA (zah n p) (fun x => zcv n p x cons) p a x | none => false) 0 c.args else false
        | none => false else false else false
      else false := rfl
    generalize zya (zah n p) (fun x => zcv n p x cons) p t cons = V at hV ⊢
    simp only [cT] at hU
    clear oA mA fA hm' hsl
    have hof5 := zv3 (b := p.b) (base := p.base) (n := (spH t).num)
    have hofk := zDn (b := p.b) (base := p.base) (n := (spH t).num)
    generalize (spA t).reverse = A at *
    generalize spH t = H at *
    by_cases c1 : H.kind = 1
    · obtain ⟨hHe, hn0⟩ := hvar c1
      have hG := zmi p H.num hn0 h0 (by omega) (by omega)
      obtain ⟨gn1, gn2⟩ := zBa p H.num
      rw [← hHe] at gn1 gn2
      by_cases hg : za0 p H = true
      case neg =>
        have hg' : za0 p H = false := by simpa using hg
        have hlt0 := gn1.2 hg'
        have hv : V = false := by rw [hV, if_neg hg, if_neg (by omega)]
        rw [hv]
        refine za1 rfl fun hs => ?_
        simp only [rp, cBl, List.cons_append, List.nil_append] at hG
        simp -dsimp [zas, rp, cBl, cT]
        refine zcy hU (by simp [zax, zby, RV.cells]) ?_
        simp -dsimp [c1]
        refine zaa hG ?_
        simp -dsimp [c1, hlt0]
      obtain ⟨j, hj, hjl⟩ := hgj hg
      have hge : p.args[j]? = some p.args[j] := List.getElem?_eq_getElem hjl
      have hgv : grd p H.num = j := by rw [gn2 hg, hj]
      rw [hgv] at hG
      have hj0 : ¬ ((j : Int) < 0) := by omega
      rw [if_pos hg, hj, Int.toNat_natCast, hge] at hV
      simp only at hV
      clear gn1 gn2 hgv hof5 hofk
      generalize hR : p.args[j] = R at *
      by_cases hll : A.length = R.dom.length
      case neg =>
        have hll' : ¬ (A.length : Int) = R.dom.length := by omega
        have hv : V = false := by rw [hV]; simp [hll]
        rw [hv]
        refine za1 rfl fun hs => ?_
        simp only [rp, cBl, List.cons_append, List.nil_append] at hG
        simp -dsimp [zas, rp, cBl, cT]
        refine zcy hU (by simp [zax, zby, RV.cells]) ?_
        simp -dsimp [c1]
        refine zaa hG ?_
        simp -dsimp [c1, hj0, eArs, hjl, hge, hR, eAr, cAr, cT, eTs, hll, hll']
      have hll' : (A.length : Int) = R.dom.length := by omega
      have hV2 : V = A.all (zah n p) := by rw [hV]; simp [hll]
      have hB2 : ∀ (j : Nat) (hj : j < A.length), zah n p A[j] = false → V = false := fun j hj hc => by
        rw [hV2, Bool.eq_false_iff]
        intro h2
        have := zpa.1 h2 j hj
        rw [hc] at this
        cases this
      refine za1 rfl fun hs => ?_
      simp only [rp, cBl, List.cons_append, List.nil_append] at hG
      simp -dsimp [zas, rp, cBl, cT]
      refine zcy hU (by simp [zax, zby, RV.cells]) ?_
      simp -dsimp [c1]
      refine zaa hG ?_
      simp -dsimp [c1, hj0, eArs, hjl, hge, hR, eAr, cAr, cT, eTs, hll']
      refine zam A.length (fun i st => (st.s 3 = .ptr 3 1 0 ∧ st.h 3 = ⟨1, .box [.d (eSos p.b.sorts), .d (eCos p.b.cons), .d (.int .i64 p.b.elim), .d (.int .i64 p.base), .d (.sl 1 ((vrs p).map (.int .i64))), .d (eArs p.args)] false⟩) ∧
        (st.s 8 = .rsl 17 1 ∧ st.h 17 = ⟨1, .row 3 (A.map eT) false⟩) ∧ st.s 10 = .d (.int .i64 i) ∧ ∀ (m : Nat) (hm : m < A.length), m < i → zah n p A[m] = true) ?_ ?_
      · simp -dsimp [eArs]
      · rintro i ⟨s, hq⟩ hi ⟨⟨g3, k3⟩, ⟨g8, k17⟩, g10, gz⟩
        dsimp only at g3 k3 g8 k17 g10
        rcases Nat.lt_or_ge i A.length with hlt | hge2
        · have w1 : IntKind.i64.wrap ((i : Int) + 1) = (i : Int) + 1 := zad (by omega) (by omega)
          have hC := hCl i hlt
          have hB2i := hB2 i hlt
          have hnx : zah n p A[i] = true → ∀ (m : Nat) (hm : m < A.length), m < i + 1 → zah n p A[m] = true := fun h m hm hmj => by
            rcases Nat.lt_or_ge m i with h' | h'
            · exact gz m hm h'
            · have : m = i := by omega
              subst this
              exact h
          generalize hY : A[i] = Y at *
          simp only [rp, cBl, cT, List.cons_append, List.nil_append] at hC
          simp -dsimp [g3, k3, g8, k17, g10, hlt, hY, cT]
          refine zaa hC ?_
          cases hc : zah n p Y with
          | false =>
            have hv := hB2i hc
            simp -dsimp [g3, k3, g8, k17, g10, hv]
          | true =>
            have hnx' := hnx hc
            simp -dsimp [g3, k3, g8, k17, g10, hlt, w1]
            exact hnx'
        · have ej : i = A.length := by omega
          subst ej
          have hv : V = true := by rw [hV2]; exact zpa.2 fun m hm => gz m hm hm
          simp -dsimp [g3, k3, g8, k17, g10, hv]
    have hgf : ¬ za0 p H = true := fun h => c1 (hgk h)
    rw [if_neg hgf] at hV
    by_cases c3 : H.kind = 3
    case neg =>
      have hv : V = false := by rw [hV, if_neg c3]
      rw [hv]
      refine za1 rfl fun hs => ?_
      simp -dsimp [zas, rp, cBl, cT]
      refine zcy hU (by simp [zax, zby, RV.cells]) ?_
      simp -dsimp [c1, c3]
    rw [if_pos c3] at hV
    by_cases c5 : (ofM p.b p.base H.num).1 = 5
    case neg =>
      have hv : V = false := by rw [hV, if_neg c5]
      rw [hv]
      generalize ofM p.b p.base H.num = o at *
      refine za1 rfl fun hs => ?_
      simp only [eBl, cBl] at hO2
      simp -dsimp [zas, rp, cBl, cT]
      refine zcy hU (by simp [zax, zby, RV.cells]) ?_
      simp -dsimp [c1, c3]
      refine zaa hO2 ?_
      simp -dsimp [c5]
    rw [if_pos c5] at hV
    obtain ⟨k, k1, _, k3⟩ := hof5 c5
    rw [k3] at hV hO2
    have hget : p.b.cons[k]? = some p.b.cons[k] := List.getElem?_eq_getElem k1
    have hcal := hp.ca _ (List.getElem_mem k1)
    simp only [Int.toNat_natCast, hget] at hV
    clear hofk hof5 c5 k3
    generalize hSk : p.b.cons[k] = S at *
    by_cases c6 : (k : Int) < cons
    case neg =>
      have hv : V = false := by rw [hV, if_neg c6]
      rw [hv]
      have c6' : cons ≤ (k : Int) := by omega
      refine za1 rfl fun hs => ?_
      simp only [eBl, cBl] at hO2
      simp -dsimp [zas, rp, cBl, cT]
      refine zcy hU (by simp [zax, zby, RV.cells]) ?_
      simp -dsimp [c1, c3]
      refine zaa hO2 ?_
      simp -dsimp [c6']
    rw [if_pos c6] at hV
    have c6' : ¬ cons ≤ (k : Int) := by omega
    by_cases c7 : A.length = S.args.length
    case neg =>
      have hv : V = false := by rw [hV, if_neg c7]
      rw [hv]
      have c7' : ¬ (A.length : Int) = S.args.length := by omega
      refine za1 rfl fun hs => ?_
      simp only [eBl, cBl] at hO2
      simp -dsimp [zas, rp, cBl, cT]
      refine zcy hU (by simp [zax, zby, RV.cells]) ?_
      simp -dsimp [c1, c3]
      refine zaa hO2 ?_
      simp -dsimp [c6, c6', k1, hget, hSk, eCos, eCo, cCo, cT, eArs, c7, c7']
    rw [if_pos c7] at hV
    have c7' : (A.length : Int) = S.args.length := by omega
    have hfit : ∀ (i : Nat) (hi : i < S.args.length), (match A[i]? with | some x => fitA (zah n p) (fun x => zcv n p x cons) p S.args[i] x | none => false) = fitA (zah n p) (fun x => zcv n p x cons) p S.args[i] (A[i]'(by omega)) := fun i hi => by rw [List.getElem?_eq_getElem (by omega : i < A.length)]
    have hVt : (∀ (i : Nat) (hi : i < S.args.length), fitA (zah n p) (fun x => zcv n p x cons) p S.args[i] (A[i]'(by omega)) = true) → V = true := fun h => by
      rw [hV]
      exact (zan _ _ _).2 fun j hj => by simp only [Nat.zero_add]; rw [hfit j hj]; exact h j hj
    have hVf : ∀ (i : Nat) (hi : i < S.args.length), fitA (zah n p) (fun x => zcv n p x cons) p S.args[i] (A[i]'(by omega)) = false → V = false := fun i hi h => by
      rw [hV, Bool.eq_false_iff]
      intro h2
      have := (zan _ _ _).1 h2 i hi
      simp only [Nat.zero_add] at this
      rw [hfit i hi, h] at this
      cases this
    refine za1 rfl fun hs => ?_
    simp only [eBl, cBl] at hO2
    simp -dsimp [zas, rp, cBl, cT]
    refine zcy hU (by simp [zax, zby, RV.cells]) ?_
    simp -dsimp [c1, c3]
    refine zaa hO2 ?_
    simp -dsimp [c6, c6', k1, hget, hSk, eCos, eCo, cCo, cT, eArs, c7']
    refine zam A.length (fun i st => (st.s 2 = .d (.int .i64 cons) ∧ st.s 12 = .d (.int .i64 k)) ∧ (st.s 3 = .ptr 3 1 0 ∧ st.h 3 = ⟨1, .box [.d (eSos p.b.sorts), .d (eCos p.b.cons), .d (.int .i64 p.b.elim), .d (.int .i64 p.base), .d (.sl 1 ((vrs p).map (.int .i64))), .d (eArs p.args)] false⟩) ∧
      (st.s 8 = .rsl 17 1 ∧ st.h 17 = ⟨1, .row 3 (A.map eT) false⟩) ∧ st.s 13 = .d (.int .i64 i) ∧ ∀ (j : Nat) (hj : j < S.args.length), j < i → fitA (zah n p) (fun x => zcv n p x cons) p S.args[j] (A[j]'(by omega)) = true) ?_ ?_
    · simp -dsimp [eCos, eArs]
    · rintro i ⟨s, hq⟩ hi ⟨⟨g2, g12⟩, ⟨g3, k3⟩, ⟨g8, k17⟩, g13, g⟩
      dsimp only at g2 g12 g3 k3 g8 k17 g13
      simp only [eCos] at k3
      rcases Nat.lt_or_ge i A.length with hlt | hge2
      · have w1 : IntKind.i64.wrap ((i : Int) + 1) = (i : Int) + 1 := zad (by omega) (by omega)
        have hltS : i < S.args.length := by omega
        have hcv := hVf i hltS
        have hfi : ∀ h : fitA (zah n p) (fun x => zcv n p x cons) p S.args[i] A[i] = true, ∀ (j : Nat) (hj : j < S.args.length), j < i + 1 → fitA (zah n p) (fun x => zcv n p x cons) p S.args[j] (A[j]'(by omega)) = true := fun h j hj hji => by
          rcases Nat.lt_or_ge j i with h' | h'
          · exact g j hj h'
          · have : j = i := by omega
            subst this
            exact h
        have hCx := hCl i hlt
        have hDx := hGl i hlt
        have hFx := hFl i hlt
        generalize hX : A[i] = X at *
        generalize hAr : S.args[i] = R at *
        simp only [rp, cBl, cT, eCos, List.cons_append, List.nil_append] at hCx hDx
        simp -dsimp [g2, g12, g3, k3, g8, k17, g13, hlt, k1, hget, hSk, hltS, hAr, hX, eCo, cCo, eAr, cAr, cT, eArs]
        cases hr : R.rc with
        | false =>
          simp -dsimp [g2, g12, g3, k3, g8, k17, g13, hlt, hltS, hAr, hX, eAr, cAr, cT, hr]
          simp only [eArs] at hCx
          refine zaa hCx ?_
          cases hc : zah n p X with
          | false =>
            have hw := hcv (by simp [fitA, hr, hc])
            simp -dsimp [g2, g12, g3, k3, g8, k17, g13, hlt, hltS, hAr, hX, eAr, cAr, cT, hr, hw]
          | true =>
            have hnx := hfi (by simp [fitA, hr, hc])
            simp -dsimp [g2, g12, g3, k3, g8, k17, g13, hlt, hltS, hAr, hX, eAr, cAr, cT, hr, w1, eCos, eArs]
            exact hnx
        | true =>
          by_cases hd : R.dom.length = 0
          · have hdn : R.dom = [] := List.length_eq_zero_iff.1 hd
            simp -dsimp [g2, g12, g3, k3, g8, k17, g13, hlt, hltS, hAr, hX, eAr, cAr, cT, hr, hdn, eTs]
            simp only [eArs] at hDx
            refine zaa hDx ?_
            cases hc : zcv n p X cons with
            | false =>
              have hw := hcv (by simp [fitA, hr, hd, hc])
              simp -dsimp [g2, g12, g3, k3, g8, k17, g13, hlt, hltS, hAr, hX, eAr, cAr, cT, hr, hdn, eTs, hw]
            | true =>
              have hnx := hfi (by simp [fitA, hr, hd, hc])
              simp -dsimp [g2, g12, g3, k3, g8, k17, g13, hlt, hltS, hAr, hX, eAr, cAr, cT, hr, hdn, eTs, w1, eCos, eArs]
              exact hnx
          · have hd' : ¬ (R.dom.length : Int) = 0 := by omega
            have hd2 : (0 : Int) < R.dom.length := by omega
            have hdn : ¬ R.dom = [] := fun h => hd (by rw [h]; rfl)
            have hd3 : 0 < R.dom.length := by omega
            by_cases hk1 : X.kind = 1
            case neg =>
              have hgX : za0 p X = false := by rw [Bool.eq_false_iff]; intro h; exact hk1 (zjm h).1
              have hw := hcv (by simp [fitA, hr, hdn, hgX])
              simp -dsimp [g2, g12, g3, k3, g8, k17, g13, hlt, hltS, hAr, hX, eAr, cAr, cT, hr, hdn, hd', hd2, hd3, hk1, eTs, hw]
            obtain ⟨hXe, hXn⟩ := zOx hFx hk1
            have hGX := zmi p X.num hXn h0 (by omega) (by omega)
            obtain ⟨gn1, _⟩ := zBa p X.num
            rw [← hXe] at gn1
            simp only [rp, cBl, eCos, eArs, List.cons_append, List.nil_append] at hGX
            simp -dsimp [g2, g12, g3, k3, g8, k17, g13, hlt, hltS, hAr, hX, eAr, cAr, cT, hr, hdn, hd', hd2, hd3, hk1, eTs, eArs]
            refine zaa hGX ?_
            cases hc : za0 p X with
            | false =>
              have hneg : ¬ 0 ≤ grd p X.num := by have := gn1.2 hc; omega
              have hw := hcv (by simp [fitA, hr, hdn, hc])
              simp -dsimp [g2, g12, g3, k3, g8, k17, g13, hlt, hltS, hAr, hX, hr, hdn, hd', hd2, hd3, hneg, hw]
            | true =>
              have hnn : 0 ≤ grd p X.num := by
                by_cases h : 0 ≤ grd p X.num
                · exact h
                · rw [gn1.1 (by omega)] at hc; cases hc
              have hnx := hfi (by simp [fitA, hr, hdn, hc])
              simp -dsimp [g2, g12, g3, k3, g8, k17, g13, hlt, hltS, hAr, hX, hr, hdn, hd', hd2, hd3, hnn, w1, eCos, eArs]
              exact hnx
      · have ej : i = A.length := by omega
        subst ej
        have hv := hVt fun j hj => g j hj (by omega)
        simp -dsimp [g2, g12, g3, k3, g8, k17, g13, hv]
end
end
section
section
attribute [local simp] zae zaf tk tn tks zb1 zcb za9 zba zbb zbz
set_option maxHeartbeats 2000000 in
theorem zxo (n : Nat) (hN : n ≤ 1000000) (p : Pl) (hp : Pok p) (hm : p.more ≤ 1000000) (k : Int) (so : So) (hk0 : 0 ≤ k) (hk : p.b.sorts[k.toNat]? = some so) (l : List T) (cons : Int) (hll : l.length = so.idx.length)
    (ol : ∀ x ∈ l, okT x ∧ zab x = true ∧ zac x ≤ n) : Pure Tryz.prog zb9 [.agg (rp p), .int .i64 k, eTs l, .int .i64 cons] [.bool (indF n p so l cons)] := by
  have hsm := hp.si so (List.mem_of_getElem? hk)
  have hklt := (List.getElem?_eq_some_iff.1 hk).1
  have hke := (List.getElem?_eq_some_iff.1 hk).2
  generalize hV : indF n p so l cons = V
  have hVt : (∀ (i : Nat) (hi : i < so.idx.length), (if so.idx[i].rc then zcv n p (l[i]'(by omega)) cons else zah n p (l[i]'(by omega))) = true) → V = true := fun h => by
    rw [← hV]
    exact (zan _ _ _).2 fun j hj => by simp only [Nat.zero_add]; rw [List.getElem?_eq_getElem (by omega : j < l.length)]; exact h j hj
  have hVf : ∀ (i : Nat) (hi : i < so.idx.length), (if so.idx[i].rc then zcv n p (l[i]'(by omega)) cons else zah n p (l[i]'(by omega))) = false → V = false := fun i hi h => by
    rw [← hV, Bool.eq_false_iff]
    intro h2
    have := (zan _ _ _).1 h2 i hi
    simp only [Nat.zero_add] at this
    rw [List.getElem?_eq_getElem (by omega : i < l.length)] at this
    simp only at this
    rw [h] at this
    cases this
  refine zj4 rfl fun hs => ?_
  simp -dsimp [zda, rp, cBl, eTs]
  refine zam so.idx.length (fun i st => (st.s 1 = .d (.int .i64 k) ∧ st.s 2 = .d (eTs l) ∧ st.s 3 = .d (.int .i64 cons)) ∧ (st.s 4 = .ptr 4 1 0 ∧ st.h 4 = ⟨1, .box [.d (eSos p.b.sorts), .d (eCos p.b.cons), .d (.int .i64 p.b.elim), .d (.int .i64 p.base), .d (.sl 1 ((vrs p).map (.int .i64))), .d (eArs p.args)] false⟩) ∧ st.s 9 = .d (.int .i64 i) ∧
    ∀ (j : Nat) (hj : j < so.idx.length), j < i → (if so.idx[j].rc then zcv n p (l[j]'(by omega)) cons else zah n p (l[j]'(by omega))) = true) ?_ ?_
  · simp -dsimp [eTs]
  · rintro i ⟨s, hq⟩ hi ⟨⟨g1, g2, g3⟩, ⟨g4, k4⟩, g9, g⟩
    dsimp only at g1 g2 g3 g4 k4 g9
    simp only [eTs, eSos] at g2 k4
    rcases Nat.lt_or_ge i so.idx.length with hlt | hge
    · have w1 : IntKind.i64.wrap ((i : Int) + 1) = (i : Int) + 1 := zad (by omega) (by omega)
      have hiA : i < l.length := by omega
      obtain ⟨x1, x2, x3⟩ := ol _ (List.getElem_mem hiA)
      have hcv := hVf i hlt
      have hfi : ∀ h : (if so.idx[i].rc then zcv n p l[i] cons else zah n p l[i]) = true, ∀ (j : Nat) (hj : j < so.idx.length), j < i + 1 → (if so.idx[j].rc then zcv n p (l[j]'(by omega)) cons else zah n p (l[j]'(by omega))) = true := fun h j hj hji => by
        rcases Nat.lt_or_ge j i with h' | h'
        · exact g j hj h'
        · have : j = i := by omega
          subst this
          exact h
      have hCx := zlj n hN p l[i] hp (by omega) x1 x2 x3
      have hDx := zNp cons n hN p l[i] hp (by omega) x1 x2 x3
      generalize hX : l[i] = X at *
      generalize hAr : so.idx[i] = R at *
      simp only [rp, cBl, cT, eSos, List.cons_append, List.nil_append] at hCx hDx
      simp -dsimp [g1, g2, g3, g4, k4, g9, hlt, hiA, hX, hk0, hklt, hk, hke, hAr, eSo, cSo, eArs, eAr, cAr, cT]
      cases hr : R.rc with
      | false =>
        rw [hr] at hcv hfi
        simp only [Bool.false_eq_true, if_false] at hcv hfi
        simp -dsimp [g1, g2, g3, g4, k4, g9, hlt, hiA, hX, hk0, hklt, hk, hke, hAr, eSo, cSo, eArs, eAr, cAr, cT, hr]
        simp only [eArs] at hCx
        refine zaa hCx ?_
        cases hc : zah n p X with
        | false =>
          have hv := hcv hc
          simp -dsimp [g1, g2, g3, g4, k4, g9, hlt, hiA, hX, hr, hv]
        | true =>
          have hnx := hfi hc
          simp -dsimp [g1, g2, g3, g4, k4, g9, hlt, hiA, hX, hr, w1, eTs, eSos, eArs]
          simpa using hnx
      | true =>
        rw [hr] at hcv hfi
        simp only [if_true] at hcv hfi
        simp -dsimp [g1, g2, g3, g4, k4, g9, hlt, hiA, hX, hk0, hklt, hk, hke, hAr, eSo, cSo, eArs, eAr, cAr, cT, hr]
        simp only [eArs] at hDx
        refine zaa hDx ?_
        cases hc : zcv n p X cons with
        | false =>
          have hv := hcv hc
          simp -dsimp [g1, g2, g3, g4, k4, g9, hlt, hiA, hX, hk0, hklt, hk, hke, hAr, eSo, cSo, eArs, eAr, cAr, cT, hr, hv]
        | true =>
          have hnx := hfi hc
          simp -dsimp [g1, g2, g3, g4, k4, g9, hlt, hiA, hX, hk0, hklt, hk, hke, hAr, eSo, cSo, eArs, eAr, cAr, cT, hr, w1, eTs, eSos]
          simpa using hnx
    · have e : i = so.idx.length := by omega
      subst e
      have hz := hVt fun j hj => g j hj hj
      have hli : ¬ so.idx.length < l.length := by omega
      simp -dsimp [g1, g2, g3, g4, k4, g9, hz, hll]
structure Rok (b : Bl) (n : Nat) (l : List Ar) : Prop where
  al : l.length ≤ 20
  fit : Fit b
  si : ∀ s ∈ b.sorts, s.idx.length ≤ 20
  ca : ∀ c ∈ b.cons, c.args.length ≤ 20
  ty : ∀ a ∈ l, a.rc = false → okT a.ty ∧ zab a.ty = true ∧ zac a.ty ≤ n
  rc : ∀ a ∈ l, a.rc = true → a.dom.length ≤ 60 ∧ (∀ x ∈ a.dom, okT x ∧ zab x = true ∧ zac x ≤ n) ∧ (∀ x ∈ a.idx, okT x ∧ zab x = true ∧ zac x ≤ n) ∧ 0 ≤ a.sort ∧ ∃ so, b.sorts[a.sort.toNat]? = some so ∧ a.idx.length = so.idx.length
set_option maxHeartbeats 4000000 in
theorem zFb (n : Nat) (hN : n ≤ 1000000) (b : Bl) (base : Int) (l : List Ar) (cons : Int) (H : Rok b n l) : Pure Tryz.prog zc0 [eBl b, .int .i64 base, eArs l, .int .i64 cons] [.bool (rowF n b base l cons)] := by
  have hal := H.al
  have hpl : ∀ (i : Nat) (m : Int), 0 ≤ m → Pok ⟨b, base, l.take i, m⟩ := fun i m h => ⟨h, by simp only [List.length_take]; omega, H.fit, H.si, H.ca⟩
  generalize hV : rowF n b base l cons = V
  have hVt : (∀ (i : Nat) (hi : i < l.length), argF n b base l cons i l[i] = true) → V = true := fun h => by
    rw [← hV]
    exact (zan _ _ _).2 fun j hj => by simp only [Nat.zero_add]; exact h j hj
  have hVf : ∀ (i : Nat) (hi : i < l.length), argF n b base l cons i l[i] = false → V = false := fun i hi h => by
    rw [← hV, Bool.eq_false_iff]
    intro h2
    have := (zan _ _ _).1 h2 i hi
    simp only [Nat.zero_add] at this
    rw [h] at this
    cases this
  refine zmn rfl fun hs => ?_
  simp -dsimp [zee, eBl, cBl, eArs]
  refine zam l.length (fun i st => (st.s 1 = .d (.int .i64 base) ∧ st.s 2 = .d (eArs l) ∧ st.s 3 = .d (.int .i64 cons)) ∧ (st.s 4 = .ptr 4 1 0 ∧ st.h 4 = ⟨1, .box [.d (eSos b.sorts), .d (eCos b.cons), .d (.int .i64 b.elim)] false⟩) ∧ st.s 9 = .d (.int .i64 i) ∧
    ∀ (j : Nat) (hj : j < l.length), j < i → argF n b base l cons j l[j] = true) ?_ ?_
  · simp -dsimp [eArs]
  · rintro i ⟨s, hp⟩ hi ⟨⟨g1, g2, g3⟩, ⟨g4, k4⟩, g9, g⟩
    dsimp only at g1 g2 g3 g4 k4 g9
    simp only [eArs] at g2
    rcases Nat.lt_or_ge i l.length with hlt | hge
    · have w1 : IntKind.i64.wrap ((i : Int) + 1) = (i : Int) + 1 := zad (by omega) (by omega)
      have hile : i ≤ l.length := hi
      have hcv := hVf i hlt
      have hmem := List.getElem_mem hlt
      have h1 := H.ty _ hmem
      have h2 := H.rc _ hmem
      have hfi : ∀ h : argF n b base l cons i l[i] = true, ∀ (j : Nat) (hj : j < l.length), j < i + 1 → argF n b base l cons j l[j] = true := fun h j hj hji => by
        rcases Nat.lt_or_ge j i with h' | h'
        · exact g j hj h'
        · have : j = i := by omega
          subst this
          exact h
      have hAt := zK2 b base (l.take i) (by rw [List.length_take]; omega)
      generalize hAr : l[i] = R at *
      have hrp : ∀ m : Int, rp ⟨b, base, l.take i, m⟩ = [eSos b.sorts, eCos b.cons, .int .i64 b.elim, .int .i64 base, .sl 1 ((vrs ⟨b, base, l.take i, m⟩).map (.int .i64)), .sl 7 ((l.map eAr).take i)] := fun m => by
        simp only [rp, cBl, eArs, List.map_take, List.cons_append, List.nil_append]
      rw [hrp] at hAt
      simp only [eBl, cBl, eArs, List.map_take] at hAt
      simp -dsimp [g1, g2, g3, g4, k4, g9, hlt, hile, hAr, eAr, cAr, cT]
      refine zaa hAt ?_
      cases hr : R.rc with
      | false =>
        obtain ⟨o1, o2, o3⟩ := h1 hr
        have hC := zlj n hN ⟨b, base, l.take i, 0⟩ R.ty (hpl i 0 (by omega)) (by simp; omega) o1 o2 o3
        rw [hrp] at hC
        have hAF : argF n b base l cons i R = zah n ⟨b, base, l.take i, 0⟩ R.ty := by rw [argF, hr, if_neg (by simp)]
        rw [hAF] at hcv hfi
        simp only [cT] at hC
        simp -dsimp [g1, g2, g3, g4, k4, g9, hlt, hile, hAr, eAr, cAr, cT, hr]
        refine zaa hC ?_
        cases hc : zah n ⟨b, base, l.take i, 0⟩ R.ty with
        | false =>
          have hv := hcv hc
          simp -dsimp [g1, g2, g3, g4, k4, g9, hlt, hile, hAr, eAr, cAr, cT, hr, hv]
        | true =>
          have hnx := hfi hc
          simp -dsimp [g1, g2, g3, g4, k4, g9, hlt, hile, hAr, eAr, cAr, cT, hr, w1, eArs]
          simpa using hnx
      | true =>
        obtain ⟨r1, r2, r3, r4, so, hso, r5⟩ := h2 hr
        have hAF : argF n b base l cons i R = ((allI (fun j d => zah n ⟨b, base, l.take i, (j : Int)⟩ d) 0 R.dom) && indF n ⟨b, base, l.take i, (R.dom.length : Int)⟩ so R.idx cons) := by rw [argF, hr, if_pos rfl, hso]
        rw [hAF] at hcv hfi
        have hMo : ∀ m : Nat, m ≤ 1000000 → Pure Tryz.prog za6 [.agg (rp ⟨b, base, l.take i, 0⟩), .int .i64 m] [.agg (rp ⟨b, base, l.take i, (m : Int)⟩)] := fun m hm => by
          have := zF4 ⟨b, base, l.take i, 0⟩ m hm (by simp) (by simp) (by simp only [List.length_take]; omega)
          rw [Pl.fwd] at this
          simpa using this
        simp only [hrp] at hMo
        simp -dsimp [g1, g2, g3, g4, k4, g9, hlt, hile, hAr, eAr, cAr, cT, hr]
        refine zam R.dom.length (fun j st => (st.s 1 = .d (.int .i64 base) ∧ st.s 2 = .d (eArs l) ∧ st.s 3 = .d (.int .i64 cons)) ∧ (st.s 4 = .ptr 4 1 0 ∧ st.h 4 = ⟨1, .box [.d (eSos b.sorts), .d (eCos b.cons), .d (.int .i64 b.elim)] false⟩) ∧ st.s 9 = .d (.int .i64 i) ∧
          (st.s 10 = .ptr 10 ((hp 10).ver + 1) 0 ∧ st.h 10 = ⟨(hp 10).ver + 1, .box [.d (eSos b.sorts), .d (eCos b.cons), .d (.int .i64 b.elim), .d (.int .i64 base), .d (.sl 1 ((vrs ⟨b, base, l.take i, 0⟩).map (.int .i64))), .d (.sl 7 ((l.map eAr).take i))] false⟩) ∧ st.s 11 = .d (.int .i64 j) ∧
          ∀ (q : Nat) (hq : q < R.dom.length), q < j → zah n ⟨b, base, l.take i, (q : Int)⟩ R.dom[q] = true) ?_ ?_
        · simp -dsimp [g1, g2, g3, g4, k4, g9, hlt, hile, hAr, eAr, cAr, cT, hr, eArs]
        · clear g1 g2 g3 g4 k4 g9
          rintro j ⟨s, hq⟩ hj ⟨⟨g1, g2, g3⟩, ⟨g4, k4⟩, g9, ⟨g10, k10⟩, g11, gd⟩
          dsimp only at g1 g2 g3 g4 k4 g9 g10 k10 g11
          simp only [eArs] at g2
          rcases Nat.lt_or_ge j R.dom.length with hlt2 | hge2
          · have w2 : IntKind.i64.wrap ((j : Int) + 1) = (j : Int) + 1 := zad (by omega) (by omega)
            obtain ⟨d1, d2, d3⟩ := r2 _ (List.getElem_mem hlt2)
            have hP := hMo j (by omega)
            have hC := zlj n hN ⟨b, base, l.take i, (j : Int)⟩ R.dom[j] (hpl i j (by omega)) (by simp; omega) d1 d2 d3
            rw [hrp] at hC
            generalize hX : R.dom[j] = X at *
            simp only [cT] at hC
            simp -dsimp [g1, g2, g3, g4, k4, g9, g10, k10, g11, hlt, hAr, hr, eAr, cAr, hlt2, hX, cT, eTs]
            refine zaa hP ?_
            simp -dsimp [g1, g2, g3, g4, k4, g9, g10, k10, g11, hlt, hAr, hr, eAr, cAr, hlt2, hX, cT, eTs]
            refine zaa hC ?_
            cases hc : zah n ⟨b, base, l.take i, (j : Int)⟩ X with
            | false =>
              have hz : allI (fun j d => zah n ⟨b, base, l.take i, (j : Int)⟩ d) 0 R.dom = false := by
                rw [Bool.eq_false_iff]
                intro h
                have := (zan _ _ _).1 h j hlt2
                rw [Nat.zero_add, hX, hc] at this
                cases this
              have hv := hcv (by rw [hz]; rfl)
              simp -dsimp [g1, g2, g3, g4, k4, g9, g10, k10, g11, hv]
            | true =>
              simp -dsimp [g1, g2, g3, g4, k4, g9, g10, k10, g11, hlt2, w2, eArs]
              intro q hq' hqj
              rcases Nat.lt_or_ge q j with h' | h'
              · exact gd q hq' h'
              · have : q = j := by omega
                subst this
                rw [hX]; exact hc
          · have ej : j = R.dom.length := by omega
            subst ej
            have hz : allI (fun j d => zah n ⟨b, base, l.take i, (j : Int)⟩ d) 0 R.dom = true := (zan _ _ _).2 fun q hq' => by rw [Nat.zero_add]; exact gd q hq' hq'
            rw [hz, Bool.true_and] at hcv hfi
            have hP := hMo R.dom.length (by omega)
            have hI := zxo n hN ⟨b, base, l.take i, (R.dom.length : Int)⟩ (hpl i _ (by omega)) (by simp; omega) R.sort so r4 hso R.idx cons r5 r3
            rw [hrp] at hI
            simp only [eTs] at hI
            simp -dsimp [g1, g2, g3, g4, k4, g9, g10, k10, g11, hlt, hAr, hr, eAr, cAr, cT, eTs]
            refine zaa hP ?_
            simp -dsimp [g1, g2, g3, g4, k4, g9, g10, k10, g11, hlt, hAr, hr, eAr, cAr, cT, eTs]
            refine zaa hI ?_
            cases hc : indF n ⟨b, base, l.take i, (R.dom.length : Int)⟩ so R.idx cons with
            | false =>
              have hv := hcv hc
              simp -dsimp [g1, g2, g3, g4, k4, g9, g10, k10, g11, hv]
            | true =>
              have hnx := hfi hc
              simp -dsimp [g1, g2, g3, g4, k4, g9, g10, k10, g11, w1, eArs]
              exact ⟨hlt, hnx⟩
    · have e : i = l.length := by omega
      subst e
      have hz := hVt fun j hj => g j hj hj
      simp -dsimp [g1, g2, g3, g4, k4, g9, hz]
end
end
section
section
attribute [local simp] zae zaf tk tn tks zb1 zcb za9 zba zbb zbz
theorem zO1 {b : Bl} (hf : Fit b) (fb : FineBl b) {l : List Ar} (ol : zuw l) (fl : zgg l) (hr : rowM b l = true) {n : Nat} (hn : 9000 ≤ n) : Rok b n l := by
  obtain ⟨hl, hA⟩ := zi7 hr
  refine ⟨fl.1, hf, fun s hs => (fb.sorts s hs).idx.1, fun c hc => (fb.cons c hc).args.1, fun a ha hrc => ?_, fun a ha hrc => ?_⟩
  · obtain ⟨i, hi, rfl⟩ := List.mem_iff_getElem.1 ha
    have h1 := (fl.2 _ ha).ty
    exact ⟨(ol.2 _ ha).ty, (zcc (zy5 (hA i hi) hrc) (by omega) (by omega) (by omega)).2.1, by omega⟩
  · obtain ⟨i, hi, rfl⟩ := List.mem_iff_getElem.1 ha
    have fa := fl.2 _ ha
    have oa := ol.2 _ ha
    obtain ⟨_, s0, s1, d1, ⟨so, hso, hil⟩, hd, hx⟩ := zf8 (hA i hi) hrc (by omega) (by omega)
    refine ⟨fa.domL, fun x hxm => ?_, fun x hxm => ?_, s0, so, hso, hil⟩
    · obtain ⟨j, hj, rfl⟩ := List.mem_iff_getElem.1 hxm
      have hnx : zac l[i].dom[j] ≤ 9000 := Nat.le_trans (zcg (List.mem_map.2 ⟨_, hxm, rfl⟩)) fa.dom
      exact ⟨oa.dom.2 _ hxm, (zcc (hd j hj) (by omega) (by omega) (by omega)).2.1, by omega⟩
    · have hnx : zac x ≤ 9000 := Nat.le_trans (zcg (List.mem_map.2 ⟨_, hxm, rfl⟩)) fa.idx
      exact ⟨oa.idx.2 _ hxm, (zcc (hx x hxm) (by omega) (by omega) (by omega)).2.1, by omega⟩
theorem zJk {b : Bl} {c : Co} {so : So} (h : conM b c = true) (hso : b.sorts[c.sort.toNat]? = some so) : (∀ x ∈ c.idx, inM x c.args.length = true) ∧ ze5 so.dec c.dec c.args.length = true := by
  rw [conM] at h
  split at h
  · cases h
  split at h
  case isFalse => cases h
  rw [hso] at h
  simp only at h
  split at h
  case isFalse => cases h
  split at h
  case isFalse => cases h
  rename_i hA
  refine ⟨fun x hx => ?_, h⟩
  rw [allM, Bool.not_eq_true', List.any_eq_false] at hA
  have := hA x hx
  simpa using this
set_option maxHeartbeats 4000000 in
theorem zDl (n : Nat) (hn : 9000 ≤ n) (hN : n ≤ 1000000) (b : Bl) (ob : okBl b) (fb : FineBl b) (hf : Fit b) (base : Int) : Pure Tryz.prog zed [eBl b, .int .i64 base] [.int .i64 (zbl n b base)] := by
  have hSh := zJa b
  have hIn := zkt base 0 65535
  have hbs := fb.s
  have hbc := fb.c
  generalize hE : zbl n b base = E
  simp only [eBl, cBl] at hSh
  by_cases hz : ze9 b = 0
  case neg =>
    have hs' : zll b = false := by rw [zll, decide_eq_false_iff_not]; exact hz
    have hE' : E = 12 := by
      rw [← hE, zbl, if_neg hz]
      rw [zG6, hs']; rfl
    rw [hE']
    refine zgh rfl fun hs => ?_
    simp -dsimp [zc6, eBl, cBl]
    refine zaa hSh ?_
    simp -dsimp [hs']
  have hs' : zll b = true := by rw [zll, decide_eq_true_eq]; exact hz
  rw [zbl, if_pos hz] at hE
  obtain ⟨z1, z4, z8, zl, zs, zc⟩ := (za2 b).1 hz
  by_cases hb : inB base 0 65535 = true
  case neg =>
    have hb' : inB base 0 65535 = false := by simpa using hb
    have := (zha _ _ _).1 hb'
    rw [if_pos (by omega)] at hE
    rw [← hE]
    refine zgh rfl fun hs => ?_
    simp -dsimp [zc6, eBl, cBl]
    refine zaa hSh ?_
    simp -dsimp [hs']
    refine zaa hIn ?_
    simp -dsimp [hb']
  obtain ⟨b0, b1⟩ := (zdw _ _ _).1 hb
  rw [if_neg (by omega)] at hE
  have hbad : posF n b base = false → E = 11 := fun h => by rw [← hE, h]; rfl
  have hgood : posF n b base = true → E = 0 := fun h => by rw [← hE, h]; rfl
  have hbs1 : ∀ (i : Nat) (hi : i < b.sorts.length), zlf n b base b.sorts[i] = false → E = 11 := fun i hi h => hbad (by
    rw [posF, Bool.and_eq_false_iff]
    refine .inl (Bool.eq_false_iff.2 fun h2 => ?_)
    have := (zan _ _ _).1 h2 i hi
    rw [h] at this
    cases this)
  have hbc1 : ∀ (i : Nat) (hi : i < b.cons.length), conF n b base i b.cons[i] = false → E = 11 := fun i hi h => hbad (by
    rw [posF, Bool.and_eq_false_iff]
    refine .inr (Bool.eq_false_iff.2 fun h2 => ?_)
    have := (zan _ _ _).1 h2 i hi
    rw [Nat.zero_add, h] at this
    cases this)
  have hrp : ∀ (l : List Ar), rp ⟨b, base, l, 0⟩ = [eSos b.sorts, eCos b.cons, .int .i64 b.elim, .int .i64 base, .sl 1 ((vrs ⟨b, base, l, 0⟩).map (.int .i64)), .sl 7 (l.map eAr)] := fun l => by
    simp only [rp, cBl, eArs, List.cons_append, List.nil_append]
  have hpk : ∀ (l : List Ar), l.length ≤ 20 → Pok ⟨b, base, l, 0⟩ := fun l h => ⟨by simp, by simp only; omega, hf, fun s hs => (fb.sorts s hs).idx.1, fun c hc => (fb.cons c hc).args.1⟩
  refine zgh rfl fun hs => ?_
  simp -dsimp [zc6, eBl, cBl]
  refine zaa hSh ?_
  simp -dsimp [hs']
  refine zaa hIn ?_
  simp -dsimp [hb]
  refine zam b.sorts.length (fun i st => st.s 1 = .d (.int .i64 base) ∧ (st.s 2 = .ptr 2 1 0 ∧ st.h 2 = ⟨1, .box [.d (eSos b.sorts), .d (eCos b.cons), .d (.int .i64 b.elim)] false⟩) ∧ st.s 5 = .d (.int .i64 i) ∧ ∀ (j : Nat) (hj : j < b.sorts.length), j < i → zlf n b base b.sorts[j] = true) ?_ ?_
  · simp -dsimp
  · rintro i ⟨s, hp⟩ hi ⟨g1, ⟨g2, k2⟩, g5, g⟩
    dsimp only at g1 g2 k2 g5
    simp only [eSos] at k2
    rcases Nat.lt_or_ge i b.sorts.length with hlt | hge
    · have w1 : IntKind.i64.wrap ((i : Int) + 1) = (i : Int) + 1 := zad (by omega) (by omega)
      have hcv := hbs1 i hlt
      have hmem := List.getElem_mem hlt
      have os := ob.sorts _ hmem
      have fs := fb.sorts _ hmem
      have hsm := zs i hlt
      have hrow := zzl hsm
      obtain ⟨_, _, hmb, _⟩ := (zbt _ _ _).1 hsm
      have hfi : zlf n b base b.sorts[i] = true → ∀ (j : Nat) (hj : j < b.sorts.length), j < i + 1 → zlf n b base b.sorts[j] = true := fun h j hj hji => by
        rcases Nat.lt_or_ge j i with h' | h'
        · exact g j hj h'
        · have : j = i := by omega
          subst this
          exact h
      generalize hS : b.sorts[i] = S at *
      have hR := zFb n hN b base S.idx 0 (zO1 hf fb os.idx fs.idx hrow hn)
      have hAt := zK2 b base S.idx (by have := fs.idx.1; omega)
      rw [hrp] at hAt
      simp only [eBl, cBl, eSos, eArs] at hR hAt
      simp -dsimp [g1, g2, k2, g5, hlt, hS, eSo, cSo, cT, eArs]
      refine zaa hR ?_
      cases hr : rowF n b base S.idx 0 with
      | false =>
        have hw := hcv (by rw [zlf, hr]; rfl)
        simp -dsimp [g1, g2, k2, g5, hlt, hS, hw]
      | true =>
        cases hd : S.dec with
        | false =>
          have hnx := hfi (by rw [zlf, hr, hd]; rfl)
          simp -dsimp [g1, g2, k2, g5, hlt, hS, eSo, cSo, cT, hd, w1, eSos]
          exact hnx
        | true =>
          rw [hd] at hmb
          have hin : inM S.dty S.idx.length = true := by rw [ze5, if_pos rfl] at hmb; exact hmb
          have hsil := fs.idx.1
          have hdn := fs.dty
          have hD := zlj n hN ⟨b, base, S.idx, 0⟩ S.dty (hpk _ fs.idx.1) (by simp; omega) os.dty (zcc hin (by omega) (by omega) (by omega)).2.1 (by omega)
          rw [hrp] at hD
          simp only [cT, eSos] at hD
          simp -dsimp [g1, g2, k2, g5, hlt, hS, eSo, cSo, cT, hd]
          refine zaa hAt ?_
          simp -dsimp [g1, g2, k2, g5, hlt, hS, eSo, cSo, cT, hd]
          refine zaa hD ?_
          cases hc : zah n ⟨b, base, S.idx, 0⟩ S.dty with
          | false =>
            have hw := hcv (by rw [zlf, hr, hd, hc]; rfl)
            simp -dsimp [g1, g2, k2, g5, hlt, hS, hw]
          | true =>
            have hnx := hfi (by rw [zlf, hr, hd, hc]; rfl)
            simp -dsimp [g1, g2, k2, g5, hlt, hS, w1, eSos]
            exact hnx
    · have e : i = b.sorts.length := by omega
      subst e
      have hzs : allI (fun _ s => zlf n b base s) 0 b.sorts = true := (zan _ _ _).2 fun j hj => g j hj hj
      clear g hge hi
      simp -dsimp [g1, g2, k2, g5]
      clear g5
      refine zam b.cons.length (fun i st => st.s 1 = .d (.int .i64 base) ∧ (st.s 2 = .ptr 2 1 0 ∧ st.h 2 = ⟨1, .box [.d (eSos b.sorts), .d (eCos b.cons), .d (.int .i64 b.elim)] false⟩) ∧ st.s 7 = .d (.int .i64 i) ∧ ∀ (j : Nat) (hj : j < b.cons.length), j < i → conF n b base j b.cons[j] = true) ?_ ?_
      · simp -dsimp [g1, g2, k2, eSos]
      · clear g1 g2 k2
        rintro i ⟨s, hp⟩ hi ⟨g1, ⟨g2, k2⟩, g7, g⟩
        dsimp only at g1 g2 k2 g7
        simp only [eSos, eCos] at k2
        rcases Nat.lt_or_ge i b.cons.length with hlt | hge
        · have w1 : IntKind.i64.wrap ((i : Int) + 1) = (i : Int) + 1 := zad (by omega) (by omega)
          have hcv := hbc1 i hlt
          have hmem := List.getElem_mem hlt
          have os := ob.cons _ hmem
          have fs := fb.cons _ hmem
          have hcm := zc _ hmem
          obtain ⟨hrow, c0, so, hso, hil⟩ := zj1 hcm
          obtain ⟨hix, hmb⟩ := zJk hcm hso
          have hsolt := (List.getElem?_eq_some_iff.1 hso).1
          have hso' := (List.getElem?_eq_some_iff.1 hso).2
          have hfi : conF n b base i b.cons[i] = true → ∀ (j : Nat) (hj : j < b.cons.length), j < i + 1 → conF n b base j b.cons[j] = true := fun h j hj hji => by
            rcases Nat.lt_or_ge j i with h' | h'
            · exact g j hj h'
            · have : j = i := by omega
              subst this
              exact h
          generalize hS : b.cons[i] = S at *
          have hal := fs.args.1
          have hR := zFb n hN b base S.args (i : Int) (zO1 hf fb os.args fs.args hrow hn)
          have hAt := zK2 b base S.args (by omega)
          have hI := zxo n hN ⟨b, base, S.args, 0⟩ (hpk _ hal) (by simp) S.sort so c0 hso S.idx (i : Int) hil (fun x hx => by
            have hnx : zac x ≤ 9000 := Nat.le_trans (zcg (List.mem_map.2 ⟨_, hx, rfl⟩)) fs.idx
            exact ⟨os.idx.2 x hx, (zcc (hix x hx) (by omega) (by omega) (by omega)).2.1, by omega⟩)
          have hF : conF n b base i S = (rowF n b base S.args i && (indF n ⟨b, base, S.args, 0⟩ so S.idx i && (!so.dec || zah n ⟨b, base, S.args, 0⟩ S.dec))) := by rw [conF, hso]
          rw [hrp] at hAt hI
          simp only [eBl, cBl, eSos, eCos, eArs, eTs] at hR hAt hI
          simp -dsimp [g1, g2, k2, g7, hlt, hS, eCo, cCo, cT, eArs, eTs]
          refine zaa hAt ?_
          simp -dsimp [g1, g2, k2, g7, hlt, hS, eCo, cCo, cT, eArs, eTs]
          refine zaa hR ?_
          cases hr : rowF n b base S.args i with
          | false =>
            have hw := hcv (by rw [hF, hr]; rfl)
            simp -dsimp [g1, g2, k2, g7, hlt, hS, hw]
          | true =>
            simp -dsimp [g1, g2, k2, g7, hlt, hS, eCo, cCo, cT, eArs, eTs]
            refine zaa hI ?_
            cases hii : indF n ⟨b, base, S.args, 0⟩ so S.idx i with
            | false =>
              have hw := hcv (by rw [hF, hr, hii]; rfl)
              simp -dsimp [g1, g2, k2, g7, hlt, hS, hw]
            | true =>
              cases hd : so.dec with
              | false =>
                have hnx := hfi (by rw [hF, hr, hii, hd]; rfl)
                simp -dsimp [g1, g2, k2, g7, hlt, hS, eCo, cCo, cT, eArs, eTs, c0, hso, hsolt, hso', eSo, cSo, hd, w1, eSos, eCos]
                try exact hnx
              | true =>
                rw [hd] at hmb
                have hin : inM S.dec S.args.length = true := by rw [ze5, if_pos rfl] at hmb; exact hmb
                have hdn := fs.dec
                have hD := zlj n hN ⟨b, base, S.args, 0⟩ S.dec (hpk _ hal) (by simp; omega) os.dec (zcc hin (by omega) (by omega) (by omega)).2.1 (by omega)
                rw [hrp] at hD
                simp only [cT, eSos, eCos] at hD
                simp -dsimp [g1, g2, k2, g7, hlt, hS, eCo, cCo, cT, eArs, eTs, c0, hso, hsolt, hso', eSo, cSo, hd]
                refine zaa hD ?_
                cases hc : zah n ⟨b, base, S.args, 0⟩ S.dec with
                | false =>
                  have hw := hcv (by rw [hF, hr, hii, hd, hc]; rfl)
                  simp -dsimp [g1, g2, k2, g7, hlt, hS, hw]
                | true =>
                  have hnx := hfi (by rw [hF, hr, hii, hd, hc]; rfl)
                  simp -dsimp [g1, g2, k2, g7, hlt, hS, w1, eSos, eCos]
                  try exact hnx
        · have e : i = b.cons.length := by omega
          subst e
          have hzc : allI (fun c x => conF n b base c x) 0 b.cons = true := (zan _ _ _).2 fun j hj => by rw [Nat.zero_add]; exact g j hj hj
          have hw := hgood (by rw [posF, hzs, hzc]; rfl)
          simp -dsimp [g1, g2, k2, g7, hw]
end
end
section
def motL (b : Bl) (base k : Int) (so : So) : List T := tyL (vwOf b base so.idx k) 9000 0 so.idx ++ [spT (tC (zbe b base k)) ((posL k so.idx).map fun p => lv p (finL k so.idx))]
theorem zLe (l : List T) (a t : T) : zbu 4 l (.mk 4 0 [a, t]) = zbu 4 (l ++ [a]) t := by
  induction l with
  | nil => rfl
  | cons x xs ih => rw [List.cons_append]; show T.mk 4 0 [x, zbu 4 xs _] = T.mk 4 0 [x, zbu 4 (xs ++ [a]) t]; rw [ih]
theorem zOk (b : Bl) (base k : Int) (so : So) : motT b base k so = zbu 4 (motL b base k so) (.mk 2 b.elim []) := by rw [motT, zLe, motL]
end
section
section
attribute [local simp] zae zaf tk tn tks zb1 zcb za9 zba zbb zbz
theorem zUe {b : Bl} {base k : Int} (hp : zbl 9000 b base = 0) (k0 : 0 ≤ k) {so : So} (hk : b.sorts[k.toNat]? = some so) : motE b base k = zaw (motT b base k so) ∧ motR b base k = zg1 (motT b base k so) := by
  have hlt := (List.getElem?_eq_some_iff.1 hk).1
  have hm : mayP b base k b.sorts.length = 0 := by rw [mayP, if_neg (by omega), hp]
  have e : motE b base k = zaw (motT b base k so) := by rw [motE, if_pos hm, hk]
  exact ⟨e, by rw [motR, zg1, e, hk]⟩
set_option maxHeartbeats 4000000 in
end
end
section
section
attribute [local simp] zae zaf tk tn tks zb1 zcb za9 zba zbb zbz
mutual
def eqB : T → T → Bool
  | .mk k n ks, .mk k' n' ks' => decide (k = k') && (decide (n = n') && eqLB ks ks')
def eqLB : List T → List T → Bool
  | [], [] => true
  | x :: xs, y :: ys => eqB x y && eqLB xs ys
  | _, _ => false
end
theorem zRu {xs : List T} (hx : ∀ x ∈ xs, ∀ y, eqB x y = true → x = y) : ∀ ys, eqLB xs ys = true → xs = ys := by
  induction xs with
  | nil => intro ys h; cases ys with
    | nil => rfl
    | cons y ys => simp [eqLB] at h
  | cons x xs ih => intro ys h; cases ys with
    | nil => simp [eqLB] at h
    | cons y ys =>
      rw [eqLB, Bool.and_eq_true] at h
      rw [hx x (by simp) y h.1, ih (fun z hz => hx z (by simp [hz])) ys h.2]
theorem zUh (t : T) : ∀ u, eqB t u = true → t = u := by
  refine T.ind (p := fun t => ∀ u, eqB t u = true → t = u) ?_ t
  intro k n ks ih u h
  obtain ⟨k', n', ks'⟩ := u
  rw [eqB] at h
  simp only [Bool.and_eq_true, decide_eq_true_eq] at h
  rw [h.1, h.2.1, zRu ih ks' h.2.2]
def rsA' (b : Bl) (base : Int) (ahead : Nat) (vars : Int) (own : List T) (i : Nat) (a : Ar) : List T :=
  (own[i]?).getD zT :: (if a.rc then [spT (tC (za7 b base a.sort)) (lvs 0 ahead vars ++ a.idx.map (fun t => mapT (zd7 (own.take i) 0) t 0) ++ [(own[i]?).getD zT])] else [])
def rsL' (b : Bl) (base : Int) (ahead : Nat) (vars : Int) (own : List T) : Nat → List Ar → List T
  | _, [] => []
  | i, a :: l => rsA' b base ahead vars own i a ++ rsL' b base ahead vars own (i + 1) l
def zSd (b : Bl) (base k vars : Int) (so : So) : T :=
  spT (.mk 1 (vars - 1 - k) []) (rsL' b base (b.sorts.length + b.cons.length) vars (lvs ((b.sorts.length + b.cons.length : Nat) : Int) so.idx.length vars) 0 so.idx ++ [.mk 1 0 []])
theorem zOh (b : Bl) (base : Int) (ahead : Nat) (vars : Int) (own : List T) : ∀ (l : List Ar) (i : Nat), (∀ (j : Nat) (h : j < l.length), l[j].rc = true → ∀ t ∈ l[j].idx, zg2 t (own.take (i + j)) 0 = 0) → rsL b base ahead vars own i l = rsL' b base ahead vars own i l
  | [], i, _ => rfl
  | a :: l, i, h => by
    rw [rsL, rsL', zOh b base ahead vars own l (i + 1) fun j hj hr t ht => by
      have := h (j + 1) (by simpa using hj) (by simpa using hr) t (by simpa using ht)
      rwa [show i + 1 + j = i + (j + 1) by omega]]
    congr 1
    rw [rsA, rsA']
    congr 1
    cases hr : a.rc with
    | false => rfl
    | true =>
      have h0 := h 0 (by simp) (by simpa using hr)
      simp only [List.getElem_cons_zero, Nat.add_zero] at h0
      have e : a.idx.map (fun t => ze0 t (own.take i) 0) = a.idx.map (fun t => mapT (zd7 (own.take i) 0) t 0) := List.map_congr_left fun t ht => zvx (h0 t ht)
      rw [e]
def motU (b : Bl) (base : Int) (j : Nat) : T := match b.sorts[j]? with | some s => motT b base j s | none => zT
def metU (b : Bl) (base : Int) (c : Nat) : T := match b.cons[c]? with | some x => (match b.sorts[x.sort.toNat]? with | some s => metT b base c x s | none => zT) | none => zT
def elL' (b : Bl) (base k : Int) (so : So) : List T := (List.range b.sorts.length).map (motU b base) ++ (List.range b.cons.length).map (metU b base) ++ so.idx.map (zcn b base) ++ [spT (tC (zbe b base k)) (zc8 so.idx.length)]
theorem zpk (b : Bl) (base k : Int) (so : So) : (elL' b base k so).length = b.sorts.length + b.cons.length + so.idx.length + 1 := by simp only [elL', List.length_append, List.length_map, List.length_range, List.length_singleton]
def elT' (b : Bl) (base k : Int) (so : So) : T := zbu 4 (elL' b base k so) (zSd b base k ((b.sorts.length + b.cons.length + so.idx.length + 1 : Nat) : Int) so)
theorem zxu {b : Bl} {base : Int} (hp : zbl 9000 b base = 0) {j : Nat} (hj : j < b.sorts.length) : motE b base j = zaw (motU b base j) ∧ motR b base j = zg1 (motU b base j) := by
  have hk : b.sorts[(j : Int).toNat]? = some b.sorts[j] := by rw [Int.toNat_natCast]; exact List.getElem?_eq_getElem hj
  have h := zUe hp (by omega : (0 : Int) ≤ j) hk
  rw [motU, List.getElem?_eq_getElem hj]
  exact h
theorem zOb {b : Bl} {base : Int} (hp : zbl 9000 b base = 0) {c : Nat} (hc : c < b.cons.length) : metA b base c = some (metU b base c) := by
  obtain ⟨hz, _, _, hpos⟩ := zcd hp
  obtain ⟨z1, z4, z8, zl, zs, zc⟩ := (za2 b).1 hz
  obtain ⟨_, s0, so, hso, _⟩ := zj1 (zc _ (List.getElem_mem hc))
  rw [metA, Int.toNat_natCast, List.getElem?_eq_getElem hc, metU, List.getElem?_eq_getElem hc]
  simp only [hso]
theorem zwr {b : Bl} {base : Int} (hp : zbl 9000 b base = 0) {c : Nat} (hc : c < b.cons.length) : metE b base c = zaw (metU b base c) ∧ metR b base c = zg1 (metU b base c) := by
  have hm : mayP b base c b.cons.length = 0 := by rw [mayP, if_neg (by omega), hp]
  have e : metE b base c = zaw (metU b base c) := by rw [metE, if_pos hm, zOb hp hc]
  exact ⟨e, by rw [metR, zg1, e, zOb hp hc]; rfl⟩
theorem zIk {b : Bl} {base k : Int} {so : So} (hp : zbl 9000 b base = 0) (h1 : ∀ j, j < b.sorts.length → motE b base j = 0) (h2 : ∀ c, c < b.cons.length → metE b base c = 0) : elL b base k so = elL' b base k so := by
  have e1 : zkp b base b.sorts.length = (List.range b.sorts.length).map (motU b base) := List.map_congr_left fun j hj => by
    have hj := List.mem_range.1 hj
    have h := zxu hp hj
    rw [h.2, zg1, if_pos (by rw [← h.1]; exact h1 j hj)]
  have e2 : zps b base b.cons.length = (List.range b.cons.length).map (metU b base) := List.map_congr_left fun j hj => by
    have hj := List.mem_range.1 hj
    have h := zwr hp hj
    rw [h.2, zg1, if_pos (by rw [← h.1]; exact h2 j hj)]
  rw [elL, elL', e1, e2]
theorem zDg {b : Bl} {k : Nat} {s : So} (h : zgl b k s = true) : ∀ a ∈ s.idx, a.rc = true → a.dom = [] := fun a ha hr => by
  have := ((zbt _ _ _).1 h).2.2.2 a ha
  rw [zew, if_pos hr] at this
  split at this
  · cases this
  · exact List.eq_nil_of_length_eq_zero (by omega)
theorem zQs {b : Bl} (fb : FineBl b) (hf : Fit b) {base k : Int} (hp : zbl 9000 b base = 0) {so : So} (hk : b.sorts[k.toNat]? = some so) {V : Nat} (hV : V = b.sorts.length + b.cons.length + so.idx.length + 1) : resE b base k (V : Int) so = zSd b base k (V : Int) so := by
  obtain ⟨hz, _, _, hpos⟩ := zcd hp
  obtain ⟨z1, z4, z8, zl, zs, zc⟩ := (za2 b).1 hz
  obtain ⟨hlt, hS⟩ := List.getElem?_eq_some_iff.1 hk
  have hsm := zs _ hlt
  have fs := fb.sorts _ (List.getElem_mem hlt)
  rw [hS] at hsm fs
  obtain ⟨hrow, _, _, _⟩ := (zbt _ _ _).1 hsm
  have hfs := hf.s
  have hfc := hf.c
  have hil := fs.idx.1
  rw [resE, zSd, zOh _ _ _ _ _ _ _ fun j hj hr t ht => by
    rw [Nat.zero_add]
    exact zD6 hrow fs.idx (zDg hsm) (by omega) (by omega) (by omega) j hj hr t ht]
def zQa (b : Bl) (base k : Int) (so : So) : Bool := zys b base true && ((List.range b.sorts.length).all (fun j => zx5 (motU b base j) && decide (nodB (motU b base j) ≤ 200)) &&
  ((List.range b.cons.length).all (fun j => zx5 (metU b base j) && decide (nodB (metU b base j) ≤ 200)) && (zx5 (elT' b base k so) && decide (nodB (elT' b base k so) ≤ 200))))
theorem zGt {b : Bl} {base k : Int} {so : So} (k0 : 0 ≤ k) (hk : b.sorts[k.toNat]? = some so) (h : zQa b base k so = true) : elE b base k = 0 ∧ elR b base k = elT' b base k so := by
  simp only [zQa, Bool.and_eq_true, List.all_eq_true, List.mem_range, decide_eq_true_eq] at h
  obtain ⟨h0, h1, h2, h3, h4⟩ := h
  have hp := zHf h0
  obtain ⟨ob, fb, hf⟩ := zyl h0
  have hlt := (List.getElem?_eq_some_iff.1 hk).1
  have a1 : ∀ j, j < b.sorts.length → motE b base j = 0 := fun j hj => by rw [(zxu hp hj).1]; exact zKy (h1 j hj).1 (h1 j hj).2
  have a2 : ∀ j, j < b.cons.length → metE b base j = 0 := fun j hj => by rw [(zwr hp hj).1]; exact zKy (h2 j hj).1 (h2 j hj).2
  have hm : mayP b base k b.sorts.length = 0 := by rw [mayP, if_neg (by omega), hp]
  have eT_ : elT b base k so = elT' b base k so := by
    rw [elT, elT', zIn, zIk hp a1 a2, zQs fb hf hp hk rfl]
  have e : elE b base k = 0 := by
    rw [elE, if_pos hm, if_pos (zlq.2 a1), if_pos (zlq.2 a2), hk]
    simp only [eT_]
    exact zKy h3 h4
  exact ⟨e, by rw [elR, if_pos e, hk]; exact eT_⟩
def soN : So := ⟨[], 0, false, zT⟩
def natW (n : Int) : T := tP (tP (tC n) (.mk 2 0 [])) (tP (tA (tV 0) (tC (n + 1))) (tP (tP (tC n) (tP (tA (tV 2) (tV 0)) (tA (tV 3) (tA (tC (n + 2)) (tV 1))))) (tP (tC n) (tA (tV 3) (tV 0)))))
theorem zSt : zQa natB 0 0 soN = true := by decide +kernel
theorem zPs : elT' natB 0 0 soN = natW 0 := zUh _ _ (by decide +kernel)
theorem ztc {L : List T} {R : T} (hk : R.kind ≠ 4) (hl : L.length ≤ 1000) (oL : ∀ x ∈ L, okT x) (oR : okT R) : Pure Tryz.prog zch [.agg (cT (zbu 4 L R))] [eTs L, .agg (cT R)] := by
  have e := zPn L R
  have e2 := zP4 (t := R) hk
  rw [e2.1, e2.2, List.append_nil] at e
  have h := zI7 (zbu 4 L R) (by rw [e.1]; omega) (by rw [e.2]; exact oR) (by rw [e.1]; exact ⟨by omega, oL⟩)
  rw [e.1, e.2] at h
  exact h
theorem zIp : elE natB 0 0 = 0 ∧ elR natB 0 0 = natW 0 := by
  obtain ⟨h1, h2⟩ := zGt (b := natB) (base := 0) (k := 0) (so := soN) (by omega) rfl zSt
  exact ⟨h1, h2.trans zPs⟩
set_option maxHeartbeats 2000000 in
theorem zyz : Pure Tryz.prog zef [] [.bool true] := by
  refine zrh rfl fun hs => ?_
  obtain ⟨ob, fb, hf⟩ := zyl nat8
  have hN := zUk
  have h1 := zrj natB ob fb hf 0 0 (by omega)
  obtain ⟨e1, e2⟩ := zIp
  rw [e1, e2] at h1
  have hU := ztc (L := [tP (tC 0) (.mk 2 0 []), tA (tV 0) (tC 1), tP (tC 0) (tP (tA (tV 2) (tV 0)) (tA (tV 3) (tA (tC 2) (tV 1)))), tC 0]) (R := tA (tV 3) (tV 0)) (by decide) (by simp) (fun x hx => zyt (t := x) (by
    simp only [List.mem_cons, List.not_mem_nil, or_false] at hx
    rcases hx with rfl | rfl | rfl | rfl <;> decide +kernel)) (zyt _ (by decide +kernel))
  have k1 := zv9 (tA (tV 3) (tV 0))
  have e3 : zbu 4 [tP (tC 0) (.mk 2 0 []), tA (tV 0) (tC 1), tP (tC 0) (tP (tA (tV 2) (tV 0)) (tA (tV 3) (tA (tC 2) (tV 1)))), tC 0] (tA (tV 3) (tV 0)) = natW 0 := rfl
  rw [e3] at hU
  simp only [zIa, cBl, eBl, natW, tP, tA, tC, tV, cT, eTs, List.map_cons, List.map_nil, zcr, tk, tn, tks, List.cons_append, List.nil_append, Int.zero_add] at hN h1 hU k1
  simp -dsimp [zgn]
  refine zaa hN ?_
  simp -dsimp
  refine zaa h1 ?_
  simp -dsimp
  refine zaa hU ?_
  simp -dsimp
  repeat ((first | refine zaa (craw _) ?_ | refine zaa (vraw _) ?_ | refine zaa (uraw _) ?_ | refine zaa (traw _ _ (by simp [zaj])) ?_ | refine zaa k1 ?_); simp -dsimp)
end
end
section
section
attribute [local simp] zae zaf tk tn tks zb1 zcb za9 zba zbb zbz
end
end
section
open Classical in
end
section
mutual
def rnT (f : Int → Int) : T → T
  | .mk k n ks => .mk k (if k = 3 then f n else n) (rnL f ks)
def rnL (f : Int → Int) : List T → List T
  | [] => []
  | x :: xs => rnT f x :: rnL f xs
end
theorem zOq (f : Int → Int) : ∀ l : List T, rnL f l = l.map (rnT f)
  | [] => by rw [rnL]; rfl
  | x :: xs => by rw [rnL, zOq f xs]; rfl
theorem zpt (f : Int → Int) (k n : Int) (ks : List T) : rnT f (.mk k n ks) = .mk k (if k = 3 then f n else n) (ks.map (rnT f)) := by rw [rnT, zOq]
theorem zJi (f : Int → Int) (t : T) : (rnT f t).kind = t.kind := by obtain ⟨k, n, ks⟩ := t; rw [zpt]; rfl
theorem zPq (f : Int → Int) {t : T} (h : t.kind = 3) : (rnT f t).num = f t.num := by
  obtain ⟨k, n, ks⟩ := t
  have h' : k = 3 := h
  rw [zpt, if_pos h']; rfl
theorem zN5 (f : Int → Int) {t : T} (h : t.kind ≠ 3) : (rnT f t).num = t.num := by
  obtain ⟨k, n, ks⟩ := t
  have h' : k ≠ 3 := h
  rw [zpt, if_neg h']; rfl
def mvA (f : Int → Int) (a : Ar) : Ar := ⟨a.rc, rnT f a.ty, a.dom.map (rnT f), a.sort, a.idx.map (rnT f)⟩
def mvS (f : Int → Int) (s : So) : So := ⟨s.idx.map (mvA f), s.level, s.dec, rnT f s.dty⟩
def mvC (f : Int → Int) (c : Co) : Co := ⟨c.sort, c.args.map (mvA f), c.idx.map (rnT f), rnT f c.dec⟩
def mvB (f : Int → Int) (b : Bl) : Bl := ⟨b.sorts.map (mvS f), b.cons.map (mvC f), b.elim⟩
end
section
theorem rn_sp (f : Int → Int) (t : T) : spH (rnT f t) = rnT f (spH t) ∧ spA (rnT f t) = (spA t).map (rnT f) := by
  refine T.ind (p := fun t => spH (rnT f t) = rnT f (spH t) ∧ spA (rnT f t) = (spA t).map (rnT f)) ?_ t
  intro k n ks ih
  by_cases hc : k = 6 ∧ ∃ a b, ks = [a, b]
  · obtain ⟨rfl, a, b, rfl⟩ := hc
    obtain ⟨i1, i2⟩ := ih a (by simp)
    rw [zpt, List.map_cons, List.map_cons, List.map_nil, (zey _ _ _).1, (zey _ _ _).2, (zey _ _ _).1, (zey _ _ _).2, i1, i2]
    exact ⟨rfl, rfl⟩
  · have hc' : ¬(k = 6 ∧ ∃ a b, ks.map (rnT f) = [a, b]) := by
      rintro ⟨h, a, b, he⟩
      refine hc ⟨h, ?_⟩
      match ks, he with
      | [x, y], _ => exact ⟨x, y, rfl⟩
    rw [zpt, (zdv hc').1, (zdv hc').2, (zdv hc).1, (zdv hc).2, zpt]
    exact ⟨rfl, rfl⟩
structure Mv (f : Int → Int) (b : Bl) (base base' : Int) (c : Int) : Prop where
  of : ofM (mvB f b) base' (f c) = ofM b base c
def plM (f : Int → Int) (base' : Int) (p : Pl) : Pl := ⟨mvB f p.b, base', p.args.map (mvA f), p.more⟩
theorem zNr (f : Int → Int) (base' : Int) (p : Pl) (t : T) : za0 (plM f base' p) (rnT f t) = za0 p t := by
  have hJ : zc3 (plM f base' p) (rnT f t) = zc3 p t := by
    rw [zc3, zc3, zJi]
    simp only [plM, List.length_map]
    by_cases h1 : t.kind = 1
    · rw [zN5 f (by omega)]
    · rw [if_neg (fun h => h1 h.1), if_neg (fun h => h1 h.1)]
  rw [za0, za0, hJ]
  cases zc3 p t with
  | none => rfl
  | some j =>
    simp only [plM, List.getElem?_map]
    cases p.args[j]? <;> rfl
theorem zI2 (f : Int → Int) (base' : Int) (p : Pl) (t : T) : zcu (plM f base' p) (rnT f t) = zcu p t := by
  have hJ : zc3 (plM f base' p) (rnT f t) = zc3 p t := by
    rw [zc3, zc3, zJi]
    simp only [plM, List.length_map]
    by_cases h1 : t.kind = 1
    · rw [zN5 f (by omega)]
    · rw [if_neg (fun h => h1 h.1), if_neg (fun h => h1 h.1)]
  rw [zcu, zcu, hJ]
end
section
theorem zBg {b : Bl} (hf : Fit b) : 0 ≤ zlb b ∧ zlb b ≤ 100 := by
  have := zl0 hf
  have := hf.s
  have := hf.c
  have := zfu b.sorts
  omega
theorem zL2 {b : Bl} (hf : Fit b) {base : Int} (h0 : 0 ≤ base) (h1 : base ≤ 65535) (c : Int) (h : (ofM b base c).1 ≠ 0) : base ≤ c ∧ c < base + zlb b := by
  have hci := zl0 hf
  have h2 := hf.s
  have h3 := hf.c
  have h4 := zfu b.sorts
  rw [ofM] at h
  split at h
  · exact absurd rfl h
  rename_i hc
  cases hs : seek c (tab b base) with
  | none => rw [hs] at h; exact absurd rfl h
  | some q =>
    have hn : 0 ≤ c := by omega
    obtain ⟨e, he, k, hk, hn', rfl⟩ := zn9 hs
    simp only [tab, List.mem_cons, List.not_mem_nil, or_false] at he
    rcases he with rfl | rfl | rfl | rfl
    · have := zf1 hf h0 h1 hn hn'; omega
    · have hn2 : zdf b base k = c := hn'
      obtain ⟨j, hj, _, hd, he⟩ := zep hf h0 h1 hn hn2
      have := zI1 b.sorts hj hd
      omega
    · have := zb2 hf h0 h1 hn hn'; omega
    · have := zck hf h0 h1 hn hn'; omega
end
section
section
theorem zCs (f : Int → Int) (n : Int) : rnT f (.mk 1 n []) = .mk 1 n [] := by rw [zpt, if_neg (by decide)]; rfl
theorem zsd (f : Int → Int) : ∀ (l : List T) (t : T), rnT f (spT t l) = spT (rnT f t) (l.map (rnT f))
  | [], t => rfl
  | x :: xs, t => by
    show rnT f (spT (.mk 6 0 [t, x]) xs) = _
    rw [zsd f xs, zpt, if_neg (by decide)]
    rfl
theorem zv8 (f : Int → Int) (k : Int) (hk : k ≠ 3) : ∀ (l : List T) (t : T), rnT f (zbu k l t) = zbu k (l.map (rnT f)) (rnT f t)
  | [], t => rfl
  | x :: xs, t => by
    show rnT f (.mk k 0 [x, zbu k xs t]) = _
    rw [zpt, if_neg hk, List.map_cons, List.map_cons, List.map_nil, zv8 f k hk xs]
    rfl
theorem zT0 (f : Int → Int) (g : Int → Int → T) (hg : ∀ n b, rnT f (g n b) = g n b) (t : T) : ∀ b, rnT f (mapT g t b) = mapT g (rnT f t) b := by
  refine T.ind (p := fun t => ∀ b, rnT f (mapT g t b) = mapT g (rnT f t) b) ?_ t
  intro k n ks ih b
  rw [mapT, zpt, mapT]
  by_cases h1 : k = 1
  · rw [if_pos h1, if_pos h1, hg, if_neg (by omega)]
  · rw [if_neg h1, if_neg h1, zpt]
    congr 1
    have go : ∀ (xs : List T) (i : Nat), (∀ x ∈ xs, ∀ b, rnT f (mapT g x b) = mapT g (rnT f x) b) → (mapL g k b i xs).map (rnT f) = mapL g k b i (xs.map (rnT f)) := by
      intro xs
      induction xs with
      | nil => intro i _; rfl
      | cons x xs ihx =>
        intro i h
        rw [mapL, List.map_cons, List.map_cons, mapL, h x (by simp), ihx (i + 1) fun y hy => h y (by simp [hy])]
    exact go ks 0 ih
theorem zSb (pos : List Int) (first : Nat) (more vars n b : Int) : ∃ m : Int, putF pos first more vars n b = .mk 1 m [] := by
  rw [putF]
  split <;> exact ⟨_, rfl⟩
structure Ch (f : Int → Int) (v v' : Vw) (cons : Int) : Prop where
  pos : v'.pos = v.pos
  args : v'.args = v.args.map (mvA f)
  sl : v'.b.sorts.length = v.b.sorts.length
  of : ∀ c : Int, (ofM v.b v.base c).1 = 5 → (ofM v.b v.base c).2 < cons → ofM v'.b v'.base (f c) = ofM v.b v.base c
  con : ∀ j : Nat, (j : Int) < cons → v'.b.cons[j]? = (v.b.cons[j]?).map (mvC f)
variable {f : Int → Int} {v v' : Vw} {cons : Int}
theorem zDb (H : Ch f v v' cons) (t : T) (first : Nat) (more vars : Int) : putT v' (rnT f t) first more vars = rnT f (putT v t first more vars) := by
  rw [putT, putT, H.pos]
  exact (zT0 f _ (fun n b => by obtain ⟨m, e⟩ := zSb v.pos first more vars n b; rw [e, zCs]) t 0).symm
theorem zL1 (H : Ch f v v' cons) (first : Nat) (more : Int) (t : T) : za0 (plV v' first more) (rnT f t) = za0 (plV v first more) t ∧ zcu (plV v' first more) (rnT f t) = zcu (plV v first more) t := by
  have e : (plM f 0 (plV v first more)).args = (plV v' first more).args := by
    show (v.args.take first).map (mvA f) = v'.args.take first
    rw [H.args, List.map_take]
  have h1 := zNr f 0 (plV v first more) t
  have h2 := zI2 f 0 (plV v first more) t
  have c1 : ∀ (p q : Pl) (x : T), p.args = q.args → p.more = q.more → za0 p x = za0 q x ∧ zcu p x = zcu q x := by
    rintro ⟨_, _, a, m⟩ ⟨_, _, a', m'⟩ x h1 h2
    dsimp only at h1 h2
    subst h1 h2
    exact ⟨rfl, rfl⟩
  obtain ⟨g1, g2⟩ := c1 (plV v' first more) (plM f 0 (plV v first more)) (rnT f t) e.symm rfl
  exact ⟨g1.trans h1, g2.trans h2⟩
theorem zKf {pt pt' sh sh' : T → T} : ∀ (ar : List Ar) (xs : List T), (∀ (i : Nat) (h : i < ar.length) (h' : i < xs.length), pt' (rnT f xs[i]) = rnT f (pt xs[i]) ∧ (ar[i].rc = true → sh' (rnT f xs[i]) = rnT f (sh xs[i]))) →
    shA pt' sh' (ar.map (mvA f)) (xs.map (rnT f)) = (shA pt sh ar xs).map (rnT f)
  | [], xs, _ => by cases xs <;> rfl
  | a :: ar, [], _ => rfl
  | a :: ar, x :: xs, h => by
    have h0 := h 0 (by simp) (by simp)
    simp only [List.getElem_cons_zero] at h0
    have ih := zKf (pt := pt) (pt' := pt') (sh := sh) (sh' := sh') ar xs fun i hi hi' => by
      have := h (i + 1) (by simpa using hi) (by simpa using hi')
      simpa only [List.getElem_cons_succ] using this
    rw [List.map_cons, List.map_cons, shA, shA, ih, show (mvA f a).rc = a.rc from rfl]
    cases hr : a.rc with
    | true => simp only [if_true, List.map_cons, h0.1, h0.2 hr]
    | false => simp only [Bool.false_eq_true, if_false, List.map_cons, h0.1]
theorem zN0 {p : Pl} {t : T} (ft : zab t = true) (h : za0 p t = true) : spH t = t := by
  obtain ⟨k, n, ks⟩ := t
  have hk : k = 1 := (zjm h).1
  subst hk
  have := zku rfl ft
  subst this
  rfl
theorem ch_sh (H : Ch f v v' cons) (first : Nat) (more vars : Int) : ∀ (n : Nat) (t : T), zab t = true → zac t ≤ n → (za0 (plV v first more) (spH t) = true ∨ zcv n (plV v first more) t cons = true) →
    shT v' first more vars n (rnT f t) = rnT f (shT v first more vars n t) := by
  intro n
  induction n with
  | zero => intro t _ h; have := zf0 t; omega
  | succ n ih =>
    intro t ft hn hg
    obtain ⟨s1, s2⟩ := rn_sp f t
    obtain ⟨g1, g2⟩ := zL1 H first more (spH t)
    obtain ⟨fH, fA⟩ := zh1 t ft
    have m1 := (zh0 t).1
    have hm : ∀ x ∈ (spA t).reverse, zac x < zac t ∧ zab x = true := fun x hx => ⟨m1 x (by simpa using hx), fA x (by simpa using hx)⟩
    rw [shT, shT, s1, s2, g1, g2, H.pos, H.sl]
    by_cases hb : za0 (plV v first more) (spH t) = true
    · rw [if_pos hb, if_pos hb, zsd, lv, zCs, ← List.map_reverse, List.map_map, List.map_map]
      congr 1
      exact List.map_congr_left fun x _ => zDb H x first more vars
    · rw [if_neg hb, if_neg hb]
      have hgood := hg.resolve_left hb
      rw [zcv] at hgood
      simp only [zya] at hgood
      rw [if_neg hb] at hgood
      by_cases k3 : (spH t).kind = 3
      case neg => rw [if_neg k3] at hgood; cases hgood
      rw [if_pos k3] at hgood
      have eb : (plV v first more).b = v.b := rfl
      have ebase : (plV v first more).base = v.base := rfl
      rw [eb, ebase] at hgood
      by_cases k5 : (ofM v.b v.base (spH t).num).1 = 5
      case neg => rw [if_neg k5] at hgood; cases hgood
      rw [if_pos k5] at hgood
      by_cases k6 : (ofM v.b v.base (spH t).num).2 < cons
      case neg => rw [if_neg k6] at hgood; cases hgood
      rw [if_pos k6] at hgood
      rw [zPq f k3, H.of _ k5 k6]
      obtain ⟨c, c1, c2, c3⟩ := zv3 k5
      have hgc : v.b.cons[c]? = some v.b.cons[c] := List.getElem?_eq_getElem c1
      rw [c3] at hgood k6 ⊢
      simp only [Int.toNat_natCast, hgc] at hgood k6
      have hcc := H.con c k6
      rw [hgc] at hcc
      simp only [Int.toNat_natCast, hgc, hcc, Option.map_some]
      by_cases k7 : (spA t).reverse.length = v.b.cons[c].args.length
      case neg => rw [if_neg k7] at hgood; cases hgood
      rw [if_pos k7] at hgood
      rw [zsd, lv, zCs]
      congr 1
      rw [← List.map_reverse]
      refine zKf v.b.cons[c].args (spA t).reverse fun i h h' => ⟨zDb H _ first more vars, fun hr => ?_⟩
      obtain ⟨x1, x2⟩ := hm _ (List.getElem_mem h')
      refine ih _ x2 (by omega) ?_
      have hA := (zan _ _ _).1 hgood i h
      rw [Nat.zero_add, List.getElem?_eq_getElem h'] at hA
      simp only [fitA, hr, if_true] at hA
      split at hA
      · exact .inr hA
      · exact .inl (by rw [zN0 x2 hA]; exact hA)
theorem zU2 (H : Ch f v v' cons) (first : Nat) (more vars : Int) (n : Nat) (so so' : So) (hs : so'.idx = so.idx.map (mvA f)) (l : List T) (hl : ∀ x ∈ l, zab x = true ∧ zac x ≤ n) (hll : l.length = so.idx.length) (hg : indF n (plV v first more) so l cons = true) :
    inT v' n so' (l.map (rnT f)) first more vars = (inT v n so l first more vars).map (rnT f) := by
  rw [inT, inT, hs]
  refine zKf so.idx l fun i h h' => ⟨zDb H _ first more vars, fun hr => ?_⟩
  obtain ⟨x1, x2⟩ := hl _ (List.getElem_mem h')
  refine ch_sh H first more vars n _ x1 x2 (.inr ?_)
  rw [indF] at hg
  have hA := (zan _ _ _).1 hg i h
  rw [Nat.zero_add, List.getElem?_eq_getElem h'] at hA
  simpa only [hr, if_true] using hA
theorem zU0 (H : Ch f v v' cons) (first : Nat) (vars : Int) : ∀ (l : List T) (j : Nat), dmP v' first vars j (l.map (rnT f)) = (dmP v first vars j l).map (rnT f)
  | [], j => rfl
  | d :: ds, j => by rw [List.map_cons, dmP, dmP, List.map_cons, zDb H, zU0 H first vars ds]
end
end
section
attribute [local simp] zae zaf tk tn tks za9 zba zbb zbz
theorem zQb (f : T) (l : List T) (h : f.kind ≠ 4) : (spT f l).kind ≠ 4 := by
  induction l generalizing f with
  | nil => exact h
  | cons a l ih => exact ih (.mk 6 0 [f, a]) (by show (6 : Int) ≠ 4; decide)
end
section
section
attribute [local simp] zae zaf tk tn tks zb1 zcb za9 zba zbb zbz
def metB (b : Bl) (base c : Int) (x : Co) (so : So) : T := spT (lv x.sort (metV b base c x).fin) (inT (metV b base c x) 9000 so x.idx x.args.length 0 (metV b base c x).fin ++ [spT (tC (zao b base c)) ((metV b base c x).pos.map fun p => lv p (metV b base c x).fin)])
structure MetOk (b : Bl) (base c : Int) (x : Co) (so : So) : Prop where
  oL : ∀ y ∈ tyL (metV b base c x) 9000 0 x.args, okT y
  lL : (tyL (metV b base c x) 9000 0 x.args).length ≤ 40
  oJ : ∀ y ∈ inT (metV b base c x) 9000 so x.idx x.args.length 0 (metV b base c x).fin ++ [spT (tC (zao b base c)) ((metV b base c x).pos.map fun p => lv p (metV b base c x).fin)], okT y
  lJ : (inT (metV b base c x) 9000 so x.idx x.args.length 0 (metV b base c x).fin).length ≤ 40
  oH : okT (lv x.sort (metV b base c x).fin)
  oO : ∀ y ∈ (metV b base c x).pos.map (fun p => lv p (metV b base c x).fin), okT y
end
end
section
structure In8 (t : T) (V : Int) : Prop where
  wi : wiT t V 65536 = true
  fm : zab t = true
theorem zSp {f : Int → Int → T} {v w C : Int} (hC : C ≤ 4194304) (hv : ∀ n b : Int, 0 ≤ n → n ≤ 65535 → 0 ≤ b → b ≤ C → n < v + b → In8 (f n b) (w + b)) (t : T) : ∀ b : Int, zab t = true → 0 ≤ b → b + zac t ≤ C → wiT t (v + b) 65536 = true → In8 (mapT f t b) (w + b) := by
  refine T.ind (p := fun t => ∀ b : Int, zab t = true → 0 ≤ b → b + zac t ≤ C → wiT t (v + b) 65536 = true → In8 (mapT f t b) (w + b)) ?_ t
  intro k n ks ih b hfm h0 hb hw
  rw [mapT]
  by_cases h1 : k = 1
  · have hn := zdh h1 hfm
    rw [wiT, if_pos h1] at hw
    rw [if_pos h1]
    exact hv n b hn.1 hn.2 h0 (by omega) (by simpa using hw)
  · rw [if_neg h1]
    by_cases h2 : k = 2
    · subst h2
      rw [wiT, if_neg (by decide), if_pos rfl] at hw
      have hks : ks = [] := by
        have := hfm
        rw [zaz] at this
        split at this
        · rename_i hl
          exact List.length_eq_zero_iff.1 (by have h0 : zdy 2 = 0 := rfl; omega)
        · cases this
      subst hks
      refine ⟨by rw [mapL, wiT, if_neg (by decide), if_pos rfl]; exact hw, by rw [mapL]; exact hfm⟩
    by_cases h3 : k = 3
    · subst h3
      rw [wiT, if_neg (by decide), if_neg (by decide), if_pos rfl] at hw
      have hks : ks = [] := by
        have := hfm
        rw [zaz] at this
        split at this
        · rename_i hl
          exact List.length_eq_zero_iff.1 (by have h0 : zdy 3 = 0 := rfl; omega)
        · cases this
      subst hks
      refine ⟨by rw [mapL, wiT, if_neg (by decide), if_neg (by decide), if_pos rfl]; exact hw, by rw [mapL]; exact hfm⟩
    rw [wiT, if_neg h1, if_neg h2, if_neg h3, zBi] at hw
    have key : ∀ (j : Nat) (hj : j < ks.length), In8 (mapT f ks[j] (b + zai k (0 + j : Nat))) (w + (b + zai k (0 + j : Nat))) := fun j hj => by
      have hxn := zcx (k := k) (n := n) (List.getElem_mem hj)
      have hbl := zdk k (0 + j : Nat)
      have := hw j hj
      rw [show v + b + zai k (0 + j : Nat) = v + (b + zai k (0 + j : Nat)) by omega] at this
      exact ih ks[j] (List.getElem_mem _) _ (zbo hfm _ (List.getElem_mem _)) (by omega) (by omega) this
    refine ⟨?_, zq7 h1 hfm fun j hj => by have := (key j hj).fm; rwa [Nat.zero_add] at this⟩
    rw [wiT, if_neg h1, if_neg h2, if_neg h3, zBi]
    intro j hj
    rw [zjn] at hj
    rw [zo7 _ _ _ _ _ _ hj, show w + b + zai k (0 + j : Nat) = w + (b + zai k (0 + j : Nat)) by omega]
    exact (key j hj).wi
theorem zyy {l vars : Int} (h0 : 0 ≤ l) (h1 : l < vars) (h2 : vars ≤ 60000) : In8 (lv l vars) vars := ⟨zks (by omega), zbm ⟨by omega, by omega⟩⟩
theorem zp8 {f : T} {l : List T} {V : Int} (hf : In8 f V) (hl : ∀ x ∈ l, In8 x V) : In8 (spT f l) V :=
  ⟨by rw [zSl, Bool.and_eq_true, List.all_eq_true]; exact ⟨hf.wi, fun x hx => (hl x hx).wi⟩, zxf _ _ hf.fm fun x hx => (hl x hx).fm⟩
theorem zz2 {l : List T} {t : T} {V : Int} (hl : ∀ (i : Nat) (h : i < l.length), In8 l[i] (V + i)) (ht : In8 t (V + l.length)) : In8 (zbu 4 l t) V :=
  ⟨zDv (.inl rfl) l t V (fun i h => (hl i h).wi) ht.wi, zoc l t (fun x hx => by obtain ⟨i, hi, rfl⟩ := List.mem_iff_getElem.1 hx; exact (hl i hi).fm) ht.fm⟩
theorem zA8 {v : Vw} {t : T} {first : Nat} {more vars : Int} (hpos : ∀ j : Nat, j < first → ∃ q, v.pos[j]? = some q ∧ 0 ≤ q ∧ q < vars) (h0 : 0 ≤ more) (h1 : more ≤ 1000) (h2 : 0 ≤ vars) (h3 : vars ≤ 1000) (ft : zab t = true) (hn : zac t ≤ 30000) (hw : wiT t (first + more) 65536 = true) :
    In8 (putT v t first more vars) (vars + more) := by
  have := zSp (f := putF v.pos first more vars) (v := first + more) (w := vars + more) (C := 30000) (by omega) (fun n b n0 n1 b0 b1 hnb => by
    rw [putF]
    split
    · rename_i hc
      exact ⟨zks (by omega), zbm ⟨n0, by omega⟩⟩
    · rename_i hc
      obtain ⟨q, hq, q0, q1⟩ := hpos (first - 1 - (n - (more + b)).toNat) (by omega)
      rw [hq, Option.getD_some]
      exact ⟨zks (by omega), zbm ⟨by omega, by omega⟩⟩) t 0 ft (by omega) (by omega) (by rw [Int.add_zero]; exact hw)
  rw [Int.add_zero] at this
  exact this
theorem zUf (t : T) (V : Int) : wiT t V 65536 = true → wiT (spH t) V 65536 = true ∧ ∀ x ∈ spA t, wiT x V 65536 = true := by
  refine T.ind (p := fun t => wiT t V 65536 = true → wiT (spH t) V 65536 = true ∧ ∀ x ∈ spA t, wiT x V 65536 = true) ?_ t
  intro k n ks ih hw
  by_cases hc : k = 6 ∧ ∃ a b, ks = [a, b]
  · obtain ⟨rfl, a, b, rfl⟩ := hc
    rw [wiT, if_neg (by decide), if_neg (by decide), if_neg (by decide)] at hw
    simp only [wiL, Bool.and_eq_true] at hw
    have b0 : zai 6 ((0 : Nat) : Int) = 0 := rfl
    have b1 : zai 6 ((0 + 1 : Nat) : Int) = 0 := rfl
    rw [b0, b1, Int.add_zero] at hw
    obtain ⟨i1, i2⟩ := ih a (by simp) hw.1
    rw [(zey n a b).1, (zey n a b).2]
    refine ⟨i1, fun x hx => ?_⟩
    rcases List.mem_cons.1 hx with rfl | hx
    · exact hw.2.1
    · exact i2 x hx
  · rw [(zdv hc).1, (zdv hc).2]
    exact ⟨hw, by simp⟩
structure Sc8 (v : Vw) (first : Nat) (vars cons : Int) : Prop where
  pos : ∀ j : Nat, j < first → ∃ q, v.pos[j]? = some q ∧ 0 ≤ q ∧ q < vars
  rc : ∀ (j : Nat) a q, j < first → v.args[j]? = some a → a.rc = true → v.pos[j]? = some q → q + 1 < vars
  top : ∀ c : Nat, (c : Int) < cons → (v.b.sorts.length : Int) + c < vars
theorem zTy {v : Vw} {first : Nat} {more vars cons : Int} (S : Sc8 v first vars cons) (hfi : first ≤ v.args.length) (h0 : 0 ≤ more) (h1 : more ≤ 1000) (h2 : 0 ≤ vars) (h3 : vars ≤ 1000) : ∀ (n : Nat) (t : T), zab t = true → zac t ≤ n → zac t ≤ 30000 → wiT t (first + more) 65536 = true →
    (za0 (plV v first more) (spH t) = true ∨ zcv n (plV v first more) t cons = true) → In8 (shT v first more vars n t) (vars + more) := by
  intro n
  induction n with
  | zero => intro t _ h; have := zf0 t; omega
  | succ n ih =>
    intro t ft hn hn3 hw hg
    have m1 := (zh0 t).1
    obtain ⟨fH, fA⟩ := zh1 t ft
    obtain ⟨wH, wA⟩ := zUf t _ hw
    have hm : ∀ x ∈ (spA t).reverse, zac x < zac t ∧ zab x = true ∧ wiT x (first + more) 65536 = true := fun x hx => ⟨m1 x (by simpa using hx), fA x (by simpa using hx), wA x (by simpa using hx)⟩
    have hput : ∀ x ∈ (spA t).reverse, In8 (putT v x first more vars) (vars + more) := fun x hx => by
      obtain ⟨x1, x2, x3⟩ := hm x hx
      exact zA8 S.pos h0 h1 h2 h3 x2 (by omega) x3
    by_cases hb : za0 (plV v first more) (spH t) = true
    · obtain ⟨_, j, hj, hjl⟩ := zjm hb
      have hjf : j < first := by simp only [plV, List.length_take] at hjl; omega
      obtain ⟨q, hq, q0, q1⟩ := S.pos j hjf
      have hrc : q + 1 < vars := by
        have hb' := hb
        rw [za0] at hb'
        cases hJ : zc3 (plV v first more) (spH t) with
        | none => rw [hJ] at hb'; cases hb'
        | some j' =>
          rw [hJ] at hb'
          have hje : j' = j := by
            rw [zcu, hJ] at hj
            simp only at hj
            omega
          subst hje
          simp only at hb'
          cases ha : (plV v first more).args[j']? with
          | none => rw [ha] at hb'; cases hb'
          | some a =>
            rw [ha] at hb'
            have ha' : v.args[j']? = some a := by
              simp only [plV, List.getElem?_take] at ha
              rwa [if_pos hjf] at ha
            exact S.rc j' a q hjf ha' hb' hq
      have e : shT v first more vars (n + 1) t = spT (lv (q + 1) (vars + more)) ((spA t).reverse.map fun x => putT v x first more vars) := by
        rw [shT, if_pos hb, hj, Int.toNat_natCast, hq]; rfl
      rw [e]
      refine zp8 (zyy (by omega) (by omega) (by omega)) fun y hy => ?_
      obtain ⟨x, hx, rfl⟩ := List.mem_map.1 hy
      exact hput x hx
    · have hgood := hg.resolve_left hb
      rw [zcv] at hgood
      simp only [zya] at hgood
      rw [if_neg hb] at hgood
      by_cases k3 : (spH t).kind = 3
      case neg => rw [if_neg k3] at hgood; cases hgood
      rw [if_pos k3] at hgood
      have eb : (plV v first more).b = v.b := rfl
      have ebase : (plV v first more).base = v.base := rfl
      rw [eb, ebase] at hgood
      by_cases k5 : (ofM v.b v.base (spH t).num).1 = 5
      case neg => rw [if_neg k5] at hgood; cases hgood
      rw [if_pos k5] at hgood
      by_cases k6 : (ofM v.b v.base (spH t).num).2 < cons
      case neg => rw [if_neg k6] at hgood; cases hgood
      rw [if_pos k6] at hgood
      obtain ⟨c, c1, c2, c3⟩ := zv3 k5
      have hgc : v.b.cons[c]? = some v.b.cons[c] := List.getElem?_eq_getElem c1
      have e : shT v first more vars (n + 1) t = spT (lv (v.b.sorts.length + c) (vars + more)) (shA (fun x => putT v x first more vars) (shT v first more vars n) v.b.cons[c].args (spA t).reverse) := by
        rw [shT, if_neg hb, c3]
        simp only [Int.toNat_natCast, hgc]
      rw [c3] at hgood k6
      simp only [Int.toNat_natCast, hgc] at hgood
      by_cases k7 : (spA t).reverse.length = v.b.cons[c].args.length
      case neg => rw [if_neg k7] at hgood; cases hgood
      rw [if_pos k7] at hgood
      have k6' : (c : Int) < cons := k6
      have htop := S.top c k6'
      rw [e]
      refine zp8 (zyy (by omega) (by omega) (by omega)) (zxb _ _ fun i h h' => ?_)
      refine ⟨hput _ (List.getElem_mem h'), fun hr => ?_⟩
      obtain ⟨x1, x2, x3⟩ := hm _ (List.getElem_mem h')
      refine ih _ x2 (by omega) (by omega) x3 ?_
      have hA := (zan _ _ _).1 hgood i h
      rw [Nat.zero_add, List.getElem?_eq_getElem h'] at hA
      simp only [fitA, hr, if_true] at hA
      split at hA
      · exact .inr hA
      · have hk := (zjm hA).1
        refine .inl ?_
        have : spH (spA t).reverse[i] = (spA t).reverse[i] := by
          generalize (spA t).reverse[i] = x at hk
          obtain ⟨k, m, ks⟩ := x
          have hk' : k = 1 := hk
          exact (zdv (fun h => by omega)).2
        rw [this]
        exact hA
theorem zN8 {v : Vw} {first : Nat} {more vars cons : Int} (S : Sc8 v first vars cons) (hfi : first ≤ v.args.length) (h0 : 0 ≤ more) (h1 : more ≤ 1000) (h2 : 0 ≤ vars) (h3 : vars ≤ 1000) (n : Nat) (so : So) (l : List T) (hll : l.length = so.idx.length)
    (hl : ∀ x ∈ l, zab x = true ∧ zac x ≤ n ∧ zac x ≤ 30000 ∧ wiT x (first + more) 65536 = true) (hg : indF n (plV v first more) so l cons = true) : ∀ y ∈ inT v n so l first more vars, In8 y (vars + more) := by
  refine zxb _ _ fun i h h' => ?_
  obtain ⟨x1, x2, x3, x4⟩ := hl _ (List.getElem_mem h')
  refine ⟨zA8 S.pos h0 h1 h2 h3 x1 x3 x4, fun hr => ?_⟩
  refine zTy S hfi h0 h1 h2 h3 n _ x1 x2 x3 x4 (.inr ?_)
  rw [indF] at hg
  have hA := (zan _ _ _).1 hg i h
  rw [Nat.zero_add, List.getElem?_eq_getElem h'] at hA
  simpa only [hr, if_true] using hA
end
section
theorem zAu (l : List Ar) (e : Int) {i j : Nat} (hij : i < j) (hj : j ≤ l.length) : finL e (l.take i) + 1 ≤ finL e (l.take j) := by
  induction j with
  | zero => omega
  | succ j ih =>
    have hs := zsk l e j (by omega)
    have : finL e (l.take j) + 1 ≤ finL e (l.take (j + 1)) := by rw [hs]; split <;> omega
    rcases Nat.lt_or_ge i j with h | h
    · have := ih h (by omega); omega
    · have : i = j := by omega
      subst this
      assumption
theorem zR5 (l : List Ar) (e : Int) {i j : Nat} (hij : i < j) (hj : j ≤ l.length) (hr : l[i].rc = true) : finL e (l.take i) + 2 ≤ finL e (l.take j) := by
  have hs := zsk l e i (by omega)
  rw [if_pos hr] at hs
  rcases Nat.lt_or_ge (i + 1) j with h | h
  · have := zAu l e h hj; omega
  · have : j = i + 1 := by omega
    subst this
    omega
theorem zIr {b : Bl} {base e cons : Int} {l : List Ar} (he : 0 ≤ e) (htop : ∀ c : Nat, (c : Int) < cons → (b.sorts.length : Int) + c < e) (first : Nat) (hfi : first ≤ l.length) {vars : Int} (hv : finL e (l.take first) ≤ vars) : Sc8 (vwOf b base l e) first vars cons := by
  have hle := fun j => zp7 (l.take j) e
  refine ⟨fun j hj => ?_, fun j a q hj ha hr hq => ?_, fun c hc => by have := (hle first).1; have := htop c hc; show (b.sorts.length : Int) + c < vars; omega⟩
  · have hjl : j < (posL e l).length := by rw [zgm]; omega
    refine ⟨_, List.getElem?_eq_getElem hjl, ?_, ?_⟩
    · rw [zyp]; have := (hle j).1; omega
    · rw [zyp]; have := zAu l e hj hfi; omega
  · have hjl : j < (posL e l).length := by rw [zgm]; omega
    have hq' : (posL e l)[j]? = some q := hq
    rw [List.getElem?_eq_getElem hjl, zyp] at hq'
    cases hq'
    obtain ⟨hjl2, rfl⟩ := List.getElem?_eq_some_iff.1 ha
    have := zR5 l e hj hfi hr
    omega
theorem zGe (v : Vw) (first : Nat) (vars : Int) : ∀ (l : List T) (j i : Nat), dmP v first vars j (l.take i) = (dmP v first vars j l).take i
  | [], j, i => by simp [dmP]
  | d :: ds, j, 0 => by simp [dmP]
  | d :: ds, j, i + 1 => by simp only [List.take_succ_cons, dmP]; rw [zGe v first vars ds (j + 1) i]
structure Row8 (b : Bl) (base : Int) (l : List Ar) (e cons : Int) : Prop where
  fit : Fit b
  b0 : 0 ≤ base
  b1 : base ≤ 60000
  fine : zgg l
  row : rowM b l = true
  good : rowF 9000 b base l cons = true
  e0 : 0 ≤ e
  e1 : e ≤ 100
  top : ∀ c : Nat, (c : Int) < cons → (b.sorts.length : Int) + c < e
  srt : ∀ a ∈ l, a.rc = true → a.sort < e
theorem zCn (r : Nat) {V : Int} (h : (r : Int) ≤ V) (hV : V ≤ 60000) : ∀ y ∈ zc8 r, In8 y V := fun y hy => by
  simp only [zc8, List.mem_map, List.mem_range] at hy
  obtain ⟨i, hi, rfl⟩ := hy
  exact ⟨zks (by omega), zbm ⟨by omega, by omega⟩⟩
theorem zQy {b : Bl} {base e cons : Int} {l : List Ar} (R : Row8 b base l e cons) (i : Nat) (hi : i < l.length) :
    In8 (putT (vwOf b base l e) (zcn b base l[i]) i 0 (finL e (l.take i))) (finL e (l.take i)) ∧
    (l[i].rc = true → ∃ t, tyA (vwOf b base l e) 9000 i (finL e (l.take i)) l[i] = [putT (vwOf b base l e) (zcn b base l[i]) i 0 (finL e (l.take i)), t] ∧ In8 t (finL e (l.take i) + 1)) ∧
    (l[i].rc = false → tyA (vwOf b base l e) 9000 i (finL e (l.take i)) l[i] = [putT (vwOf b base l e) (zcn b base l[i]) i 0 (finL e (l.take i))]) := by
  obtain ⟨hr1, hr2⟩ := zi7 R.row
  have fa := R.fine.2 _ (List.getElem_mem hi)
  have hlen := R.fine.1
  have hfl := zp7 (l.take i) e
  rw [List.length_take] at hfl
  have e0 := R.e0
  have e1 := R.e1
  have hfs := R.fit.s
  have hA := zmr R.fit R.b0 R.b1 fa (by omega) (hr2 i hi)
  have hAn := zkb (b := b) (base := base) fa
  have S0 := zIr (base := base) (l := l) e0 R.top i (by omega) (Int.le_refl (finL e (l.take i)))
  refine ⟨?_, fun hr => ?_, fun hr => ?_⟩
  · have := zA8 (v := vwOf b base l e) (t := zcn b base l[i]) S0.pos (Int.le_refl 0) (by omega) (by omega) (by omega) hA.2 (by omega) (by rw [Int.add_zero]; exact hA.1)
    rwa [Int.add_zero] at this
  · obtain ⟨_, s0, s1, d1, ⟨so, hso, hil⟩, hd, hx⟩ := zf8 (hr2 i hi) hr (by omega) (by omega)
    have hg := (zan _ _ _).1 R.good i hi
    rw [Nat.zero_add, argF, if_pos hr, hso, Bool.and_eq_true] at hg
    have S1 := zIr (base := base) (l := l) (vars := finL e (l.take i) + 1) e0 R.top i (by omega) (by omega)
    have ep : plV (vwOf b base l e) i (l[i].dom.length : Int) = ⟨b, base, l.take i, l[i].dom.length⟩ := rfl
    have hg2 : indF 9000 (plV (vwOf b base l e) i (l[i].dom.length : Int)) so l[i].idx cons = true := by rw [ep]; exact hg.2
    have hsrt := R.srt _ (List.getElem_mem hi) hr
    have hso' : (vwOf b base l e).b.sorts[l[i].sort.toNat]? = some so := hso
    refine ⟨_, by rw [tyA, hr, if_pos rfl, hso']; rfl, ?_⟩
    refine zz2 (fun j hj => ?_) ?_
    · rw [zn4] at hj
      have hnx : zac l[i].dom[j] ≤ 9000 := Nat.le_trans (zcg (List.mem_map.2 ⟨_, List.getElem_mem hj, rfl⟩)) fa.dom
      have hf := zcc (hd j hj) (by omega) (by omega) (by omega)
      have hget : (dmP (vwOf b base l e) i (finL e (l.take i) + 1) 0 l[i].dom)[j]? = some (putT (vwOf b base l e) l[i].dom[j] i j (finL e (l.take i) + 1)) := by
        have hs := zzy (vwOf b base l e) i (finL e (l.take i) + 1) l[i].dom 0 j hj
        have hpre : (dmP (vwOf b base l e) i (finL e (l.take i) + 1) 0 (l[i].dom.take (j + 1)))[j]? = some (putT (vwOf b base l e) l[i].dom[j] i ((0 + j : Nat) : Int) (finL e (l.take i) + 1)) := by
          rw [hs, List.getElem?_append_right (by rw [zn4, List.length_take]; omega), zn4, List.length_take, show j - min j l[i].dom.length = 0 by omega]
          rfl
        rw [zGe] at hpre
        rw [List.getElem?_take, if_pos (by omega), Nat.zero_add] at hpre
        exact hpre
      have hlt' : j < (dmP (vwOf b base l e) i (finL e (l.take i) + 1) 0 l[i].dom).length := by rw [zn4]; exact hj
      rw [List.getElem?_eq_getElem hlt'] at hget
      rw [Option.some.inj hget]
      have := zA8 (v := vwOf b base l e) (t := l[i].dom[j]) (more := j) (vars := finL e (l.take i) + 1) S1.pos (by omega) (by omega) (by omega) (by omega) hf.2.1 (by omega) hf.1
      exact this
    · rw [zn4]
      refine zp8 (zyy s0 (by omega) (by omega)) fun y hy => ?_
      rcases List.mem_append.1 hy with hy | hy
      · exact zN8 S1 (by show i ≤ l.length; omega) (by omega) (by omega) (by omega) (by omega) 9000 so l[i].idx hil (fun x hxm => by
          have hnx : zac x ≤ 9000 := Nat.le_trans (zcg (List.mem_map.2 ⟨_, hxm, rfl⟩)) fa.idx
          have hf := zcc (hx x hxm) (by omega) (by omega) (by omega)
          exact ⟨hf.2.1, hnx, by omega, hf.1⟩) hg2 y hy
      · rw [List.mem_singleton] at hy
        subst hy
        exact zp8 (zyy (by omega) (by omega) (by omega)) (zCn _ (by omega) (by omega))
  · rw [tyA, hr, if_neg (by simp)]
    rfl
theorem zOf {b : Bl} {base e cons : Int} {l : List Ar} (R : Row8 b base l e cons) : e + ((tyL (vwOf b base l e) 9000 0 l).length : Int) = finL e l ∧ ∀ (i : Nat) (h : i < (tyL (vwOf b base l e) 9000 0 l).length), In8 (tyL (vwOf b base l e) 9000 0 l)[i] (e + i) := by
  have go : ∀ j, j ≤ l.length → e + ((tyL (vwOf b base l e) 9000 0 (l.take j)).length : Int) = finL e (l.take j) ∧ ∀ (i : Nat) x, (tyL (vwOf b base l e) 9000 0 (l.take j))[i]? = some x → In8 x (e + i) := by
    intro j
    induction j with
    | zero => intro _; exact ⟨by simp [tyL, finL], fun i x h => by simp [tyL] at h⟩
    | succ j ih =>
      intro hj
      have hlt : j < l.length := by omega
      obtain ⟨i1, i2⟩ := ih (by omega)
      obtain ⟨a1, a2, a3⟩ := zQy R j hlt
      have hjl : j < (posL e l).length := by rw [zgm]; exact hlt
      have hpos : ((vwOf b base l e).pos[0 + j]?).getD 0 = finL e (l.take j) := by
        rw [Nat.zero_add, show (vwOf b base l e).pos = posL e l from rfl, List.getElem?_eq_getElem hjl, zyp]; rfl
      have hfs := zsk l e j hlt
      rw [zpd _ _ _ _ _ hlt, hpos, Nat.zero_add]
      cases hr : l[j].rc with
      | true =>
        obtain ⟨t, ht, hti⟩ := a2 hr
        rw [hr, if_pos rfl] at hfs
        rw [ht, hfs]
        refine ⟨by rw [List.length_append]; simp only [List.length_cons, List.length_nil]; omega, fun i x hx => ?_⟩
        rcases Nat.lt_or_ge i (tyL (vwOf b base l e) 9000 0 (l.take j)).length with h | h
        · rw [List.getElem?_append_left h] at hx; exact i2 i x hx
        · rw [List.getElem?_append_right h] at hx
          match hi : i - (tyL (vwOf b base l e) 9000 0 (l.take j)).length, hx with
          | 0, hx =>
            simp only [List.getElem?_cons_zero, Option.some.injEq] at hx
            subst hx
            rw [show e + (i : Int) = finL e (l.take j) by omega]; exact a1
          | 1, hx =>
            simp only [List.getElem?_cons_succ, List.getElem?_cons_zero, Option.some.injEq] at hx
            subst hx
            rw [show e + (i : Int) = finL e (l.take j) + 1 by omega]; exact hti
          | q + 2, hx => simp at hx
      | false =>
        rw [hr, if_neg (by simp)] at hfs
        rw [a3 hr, hfs]
        refine ⟨by rw [List.length_append]; simp only [List.length_cons, List.length_nil]; omega, fun i x hx => ?_⟩
        rcases Nat.lt_or_ge i (tyL (vwOf b base l e) 9000 0 (l.take j)).length with h | h
        · rw [List.getElem?_append_left h] at hx; exact i2 i x hx
        · rw [List.getElem?_append_right h] at hx
          match hi : i - (tyL (vwOf b base l e) 9000 0 (l.take j)).length, hx with
          | 0, hx =>
            simp only [List.getElem?_cons_zero, Option.some.injEq] at hx
            subst hx
            rw [show e + (i : Int) = finL e (l.take j) by omega]; exact a1
          | q + 1, hx => simp at hx
  have := go l.length (Nat.le_refl _)
  rw [List.take_length] at this
  exact ⟨this.1, fun i h => this.2 i _ (List.getElem?_eq_getElem h)⟩
theorem zI6 {l : List Ar} {e : Int} (e0 : 0 ≤ e) (e1 : e ≤ 100) (hl : l.length ≤ 20) : ∀ y ∈ (posL e l).map (fun p => lv p (finL e l)), In8 y (finL e l) := fun y hy => by
  obtain ⟨p, hp, rfl⟩ := List.mem_map.1 hy
  obtain ⟨j, hj, rfl⟩ := List.mem_iff_getElem.1 hp
  have hj' : j < l.length := by rw [zgm] at hj; exact hj
  have h1 := zAu l e hj' (Nat.le_refl _)
  rw [List.take_length] at h1
  have h2 := zp7 (l.take j) e
  have h3 := zp7 l e
  rw [zyp]
  exact zyy (by omega) (by omega) (by omega)
theorem zNx {n V : Int} (h0 : 0 ≤ n) (h1 : n < 65536) : In8 (tC n) V := ⟨zUx h1, zDf ⟨h0, by omega⟩⟩
theorem zSn {b : Bl} (fb : FineBl b) (hf : Fit b) {base k : Int} (hp : zbl 9000 b base = 0) (b1 : base ≤ 60000) {so : So} (k0 : 0 ≤ k) (hk : b.sorts[k.toNat]? = some so) : In8 (motT b base k so) k ∧ ((motL b base k so).length : Int) = finL 0 so.idx + 1 := by
  obtain ⟨hz, b0, _, hpos⟩ := zcd hp
  obtain ⟨z1, z4, z8, zl, zs, zc⟩ := (za2 b).1 hz
  obtain ⟨hlt, hS⟩ := List.getElem?_eq_some_iff.1 hk
  have fs := fb.sorts _ (List.getElem_mem hlt)
  have hsm := zs _ hlt
  rw [hS] at fs hsm
  obtain ⟨hrow, _, _, hbad⟩ := (zbt _ _ _).1 hsm
  have hfs := hf.s
  have R : Row8 b base so.idx k 0 := ⟨hf, b0, b1, fs.idx, hrow, zxa hpos hk, k0, by omega, fun c hc => by omega, fun a ha hr => by
    have := hbad a ha
    rw [zew, if_pos hr] at this
    split at this
    · cases this
    · split at this
      · cases this
      · omega⟩
  obtain ⟨t1, t2⟩ := zOf R
  have hil := fs.idx.1
  have hfl := zp7 so.idx k
  have hfi := zit hf b0 (by omega : base ≤ 65535) k
  rw [if_pos ⟨k0, by omega⟩] at hfi
  have hSp : In8 (spT (tC (zbe b base k)) ((posL k so.idx).map fun p => lv p (finL k so.idx))) (finL k so.idx) := zp8 (zNx (by omega) (by omega)) (zI6 k0 (by omega) hil)
  have hU : ∀ V : Int, In8 (.mk 2 b.elim []) V := fun V => by
    rw [zjb, Bool.and_eq_true, decide_eq_true_eq, decide_eq_true_eq] at zl
    refine ⟨by rw [wiT, if_neg (by decide), if_pos rfl]; simpa using zl.2, ?_⟩
    have h0 : zdy 2 = 0 := rfl
    rw [zaz, h0, (zdw _ _ _).2 ⟨zl.1, by omega⟩]
    rfl
  have hsh : ∀ (l : List Ar) (e : Int), finL e l = e + finL 0 l := by
    intro l
    induction l with
    | nil => intro e; simp [finL]
    | cons a l ih =>
      intro e
      rw [finL, finL, ih, ih (if a.rc then 0 + 2 else 0 + 1)]
      split <;> omega
  refine ⟨?_, ?_⟩
  · rw [zOk]
    refine zz2 (fun i hi => ?_) (hU _)
    have hgi := List.getElem?_eq_getElem hi
    generalize (motL b base k so)[i] = y at hgi ⊢
    rw [motL] at hgi
    rcases Nat.lt_or_ge i (tyL (vwOf b base so.idx k) 9000 0 so.idx).length with h | h
    · rw [List.getElem?_append_left h, List.getElem?_eq_getElem h] at hgi
      cases hgi
      exact t2 i h
    · rw [List.getElem?_append_right h] at hgi
      match hi2 : i - (tyL (vwOf b base so.idx k) 9000 0 so.idx).length, hgi with
      | 0, hgi =>
        simp only [List.getElem?_cons_zero, Option.some.injEq] at hgi
        subst hgi
        rw [show k + (i : Int) = finL k so.idx by omega]
        exact hSp
      | q + 1, hgi => simp at hgi
  · rw [motL, List.length_append, List.length_singleton]
    have := hsh so.idx k
    omega
theorem zRw : ∀ (l : List Ar) (e : Int), finL e l = e + finL 0 l := by
  intro l
  induction l with
  | nil => intro e; simp [finL]
  | cons a l ih =>
    intro e
    rw [finL, finL, ih, ih (if a.rc then 0 + 2 else 0 + 1)]
    split <;> omega
theorem zSa {b : Bl} (fb : FineBl b) (hf : Fit b) {base c : Int} (hp : zbl 9000 b base = 0) (b1 : base ≤ 60000) (k0 : 0 ≤ c) {S : Co} (hk : b.cons[c.toNat]? = some S) {so : So} (hso : b.sorts[S.sort.toNat]? = some so) : In8 (metT b base c S so) (b.sorts.length + c) ∧ ((tyL (metV b base c S) 9000 0 S.args).length : Int) = finL 0 S.args := by
  obtain ⟨hz, b0, _, hpos⟩ := zcd hp
  obtain ⟨z1, z4, z8, zl, zs, zc⟩ := (za2 b).1 hz
  obtain ⟨hlt, hS⟩ := List.getElem?_eq_some_iff.1 hk
  obtain ⟨hsg, so1, hso1, hig⟩ := zvj hpos hk
  have fs := fb.cons _ (List.getElem_mem hlt)
  have hcon := zc _ (List.getElem_mem hlt)
  rw [hS] at fs hcon
  obtain ⟨hrow, s0, so2, hso2, hil2⟩ := zj1 hcon
  rw [hso] at hso1 hso2
  cases hso1
  cases hso2
  rw [show ((c.toNat : Nat) : Int) = c by omega] at hsg hig
  have hsl := (List.getElem?_eq_some_iff.1 hso).1
  have hal := fs.args.1
  have hfs := hf.s
  have hfc := hf.c
  have R : Row8 b base S.args (b.sorts.length + c) c := ⟨hf, b0, b1, fs.args, hrow, hsg, by omega, by omega, fun c' hc => by omega, fun a ha hr => by
    obtain ⟨j, hj, rfl⟩ := List.mem_iff_getElem.1 ha
    have := zf8 ((zi7 hrow).2 j hj) hr (by omega) (by omega)
    omega⟩
  obtain ⟨t1, t2⟩ := zOf R
  have hfl := zp7 S.args (b.sorts.length + c)
  have hfa := zRw S.args (b.sorts.length + c)
  have hfi := zcl hf b0 (by omega : base ≤ 65535) c
  rw [if_pos ⟨k0, by omega⟩] at hfi
  have hdl := zfu b.sorts
  have Sc := zIr (base := base) (l := S.args) R.e0 R.top S.args.length (Nat.le_refl _) (vars := finL (b.sorts.length + c) S.args) (by rw [List.take_length]; omega)
  have hig' : indF 9000 (plV (vwOf b base S.args (b.sorts.length + c)) S.args.length 0) so S.idx c = true := by
    have e : plV (vwOf b base S.args (b.sorts.length + c)) S.args.length 0 = ⟨b, base, S.args, 0⟩ := by simp only [plV, vwOf, List.take_length]
    rw [e]; exact hig
  have hJ := zN8 Sc (Nat.le_refl _) (Int.le_refl 0) (by omega) (by omega) (by omega) 9000 so S.idx hil2 (fun x hx => by
    have hnx : zac x ≤ 9000 := Nat.le_trans (zcg (List.mem_map.2 ⟨_, hx, rfl⟩)) fs.idx
    have hf2 := zcc (zAz hcon hx) (by omega) (by omega) (by omega)
    exact ⟨hf2.2.1, hnx, by omega, by rw [Int.add_zero]; exact hf2.1⟩) hig'
  rw [Int.add_zero] at hJ
  refine ⟨?_, by have : (tyL (metV b base c S) 9000 0 S.args).length = (tyL (vwOf b base S.args (b.sorts.length + c)) 9000 0 S.args).length := rfl; omega⟩
  have e3 : metT b base c S so = zbu 4 (tyL (vwOf b base S.args (b.sorts.length + c)) 9000 0 S.args) (metB b base c S so) := rfl
  rw [e3]
  refine zz2 t2 ?_
  rw [t1]
  refine zp8 (zyy s0 (by show S.sort < finL _ _; omega) (by show finL _ _ ≤ _; omega)) fun y hy => ?_
  rcases List.mem_append.1 hy with hy | hy
  · exact hJ y hy
  · rw [List.mem_singleton] at hy
    subst hy
    exact zp8 (zNx (by omega) (by omega)) (zI6 R.e0 R.e1 hal)
end
section
section
attribute [local simp] zae zaf tk tn tks zb1 zcb za9 zba zbb zbz
set_option maxHeartbeats 8000000 in
end
end
section
section
attribute [local simp] zae zaf tk tn tks zb1 zcb za9 zba zbb zbz
set_option maxHeartbeats 8000000 in
end
end
section
section
theorem znx (v : Vw) {t : T} (ft : zab t = true) (first : Nat) (more vars : Int) : zac (putT v t first more vars) = zac t :=
  zpf _ (fun n b => by rw [putF]; split <;> exact zaq _ _) t ft 0
theorem zTr {t : T} (ft : zab t = true) : ((spA t).map zac).sum + (spA t).length + zac (spH t) = zac t := by
  have h := (zM0 t ft).1
  have h2 := zd4 (spA t).reverse (spH t)
  rw [h, List.length_reverse, List.map_reverse, List.sum_reverse] at h2
  omega
theorem zE3 {pt sh : T → T} {K : Nat} : ∀ (ar : List Ar) (xs : List T), (∀ x ∈ xs, zac (pt x) = zac x) → (∀ (i : Nat) (h : i < ar.length) (h' : i < xs.length), ar[i].rc = true → zac (sh xs[i]) ≤ K * zac xs[i]) →
    ((shA pt sh ar xs).map zac).sum + (shA pt sh ar xs).length ≤ (K + 2) * ((xs.map zac).sum + xs.length)
  | [], xs, _, _ => by simp [shA]
  | a :: ar, [], _, _ => by simp [shA]
  | a :: ar, x :: xs, hp, hs => by
    have ih := zE3 ar xs (fun y hy => hp y (by simp [hy])) fun i h h' hr => by
      have := hs (i + 1) (by simpa using h) (by simpa using h') (by simpa using hr)
      simpa only [List.getElem_cons_succ] using this
    have h0 := hp x (by simp)
    have e1 : (K + 2) * (((x :: xs).map zac).sum + (x :: xs).length) = (K + 2) * (zac x + 1) + (K + 2) * ((xs.map zac).sum + xs.length) := by
      rw [← Nat.mul_add]; simp only [List.map_cons, List.sum_cons, List.length_cons]; congr 1; omega
    have e2 : (K + 2) * (zac x + 1) = K * zac x + K + 2 * zac x + 2 := by
      rw [Nat.add_mul, Nat.mul_succ]; omega
    rw [e1, e2, shA]
    cases hr : a.rc with
    | true =>
      have h1 := hs 0 (by simp) (by simp) (by simpa using hr)
      simp only [List.getElem_cons_zero] at h1
      simp only [if_true, List.map_cons, List.sum_cons, List.length_cons]
      omega
    | false =>
      simp only [Bool.false_eq_true, if_false, List.map_cons, List.sum_cons, List.length_cons]
      omega
theorem zJn (v : Vw) (first : Nat) (more vars : Int) : ∀ (n : Nat) (t : T), zab t = true → zac t ≤ n → zac (shT v first more vars n t) ≤ (2 * n) * zac t := by
  intro n
  induction n with
  | zero => intro t _ h; have := zf0 t; omega
  | succ n ih =>
    intro t ft hn
    have m1 := (zh0 t).1
    obtain ⟨fH, fA⟩ := zh1 t ft
    have hs := zTr ft
    have hHp := zf0 (spH t)
    have hm : ∀ x ∈ (spA t).reverse, zac x < zac t ∧ zab x = true := fun x hx => ⟨m1 x (by simpa using hx), fA x (by simpa using hx)⟩
    have hrs : ((spA t).reverse.map zac).sum = ((spA t).map zac).sum := by rw [List.map_reverse, List.sum_reverse]
    have e0 : 2 * (n + 1) * zac t = 2 * n * zac t + 2 * zac t := by
      rw [show 2 * (n + 1) = 2 * n + 2 by omega, Nat.add_mul]
    rw [shT]
    split
    · rw [zd4, List.map_map, List.length_map, List.length_reverse]
      have : ((spA t).reverse.map (zac ∘ fun x => putT v x first more vars)).sum = ((spA t).map zac).sum := by
        rw [← hrs]
        congr 1
        exact List.map_congr_left fun x hx => znx v (hm x hx).2 first more vars
      rw [this, show zac (lv _ _) = 1 from zaq _ _, e0]
      omega
    · rw [zd4, show zac (lv _ _) = 1 from zaq _ _, e0]
      split
      · rename_i c hc
        have h1 := zE3 (pt := fun x => putT v x first more vars) (sh := shT v first more vars n) (K := 2 * n) c.args (spA t).reverse (fun x hx => znx v (hm x hx).2 first more vars) fun i h h' hr => by
          obtain ⟨x1, x2⟩ := hm _ (List.getElem_mem h')
          exact ih _ x2 (by omega)
        rw [hrs, List.length_reverse] at h1
        have h2 : (2 * n + 2) * (((spA t).map zac).sum + (spA t).length) ≤ (2 * n + 2) * (zac t - 1) := Nat.mul_le_mul_left _ (by omega)
        have h3 : (2 * n + 2) * (zac t - 1) + (2 * n + 2) = (2 * n + 2) * zac t := by
          rw [← Nat.mul_succ]; congr 1; omega
        have h4 : (2 * n + 2) * zac t = 2 * n * zac t + 2 * zac t := by rw [Nat.add_mul]
        omega
      · simp only [List.map_nil, List.sum_nil, List.length_nil]
        omega
theorem zB7 (v : Vw) (so : So) {l : List T} (hl : ∀ x ∈ l, zab x = true ∧ zac x ≤ 9000) (hs : (l.map zac).sum ≤ 9000) (hn : l.length ≤ 60) (first : Nat) (more vars : Int) : ((inT v 9000 so l first more vars).map zac).sum + (inT v 9000 so l first more vars).length ≤ 200000000 := by
  have h1 := zE3 (pt := fun x => putT v x first more vars) (sh := shT v first more vars 9000) (K := 2 * 9000) so.idx l (fun x hx => znx v (hl x hx).1 first more vars) fun i h h' hr => by
    obtain ⟨x1, x2⟩ := hl _ (List.getElem_mem h')
    exact zJn v first more vars 9000 _ x1 x2
  rw [inT]
  omega
theorem zLj (v : Vw) (first : Nat) (vars : Int) : ∀ (l : List T) (j : Nat), (∀ x ∈ l, zab x = true) → ((dmP v first vars j l).map zac).sum = (l.map zac).sum
  | [], _, _ => rfl
  | d :: ds, j, h => by
    rw [dmP, List.map_cons, List.map_cons, List.sum_cons, List.sum_cons, znx v (h d (by simp)), zLj v first vars ds (j + 1) fun x hx => h x (by simp [hx])]
theorem zpj {α : Type} (f : α → T) (h : ∀ x, zac (f x) = 1) : ∀ l : List α, ((l.map f).map zac).sum = l.length
  | [] => rfl
  | x :: xs => by rw [List.map_cons, List.map_cons, List.sum_cons, h x, zpj f h xs, List.length_cons]; omega
theorem zK5 {b : Bl} {base e cons : Int} {l : List Ar} (R : Row8 b base l e cons) (i : Nat) (hi : i < l.length) (p : Int) : ((tyA (vwOf b base l e) 9000 i p l[i]).map zac).sum + (tyA (vwOf b base l e) 9000 i p l[i]).length ≤ 300000000 := by
  obtain ⟨hr1, hr2⟩ := zi7 R.row
  have fa := R.fine.2 _ (List.getElem_mem hi)
  have hA := zmr R.fit R.b0 R.b1 fa (by omega) (hr2 i hi)
  have hAn := zkb (b := b) (base := base) fa
  rw [tyA, List.map_cons, List.sum_cons, List.length_cons, show (vwOf b base l e).b = b from rfl, show (vwOf b base l e).base = base from rfl, znx _ hA.2]
  cases hr : l[i].rc with
  | false => simp only [Bool.false_eq_true, if_false, List.map_nil, List.sum_nil, List.length_nil]; omega
  | true =>
    obtain ⟨_, s0, s1, d1, ⟨so, hso, hil⟩, hd, hx⟩ := zf8 (hr2 i hi) hr (by omega) (by omega)
    have hxs : ∀ x ∈ l[i].idx, zab x = true ∧ zac x ≤ 9000 := fun x hxm => by
      have hnx : zac x ≤ 9000 := Nat.le_trans (zcg (List.mem_map.2 ⟨_, hxm, rfl⟩)) fa.idx
      exact ⟨(zcc (hx x hxm) (by omega) (by omega) (by omega)).2.1, hnx⟩
    have hds : ∀ x ∈ l[i].dom, zab x = true := fun x hxm => by
      obtain ⟨j, hj, rfl⟩ := List.mem_iff_getElem.1 hxm
      have hnx : zac l[i].dom[j] ≤ 9000 := Nat.le_trans (zcg (List.mem_map.2 ⟨_, List.getElem_mem hj, rfl⟩)) fa.dom
      exact (zcc (hd j hj) (by omega) (by omega) (by omega)).2.1
    have hI := zB7 (vwOf b base l e) so hxs fa.idx fa.idxL i l[i].dom.length (p + 1)
    have hdom := fa.dom
    have hV : ((zc8 l[i].dom.length).map zac).sum = l[i].dom.length := by
      have := zpj (fun (j : Nat) => tV ((l[i].dom.length : Int) - 1 - (j : Int))) (fun j => zaq _ _) (List.range l[i].dom.length)
      rwa [List.length_range] at this
    have hVl := zj3 l[i].dom.length
    simp only [if_true, List.map_cons, List.map_nil, List.sum_cons, List.sum_nil, List.length_cons, List.length_nil, hso]
    rw [zlh, zLj _ _ _ _ _ hds, zn4, zd4, List.map_append, List.sum_append, List.length_append, List.map_cons, List.map_nil, List.sum_cons, List.sum_nil, zd4, hV, hVl,
      show zac (lv _ _) = 1 from zaq _ _, show zac (lv _ _) = 1 from zaq _ _, List.length_singleton]
    omega
theorem zBk {b : Bl} {base e cons : Int} {l : List Ar} (R : Row8 b base l e cons) : ((tyL (vwOf b base l e) 9000 0 l).map zac).sum + (tyL (vwOf b base l e) 9000 0 l).length ≤ 300000000 * l.length := by
  have go : ∀ j, j ≤ l.length → ((tyL (vwOf b base l e) 9000 0 (l.take j)).map zac).sum + (tyL (vwOf b base l e) 9000 0 (l.take j)).length ≤ 300000000 * j := by
    intro j
    induction j with
    | zero => intro _; simp [tyL]
    | succ j ih =>
      intro hj
      have hlt : j < l.length := by omega
      have h1 := zK5 R j hlt (((vwOf b base l e).pos[0 + j]?).getD 0)
      have h2 := ih (by omega)
      rw [zpd _ _ _ _ _ hlt, List.map_append, List.sum_append, List.length_append]
      rw [show 0 + j = j by omega] at h1 ⊢
      omega
  have := go l.length (Nat.le_refl _)
  rwa [List.take_length] at this
end
end
section
section
attribute [local simp] zae zaf tk tn tks zb1 zcb za9 zba zbb zbz
theorem zFm {b : Bl} (fb : FineBl b) (hf : Fit b) {base k : Int} (hp : zbl 9000 b base = 0) (b1 : base ≤ 60000) {so : So} (k0 : 0 ≤ k) (hk : b.sorts[k.toNat]? = some so) : Row8 b base so.idx k 0 := by
  obtain ⟨hz, b0, _, hpos⟩ := zcd hp
  obtain ⟨z1, z4, z8, zl, zs, zc⟩ := (za2 b).1 hz
  obtain ⟨hlt, hS⟩ := List.getElem?_eq_some_iff.1 hk
  have fs := fb.sorts _ (List.getElem_mem hlt)
  have hsm := zs _ hlt
  rw [hS] at fs hsm
  obtain ⟨hrow, _, _, hbad⟩ := (zbt _ _ _).1 hsm
  have hfs := hf.s
  exact ⟨hf, b0, b1, fs.idx, hrow, zxa hpos hk, k0, by omega, fun c hc => by omega, fun a ha hr => by
    have := hbad a ha
    rw [zew, if_pos hr] at this
    split at this
    · cases this
    · split at this
      · cases this
      · omega⟩
theorem zJw (l : List Ar) (e V : Int) : (((posL e l).map fun p => lv p V).map zac).sum = l.length := by
  rw [zpj (fun p => lv p V) (fun p => zaq _ _), zgm]
theorem zK9 {b : Bl} (fb : FineBl b) (hf : Fit b) {base k : Int} (hp : zbl 9000 b base = 0) (b1 : base ≤ 60000) {so : So} (k0 : 0 ≤ k) (hk : b.sorts[k.toNat]? = some so) : zac (motT b base k so) ≤ 1099511627776 := by
  have R := zFm fb hf hp b1 k0 hk
  have h := zBk R
  have hl := R.fine.1
  have hm : 300000000 * so.idx.length ≤ 300000000 * 20 := Nat.mul_le_mul_left _ hl
  rw [zOk, zlh, motL, List.map_append, List.sum_append, List.length_append, List.map_cons, List.map_nil, List.sum_cons, List.sum_nil, zd4, zJw, List.length_map, zgm, List.length_singleton,
    show zac (tC _) = 1 from zaq _ _, zaq]
  omega
theorem zI8 {b : Bl} (fb : FineBl b) (hf : Fit b) {base c : Int} (hp : zbl 9000 b base = 0) (b1 : base ≤ 60000) (k0 : 0 ≤ c) {S : Co} (hk : b.cons[c.toNat]? = some S) {so : So} (hso : b.sorts[S.sort.toNat]? = some so) : zac (metT b base c S so) ≤ 1099511627776 := by
  obtain ⟨hz, b0, _, hpos⟩ := zcd hp
  obtain ⟨z1, z4, z8, zl, zs, zc⟩ := (za2 b).1 hz
  obtain ⟨hlt, hS⟩ := List.getElem?_eq_some_iff.1 hk
  obtain ⟨hsg, so1, hso1, hig⟩ := zvj hpos hk
  have fs := fb.cons _ (List.getElem_mem hlt)
  have hcon := zc _ (List.getElem_mem hlt)
  rw [hS] at fs hcon
  obtain ⟨hrow, s0, so2, hso2, hil2⟩ := zj1 hcon
  rw [hso] at hso1 hso2
  cases hso1
  cases hso2
  rw [show ((c.toNat : Nat) : Int) = c by omega] at hsg hig
  have hsl := (List.getElem?_eq_some_iff.1 hso).1
  have hal := fs.args.1
  have hfs := hf.s
  have hfc := hf.c
  have R : Row8 b base S.args (b.sorts.length + c) c := ⟨hf, b0, b1, fs.args, hrow, hsg, by omega, by omega, fun c' hc => by omega, fun a ha hr => by
    obtain ⟨j, hj, rfl⟩ := List.mem_iff_getElem.1 ha
    have := zf8 ((zi7 hrow).2 j hj) hr (by omega) (by omega)
    omega⟩
  have h := zBk R
  have hm : 300000000 * S.args.length ≤ 300000000 * 20 := Nat.mul_le_mul_left _ hal
  have hI := zB7 (metV b base c S) so (l := S.idx) (fun x hx => by
    have hnx : zac x ≤ 9000 := Nat.le_trans (zcg (List.mem_map.2 ⟨_, hx, rfl⟩)) fs.idx
    exact ⟨(zcc (zAz hcon hx) (by omega) (by omega) (by omega)).2.1, hnx⟩) fs.idx fs.idxL S.args.length 0 (metV b base c S).fin
  have e3 : metT b base c S so = zbu 4 (tyL (vwOf b base S.args (b.sorts.length + c)) 9000 0 S.args) (metB b base c S so) := rfl
  have e4 : (metV b base c S).pos = posL (b.sorts.length + c) S.args := rfl
  rw [e3, zlh, metB, zd4, List.map_append, List.sum_append, List.length_append, List.map_cons, List.map_nil, List.sum_cons, List.sum_nil, zd4, e4, zJw, List.length_map, zgm, List.length_singleton,
    show zac (tC _) = 1 from zaq _ _, show zac (lv _ _) = 1 from zaq _ _]
  omega
set_option maxHeartbeats 8000000 in
end
end
section
section
structure ChB (f : Int → Int) (b b' : Bl) (base base' : Int) (m : Int) : Prop where
  s : b'.sorts = b.sorts.map (mvS f)
  of : ∀ c : Int, (ofM b base c).1 = 5 → (ofM b base c).2 < m → ofM b' base' (f c) = ofM b base c
  con : ∀ j : Nat, (j : Int) < m → b'.cons[j]? = (b.cons[j]?).map (mvC f)
  fo : ∀ k : Int, 0 ≤ k → k < b.sorts.length → zbe b' base' k = f (zbe b base k)
  fm : ∀ k : Int, 0 ≤ k → k < b.sorts.length → fmT b' base' k = rnT f (fmT b base k)
  co : ∀ c : Int, 0 ≤ c → c < m → zao b' base' c = f (zao b base c)
  el : b'.elim = b.elim
variable {f : Int → Int} {b b' : Bl} {base base' m : Int}
theorem zwi (f : Int → Int) : ∀ (l : List Ar) (e : Int), posL e (l.map (mvA f)) = posL e l ∧ finL e (l.map (mvA f)) = finL e l
  | [], e => ⟨rfl, rfl⟩
  | a :: l, e => by
    have hr : (mvA f a).rc = a.rc := rfl
    constructor
    · rw [List.map_cons, posL, posL, hr, (zwi f l _).1]
    · rw [List.map_cons, finL, finL, hr, (zwi f l _).2]
theorem zUo (B : ChB f b b' base base' m) (l : List Ar) (e cons : Int) (hc : cons ≤ m) : Ch f (vwOf b base l e) (vwOf b' base' (l.map (mvA f)) e) cons := by
  refine ⟨(zwi f l e).1, rfl, ?_, fun c h5 hlt => B.of c h5 (by have : (ofM b base c).2 < cons := hlt; omega), fun j hj => B.con j (by omega)⟩
  show b'.sorts.length = b.sorts.length
  rw [B.s, List.length_map]
theorem zMw (B : ChB f b b' base base' m) {a : Ar} (ha : a.rc = true → 0 ≤ a.sort ∧ a.sort < b.sorts.length) : zcn b' base' (mvA f a) = rnT f (zcn b base a) := by
  rw [zcn, zcn, show (mvA f a).rc = a.rc from rfl]
  cases hr : a.rc with
  | false => rfl
  | true =>
    rw [if_pos rfl, if_pos rfl, zv8 f 4 (by decide), zsd]
    obtain ⟨s0, s1⟩ := ha hr
    have := B.fm a.sort s0 s1
    show zbu 4 (a.dom.map (rnT f)) (spT (fmT b' base' a.sort) (a.idx.map (rnT f))) = _
    rw [this]
theorem zNm (f : Int → Int) (n : Nat) : (zc8 n).map (rnT f) = zc8 n := by
  rw [zc8, List.map_map]
  exact List.map_congr_left fun i _ => zCs f _
theorem zT8 (B : ChB f b b' base base' m) {l : List Ar} {e cons : Int} (R : Row8 b base l e cons) (hc : cons ≤ m) (i : Nat) (hi : i < l.length) (p : Int) :
    tyA (vwOf b' base' (l.map (mvA f)) e) 9000 i p (mvA f l[i]) = (tyA (vwOf b base l e) 9000 i p l[i]).map (rnT f) := by
  have H := zUo B l e cons hc
  obtain ⟨hr1, hr2⟩ := zi7 R.row
  have fa := R.fine.2 _ (List.getElem_mem hi)
  have hlen := R.fine.1
  have hrec := fun hr => zf8 (hr2 i hi) hr (by omega) (by omega)
  rw [tyA, tyA, show (mvA f l[i]).rc = l[i].rc from rfl, List.map_cons]
  have hA : zcn (vwOf b' base' (l.map (mvA f)) e).b (vwOf b' base' (l.map (mvA f)) e).base (mvA f l[i]) = rnT f (zcn (vwOf b base l e).b (vwOf b base l e).base l[i]) := zMw B fun hr => ⟨(hrec hr).2.1, (hrec hr).2.2.1⟩
  rw [hA, zDb H]
  congr 1
  cases hr : l[i].rc with
  | false => rfl
  | true =>
    obtain ⟨_, s0, s1, d1, ⟨so, hso, hil⟩, hd, hx⟩ := hrec hr
    have hg := (zan _ _ _).1 R.good i hi
    rw [Nat.zero_add, argF, if_pos hr, hso, Bool.and_eq_true] at hg
    have hso' : (vwOf b base l e).b.sorts[l[i].sort.toNat]? = some so := hso
    have hso2 : (vwOf b' base' (l.map (mvA f)) e).b.sorts[(mvA f l[i]).sort.toNat]? = some (mvS f so) := by
      show b'.sorts[l[i].sort.toNat]? = _
      rw [B.s, List.getElem?_map, hso]; rfl
    rw [if_pos rfl, if_pos rfl, hso', hso2]
    have hxs : ∀ x ∈ l[i].idx, zab x = true ∧ zac x ≤ 9000 := fun x hxm => by
      have hnx : zac x ≤ 9000 := Nat.le_trans (zcg (List.mem_map.2 ⟨_, hxm, rfl⟩)) fa.idx
      exact ⟨(zcc (hx x hxm) (by omega) (by omega) (by omega)).2.1, hnx⟩
    have hdl : (mvA f l[i]).dom = l[i].dom.map (rnT f) := rfl
    have hxl : (mvA f l[i]).idx = l[i].idx.map (rnT f) := rfl
    have hsl : (mvA f l[i]).sort = l[i].sort := rfl
    have hI := zU2 H i l[i].dom.length (p + 1) 9000 so (mvS f so) rfl l[i].idx hxs hil hg.2
    rw [List.map_cons, List.map_nil, zv8 f 4 (by decide), zsd, List.map_append, List.map_cons, List.map_nil, zsd, zNm, hdl, hxl, hsl, List.length_map, zU0 H]
    dsimp only
    rw [hI, show rnT f (lv l[i].sort (p + 1 + l[i].dom.length)) = lv l[i].sort (p + 1 + l[i].dom.length) from zCs f _, show rnT f (lv p (p + 1 + l[i].dom.length)) = lv p (p + 1 + l[i].dom.length) from zCs f _]
theorem zOe (B : ChB f b b' base base' m) {l : List Ar} {e cons : Int} (R : Row8 b base l e cons) (hc : cons ≤ m) : tyL (vwOf b' base' (l.map (mvA f)) e) 9000 0 (l.map (mvA f)) = (tyL (vwOf b base l e) 9000 0 l).map (rnT f) := by
  have hp : (vwOf b' base' (l.map (mvA f)) e).pos = (vwOf b base l e).pos := (zwi f l e).1
  have go : ∀ j, j ≤ l.length → tyL (vwOf b' base' (l.map (mvA f)) e) 9000 0 ((l.map (mvA f)).take j) = (tyL (vwOf b base l e) 9000 0 (l.take j)).map (rnT f) := by
    intro j
    induction j with
    | zero => intro _; rfl
    | succ j ih =>
      intro hj
      have hlt : j < l.length := by omega
      have hlt' : j < (l.map (mvA f)).length := by rw [List.length_map]; omega
      rw [zpd _ _ _ _ _ hlt', zpd _ _ _ _ _ hlt, List.map_append, ih (by omega), hp, Nat.zero_add, List.getElem_map, zT8 B R hc j hlt]
  have := go l.length (Nat.le_refl _)
  rwa [List.take_of_length_le (by rw [List.length_map]; exact Nat.le_refl _), List.take_length] at this
theorem zOv (f : Int → Int) (l : List Int) (V : Int) : (l.map fun p => lv p V).map (rnT f) = l.map fun p => lv p V := by
  rw [List.map_map]
  exact List.map_congr_left fun p _ => zCs f _
theorem zUr (B : ChB f b b' base base' m) (h0 : 0 ≤ m) (fb : FineBl b) (hf : Fit b) (hp : zbl 9000 b base = 0) (b1 : base ≤ 60000) {k : Int} {so : So} (k0 : 0 ≤ k) (hk : b.sorts[k.toNat]? = some so) : motT b' base' k (mvS f so) = rnT f (motT b base k so) := by
  have R := zFm fb hf hp b1 k0 hk
  have hlt := (List.getElem?_eq_some_iff.1 hk).1
  have hi : (mvS f so).idx = so.idx.map (mvA f) := rfl
  rw [motT, motT, zv8 f 4 (by decide), hi, zOe B R h0, (zwi f so.idx k).1, (zwi f so.idx k).2, zpt, if_neg (by decide), List.map_cons, List.map_cons, List.map_nil, zsd, zOv, B.fo k k0 (by omega), B.el,
    show rnT f (tC (zbe b base k)) = tC (f (zbe b base k)) by rw [tC, zpt, if_pos rfl]; rfl, zpt, if_neg (by decide)]
  rfl
theorem zAe (fb : FineBl b) (hf : Fit b) (hp : zbl 9000 b base = 0) (b1 : base ≤ 60000) {c : Nat} {S : Co} (hk : b.cons[c]? = some S) : Row8 b base S.args (b.sorts.length + c) c ∧ 0 ≤ S.sort ∧ ∃ so, b.sorts[S.sort.toNat]? = some so ∧ S.idx.length = so.idx.length ∧ indF 9000 ⟨b, base, S.args, 0⟩ so S.idx c = true ∧ ∀ x ∈ S.idx, zab x = true ∧ zac x ≤ 9000 := by
  obtain ⟨hz, b0, _, hpos⟩ := zcd hp
  obtain ⟨z1, z4, z8, zl, zs, zc⟩ := (za2 b).1 hz
  obtain ⟨hlt, hS⟩ := List.getElem?_eq_some_iff.1 hk
  obtain ⟨hsg, so1, hso1, hig⟩ := zvj hpos hk
  have fs := fb.cons _ (List.getElem_mem hlt)
  have hcon := zc _ (List.getElem_mem hlt)
  rw [hS] at fs hcon
  obtain ⟨hrow, s0, so2, hso2, hil2⟩ := zj1 hcon
  rw [hso1] at hso2
  cases hso2
  have hal := fs.args.1
  have hfs := hf.s
  have hfc := hf.c
  refine ⟨⟨hf, b0, b1, fs.args, hrow, hsg, by omega, by omega, fun c' hc => by omega, fun a ha hr => ?_⟩, s0, so1, hso1, hil2, hig, fun x hx => ?_⟩
  · obtain ⟨j, hj, rfl⟩ := List.mem_iff_getElem.1 ha
    have := zf8 ((zi7 hrow).2 j hj) hr (by omega) (by omega)
    omega
  · have hnx : zac x ≤ 9000 := Nat.le_trans (zcg (List.mem_map.2 ⟨_, hx, rfl⟩)) fs.idx
    exact ⟨(zcc (zAz hcon hx) (by omega) (by omega) (by omega)).2.1, hnx⟩
theorem zUl (B : ChB f b b' base base' m) (fb : FineBl b) (hf : Fit b) (hp : zbl 9000 b base = 0) (b1 : base ≤ 60000) {c : Nat} (hcm : (c : Int) < m) {S : Co} (hk : b.cons[c]? = some S) {so : So} (hso : b.sorts[S.sort.toNat]? = some so) : metT b' base' c (mvC f S) (mvS f so) = rnT f (metT b base c S so) := by
  obtain ⟨R, s0, so1, hso1, hil, hig, hx⟩ := zAe fb hf hp b1 hk
  rw [hso] at hso1
  cases hso1
  have H := zUo B S.args (b.sorts.length + c) c (by omega)
  have hi : (mvC f S).args = S.args.map (mvA f) := rfl
  have hsl : b'.sorts.length = b.sorts.length := by rw [B.s, List.length_map]
  have e1 : metV b' base' c (mvC f S) = vwOf b' base' (S.args.map (mvA f)) (b.sorts.length + c) := by rw [metV, hi, hsl]
  have e2 : metV b base c S = vwOf b base S.args (b.sorts.length + c) := rfl
  have ef : (vwOf b' base' (S.args.map (mvA f)) (b.sorts.length + c)).fin = (vwOf b base S.args (b.sorts.length + c)).fin := (zwi f _ _).2
  have hig' : indF 9000 (plV (vwOf b base S.args (b.sorts.length + c)) S.args.length 0) so S.idx c = true := by
    have e : plV (vwOf b base S.args (b.sorts.length + c)) S.args.length 0 = ⟨b, base, S.args, 0⟩ := by simp only [plV, vwOf, List.take_length]
    rw [e]; exact hig
  have hI := zU2 H S.args.length 0 (vwOf b base S.args (b.sorts.length + c)).fin 9000 so (mvS f so) rfl S.idx hx hil hig'
  have hxl : (mvC f S).idx = S.idx.map (rnT f) := rfl
  have hss : (mvC f S).sort = S.sort := rfl
  rw [metT, metT, e1, e2, zv8 f 4 (by decide), hi, zOe B R (by omega), zsd, List.map_append, List.map_cons, List.map_nil, zsd, ef, hxl, hss, List.length_map, hI, H.pos, zOv, B.co c (by omega) hcm,
    show rnT f (tC (zao b base c)) = tC (f (zao b base c)) by rw [tC, zpt, if_pos rfl]; rfl, show rnT f (lv S.sort (vwOf b base S.args (b.sorts.length + c)).fin) = lv S.sort (vwOf b base S.args (b.sorts.length + c)).fin from zCs f _]
end
end
section
section
end
end
section
section
attribute [local simp] zae zaf tk tn tks zb1 zcb za9 zba zbb zbz
end
end
section
section
attribute [local simp] zae zaf tk tn tks zb1 zcb za9 zba zbb zbz
end
end
section
section
theorem In8.mono {t : T} {V W : Int} (h : In8 t V) (hw : V ≤ W) : In8 t W := ⟨zIv t V W hw h.wi, h.fm⟩
theorem zQ1 {o : Int} {n : Nat} {V : Int} (h0 : 0 ≤ V - o - n) (h1 : 0 ≤ o) (h2 : V ≤ 60000) : ∀ x ∈ lvs o n V, In8 x V := fun x hx => by
  simp only [lvs, List.mem_map, List.mem_range] at hx
  obtain ⟨i, hi, rfl⟩ := hx
  exact ⟨zks (by omega), zbm ⟨by omega, by omega⟩⟩
theorem zz9 {o : Int} {n : Nat} {V : Int} {i : Nat} (h : i < n) : ((lvs o n V)[i]?).getD zT = .mk 1 (V - 1 - o - (i : Int)) [] := by
  rw [lvs, List.getElem?_map, List.getElem?_range h]; rfl
theorem zve {b : Bl} {l : List Ar} (hr : rowM b l = true) (fl : zgg l) (hd0 : ∀ a ∈ l, a.rc = true → a.dom = []) {o V : Int} (h0 : 0 ≤ V - o - l.length) (h1 : 0 ≤ o) (V1 : V ≤ 100) (i : Nat) (h : i < l.length) (hrc : l[i].rc = true) (t : T) (ht : t ∈ l[i].idx) :
    In8 (ze0 t ((lvs o l.length V).take i) 0) V ∧ zac (ze0 t ((lvs o l.length V).take i) 0) = zac t ∧ za5 (ze0 t ((lvs o l.length V).take i) 0) = za5 t := by
  have hz := zD6 hr fl hd0 h0 h1 V1 i h hrc t ht
  obtain ⟨hr1, hr2⟩ := zi7 hr
  have fa := fl.2 _ (List.getElem_mem h)
  have hnx : zac t ≤ 9000 := Nat.le_trans (zcg (List.mem_map.2 ⟨_, ht, rfl⟩)) fa.idx
  obtain ⟨_, s0, s1, d1, ⟨so, hso, hil⟩, hd, hx⟩ := zf8 (hr2 i h) hrc (by omega) (by omega)
  have hx1 := hx t ht
  rw [hd0 _ (List.getElem_mem h) hrc, List.length_nil] at hx1
  have hf := zcc hx1 (by omega) (by omega) (by omega)
  have hlen : ((lvs o l.length V).take i).length = i := by rw [List.length_take, zs2]; omega
  have hmem : ∀ x ∈ (lvs o l.length V).take i, ∃ m : Int, x = .mk 1 m [] ∧ 0 ≤ m ∧ m < V := fun x hxm => by
    have := List.mem_of_mem_take hxm
    simp only [lvs, List.mem_map, List.mem_range] at this
    obtain ⟨j, hj, rfl⟩ := this
    exact ⟨_, rfl, by omega, by omega⟩
  have hl : ∀ x ∈ (lvs o l.length V).take i, zaw x = 0 ∧ zac x ≤ 9000 ∧ wiT x V 65536 = true := fun x hxm => by
    obtain ⟨m, rfl, m0, m1⟩ := hmem x hxm
    exact ⟨zCd ⟨m0, by omega⟩, by rw [zaq]; omega, zks (by omega)⟩
  have hw := (zLi (V := V) ⟨by omega, by omega⟩ (u := 0) ⟨by omega, by omega⟩ hf.2.2 hnx hl (by omega) (by rw [Int.zero_add, hlen]; simpa using hf.1)).2 hz
  rw [Int.add_zero] at hw
  have hfm := (zym (by omega) (fun x hxm => by have := (hl x hxm).2.1; omega) hz).2.2
  have hleaf : ∀ n b, ∃ k m : Int, zd7 ((lvs o l.length V).take i) 0 n b = .mk k m [] := fun n b => by
    rw [zd7]
    split
    · split
      · rename_i a ha
        obtain ⟨m, rfl, _, _⟩ := hmem a (List.mem_of_getElem? ha)
        exact ⟨_, _, by rw [zm7, mapT, if_pos rfl]⟩
      · exact ⟨_, _, rfl⟩
    · exact ⟨_, _, rfl⟩
  refine ⟨⟨hw, hfm⟩, ?_, ?_⟩
  · rw [zvx hz]; exact zpf _ (fun n b => by obtain ⟨k, m, e⟩ := hleaf n b; rw [e, zaq]) t hf.2.1 0
  · rw [zvx hz]; exact ztu _ (fun n b => by obtain ⟨k, m, e⟩ := hleaf n b; rw [e, zen]) t hf.2.1 0
theorem zE5 {b : Bl} {base : Int} {ahead : Nat} {vars : Int} {own : List T} {q : T → Prop} : ∀ (l : List Ar) (i : Nat), (∀ (j : Nat) (h : j < l.length), ∀ y ∈ rsA b base ahead vars own (i + j) l[j], q y) → ∀ y ∈ rsL b base ahead vars own i l, q y
  | [], i, _, y, hy => by simp [rsL] at hy
  | a :: l, i, h, y, hy => by
    rw [rsL] at hy
    rcases List.mem_append.1 hy with hy | hy
    · exact h 0 (by simp) y hy
    · exact zE5 l (i + 1) (fun j hj y hy => h (j + 1) (by simpa using hj) y (by rw [show i + (j + 1) = i + 1 + j by omega]; simpa using hy)) y hy
theorem zjs {b : Bl} (fb : FineBl b) {base k : Int} (hp : zbl 9000 b base = 0) {so : So} (hk : b.sorts[k.toNat]? = some so) : rowM b so.idx = true ∧ zgg so.idx ∧ (∀ a ∈ so.idx, a.rc = true → a.dom = []) ∧ zjb so.level = true := by
  obtain ⟨hz, _, _, hpos⟩ := zcd hp
  obtain ⟨z1, z4, z8, zl, zs, zc⟩ := (za2 b).1 hz
  obtain ⟨hlt, hS⟩ := List.getElem?_eq_some_iff.1 hk
  have hsm := zs _ hlt
  have fs := fb.sorts _ (List.getElem_mem hlt)
  rw [hS] at hsm fs
  obtain ⟨hrow, hlv, _, _⟩ := (zbt _ _ _).1 hsm
  exact ⟨hrow, fs.idx, zDg hsm, hlv⟩
theorem zDp {b : Bl} (fb : FineBl b) (hf : Fit b) {base k : Int} (hp : zbl 9000 b base = 0) (b1 : base ≤ 60000) {so : So} (k0 : 0 ≤ k) (hk : b.sorts[k.toNat]? = some so) {V : Nat} (hV : V = b.sorts.length + b.cons.length + so.idx.length + 1) : In8 (resE b base k (V : Int) so) V := by
  obtain ⟨_, b0, _, _⟩ := zcd hp
  obtain ⟨hrow, fl, hd0, _⟩ := zjs fb hp hk
  have hlt := (List.getElem?_eq_some_iff.1 hk).1
  have hfs := hf.s
  have hfc := hf.c
  have hil := fl.1
  have h4 := zfu b.sorts
  rw [resE]
  refine zp8 ⟨zks (by omega), zbm ⟨by omega, by omega⟩⟩ fun y hy => ?_
  rcases List.mem_append.1 hy with hy | hy
  · refine zE5 (q := fun y => In8 y (V : Int)) so.idx 0 (fun j hj y hy => ?_) y hy
    rw [Nat.zero_add, rsA, zz9 hj] at hy
    have hown : In8 (.mk 1 ((V : Int) - 1 - ((b.sorts.length + b.cons.length : Nat) : Int) - (j : Int)) []) V := ⟨zks (by omega), zbm ⟨by omega, by omega⟩⟩
    rcases List.mem_cons.1 hy with rfl | hy
    · exact hown
    · split at hy
      · rename_i hrc
        rw [List.mem_singleton] at hy
        subst hy
        obtain ⟨hr1, hr2⟩ := zi7 hrow
        have hA := zf8 (hr2 j hj) hrc (by omega) (by omega)
        have e := zjk hf b0 (by omega : base ≤ 65535) so.idx[j].sort
        rw [if_pos ⟨hA.2.1, hA.2.2.1⟩] at e
        refine zp8 (zNx (by omega) (by omega)) fun x hx => ?_
        simp only [List.mem_append, List.mem_singleton, List.mem_map] at hx
        rcases hx with (hx | ⟨t, ht, rfl⟩) | rfl
        · exact zQ1 (by omega) (by omega) (by omega) x hx
        · exact (zve hrow fl hd0 (by omega) (by omega) (by omega) j hj hrc t ht).1
        · exact hown
      · simp at hy
  · rw [List.mem_singleton] at hy
    subst hy
    exact ⟨zks (by omega), zbm ⟨by omega, by omega⟩⟩
theorem zFl {b : Bl} (fb : FineBl b) (hf : Fit b) {base k : Int} (hp : zbl 9000 b base = 0) (b1 : base ≤ 60000) {so : So} (k0 : 0 ≤ k) (hk : b.sorts[k.toNat]? = some so) :
    (∀ (i : Nat) (h : i < (elL' b base k so).length), In8 (elL' b base k so)[i] i) ∧ ∀ x ∈ elL' b base k so, zac x ≤ 1099511627776 := by
  obtain ⟨_, b0, _, _⟩ := zcd hp
  obtain ⟨hrow, fl, hd0, _⟩ := zjs fb hp hk
  have hlt := (List.getElem?_eq_some_iff.1 hk).1
  have hfs := hf.s
  have hfc := hf.c
  have hil := fl.1
  have hfi := zit hf b0 (by omega : base ≤ 65535) k
  rw [if_pos ⟨k0, by omega⟩] at hfi
  have m1 : ∀ j, j < b.sorts.length → In8 (motU b base j) j ∧ zac (motU b base j) ≤ 1099511627776 := fun j hj => by
    have hkj : b.sorts[(j : Int).toNat]? = some b.sorts[j] := by rw [Int.toNat_natCast]; exact List.getElem?_eq_getElem hj
    rw [motU, List.getElem?_eq_getElem hj]
    exact ⟨(zSn fb hf hp b1 (by omega) hkj).1, zK9 fb hf hp b1 (by omega) hkj⟩
  have m2 : ∀ c, c < b.cons.length → In8 (metU b base c) (b.sorts.length + c) ∧ zac (metU b base c) ≤ 1099511627776 := fun c hc => by
    have hkc : b.cons[c]? = some b.cons[c] := List.getElem?_eq_getElem hc
    have hkc' : b.cons[(c : Int).toNat]? = some b.cons[c] := by rw [Int.toNat_natCast]; exact hkc
    obtain ⟨_, _, so1, hso1, _⟩ := zAe fb hf hp b1 hkc
    rw [metU, hkc]
    simp only [hso1]
    exact ⟨(zSa fb hf hp b1 (by omega) hkc' hso1).1, zI8 fb hf hp b1 (by omega) hkc' hso1⟩
  have hSp : In8 (spT (tC (zbe b base k)) (zc8 so.idx.length)) ((b.sorts.length + b.cons.length + so.idx.length : Nat) : Int) := zp8 (zNx (by omega) (by omega)) (zCn _ (by omega) (by omega))
  have hSn : zac (spT (tC (zbe b base k)) (zc8 so.idx.length)) ≤ 1099511627776 := by
    have hV : ((zc8 so.idx.length).map zac).sum = so.idx.length := by
      have := zpj (fun (j : Nat) => tV ((so.idx.length : Int) - 1 - (j : Int))) (fun j => zaq _ _) (List.range so.idx.length)
      rwa [List.length_range] at this
    rw [zd4, hV, zj3, show zac (tC _) = 1 from zaq _ _]
    omega
  refine ⟨fun i h => ?_, fun x hx => ?_⟩
  · have hl := zpk b base k so
    have hget : (elL' b base k so)[i]? = some (elL' b base k so)[i] := List.getElem?_eq_getElem h
    generalize hX : (elL' b base k so)[i] = X at hget ⊢
    rw [elL'] at hget
    have lA : ((List.range b.sorts.length).map (motU b base)).length = b.sorts.length := by simp
    have lB : ((List.range b.cons.length).map (metU b base)).length = b.cons.length := by simp
    have lC : (so.idx.map (zcn b base)).length = so.idx.length := by simp
    rcases Nat.lt_or_ge i b.sorts.length with h1 | h1
    · rw [List.append_assoc, List.append_assoc, List.getElem?_append_left (by omega), List.getElem?_map, List.getElem?_range h1, Option.map_some, Option.some.injEq] at hget
      rw [← hget]; exact (m1 i h1).1
    rcases Nat.lt_or_ge i (b.sorts.length + b.cons.length) with h2 | h2
    · rw [List.append_assoc, List.append_assoc, List.getElem?_append_right (by omega), List.getElem?_append_left (by omega), lA, List.getElem?_map, List.getElem?_range (by omega), Option.map_some, Option.some.injEq] at hget
      rw [← hget]; exact (m2 (i - b.sorts.length) (by omega)).1.mono (by omega)
    rcases Nat.lt_or_ge i (b.sorts.length + b.cons.length + so.idx.length) with h3 | h3
    · have h3' : i - b.sorts.length - b.cons.length < so.idx.length := by omega
      rw [List.append_assoc, List.append_assoc, List.getElem?_append_right (by omega), List.getElem?_append_right (by omega), List.getElem?_append_left (by omega), lA, lB, List.getElem?_map, List.getElem?_eq_getElem h3', Option.map_some, Option.some.injEq] at hget
      rw [← hget]
      obtain ⟨hr1, hr2⟩ := zi7 hrow
      have hA := zmr hf b0 b1 (fl.2 _ (List.getElem_mem h3')) (by omega) (hr2 _ h3')
      exact In8.mono ⟨hA.1, hA.2⟩ (by omega)
    · have hi : i = b.sorts.length + b.cons.length + so.idx.length := by omega
      rw [List.getElem?_append_right (by simp only [List.length_append]; omega)] at hget
      simp only [List.length_append, lA, lB, lC, hi, Nat.sub_self, List.getElem?_cons_zero, Option.some.injEq] at hget
      rw [← hget, hi]
      exact hSp
  · simp only [elL', List.mem_append, List.mem_map, List.mem_range, List.mem_singleton] at hx
    rcases hx with ((⟨j, hj, rfl⟩ | ⟨j, hj, rfl⟩) | ⟨a, ha, rfl⟩) | rfl
    · exact (m1 j hj).2
    · exact (m2 j hj).2
    · have := zkb (b := b) (base := base) (fl.2 a ha); omega
    · exact hSn
end
end
section
section
attribute [local simp] zae zaf tk tn tks zb1 zcb za9 zba zbb zbz
theorem zFc (b : Bl) (base k V : Int) (so : So) : (resE b base k V so).kind ≠ 4 := zQb _ _ (by show (1 : Int) ≠ 4; decide)
theorem zx9 {l : List T} {t : T} (hl : ∀ x ∈ l, zab x = true) (ht : zab t = true) : zab (zbu 4 l t) = true := zoc l t hl ht
structure ElOk (b : Bl) (base k : Int) (so : So) : Prop where
  r : elR b base k = zbu 4 (elL' b base k so) (resE b base k ((b.sorts.length + b.cons.length + so.idx.length + 1 : Nat) : Int) so)
  c : zaw (elR b base k) = 0
  mot : ∀ j, j < b.sorts.length → motE b base j = 0
  met : ∀ j, j < b.cons.length → metE b base j = 0
  nod : ∀ x ∈ elL' b base k so, zac x ≤ 20000
theorem zPg {b : Bl} (fb : FineBl b) (hf : Fit b) {base k : Int} (hp : zbl 9000 b base = 0) (b1 : base ≤ 60000) {so : So} (k0 : 0 ≤ k) (hk : b.sorts[k.toNat]? = some so) (he : elE b base k = 0) : ElOk b base k so := by
  have hlt := (List.getElem?_eq_some_iff.1 hk).1
  obtain ⟨e1, e2⟩ := zFl fb hf hp b1 k0 hk
  obtain ⟨hrow, fl, hd0, _⟩ := zjs fb hp hk
  have hm : mayP b base k b.sorts.length = 0 := by rw [mayP, if_neg (by omega), hp]
  have he' := he
  rw [elE, if_pos hm] at he
  split at he
  case isFalse h => exact absurd he h
  rename_i h1
  split at he
  case isFalse h => exact absurd he h
  rename_i h2
  rw [hk] at he
  simp only at he
  have a1 := zlq.1 h1
  have a2 := zlq.1 h2
  have hR : elR b base k = elT b base k so := by rw [elR, if_pos he', hk]
  refine ⟨by rw [hR, elT, zIk hp a1 a2, zpk], by rw [hR]; exact he, a1, a2, fun x hx => ?_⟩
  have hx2 := e2 x hx
  simp only [elL', List.mem_append, List.mem_map, List.mem_range, List.mem_singleton] at hx
  rcases hx with ((⟨j, hj, rfl⟩ | ⟨j, hj, rfl⟩) | ⟨a, ha, rfl⟩) | rfl
  · have := a1 j hj
    rw [(zxu hp hj).1] at this
    have := ((zpp hx2).1 this).1
    omega
  · have := a2 j hj
    rw [(zwr hp hj).1] at this
    have := ((zpp hx2).1 this).1
    omega
  · exact zkb (fl.2 a ha)
  · have hV : ((zc8 so.idx.length).map zac).sum = so.idx.length := by
      have := zpj (fun (j : Nat) => tV ((so.idx.length : Int) - 1 - (j : Int))) (fun j => zaq _ _) (List.range so.idx.length)
      rwa [List.length_range] at this
    have hil := fl.1
    rw [zd4, hV, zj3, show zac (tC _) = 1 from zaq _ _]
    omega
theorem zQo (o : Int) (n : Nat) (V : Int) : ((lvs o n V).map zac).sum = n := by
  have := zpj (fun (i : Nat) => (.mk 1 (V - 1 - o - (i : Int)) [] : T)) (fun j => zaq _ _) (List.range n)
  rwa [List.length_range] at this
theorem zLh {b : Bl} (fb : FineBl b) (hf : Fit b) {base k : Int} (hp : zbl 9000 b base = 0) {so : So} (hk : b.sorts[k.toNat]? = some so) {V : Nat} (hV : V = b.sorts.length + b.cons.length + so.idx.length + 1) : zac (resE b base k (V : Int) so) ≤ 1000000 := by
  obtain ⟨hrow, fl, hd0, _⟩ := zjs fb hp hk
  have hfs := hf.s
  have hfc := hf.c
  have hil := fl.1
  have hll := zze b base (b.sorts.length + b.cons.length) V (lvs ((b.sorts.length + b.cons.length : Nat) : Int) so.idx.length V) so.idx 0
  have hm : ∀ y ∈ rsL b base (b.sorts.length + b.cons.length) V (lvs ((b.sorts.length + b.cons.length : Nat) : Int) so.idx.length V) 0 so.idx, zac y ≤ 10000 := by
    refine zE5 (q := fun y => zac y ≤ 10000) so.idx 0 fun j hj y hy => ?_
    rw [Nat.zero_add, rsA, zz9 hj] at hy
    rcases List.mem_cons.1 hy with rfl | hy
    · rw [zaq]; omega
    · split at hy
      · rename_i hrc
        rw [List.mem_singleton] at hy
        subst hy
        have fa := fl.2 _ (List.getElem_mem hj)
        have e : (so.idx[j].idx.map (fun t => ze0 t ((lvs ((b.sorts.length + b.cons.length : Nat) : Int) so.idx.length V).take j) 0)).map zac = so.idx[j].idx.map zac := by
          rw [List.map_map]
          exact List.map_congr_left fun t ht => (zve hrow fl hd0 (by omega) (by omega) (by omega) j hj hrc t ht).2.1
        have h1 := fa.idx
        have h2 := fa.idxL
        rw [zd4, List.map_append, List.map_append, List.sum_append, List.sum_append, e, zQo, List.length_append, List.length_append, zs2, List.length_map, show zac (tC _) = 1 from zaq _ _, List.map_cons, List.map_nil, List.sum_cons, List.sum_nil, zaq, List.length_singleton]
        omega
      · simp at hy
  have hs := zOi hm
  rw [resE, zd4, List.map_append, List.sum_append, List.length_append, zaq, List.map_cons, List.map_nil, List.sum_cons, List.sum_nil, zaq, List.length_singleton]
  have : (rsL b base (b.sorts.length + b.cons.length) V (lvs ((b.sorts.length + b.cons.length : Nat) : Int) so.idx.length V) 0 so.idx).length * 10000 ≤ 40 * 10000 := Nat.mul_le_mul_right _ (by omega)
  omega
end
end
section
section
attribute [local simp] zae zaf tk tn tks zb1 zcb za9 zba zbb zbz
end
end
section
section
attribute [local simp] zae zaf tk tn tks zb1 zcb za9 zba zbb zbz
theorem zNj {b : Bl} (fb : FineBl b) (m : Nat) : FineBl (fewB b m) :=
  ⟨fb.s, by show (b.cons.take m).length ≤ 20; have := fb.c; rw [List.length_take]; omega, fb.sorts, fun c hc => fb.cons c (List.mem_of_mem_take hc)⟩
theorem zH8 {b : Bl} (ob : okBl b) (m : Nat) : okBl (fewB b m) :=
  ⟨ob.sortsL, ob.sorts, by show (b.cons.take m).length * 96 ≤ _; have := ob.consL; rw [List.length_take]; omega, fun c hc => ob.cons c (List.mem_of_mem_take hc), ob.elim⟩
end
end
section
section
theorem zDt : ∀ t : T, rnT id t = t := by
  intro t
  refine T.ind (p := fun t => rnT id t = t) ?_ t
  intro k n ks ih
  rw [zpt]
  congr 1
  · split <;> rfl
  · exact (List.map_congr_left ih).trans (List.map_id ks)
theorem zN6 (l : List T) : l.map (rnT id) = l := (List.map_congr_left fun x _ => zDt x).trans (List.map_id l)
theorem zUt (a : Ar) : mvA id a = a := by
  obtain ⟨r, t, d, s, x⟩ := a
  simp only [mvA, zDt, zN6]
theorem zIx (l : List Ar) : l.map (mvA id) = l := (List.map_congr_left fun x _ => zUt x).trans (List.map_id l)
theorem zLg (s : So) : mvS id s = s := by
  obtain ⟨i, l, d, t⟩ := s
  simp only [mvS, zDt, zIx]
theorem zOo (c : Co) : mvC id c = c := by
  obtain ⟨s, a, i, d⟩ := c
  simp only [mvC, zDt, zN6, zIx]
theorem zQ3 {b : Bl} (hf : Fit b) {base : Int} (h0 : 0 ≤ base) (h1 : base ≤ 60000) {m : Nat} (hm : m ≤ b.cons.length) : ChB id b (fewB b m) base base m := by
  have F := zQe hf h0 (by omega : base ≤ 65535) hm
  have hci := zBg hf
  have hf' : Fit (fewB b m) := ⟨hf.s, by show (b.cons.take m).length ≤ 20; have := hf.c; rw [List.length_take]; omega⟩
  have hcl : (fewB b m).cons.length = m := by show (b.cons.take m).length = m; rw [List.length_take]; omega
  refine ⟨?_, fun c h5 hlt => ?_, fun j hj => ?_, fun k _ _ => rfl, fun k _ _ => (zDt _).symm, fun c c0 c1 => ?_, rfl⟩
  · show b.sorts = b.sorts.map (mvS id)
    exact ((List.map_congr_left fun x _ => zLg x).trans (List.map_id _)).symm
  · have hr := zL2 hf h0 (by omega) c (by rw [h5]; decide)
    exact F.h5 c ⟨by omega, by omega⟩ h5 hlt
  · rw [F.c j hj]
    cases b.cons[j]? with
    | none => rfl
    | some x => rw [Option.map_some, zOo]
  · rw [zcl hf' h0 (by omega), zcl hf h0 (by omega), if_pos ⟨c0, by omega⟩, if_pos ⟨c0, by omega⟩]
    rfl
structure Dl (t u : T) : Prop where
  n : zac t ≤ zac u
  d : za5 t ≤ za5 u
theorem Dl.refl (t : T) : Dl t t := ⟨Nat.le_refl _, Nat.le_refl _⟩
theorem Dl.trans {t u v : T} (h : Dl t u) (k : Dl u v) : Dl t v := ⟨Nat.le_trans h.n k.n, Nat.le_trans h.d k.d⟩
theorem zr0 (k n : Int) (a b : T) : za5 (.mk k n [a, b]) = max (za5 a) (za5 b) + 1 := by rw [za5]; simp [dmax]
theorem zsw (k n : Int) (a b : T) : zac (.mk k n [a, b]) = zac a + zac b + 1 := by rw [zac]; simp
theorem Dl.two {k n k' n' : Int} {a b a' b' : T} (h1 : Dl a a') (h2 : Dl b b') : Dl (.mk k n [a, b]) (.mk k' n' [a', b']) :=
  ⟨by rw [zsw, zsw]; have := h1.n; have := h2.n; omega, by rw [zr0, zr0]; have := h1.d; have := h2.d; omega⟩
theorem Dl.left {k n : Int} (a b : T) : Dl a (.mk k n [a, b]) := ⟨by rw [zsw]; omega, by rw [zr0]; omega⟩
theorem Dl.right {k n : Int} (a b : T) : Dl b (.mk k n [a, b]) := ⟨by rw [zsw]; omega, by rw [zr0]; omega⟩
inductive Dls : List T → List T → Prop
  | nil : Dls [] []
  | cons {x y : T} {l m : List T} (h : Dl x y) (hs : Dls l m) : Dls (x :: l) (y :: m)
theorem Dls.refl : ∀ l, Dls l l
  | [] => .nil
  | x :: l => .cons (.refl x) (.refl l)
theorem Dls.append {l m l' m' : List T} (h : Dls l m) (k : Dls l' m') : Dls (l ++ l') (m ++ m') := by
  induction h with
  | nil => exact k
  | cons h _ ih => exact .cons h ih
theorem Dl.sp {l m : List T} (h : Dls l m) : ∀ {t u : T}, Dl t u → Dl (spT t l) (spT u m) := by
  induction h with
  | nil => intro t u h; exact h
  | cons h _ ih => intro t u k; exact ih (Dl.two k h)
theorem Dl.nest {l m : List T} (h : Dls l m) : ∀ {t u : T}, Dl t u → Dl (zbu 4 l t) (zbu 4 m u) := by
  induction h with
  | nil => intro t u h; exact h
  | cons h _ ih => intro t u k; exact Dl.two h (ih k)
theorem zFk (l m : List T) (t : T) : zbu 4 (l ++ m) t = zbu 4 l (zbu 4 m t) := by
  induction l with
  | nil => rfl
  | cons x l ih => show T.mk 4 0 [x, zbu 4 (l ++ m) t] = T.mk 4 0 [x, zbu 4 l (zbu 4 m t)]; rw [ih]
theorem zAc (k n k' n' : Int) : Dl (.mk k n []) (.mk k' n' []) := ⟨by rw [zaq, zaq]; omega, by rw [zen, zen]; omega⟩
theorem zIw (o : Int) (V o' V' : Int) (n : Nat) : Dls (lvs o n V) (lvs o' n V') := by
  rw [lvs, lvs]
  generalize List.range n = R
  induction R with
  | nil => exact .nil
  | cons x R ih => exact .cons (zAc _ _ _ _) ih
theorem zNv (o : Int) (n : Nat) (V : Int) : ∃ x l, lvs o (n + 1) V = x :: l ∧ Dls (lvs o n V) l := by
  refine ⟨.mk 1 (V - 1 - o - ((0 : Nat) : Int)) [], lvs (o + 1) n V, ?_, zIw _ _ _ _ _⟩
  rw [lvs, lvs, List.range_succ_eq_map, List.map_cons, List.map_map]
  congr 1
  refine List.map_congr_left fun i _ => ?_
  simp only [Function.comp_apply, Nat.succ_eq_add_one]
  congr 1
  omega
theorem zK8 {α : Type} {f g : α → T} : ∀ (l : List α), (∀ x ∈ l, Dl (f x) (g x)) → Dls (l.map f) (l.map g)
  | [], _ => .nil
  | x :: l, h => .cons (h x (by simp)) (zK8 l fun y hy => h y (by simp [hy]))
theorem zPd {b b' : Bl} {base V V' : Int} {n : Nat} {own own' : List T} (i : Nat) (a : Ar) (ho : Dl ((own[i]?).getD zT) ((own'[i]?).getD zT)) (hx : a.rc = true → ∀ t ∈ a.idx, Dl (ze0 t (own.take i) 0) (ze0 t (own'.take i) 0)) :
    Dls (rsA b base n V own i a) (rsA b' base (n + 1) V' own' i a) := by
  rw [rsA, rsA]
  refine .cons ho ?_
  cases hr : a.rc with
  | false => exact .nil
  | true =>
    obtain ⟨x, l, e, hl⟩ := zNv 0 n V'
    have hl2 : Dls (lvs 0 n V) l := by
      have h1 := zIw 0 V 0 V' n
      clear e hx ho hr
      have tr : ∀ {p q r : List T}, Dls p q → Dls q r → Dls p r := by
        intro p q r h
        induction h generalizing r with
        | nil => intro k; exact k
        | cons h _ ih => intro k; cases k with
          | cons h' k' => exact .cons (h.trans h') (ih k')
      exact tr h1 hl
    rw [if_pos rfl, if_pos rfl, e, List.append_assoc, List.append_assoc, List.cons_append]
    refine .cons ?_ .nil
    show Dl _ (spT (.mk 6 0 [tC _, x]) _)
    exact Dl.sp (hl2.append ((zK8 _ (hx hr)).append (.cons ho .nil))) ((zAc _ _ _ _).trans (Dl.left _ _))
theorem zJ0 {b b' : Bl} {base V V' : Int} {n : Nat} {own own' : List T} : ∀ (l : List Ar) (i : Nat), (∀ (j : Nat) (h : j < l.length), Dl ((own[i + j]?).getD zT) ((own'[i + j]?).getD zT) ∧ (l[j].rc = true → ∀ t ∈ l[j].idx, Dl (ze0 t (own.take (i + j)) 0) (ze0 t (own'.take (i + j)) 0))) →
    Dls (rsL b base n V own i l) (rsL b' base (n + 1) V' own' i l)
  | [], i, _ => .nil
  | a :: l, i, h => by
    rw [rsL, rsL]
    have h0 := h 0 (by simp)
    simp only [List.getElem_cons_zero, Nat.add_zero] at h0
    refine (zPd i a h0.1 h0.2).append (zJ0 l (i + 1) fun j hj => ?_)
    have := h (j + 1) (by simpa using hj)
    rw [show i + (j + 1) = i + 1 + j by omega] at this
    simpa only [List.getElem_cons_succ] using this
end
end
section
section
attribute [local simp] zae zaf tk tn tks zb1 zcb za9 zba zbb zbz
theorem zQg {b : Bl} (fb : FineBl b) (hf : Fit b) {base : Int} (hp : zbl 9000 b base = 0) (b1 : base ≤ 60000) {m : Nat} (hm : m ≤ b.cons.length) : (∀ j, j < b.sorts.length → motU (fewB b m) base j = motU b base j) ∧ ∀ c, c < m → metU (fewB b m) base c = metU b base c := by
  obtain ⟨_, b0, _, _⟩ := zcd hp
  have B := zQ3 hf b0 b1 hm
  refine ⟨fun j hj => ?_, fun c hc => ?_⟩
  · have hkj : b.sorts[(j : Int).toNat]? = some b.sorts[j] := by rw [Int.toNat_natCast]; exact List.getElem?_eq_getElem hj
    have h := zUr B (by omega) fb hf hp b1 (by omega) hkj
    rw [zLg, zDt] at h
    have hs : (fewB b m).sorts = b.sorts := rfl
    rw [motU, motU, hs, List.getElem?_eq_getElem hj]
    exact h
  · have hc' : c < b.cons.length := by omega
    have hkc : b.cons[c]? = some b.cons[c] := List.getElem?_eq_getElem hc'
    obtain ⟨_, _, so1, hso1, _⟩ := zAe fb hf hp b1 hkc
    have h := zUl B fb hf hp b1 (by omega) hkc hso1
    rw [zLg, zOo, zDt] at h
    have hs : (fewB b m).sorts = b.sorts := rfl
    have hg : (fewB b m).cons[c]? = some b.cons[c] := by
      show (b.cons.take m)[c]? = _
      rw [List.getElem?_take, if_pos hc, hkc]
    rw [metU, metU, hg, hkc]
    simp only [hs, hso1]
    exact h
theorem zL4 {b : Bl} (fb : FineBl b) (hf : Fit b) {base k : Int} (hp : zbl 9000 b base = 0) (b1 : base ≤ 60000) {m : Nat} (hm : b.cons.length = m + 1) (hpx : zbl 9000 (fewB b m) base = 0) (fbx : FineBl (fewB b m)) (hfx : Fit (fewB b m)) (k0 : 0 ≤ k) {so : So} (hk : b.sorts[k.toNat]? = some so)
    (hE : elE b base k = 0) : elE (fewB b m) base k = 0 ∧ elL' (fewB b m) base k so = (List.range b.sorts.length).map (motU b base) ++ (List.range m).map (metU b base) ++ (so.idx.map (zcn b base) ++ [spT (tC (zbe b base k)) (zc8 so.idx.length)]) ∧
      elL' b base k so = (List.range b.sorts.length).map (motU b base) ++ (List.range m).map (metU b base) ++ (metU b base m :: (so.idx.map (zcn b base) ++ [spT (tC (zbe b base k)) (zc8 so.idx.length)])) := by
  obtain ⟨a1, a2⟩ := zQg fb hf hp b1 (m := m) (by omega)
  have E := zPg fb hf hp b1 k0 hk hE
  have hlt := (List.getElem?_eq_some_iff.1 hk).1
  have hsl : (fewB b m).sorts.length = b.sorts.length := rfl
  have hcl : (fewB b m).cons.length = m := by show (b.cons.take m).length = m; rw [List.length_take]; omega
  have hkx : (fewB b m).sorts[k.toNat]? = some so := hk
  have e1 : elL' (fewB b m) base k so = (List.range b.sorts.length).map (motU b base) ++ (List.range m).map (metU b base) ++ (so.idx.map (zcn b base) ++ [spT (tC (zbe b base k)) (zc8 so.idx.length)]) := by
    have x1 : (List.range b.sorts.length).map (motU (fewB b m) base) = (List.range b.sorts.length).map (motU b base) := List.map_congr_left fun j hj => a1 j (List.mem_range.1 hj)
    have x2 : (List.range m).map (metU (fewB b m) base) = (List.range m).map (metU b base) := List.map_congr_left fun j hj => a2 j (List.mem_range.1 hj)
    have x3 : so.idx.map (zcn (fewB b m) base) = so.idx.map (zcn b base) := rfl
    have x4 : zbe (fewB b m) base k = zbe b base k := rfl
    rw [elL', hsl, hcl, x1, x2, x3, x4, List.append_assoc]
  have e2 : elL' b base k so = (List.range b.sorts.length).map (motU b base) ++ (List.range m).map (metU b base) ++ (metU b base m :: (so.idx.map (zcn b base) ++ [spT (tC (zbe b base k)) (zc8 so.idx.length)])) := by
    rw [elL', hm, List.range_succ, List.map_append, List.map_cons, List.map_nil]
    simp only [List.append_assoc, List.cons_append, List.nil_append]
  refine ⟨?_, e1, e2⟩
  have hmx : mayP (fewB b m) base k (fewB b m).sorts.length = 0 := by rw [mayP, if_neg (by omega), hpx]
  have c1 : ∀ j, j < (fewB b m).sorts.length → motE (fewB b m) base j = 0 := fun j hj => by
    rw [(zxu hpx hj).1, a1 j (by omega), ← (zxu hp (by omega)).1]; exact E.mot j (by omega)
  have c2 : ∀ j, j < (fewB b m).cons.length → metE (fewB b m) base j = 0 := fun j hj => by
    rw [(zwr hpx hj).1, a2 j (by omega), ← (zwr hp (by omega)).1]; exact E.met j (by omega)
  have hX : elT (fewB b m) base k so = zbu 4 (elL' (fewB b m) base k so) (resE (fewB b m) base k ((m + (b.sorts.length + so.idx.length + 1) : Nat) : Int) so) := by
    rw [elT, zIk hpx c1 c2, zpk, hsl, hcl]
    congr 2
    omega
  rw [elE, if_pos hmx, if_pos (zlq.2 c1), if_pos (zlq.2 c2), hkx]
  simp only
  obtain ⟨hrow, fl, hd0, _⟩ := zjs fb hp hk
  have hfs := hf.s
  have hfc := hf.c
  have hil := fl.1
  have dR : Dl (resE (fewB b m) base k ((m + (b.sorts.length + so.idx.length + 1) : Nat) : Int) so) (resE b base k ((b.sorts.length + b.cons.length + so.idx.length + 1 : Nat) : Int) so) := by
    rw [resE, resE, hsl, hcl, show b.sorts.length + b.cons.length = (b.sorts.length + m) + 1 by omega]
    refine Dl.sp ((zJ0 so.idx 0 fun j hj => ?_).append (Dls.refl _)) (zAc _ _ _ _)
    rw [Nat.zero_add]
    refine ⟨by rw [zz9 hj, zz9 hj]; exact zAc _ _ _ _, fun hr t ht => ?_⟩
    have i1 := zve hrow fl hd0 (o := ((b.sorts.length + m : Nat) : Int)) (V := ((m + (b.sorts.length + so.idx.length + 1) : Nat) : Int)) (by omega) (by omega) (by omega) j hj hr t ht
    have i2 := zve hrow fl hd0 (o := ((b.sorts.length + m + 1 : Nat) : Int)) (V := ((b.sorts.length + m + 1 + so.idx.length + 1 : Nat) : Int)) (by omega) (by omega) (by omega) j hj hr t ht
    exact ⟨by rw [i1.2.1, i2.2.1]; exact Nat.le_refl _, by rw [i1.2.2, i2.2.2]; exact Nat.le_refl _⟩
  have dT : Dl (elT (fewB b m) base k so) (elR b base k) := by
    rw [hX, E.r, e1, e2, zFk, zFk ((List.range b.sorts.length).map (motU b base) ++ (List.range m).map (metU b base))]
    refine Dl.nest (Dls.refl _) ?_
    show Dl _ (.mk 4 0 [metU b base m, zbu 4 _ _])
    exact (Dl.nest (Dls.refl _) dR).trans (Dl.right _ _)
  have hl := zpk b base k so
  have hs := zOi E.nod
  have hmm : (elL' b base k so).length * 20000 ≤ 60 * 20000 := Nat.mul_le_mul_right _ (by omega)
  have hr := zLh fb hf hp hk rfl
  have hn : zac (elR b base k) ≤ 1099511627776 := by rw [E.r, zlh]; omega
  obtain ⟨n1, n2, _⟩ := (zpp hn).1 E.c
  have hd1 := dT.n
  have hd2 := dT.d
  obtain ⟨i1, _⟩ := zFl fbx hfx hpx b1 k0 hkx
  have rI := zDp fbx hfx hpx b1 k0 hkx (V := m + (b.sorts.length + so.idx.length + 1)) (by rw [hsl, hcl]; omega)
  refine (zpp (by omega)).2 ⟨by omega, by omega, ?_⟩
  rw [hX]
  exact zx9 (fun x hx => by obtain ⟨i, hi, rfl⟩ := List.mem_iff_getElem.1 hx; exact (i1 i hi).fm) rI.fm
set_option maxHeartbeats 8000000 in
theorem zDz (b : Bl) (ob : okBl b) (hb : bulk (eBl b) ≤ 1048576) (base k : Int) : Pure Tryz.prog zg3 [eBl b, .int .i64 base, .int .i64 k] [.bool true] := by
  refine zm2 rfl fun hs => ?_
  have hH := zHn b
  simp only [eBl, cBl] at hH
  simp -dsimp [zea, eBl, cBl]
  refine zaa hH ?_
  simp -dsimp
  (first | refine zal ?_ ?_ | refine zak ?_ ?_) <;> intro h1 <;> (try simp only [nrm] at h1) <;> simp -dsimp [h1, eCos]
  have hf := zOm h1
  have fb := zR9 hb h1
  have hfs := hf.s
  have hfc := hf.c
  by_cases hc0 : b.cons.length = 0
  · have hc0' : b.cons = [] := List.eq_nil_of_length_eq_zero hc0
    simp -dsimp [hc0']
  have hc0' : ¬ b.cons = [] := fun h => hc0 (by rw [h]; rfl)
  have hc0'' : ¬ (b.cons.length : Int) = 0 := by omega
  obtain ⟨m, hm⟩ : ∃ m, b.cons.length = m + 1 := ⟨b.cons.length - 1, by omega⟩
  obtain ⟨B0, B1⟩ := zO3 base 1000 (by omega) (by omega)
  have hT := zBr b ob
  have wm : IntKind.i64.wrap ((b.cons.length : Int) - 1) = (m : Int) := by rw [zad (by omega) (by omega)]; omega
  have hml : m ≤ b.cons.length := by omega
  have hml' : (m : Int) ≤ b.cons.length := by omega
  simp only [eBl, cBl, eCos] at hT
  simp -dsimp [hc0', hc0'', eCos]
  generalize IntKind.i64.wrap ((IntKind.u64.wrap base).tmod 1000) = B at B0 B1 ⊢
  refine zaa hT ?_
  have hP := zDl 9000 (by omega) (by omega) b ob fb hf B
  have fbx := zNj fb m
  have hfx : Fit (fewB b m) := ⟨hf.s, by show (b.cons.take m).length ≤ 20; rw [List.length_take]; omega⟩
  have hPx := zDl 9000 (by omega) (by omega) (fewB b m) (zH8 ob m) fbx hfx B
  have hTy := fun K => zrj b ob fb hf B K (by omega)
  have hTx := fun K => zrj (fewB b m) (zH8 ob m) fbx hfx B K (by omega)
  simp only [eBl, cBl, eCos, cT] at hP hTy
  have ex : eBl (fewB b m) = .agg [eSos b.sorts, .sl 6 ((b.cons.map eCo).take m), .int .i64 b.elim] := by simp only [eBl, cBl, fewB, eCos, List.map_take]
  rw [ex] at hPx
  simp only [ex, cT] at hTx
  simp -dsimp [wm, hml, hml', eCos]
  refine zaa hP ?_
  by_cases hp : zbl 9000 b B = 0
  case neg => simp -dsimp [hp]
  simp -dsimp [hp]
  refine zaa hPx ?_
  by_cases hpx : zbl 9000 (fewB b m) B = 0
  case neg => simp -dsimp [hpx]
  obtain ⟨hz, _, _, hpos⟩ := zcd hp
  obtain ⟨z1, z4, z8, zl, zs, zc⟩ := (za2 b).1 hz
  have q2 : IntKind.u64.wrap (b.sorts.length : Int) = (b.sorts.length : Int) := zTi (by omega) (by omega)
  have q3 : ¬((b.sorts.length : Int) = 0) := by omega
  have q4 : ¬ b.sorts = [] := fun h => by rw [h] at z1; simp at z1
  simp -dsimp [hpx, q2, q3, q4, eSos]
  obtain ⟨K0, K1⟩ := zO3 k (b.sorts.length : Int) (by omega) (by omega)
  generalize IntKind.i64.wrap ((IntKind.u64.wrap k).tmod (b.sorts.length : Int)) = K at K0 K1 ⊢
  have hlt : K.toNat < b.sorts.length := by omega
  have hget : b.sorts[K.toNat]? = some b.sorts[K.toNat] := List.getElem?_eq_getElem hlt
  have hT1 := hTy K
  have hT2 := hTx K
  simp only [eSos] at hT1 hT2
  refine zaa hT1 ?_
  simp -dsimp
  refine zaa hT2 ?_
  by_cases hE : elE b B K = 0
  case neg =>
    have hE' : ¬ (elE b B K = 0) := hE
    generalize elE b B K = E at *
    simp -dsimp [hE]
    refine zaa zyz ?_
    simp -dsimp
  obtain ⟨f1, f2, f3⟩ := zL4 fb hf hp (by omega) hm hpx fbx hfx K0 hget hE
  have E := zPg fb hf hp (by omega) K0 hget hE
  have Ex := zPg fbx hfx hpx (by omega) K0 (so := b.sorts[K.toNat]) hget f1
  obtain ⟨i1, _⟩ := zFl fb hf hp (by omega) K0 hget
  obtain ⟨i2, _⟩ := zFl fbx hfx hpx (by omega) K0 (so := b.sorts[K.toNat]) hget
  have r1 := zDp fb hf hp (by omega) K0 hget (V := b.sorts.length + b.cons.length + b.sorts[K.toNat].idx.length + 1) rfl
  have r2 := zDp fbx hfx hpx (by omega) K0 (so := b.sorts[K.toNat]) hget (V := (fewB b m).sorts.length + (fewB b m).cons.length + b.sorts[K.toNat].idx.length + 1) rfl
  have fl := (zjs fb hp hget).2.1
  have hil := fl.1
  have l1 := zpk b B K b.sorts[K.toNat]
  have l2 := zpk (fewB b m) B K b.sorts[K.toNat]
  have hsl : (fewB b m).sorts.length = b.sorts.length := rfl
  have hcl : (fewB b m).cons.length = m := by show (b.cons.take m).length = m; rw [List.length_take]; omega
  have hU1 := ztc (zFc b B K _ b.sorts[K.toNat]) (L := elL' b B K b.sorts[K.toNat]) (by omega) (fun x hx => by obtain ⟨i, hi, rfl⟩ := List.mem_iff_getElem.1 hx; exact zd9 (i1 i hi).fm) (zd9 r1.fm)
  have hU2 := ztc (zFc (fewB b m) B K _ b.sorts[K.toNat]) (L := elL' (fewB b m) B K b.sorts[K.toNat]) (by omega) (fun x hx => by obtain ⟨i, hi, rfl⟩ := List.mem_iff_getElem.1 hx; exact zd9 (i2 i hi).fm) (zd9 r2.fm)
  rw [← E.r] at hU1
  rw [← Ex.r] at hU2
  have hKs := zC6 ((List.range b.sorts.length).map (motU b B) ++ (List.range m).map (metU b B))
  have lP : ((List.range b.sorts.length).map (motU b B) ++ (List.range m).map (metU b B)).length = b.sorts.length + m := by simp
  rw [f3] at hU1 l1
  rw [f2] at hU2 l2
  clear E Ex i1 i2 r1 r2 fl f2 f3
  generalize (List.range b.sorts.length).map (motU b B) ++ (List.range m).map (metU b B) = P at *
  generalize b.sorts[K.toNat].idx.map (zcn b B) ++ [spT (tC (zbe b B K)) (zc8 b.sorts[K.toNat].idx.length)] = Q at *
  generalize metU b B m = M at *
  generalize resE b B K _ b.sorts[K.toNat] = R1 at *
  generalize resE (fewB b m) B K _ b.sorts[K.toNat] = R2 at *
  rw [hE, f1]
  generalize elR b B K = X1 at *
  generalize elR (fewB b m) B K = X2 at *
  simp only [cT, eTs] at hU1 hU2
  simp -dsimp
  refine zaa hU1 ?_
  simp -dsimp
  refine zaa hU2 ?_
  have w1 : IntKind.i64.wrap ((b.sorts.length : Int) + m) = (P.length : Int) := by rw [zad (by omega) (by omega), lP]; omega
  rw [List.length_append, List.length_cons] at l1
  rw [List.length_append] at l2
  have w2 : IntKind.i64.wrap ((P.length : Int) + Q.length + 1) = (P.length : Int) + Q.length + 1 := zad (by omega) (by omega)
  have c1 : (P.length : Int) < (P.length : Int) + Q.length := by omega
  have c2 : (P.length : Int) ≤ (P.length : Int) + Q.length := by omega
  have c3 : (P.length : Int) ≤ (P.length : Int) + (Q.length + 1) := by omega
  have c4 : 0 ≤ (P.length : Int) := by omega
  have c5 : P.length ≤ P.length + Q.length := by omega
  have c6 : P.length ≤ P.length + (Q.length + 1) := by omega
  have c7 : 0 < Q.length := by omega
  have c8 : ¬ Q = [] := fun h => by rw [h] at c7; simp at c7
  have t1 : (P.map eT ++ .agg [.int .i64 M.kind, .int .i64 M.num, .sl 3 (M.kids.map eT)] :: Q.map eT).take P.length = P.map eT := List.take_left' (by simp)
  have t2 : (P.map eT ++ Q.map eT).take P.length = P.map eT := List.take_left' (by simp)
  have c9 : (P.length : Int) + (Q.length + 1) = (P.length : Int) + Q.length + 1 := by omega
  have c10 : (P.length : Int) ≤ (P.length : Int) + Q.length + 1 := by omega
  have hmin : min m b.cons.length = m := Nat.min_eq_left hml
  simp only [eTs] at hKs
  simp -dsimp [hmin, c10, w1, w2, c9, c1, c2, c3, c4, c5, c6, c7, c8, t1, t2, cT, zcr, eCos, hcl]
  refine zaa hKs ?_
  simp -dsimp
  refine zaa zyz ?_
  simp -dsimp
end
end
end Ev
end Go.Proofs.YtdhfkbdhdgaccaaGreat
