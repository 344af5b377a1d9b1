/- posit: good terms, indices, rows, blocks. -/
import Derived.Test.YtjebpfhffenbnaaGreatO1
namespace Go.Proofs.YtjebpfhffenbnaaGreat
namespace Ev
open Go
set_option maxRecDepth 100000
set_option linter.unusedSimpArgs false
set_option linter.unusedVariables false
section
attribute [local simp] allD_map_d sks_map_d tk tn tks initA EndsM one_sos one_cos one_ars one_ts
/-- Is what stands for an argument as it is to be? -/
def fitA (cl gd : T → Bool) (p : Pl) (a : Ar) (x : T) : Bool := if a.rc then if a.dom.length = 0 then gd x else guardB p x else cl x
def goodG (cl gd : T → Bool) (p : Pl) (t : T) (cons : Int) : Bool :=
  if guardB p (spH t) then (match p.args[(guardN p (spH t)).toNat]? with
    | some a => decide ((spA t).reverse.length = a.dom.length) && (spA t).reverse.all cl
    | none => false)
  else if (spH t).kind = 3 then if (ofM p.b p.base (spH t).num).1 = 5 then if (ofM p.b p.base (spH t).num).2 < cons then match p.b.cons[(ofM p.b p.base (spH t).num).2.toNat]? with
      | some c => if (spA t).reverse.length = c.args.length then allI (fun i a => match (spA t).reverse[i]? with | some x => fitA cl gd p a x | none => false) 0 c.args else false
      | none => false else false else false
  else false
def goodF : Nat → Pl → T → Int → Bool
  | 0, _, _, _ => true
  | n + 1, p, t, cons => goodG (cleanF n p) (fun x => goodF n p x cons) p t cons
theorem good_ok (n : Nat) (hN : n ≤ 1000000) : ∀ (p : Pl) (t : T) (cons : Int), 0 ≤ p.more → p.more + nodes t ≤ 1000000000 → p.args.length ≤ 1000000 → (∀ s ∈ p.b.sorts, s.idx.length ≤ 1000000) → (∀ c ∈ p.b.cons, c.args.length ≤ 1000000) → okT t → nodes t ≤ n →
    Pure Tryz.prog n_posit_place_good [.agg (cPl p), .agg (cT t), .int .i64 cons] [.bool (goodF n p t cons)] := by
  induction n with
  | zero => intro p t _ _ _ _ _ _ _ h; have := nodes_pos t; omega
  | succ n ih =>
    intro p t cons h0 h1 hl hsl hcl ot hn
    have hA := spA_lt t
    have hS := split_ok t (by omega)
    obtain ⟨m1, m2⟩ := spA_mem t
    obtain ⟨oH, m3⟩ := m2 ot
    have hm : ∀ x ∈ (spA t).reverse, nodes x < nodes t ∧ okT x := fun x hx => ⟨m1 x (by simpa using hx), m3 x (by simpa using hx)⟩
    have hG := guarded_ok p (spH t) h0 (by omega) hl oH.num64
    have hO := of_ok p.b p.base (spH t).num
    have hAl := pall_ok p (spA t).reverse (cleanF n p) (by rw [List.length_reverse]; omega) (fun x hx => clean_ok n (by omega) p x h0 (by have := (hm x hx).1; omega) hl hsl (hm x hx).2 (by have := (hm x hx).1; omega))
    refine p_posit_place_good rfl fun hs => ?_
    have hV : goodF (n + 1) p t cons = goodG (cleanF n p) (fun x => goodF n p x cons) p t cons := rfl
    have hW : goodG (cleanF n p) (fun x => goodF n p x cons) p t cons = if guardB p (spH t) then (match p.args[(guardN p (spH t)).toNat]? with
        | some a => decide ((spA t).reverse.length = a.dom.length) && (spA t).reverse.all (cleanF n p)
        | none => false)
      else if (spH t).kind = 3 then if (ofM p.b p.base (spH t).num).1 = 5 then if (ofM p.b p.base (spH t).num).2 < cons then match p.b.cons[(ofM p.b p.base (spH t).num).2.toNat]? with
          | some c => if (spA t).reverse.length = c.args.length then allI (fun i a => match (spA t).reverse[i]? with | some x => fitA (cleanF n p) (fun x => goodF n p x cons) p a x | none => false) 0 c.args else false
          | none => false else false else false
      else false := by rw [goodG]
    rw [hV]
    rw [← List.length_reverse] at hA
    generalize goodG (cleanF n p) (fun x => goodF n p x cons) p t cons = W at *
    generalize (spA t).reverse = A at *
    generalize spH t = H at *
    simp only [cPl, cBl, eBl, cT, eTs, List.cons_append, List.nil_append] at hS hG hO hAl
    simp -dsimp [x_posit_place_good, cPl, cBl, cT]
    refine call_of hS ?_
    simp -dsimp
    refine call_of hG ?_
    cases hg : guardB p H with
    | true =>
      obtain ⟨j, hj, hja⟩ : ∃ j, guardJ p H = some j ∧ ∃ a, p.args[j]? = some a := by
        rw [guardB] at hg
        cases hJ : guardJ p H with
        | none => rw [hJ] at hg; cases hg
        | some j =>
          rw [hJ] at hg
          cases ha : p.args[j]? with
          | none => simp [ha] at hg
          | some a => exact ⟨j, rfl, a, ha⟩
      obtain ⟨a, ha⟩ := hja
      have hN' : guardN p H = j := by rw [guardN, hj]
      have hjl := (List.getElem?_eq_some_iff.1 ha).1
      rw [hg, if_pos rfl, hN', Int.toNat_natCast, ha] at hW
      simp only at hW
      rw [hN']
      simp -dsimp [eArs, ha, eAr, cAr, cT, eTs]
      by_cases hc : A.length = a.dom.length
      · have hc' : (A.length : Int) = a.dom.length := by omega
        have hw : W = A.all (cleanF n p) := by rw [hW]; simp [hc]
        simp -dsimp [hc', hc]
        refine call_of hAl ?_
        simp -dsimp [hc', hc, hw]
      · have hc' : ¬ (A.length : Int) = a.dom.length := by omega
        have hw : W = false := by rw [hW]; simp [hc]
        simp -dsimp [hc', hc, hw]
    | false =>
      rw [hg, if_neg (by simp)] at hW
      simp -dsimp
      by_cases c1 : H.kind = 3
      case neg =>
        rw [if_neg c1] at hW
        simp -dsimp [c1, hW]
      rw [if_pos c1] at hW
      simp -dsimp [c1]
      refine call_of hO ?_
      have hk := of_kind (b := p.b) (base := p.base) (n := H.num)
      generalize hof : ofM p.b p.base H.num = o at *
      by_cases c2 : o.1 = 5
      case neg =>
        rw [if_neg c2] at hW
        simp -dsimp [c1, c2, hW]
      rw [if_pos c2] at hW
      obtain ⟨k0, k1⟩ := hk (by omega)
      have hlt : o.2.toNat < p.b.cons.length := by omega
      have hget : p.b.cons[o.2.toNat]? = some p.b.cons[o.2.toNat] := List.getElem?_eq_getElem hlt
      rw [hget] at hW
      generalize hS' : p.b.cons[o.2.toNat] = S at *
      have hsm : S.args.length ≤ 1000000 := hcl S (List.mem_of_getElem? hget)
      by_cases c3 : o.2 < cons
      case neg =>
        rw [if_neg c3] at hW
        have c3' : cons ≤ o.2 := by omega
        simp -dsimp [c1, c2, c3, c3', hW]
      rw [if_pos c3] at hW
      simp only at hW
      have c3' : ¬ cons ≤ o.2 := by omega
      simp -dsimp [c1, c2, c3, c3', k0, hget, hlt, hS', eCos, eCo, cCo, eArs, cT]
      by_cases c4 : A.length = S.args.length
      case neg =>
        rw [if_neg c4] at hW
        have c4' : ¬ (A.length : Int) = S.args.length := by omega
        simp -dsimp [c1, c2, c3, c4, c4', hget, hW]
      rw [if_pos c4] at hW
      have c4' : (A.length : Int) = S.args.length := by omega
      simp -dsimp [c1, c2, c3, c3', c4', k0, hget, hlt, hS', eCos, eCo, cCo, eArs, cT]
      have hfit : ∀ (i : Nat) (hi : i < S.args.length), (match A[i]? with | some x => fitA (cleanF n p) (fun x => goodF n p x cons) p S.args[i] x | none => false) = fitA (cleanF n p) (fun x => goodF n p x cons) p S.args[i] (A[i]'(by omega)) := fun i hi => by rw [List.getElem?_eq_getElem (by omega : i < A.length)]
      have hVt : (∀ (i : Nat) (hi : i < S.args.length), fitA (cleanF n p) (fun x => goodF n p x cons) p S.args[i] (A[i]'(by omega)) = true) → W = true := fun h => by
        rw [hW]
        exact (allI_iff _ _ _).2 fun j hj => by simp only [Nat.zero_add]; rw [hfit j hj]; exact h j hj
      have hVf : ∀ (i : Nat) (hi : i < S.args.length), fitA (cleanF n p) (fun x => goodF n p x cons) p S.args[i] (A[i]'(by omega)) = false → W = false := fun i hi h => by
        rw [hW, Bool.eq_false_iff]
        intro h2
        have := (allI_iff _ _ _).1 h2 i hi
        simp only [Nat.zero_add] at this
        rw [hfit i hi, h] at this
        cases this
      refine wp_upto S.args.length (fun i st => st.s 2 = .d (.int .i64 cons) ∧ st.s 3 = .ptr 3 1 0 ∧ st.s 8 = .d (eTs A) ∧ st.s 83 = .d (eArs S.args) ∧ st.s 84 = .d (.int .i64 S.args.length) ∧ st.s 85 = .d (.int .i64 i) ∧
        st.h 3 = ⟨1, .box [.d (eSos p.b.sorts), .d (eCos p.b.cons), .d (.int .i64 p.b.elim), .d (.int .i64 p.base), .d (eArs p.args), .d (.int .i64 p.more)] false⟩ ∧
        ∀ (j : Nat) (hj : j < S.args.length), j < i → fitA (cleanF n p) (fun x => goodF n p x cons) p S.args[j] (A[j]'(by omega)) = true) ?_ ?_
      · simp -dsimp [eTs, eArs, eCos]
      · rintro i ⟨s, hp⟩ hi ⟨g2, g3, g8, g83, g84, g85, k3, g⟩
        dsimp only at g2 g3 g8 g83 g84 g85 k3
        simp only [eTs, eArs] at g8 g83
        rcases Nat.lt_or_ge i S.args.length with hlt2 | hge
        · have w1 : IntKind.i64.wrap ((i : Int) + 1) = (i : Int) + 1 := wrap_id (by omega) (by omega)
          have hiA : i < A.length := by omega
          obtain ⟨x1, x2⟩ := hm _ (List.getElem_mem hiA)
          have hcv := hVf i hlt2
          have hfi : ∀ h : fitA (cleanF n p) (fun x => goodF n p x cons) p S.args[i] A[i] = true, ∀ (j : Nat) (hj : j < S.args.length), j < i + 1 → fitA (cleanF n p) (fun x => goodF n p x cons) p S.args[j] (A[j]'(by omega)) = true := fun h j hj hji => by
            rcases Nat.lt_or_ge j i with h' | h'
            · exact g j hj h'
            · have : j = i := by omega
              subst this
              exact h
          have hGx := guarded_ok p A[i] h0 (by omega) hl x2.num64
          have hCx := clean_ok n (by omega) p A[i] h0 (by omega) hl hsl x2 (by omega)
          have hDx := ih (by omega) p A[i] cons h0 (by omega) hl hsl hcl x2 (by omega)
          generalize hX : A[i] = X at *
          generalize hAr : S.args[i] = R at *
          simp only [cPl, cBl, cT, List.cons_append, List.nil_append] at hGx hCx hDx
          simp -dsimp [g2, g3, g8, g83, g84, g85, k3, hlt2, hiA, hX, hAr, eAr, cAr, cT]
          refine call_of hGx ?_
          simp -dsimp [g2, g3, g8, g83, g84, g85, k3, hlt2, hiA, hX, hAr, eAr, cAr, cT]
          cases hr : R.rc with
          | false =>
            simp -dsimp [g2, g3, g8, g83, g84, g85, k3, hlt2, hiA, hX, hAr, eAr, cAr, cT]
            refine call_of hCx ?_
            cases hc : cleanF n p X with
            | false =>
              have hw := hcv (by simp [fitA, hr, hc])
              simp -dsimp [g2, g3, g8, g83, g84, g85, k3, hlt2, hiA, hX, hAr, eAr, cAr, cT, hr, hw]
            | true =>
              have hnx := hfi (by simp [fitA, hr, hc])
              simp -dsimp [g2, g3, g8, g83, g84, g85, k3, hlt2, hiA, hX, hAr, eAr, cAr, cT, hr, w1, eTs, eArs]
              exact hnx
          | true =>
            by_cases hd : R.dom.length = 0
            · have hd' : (R.dom.length : Int) = 0 := by omega
              have hdn : R.dom = [] := List.length_eq_zero_iff.1 hd
              simp -dsimp [g2, g3, g8, g83, g84, g85, k3, hlt2, hiA, hX, hAr, eAr, cAr, cT, hr, hdn, eTs]
              refine call_of hDx ?_
              cases hc : goodF n p X cons with
              | false =>
                have hw := hcv (by simp [fitA, hr, hd, hc])
                simp -dsimp [g2, g3, g8, g83, g84, g85, k3, hlt2, hiA, hX, hAr, eAr, cAr, cT, hr, hdn, eTs, hw]
              | true =>
                have hnx := hfi (by simp [fitA, hr, hd, hc])
                simp -dsimp [g2, g3, g8, g83, g84, g85, k3, hlt2, hiA, hX, hAr, eAr, cAr, cT, hr, hdn, w1, eTs, eArs]
                exact hnx
            · have hd' : ¬ (R.dom.length : Int) = 0 := by omega
              have hd2 : (0 : Int) < R.dom.length := by omega
              have hdn : ¬ R.dom = [] := fun h => hd (by rw [h]; rfl)
              have hd3 : 0 < R.dom.length := by omega
              cases hc : guardB p X with
              | false =>
                have hw := hcv (by simp [fitA, hr, hdn, hc])
                simp -dsimp [g2, g3, g8, g83, g84, g85, k3, hlt2, hiA, hX, hAr, eAr, cAr, cT, hr, hdn, hd', hd2, hd3, eTs, hw]
              | true =>
                have hnx := hfi (by simp [fitA, hr, hdn, hc])
                simp -dsimp [g2, g3, g8, g83, g84, g85, k3, hlt2, hiA, hX, hAr, eAr, cAr, cT, hr, hdn, hd', hd2, hd3, w1, eTs, eArs]
                exact hnx
        · have e : i = S.args.length := by omega
          subst e
          have hz := hVt fun j hj => g j hj hj
          simp -dsimp [g2, g3, g8, g83, g84, g85, k3, hz]
/-- Are the indices of a sort as they are to be? -/
def indF (n : Nat) (p : Pl) (so : So) (l : List T) (cons : Int) : Bool := allI (fun i a => match l[i]? with | some x => if a.rc then goodF n p x cons else cleanF n p x | none => false) 0 so.idx
theorem indices_ok (n : Nat) (hN : n ≤ 1000000) (p : Pl) (k : Int) (so : So) (hk0 : 0 ≤ k) (hk : p.b.sorts[k.toNat]? = some so) (l : List T) (cons : Int) (hll : l.length = so.idx.length) (h0 : 0 ≤ p.more) (hm : p.more ≤ 1000000) (hl : p.args.length ≤ 1000000) (hsl : ∀ s ∈ p.b.sorts, s.idx.length ≤ 1000000) (hcl : ∀ c ∈ p.b.cons, c.args.length ≤ 1000000)
    (ol : ∀ x ∈ l, okT x ∧ nodes x ≤ n) : Pure Tryz.prog n_posit_place_indices [.agg (cPl p), .int .i64 k, eTs l, .int .i64 cons] [.bool (indF n p so l cons)] := by
  refine p_posit_place_indices rfl fun hs => ?_
  have hsm := hsl so (List.mem_of_getElem? hk)
  have hklt := (List.getElem?_eq_some_iff.1 hk).1
  simp -dsimp [x_posit_place_indices, cPl, cBl, eTs]
  simp -dsimp [eSos, hk0, hk, eSo, cSo, cT, eArs]
  generalize hV : indF n p so l cons = V
  have hfit : ∀ (i : Nat) (hi : i < so.idx.length), (match l[i]? with | some x => if so.idx[i].rc then goodF n p x cons else cleanF n p x | none => false) = if so.idx[i].rc then goodF n p (l[i]'(by omega)) cons else cleanF n p (l[i]'(by omega)) := fun i hi => by rw [List.getElem?_eq_getElem (by omega : i < l.length)]
  have hVt : (∀ (i : Nat) (hi : i < so.idx.length), (if so.idx[i].rc then goodF n p (l[i]'(by omega)) cons else cleanF n p (l[i]'(by omega))) = true) → V = true := fun h => by
    rw [← hV]
    exact (allI_iff _ _ _).2 fun j hj => by simp only [Nat.zero_add]; rw [hfit j hj]; exact h j hj
  have hVf : ∀ (i : Nat) (hi : i < so.idx.length), (if so.idx[i].rc then goodF n p (l[i]'(by omega)) cons else cleanF n p (l[i]'(by omega))) = false → V = false := fun i hi h => by
    rw [← hV, Bool.eq_false_iff]
    intro h2
    have := (allI_iff _ _ _).1 h2 i hi
    simp only [Nat.zero_add] at this
    rw [hfit i hi, h] at this
    cases this
  refine wp_upto so.idx.length (fun i st => st.s 2 = .d (eTs l) ∧ st.s 3 = .d (.int .i64 cons) ∧ st.s 4 = .ptr 4 1 0 ∧ st.s 17 = .d (eArs so.idx) ∧ st.s 18 = .d (.int .i64 so.idx.length) ∧ st.s 19 = .d (.int .i64 i) ∧
    st.h 4 = ⟨1, .box [.d (eSos p.b.sorts), .d (eCos p.b.cons), .d (.int .i64 p.b.elim), .d (.int .i64 p.base), .d (eArs p.args), .d (.int .i64 p.more)] false⟩ ∧
    ∀ (j : Nat) (hj : j < so.idx.length), j < i → (if so.idx[j].rc then goodF n p (l[j]'(by omega)) cons else cleanF n p (l[j]'(by omega))) = true) ?_ ?_
  · simp -dsimp [eTs, eArs, eSos]
  · rintro i ⟨s, hp⟩ hi ⟨g1, g2, g3, g17, g18, g19, k4, g⟩
    dsimp only at g1 g2 g3 g17 g18 g19 k4
    simp only [eTs, eArs] at g1 g17
    rcases Nat.lt_or_ge i so.idx.length with hlt | hge
    · have w1 : IntKind.i64.wrap ((i : Int) + 1) = (i : Int) + 1 := wrap_id (by omega) (by omega)
      have hiA : i < l.length := by omega
      obtain ⟨x1, x2⟩ := ol _ (List.getElem_mem hiA)
      have hcv := hVf i hlt
      have hfi : ∀ h : (if so.idx[i].rc then goodF n p l[i] cons else cleanF n p l[i]) = true, ∀ (j : Nat) (hj : j < so.idx.length), j < i + 1 → (if so.idx[j].rc then goodF n p (l[j]'(by omega)) cons else cleanF n p (l[j]'(by omega))) = true := fun h j hj hji => by
        rcases Nat.lt_or_ge j i with h' | h'
        · exact g j hj h'
        · have : j = i := by omega
          subst this
          exact h
      have hCx := clean_ok n hN p l[i] h0 (by omega) hl hsl x1 x2
      have hDx := good_ok n hN p l[i] cons h0 (by omega) hl hsl hcl x1 x2
      generalize hX : l[i] = X at *
      generalize hAr : so.idx[i] = R at *
      simp only [cPl, cBl, cT, List.cons_append, List.nil_append] at hCx hDx
      simp -dsimp [g1, g2, g3, g17, g18, g19, k4, hlt, hiA, hX, hAr, eAr, cAr, cT]
      cases hr : R.rc with
      | false =>
        rw [hr] at hcv hfi
        simp only [Bool.false_eq_true, if_false] at hcv hfi
        simp -dsimp [g1, g2, g3, g17, g18, g19, k4, hlt, hiA, hX, hAr, eAr, cAr, cT, hr]
        refine call_of hCx ?_
        cases hc : cleanF n p X with
        | false => simp -dsimp [g1, g2, g3, g17, g18, g19, k4, hlt, hiA, hX, hAr, eAr, cAr, cT, hr, hcv hc]
        | true =>
          have hnx := hfi hc
          simp -dsimp [g1, g2, g3, g17, g18, g19, k4, hlt, hiA, hX, hAr, eAr, cAr, cT, hr, w1, eTs, eArs]
          simpa using hnx
      | true =>
        rw [hr] at hcv hfi
        simp only [if_true] at hcv hfi
        simp -dsimp [g1, g2, g3, g17, g18, g19, k4, hlt, hiA, hX, hAr, eAr, cAr, cT, hr]
        refine call_of hDx ?_
        cases hc : goodF n p X cons with
        | false => simp -dsimp [g1, g2, g3, g17, g18, g19, k4, hlt, hiA, hX, hAr, eAr, cAr, cT, hr, hcv hc]
        | true =>
          have hnx := hfi hc
          simp -dsimp [g1, g2, g3, g17, g18, g19, k4, hlt, hiA, hX, hAr, eAr, cAr, cT, hr, w1, eTs, eArs]
          simpa using hnx
    · have e : i = so.idx.length := by omega
      subst e
      have hz := hVt fun j hj => g j hj hj
      simp -dsimp [g1, g2, g3, g17, g18, g19, k4, hz]
end
end Ev
end Go.Proofs.YtjebpfhffenbnaaGreat
