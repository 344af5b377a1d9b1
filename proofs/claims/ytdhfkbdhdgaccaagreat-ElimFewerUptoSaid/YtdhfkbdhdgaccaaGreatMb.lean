/- Texts of this claim, in one. -/
import Derived.Test.YtdhfkbdhdgaccaaGreatMa
import Derived.Test.YtdhfkbdhdgaccaaGreatXe
import Derived.Test.YtdhfkbdhdgaccaaGreatXc
import Derived.Test.YtdhfkbdhdgaccaaGreatXs
set_option maxRecDepth 100000
set_option linter.unusedSimpArgs false
set_option linter.unusedVariables false
namespace Go.Proofs.YtdhfkbdhdgaccaaGreat
namespace Ev
open Go
section
section
attribute [local simp] zae zaf tk tn tks zb1 zcb za9 zba zbb zbz
def fitA (cl gd : T → Bool) (p : Pl) (a : Ar) (x : T) : Bool := if a.rc then if a.dom.length = 0 then gd x else za0 p x else cl x
def zya (cl gd : T → Bool) (p : Pl) (t : T) (cons : Int) : Bool :=
  if za0 p (spH t) then (match p.args[(zcu p (spH t)).toNat]? with
    | some a => decide ((spA t).reverse.length = a.dom.length) && (spA t).reverse.all cl
    | none => false)
  else if (spH t).kind = 3 then if (ofM p.b p.base (spH t).num).1 = 5 then if (ofM p.b p.base (spH t).num).2 < cons then match p.b.cons[(ofM p.b p.base (spH t).num).2.toNat]? with
      | some c => if (spA t).reverse.length = c.args.length then allI (fun i a => match (spA t).reverse[i]? with | some x => fitA cl gd p a x | none => false) 0 c.args else false
      | none => false else false else false
  else false
def zcv : Nat → Pl → T → Int → Bool
  | 0, _, _, _ => true
  | n + 1, p, t, cons => zya (zah n p) (fun x => zcv n p x cons) p t cons
theorem zPy (n : Nat) (hN : n ≤ 1000000) : ∀ (p : Pl) (t : T) (cons : Int), 0 ≤ p.more → p.more + zac t ≤ 1000000000 → p.args.length ≤ 1000000 → (∀ s ∈ p.b.sorts, s.idx.length ≤ 1000000) → (∀ c ∈ p.b.cons, c.args.length ≤ 1000000) → okT t → zac t ≤ n →
    Pure Tryz.prog zex [.agg (cPl p), .agg (cT t), .int .i64 cons] [.bool (zcv n p t cons)] := by
  induction n with
  | zero => intro p t _ _ _ _ _ _ _ h; have := zf0 t; omega
  | succ n ih =>
    intro p t cons h0 h1 hl hsl hcl ot hn
    have hA := zuh t
    have hS := zvo t (by omega)
    obtain ⟨m1, m2⟩ := zh0 t
    obtain ⟨oH, m3⟩ := m2 ot
    have hm : ∀ x ∈ (spA t).reverse, zac x < zac t ∧ okT x := fun x hx => ⟨m1 x (by simpa using hx), m3 x (by simpa using hx)⟩
    have hG := zlk p (spH t) h0 (by omega) hl oH.num64
    have hO := zL8 p.b p.base (spH t).num
    have hAl := zD1 p (spA t).reverse (zah n p) (by rw [List.length_reverse]; omega) (fun x hx => zms n (by omega) p x h0 (by have := (hm x hx).1; omega) hl hsl (hm x hx).2 (by have := (hm x hx).1; omega))
    refine zr5 rfl fun hs => ?_
    have hV : zcv (n + 1) p t cons = zya (zah n p) (fun x => zcv n p x cons) p t cons := rfl
    have hW : zya (zah n p) (fun x => zcv n p x cons) p t cons = if za0 p (spH t) then (match p.args[(zcu p (spH t)).toNat]? with
        | some a => decide ((spA t).reverse.length = a.dom.length) && (spA t).reverse.all (zah n p)
        | none => false)
      else if (spH t).kind = 3 then if (ofM p.b p.base (spH t).num).1 = 5 then if (ofM p.b p.base (spH t).num).2 < cons then match p.b.cons[(ofM p.b p.base (spH t).num).2.toNat]? with
          | some c => if (spA t).reverse.length = c.args.length then allI (fun i a => match (spA t).reverse[i]? with | some x => fitA (zah n p) (fun x => zcv n p x cons) p a x | none => false) 0 c.args else false
          | none => false else false else false
      else false := by rw [zya]
    rw [hV]
    rw [← List.length_reverse] at hA
    generalize zya (zah n p) (fun x => zcv n p x cons) p t cons = W at *
    generalize (spA t).reverse = A at *
    generalize spH t = H at *
    simp only [cPl, cBl, eBl, cT, eTs, List.cons_append, List.nil_append] at hS hG hO hAl
    simp -dsimp [zhl, cPl, cBl, cT]
    refine zaa hS ?_
    simp -dsimp
    refine zaa hG ?_
    cases hg : za0 p H with
    | true =>
      obtain ⟨j, hj, hja⟩ : ∃ j, zc3 p H = some j ∧ ∃ a, p.args[j]? = some a := by
        rw [za0] at hg
        cases hJ : zc3 p H with
        | none => rw [hJ] at hg; cases hg
        | some j =>
          rw [hJ] at hg
          cases ha : p.args[j]? with
          | none => simp [ha] at hg
          | some a => exact ⟨j, rfl, a, ha⟩
      obtain ⟨a, ha⟩ := hja
      have hN' : zcu p H = j := by rw [zcu, hj]
      have hjl := (List.getElem?_eq_some_iff.1 ha).1
      rw [hg, if_pos rfl, hN', Int.toNat_natCast, ha] at hW
      simp only at hW
      rw [hN']
      simp -dsimp [eArs, ha, eAr, cAr, cT, eTs]
      by_cases hc : A.length = a.dom.length
      · have hc' : (A.length : Int) = a.dom.length := by omega
        have hw : W = A.all (zah n p) := by rw [hW]; simp [hc]
        simp -dsimp [hc', hc]
        refine zaa hAl ?_
        simp -dsimp [hc', hc, hw]
      · have hc' : ¬ (A.length : Int) = a.dom.length := by omega
        have hw : W = false := by rw [hW]; simp [hc]
        simp -dsimp [hc', hc, hw]
    | false =>
      rw [hg, if_neg (by simp)] at hW
      simp -dsimp
      by_cases c1 : H.kind = 3
      case neg =>
        rw [if_neg c1] at hW
        simp -dsimp [c1, hW]
      rw [if_pos c1] at hW
      simp -dsimp [c1]
      refine zaa hO ?_
      have hk := zDn (b := p.b) (base := p.base) (n := H.num)
      generalize hof : ofM p.b p.base H.num = o at *
      by_cases c2 : o.1 = 5
      case neg =>
        rw [if_neg c2] at hW
        simp -dsimp [c1, c2, hW]
      rw [if_pos c2] at hW
      obtain ⟨k0, k1⟩ := hk (by omega)
      have hlt : o.2.toNat < p.b.cons.length := by omega
      have hget : p.b.cons[o.2.toNat]? = some p.b.cons[o.2.toNat] := List.getElem?_eq_getElem hlt
      rw [hget] at hW
      generalize hS' : p.b.cons[o.2.toNat] = S at *
      have hsm : S.args.length ≤ 1000000 := hcl S (List.mem_of_getElem? hget)
      by_cases c3 : o.2 < cons
      case neg =>
        rw [if_neg c3] at hW
        have c3' : cons ≤ o.2 := by omega
        simp -dsimp [c1, c2, c3, c3', hW]
      rw [if_pos c3] at hW
      simp only at hW
      have c3' : ¬ cons ≤ o.2 := by omega
      simp -dsimp [c1, c2, c3, c3', k0, hget, hlt, hS', eCos, eCo, cCo, eArs, cT]
      by_cases c4 : A.length = S.args.length
      case neg =>
        rw [if_neg c4] at hW
        have c4' : ¬ (A.length : Int) = S.args.length := by omega
        simp -dsimp [c1, c2, c3, c4, c4', hget, hW]
      rw [if_pos c4] at hW
      have c4' : (A.length : Int) = S.args.length := by omega
      simp -dsimp [c1, c2, c3, c3', c4', k0, hget, hlt, hS', eCos, eCo, cCo, eArs, cT]
      have hfit : ∀ (i : Nat) (hi : i < S.args.length), (match A[i]? with | some x => fitA (zah n p) (fun x => zcv n p x cons) p S.args[i] x | none => false) = fitA (zah n p) (fun x => zcv n p x cons) p S.args[i] (A[i]'(by omega)) := fun i hi => by rw [List.getElem?_eq_getElem (by omega : i < A.length)]
      have hVt : (∀ (i : Nat) (hi : i < S.args.length), fitA (zah n p) (fun x => zcv n p x cons) p S.args[i] (A[i]'(by omega)) = true) → W = true := fun h => by
        rw [hW]
        exact (zan _ _ _).2 fun j hj => by simp only [Nat.zero_add]; rw [hfit j hj]; exact h j hj
      have hVf : ∀ (i : Nat) (hi : i < S.args.length), fitA (zah n p) (fun x => zcv n p x cons) p S.args[i] (A[i]'(by omega)) = false → W = false := fun i hi h => by
        rw [hW, Bool.eq_false_iff]
        intro h2
        have := (zan _ _ _).1 h2 i hi
        simp only [Nat.zero_add] at this
        rw [hfit i hi, h] at this
        cases this
      refine zam S.args.length (fun i st => st.s 2 = .d (.int .i64 cons) ∧ st.s 3 = .ptr 3 1 0 ∧ st.s 8 = .d (eTs A) ∧ st.s 83 = .d (eArs S.args) ∧ st.s 84 = .d (.int .i64 S.args.length) ∧ st.s 85 = .d (.int .i64 i) ∧
        st.h 3 = ⟨1, .box [.d (eSos p.b.sorts), .d (eCos p.b.cons), .d (.int .i64 p.b.elim), .d (.int .i64 p.base), .d (eArs p.args), .d (.int .i64 p.more)] false⟩ ∧
        ∀ (j : Nat) (hj : j < S.args.length), j < i → fitA (zah n p) (fun x => zcv n p x cons) p S.args[j] (A[j]'(by omega)) = true) ?_ ?_
      · simp -dsimp [eTs, eArs, eCos]
      · rintro i ⟨s, hp⟩ hi ⟨g2, g3, g8, g83, g84, g85, k3, g⟩
        dsimp only at g2 g3 g8 g83 g84 g85 k3
        simp only [eTs, eArs] at g8 g83
        rcases Nat.lt_or_ge i S.args.length with hlt2 | hge
        · have w1 : IntKind.i64.wrap ((i : Int) + 1) = (i : Int) + 1 := zad (by omega) (by omega)
          have hiA : i < A.length := by omega
          obtain ⟨x1, x2⟩ := hm _ (List.getElem_mem hiA)
          have hcv := hVf i hlt2
          have hfi : ∀ h : fitA (zah n p) (fun x => zcv n p x cons) p S.args[i] A[i] = true, ∀ (j : Nat) (hj : j < S.args.length), j < i + 1 → fitA (zah n p) (fun x => zcv n p x cons) p S.args[j] (A[j]'(by omega)) = true := fun h j hj hji => by
            rcases Nat.lt_or_ge j i with h' | h'
            · exact g j hj h'
            · have : j = i := by omega
              subst this
              exact h
          have hGx := zlk p A[i] h0 (by omega) hl x2.num64
          have hCx := zms n (by omega) p A[i] h0 (by omega) hl hsl x2 (by omega)
          have hDx := ih (by omega) p A[i] cons h0 (by omega) hl hsl hcl x2 (by omega)
          generalize hX : A[i] = X at *
          generalize hAr : S.args[i] = R at *
          simp only [cPl, cBl, cT, List.cons_append, List.nil_append] at hGx hCx hDx
          simp -dsimp [g2, g3, g8, g83, g84, g85, k3, hlt2, hiA, hX, hAr, eAr, cAr, cT]
          refine zaa hGx ?_
          simp -dsimp [g2, g3, g8, g83, g84, g85, k3, hlt2, hiA, hX, hAr, eAr, cAr, cT]
          cases hr : R.rc with
          | false =>
            simp -dsimp [g2, g3, g8, g83, g84, g85, k3, hlt2, hiA, hX, hAr, eAr, cAr, cT]
            refine zaa hCx ?_
            cases hc : zah n p X with
            | false =>
              have hw := hcv (by simp [fitA, hr, hc])
              simp -dsimp [g2, g3, g8, g83, g84, g85, k3, hlt2, hiA, hX, hAr, eAr, cAr, cT, hr, hw]
            | true =>
              have hnx := hfi (by simp [fitA, hr, hc])
              simp -dsimp [g2, g3, g8, g83, g84, g85, k3, hlt2, hiA, hX, hAr, eAr, cAr, cT, hr, w1, eTs, eArs]
              exact hnx
          | true =>
            by_cases hd : R.dom.length = 0
            · have hd' : (R.dom.length : Int) = 0 := by omega
              have hdn : R.dom = [] := List.length_eq_zero_iff.1 hd
              simp -dsimp [g2, g3, g8, g83, g84, g85, k3, hlt2, hiA, hX, hAr, eAr, cAr, cT, hr, hdn, eTs]
              refine zaa hDx ?_
              cases hc : zcv n p X cons with
              | false =>
                have hw := hcv (by simp [fitA, hr, hd, hc])
                simp -dsimp [g2, g3, g8, g83, g84, g85, k3, hlt2, hiA, hX, hAr, eAr, cAr, cT, hr, hdn, eTs, hw]
              | true =>
                have hnx := hfi (by simp [fitA, hr, hd, hc])
                simp -dsimp [g2, g3, g8, g83, g84, g85, k3, hlt2, hiA, hX, hAr, eAr, cAr, cT, hr, hdn, w1, eTs, eArs]
                exact hnx
            · have hd' : ¬ (R.dom.length : Int) = 0 := by omega
              have hd2 : (0 : Int) < R.dom.length := by omega
              have hdn : ¬ R.dom = [] := fun h => hd (by rw [h]; rfl)
              have hd3 : 0 < R.dom.length := by omega
              cases hc : za0 p X with
              | false =>
                have hw := hcv (by simp [fitA, hr, hdn, hc])
                simp -dsimp [g2, g3, g8, g83, g84, g85, k3, hlt2, hiA, hX, hAr, eAr, cAr, cT, hr, hdn, hd', hd2, hd3, eTs, hw]
              | true =>
                have hnx := hfi (by simp [fitA, hr, hdn, hc])
                simp -dsimp [g2, g3, g8, g83, g84, g85, k3, hlt2, hiA, hX, hAr, eAr, cAr, cT, hr, hdn, hd', hd2, hd3, w1, eTs, eArs]
                exact hnx
        · have e : i = S.args.length := by omega
          subst e
          have hz := hVt fun j hj => g j hj hj
          simp -dsimp [g2, g3, g8, g83, g84, g85, k3, hz]
def indF (n : Nat) (p : Pl) (so : So) (l : List T) (cons : Int) : Bool := allI (fun i a => match l[i]? with | some x => if a.rc then zcv n p x cons else zah n p x | none => false) 0 so.idx
theorem zyn (n : Nat) (hN : n ≤ 1000000) (p : Pl) (k : Int) (so : So) (hk0 : 0 ≤ k) (hk : p.b.sorts[k.toNat]? = some so) (l : List T) (cons : Int) (hll : l.length = so.idx.length) (h0 : 0 ≤ p.more) (hm : p.more ≤ 1000000) (hl : p.args.length ≤ 1000000) (hsl : ∀ s ∈ p.b.sorts, s.idx.length ≤ 1000000) (hcl : ∀ c ∈ p.b.cons, c.args.length ≤ 1000000)
    (ol : ∀ x ∈ l, okT x ∧ zac x ≤ n) : Pure Tryz.prog zdl [.agg (cPl p), .int .i64 k, eTs l, .int .i64 cons] [.bool (indF n p so l cons)] := by
  refine znp rfl fun hs => ?_
  have hsm := hsl so (List.mem_of_getElem? hk)
  have hklt := (List.getElem?_eq_some_iff.1 hk).1
  simp -dsimp [zfi, cPl, cBl, eTs]
  simp -dsimp [eSos, hk0, hk, eSo, cSo, cT, eArs]
  generalize hV : indF n p so l cons = V
  have hfit : ∀ (i : Nat) (hi : i < so.idx.length), (match l[i]? with | some x => if so.idx[i].rc then zcv n p x cons else zah n p x | none => false) = if so.idx[i].rc then zcv n p (l[i]'(by omega)) cons else zah n p (l[i]'(by omega)) := fun i hi => by rw [List.getElem?_eq_getElem (by omega : i < l.length)]
  have hVt : (∀ (i : Nat) (hi : i < so.idx.length), (if so.idx[i].rc then zcv n p (l[i]'(by omega)) cons else zah n p (l[i]'(by omega))) = true) → V = true := fun h => by
    rw [← hV]
    exact (zan _ _ _).2 fun j hj => by simp only [Nat.zero_add]; rw [hfit j hj]; exact h j hj
  have hVf : ∀ (i : Nat) (hi : i < so.idx.length), (if so.idx[i].rc then zcv n p (l[i]'(by omega)) cons else zah n p (l[i]'(by omega))) = false → V = false := fun i hi h => by
    rw [← hV, Bool.eq_false_iff]
    intro h2
    have := (zan _ _ _).1 h2 i hi
    simp only [Nat.zero_add] at this
    rw [hfit i hi, h] at this
    cases this
  refine zam so.idx.length (fun i st => st.s 2 = .d (eTs l) ∧ st.s 3 = .d (.int .i64 cons) ∧ st.s 4 = .ptr 4 1 0 ∧ st.s 17 = .d (eArs so.idx) ∧ st.s 18 = .d (.int .i64 so.idx.length) ∧ st.s 19 = .d (.int .i64 i) ∧
    st.h 4 = ⟨1, .box [.d (eSos p.b.sorts), .d (eCos p.b.cons), .d (.int .i64 p.b.elim), .d (.int .i64 p.base), .d (eArs p.args), .d (.int .i64 p.more)] false⟩ ∧
    ∀ (j : Nat) (hj : j < so.idx.length), j < i → (if so.idx[j].rc then zcv n p (l[j]'(by omega)) cons else zah n p (l[j]'(by omega))) = true) ?_ ?_
  · simp -dsimp [eTs, eArs, eSos]
  · rintro i ⟨s, hp⟩ hi ⟨g1, g2, g3, g17, g18, g19, k4, g⟩
    dsimp only at g1 g2 g3 g17 g18 g19 k4
    simp only [eTs, eArs] at g1 g17
    rcases Nat.lt_or_ge i so.idx.length with hlt | hge
    · have w1 : IntKind.i64.wrap ((i : Int) + 1) = (i : Int) + 1 := zad (by omega) (by omega)
      have hiA : i < l.length := by omega
      obtain ⟨x1, x2⟩ := ol _ (List.getElem_mem hiA)
      have hcv := hVf i hlt
      have hfi : ∀ h : (if so.idx[i].rc then zcv n p l[i] cons else zah n p l[i]) = true, ∀ (j : Nat) (hj : j < so.idx.length), j < i + 1 → (if so.idx[j].rc then zcv n p (l[j]'(by omega)) cons else zah n p (l[j]'(by omega))) = true := fun h j hj hji => by
        rcases Nat.lt_or_ge j i with h' | h'
        · exact g j hj h'
        · have : j = i := by omega
          subst this
          exact h
      have hCx := zms n hN p l[i] h0 (by omega) hl hsl x1 x2
      have hDx := zPy n hN p l[i] cons h0 (by omega) hl hsl hcl x1 x2
      generalize hX : l[i] = X at *
      generalize hAr : so.idx[i] = R at *
      simp only [cPl, cBl, cT, List.cons_append, List.nil_append] at hCx hDx
      simp -dsimp [g1, g2, g3, g17, g18, g19, k4, hlt, hiA, hX, hAr, eAr, cAr, cT]
      cases hr : R.rc with
      | false =>
        rw [hr] at hcv hfi
        simp only [Bool.false_eq_true, if_false] at hcv hfi
        simp -dsimp [g1, g2, g3, g17, g18, g19, k4, hlt, hiA, hX, hAr, eAr, cAr, cT, hr]
        refine zaa hCx ?_
        cases hc : zah n p X with
        | false => simp -dsimp [g1, g2, g3, g17, g18, g19, k4, hlt, hiA, hX, hAr, eAr, cAr, cT, hr, hcv hc]
        | true =>
          have hnx := hfi hc
          simp -dsimp [g1, g2, g3, g17, g18, g19, k4, hlt, hiA, hX, hAr, eAr, cAr, cT, hr, w1, eTs, eArs]
          simpa using hnx
      | true =>
        rw [hr] at hcv hfi
        simp only [if_true] at hcv hfi
        simp -dsimp [g1, g2, g3, g17, g18, g19, k4, hlt, hiA, hX, hAr, eAr, cAr, cT, hr]
        refine zaa hDx ?_
        cases hc : zcv n p X cons with
        | false => simp -dsimp [g1, g2, g3, g17, g18, g19, k4, hlt, hiA, hX, hAr, eAr, cAr, cT, hr, hcv hc]
        | true =>
          have hnx := hfi hc
          simp -dsimp [g1, g2, g3, g17, g18, g19, k4, hlt, hiA, hX, hAr, eAr, cAr, cT, hr, w1, eTs, eArs]
          simpa using hnx
    · have e : i = so.idx.length := by omega
      subst e
      have hz := hVt fun j hj => g j hj hj
      simp -dsimp [g1, g2, g3, g17, g18, g19, k4, hz]
end
end
section
section
attribute [local simp] zae zaf tk tn tks zb1 zcb za9 zba zbb zbz
def argF (n : Nat) (b : Bl) (base : Int) (l : List Ar) (cons : Int) (i : Nat) (a : Ar) : Bool :=
  if a.rc then (allI (fun j d => zah n ⟨b, base, l.take i, (j : Int)⟩ d) 0 a.dom) && (match b.sorts[a.sort.toNat]? with
    | some so => indF n ⟨b, base, l.take i, (a.dom.length : Int)⟩ so a.idx cons
    | none => false)
  else zah n ⟨b, base, l.take i, 0⟩ a.ty
def rowF (n : Nat) (b : Bl) (base : Int) (l : List Ar) (cons : Int) : Bool := allI (fun i a => argF n b base l cons i a) 0 l
theorem zKn (n : Nat) (hN : n ≤ 1000000) (b : Bl) (base : Int) (l : List Ar) (cons : Int) (hl : l.length ≤ 1000000) (hsl : ∀ s ∈ b.sorts, s.idx.length ≤ 1000000) (hcl : ∀ c ∈ b.cons, c.args.length ≤ 1000000)
    (hty : ∀ a ∈ l, a.rc = false → okT a.ty ∧ zac a.ty ≤ n) (hrc : ∀ a ∈ l, a.rc = true → a.dom.length ≤ 60 ∧ (∀ x ∈ a.dom, okT x ∧ zac x ≤ n) ∧ (∀ x ∈ a.idx, okT x ∧ zac x ≤ n) ∧ 0 ≤ a.sort ∧ ∃ so, b.sorts[a.sort.toNat]? = some so ∧ a.idx.length = so.idx.length) :
    Pure Tryz.prog zmf [eBl b, .int .i64 base, eArs l, .int .i64 cons] [.bool (rowF n b base l cons)] := by
  refine zE1 rfl fun hs => ?_
  generalize hV : rowF n b base l cons = V
  have hVt : (∀ (i : Nat) (hi : i < l.length), argF n b base l cons i l[i] = true) → V = true := fun h => by
    rw [← hV]
    exact (zan _ _ _).2 fun j hj => by simp only [Nat.zero_add]; exact h j hj
  have hVf : ∀ (i : Nat) (hi : i < l.length), argF n b base l cons i l[i] = false → V = false := fun i hi h => by
    rw [← hV, Bool.eq_false_iff]
    intro h2
    have := (zan _ _ _).1 h2 i hi
    simp only [Nat.zero_add] at this
    rw [h] at this
    cases this
  simp -dsimp [zqr, eBl, cBl, eArs]
  refine zam l.length (fun i st => st.s 1 = .d (.int .i64 base) ∧ st.s 2 = .d (eArs l) ∧ st.s 3 = .d (.int .i64 cons) ∧ st.s 4 = .ptr 4 1 0 ∧ st.s 14 = .d (eArs l) ∧ st.s 15 = .d (.int .i64 l.length) ∧ st.s 16 = .d (.int .i64 i) ∧
    st.h 4 = ⟨1, .box [.d (eSos b.sorts), .d (eCos b.cons), .d (.int .i64 b.elim)] false⟩ ∧ ∀ (j : Nat) (hj : j < l.length), j < i → argF n b base l cons j l[j] = true) ?_ ?_
  · simp -dsimp [eArs]
  · rintro i ⟨s, hp⟩ hi ⟨g1, g2, g3, g4, g14, g15, g16, k4, g⟩
    dsimp only at g1 g2 g3 g4 g14 g15 g16 k4
    simp only [eArs] at g2 g14
    rcases Nat.lt_or_ge i l.length with hlt | hge
    · have w1 : IntKind.i64.wrap ((i : Int) + 1) = (i : Int) + 1 := zad (by omega) (by omega)
      have hile : i ≤ l.length := hi
      have hcv := hVf i hlt
      have hmem := List.getElem_mem hlt
      have h1 := hty _ hmem
      have h2 := hrc _ hmem
      have hfi : ∀ h : argF n b base l cons i l[i] = true, ∀ (j : Nat) (hj : j < l.length), j < i + 1 → argF n b base l cons j l[j] = true := fun h j hj hji => by
        rcases Nat.lt_or_ge j i with h' | h'
        · exact g j hj h'
        · have : j = i := by omega
          subst this
          exact h
      generalize hAr : l[i] = R at *
      simp -dsimp [g1, g2, g3, g4, g14, g15, g16, k4, hlt, hile, hAr, eAr, cAr, cT]
      cases hr : R.rc with
      | false =>
        obtain ⟨o1, o2⟩ := h1 hr
        have hC := zms n hN ⟨b, base, l.take i, 0⟩ R.ty (by simp) (by simp; omega) (by simp; omega) hsl o1 o2
        have hAF : argF n b base l cons i R = zah n ⟨b, base, l.take i, 0⟩ R.ty := by rw [argF, hr, if_neg (by simp)]
        rw [hAF] at hcv hfi
        simp only [cPl, cBl, cT, eArs, List.cons_append, List.nil_append, List.map_take] at hC
        simp -dsimp [g1, g2, g3, g4, g14, g15, g16, k4, hlt, hile, hAr, eAr, cAr, cT, hr]
        refine zaa hC ?_
        cases hc : zah n ⟨b, base, l.take i, 0⟩ R.ty with
        | false => simp -dsimp [g1, g2, g3, g4, g14, g15, g16, k4, hlt, hile, hAr, eAr, cAr, cT, hr, hcv hc]
        | true =>
          have hnx := hfi hc
          simp -dsimp [g1, g2, g3, g4, g14, g15, g16, k4, hlt, hile, hAr, eAr, cAr, cT, hr, w1, eArs]
          simpa using hnx
      | true =>
        obtain ⟨r1, r2, r3, r4, so, hso, r5⟩ := h2 hr
        have hAF : argF n b base l cons i R = ((allI (fun j d => zah n ⟨b, base, l.take i, (j : Int)⟩ d) 0 R.dom) && indF n ⟨b, base, l.take i, (R.dom.length : Int)⟩ so R.idx cons) := by rw [argF, hr, if_pos rfl, hso]
        rw [hAF] at hcv hfi
        simp -dsimp [g1, g2, g3, g4, g14, g15, g16, k4, hlt, hile, hAr, eAr, cAr, cT, hr]
        simp -dsimp [eTs]
        refine zam R.dom.length (fun j st => st.s 1 = .d (.int .i64 base) ∧ st.s 2 = .d (eArs l) ∧ st.s 3 = .d (.int .i64 cons) ∧ st.s 4 = .ptr 4 1 0 ∧ st.s 10 = .ptr 10 ((hp 10).ver + 1) 0 ∧ st.s 11 = .ptr 11 ((hp 11).ver + 1) 0 ∧ st.s 14 = .d (eArs l) ∧ st.s 15 = .d (.int .i64 l.length) ∧ st.s 16 = .d (.int .i64 i) ∧
          st.s 36 = .d (eTs R.dom) ∧ st.s 37 = .d (.int .i64 R.dom.length) ∧ st.s 38 = .d (.int .i64 j) ∧
          st.h 4 = ⟨1, .box [.d (eSos b.sorts), .d (eCos b.cons), .d (.int .i64 b.elim)] false⟩ ∧
          st.h 10 = ⟨(hp 10).ver + 1, .box [.d (.bool true), .d (.int .i64 R.ty.kind), .d (.int .i64 R.ty.num), .d (.sl 3 (R.ty.kids.map eT)), .d (eTs R.dom), .d (.int .i64 R.sort), .d (eTs R.idx)] false⟩ ∧
          st.h 11 = ⟨(hp 11).ver + 1, .box [.d (eSos b.sorts), .d (eCos b.cons), .d (.int .i64 b.elim), .d (.int .i64 base), .d (eArs (l.take i)), .d (.int .i64 0)] false⟩ ∧
          ∀ (q : Nat) (hq : q < R.dom.length), q < j → zah n ⟨b, base, l.take i, (q : Int)⟩ R.dom[q] = true) ?_ ?_
        · simp -dsimp [g1, g2, g3, g4, g14, g15, g16, k4, hlt, hile, hAr, eAr, cAr, cT, hr, eArs, eTs]
        · clear g1 g2 g3 g4 g14 g15 g16 k4
          rintro j ⟨s, hq⟩ hj ⟨g1, g2, g3, g4, g10, g11, g14, g15, g16, g36, g37, g38, k4, k10, k11, gd⟩
          dsimp only at g1 g2 g3 g4 g10 g11 g14 g15 g16 g36 g37 g38 k4 k10 k11
          simp only [eTs, eArs] at g2 g14 g36 k11
          rcases Nat.lt_or_ge j R.dom.length with hlt2 | hge2
          · have w2 : IntKind.i64.wrap ((j : Int) + 1) = (j : Int) + 1 := zad (by omega) (by omega)
            obtain ⟨d1, d2⟩ := r2 _ (List.getElem_mem hlt2)
            have hP := zFh ⟨b, base, l.take i, 0⟩ (j : Int) (by simp) (by simp) (by omega) (by omega)
            have hC := zms n hN ⟨b, base, l.take i, (j : Int)⟩ R.dom[j] (by simp) (by simp; omega) (by simp; omega) hsl d1 d2
            generalize hX : R.dom[j] = X at *
            simp only [cPl, cBl, cT, eArs, Pl.fwd, Int.zero_add, List.cons_append, List.nil_append, List.map_take] at hP hC
            simp -dsimp [g1, g2, g3, g4, g10, g11, g14, g15, g16, g36, g37, g38, k4, k10, k11, hlt2, hX, cT]
            refine zaa hP ?_
            simp -dsimp [g1, g2, g3, g4, g10, g11, g14, g15, g16, g36, g37, g38, k4, k10, k11, hlt2, hX, cT]
            refine zaa hC ?_
            cases hc : zah n ⟨b, base, l.take i, (j : Int)⟩ X with
            | false =>
              have hz : allI (fun j d => zah n ⟨b, base, l.take i, (j : Int)⟩ d) 0 R.dom = false := by
                rw [Bool.eq_false_iff]
                intro h
                have := (zan _ _ _).1 h j hlt2
                rw [Nat.zero_add, hX, hc] at this
                cases this
              simp -dsimp [g1, g2, g3, g4, g10, g11, g14, g15, g16, g36, g37, g38, k4, k10, k11, hcv (by rw [hz]; rfl)]
            | true =>
              simp -dsimp [g1, g2, g3, g4, g10, g11, g14, g15, g16, g36, g37, g38, k4, k10, k11, hlt2, hX, cT, w2, eTs, eArs]
              intro q hq' hqj
              rcases Nat.lt_or_ge q j with h' | h'
              · exact gd q hq' h'
              · have : q = j := by omega
                subst this
                rw [hX]; exact hc
          · have ej : j = R.dom.length := by omega
            subst ej
            have hz : allI (fun j d => zah n ⟨b, base, l.take i, (j : Int)⟩ d) 0 R.dom = true := (zan _ _ _).2 fun q hq' => by rw [Nat.zero_add]; exact gd q hq' hq'
            rw [hz, Bool.true_and] at hcv hfi
            have hP := zFh ⟨b, base, l.take i, 0⟩ (R.dom.length : Int) (by simp) (by simp) (by omega) (by omega)
            have hI := zyn n hN ⟨b, base, l.take i, (R.dom.length : Int)⟩ R.sort so r4 hso R.idx cons r5 (by simp) (by simp; omega) (by simp; omega) hsl hcl r3
            simp only [cPl, cBl, cT, eTs, eArs, Pl.fwd, Int.zero_add, List.cons_append, List.nil_append, List.map_take] at hP hI
            simp -dsimp [g1, g2, g3, g4, g10, g11, g14, g15, g16, g36, g37, g38, k4, k10, k11, eTs]
            refine zaa hP ?_
            simp -dsimp [g1, g2, g3, g4, g10, g11, g14, g15, g16, g36, g37, g38, k4, k10, k11, eTs]
            refine zaa hI ?_
            cases hc : indF n ⟨b, base, l.take i, (R.dom.length : Int)⟩ so R.idx cons with
            | false => simp -dsimp [g1, g2, g3, g4, g10, g11, g14, g15, g16, g36, g37, g38, k4, k10, k11, hcv hc]
            | true =>
              have hnx := hfi hc
              simp -dsimp [g1, g2, g3, g4, g10, g11, g14, g15, g16, g36, g37, g38, k4, k10, k11, w1, eArs]
              exact ⟨hlt, hnx⟩
    · have e : i = l.length := by omega
      subst e
      have hz := hVt fun j hj => g j hj hj
      simp -dsimp [g1, g2, g3, g4, g14, g15, g16, k4, hz]
end
end
section
section
attribute [local simp] zae zaf tk tn tks zb1 zcb za9 zba zbb zbz
def zlf (n : Nat) (b : Bl) (base : Int) (so : So) : Bool := rowF n b base so.idx 0 && (!so.dec || zah n ⟨b, base, so.idx, 0⟩ so.dty)
def conF (n : Nat) (b : Bl) (base : Int) (c : Nat) (co : Co) : Bool := rowF n b base co.args c && match b.sorts[co.sort.toNat]? with
  | some so => indF n ⟨b, base, co.args, 0⟩ so co.idx c && (!so.dec || zah n ⟨b, base, co.args, 0⟩ co.dec)
  | none => false
def posF (n : Nat) (b : Bl) (base : Int) : Bool := allI (fun _ s => zlf n b base s) 0 b.sorts && allI (fun c x => conF n b base c x) 0 b.cons
def zbl (n : Nat) (b : Bl) (base : Int) : Int := if ze9 b = 0 then if base < 0 ∨ 65535 < base then 1 else if posF n b base then 0 else 11 else ze9 b
structure Ready (n : Nat) (b : Bl) : Prop where
  s : ∀ s ∈ b.sorts, s.idx.length ≤ 1000000
  c : ∀ c ∈ b.cons, c.args.length ≤ 1000000
theorem zyr {n : Nat} (hn : 9000 ≤ n) {b : Bl} {l : List Ar} (ol : zuw l) (fl : zgg l) (hr : rowM b l = true) :
    (∀ a ∈ l, a.rc = false → okT a.ty ∧ zac a.ty ≤ n) ∧ (∀ a ∈ l, a.rc = true → a.dom.length ≤ 60 ∧ (∀ x ∈ a.dom, okT x ∧ zac x ≤ n) ∧ (∀ x ∈ a.idx, okT x ∧ zac x ≤ n) ∧ 0 ≤ a.sort ∧ ∃ so, b.sorts[a.sort.toNat]? = some so ∧ a.idx.length = so.idx.length) := by
  refine ⟨fun a ha _ => ⟨(ol.2 a ha).ty, by have := (fl.2 a ha).ty; omega⟩, fun a ha hrc => ?_⟩
  have oa := ol.2 a ha
  have fa := fl.2 a ha
  refine ⟨fa.domL, fun x hx => ⟨oa.dom.2 x hx, ?_⟩, fun x hx => ⟨oa.idx.2 x hx, ?_⟩, ?_⟩
  · have := Nat.le_trans (zcg (List.mem_map.2 ⟨x, hx, rfl⟩)) fa.dom; omega
  · have := Nat.le_trans (zcg (List.mem_map.2 ⟨x, hx, rfl⟩)) fa.idx; omega
  · rw [rowM] at hr
    split at hr
    · cases hr
    obtain ⟨i, hi, rfl⟩ := List.mem_iff_getElem.1 ha
    have hA := (zan _ _ _).1 hr i hi
    rw [Nat.zero_add, argM, if_pos hrc] at hA
    split at hA
    case isFalse => cases hA
    split at hA
    · cases hA
    split at hA
    · cases hA
    split at hA
    · cases hA
    rename_i so hso
    split at hA
    case isFalse => cases hA
    rename_i hlen
    exact ⟨by omega, so, hso, by omega⟩
theorem zj1 {b : Bl} {c : Co} (h : conM b c = true) : rowM b c.args = true ∧ 0 ≤ c.sort ∧ ∃ so, b.sorts[c.sort.toNat]? = some so ∧ c.idx.length = so.idx.length := by
  rw [conM] at h
  split at h
  · cases h
  split at h
  case isFalse => cases h
  rename_i h1
  split at h
  · cases h
  rename_i so hso
  split at h
  case isFalse => cases h
  exact ⟨h1, by omega, so, hso, by omega⟩
theorem zzl {b : Bl} {k : Nat} {s : So} (h : zgl b k s = true) : rowM b s.idx = true := by
  rw [zgl] at h
  split at h
  · assumption
  · cases h
theorem zFf (n : Nat) (hn : 9000 ≤ n) (hN : n ≤ 1000000) (b : Bl) (ob : okBl b) (fb : FineBl b) (base : Int) : Pure Tryz.prog zjl [eBl b, .int .i64 base] [.int .i64 (zbl n b base)] := by
  refine zAg rfl fun hs => ?_
  have hC := zJd b
  have hbs := fb.s
  have hbc := fb.c
  have hsl : ∀ s ∈ b.sorts, s.idx.length ≤ 1000000 := fun s hs => by have := (fb.sorts s hs).idx.1; omega
  have hcl : ∀ c ∈ b.cons, c.args.length ≤ 1000000 := fun c hc => by have := (fb.cons c hc).args.1; omega
  simp only [eBl, cBl] at hC
  generalize hE : zbl n b base = E
  simp -dsimp [zmy, eBl, cBl]
  refine zaa hC ?_
  by_cases hz : ze9 b = 0
  case neg =>
    rw [zbl, if_neg hz] at hE
    simp -dsimp [hz, ← hE]
  rw [zbl, if_pos hz] at hE
  obtain ⟨z1, z4, z8, zl, zs, zc⟩ := (za2 b).1 hz
  simp -dsimp [hz]
  by_cases b1 : base < 0
  · rw [if_pos (.inl b1)] at hE
    simp -dsimp [b1, ← hE]
  by_cases b2 : 65535 < base
  · rw [if_pos (.inr b2)] at hE
    simp -dsimp [b1, b2, ← hE]
  rw [if_neg (by omega)] at hE
  simp -dsimp [b1, b2, eSos]
  have hbad : posF n b base = false → E = 11 := fun h => by rw [← hE, h]; rfl
  have hgood : posF n b base = true → E = 0 := fun h => by rw [← hE, h]; rfl
  have hbs1 : ∀ (i : Nat) (hi : i < b.sorts.length), zlf n b base b.sorts[i] = false → E = 11 := fun i hi h => hbad (by
    rw [posF, Bool.and_eq_false_iff]
    refine .inl (Bool.eq_false_iff.2 fun h2 => ?_)
    have := (zan _ _ _).1 h2 i hi
    rw [h] at this
    cases this)
  have hbc1 : ∀ (i : Nat) (hi : i < b.cons.length), conF n b base i b.cons[i] = false → E = 11 := fun i hi h => hbad (by
    rw [posF, Bool.and_eq_false_iff]
    refine .inr (Bool.eq_false_iff.2 fun h2 => ?_)
    have := (zan _ _ _).1 h2 i hi
    rw [Nat.zero_add, h] at this
    cases this)
  refine zam b.sorts.length (fun i st => st.s 1 = .d (.int .i64 base) ∧ st.s 2 = .ptr 2 1 0 ∧ st.s 26 = .d (eSos b.sorts) ∧ st.s 27 = .d (.int .i64 b.sorts.length) ∧ st.s 28 = .d (.int .i64 i) ∧
    st.h 2 = ⟨1, .box [.d (eSos b.sorts), .d (eCos b.cons), .d (.int .i64 b.elim)] false⟩ ∧ ∀ (j : Nat) (hj : j < b.sorts.length), j < i → zlf n b base b.sorts[j] = true) ?_ ?_
  · simp -dsimp [eSos]
  · rintro i ⟨s, hp⟩ hi ⟨g1, g2, g26, g27, g28, k2, g⟩
    dsimp only at g1 g2 g26 g27 g28 k2
    simp only [eSos] at g26
    rcases Nat.lt_or_ge i b.sorts.length with hlt | hge
    · have w1 : IntKind.i64.wrap ((i : Int) + 1) = (i : Int) + 1 := zad (by omega) (by omega)
      have hcv := hbs1 i hlt
      have hmem := List.getElem_mem hlt
      have os := ob.sorts _ hmem
      have fs := fb.sorts _ hmem
      obtain ⟨q1, q2⟩ := zyr (b := b) hn os.idx fs.idx (zzl (zs i hlt))
      have hfi : zlf n b base b.sorts[i] = true → ∀ (j : Nat) (hj : j < b.sorts.length), j < i + 1 → zlf n b base b.sorts[j] = true := fun h j hj hji => by
        rcases Nat.lt_or_ge j i with h' | h'
        · exact g j hj h'
        · have : j = i := by omega
          subst this
          exact h
      generalize hS : b.sorts[i] = S at *
      have hR := zKn n hN b base S.idx 0 (by have := fs.idx.1; omega) hsl hcl q1 q2
      have hD := zms n hN ⟨b, base, S.idx, 0⟩ S.dty (by simp) (by have := fs.dty; simp; omega) (by have := fs.idx.1; simp; omega) hsl os.dty (by have := fs.dty; omega)
      simp only [cPl, cBl, eBl, cT, eArs, List.cons_append, List.nil_append] at hR hD
      simp -dsimp [g1, g2, g26, g27, g28, k2, hlt, hS, eSo, cSo, cT, eArs]
      refine zaa hR ?_
      cases hr : rowF n b base S.idx 0 with
      | false =>
        have hw := hcv (by rw [zlf, hr]; rfl)
        simp -dsimp [g1, g2, g26, g27, g28, k2, hlt, hS, eSo, cSo, cT, eArs, hw]
      | true =>
        cases hd : S.dec with
        | false =>
          have hnx := hfi (by rw [zlf, hr, hd]; rfl)
          simp -dsimp [g1, g2, g26, g27, g28, k2, hlt, hS, eSo, cSo, cT, eArs, hd, w1, eSos]
          exact hnx
        | true =>
          simp -dsimp [g1, g2, g26, g27, g28, k2, hlt, hS, eSo, cSo, cT, eArs, hd]
          refine zaa hD ?_
          cases hc : zah n ⟨b, base, S.idx, 0⟩ S.dty with
          | false =>
            have hw := hcv (by rw [zlf, hr, hd, hc]; rfl)
            simp -dsimp [g1, g2, g26, g27, g28, k2, hlt, hS, eSo, cSo, cT, eArs, hd, hw]
          | true =>
            have hnx := hfi (by rw [zlf, hr, hd, hc]; rfl)
            simp -dsimp [g1, g2, g26, g27, g28, k2, hlt, hS, eSo, cSo, cT, eArs, hd, w1, eSos]
            exact hnx
    · have e : i = b.sorts.length := by omega
      subst e
      have hzs : allI (fun _ s => zlf n b base s) 0 b.sorts = true := (zan _ _ _).2 fun j hj => g j hj hj
      simp -dsimp [g1, g2, g26, g27, g28, k2, eCos]
      refine zam b.cons.length (fun i st => st.s 1 = .d (.int .i64 base) ∧ st.s 2 = .ptr 2 1 0 ∧ st.s 56 = .d (eCos b.cons) ∧ st.s 57 = .d (.int .i64 b.cons.length) ∧ st.s 58 = .d (.int .i64 i) ∧
        st.h 2 = ⟨1, .box [.d (eSos b.sorts), .d (eCos b.cons), .d (.int .i64 b.elim)] false⟩ ∧ ∀ (j : Nat) (hj : j < b.cons.length), j < i → conF n b base j b.cons[j] = true) ?_ ?_
      · simp -dsimp [eSos, eCos, g1, g2, k2]
      · clear g1 g2 g26 g27 g28 k2
        rintro i ⟨s, hp⟩ hi ⟨g1, g2, g56, g57, g58, k2, g⟩
        dsimp only at g1 g2 g56 g57 g58 k2
        simp only [eCos] at g56
        rcases Nat.lt_or_ge i b.cons.length with hlt | hge
        · have w1 : IntKind.i64.wrap ((i : Int) + 1) = (i : Int) + 1 := zad (by omega) (by omega)
          have hcv := hbc1 i hlt
          have hmem := List.getElem_mem hlt
          have os := ob.cons _ hmem
          have fs := fb.cons _ hmem
          obtain ⟨hrow, c0, so, hso, hil⟩ := zj1 (zc _ hmem)
          obtain ⟨q1, q2⟩ := zyr (b := b) hn os.args fs.args hrow
          have hsolt := (List.getElem?_eq_some_iff.1 hso).1
          have hso' := (List.getElem?_eq_some_iff.1 hso).2
          have hfi : conF n b base i b.cons[i] = true → ∀ (j : Nat) (hj : j < b.cons.length), j < i + 1 → conF n b base j b.cons[j] = true := fun h j hj hji => by
            rcases Nat.lt_or_ge j i with h' | h'
            · exact g j hj h'
            · have : j = i := by omega
              subst this
              exact h
          generalize hS : b.cons[i] = S at *
          have hR := zKn n hN b base S.args (i : Int) (by have := fs.args.1; omega) hsl hcl q1 q2
          have hI := zyn n hN ⟨b, base, S.args, 0⟩ S.sort so c0 hso S.idx (i : Int) hil (by simp) (by simp) (by have := fs.args.1; simp; omega) hsl hcl (fun x hx => ⟨os.idx.2 x hx, by have := Nat.le_trans (zcg (List.mem_map.2 ⟨x, hx, rfl⟩)) fs.idx; omega⟩)
          have hD := zms n hN ⟨b, base, S.args, 0⟩ S.dec (by simp) (by have := fs.dec; simp; omega) (by have := fs.args.1; simp; omega) hsl os.dec (by have := fs.dec; omega)
          simp only [cPl, cBl, eBl, cT, eTs, eArs, List.cons_append, List.nil_append] at hR hI hD
          have hF : conF n b base i S = (rowF n b base S.args i && (indF n ⟨b, base, S.args, 0⟩ so S.idx i && (!so.dec || zah n ⟨b, base, S.args, 0⟩ S.dec))) := by rw [conF, hso]
          simp -dsimp [g1, g2, g56, g57, g58, k2, hlt, hS, eCo, cCo, cT, eArs]
          refine zaa hR ?_
          cases hr : rowF n b base S.args i with
          | false =>
            have hw := hcv (by rw [hF, hr]; rfl)
            simp -dsimp [g1, g2, g56, g57, g58, k2, hlt, hS, eCo, cCo, cT, eArs, hw]
          | true =>
            simp -dsimp [g1, g2, g56, g57, g58, k2, hlt, hS, eCo, cCo, cT, eArs, eTs]
            refine zaa hI ?_
            cases hii : indF n ⟨b, base, S.args, 0⟩ so S.idx i with
            | false =>
              have hw := hcv (by rw [hF, hr, hii]; rfl)
              simp -dsimp [g1, g2, g56, g57, g58, k2, hlt, hS, eCo, cCo, cT, eArs, hw]
            | true =>
              cases hd : so.dec with
              | false =>
                have hnx := hfi (by rw [hF, hr, hii, hd]; rfl)
                simp -dsimp [g1, g2, g56, g57, g58, k2, hlt, hS, eCo, cCo, cT, eArs, eSos, eTs, c0, hso, hsolt, hso', eSo, cSo, hd, w1]
                exact ⟨rfl, hnx⟩
              | true =>
                simp -dsimp [g1, g2, g56, g57, g58, k2, hlt, hS, eCo, cCo, cT, eArs, eSos, eTs, c0, hso, hsolt, hso', eSo, cSo, hd]
                refine zaa hD ?_
                cases hc : zah n ⟨b, base, S.args, 0⟩ S.dec with
                | false =>
                  have hw := hcv (by rw [hF, hr, hii, hd, hc]; rfl)
                  simp -dsimp [g1, g2, g56, g57, g58, k2, hlt, hS, eCo, cCo, cT, eArs, eSos, eTs, c0, hso, hsolt, hso', eSo, cSo, hd, hw]
                | true =>
                  have hnx := hfi (by rw [hF, hr, hii, hd, hc]; rfl)
                  simp -dsimp [g1, g2, g56, g57, g58, k2, hlt, hS, eCo, cCo, cT, eArs, eSos, eTs, c0, hso, hsolt, hso', eSo, cSo, hd, w1]
                  exact ⟨rfl, hnx⟩
        · have e : i = b.cons.length := by omega
          subst e
          have hzc : allI (fun c x => conF n b base c x) 0 b.cons = true := (zan _ _ _).2 fun j hj => by rw [Nat.zero_add]; exact g j hj hj
          have hw := hgood (by rw [posF, hzs, hzc]; rfl)
          simp -dsimp [g1, g2, g56, g57, g58, k2, hw]
end
end
section
structure Few (b b' : Bl) (base : Int) (m : Int) : Prop where
  s : b'.sorts = b.sorts
  h0 : ∀ c, n64 c → (ofM b base c).1 = 0 → (ofM b' base c).1 = 0
  h4 : ∀ c, n64 c → (ofM b base c).1 = 4 → ofM b' base c = ofM b base c
  h5 : ∀ c, n64 c → (ofM b base c).1 = 5 → (ofM b base c).2 < m → ofM b' base c = ofM b base c
  c : ∀ j : Nat, (j : Int) < m → b'.cons[j]? = b.cons[j]?
theorem zKi {b : Bl} {base n : Int} (h : (ofM b base n).1 = 4) : ∃ k : Nat, k < b.sorts.length ∧ zdf b base k = n ∧ ofM b base n = (4, (k : Int)) := by
  have h0 := h
  rw [ofM] at h
  split at h
  · cases h
  rename_i hc
  cases hs : seek n (tab b base) with
  | none => rw [hs] at h; cases h
  | some q =>
    obtain ⟨e, he, k, hk, hn, rfl⟩ := zn9 hs
    rw [hs] at h
    simp only [Option.getD_some] at h
    have e0 : ofM b base n = (e.kind, (k : Int)) := by rw [ofM, if_neg hc, hs]; rfl
    rw [h] at e0
    simp only [tab, List.mem_cons, List.not_mem_nil, or_false] at he
    rcases he with rfl | rfl | rfl | rfl
    · cases h
    · exact ⟨k, hk, hn, e0⟩
    · cases h
    · cases h
theorem zv3 {b : Bl} {base n : Int} (h : (ofM b base n).1 = 5) : ∃ k : Nat, k < b.cons.length ∧ zao b base k = n ∧ ofM b base n = (5, (k : Int)) := by
  have h0 := h
  rw [ofM] at h
  split at h
  · cases h
  rename_i hc
  cases hs : seek n (tab b base) with
  | none => rw [hs] at h; cases h
  | some q =>
    obtain ⟨e, he, k, hk, hn, rfl⟩ := zn9 hs
    rw [hs] at h
    simp only [Option.getD_some] at h
    have e0 : ofM b base n = (e.kind, (k : Int)) := by rw [ofM, if_neg hc, hs]; rfl
    rw [h] at e0
    simp only [tab, List.mem_cons, List.not_mem_nil, or_false] at he
    rcases he with rfl | rfl | rfl | rfl
    · cases h
    · cases h
    · exact ⟨k, hk, hn, e0⟩
    · cases h
theorem zNe {b : Bl} {base : Int} {e : En} (h : e ∈ tab b base) : e.kind ≠ 0 := by
  simp only [tab, List.mem_cons, List.not_mem_nil, or_false] at h
  rcases h with rfl | rfl | rfl | rfl
  · show (3 : Int) ≠ 0; decide
  · show (4 : Int) ≠ 0; decide
  · show (5 : Int) ≠ 0; decide
  · show (6 : Int) ≠ 0; decide
theorem zQe {b : Bl} (hf : Fit b) {base : Int} (h0 : 0 ≤ base) (h1 : base ≤ 65535) {m : Nat} (hm : m ≤ b.cons.length) : Few b (fewB b m) base m := by
  have hf' : Fit (fewB b m) := ⟨hf.s, by show (b.cons.take m).length ≤ 20; have := hf.c; rw [List.length_take]; omega⟩
  have hci := zl0 hf
  have hci' := zl0 hf'
  have hcl : (fewB b m).cons.length = m := by show (b.cons.take m).length = m; rw [List.length_take]; omega
  rw [hcl] at hci'
  simp only [fewB] at hci'
  refine ⟨rfl, fun c hc hz => ?_, fun c hc h4 => ?_, fun c hc h5 hlt => ?_, fun j hj => ?_⟩
  · have hr : c < base ∨ base + zlb b ≤ c := by
      by_cases hr : c < base ∨ base + zlb b ≤ c
      · exact hr
      · obtain ⟨e, he, k, _, _, e3⟩ := zPk hf h0 h1 (n := c) (by omega) (by omega)
        rw [e3] at hz
        exact absurd hz (zNe he)
    have hci2 : zlb (fewB b m) ≤ zlb b := by rw [show zlb (fewB b m) = _ from hci', hci]; omega
    rw [zGc hf' h0 hc (by omega)]
  · obtain ⟨k, k1, k2, k3⟩ := zKi h4
    rw [k3]
    have hn : 0 ≤ c := by
      rw [zpg hf h0 h1] at k2
      by_cases hcn : 0 ≤ c
      · exact hcn
      · exfalso
        have : (ofM b base c).1 = 0 := by rw [zGc hf h0 hc (.inl (by omega))]
        omega
    exact zy7 hf' hn (k := k) k2
  · obtain ⟨k, k1, k2, k3⟩ := zv3 h5
    rw [k3] at hlt ⊢
    have hkm : k < m := by simpa using hlt
    have hn : 0 ≤ c := by
      by_cases hcn : 0 ≤ c
      · exact hcn
      · exfalso
        have : (ofM b base c).1 = 0 := by rw [zGc hf h0 hc (.inl (by omega))]
        omega
    refine zp2 hf' hn (k := k) ?_
    rw [zcl hf h0 h1, if_pos (by omega)] at k2
    rw [zcl hf' h0 h1, hcl, if_pos (by omega)]
    exact k2
  · show (b.cons.take m)[j]? = b.cons[j]?
    rw [List.getElem?_take, if_pos (by omega)]
end
section
attribute [local simp] zae zaf tk tn tks za9 zba zbb zbz
theorem zd9 {t : T} : zab t = true → okT t := by
  refine T.ind (p := fun t => zab t = true → okT t) ?_ t
  intro k n ks ih h
  have hk := zbo h
  have hs := zIm _ h
  have hl := hs.kids.1
  have h1 := h
  rw [zaz] at h1
  have hkb : 0 ≤ k ∧ k ≤ 13 := by
    split at h1
    · rename_i hl'
      have : ¬ zdy k < 0 := by omega
      rw [zdy] at this
      by_cases hi : isM k = true
      · simp only [isM, Bool.and_eq_true, decide_eq_true_eq] at hi
        omega
      · repeat' split at this
        all_goals omega
    · cases h1
  have hnb : n64 n := by
    split at h1
    · split at h1
      · rw [Bool.and_eq_true] at h1
        have := (zdw n 0 65535).1 h1.1
        exact ⟨by omega, by omega⟩
      · split at h1
        · rename_i h0
          subst h0
          exact ⟨by omega, by omega⟩
        · cases h1
    · cases h1
  exact .mk k n ks ⟨by omega, by omega⟩ hnb (by omega) fun x hx => ih x hx (hk x hx)
def zg1 (t : T) : T := if zaw t = 0 then t else zT
theorem zLl (b : Bl) (base : Int) {l : List Ar} (h : zuw l) (hf : zgg l) : okTs (l.map (zcn b base)) :=
  zRs (by have := hf.1; simp; omega) fun x hx => by
    obtain ⟨a, ha, rfl⟩ := List.mem_map.1 hx
    exact zCq b base (h.2 a ha)
theorem zRm (n : Nat) (h : n ≤ 60) : Pure Tryz.prog zjy [.int .i64 n] [eTs (zc8 n)] := by
  have h1 := zJj n
  have hV : zvs n = zc8 n := by
    rw [zvs]
    split
    · have : n = 0 := by omega
      subst this
      rfl
    · rfl
  rw [hV] at h1
  exact h1
theorem zy4 (n : Nat) (h : n ≤ 60) : okTs (zc8 n) := ⟨by rw [zj3]; omega, fun x hx => by
  obtain ⟨q, hq, rfl⟩ := zIt hx
  exact zez (by omega) (by omega)⟩
end
section
attribute [local simp] zae zaf tk tn tks za9 zba zbb zbz
theorem zy5 {b : Bl} {a : Ar} {i : Int} (h : argM b a i = true) (hr : a.rc = false) : inM a.ty i = true := by
  rw [argM, hr] at h
  simp only [Bool.false_eq_true, if_false] at h
  split at h
  · assumption
  · cases h
theorem zf8 {b : Bl} {a : Ar} {i : Int} (h : argM b a i = true) (hr : a.rc = true) (h0 : 0 ≤ i) (h1 : i ≤ 1000) : zwq a.ty = true ∧ 0 ≤ a.sort ∧ a.sort < b.sorts.length ∧ a.dom.length ≤ 12 ∧
    (∃ s, b.sorts[a.sort.toNat]? = some s ∧ a.idx.length = s.idx.length) ∧ (∀ (j : Nat) (hj : j < a.dom.length), inM a.dom[j] (i + j) = true) ∧ ∀ x ∈ a.idx, inM x (i + a.dom.length) = true := by
  rw [argM, hr] at h
  simp only [if_true] at h
  split at h
  · rename_i hn
    split at h
    · cases h
    · rename_i hd
      split at h
      · cases h
      · rename_i hs
        split at h
        · cases h
        · rename_i s hs2
          split at h
          · rename_i hl
            rw [Bool.and_eq_true] at h
            have hlt := (List.getElem?_eq_some_iff.1 hs2).1
            refine ⟨hn, by omega, by omega, by omega, ⟨s, hs2, by omega⟩, fun j hj => ?_, fun x hx => ?_⟩
            · have := (zan _ _ 0).1 h.1 j hj
              rw [Nat.zero_add, zb7 (by omega) (by omega)] at this
              exact this
            · have h2 := h.2
              rw [zb7 (by omega) (by omega), allM, Bool.not_eq_true', List.any_eq_false] at h2
              have := h2 x hx
              simpa using this
          · cases h
  · cases h
theorem zcc {t : T} {v : Int} (h : inM t v = true) (h0 : 0 ≤ v) (h1 : v ≤ 60000) (hn : zac t ≤ 1048576) : wiT t v 65536 = true ∧ zab t = true ∧ zaw t = 0 := by
  obtain ⟨h2, h3⟩ := (zK0 h0 (by omega) (by omega)).1 h
  exact ⟨h3, zf5 h2, h2⟩
theorem zS5 {b : Bl} (hf : Fit b) {base k : Int} (h0 : 0 ≤ base) (h1 : base ≤ 60000) (k0 : 0 ≤ k) (k1 : k < b.sorts.length) : fmT b base k = tC (base + k) := by
  have hs := hf.s
  have e : zbe b base k = base + k := by rw [zit hf h0 (by omega), if_pos ⟨k0, k1⟩]
  rw [fmT, e]
  split
  · rfl
  · rw [show base + k = 0 by omega]
theorem zDf {n : Int} (h : 0 ≤ n ∧ n ≤ 65535) : zab (tC n) = true := zD0 (.inr rfl) h
theorem zUx {n v c : Int} (h : n < c) : wiT (tC n) v c = true := by simp [tC, wiT, h]
theorem zoc (l : List T) (t : T) (hl : ∀ x ∈ l, zab x = true) (ht : zab t = true) : zab (zbu 4 l t) = true := by
  induction l with
  | nil => exact ht
  | cons a l ih =>
    show zab (.mk 4 0 [a, zbu 4 l t]) = true
    rw [zaz]
    have h0 : zdy 4 = 2 := rfl
    rw [h0]
    simp [hl a (by simp), ih fun x hx => hl x (by simp [hx])]
theorem zF9 {l : List T} {x : T} (h : x ∈ l) : zac x ≤ (l.map zac).sum := zcg (List.mem_map.2 ⟨x, h, rfl⟩)
theorem zmr {b : Bl} (hf : Fit b) {base : Int} (h0 : 0 ≤ base) (h1 : base ≤ 60000) {a : Ar} (fa : FineAr a) {i : Nat} (hi : i ≤ 1000) (h : argM b a i = true) : wiT (zcn b base a) i 65536 = true ∧ zab (zcn b base a) = true := by
  have hfs := hf.s
  rw [zcn]
  split
  · rename_i hr
    obtain ⟨_, s0, s1, d1, _, hd, hx⟩ := zf8 h hr (by omega) (by omega)
    rw [zS5 hf h0 h1 s0 s1]
    have hd' : ∀ (j : Nat) (hj : j < a.dom.length), wiT a.dom[j] (i + j) 65536 = true ∧ zab a.dom[j] = true := fun j hj => by
      obtain ⟨q1, q2, _⟩ := zcc (hd j hj) (by omega) (by omega) (by have := zF9 (List.getElem_mem hj); have := fa.dom; omega)
      exact ⟨q1, q2⟩
    have hx' : ∀ x ∈ a.idx, wiT x (i + a.dom.length) 65536 = true ∧ zab x = true := fun x hm => by
      obtain ⟨q1, q2, _⟩ := zcc (hx x hm) (by omega) (by omega) (by have := zF9 hm; have := fa.idx; omega)
      exact ⟨q1, q2⟩
    refine ⟨zDv (.inl rfl) _ _ _ (fun j hj => (hd' j hj).1) ?_, zoc _ _ (fun x hm => ?_) (zxf _ _ (zDf (by omega)) fun x hm => (hx' x hm).2)⟩
    · rw [zSl, zUx (by omega), Bool.true_and, List.all_eq_true]
      exact fun x hm => (hx' x hm).1
    · obtain ⟨j, hj, rfl⟩ := List.mem_iff_getElem.1 hm
      exact (hd' j hj).2
  · rename_i hr
    have hr' : a.rc = false := by cases h' : a.rc <;> simp_all
    obtain ⟨q1, q2, _⟩ := zcc (zy5 h hr') (by omega) (by omega) (by have := fa.ty; omega)
    exact ⟨q1, q2⟩
theorem zkb {b : Bl} {base : Int} {a : Ar} (fa : FineAr a) : zac (zcn b base a) ≤ 20000 := by
  have h1 := fa.ty
  have h2 := fa.dom
  have h3 := fa.domL
  have h4 := fa.idx
  have h5 := fa.idxL
  rw [zcn]
  split
  · rw [zlh, zd4, fmT, tC, zaq]
    omega
  · omega
theorem zOi {l : List T} {m : Nat} (h : ∀ x ∈ l, zac x ≤ m) : (l.map zac).sum ≤ l.length * m := by
  induction l with
  | nil => simp
  | cons x l ih =>
    have h1 := h x (by simp)
    have h2 := ih fun y hy => h y (by simp [hy])
    simp only [List.map_cons, List.sum_cons, List.length_cons, Nat.succ_mul]
    omega
theorem zi7 {b : Bl} {l : List Ar} (h : rowM b l = true) : l.length ≤ 12 ∧ ∀ (j : Nat) (hj : j < l.length), argM b l[j] j = true := by
  rw [rowM] at h
  split at h
  · cases h
  · refine ⟨by omega, fun j hj => ?_⟩
    have := (zan _ _ 0).1 h j hj
    rwa [Nat.zero_add] at this
end
section
section
attribute [local simp] zae zaf tk tn tks zb1 zcb za9 zba zbb zbz
structure Vw where
  b : Bl
  base : Int
  args : List Ar
  pos : List Int
  fin : Int
def cVw (v : Vw) : List D := cBl v.b ++ [.int .i64 v.base, eArs v.args, .sl 1 (v.pos.map (.int .i64)), .int .i64 v.fin]
def posL : Int → List Ar → List Int
  | _, [] => []
  | e, a :: l => e :: posL (if a.rc then e + 2 else e + 1) l
def finL : Int → List Ar → Int
  | e, [] => e
  | e, a :: l => finL (if a.rc then e + 2 else e + 1) l
theorem zsk : ∀ (l : List Ar) (e : Int) (i : Nat) (h : i < l.length), finL e (l.take (i + 1)) = if l[i].rc then finL e (l.take i) + 2 else finL e (l.take i) + 1
  | a :: l, e, 0, h => by simp [finL]
  | a :: l, e, i + 1, h => by
    simp only [List.take_succ_cons, finL, List.getElem_cons_succ]
    exact zsk l _ i (by simpa using h)
theorem zFw : ∀ (l : List Ar) (e : Int) (i : Nat) (_ : i < l.length), posL e (l.take (i + 1)) = posL e (l.take i) ++ [finL e (l.take i)]
  | a :: l, e, 0, h => by simp [posL, finL]
  | a :: l, e, i + 1, h => by
    simp only [List.take_succ_cons, posL, finL, List.cons_append]
    rw [zFw l _ i (by simpa using h)]
theorem zgm : ∀ (l : List Ar) (e : Int), (posL e l).length = l.length
  | [], e => rfl
  | a :: l, e => by rw [posL, List.length_cons, zgm l, List.length_cons]
theorem zp7 : ∀ (l : List Ar) (e : Int), e ≤ finL e l ∧ finL e l ≤ e + 2 * l.length
  | [], e => by simp [finL]
  | a :: l, e => by
    have h := zp7 l (if a.rc then e + 2 else e + 1)
    rw [finL]
    simp only [List.length_cons]
    split <;> rename_i hr <;> simp only [hr, if_true, if_false, Bool.false_eq_true] at h <;> omega
theorem zyp : ∀ (l : List Ar) (e : Int) (i : Nat) (h : i < (posL e l).length), (posL e l)[i] = finL e (l.take i)
  | a :: l, e, 0, h => by simp [posL, finL]
  | a :: l, e, i + 1, h => by
    simp only [posL, List.getElem_cons_succ, List.take_succ_cons, finL]
    exact zyp l _ i _
theorem zJo (b : Bl) (base from_ : Int) (l : List Ar) (hl : l.length ≤ 20) (h0 : 0 ≤ from_) (h1 : from_ ≤ 1000) : Pure Tryz.prog zmz [eBl b, .int .i64 base, eArs l, .int .i64 from_] [.rp (cVw ⟨b, base, l, posL from_ l, finL from_ l⟩)] := by
  refine zEj rfl fun hs => ?_
  simp -dsimp [zrp, eBl, cBl, eArs, cVw]
  refine zam l.length (fun i st => st.s 18 = .d (eArs l) ∧ st.s 19 = .d (.int .i64 l.length) ∧ st.s 20 = .d (.int .i64 i) ∧ st.s 9 = .ptr 17 1 0 ∧ ∃ c, st.h 17 = ⟨1, .box [.d (eSos b.sorts), .d (eCos b.cons), .d (.int .i64 b.elim), .d (.int .i64 base), .d (eArs l), c, .d (.int .i64 (finL from_ (l.take i)))] false⟩ ∧
    ((i = 0 ∧ c = .fsl 1 []) ∨ (0 < i ∧ ∃ v, c = .rsl 34 v ∧ st.h 34 = ⟨v, .row 1 ((posL from_ (l.take i)).map (.int .i64)) false⟩))) ?_ ?_
  · simp -dsimp [eArs, finL]
  · rintro i ⟨s, hp⟩ hi ⟨g18, g19, g20, g9, c, k17, k34⟩
    dsimp only at g18 g19 g20 g9 k17 k34
    simp only [eArs] at g18 k17
    rcases Nat.lt_or_ge i l.length with hlt | hge
    · have w1 : IntKind.i64.wrap ((i : Int) + 1) = (i : Int) + 1 := zad (by omega) (by omega)
      have hfl := zp7 (l.take i) from_
      rw [List.length_take] at hfl
      have hfs := zsk l from_ i hlt
      have hps := zFw l from_ i hlt
      have hpl := zgm (l.take i) from_
      rw [List.length_take] at hpl
      generalize finL from_ (l.take (i + 1)) = F' at *
      generalize finL from_ (l.take i) = F at *
      generalize posL from_ (l.take (i + 1)) = P' at *
      generalize posL from_ (l.take i) = P at *
      subst hps
      generalize hR : l[i] = R at *
      have w2 : IntKind.i64.wrap (F + 1) = F + 1 := zad (by omega) (by omega)
      have w3 : IntKind.i64.wrap (F + 1 + 1) = F + 2 := by rw [zad (by omega) (by omega)]; omega
      have hr : (P.length + 1) * 8 ≤ zaj := by simp only [zaj]; omega
      have hP0 : i = 0 → P = [] := fun h => List.length_eq_zero_iff.1 (by omega)
      rcases k34 with ⟨rfl, rfl⟩ | ⟨hi0, v, rfl, k34⟩
      · have hPn := hP0 rfl
        subst hPn
        have w1' : IntKind.i64.wrap 1 = 1 := by rfl
        cases hrc : R.rc with
        | true =>
          rw [hrc, if_pos rfl] at hfs
          simp -dsimp [g18, g19, g20, g9, k17, hlt, hR, hrc, eAr, cAr, cT, w1', w2, w3, (by decide : 8 ≤ zaj), eArs, hfs]
        | false =>
          rw [hrc, if_neg (by simp)] at hfs
          simp -dsimp [g18, g19, g20, g9, k17, hlt, hR, hrc, eAr, cAr, cT, w1', w2, w3, (by decide : 8 ≤ zaj), eArs, hfs]
      · cases hrc : R.rc with
        | true =>
          rw [hrc, if_pos rfl] at hfs
          simp -dsimp [g18, g19, g20, g9, k17, k34, hlt, hR, hrc, eAr, cAr, cT, w1, w2, w3, hr, eArs, hfs]
        | false =>
          rw [hrc, if_neg (by simp)] at hfs
          simp -dsimp [g18, g19, g20, g9, k17, k34, hlt, hR, hrc, eAr, cAr, cT, w1, w2, w3, hr, eArs, hfs]
    · have e : i = l.length := by omega
      subst e
      rw [List.take_length] at k17 k34
      rcases k34 with ⟨hz, rfl⟩ | ⟨hi0, v, rfl, k34⟩
      · have hl0 : l = [] := List.length_eq_zero_iff.1 hz
        subst hl0
        simp -dsimp [g18, g19, g20, g9, k17, posL]
      · simp -dsimp [g18, g19, g20, g9, k17, k34]
def lv (l vars : Int) : T := .mk 1 (vars - 1 - l) []
theorem zle (l vars : Int) (h0 : -1000000 ≤ l) (h1 : l ≤ 1000000) (h2 : -1000000 ≤ vars) (h3 : vars ≤ 1000000) : Pure Tryz.prog zd8 [.int .i64 l, .int .i64 vars] [.agg (cT (lv l vars))] := by
  refine zBs rfl fun hs => ?_
  have w1 : IntKind.i64.wrap (vars - 1) = vars - 1 := zad (by omega) (by omega)
  have w2 : IntKind.i64.wrap (vars - 1 - l) = vars - 1 - l := zad (by omega) (by omega)
  have hV := v_ok (vars - 1 - l)
  simp only [cT, tk, tn, tks, List.map_nil] at hV
  simp -dsimp [zom, w1, w2]
  refine zaa hV ?_
  simp -dsimp [lv, cT]
def putF (pos : List Int) (first : Nat) (more vars n b : Int) : T :=
  if n < more + b ∨ (first : Int) ≤ n - (more + b) then .mk 1 n [] else .mk 1 (vars - 1 - (pos[first - 1 - (n - (more + b)).toNat]?).getD 0 + (more + b)) []
def putT (v : Vw) (t : T) (first : Nat) (more vars : Int) : T := mapT (putF v.pos first more vars) t 0
structure Pos (v : Vw) : Prop where
  len : v.pos.length ≤ 1000
  at_ : ∀ p ∈ v.pos, 0 ≤ p ∧ p ≤ 10000
theorem zPw (v : Vw) (hp : Pos v) (first : Nat) (hf : first ≤ v.pos.length) (more vars : Int) (h0 : 0 ≤ more) (h1 : more ≤ 10000) (h2 : 0 ≤ vars) (h3 : vars ≤ 10000) (n b : Int) (hn0 : 0 ≤ n) (hn1 : n ≤ 65535) (hb0 : 0 ≤ b) (hb1 : b ≤ 1099511627776) :
    Pure Tryz.prog zfr [.int .i64 n, .int .i64 b, .rp [.int .i64 more], .rp [.int .i64 first], .rp [.rp (cVw v)], .rp [.int .i64 vars]] [.agg (cT (putF v.pos first more vars n b))] := by
  refine ztn rfl fun hs => ?_
  have hpl := hp.len
  have w1 : IntKind.i64.wrap (more + b) = more + b := zad (by omega) (by omega)
  have w2 : IntKind.i64.wrap (n - (more + b)) = n - (more + b) := zad (by omega) (by omega)
  have hV1 := v_ok n
  simp only [cT, tk, tn, tks, List.map_nil] at hV1
  simp -dsimp [zig, w1]
  by_cases c1 : n < more + b
  · have e : putF v.pos first more vars n b = .mk 1 n [] := by rw [putF, if_pos (.inl c1)]
    rw [e]
    simp -dsimp [c1]
    refine zaa hV1 ?_
    simp -dsimp [cT]
  by_cases c2 : (first : Int) ≤ n - (more + b)
  · have e : putF v.pos first more vars n b = .mk 1 n [] := by rw [putF, if_pos (.inr c2)]
    rw [e]
    simp -dsimp [c1, c2, w2]
    refine zaa hV1 ?_
    simp -dsimp [cT]
  obtain ⟨j, hj⟩ : ∃ j : Nat, (first : Int) - 1 - (n - (more + b)) = j := ⟨((first : Int) - 1 - (n - (more + b))).toNat, by omega⟩
  have hjl : j < v.pos.length := by omega
  have hje : first - 1 - (n - (more + b)).toNat = j := by omega
  have hge : v.pos[j]? = some v.pos[j] := List.getElem?_eq_getElem hjl
  have e : putF v.pos first more vars n b = .mk 1 (vars - 1 - v.pos[j] + (more + b)) [] := by rw [putF, if_neg (by omega), hje, hge]; rfl
  have hpj := hp.at_ _ (List.getElem_mem hjl)
  generalize hP : v.pos[j] = p at *
  rw [e]
  have w3 : IntKind.i64.wrap ((first : Int) - 1) = (first : Int) - 1 := zad (by omega) (by omega)
  have w4 : IntKind.i64.wrap ((first : Int) - 1 - (n - (more + b))) = (j : Int) := by rw [zad (by omega) (by omega), hj]
  have w5 : IntKind.i64.wrap (vars - 1) = vars - 1 := zad (by omega) (by omega)
  have w6 : IntKind.i64.wrap (vars - 1 - p) = vars - 1 - p := zad (by omega) (by omega)
  have w7 : IntKind.i64.wrap (vars - 1 - p + (more + b)) = vars - 1 - p + (more + b) := zad (by omega) (by omega)
  have hV2 := v_ok (vars - 1 - p + (more + b))
  simp only [cT, tk, tn, tks, List.map_nil] at hV2
  simp -dsimp [c1, c2, w2, w3, w4, w5, w6, w7, cVw, cBl, hjl, hge, hP]
  refine zaa hV2 ?_
  simp -dsimp [cT]
theorem zwz (v : Vw) (hp : Pos v) (t : T) (ft : zab t = true) (hn : zac t ≤ 1000000) (first : Nat) (hf : first ≤ v.pos.length) (more vars : Int) (h0 : 0 ≤ more) (h1 : more ≤ 10000) (h2 : 0 ≤ vars) (h3 : vars ≤ 10000) :
    Pure Tryz.prog zbr [.rp (cVw v), .agg (cT t), .int .i64 first, .int .i64 more, .int .i64 vars] [.agg (cT (putT v t first more vars))] := by
  refine zv2 rfl fun hs => ?_
  have hM := zLc (putF v.pos first more vars) zfr [.rp [.int .i64 more], .rp [.int .i64 first], .rp [.rp (cVw v)], .rp [.int .i64 vars]] (fun n b hn0 hn1 hb0 hb1 => zPw v hp first hf more vars h0 h1 h2 h3 n b hn0 hn1 hb0 hb1) t 0 ft (by omega) (by omega)
  simp only [cVw, cBl, cT, List.cons_append, List.nil_append] at hM
  simp -dsimp [zjw, cT, cVw, cBl]
  refine zaa hM ?_
  simp -dsimp [cT, putT]
end
end
section
section
attribute [local simp] zae zaf tk tn tks zb1 zcb za9 zba zbb zbz
theorem zRc {f : Int → Int → T} (hf : ∀ n b : Int, 0 ≤ n → n ≤ 65535 → 0 ≤ b → b ≤ 1099511627776 → okT (f n b)) (t : T) : ∀ b : Int, zab t = true → okT t → 0 ≤ b → b + zac t ≤ 1099511627776 → okT (mapT f t b) := by
  refine T.ind (p := fun t => ∀ b : Int, zab t = true → okT t → 0 ≤ b → b + zac t ≤ 1099511627776 → okT (mapT f t b)) ?_ t
  intro k n ks ih b fm ho h0 hb
  rw [mapT]
  split
  · rename_i h1
    have hn := zdh h1 fm
    exact hf n b hn.1 hn.2 h0 (by omega)
  · cases ho with
    | mk _ _ _ hk hn hl h =>
      refine .mk k n _ hk hn (by rw [zjn]; exact hl) fun x hx => ?_
      obtain ⟨j, hj, rfl⟩ := List.mem_iff_getElem.1 hx
      rw [zjn] at hj
      rw [zo7 f k b ks 0 j hj]
      have hkn := zcx (k := k) (n := n) (List.getElem_mem hj : ks[j] ∈ ks)
      have hbl := zdk k (0 + j : Nat)
      exact ih _ (List.getElem_mem hj) _ (zbo fm _ (List.getElem_mem hj)) (h _ (List.getElem_mem hj)) (by omega) (by omega)
theorem ztv {v : Vw} (hp : Pos v) {t : T} (ft : zab t = true) (ot : okT t) (hn : zac t ≤ 1000000) (first : Nat) (more vars : Int) (h0 : 0 ≤ more) (h1 : more ≤ 10000) (h2 : 0 ≤ vars) (h3 : vars ≤ 10000) : okT (putT v t first more vars) := by
  refine zRc (fun n b a1 a2 a3 a4 => ?_) t 0 ft ot (by omega) (by omega)
  rw [putF]
  split
  · exact .mk _ _ _ (by simp only [n64]; omega) (by simp only [n64]; omega) (by simp) (by simp)
  · have hpj : 0 ≤ (v.pos[first - 1 - (n - (more + b)).toNat]?).getD 0 ∧ (v.pos[first - 1 - (n - (more + b)).toNat]?).getD 0 ≤ 10000 := by
      cases hg : v.pos[first - 1 - (n - (more + b)).toNat]? with
      | none => simp
      | some p => exact hp.at_ _ (List.mem_of_getElem? hg)
    generalize (v.pos[first - 1 - (n - (more + b)).toNat]?).getD 0 = p at hpj
    exact .mk _ _ _ (by simp only [n64]; omega) (by simp only [n64]; omega) (by simp) (by simp)
theorem zQ2 (v : Vw) (hp : Pos v) (l : List T) (hl : l.length ≤ 1000000) (hf : ∀ x ∈ l, zab x = true ∧ zac x ≤ 1000000) (first : Nat) (hfi : first ≤ v.pos.length) (more vars : Int) (h0 : 0 ≤ more) (h1 : more ≤ 10000) (h2 : 0 ≤ vars) (h3 : vars ≤ 10000) :
    Pure Tryz.prog zi0 [.rp (cVw v), eTs l, .int .i64 first, .int .i64 more, .int .i64 vars] [eTs (l.map fun x => putT v x first more vars)] := by
  refine zu3 rfl fun hs => ?_
  simp -dsimp [zja, eTs]
  refine zam l.length (fun i st => (st.s 0 = .d (.rp (cVw v)) ∧ st.s 2 = .d (.int .i64 first) ∧ st.s 3 = .d (.int .i64 more) ∧ st.s 4 = .d (.int .i64 vars)) ∧ (st.s 10 = .rsl 10 1 ∧ st.h 10 = ⟨1, .row 3 [] false⟩) ∧ (st.s 14 = .d (eTs l) ∧ st.s 15 = .d (.int .i64 l.length)) ∧ st.s 16 = .d (.int .i64 i) ∧
    ∃ u, st.s 11 = .rsl 11 u ∧ st.h 11 = ⟨u, .row 3 (((l.map fun x => putT v x first more vars).take i).map eT) false⟩) ?_ ?_
  · simp -dsimp [eTs]
  · rintro i ⟨s, hp'⟩ hi ⟨⟨g0, g2, g3, g4⟩, ⟨g10, k10⟩, ⟨g14, g15⟩, g16, u, g11, k11⟩
    dsimp only at g0 g2 g3 g4 g10 k10 g14 g15 g16 g11 k11
    simp only [eTs] at g14
    rcases Nat.lt_or_ge i l.length with hlt | hge
    · have w1 : IntKind.i64.wrap ((i : Int) + 1) = (i : Int) + 1 := zad (by omega) (by omega)
      obtain ⟨x1, x2⟩ := hf _ (List.getElem_mem hlt)
      have hP := zwz v hp l[i] x1 x2 first hfi more vars h0 h1 h2 h3
      have hn : ((l.map fun x => putT v x first more vars).take (i + 1)).map eT = ((l.map fun x => putT v x first more vars).take i).map eT ++ [.agg (cT (putT v l[i] first more vars))] := by
        rw [zd1 (List.getElem?_eq_getElem (by simpa using hlt)), List.map_append]
        simp [zcr]
      generalize hX : putT v l[i] first more vars = X at *
      generalize hM : (l.map fun x => putT v x first more vars) = M at *
      have hMl : M.length = l.length := by rw [← hM, List.length_map]
      have hr : (min i M.length + 1) * 40 ≤ zaj := by simp only [zaj]; omega
      rw [hn]
      simp only [cT] at hP
      simp -dsimp [g0, g2, g3, g4, g10, k10, g14, g15, g16, g11, k11, hlt, cT]
      refine zaa hP ?_
      simp -dsimp [g0, g2, g3, g4, g10, k10, g14, g15, g16, g11, k11, hlt, cT, hr, w1, eTs]
      try exact hlt
    · have e : i = l.length := by omega
      subst e
      rw [List.take_of_length_le (by simp)] at k11
      simp -dsimp [g0, g2, g3, g4, g10, k10, g14, g15, g16, g11, k11]
theorem zh1 (t : T) : zab t = true → zab (spH t) = true ∧ ∀ x ∈ spA t, zab x = true := by
  refine T.ind (p := fun t => zab t = true → zab (spH t) = true ∧ ∀ x ∈ spA t, zab x = true) ?_ t
  intro k n ks ih hf
  by_cases hc : k = 6 ∧ ∃ a b, ks = [a, b]
  · obtain ⟨rfl, a, b, rfl⟩ := hc
    have ha := zbo hf a (by simp)
    have hb := zbo hf b (by simp)
    obtain ⟨i1, i2⟩ := ih a (by simp) ha
    rw [(zey n a b).1, (zey n a b).2]
    refine ⟨i1, fun x hx => ?_⟩
    rcases List.mem_cons.1 hx with rfl | hx
    · exact hb
    · exact i2 x hx
  · rw [(zdv hc).1, (zdv hc).2]
    exact ⟨hf, by simp⟩
theorem zjm {p : Pl} {t : T} (h : za0 p t = true) : t.kind = 1 ∧ ∃ j : Nat, zcu p t = j ∧ j < p.args.length := by
  rw [za0] at h
  cases hJ : zc3 p t with
  | none => rw [hJ] at h; cases h
  | some j =>
    have e : zcu p t = j := by rw [zcu, hJ]
    rw [zc3] at hJ
    split at hJ
    · rename_i hh
      cases hJ
      exact ⟨hh.1, _, e, by omega⟩
    · cases hJ
def gdI (l : List Ar) (more : Int) (t : T) : Int := if za0 ⟨⟨[], [], 0⟩, 0, l, more⟩ t then zcu ⟨⟨[], [], 0⟩, 0, l, more⟩ t else -1
theorem gd_ok (l : List Ar) (more : Int) (t : T) (h0 : 0 ≤ more) (h1 : more ≤ 1000000000) (hl : l.length ≤ 1000000) (hn : n64 t.num) : Pure Tryz.prog zj6 [eArs l, .int .i64 more, .agg (cT t)] [.int .i64 (gdI l more t)] := by
  refine zwv rfl fun hs => ?_
  have hG := zlk ⟨⟨[], [], 0⟩, 0, l, more⟩ t h0 h1 hl hn
  rw [gdI]
  simp only [cPl, cBl, cT, eSos, eCos, eArs, List.map_nil, List.cons_append, List.nil_append] at hG
  simp -dsimp [zj2, cT, eArs]
  refine zaa hG ?_
  cases hb : za0 ⟨⟨[], [], 0⟩, 0, l, more⟩ t with
  | true => simp -dsimp [hb]
  | false => simp -dsimp [hb]
def shA (pt sh : T → T) : List Ar → List T → List T
  | a :: ar, x :: xs => pt x :: (if a.rc then sh x :: shA pt sh ar xs else shA pt sh ar xs)
  | _, _ => []
theorem zzn (pt sh : T → T) : ∀ (ar : List Ar) (xs : List T) (i : Nat) (h : i < ar.length) (h' : i < xs.length), shA pt sh (ar.take (i + 1)) xs = shA pt sh (ar.take i) xs ++ (pt xs[i] :: if ar[i].rc then [sh xs[i]] else [])
  | a :: ar, x :: xs, 0, h, h' => by cases hr : a.rc <;> simp [shA, hr]
  | a :: ar, x :: xs, i + 1, h, h' => by
    have ih := zzn pt sh ar xs i (by simpa using h) (by simpa using h')
    simp only [List.take_succ_cons, shA, List.getElem_cons_succ]
    rw [ih]
    cases a.rc <;> simp
theorem zwx (pt sh : T → T) : ∀ (ar : List Ar) (xs : List T), (shA pt sh ar xs).length ≤ 2 * ar.length
  | [], xs => by simp [shA]
  | a :: ar, [] => by simp [shA]
  | a :: ar, x :: xs => by
    have := zwx pt sh ar xs
    rw [shA]
    cases a.rc <;> simp <;> omega
theorem zxb {pt sh : T → T} {q : T → Prop} : ∀ (ar : List Ar) (xs : List T), (∀ (i : Nat) (h : i < ar.length) (h' : i < xs.length), q (pt xs[i]) ∧ (ar[i].rc = true → q (sh xs[i]))) → ∀ y ∈ shA pt sh ar xs, q y
  | [], xs, _, y, hy => by simp [shA] at hy
  | a :: ar, [], _, y, hy => by simp [shA] at hy
  | a :: ar, x :: xs, h, y, hy => by
    have h0 := h 0 (by simp) (by simp)
    simp only [List.getElem_cons_zero] at h0
    have ih := zxb ar xs (q := q) fun i hi hi' => by
      have := h (i + 1) (by simpa using hi) (by simpa using hi')
      simpa only [List.getElem_cons_succ] using this
    rw [shA] at hy
    cases hr : a.rc with
    | true =>
      rw [hr] at hy
      simp only [if_true, List.mem_cons] at hy
      rcases hy with rfl | rfl | hy
      · exact h0.1
      · exact h0.2 hr
      · exact ih y hy
    | false =>
      rw [hr] at hy
      simp only [Bool.false_eq_true, if_false, List.mem_cons] at hy
      rcases hy with rfl | hy
      · exact h0.1
      · exact ih y hy
def plV (v : Vw) (first : Nat) (more : Int) : Pl := ⟨v.b, v.base, v.args.take first, more⟩
def shT (v : Vw) (first : Nat) (more vars : Int) : Nat → T → T
  | 0, _ => zT
  | n + 1, t =>
    if za0 (plV v first more) (spH t) then spT (lv ((v.pos[(zcu (plV v first more) (spH t)).toNat]?).getD 0 + 1) (vars + more)) ((spA t).reverse.map fun x => putT v x first more vars)
    else spT (lv (v.b.sorts.length + (ofM v.b v.base (spH t).num).2) (vars + more)) (match v.b.cons[(ofM v.b v.base (spH t).num).2.toNat]? with
      | some c => shA (fun x => putT v x first more vars) (shT v first more vars n) c.args (spA t).reverse
      | none => [])
theorem zue {l vars : Int} (h0 : -1000000 ≤ l) (h1 : l ≤ 1000000) (h2 : -1000000 ≤ vars) (h3 : vars ≤ 1000000) : okT (lv l vars) := .mk _ _ _ (by simp only [n64]; omega) (by simp only [n64]; omega) (by simp) (by simp)
structure VwOk (v : Vw) : Prop where
  pos : Pos v
  len : v.pos.length = v.args.length
  al : v.args.length ≤ 20
  sl : v.b.sorts.length ≤ 10
  cl : v.b.cons.length ≤ 20
  ca : ∀ c ∈ v.b.cons, c.args.length ≤ 20
  si : ∀ s ∈ v.b.sorts, s.idx.length ≤ 20
theorem zF3 {n : Nat} (h : n ≤ 40) : (n + 1 + 1) * 40 ≤ zaj := by simp only [zaj]; omega
theorem zso {n : Nat} (h : n ≤ 40) (_ : True) : (n + 1) * 40 ≤ zaj := by simp only [zaj]; omega
set_option maxHeartbeats 1000000 in
theorem zL6 (v : Vw) (hv : VwOk v) (first : Nat) (hfi : first ≤ v.args.length) (more vars : Int) (h0 : 0 ≤ more) (h1 : more ≤ 1000) (h2 : 0 ≤ vars) (h3 : vars ≤ 1000) (cons : Int) : ∀ (n : Nat) (t : T), n ≤ 1000000 → zab t = true → okT t → zac t ≤ n →
    (za0 (plV v first more) (spH t) = true ∨ zcv n (plV v first more) t cons = true) →
    Pure Tryz.prog zc4 [.rp (cVw v), .agg (cT t), .int .i64 first, .int .i64 more, .int .i64 vars] [.agg (cT (shT v first more vars n t))] ∧ okT (shT v first more vars n t) := by
  intro n
  induction n with
  | zero => intro t _ _ _ h; have := zf0 t; omega
  | succ n ih =>
    intro t hN ft ot hn hg
    have hp := hv.pos
    have hpl := hv.len
    have hal := hv.al
    have hsl := hv.sl
    have hcl := hv.cl
    have hA := zuh t
    have hS := zvo t (by omega)
    obtain ⟨m1, m2⟩ := zh0 t
    obtain ⟨oH, m3⟩ := m2 ot
    obtain ⟨fH, m4⟩ := zh1 t ft
    have hm : ∀ x ∈ (spA t).reverse, zac x < zac t ∧ okT x ∧ zab x = true := fun x hx => ⟨m1 x (by simpa using hx), m3 x (by simpa using hx), m4 x (by simpa using hx)⟩
    have hAl : (spA t).reverse.length ≤ 1000000 := by rw [List.length_reverse]; omega
    have hG := gd_ok (v.args.take first) more (spH t) h0 (by omega) (by rw [List.length_take]; omega) oH.num64
    have hO := zL8 v.b v.base (spH t).num
    have hgB : za0 ⟨⟨[], [], 0⟩, 0, v.args.take first, more⟩ (spH t) = za0 (plV v first more) (spH t) := rfl
    have hgN : zcu ⟨⟨[], [], 0⟩, 0, v.args.take first, more⟩ (spH t) = zcu (plV v first more) (spH t) := rfl
    rw [gdI, hgB, hgN] at hG
    have wv : IntKind.i64.wrap (vars + more) = vars + more := zad (by omega) (by omega)
    by_cases hb : za0 (plV v first more) (spH t) = true
    · obtain ⟨_, j, hj, hjl⟩ := zjm hb
      have hjl' : j < v.pos.length := by simp only [plV, List.length_take] at hjl; omega
      have hge : v.pos[j]? = some v.pos[j] := List.getElem?_eq_getElem hjl'
      have hpj := hp.at_ _ (List.getElem_mem hjl')
      have e : shT v first more vars (n + 1) t = spT (lv (v.pos[j] + 1) (vars + more)) ((spA t).reverse.map fun x => putT v x first more vars) := by
        rw [shT, if_pos hb, hj, Int.toNat_natCast, hge]; rfl
      rw [if_pos hb, hj] at hG
      rw [e]
      have oL : okT (lv (v.pos[j] + 1) (vars + more)) := zue (by omega) (by omega) (by omega) (by omega)
      have oP : ∀ x ∈ (spA t).reverse.map (fun x => putT v x first more vars), okT x := fun y hy => by
        obtain ⟨x, hx, rfl⟩ := List.mem_map.1 hy
        exact ztv hp (hm x hx).2.2 (hm x hx).2.1 (by have := (hm x hx).1; omega) first more vars h0 (by omega) h2 (by omega)
      refine ⟨?_, zkj _ _ oL oP⟩
      have hL := zle (v.pos[j] + 1) (vars + more) (by omega) (by omega) (by omega) (by omega)
      have hPs := zQ2 v hp (spA t).reverse hAl (fun x hx => ⟨(hm x hx).2.2, by have := (hm x hx).1; omega⟩) first (by omega) more vars h0 (by omega) h2 (by omega)
      have hSp := zhh (lv (v.pos[j] + 1) (vars + more)) ((spA t).reverse.map fun x => putT v x first more vars) (by rw [List.length_map]; omega) oL ⟨by rw [List.length_map]; omega, oP⟩
      have w1 : IntKind.i64.wrap (v.pos[j] + 1) = v.pos[j] + 1 := zad (by omega) (by omega)
      generalize spT (lv (v.pos[j] + 1) (vars + more)) ((spA t).reverse.map fun x => putT v x first more vars) = R at *
      generalize ((spA t).reverse.map fun x => putT v x first more vars) = M at *
      generalize (spA t).reverse = A at *
      generalize spH t = H at *
      generalize hPj : v.pos[j] = p at *
      generalize lv (p + 1) (vars + more) = L at *
      refine zlo rfl fun hs => ?_
      simp only [cVw, cBl, cT, eTs, eArs, List.map_take, List.cons_append, List.nil_append] at hS hG hL hPs hSp
      simp -dsimp [zfn, cT, cVw, cBl]
      refine zaa hS ?_
      have hfl : (first : Int) ≤ v.args.length := by omega
      simp -dsimp [eArs, hfl, hfi]
      refine zaa hG ?_
      simp -dsimp [hjl', hge, hPj, w1, wv]
      refine zaa hL ?_
      simp -dsimp
      refine zaa hPs ?_
      simp -dsimp
      refine zaa hSp ?_
      simp -dsimp [cT]
    · have hgood := hg.resolve_left hb
      rw [zcv] at hgood
      simp only [zya] at hgood
      rw [if_neg hb] at hgood
      have hb' : za0 (plV v first more) (spH t) = false := by simpa using hb
      by_cases k3 : (spH t).kind = 3
      case neg => rw [if_neg k3] at hgood; cases hgood
      rw [if_pos k3] at hgood
      have eb : (plV v first more).b = v.b := rfl
      have ebase : (plV v first more).base = v.base := rfl
      rw [eb, ebase] at hgood
      by_cases k5 : (ofM v.b v.base (spH t).num).1 = 5
      case neg => rw [if_neg k5] at hgood; cases hgood
      rw [if_pos k5] at hgood
      by_cases k6 : (ofM v.b v.base (spH t).num).2 < cons
      case neg => rw [if_neg k6] at hgood; cases hgood
      rw [if_pos k6] at hgood
      obtain ⟨c, c1, c2, c3⟩ := zv3 k5
      have hgc : v.b.cons[c]? = some v.b.cons[c] := List.getElem?_eq_getElem c1
      have e : shT v first more vars (n + 1) t = spT (lv (v.b.sorts.length + c) (vars + more)) (shA (fun x => putT v x first more vars) (shT v first more vars n) v.b.cons[c].args (spA t).reverse) := by
        rw [shT, if_neg hb, c3]
        simp only [Int.toNat_natCast, hgc]
      rw [c3] at hgood
      simp only [Int.toNat_natCast, hgc] at hgood
      have hcal := hv.ca _ (List.getElem_mem c1)
      by_cases k7 : (spA t).reverse.length = v.b.cons[c].args.length
      case neg => rw [if_neg k7] at hgood; cases hgood
      rw [if_pos k7] at hgood
      have hrec : ∀ (i : Nat) (h : i < v.b.cons[c].args.length) (h' : i < (spA t).reverse.length), v.b.cons[c].args[i].rc = true →
          Pure Tryz.prog zc4 [.rp (cVw v), .agg (cT (spA t).reverse[i]), .int .i64 first, .int .i64 more, .int .i64 vars] [.agg (cT (shT v first more vars n (spA t).reverse[i]))] ∧ okT (shT v first more vars n (spA t).reverse[i]) := fun i h h' hr => by
        obtain ⟨x1, x2, x3⟩ := hm _ (List.getElem_mem h')
        refine ih _ (by omega) x3 x2 (by omega) ?_
        have hA := (zan _ _ _).1 hgood i h
        rw [Nat.zero_add, List.getElem?_eq_getElem h'] at hA
        simp only [fitA, hr, if_true] at hA
        split at hA
        · exact .inr hA
        · have hk := (zjm hA).1
          refine .inl ?_
          have : spH (spA t).reverse[i] = (spA t).reverse[i] := by
            generalize (spA t).reverse[i] = x at hk
            obtain ⟨k, m, ks⟩ := x
            have hk' : k = 1 := hk
            exact (zdv (fun h => by omega)).2
          rw [this]
          exact hA
      have hput : ∀ (i : Nat) (h' : i < (spA t).reverse.length), Pure Tryz.prog zbr [.rp (cVw v), .agg (cT (spA t).reverse[i]), .int .i64 first, .int .i64 more, .int .i64 vars] [.agg (cT (putT v (spA t).reverse[i] first more vars))] := fun i h' => by
        obtain ⟨x1, x2, x3⟩ := hm _ (List.getElem_mem h')
        exact zwz v hp _ x3 (by omega) first (by omega) more vars h0 (by omega) h2 (by omega)
      have oAll : ∀ y ∈ shA (fun x => putT v x first more vars) (shT v first more vars n) v.b.cons[c].args (spA t).reverse, okT y := zxb _ _ fun i h h' => by
        obtain ⟨x1, x2, x3⟩ := hm _ (List.getElem_mem h')
        exact ⟨ztv hp x3 x2 (by omega) first more vars h0 (by omega) h2 (by omega), fun hr => (hrec i h h' hr).2⟩
      have oL : okT (lv (v.b.sorts.length + c) (vars + more)) := zue (by omega) (by omega) (by omega) (by omega)
      rw [e]
      refine ⟨?_, zkj _ _ oL oAll⟩
      have hlen := zwx (fun x => putT v x first more vars) (shT v first more vars n) v.b.cons[c].args (spA t).reverse
      have hL := zle (v.b.sorts.length + c) (vars + more) (by omega) (by omega) (by omega) (by omega)
      have hSp := zhh (lv (v.b.sorts.length + c) (vars + more)) _ (by omega : (shA (fun x => putT v x first more vars) (shT v first more vars n) v.b.cons[c].args (spA t).reverse).length ≤ 100000000) oL ⟨by omega, oAll⟩
      have w1 : IntKind.i64.wrap ((v.b.sorts.length : Int) + (c : Int)) = v.b.sorts.length + c := zad (by omega) (by omega)
      rw [if_neg hb] at hG
      rw [c3] at hO
      generalize spT (lv (v.b.sorts.length + c) (vars + more)) (shA (fun x => putT v x first more vars) (shT v first more vars n) v.b.cons[c].args (spA t).reverse) = R at *
      have hsn := zzn (fun x => putT v x first more vars) (shT v first more vars n) v.b.cons[c].args (spA t).reverse
      have hsl2 := fun i => zwx (fun x => putT v x first more vars) (shT v first more vars n) (v.b.cons[c].args.take i) (spA t).reverse
      clear hgood oAll oL hm m1 m2 m3 m4 e ih
      generalize (spA t).reverse = A at *
      generalize spH t = H at *
      generalize lv (v.b.sorts.length + c) (vars + more) = L at *
      refine zlo rfl fun hs => ?_
      simp only [cVw, cBl, eBl, cT, eTs, eArs, List.map_take, List.cons_append, List.nil_append] at hS hG hO hL hSp
      simp -dsimp [zfn, cT, cVw, cBl]
      refine zaa hS ?_
      have hfl : (first : Int) ≤ v.args.length := by omega
      simp -dsimp [eArs, hfl, hfi]
      refine zaa hG ?_
      simp -dsimp
      refine zaa hO ?_
      generalize hCc : v.b.cons[c] = C at *
      simp -dsimp [c1, hgc, hCc, eCos, eCo, cCo, cT, eArs]
      refine zam C.args.length (fun i st => (st.s 0 = .d (.rp (cVw v)) ∧ st.s 2 = .d (.int .i64 first) ∧ st.s 3 = .d (.int .i64 more) ∧ st.s 4 = .d (.int .i64 vars)) ∧ (st.s 10 = .ptr 10 1 0 ∧ st.h 10 = ⟨1, .box [.d (.int .i64 0), .d (.int .i64 0), .fsl 3 []] false⟩) ∧
        (st.s 12 = .d (eTs A) ∧ st.s 15 = .d (.int .i64 c)) ∧ (st.s 76 = .d (eArs C.args) ∧ st.s 77 = .d (.int .i64 C.args.length)) ∧ st.s 78 = .d (.int .i64 i) ∧
        ∃ u, st.s 16 = .rsl 16 u ∧ st.h 16 = ⟨u, .row 3 ((shA (fun x => putT v x first more vars) (shT v first more vars n) (C.args.take i) A).map eT) false⟩) ?_ ?_
      · simp -dsimp [cVw, cBl, eTs, eArs, eCos, shA]
      · rintro i ⟨s, hp'⟩ hi ⟨⟨g0, g2, g3, g4⟩, ⟨g10, k10⟩, ⟨g12, g15⟩, ⟨g76, g77⟩, g78, u, g16, k16⟩
        dsimp only at g0 g2 g3 g4 g10 k10 g12 g15 g76 g77 g78 g16 k16
        simp only [eTs, eArs] at g12 g76
        rcases Nat.lt_or_ge i C.args.length with hlt | hge
        · have w2 : IntKind.i64.wrap ((i : Int) + 1) = (i : Int) + 1 := zad (by omega) (by omega)
          have hltA : i < A.length := by omega
          have hsn1 := hsn i hlt hltA
          have hsl1 := hsl2 i
          rw [List.length_take] at hsl1
          have hPi := hput i hltA
          have hRi := hrec i hlt hltA
          generalize hAr : C.args[i] = Ar_ at *
          generalize hX : A[i] = X at *
          rw [hsn1]
          generalize shA (fun x => putT v x first more vars) (shT v first more vars n) (C.args.take i) A = G at *
          have hgl : G.length ≤ 40 := by omega
          have r1 : (G.length + 1) * 40 ≤ zaj := zso hgl trivial
          have r2 : (G.length + 1 + 1) * 40 ≤ zaj := zF3 hgl
          simp only [cT] at hPi hRi
          simp -dsimp [g0, g2, g3, g4, g10, k10, g12, g15, g76, g77, g78, g16, k16, hlt, hltA, hAr, hX, eAr, cAr, cT]
          refine zaa hPi ?_
          cases hr : Ar_.rc with
          | false => simp -dsimp [g0, g2, g3, g4, g10, k10, g12, g15, g76, g77, g78, g16, k16, hlt, hltA, hAr, hX, eAr, cAr, cT, hr, r1, w2, zcr, eTs, eArs]
          | true =>
            have hRi' := (hRi hr).1
            simp -dsimp [g0, g2, g3, g4, g10, k10, g12, g15, g76, g77, g78, g16, k16, hlt, hltA, hAr, hX, eAr, cAr, cT, hr, r1]
            refine zaa hRi' ?_
            simp -dsimp [g0, g2, g3, g4, g10, k10, g12, g15, g76, g77, g78, g16, k16, hlt, hltA, hAr, hX, eAr, cAr, cT, hr, r1, r2, w2, zcr, eTs, eArs]
        · have e : i = C.args.length := by omega
          subst e
          rw [List.take_length] at k16
          simp -dsimp [g0, g2, g3, g4, g10, k10, g12, g15, g76, g77, g78, g16, k16, cVw, cBl, eSos, w1, wv]
          refine zaa hL ?_
          simp -dsimp [g0, g2, g3, g4, g10, k10, g12, g15, g76, g77, g78, g16, k16, cT]
          refine zaa hSp ?_
          simp -dsimp [g10, k10, cT]
end
end
section
section
attribute [local simp] zae zaf tk tn tks zb1 zcb za9 zba zbb zbz
def inT (v : Vw) (n : Nat) (so : So) (l : List T) (first : Nat) (more vars : Int) : List T := shA (fun x => putT v x first more vars) (shT v first more vars n) so.idx l
theorem zqj (v : Vw) (hv : VwOk v) (n : Nat) (hN : n ≤ 1000000) (k : Int) (so : So) (hk0 : 0 ≤ k) (hk : v.b.sorts[k.toNat]? = some so) (l : List T) (hll : l.length = so.idx.length) (first : Nat) (hfi : first ≤ v.args.length) (more vars : Int) (h0 : 0 ≤ more) (h1 : more ≤ 1000) (h2 : 0 ≤ vars) (h3 : vars ≤ 1000) (cons : Int)
    (hl : ∀ x ∈ l, zab x = true ∧ okT x ∧ zac x ≤ n) (hg : indF n (plV v first more) so l cons = true) :
    OwnC Tryz.prog zeg [.rp (cVw v), .int .i64 k, eTs l, .int .i64 first, .int .i64 more, .int .i64 vars] [.one (.row 3 ((inT v n so l first more vars).map eT) false)] ∧ (∀ y ∈ inT v n so l first more vars, okT y) ∧ (inT v n so l first more vars).length ≤ 40 := by
  have hp := hv.pos
  have hpl := hv.len
  have hal := hv.al
  have hsil := hv.si _ (List.mem_of_getElem? hk)
  have hklt := (List.getElem?_eq_some_iff.1 hk).1
  have hk' := (List.getElem?_eq_some_iff.1 hk).2
  have hrec : ∀ (i : Nat) (h : i < so.idx.length) (h' : i < l.length), so.idx[i].rc = true →
      Pure Tryz.prog zc4 [.rp (cVw v), .agg (cT l[i]), .int .i64 first, .int .i64 more, .int .i64 vars] [.agg (cT (shT v first more vars n l[i]))] ∧ okT (shT v first more vars n l[i]) := fun i h h' hr => by
    obtain ⟨x1, x2, x3⟩ := hl _ (List.getElem_mem h')
    refine zL6 v hv first hfi more vars h0 h1 h2 h3 cons n _ hN x1 x2 x3 (.inr ?_)
    rw [indF] at hg
    have hA := (zan _ _ _).1 hg i h
    rw [Nat.zero_add, List.getElem?_eq_getElem h'] at hA
    simpa only [hr, if_true] using hA
  have hput : ∀ (i : Nat) (h' : i < l.length), Pure Tryz.prog zbr [.rp (cVw v), .agg (cT l[i]), .int .i64 first, .int .i64 more, .int .i64 vars] [.agg (cT (putT v l[i] first more vars))] := fun i h' => by
    obtain ⟨x1, x2, x3⟩ := hl _ (List.getElem_mem h')
    exact zwz v hp _ x1 (by omega) first (by omega) more vars h0 (by omega) h2 (by omega)
  have oAll : ∀ y ∈ inT v n so l first more vars, okT y := zxb _ _ fun i h h' => by
    obtain ⟨x1, x2, x3⟩ := hl _ (List.getElem_mem h')
    exact ⟨ztv hp x1 x2 (by omega) first more vars h0 (by omega) h2 (by omega), fun hr => (hrec i h h' hr).2⟩
  have hlen := zwx (fun x => putT v x first more vars) (shT v first more vars n) so.idx l
  refine ⟨?_, oAll, by rw [inT]; omega⟩
  have hsn := zzn (fun x => putT v x first more vars) (shT v first more vars n) so.idx l
  have hsl2 := fun i => zwx (fun x => putT v x first more vars) (shT v first more vars n) (so.idx.take i) l
  rw [inT]
  clear oAll hl hg hlen
  refine zqq rfl fun hs => ?_
  simp -dsimp [zgv, cVw, cBl, eTs, eSos, hk0, hklt, hk, hk', eSo, cSo, eArs, cT]
  refine zam so.idx.length (fun i st => (st.s 0 = .d (.rp (cVw v)) ∧ st.s 2 = .d (eTs l) ∧ st.s 3 = .d (.int .i64 first) ∧ st.s 4 = .d (.int .i64 more) ∧ st.s 5 = .d (.int .i64 vars)) ∧ (st.s 12 = .rsl 12 1 ∧ st.h 12 = ⟨1, .row 3 [] false⟩) ∧
    (st.s 24 = .d (eArs so.idx) ∧ st.s 25 = .d (.int .i64 so.idx.length)) ∧ st.s 26 = .d (.int .i64 i) ∧
    ∃ u, st.s 13 = .rsl 13 u ∧ st.h 13 = ⟨u, .row 3 ((shA (fun x => putT v x first more vars) (shT v first more vars n) (so.idx.take i) l).map eT) false⟩) ?_ ?_
  · simp -dsimp [cVw, cBl, eTs, eArs, eSos, shA]
  · rintro i ⟨s, hp'⟩ hi ⟨⟨g0, g2, g3, g4, g5⟩, ⟨g12, k12⟩, ⟨g24, g25⟩, g26, u, g13, k13⟩
    dsimp only at g0 g2 g3 g4 g5 g12 k12 g24 g25 g26 g13 k13
    simp only [eTs, eArs] at g2 g24
    rcases Nat.lt_or_ge i so.idx.length with hlt | hge
    · have w2 : IntKind.i64.wrap ((i : Int) + 1) = (i : Int) + 1 := zad (by omega) (by omega)
      have hltA : i < l.length := by omega
      have hsn1 := hsn i hlt hltA
      have hsl1 := hsl2 i
      rw [List.length_take] at hsl1
      have hPi := hput i hltA
      have hRi := hrec i hlt hltA
      generalize hAr : so.idx[i] = Ar_ at *
      generalize hX : l[i] = X at *
      rw [hsn1]
      generalize shA (fun x => putT v x first more vars) (shT v first more vars n) (so.idx.take i) l = G at *
      have hgl : G.length ≤ 40 := by omega
      have r1 : (G.length + 1) * 40 ≤ zaj := zso hgl trivial
      have r2 : (G.length + 1 + 1) * 40 ≤ zaj := zF3 hgl
      simp only [cT] at hPi hRi
      simp -dsimp [g0, g2, g3, g4, g5, g12, k12, g24, g25, g26, g13, k13, hlt, hltA, hAr, hX, eAr, cAr, cT]
      refine zaa hPi ?_
      cases hr : Ar_.rc with
      | false => simp -dsimp [g0, g2, g3, g4, g5, g12, k12, g24, g25, g26, g13, k13, hlt, hltA, hAr, hX, eAr, cAr, cT, hr, r1, w2, zcr, eTs, eArs]
      | true =>
        have hRi' := (hRi hr).1
        simp -dsimp [g0, g2, g3, g4, g5, g12, k12, g24, g25, g26, g13, k13, hlt, hltA, hAr, hX, eAr, cAr, cT, hr, r1]
        refine zaa hRi' ?_
        simp -dsimp [g0, g2, g3, g4, g5, g12, k12, g24, g25, g26, g13, k13, hlt, hltA, hAr, hX, eAr, cAr, cT, hr, r1, r2, w2, zcr, eTs, eArs]
    · have e : i = so.idx.length := by omega
      subst e
      rw [List.take_length] at k13
      simp -dsimp [g0, g2, g3, g4, g5, g12, k12, g24, g25, g26, g13, k13]
theorem zKc (v : Vw) (hv : VwOk v) (vars : Int) (h2 : 0 ≤ vars) (h3 : vars ≤ 1000) : Pure Tryz.prog zhe [.rp (cVw v), .int .i64 vars] [eTs (v.pos.map fun p => lv p vars)] ∧ ∀ y ∈ v.pos.map (fun p => lv p vars), okT y := by
  have hp := hv.pos
  have hpl := hv.len
  have hal := hv.al
  refine ⟨?_, fun y hy => ?_⟩
  case refine_2 =>
    obtain ⟨p, hpm, rfl⟩ := List.mem_map.1 hy
    have := hp.at_ p hpm
    exact zue (by omega) (by omega) (by omega) (by omega)
  refine zwp rfl fun hs => ?_
  simp -dsimp [zkg, cVw, cBl]
  refine zam v.pos.length (fun i st => st.s 1 = .d (.int .i64 vars) ∧ (st.s 4 = .rsl 4 1 ∧ st.h 4 = ⟨1, .row 3 [] false⟩) ∧ (st.s 11 = .d (.sl 1 (v.pos.map (.int .i64))) ∧ st.s 12 = .d (.int .i64 v.pos.length)) ∧ st.s 13 = .d (.int .i64 i) ∧
    ∃ u, st.s 5 = .rsl 5 u ∧ st.h 5 = ⟨u, .row 3 (((v.pos.map fun p => lv p vars).take i).map eT) false⟩) ?_ ?_
  · simp -dsimp
  · rintro i ⟨s, hp'⟩ hi ⟨g1, ⟨g4, k4⟩, ⟨g11, g12⟩, g13, u, g5, k5⟩
    dsimp only at g1 g4 k4 g11 g12 g13 g5 k5
    rcases Nat.lt_or_ge i v.pos.length with hlt | hge
    · have w1 : IntKind.i64.wrap ((i : Int) + 1) = (i : Int) + 1 := zad (by omega) (by omega)
      have hpj := hp.at_ _ (List.getElem_mem hlt)
      have hP := zle v.pos[i] vars (by omega) (by omega) (by omega) (by omega)
      have hn : ((v.pos.map fun p => lv p vars).take (i + 1)).map eT = ((v.pos.map fun p => lv p vars).take i).map eT ++ [.agg (cT (lv v.pos[i] vars))] := by
        rw [zd1 (List.getElem?_eq_getElem (by simpa using hlt)), List.map_append]
        simp [zcr]
      generalize hX : lv v.pos[i] vars = X at *
      generalize hM : (v.pos.map fun p => lv p vars) = M at *
      have hMl : M.length = v.pos.length := by rw [← hM, List.length_map]
      have hr : (min i M.length + 1) * 40 ≤ zaj := by simp only [zaj]; omega
      rw [hn]
      simp only [cT] at hP
      simp -dsimp [g1, g4, k4, g11, g12, g13, g5, k5, hlt, cT]
      refine zaa hP ?_
      simp -dsimp [g1, g4, k4, g11, g12, g13, g5, k5, hlt, cT, hr, w1]
      try exact hlt
    · have e : i = v.pos.length := by omega
      subst e
      rw [List.take_of_length_le (by simp)] at k5
      simp -dsimp [g1, g4, k4, g11, g12, g13, g5, k5, eTs]
def dmP (v : Vw) (first : Nat) (vars : Int) : Nat → List T → List T
  | _, [] => []
  | j, d :: ds => putT v d first j vars :: dmP v first vars (j + 1) ds
theorem zzy (v : Vw) (first : Nat) (vars : Int) : ∀ (l : List T) (j i : Nat) (h : i < l.length), dmP v first vars j (l.take (i + 1)) = dmP v first vars j (l.take i) ++ [putT v l[i] first ((j + i : Nat) : Int) vars]
  | d :: ds, j, 0, h => by simp [dmP]
  | d :: ds, j, i + 1, h => by
    simp only [List.take_succ_cons, dmP, List.getElem_cons_succ, List.cons_append]
    rw [zzy v first vars ds (j + 1) i (by simpa using h)]
    congr 4
    omega
theorem zn4 (v : Vw) (first : Nat) (vars : Int) : ∀ (l : List T) (j : Nat), (dmP v first vars j l).length = l.length
  | [], j => rfl
  | d :: ds, j => by rw [dmP, List.length_cons, zn4 v first vars ds, List.length_cons]
theorem zD9 {v : Vw} {first : Nat} {vars : Int} {q : T → Prop} : ∀ (l : List T) (j : Nat), (∀ (i : Nat) (h : i < l.length), q (putT v l[i] first ((j + i : Nat) : Int) vars)) → ∀ y ∈ dmP v first vars j l, q y
  | [], j, _, y, hy => by simp [dmP] at hy
  | d :: ds, j, h, y, hy => by
    rw [dmP] at hy
    rcases List.mem_cons.1 hy with rfl | hy
    · have := h 0 (by simp)
      simpa using this
    · refine zD9 ds (j + 1) (fun i hi => ?_) y hy
      have := h (i + 1) (by simpa using hi)
      simp only [List.getElem_cons_succ] at this
      rwa [show j + 1 + i = j + (i + 1) by omega]
def tyA (v : Vw) (n : Nat) (i : Nat) (p : Int) (a : Ar) : List T :=
  putT v (zcn v.b v.base a) i 0 p :: (if a.rc then [zbu 4 (dmP v i (p + 1) 0 a.dom) (spT (lv a.sort (p + 1 + a.dom.length)) ((match v.b.sorts[a.sort.toNat]? with
    | some so => inT v n so a.idx i a.dom.length (p + 1)
    | none => []) ++ [spT (lv p (p + 1 + a.dom.length)) (zc8 a.dom.length)]))] else [])
def tyL (v : Vw) (n : Nat) : Nat → List Ar → List T
  | _, [] => []
  | i, a :: l => tyA v n i ((v.pos[i]?).getD 0) a ++ tyL v n (i + 1) l
theorem zpd (v : Vw) (n : Nat) : ∀ (l : List Ar) (i j : Nat) (h : j < l.length), tyL v n i (l.take (j + 1)) = tyL v n i (l.take j) ++ tyA v n (i + j) ((v.pos[i + j]?).getD 0) l[j]
  | a :: l, i, 0, h => by simp [tyL]
  | a :: l, i, j + 1, h => by
    simp only [List.take_succ_cons, tyL, List.getElem_cons_succ, List.append_assoc]
    rw [zpd v n l (i + 1) j (by simpa using h), show i + 1 + j = i + (j + 1) by omega]
theorem zQ7 (n : Nat) (h : n ≤ 65536) : zvs n = zc8 n := by
  rw [zvs]
  split
  · have : n = 0 := by omega
    subst this; rfl
  · rw [Int.toNat_natCast]
theorem zGh (n : Nat) (h : n ≤ 65536) : ∀ y ∈ zc8 n, okT y := fun y hy => by
  simp only [zc8, List.mem_map, List.mem_range] at hy
  obtain ⟨i, hi, rfl⟩ := hy
  exact zez (by omega) (by omega)
structure TyOk (v : Vw) (n : Nat) (cons : Int) : Prop where
  vw : VwOk v
  fit : Fit v.b
  b0 : 0 ≤ v.base
  b1 : v.base ≤ 60000
  pos : ∀ p ∈ v.pos, p ≤ 900
  ok : zuw v.args
  fine : zgg v.args
  row : rowM v.b v.args = true
  good : rowF n v.b v.base v.args cons = true
set_option maxHeartbeats 2000000 in
theorem zLo (v : Vw) (n : Nat) (hN : n ≤ 1000000) (hn9 : 9000 ≤ n) (cons : Int) (H : TyOk v n cons) : Pure Tryz.prog zif [.rp (cVw v)] [eTs (tyL v n 0 v.args)] ∧ (∀ y ∈ tyL v n 0 v.args, okT y) ∧ (tyL v n 0 v.args).length ≤ 40 := by
  have hv := H.vw
  have hp := hv.pos
  have hpl := hv.len
  have hal := hv.al
  have hsl := H.fit.s
  obtain ⟨hr1, hr2⟩ := zi7 H.row
  have hsn := zpd v n v.args 0
  have hA : ∀ (i : Nat) (hi : i < v.args.length), ∃ p : Int, v.pos[i]? = some p ∧ 0 ≤ p ∧ p ≤ 900 := fun i hi =>
    ⟨_, List.getElem?_eq_getElem (by omega), (hp.at_ _ (List.getElem_mem _)).1, H.pos _ (List.getElem_mem (by omega))⟩
  have hty : ∀ (i : Nat) (hi : i < v.args.length), zab (zcn v.b v.base v.args[i]) = true ∧ okT (zcn v.b v.base v.args[i]) ∧ zac (zcn v.b v.base v.args[i]) ≤ 1000000 := fun i hi => by
    have fa := H.fine.2 _ (List.getElem_mem hi)
    have oa := H.ok.2 _ (List.getElem_mem hi)
    have := zkb (b := v.b) (base := v.base) fa
    exact ⟨(zmr H.fit H.b0 H.b1 fa (by omega) (hr2 i hi)).2, zCq _ _ oa, by omega⟩
  have hrc : ∀ (i : Nat) (hi : i < v.args.length), v.args[i].rc = true → 0 ≤ v.args[i].sort ∧ v.args[i].dom.length ≤ 12 ∧ (∀ x ∈ v.args[i].dom, zab x = true ∧ okT x ∧ zac x ≤ n) ∧ (∀ x ∈ v.args[i].idx, zab x = true ∧ okT x ∧ zac x ≤ n) ∧
      ∃ so, v.b.sorts[v.args[i].sort.toNat]? = some so ∧ v.args[i].idx.length = so.idx.length ∧ indF n (plV v i v.args[i].dom.length) so v.args[i].idx cons = true := fun i hi hr => by
    have fa := H.fine.2 _ (List.getElem_mem hi)
    have oa := H.ok.2 _ (List.getElem_mem hi)
    obtain ⟨_, s0, s1, d1, ⟨so, hso, hil⟩, hd, hx⟩ := zf8 (hr2 i hi) hr (by omega) (by omega)
    refine ⟨s0, d1, fun x hxm => ?_, fun x hxm => ?_, so, hso, hil, ?_⟩
    · obtain ⟨j, hj, rfl⟩ := List.mem_iff_getElem.1 hxm
      have hnx : zac v.args[i].dom[j] ≤ 9000 := Nat.le_trans (zcg (List.mem_map.2 ⟨_, hxm, rfl⟩)) fa.dom
      exact ⟨(zcc (hd j hj) (by omega) (by omega) (by omega)).2.1, oa.dom.2 _ hxm, by omega⟩
    · have hnx : zac x ≤ 9000 := Nat.le_trans (zcg (List.mem_map.2 ⟨_, hxm, rfl⟩)) fa.idx
      exact ⟨(zcc (hx x hxm) (by omega) (by omega) (by omega)).2.1, oa.idx.2 _ hxm, by omega⟩
    · have hg := (zan _ _ _).1 H.good i hi
      rw [Nat.zero_add, argF, if_pos hr, hso, Bool.and_eq_true] at hg
      exact hg.2
  have hTok : ∀ (i : Nat) (hi : i < v.args.length) (p : Int), v.pos[i]? = some p → 0 ≤ p → p ≤ 900 → ∀ y ∈ tyA v n i p v.args[i], okT y := fun i hi p hpi p0 p1 y hy => by
    obtain ⟨t1, t2, t3⟩ := hty i hi
    rw [tyA] at hy
    rcases List.mem_cons.1 hy with rfl | hy
    · exact ztv hp t1 t2 t3 i 0 p (by omega) (by omega) p0 (by omega)
    · split at hy
      · rename_i hr
        obtain ⟨s0, d1, hd, hx, so, hso, hil, hg⟩ := hrc i hi hr
        have hsb := (List.getElem?_eq_some_iff.1 hso).1
        rw [List.mem_singleton] at hy
        subst hy
        rw [hso]
        have hI := zqj v hv n hN v.args[i].sort so s0 hso v.args[i].idx hil i (by omega) v.args[i].dom.length (p + 1) (by omega) (by omega) (by omega) (by omega) cons hx hg
        refine zzm (by omega) _ (zkj _ _ (zue (by omega) (by omega) (by omega) (by omega)) fun z hz => ?_) _ (zD9 _ _ fun j hj => ?_)
        · rcases List.mem_append.1 hz with hz | hz
          · exact hI.2.1 z hz
          · rw [List.mem_singleton] at hz
            subst hz
            exact zkj _ _ (zue (by omega) (by omega) (by omega) (by omega)) (zGh _ (by omega))
        · obtain ⟨x1, x2, x3⟩ := hd _ (List.getElem_mem hj)
          exact ztv hp x1 x2 (by omega) i _ (p + 1) (by omega) (by omega) (by omega) (by omega)
      · simp at hy
  have hlen : ∀ (l : List Ar) (i : Nat), (tyL v n i l).length ≤ 2 * l.length := by
    intro l
    induction l with
    | nil => intro i; simp [tyL]
    | cons a l ih =>
      intro i
      have := ih (i + 1)
      rw [tyL, List.length_append, tyA, List.length_cons, List.length_cons]
      split <;> simp <;> omega
  have hAll : ∀ y ∈ tyL v n 0 v.args, okT y := by
    have go : ∀ j, j ≤ v.args.length → ∀ y ∈ tyL v n 0 (v.args.take j), okT y := by
      intro j
      induction j with
      | zero => intro _ y hy; simp [tyL] at hy
      | succ j ih =>
        intro hj y hy
        rw [hsn j (by omega)] at hy
        rcases List.mem_append.1 hy with hy | hy
        · exact ih (by omega) y hy
        · obtain ⟨p, hpi, p0, p1⟩ := hA j (by omega)
          rw [Nat.zero_add, hpi] at hy
          exact hTok j (by omega) p hpi p0 p1 y hy
    have := go v.args.length (Nat.le_refl _)
    rwa [List.take_length] at this
  refine ⟨?_, hAll, by have := hlen v.args 0; omega⟩
  refine ztj rfl fun hs => ?_
  simp -dsimp [zh9, cVw, cBl, eArs]
  refine zam v.args.length (fun i st => st.s 0 = .d (.rp (cVw v)) ∧ (st.s 2 = .rsl 2 1 ∧ st.h 2 = ⟨1, .row 3 [] false⟩) ∧ (st.s 15 = .d (eArs v.args) ∧ st.s 16 = .d (.int .i64 v.args.length)) ∧ st.s 17 = .d (.int .i64 i) ∧
    ∃ u, st.s 3 = .rsl 3 u ∧ st.h 3 = ⟨u, .row 3 ((tyL v n 0 (v.args.take i)).map eT) false⟩) ?_ ?_
  · simp -dsimp [cVw, cBl, eArs, tyL]
  · rintro i ⟨s, hp'⟩ hi ⟨g0, ⟨g2, k2⟩, ⟨g15, g16⟩, g17, u, g3, k3⟩
    dsimp only at g0 g2 k2 g15 g16 g17 g3 k3
    simp only [eArs] at g15
    rcases Nat.lt_or_ge i v.args.length with hlt | hge
    · have w1 : IntKind.i64.wrap ((i : Int) + 1) = (i : Int) + 1 := zad (by omega) (by omega)
      obtain ⟨p, hpi, p0, p1⟩ := hA i hlt
      have hlp : i < v.pos.length := by omega
      have hpi' : v.pos[i] = p := by have := (List.getElem?_eq_some_iff.1 hpi).2; exact this
      have hs1 := hsn i hlt
      rw [Nat.zero_add, hpi] at hs1
      have hl1 := hlen (v.args.take i) 0
      rw [List.length_take] at hl1
      rw [hs1]
      generalize tyL v n 0 (v.args.take i) = G at *
      have hgl : G.length ≤ 40 := by omega
      have hAT := zyq v.b v.base v.args[i] (H.ok.2 _ (List.getElem_mem hlt)) (H.fine.2 _ (List.getElem_mem hlt))
      obtain ⟨t1, t2, t3⟩ := hty i hlt
      have hPT := zwz v hp (zcn v.b v.base v.args[i]) t1 t3 i (by omega) 0 p (by omega) (by omega) p0 (by omega)
      have hrci := hrc i hlt
      clear hsn hA hty hrc hTok hlen hAll
      simp only [Option.getD_some, tyA]
      generalize hR : v.args[i] = R at *
      generalize putT v (zcn v.b v.base R) i 0 p = PT at *
      generalize zcn v.b v.base R = AT at *
      simp only [eBl, cBl, cAr, cT, List.cons_append, List.nil_append] at hAT hPT
      simp -dsimp [g0, g2, k2, g15, g16, g17, g3, k3, hlt, hR, eAr, cAr, cT, cVw, cBl]
      refine zaa hAT ?_
      simp -dsimp [g0, g2, k2, g15, g16, g17, g3, k3, hlt, hR, eAr, cAr, cT, cVw, cBl, hlp, hpi, hpi']
      simp only [cVw, cBl, List.cons_append, List.nil_append] at hPT
      refine zaa hPT ?_
      cases hr : R.rc with
      | false =>
        simp -dsimp [g0, g2, k2, g15, g16, g17, g3, k3, hlt, hR, eAr, cAr, cT, cVw, cBl, hr, zso hgl trivial, w1, zcr, eArs]
        done
      | true =>
        obtain ⟨s0, d1, hd, hx, so, hso, hil, hg⟩ := hrci hr
        have hI := zqj v hv n hN R.sort so s0 hso R.idx hil i (by omega) R.dom.length (p + 1) (by omega) (by omega) (by omega) (by omega) cons hx hg
        have v1 : IntKind.i64.wrap (p + 1) = p + 1 := zad (by omega) (by omega)
        have v2 : IntKind.i64.wrap (p + 1 + (R.dom.length : Int)) = p + 1 + R.dom.length := zad (by omega) (by omega)
        have hdl := zn4 v i (p + 1)
        have hds := zzy v i (p + 1) R.dom 0
        have hPd : ∀ (j : Nat) (hj : j < R.dom.length), Pure Tryz.prog zbr [.rp (cVw v), .agg (cT R.dom[j]), .int .i64 i, .int .i64 j, .int .i64 (p + 1)] [.agg (cT (putT v R.dom[j] i j (p + 1)))] := fun j hj => by
          obtain ⟨x1, x2, x3⟩ := hd _ (List.getElem_mem hj)
          exact zwz v hp _ x1 (by omega) i (by omega) j (p + 1) (by omega) (by omega) (by omega) (by omega)
        have hssl := (List.getElem?_eq_some_iff.1 hso).1
        have hsr : R.sort ≤ 10 := by omega
        have hL1 := zle p (p + 1 + R.dom.length) (by omega) (by omega) (by omega) (by omega)
        have oL1 := zue (l := p) (vars := p + 1 + R.dom.length) (by omega) (by omega) (by omega) (by omega)
        have hV := zJj (R.dom.length : Int)
        rw [zQ7 _ (by omega)] at hV
        have oV := zGh R.dom.length (by omega)
        have hVl := zj3 R.dom.length
        have hS1 := zhh (lv p (p + 1 + R.dom.length)) (zc8 R.dom.length) (by omega) oL1 ⟨by omega, oV⟩
        have oS1 := zkj (zc8 R.dom.length) _ oL1 oV
        have hL2 := zle R.sort (p + 1 + R.dom.length) (by omega) (by omega) (by omega) (by omega)
        have oL2 := zue (l := R.sort) (vars := p + 1 + R.dom.length) (by omega) (by omega) (by omega) (by omega)
        obtain ⟨hI1, hI2, hI3⟩ := hI
        rw [hso]
        simp only
        generalize inT v n so R.idx i R.dom.length (p + 1) = J at *
        generalize spT (lv p (p + 1 + R.dom.length)) (zc8 R.dom.length) = S1 at *
        generalize lv p (p + 1 + R.dom.length) = L1 at *
        generalize zc8 R.dom.length = Vs at *
        generalize lv R.sort (p + 1 + R.dom.length) = L2 at *
        have oJ : ∀ y ∈ J ++ [S1], okT y := fun y hy => by
          rcases List.mem_append.1 hy with hy | hy
          · exact hI2 y hy
          · rw [List.mem_singleton] at hy; subst hy; exact oS1
        have hS2 := zhh L2 (J ++ [S1]) (by rw [List.length_append, List.length_singleton]; omega) oL2 ⟨by rw [List.length_append, List.length_singleton]; omega, oJ⟩
        have oS2 := zkj (J ++ [S1]) _ oL2 oJ
        generalize spT L2 (J ++ [S1]) = S2 at *
        have oD : ∀ y ∈ dmP v i (p + 1) 0 R.dom, okT y := zD9 _ _ fun j hj => by
          obtain ⟨x1, x2, x3⟩ := hd _ (List.getElem_mem hj)
          exact ztv hp x1 x2 (by omega) i _ (p + 1) (by omega) (by omega) (by omega) (by omega)
        have hPi := zFr (dmP v i (p + 1) 0 R.dom) S2 (by rw [hdl]; omega) oS2 ⟨by rw [hdl]; omega, oD⟩
        generalize zbu 4 (dmP v i (p + 1) 0 R.dom) S2 = PI at *
        simp only [cVw, cBl, cT, eTs, List.map_append, List.map_cons, List.map_nil, zcr, List.cons_append, List.nil_append] at hI1 hL1 hV hS1 hL2 hS2
        simp only [cT, eTs] at hPi
        simp -dsimp [g0, g2, k2, g15, g16, g17, g3, k3, hlt, hR, eAr, cAr, cT, cVw, cBl, hr, zso hgl trivial, w1, hlp, hpi, hpi', v1, eTs, eArs]
        refine zam R.dom.length (fun j st => (st.s 0 = .d (.rp (cVw v)) ∧ st.s 4 = .d (.int .i64 i) ∧ st.s 6 = .d (.int .i64 (p + 1)) ∧ st.s 7 = .d (.int .i64 R.dom.length)) ∧ (st.s 2 = .rsl 2 1 ∧ st.h 2 = ⟨1, .row 3 [] false⟩) ∧ (st.s 15 = .d (eArs v.args) ∧ st.s 16 = .d (.int .i64 v.args.length)) ∧ st.s 17 = .d (.int .i64 i) ∧
          (st.s 3 = .rsl 3 (u + 1) ∧ st.h 3 = ⟨u + 1, .row 3 (G.map eT ++ [.agg (cT PT)]) false⟩) ∧
          (st.s 5 = .ptr 5 ((hp' 5).ver + 1) 0 ∧ st.h 5 = ⟨(hp' 5).ver + 1, .box [.d (.bool true), .d (.int .i64 R.ty.kind), .d (.int .i64 R.ty.num), .d (.sl 3 (R.ty.kids.map eT)), .d (eTs R.dom), .d (.int .i64 R.sort), .d (eTs R.idx)] false⟩) ∧
          (st.s 60 = .d (eTs R.dom) ∧ st.s 61 = .d (.int .i64 R.dom.length)) ∧ st.s 62 = .d (.int .i64 j) ∧ ∃ w, st.s 8 = .rsl 8 w ∧ st.h 8 = ⟨w, .row 3 ((dmP v i (p + 1) 0 (R.dom.take j)).map eT) false⟩) ?_ ?_
        · simp -dsimp [g0, g2, k2, g15, g16, g17, g3, k3, hR, eAr, cAr, cT, cVw, cBl, hr, eTs, eArs, dmP]
        · clear g0 g2 k2 g15 g16 g17 g3 k3
          rintro j ⟨s, hq⟩ hj ⟨⟨g0, g4, g6, g7⟩, ⟨g2, k2⟩, ⟨g15, g16⟩, g17, ⟨g3, k3⟩, ⟨g5, k5⟩, ⟨g60, g61⟩, g62, w, g8, k8⟩
          dsimp only at g0 g4 g6 g7 g2 k2 g15 g16 g17 g3 k3 g5 k5 g60 g61 g62 g8 k8
          simp only [eTs, eArs] at g15 k5 g60
          rcases Nat.lt_or_ge j R.dom.length with hlt2 | hge2
          · have w2 : IntKind.i64.wrap ((j : Int) + 1) = (j : Int) + 1 := zad (by omega) (by omega)
            have hPj := hPd j hlt2
            have hds1 := hds j hlt2
            have hdl1 := hdl (R.dom.take j) 0
            rw [List.length_take] at hdl1
            rw [Nat.zero_add] at hds1
            rw [hds1]
            generalize dmP v i (p + 1) 0 (R.dom.take j) = E at *
            have hel : E.length ≤ 40 := by omega
            generalize putT v R.dom[j] i j (p + 1) = Y at *
            generalize hX : R.dom[j] = X at *
            simp only [cVw, cBl, cT, List.cons_append, List.nil_append] at hPj
            simp -dsimp [g0, g4, g6, g7, g2, k2, g15, g16, g17, g3, k3, g5, k5, g60, g61, g62, g8, k8, hlt2, hX, cT, cVw, cBl]
            refine zaa hPj ?_
            simp -dsimp [g0, g4, g6, g7, g2, k2, g15, g16, g17, g3, k3, g5, k5, g60, g61, g62, g8, k8, hlt2, hX, cT, cVw, cBl, zso hel trivial, w2, zcr, eTs, eArs]
            done
          · have ej : j = R.dom.length := by omega
            subst ej
            rw [List.take_length] at k8
            simp only [cVw, cBl, eTs, List.cons_append, List.nil_append] at g0 hI1
            simp -dsimp [g0, g4, g6, g7, g2, k2, g15, g16, g17, g3, k3, g5, k5, g60, g61, g62, g8, k8, eTs]
            refine zcy hI1 (by simp [zax, zby, RV.cells]) ?_
            simp -dsimp [g0, g4, g6, g7, g2, k2, g15, g16, g17, g3, k3, g5, k5, g60, g61, g62, g8, k8, hlp, hpi, hpi', v2]
            refine zaa hL1 ?_
            simp -dsimp [g0, g4, g6, g7, g2, k2, g15, g16, g17, g3, k3, g5, k5, g60, g61, g62, g8, k8, cT]
            refine zaa hV ?_
            simp -dsimp [g0, g4, g6, g7, g2, k2, g15, g16, g17, g3, k3, g5, k5, g60, g61, g62, g8, k8, cT]
            refine zaa hS1 ?_
            simp -dsimp [g0, g4, g6, g7, g2, k2, g15, g16, g17, g3, k3, g5, k5, g60, g61, g62, g8, k8, cT, zso hI3 trivial, v2]
            refine zaa hL2 ?_
            simp -dsimp [g0, g4, g6, g7, g2, k2, g15, g16, g17, g3, k3, g5, k5, g60, g61, g62, g8, k8, cT]
            refine zaa hS2 ?_
            simp -dsimp [g0, g4, g6, g7, g2, k2, g15, g16, g17, g3, k3, g5, k5, g60, g61, g62, g8, k8, cT]
            refine zaa hPi ?_
            simp -dsimp [g0, g4, g6, g7, g2, k2, g15, g16, g17, g3, k3, g5, k5, g60, g61, g62, g8, k8, cT, zF3 hgl, w1, zcr, cVw, cBl, eArs]
            try exact hlt
    · have e : i = v.args.length := by omega
      subst e
      rw [List.take_length] at k3
      simp -dsimp [g0, g2, k2, g15, g16, g17, g3, k3, eTs]
end
end
section
section
attribute [local simp] zae zaf tk tn tks zb1 zcb za9 zba zbb zbz
theorem zDm : ∀ (l : List Ar) (e p : Int), p ∈ posL e l → e ≤ p ∧ p ≤ e + 2 * l.length
  | [], e, p, h => by simp [posL] at h
  | a :: l, e, p, h => by
    rw [posL] at h
    simp only [List.length_cons]
    rcases List.mem_cons.1 h with rfl | h
    · omega
    · have ih := zDm l _ p h
      split at ih <;> omega
def vwOf (b : Bl) (base : Int) (l : List Ar) (e : Int) : Vw := ⟨b, base, l, posL e l, finL e l⟩
theorem vw_ok {b : Bl} (hz : ze9 b = 0) (fb : FineBl b) (base : Int) {l : List Ar} (hl : l.length ≤ 20) {e : Int} (h0 : 0 ≤ e) (h1 : e ≤ 100) : VwOk (vwOf b base l e) := by
  refine ⟨⟨by simp only [vwOf, zgm]; omega, fun p hp => ?_⟩, by simp only [vwOf, zgm], hl, fb.s, fb.c, fun c hc => (fb.cons c hc).args.1, fun s hs => (fb.sorts s hs).idx.1⟩
  have := zDm l e p hp
  omega
theorem zTh {b : Bl} (hz : ze9 b = 0) (fb : FineBl b) (hf : Fit b) {base : Int} (b0 : 0 ≤ base) (b1 : base ≤ 60000) {l : List Ar} (ol : zuw l) (fl : zgg l) (hr : rowM b l = true) {n : Nat} {cons : Int} (hg : rowF n b base l cons = true) {e : Int} (h0 : 0 ≤ e) (h1 : e ≤ 100) : TyOk (vwOf b base l e) n cons :=
  ⟨vw_ok hz fb base fl.1 h0 h1, hf, b0, b1, fun p hp => by have := zDm l e p hp; have := fl.1; omega, ol, fl, hr, hg⟩
theorem zGk (v : Vw) (n : Nat) (hN : n ≤ 1000000) (hn9 : 9000 ≤ n) (cons : Int) (H : TyOk v n cons) (body : T) (ob : okT body) : Pure Tryz.prog zf7 [.rp (cVw v), .agg (cT body)] [.agg (cT (zg1 (zbu 4 (tyL v n 0 v.args) body))), .int .i64 (zaw (zbu 4 (tyL v n 0 v.args) body))] := by
  refine zu6 rfl fun hs => ?_
  obtain ⟨h1, h2, h3⟩ := zLo v n hN hn9 cons H
  have hP := zFr (tyL v n 0 v.args) body (by omega) ob ⟨by omega, h2⟩
  generalize tyL v n 0 v.args = L at *
  have hC := zr1 (zbu 4 L body)
  generalize zbu 4 L body = R at *
  simp only [cT, eTs] at h1 hP hC
  simp -dsimp [zi2, cT]
  refine zaa h1 ?_
  simp -dsimp
  refine zaa hP ?_
  simp -dsimp [cT]
  refine zaa hC ?_
  by_cases hc : zaw R = 0
  · simp -dsimp [hc, zg1, cT]
  · simp -dsimp [hc, zg1, cT, zT]
def mayP (b : Bl) (base k many : Int) : Int := if zbl 9000 b base = 0 ∧ (k < 0 ∨ many ≤ k) then 1 else zbl 9000 b base
theorem zIs (b : Bl) (ob : okBl b) (fb : FineBl b) (base k many : Int) : Pure Tryz.prog zpq [eBl b, .int .i64 base, .int .i64 k, .int .i64 many] [.int .i64 (mayP b base k many)] := by
  refine zHs rfl fun hs => ?_
  have hP := zFf 9000 (by omega) (by omega) b ob fb base
  rw [mayP]
  generalize zbl 9000 b base = E at *
  simp only [eBl, cBl] at hP
  simp -dsimp [zt6, eBl, cBl]
  refine zaa hP ?_
  by_cases h1 : E = 0
  · by_cases h2 : k < 0
    · simp -dsimp [h1, h2]
    · by_cases h3 : many ≤ k
      · simp -dsimp [h1, h2, h3]
      · simp -dsimp [h1, h2, h3]
  · simp -dsimp [h1]
def motT (b : Bl) (base k : Int) (so : So) : T :=
  zbu 4 (tyL (vwOf b base so.idx k) 9000 0 so.idx) (.mk 4 0 [spT (tC (zbe b base k)) ((posL k so.idx).map fun p => lv p (finL k so.idx)), .mk 2 b.elim []])
def motE (b : Bl) (base k : Int) : Int := if mayP b base k b.sorts.length = 0 then (match b.sorts[k.toNat]? with | some so => zaw (motT b base k so) | none => 1) else mayP b base k b.sorts.length
def motR (b : Bl) (base k : Int) : T := if motE b base k = 0 then (match b.sorts[k.toNat]? with | some so => motT b base k so | none => zT) else zT
theorem zBm {b : Bl} {base k many : Int} (h : mayP b base k many = 0) : zbl 9000 b base = 0 ∧ 0 ≤ k ∧ k < many := by
  rw [mayP] at h
  split at h
  · cases h
  · rename_i hc
    exact ⟨h, by omega, by omega⟩
theorem zcd {n : Nat} {b : Bl} {base : Int} (h : zbl n b base = 0) : ze9 b = 0 ∧ 0 ≤ base ∧ base ≤ 65535 ∧ posF n b base = true := by
  rw [zbl] at h
  split at h
  · rename_i hz
    split at h
    · cases h
    · split at h
      · rename_i hp
        exact ⟨hz, by omega, by omega, hp⟩
      · cases h
  · rename_i hz
    exact absurd h hz
theorem zxa {n : Nat} {b : Bl} {base : Int} (h : posF n b base = true) {k : Nat} {so : So} (hk : b.sorts[k]? = some so) : rowF n b base so.idx 0 = true := by
  rw [posF, Bool.and_eq_true] at h
  obtain ⟨hlt, rfl⟩ := List.getElem?_eq_some_iff.1 hk
  have := (zan _ _ _).1 h.1 k hlt
  rw [zlf, Bool.and_eq_true] at this
  exact this.1
theorem zvj {n : Nat} {b : Bl} {base : Int} (h : posF n b base = true) {c : Nat} {x : Co} (hk : b.cons[c]? = some x) : rowF n b base x.args c = true ∧ ∃ so, b.sorts[x.sort.toNat]? = some so ∧ indF n ⟨b, base, x.args, 0⟩ so x.idx c = true := by
  rw [posF, Bool.and_eq_true] at h
  obtain ⟨hlt, rfl⟩ := List.getElem?_eq_some_iff.1 hk
  have := (zan _ _ _).1 h.2 c hlt
  rw [Nat.zero_add, conF, Bool.and_eq_true] at this
  refine ⟨this.1, ?_⟩
  have h2 := this.2
  split at h2
  · rename_i so hso
    rw [Bool.and_eq_true] at h2
    exact ⟨so, hso, h2.1⟩
  · cases h2
set_option maxHeartbeats 2000000 in
theorem zIi (b : Bl) (ob : okBl b) (fb : FineBl b) (hf : Fit b) (base k : Int) (b1 : base ≤ 60000) : Pure Tryz.prog zmo [eBl b, .int .i64 base, .int .i64 k] [.agg (cT (motR b base k)), .int .i64 (motE b base k)] := by
  have hM := zIs b ob fb base k b.sorts.length
  by_cases hm : mayP b base k b.sorts.length = 0
  case neg =>
    have e1 : motE b base k = mayP b base k b.sorts.length := by rw [motE, if_neg hm]
    have e2 : motR b base k = zT := by rw [motR, if_neg (by rw [e1]; exact hm)]
    rw [e1, e2]
    generalize mayP b base k b.sorts.length = E at *
    refine zsi rfl fun hs => ?_
    simp only [eBl, cBl] at hM
    simp -dsimp [zje, eBl, cBl, eSos]
    simp only [eSos] at hM
    refine zaa hM ?_
    simp -dsimp [hm, zT, cT]
  obtain ⟨hp, k0, k1⟩ := zBm hm
  obtain ⟨hz, b0, _, hpos⟩ := zcd hp
  obtain ⟨z1, z4, z8, zl, zs, zc⟩ := (za2 b).1 hz
  have hlt : k.toNat < b.sorts.length := by omega
  have hget : b.sorts[k.toNat]? = some b.sorts[k.toNat] := List.getElem?_eq_getElem hlt
  have hsg := zxa hpos hget
  have os := ob.sorts _ (List.getElem_mem hlt)
  have fs := fb.sorts _ (List.getElem_mem hlt)
  have hrow := zzl (zs _ hlt)
  generalize hS : b.sorts[k.toNat] = S at *
  have hT := zTh hz fb hf b0 b1 os.idx fs.idx hrow hsg (e := k) k0 (by omega)
  have hv := hT.vw
  have hfl := zp7 S.idx k
  have hil := fs.idx.1
  obtain ⟨hOwn, oOwn⟩ := zKc (vwOf b base S.idx k) hv (finL k S.idx) (by omega) (by omega)
  have hSh := zJo b base k S.idx hil k0 (by omega)
  have hF := zrx b base k
  have hfi := zit hf b0 (by omega : base ≤ 65535) k
  rw [if_pos ⟨k0, k1⟩] at hfi
  have hC := zHz (zbe b base k)
  have oC : okT (tC (zbe b base k)) := zez (by omega) (by omega)
  have hSp := zhh (tC (zbe b base k)) ((posL k S.idx).map fun p => lv p (finL k S.idx)) (by rw [List.length_map, zgm]; omega) oC ⟨by rw [List.length_map, zgm]; omega, oOwn⟩
  have oSp := zkj _ _ oC oOwn
  have hU := tu_ok b.elim
  have hN := zEs 4 [spT (tC (zbe b base k)) ((posL k S.idx).map fun p => lv p (finL k S.idx)), .mk 2 b.elim []]
  have oB : okT (.mk 4 0 [spT (tC (zbe b base k)) ((posL k S.idx).map fun p => lv p (finL k S.idx)), .mk 2 b.elim []]) := zS2 (by omega) oSp (.mk _ _ _ (by simp only [n64]; omega) ob.elim (by simp) (by simp)) (by omega)
  have hD := zGk (vwOf b base S.idx k) 9000 (by omega) (by omega) 0 hT _ oB
  have e0 : (vwOf b base S.idx k).args = S.idx := rfl
  have e1 : motE b base k = zaw (motT b base k S) := by rw [motE, if_pos hm, hget]
  have e2 : motR b base k = zg1 (motT b base k S) := by rw [motR, zg1, e1, hget]
  rw [e0, ← motT] at hD
  rw [e1, e2]
  rw [hm] at hM
  clear e1 e2 e0 hT hv oOwn oC oSp oB hrow hsg os fs
  have e3 : (vwOf b base S.idx k).pos = posL k S.idx := rfl
  rw [e3] at hOwn
  have e4 : cVw (vwOf b base S.idx k) = cBl b ++ [.int .i64 base, eArs S.idx, .sl 1 ((posL k S.idx).map (.int .i64)), .int .i64 (finL k S.idx)] := rfl
  have e5 : cVw ⟨b, base, S.idx, posL k S.idx, finL k S.idx⟩ = cBl b ++ [.int .i64 base, eArs S.idx, .sl 1 ((posL k S.idx).map (.int .i64)), .int .i64 (finL k S.idx)] := rfl
  rw [e4] at hOwn hD
  rw [e5] at hSh
  generalize zaw (motT b base k S) = CE at *
  generalize zg1 (motT b base k S) = RT at *
  generalize spT (tC (zbe b base k)) ((posL k S.idx).map fun p => lv p (finL k S.idx)) = SP at *
  generalize ((posL k S.idx).map fun p => lv p (finL k S.idx)) = OW at *
  generalize zbe b base k = FO at *
  refine zsi rfl fun hs => ?_
  simp only [eBl, cBl, eSos, cT, eTs, eArs, tC, tk, tn, tks, List.map_nil, List.map_cons, zcr, List.cons_append, List.nil_append] at hM hOwn hSh hF hC hSp hU hN hD
  simp -dsimp [zje, eBl, cBl, eSos]
  refine zaa hM ?_
  simp -dsimp [k0, hlt, hS, hget, eSo, cSo, cT, eArs]
  refine zaa hSh ?_
  simp -dsimp
  refine zaa hF ?_
  simp -dsimp
  refine zaa hC ?_
  simp -dsimp
  refine zaa hOwn ?_
  simp -dsimp
  refine zaa hSp ?_
  simp -dsimp [cT]
  refine zaa hU ?_
  simp -dsimp [cT]
  refine zaa hN ?_
  simp -dsimp [cT]
  refine zaa hD ?_
  simp -dsimp [cT]
end
end
section
section
attribute [local simp] zae zaf tk tn tks zb1 zcb za9 zba zbb zbz
def metV (b : Bl) (base c : Int) (x : Co) : Vw := vwOf b base x.args (b.sorts.length + c)
def metT (b : Bl) (base c : Int) (x : Co) (so : So) : T :=
  zbu 4 (tyL (metV b base c x) 9000 0 x.args) (spT (lv x.sort (metV b base c x).fin) (inT (metV b base c x) 9000 so x.idx x.args.length 0 (metV b base c x).fin ++ [spT (tC (zao b base c)) ((metV b base c x).pos.map fun p => lv p (metV b base c x).fin)]))
def metA (b : Bl) (base c : Int) : Option T := match b.cons[c.toNat]? with
  | some x => match b.sorts[x.sort.toNat]? with
    | some so => some (metT b base c x so)
    | none => none
  | none => none
def metE (b : Bl) (base c : Int) : Int := if mayP b base c b.cons.length = 0 then (match metA b base c with | some t => zaw t | none => 1) else mayP b base c b.cons.length
def metR (b : Bl) (base c : Int) : T := if metE b base c = 0 then (metA b base c).getD zT else zT
theorem zAz {b : Bl} {c : Co} (h : conM b c = true) {x : T} (hx : x ∈ c.idx) : inM x c.args.length = true := by
  rw [conM] at h
  split at h
  · cases h
  split at h
  case isFalse => cases h
  split at h
  · cases h
  split at h
  case isFalse => cases h
  split at h
  case isFalse => cases h
  rename_i hA
  rw [allM, Bool.not_eq_true', List.any_eq_false] at hA
  have := hA x hx
  simpa using this
set_option maxHeartbeats 2000000 in
theorem zH2 (b : Bl) (ob : okBl b) (fb : FineBl b) (hf : Fit b) (base c : Int) (b1 : base ≤ 60000) : Pure Tryz.prog zmq [eBl b, .int .i64 base, .int .i64 c] [.agg (cT (metR b base c)), .int .i64 (metE b base c)] := by
  have hM := zIs b ob fb base c b.cons.length
  by_cases hm : mayP b base c b.cons.length = 0
  case neg =>
    have e1 : metE b base c = mayP b base c b.cons.length := by rw [metE, if_neg hm]
    have e2 : metR b base c = zT := by rw [metR, if_neg (by rw [e1]; exact hm)]
    rw [e1, e2]
    generalize mayP b base c b.cons.length = E at *
    refine zsu rfl fun hs => ?_
    simp only [eBl, cBl] at hM
    simp -dsimp [zji, eBl, cBl, eCos]
    simp only [eCos] at hM
    refine zaa hM ?_
    simp -dsimp [hm, zT, cT]
  obtain ⟨hp, k0, k1⟩ := zBm hm
  obtain ⟨hz, b0, _, hpos⟩ := zcd hp
  obtain ⟨z1, z4, z8, zl, zs, zc⟩ := (za2 b).1 hz
  have hlt : c.toNat < b.cons.length := by omega
  have hget : b.cons[c.toNat]? = some b.cons[c.toNat] := List.getElem?_eq_getElem hlt
  obtain ⟨hsg, so, hso, hig⟩ := zvj hpos hget
  have os := ob.cons _ (List.getElem_mem hlt)
  have fs := fb.cons _ (List.getElem_mem hlt)
  obtain ⟨hrow, s0, so2, hso2, hil2⟩ := zj1 (zc _ (List.getElem_mem hlt))
  have hcon := zc _ (List.getElem_mem hlt)
  have hao : metA b base c = some (metT b base c b.cons[c.toNat] so) := by rw [metA, hget]; simp only [hso]
  generalize hS : b.cons[c.toNat] = S at *
  rw [hso] at hso2
  cases hso2
  rw [show ((c.toNat : Nat) : Int) = c by omega] at hsg hig
  have hT := zTh hz fb hf b0 b1 os.args fs.args hrow hsg (e := b.sorts.length + c) (by omega) (by omega)
  have hv := hT.vw
  have hfl := zp7 S.args (b.sorts.length + c)
  have hal := fs.args.1
  have hsl := (List.getElem?_eq_some_iff.1 hso).1
  obtain ⟨hOwn, oOwn⟩ := zKc (vwOf b base S.args (b.sorts.length + c)) hv (finL (b.sorts.length + c) S.args) (by omega) (by omega)
  have e3 : (vwOf b base S.args (b.sorts.length + c)).pos = posL (b.sorts.length + c) S.args := rfl
  rw [e3] at hOwn oOwn
  have hSh := zJo b base (b.sorts.length + c) S.args hal (by omega) (by omega)
  have hxf : ∀ x ∈ S.idx, zab x = true ∧ okT x ∧ zac x ≤ 9000 := fun x hx => by
    have hnx : zac x ≤ 9000 := Nat.le_trans (zcg (List.mem_map.2 ⟨_, hx, rfl⟩)) fs.idx
    have hin : inM x S.args.length = true := zAz hcon hx
    exact ⟨(zcc hin (by omega) (by omega) (by omega)).2.1, os.idx.2 _ hx, hnx⟩
  have hig' : indF 9000 (plV (vwOf b base S.args (b.sorts.length + c)) S.args.length 0) so S.idx c = true := by
    have e : plV (vwOf b base S.args (b.sorts.length + c)) S.args.length 0 = ⟨b, base, S.args, 0⟩ := by simp only [plV, vwOf, List.take_length]
    rw [e]; exact hig
  have hI := zqj (vwOf b base S.args (b.sorts.length + c)) hv 9000 (by omega) S.sort so s0 hso S.idx hil2 S.args.length (Nat.le_refl _) 0 (finL (b.sorts.length + c) S.args) (by omega) (by omega) (by omega) (by omega) c hxf hig'
  have hF := zp6 b base c
  have hfi := zcl hf b0 (by omega : base ≤ 65535) c
  rw [if_pos ⟨k0, k1⟩] at hfi
  have hdl := zfu b.sorts
  have hC := zHz (zao b base c)
  have oC : okT (tC (zao b base c)) := zez (by omega) (by omega)
  have hSp := zhh (tC (zao b base c)) ((posL (b.sorts.length + c) S.args).map fun p => lv p (finL (b.sorts.length + c) S.args)) (by rw [List.length_map, zgm]; omega) oC ⟨by rw [List.length_map, zgm]; omega, oOwn⟩
  have oSp := zkj _ _ oC oOwn
  have hL := zle S.sort (finL (b.sorts.length + c) S.args) (by omega) (by omega) (by omega) (by omega)
  have oL := zue (l := S.sort) (vars := finL (b.sorts.length + c) S.args) (by omega) (by omega) (by omega) (by omega)
  obtain ⟨hI1, hI2, hI3⟩ := hI
  have eT' : metT b base c S so = zbu 4 (tyL (vwOf b base S.args (b.sorts.length + c)) 9000 0 S.args) (spT (lv S.sort (finL (b.sorts.length + c) S.args)) (inT (vwOf b base S.args (b.sorts.length + c)) 9000 so S.idx S.args.length 0 (finL (b.sorts.length + c) S.args) ++ [spT (tC (zao b base c)) ((posL (b.sorts.length + c) S.args).map fun p => lv p (finL (b.sorts.length + c) S.args))])) := rfl
  have e1 : metE b base c = zaw (metT b base c S so) := by rw [metE, if_pos hm, hao]
  have e2 : metR b base c = zg1 (metT b base c S so) := by rw [metR, zg1, e1, hao]; rfl
  rw [e1, e2]
  rw [eT']
  clear e1 e2 eT'
  rw [hm] at hM
  generalize spT (tC (zao b base c)) ((posL (b.sorts.length + c) S.args).map fun p => lv p (finL (b.sorts.length + c) S.args)) = SP at *
  generalize inT (vwOf b base S.args (b.sorts.length + c)) 9000 so S.idx S.args.length 0 (finL (b.sorts.length + c) S.args) = J at *
  generalize lv S.sort (finL (b.sorts.length + c) S.args) = L2 at *
  have oJ : ∀ y ∈ J ++ [SP], okT y := fun y hy => by
    rcases List.mem_append.1 hy with hy | hy
    · exact hI2 y hy
    · rw [List.mem_singleton] at hy; subst hy; exact oSp
  have hS2 := zhh L2 (J ++ [SP]) (by rw [List.length_append, List.length_singleton]; omega) oL ⟨by rw [List.length_append, List.length_singleton]; omega, oJ⟩
  have oS2 := zkj (J ++ [SP]) _ oL oJ
  generalize spT L2 (J ++ [SP]) = S2 at *
  have hD := zGk (vwOf b base S.args (b.sorts.length + c)) 9000 (by omega) (by omega) c hT _ oS2
  have e0 : (vwOf b base S.args (b.sorts.length + c)).args = S.args := rfl
  rw [e0] at hD
  clear hT hv oOwn oC oSp hrow hsg os fs oJ oS2 hig hig' hxf hcon
  have w1 : IntKind.i64.wrap ((b.sorts.length : Int) + c) = b.sorts.length + c := zad (by omega) (by omega)
  have e4 : cVw (vwOf b base S.args (b.sorts.length + c)) = cBl b ++ [.int .i64 base, eArs S.args, .sl 1 ((posL (b.sorts.length + c) S.args).map (.int .i64)), .int .i64 (finL (b.sorts.length + c) S.args)] := rfl
  have e5 : cVw ⟨b, base, S.args, posL (b.sorts.length + c) S.args, finL (b.sorts.length + c) S.args⟩ = cBl b ++ [.int .i64 base, eArs S.args, .sl 1 ((posL (b.sorts.length + c) S.args).map (.int .i64)), .int .i64 (finL (b.sorts.length + c) S.args)] := rfl
  rw [e4] at hOwn hD hI1
  rw [e5] at hSh
  generalize zbu 4 (tyL (vwOf b base S.args (b.sorts.length + c)) 9000 0 S.args) S2 = MT at *
  generalize zaw MT = CE at *
  generalize zg1 MT = RT at *
  generalize ((posL (b.sorts.length + c) S.args).map fun p => lv p (finL (b.sorts.length + c) S.args)) = OW at *
  generalize zao b base c = FO at *
  refine zsu rfl fun hs => ?_
  simp only [eBl, cBl, eCos, cT, eTs, eArs, tC, tk, tn, tks, List.map_nil, List.map_cons, List.map_append, zcr, List.cons_append, List.nil_append] at hM hOwn hSh hF hC hSp hL hS2 hD hI1
  simp -dsimp [zji, eBl, cBl, eCos]
  refine zaa hM ?_
  simp -dsimp [k0, hlt, hS, hget, eCo, cCo, cT, eArs, eTs, w1, eSos]
  simp only [eSos] at hSh hF hI1 hD hOwn
  refine zaa hSh ?_
  simp -dsimp
  refine zcy hI1 (by simp [zax, zby, RV.cells]) ?_
  simp -dsimp
  refine zaa hF ?_
  simp -dsimp
  refine zaa hC ?_
  simp -dsimp
  refine zaa hOwn ?_
  simp -dsimp
  refine zaa hSp ?_
  simp -dsimp [cT, zso hI3 trivial]
  refine zaa hL ?_
  simp -dsimp [cT]
  refine zaa hS2 ?_
  simp -dsimp [cT]
  refine zaa hD ?_
  simp -dsimp [cT]
end
end
section
attribute [local simp] zae zaf tk tn tks za9 zba zbb zbz
end
section
section
attribute [local simp] zae zaf tk tn tks zb1 zcb za9 zba zbb zbz
theorem zTk : okT zT := zez (by omega) (by omega)
theorem zFt {t : T} {l : List T} {u : Int} (hn : zac t ≤ 1048576) (hl : ∀ x ∈ l, zac x ≤ 1048576) : okT (ze0 t l u) := by
  by_cases h : zg2 t l u = 0
  · exact zd9 (zym hn hl h).2.2
  · rw [ze0, if_neg h]
    exact zTk
end
end
section
section
attribute [local simp] zae zaf tk tn tks zb1 zcb za9 zba zbb zbz
def zT3 (b : Bl) (base c : Int) (co : Co) (mo me args : List T) : Prop := args.length = co.args.length ∧ mo.length = b.sorts.length ∧ me.length = b.cons.length ∧ 0 ≤ base ∧ base ≤ 65535
instance (b : Bl) (base c : Int) (co : Co) (mo me args : List T) : Decidable (zT3 b base c co mo me args) := by unfold zT3; infer_instance
end
end
section
section
attribute [local simp] zae zaf tk tn tks zb1 zcb za9 zba zbb zbz
end
end
section
theorem zIv {c : Int} (t : T) : ∀ v w : Int, v ≤ w → wiT t v c = true → wiT t w c = true := by
  refine T.ind (p := fun t => ∀ v w : Int, v ≤ w → wiT t v c = true → wiT t w c = true) ?_ t
  intro k n ks ih v w hvw h
  rw [wiT] at h ⊢
  by_cases h1 : k = 1
  · rw [if_pos h1] at h ⊢
    simp only [decide_eq_true_eq] at h ⊢
    omega
  rw [if_neg h1] at h ⊢
  by_cases h2 : k = 2
  · rw [if_pos h2] at h ⊢; exact h
  rw [if_neg h2] at h ⊢
  by_cases h3 : k = 3
  · rw [if_pos h3] at h ⊢; exact h
  rw [if_neg h3] at h ⊢
  have go : ∀ (xs : List T) (i : Nat), (∀ x ∈ xs, x ∈ ks) → wiL k v c i xs = true → wiL k w c i xs = true := by
    intro xs
    induction xs with
    | nil => intro i _ _; rw [wiL]
    | cons x xs ihx =>
      intro i hm hw
      rw [wiL, Bool.and_eq_true] at hw ⊢
      exact ⟨ih x (hm x (by simp)) _ _ (by omega) hw.1, ihx _ (fun y hy => hm y (by simp [hy])) hw.2⟩
  exact go ks 0 (fun x hx => hx) h
theorem zJc (l : List T) (u : Int) (hl : ∀ x ∈ l, zfv x 0 ≤ 10000) (t : T) : ∀ b : Int, 0 ≤ b → u + b + zac t ≤ 50000 → scI l u t b = false := by
  refine T.ind (p := fun t => ∀ b : Int, 0 ≤ b → u + b + zac t ≤ 50000 → scI l u t b = false) ?_ t
  intro k n ks ih b h0 hb
  rw [scI]
  by_cases h1 : k = 1
  · rw [if_pos h1]
    split
    · rename_i a ha
      have hmem : a ∈ l := by
        split at ha
        · exact List.mem_of_getElem? ha
        · cases ha
      have := hl a hmem
      rw [zNk, Bool.and_eq_false_iff]
      right
      rw [decide_eq_false_iff_not]
      omega
    · rfl
  · rw [if_neg h1]
    have go : ∀ (xs : List T) (i : Nat), (∀ x ∈ xs, x ∈ ks) → scL l u k b i xs = false := by
      intro xs
      induction xs with
      | nil => intro i _; rw [scL]
      | cons x xs ihx =>
        intro i hm
        have hx := hm x (by simp)
        have hxn := zcx (k := k) (n := n) hx
        have hbl := zdk k i
        rw [scL, ih x hx _ (by omega) (by omega), ihx (i + 1) fun y hy => hm y (by simp [hy])]
        rfl
    exact go ks 0 fun x hx => hx
theorem zJb {a : T} {V b : Int} (hf : zab a = true) (hn : zac a ≤ 1048576) (hb : 0 ≤ b) (hb' : b ≤ 8388608) (hV : 0 ≤ V) (h : wiT a V 65536 = true) : wiT (mapT (mv b) a 0) (V + b) 65536 = true := by
  have := zO2 (mv b) 65536 V (V + b) (fun n c h1 h2 h3 h4 h5 => ?_) a 0 hf (by omega) (by omega) (by rw [Int.add_zero]; exact h)
  · rw [Int.add_zero] at this; exact this
  · by_cases c1 : n < c
    · rw [zTo c1]; exact zks (by omega)
    · have e : mv b n c = .mk 1 (n + b) [] := by rw [mv, if_pos (by omega), zb7 (by omega) (by omega)]
      rw [e]; exact zks (by omega)
theorem zEx {t : T} {l : List T} {V u : Int} (hV : 0 ≤ V) (hV' : V ≤ 65536) (hu : 0 ≤ u) (hu' : u ≤ 65536) (ht : zac t ≤ 1048576) (ft : zab t = true) (hl : ∀ x ∈ l, zab x = true ∧ zac x ≤ 1048576 ∧ wiT x V 65536 = true) (hn : l.length ≤ 65536)
    (hw : wiT t (V + u + l.length) 65536 = true) : wiT (mapT (zd7 l u) t 0) (V + u) 65536 = true := by
  have := zO2 (zd7 l u) 65536 (V + u + l.length) (V + u) (fun n b h1 h2 h3 h4 h5 => ?_) t 0 ft (by omega) (by omega) (by rw [Int.add_zero]; exact hw)
  · rw [Int.add_zero] at this; exact this
  · rw [zd7]
    by_cases hW : 0 ≤ zdd l.length u n b
    · have hlt : (zdd l.length u n b).toNat < l.length := by
        have h6 := hW
        rw [zdd] at h6 ⊢
        split at h6
        · omega
        · rename_i h7
          rw [if_neg h7]
          omega
      generalize (zdd l.length u n b).toNat = m at hlt
      rw [if_pos hW, List.getElem?_eq_getElem hlt]
      obtain ⟨a1, a2, a3⟩ := hl l[m] (List.getElem_mem _)
      show wiT (zm7 (w64 (u + b)) l[m]) (V + u + b) 65536 = true
      rw [zb7 (by omega) (by omega), zFn]
      have := zJb (b := u + b) a1 a2 (by omega) (by omega) hV a3
      rw [← Int.add_assoc] at this
      exact this
    · rw [if_neg hW]
      have h6 := hW
      rw [zdd] at h6
      by_cases c : u + b ≤ n
      · rw [if_pos c]
        have : (l.length : Int) ≤ n - (u + b) := by
          split at h6
          · rename_i h7; omega
          · omega
        rw [zb7 (by omega) (by omega)]
        exact zks (by omega)
      · rw [if_neg c]
        exact zks (by omega)
theorem zL9 {t : T} {l : List T} {u : Int} (h : zi4 t l u = 0) (ht : zac t ≤ 1048576) (hl : ∀ x ∈ l, zac x ≤ 1048576) (hs : scI l u t 0 = false) : zg2 t l u = 0 ∨ zg2 t l u = 4 ∨ zg2 t l u = 5 := by
  rw [zg2, if_pos h, zwk h ht hl]
  simp only [hs, Bool.false_eq_true, if_false]
  split
  · omega
  · split <;> omega
theorem zLi {t : T} {l : List T} {V u : Int} (hV : 0 ≤ V ∧ V ≤ 100) (hu : 0 ≤ u ∧ u ≤ 100) (ht : zaw t = 0) (hn : zac t ≤ 9000) (hl : ∀ x ∈ l, zaw x = 0 ∧ zac x ≤ 9000 ∧ wiT x V 65536 = true) (hln : l.length ≤ 100) (hw : wiT t (u + l.length) 65536 = true) :
    (zg2 t l u = 0 ∨ zg2 t l u = 4 ∨ zg2 t l u = 5) ∧ (zg2 t l u = 0 → wiT (ze0 t l u) (V + u) 65536 = true) := by
  have hf := zf5 ht
  have hO : zi4 t l u = 0 := (zC2 t l u).2 ⟨ht, fun x hx => (hl x hx).1, by omega, by omega⟩
  have hfr : ∀ x ∈ l, zfv x 0 ≤ 10000 := fun x hx => by
    obtain ⟨a1, a2, a3⟩ := hl x hx
    have := zRn 65536 x V 0 (zf5 a1) (by omega) (by omega) a3
    omega
  have hS := zJc l u hfr t 0 (by omega) (by omega)
  have hl' : ∀ x ∈ l, zac x ≤ 1048576 := fun x hx => by have := (hl x hx).2.1; omega
  refine ⟨zL9 hO (by omega) hl' hS, fun h0 => ?_⟩
  rw [zvx h0]
  exact zEx (by omega) (by omega) (by omega) (by omega) (by omega) hf (fun x hx => ⟨zf5 (hl x hx).1, hl' x hx, (hl x hx).2.2⟩) (by omega) (zIv t _ _ (by omega) hw)
structure Right (V : Int) (l : List T) : Prop where
  c : ∀ x ∈ l, zaw x = 0
  n : ∀ x ∈ l, zac x ≤ 9000
  w : ∀ x ∈ l, wiT x V 65536 = true
theorem Right.take {V : Int} {l : List T} (h : Right V l) (i : Nat) : Right V (l.take i) := ⟨fun x hx => h.c x (List.mem_of_mem_take hx), fun x hx => h.n x (List.mem_of_mem_take hx), fun x hx => h.w x (List.mem_of_mem_take hx)⟩
structure RecAt (b : Bl) (a : Ar) (i : Nat) : Prop where
  dl : a.dom.length ≤ 12
  sort : 0 ≤ a.sort ∧ a.sort < b.sorts.length
  dom : ∀ (j : Nat) (hj : j < a.dom.length), zaw a.dom[j] = 0 ∧ wiT a.dom[j] (i + j) 65536 = true
  idx : ∀ x ∈ a.idx, zaw x = 0 ∧ wiT x (i + a.dom.length) 65536 = true
end
section
section
attribute [local simp] zae zaf tk tn tks zb1 zcb za9 zba zbb zbz
def lvs (f : Int) (m : Nat) (vars : Int) : List T := (List.range m).map fun (i : Nat) => .mk 1 (vars - 1 - f - (i : Int)) []
theorem zNy (f : Int) (m : Nat) (vars : Int) : lvs f (m + 1) vars = lvs f m vars ++ [.mk 1 (vars - 1 - f - (m : Int)) []] := by simp [lvs, List.range_succ]
theorem zs2 (f : Int) (m : Nat) (vars : Int) : (lvs f m vars).length = m := by simp [lvs]
theorem zz5 {f : Int} {m : Nat} {vars : Int} (h0 : -10000 ≤ vars - 1 - f - m) (h1 : vars - f ≤ 10000) : ∀ y ∈ lvs f m vars, okT y := fun y hy => by
  simp only [lvs, List.mem_map, List.mem_range] at hy
  obtain ⟨i, hi, rfl⟩ := hy
  exact .mk _ _ _ (by simp only [n64]; omega) (by simp only [n64]; omega) (by simp) (by simp)
theorem zy1 (f : Int) (m : Nat) (vars : Int) (f0 : 0 ≤ f) (f1 : f ≤ 1000) (m1 : m ≤ 1000) (v0 : 0 ≤ vars) (v1 : vars ≤ 1000) : OwnC Tryz.prog zhg [.int .i64 f, .int .i64 m, .int .i64 vars] [.one (.row 3 ((lvs f m vars).map eT) false)] := by
  refine zzt rfl fun hs => ?_
  simp -dsimp [zl4]
  refine zam m (fun i st => st.s 0 = .d (.int .i64 f) ∧ st.s 2 = .d (.int .i64 vars) ∧ (st.s 6 = .rsl 6 1 ∧ st.h 6 = ⟨1, .row 3 [] false⟩) ∧ st.s 9 = .d (.int .i64 m) ∧ st.s 10 = .d (.int .i64 i) ∧
    ∃ u, st.s 7 = .rsl 7 u ∧ st.h 7 = ⟨u, .row 3 ((lvs f i vars).map eT) false⟩) ?_ ?_
  · simp -dsimp [lvs]
  · rintro i ⟨s, hp'⟩ hi ⟨g0, g2, ⟨g6, k6⟩, g9, g10, u, g7, k7⟩
    dsimp only at g0 g2 g6 k6 g9 g10 g7 k7
    rcases Nat.lt_or_ge i m with hlt | hge
    · have w1 : IntKind.i64.wrap ((i : Int) + 1) = (i : Int) + 1 := zad (by omega) (by omega)
      have w2 : IntKind.i64.wrap (vars - 1) = vars - 1 := zad (by omega) (by omega)
      have w3 : IntKind.i64.wrap (vars - 1 - f) = vars - 1 - f := zad (by omega) (by omega)
      have w4 : IntKind.i64.wrap (vars - 1 - f - (i : Int)) = vars - 1 - f - i := zad (by omega) (by omega)
      have hV := v_ok (vars - 1 - f - i)
      have hr : ((lvs f i vars).length + 1) * 40 ≤ zaj := by rw [zs2]; simp only [zaj]; omega
      have hn : (lvs f (i + 1) vars).map eT = (lvs f i vars).map eT ++ [.agg [.int .i64 1, .int .i64 (vars - 1 - f - i), .sl 3 []]] := by
        rw [zNy, List.map_append]; simp [zcr, cT]
      rw [hn]
      generalize lvs f i vars = L at *
      simp only [cT, List.map_nil] at hV
      simp -dsimp [g0, g2, g6, k6, g9, g10, g7, k7, hlt, w2, w3, w4]
      refine zaa hV ?_
      simp -dsimp [g0, g2, g6, k6, g9, g10, g7, k7, hlt, w1, hr]
    · have e : i = m := by omega
      subst e
      simp -dsimp [g0, g2, g6, k6, g9, g10, g7, k7, eTs]
theorem zIu (f : Int) (m : Nat) (vars : Int) (f0 : 0 ≤ f) (f1 : f ≤ 1000) (m1 : m ≤ 1000) (v0 : 0 ≤ vars) (v1 : vars ≤ 1000) : Pure Tryz.prog zhg [.int .i64 f, .int .i64 m, .int .i64 vars] [eTs (lvs f m vars)] := (zy1 f m vars f0 f1 m1 v0 v1).pure
def rsA (b : Bl) (base : Int) (ahead : Nat) (vars : Int) (own : List T) (i : Nat) (a : Ar) : List T :=
  (own[i]?).getD zT :: (if a.rc then [spT (tC (za7 b base a.sort)) (lvs 0 ahead vars ++ a.idx.map (fun t => ze0 t (own.take i) 0) ++ [(own[i]?).getD zT])] else [])
def rsL (b : Bl) (base : Int) (ahead : Nat) (vars : Int) (own : List T) : Nat → List Ar → List T
  | _, [] => []
  | i, a :: l => rsA b base ahead vars own i a ++ rsL b base ahead vars own (i + 1) l
theorem zE7 (b : Bl) (base : Int) (ahead : Nat) (vars : Int) (own : List T) : ∀ (l : List Ar) (i j : Nat) (h : j < l.length), rsL b base ahead vars own i (l.take (j + 1)) = rsL b base ahead vars own i (l.take j) ++ rsA b base ahead vars own (i + j) l[j]
  | a :: l, i, 0, h => by simp [rsL]
  | a :: l, i, j + 1, h => by
    simp only [List.take_succ_cons, rsL, List.getElem_cons_succ, List.append_assoc]
    rw [zE7 b base ahead vars own l (i + 1) j (by simpa using h), show i + 1 + j = i + (j + 1) by omega]
theorem zRk (b : Bl) (base : Int) (ahead : Nat) (vars : Int) (own : List T) (i : Nat) (a : Ar) : (rsA b base ahead vars own i a).length ≤ 2 := by
  rw [rsA]; split <;> simp
theorem zze (b : Bl) (base : Int) (ahead : Nat) (vars : Int) (own : List T) : ∀ (l : List Ar) (i : Nat), (rsL b base ahead vars own i l).length ≤ 2 * l.length
  | [], i => by simp [rsL]
  | a :: l, i => by
    have h1 := zze b base ahead vars own l (i + 1)
    have h2 := zRk b base ahead vars own i a
    rw [rsL, List.length_append, List.length_cons]
    omega
def resE (b : Bl) (base k vars : Int) (so : So) : T :=
  spT (.mk 1 (vars - 1 - k) []) (rsL b base (b.sorts.length + b.cons.length) vars (lvs ((b.sorts.length + b.cons.length : Nat) : Int) so.idx.length vars) 0 so.idx ++ [.mk 1 0 []])
theorem zO0 (b : Bl) (base k : Int) : okT (tC (za7 b base k)) := by
  have := zCv base (w64 (w64 (b.sorts.length + decs b.sorts) + b.cons.length)) k b.sorts.length
  exact .mk _ _ _ ⟨by omega, by omega⟩ this (by simp) (by simp)
theorem zQ6 {b : Bl} {base : Int} {ahead : Nat} {vars : Int} {own : List T} {i : Nat} {a : Ar} (ho : ∀ x ∈ own, okT x ∧ zac x ≤ 9000) (hl : ∀ y ∈ lvs 0 ahead vars, okT y) (hx : ∀ x ∈ a.idx, zac x ≤ 9000) : ∀ y ∈ rsA b base ahead vars own i a, okT y := fun y hy => by
  have h0 : okT ((own[i]?).getD zT) := by
    cases h : own[i]? with
    | none => exact zez (by omega) (by omega)
    | some x => exact (ho x (List.mem_of_getElem? h)).1
  rw [rsA] at hy
  rcases List.mem_cons.1 hy with rfl | hy
  · exact h0
  · split at hy
    · rw [List.mem_singleton] at hy
      subst hy
      refine zkj _ _ (zO0 b base a.sort) fun x hx' => ?_
      simp only [List.mem_append, List.mem_singleton, List.mem_map] at hx'
      rcases hx' with (hx' | ⟨t, ht, rfl⟩) | rfl
      · exact hl x hx'
      · exact zFt (by have := hx t ht; omega) fun z hz => by have := (ho z (List.mem_of_mem_take hz)).2; omega
      · exact h0
    · simp at hy
theorem zDu {b : Bl} {base : Int} {ahead : Nat} {vars : Int} {own : List T} (ho : ∀ x ∈ own, okT x ∧ zac x ≤ 9000) (hl : ∀ y ∈ lvs 0 ahead vars, okT y) : ∀ (l : List Ar) (i : Nat), (∀ a ∈ l, ∀ x ∈ a.idx, zac x ≤ 9000) → ∀ y ∈ rsL b base ahead vars own i l, okT y
  | [], i, _, y, hy => by simp [rsL] at hy
  | a :: l, i, h, y, hy => by
    rw [rsL] at hy
    rcases List.mem_append.1 hy with hy | hy
    · exact zQ6 ho hl (h a (by simp)) y hy
    · exact zDu ho hl l (i + 1) (fun a' ha' => h a' (by simp [ha'])) y hy
theorem zUs {L0 L1 : List T} {j : Nat} (h : L0.length ≤ 100) (h2 : L1.length ≤ 60) : (L0 ++ L1.take j).length ≤ 200 := by simp only [List.length_append, List.length_take]; omega
theorem zR7 {L0 L1 : List T} (h : L0.length ≤ 100) (h2 : L1.length ≤ 60) : (L0 ++ L1).length ≤ 200 := by simp only [List.length_append]; omega
theorem zNf {L : List T} {x : T} (h : L.length ≤ 200) : (L ++ [x]).length ≤ 100000000 ∧ (L ++ [x]).length * 40 ≤ 140737488351232 := by simp only [List.length_append, List.length_singleton]; omega
theorem zH6 {n : Nat} (h : n ≤ 200) : (n + 1) * 40 ≤ zaj := by simp only [zaj]; omega
set_option maxHeartbeats 2000000 in
theorem zI0 (b : Bl) (hf : Fit b) (base k vars : Int) (so : So) (k0 : 0 ≤ k) (hk : b.sorts[k.toNat]? = some so) (fl : zgg so.idx) (v0 : 0 ≤ vars) (v1 : vars ≤ 1000)
    (hI : ∀ (i : Nat) (h : i < so.idx.length), so.idx[i].rc = true → ∀ t ∈ so.idx[i].idx, zg2 t ((lvs ((b.sorts.length + b.cons.length : Nat) : Int) so.idx.length vars).take i) 0 = 0) :
    Pure Tryz.prog zmt [eBl b, .int .i64 base, .int .i64 k, .int .i64 vars] [.agg (cT (resE b base k vars so)), .int .i64 0] := by
  refine zz8 rfl fun hs => ?_
  have hfs := hf.s
  have hfc := hf.c
  have hil := fl.1
  have klt := (List.getElem?_eq_some_iff.1 hk).1
  have hk' := (List.getElem?_eq_some_iff.1 hk).2
  have w0 : IntKind.i64.wrap ((b.sorts.length : Int) + b.cons.length) = ((b.sorts.length + b.cons.length : Nat) : Int) := by rw [zad (by omega) (by omega)]; omega
  have hah : b.sorts.length + b.cons.length ≤ 100 := by omega
  have hL := zIu ((b.sorts.length + b.cons.length : Nat) : Int) so.idx.length vars (by omega) (by omega) (by omega) v0 v1
  have hL2 := zy1 0 (b.sorts.length + b.cons.length) vars (by omega) (by omega) (by omega) v0 v1
  have o0 : ∀ y ∈ lvs 0 (b.sorts.length + b.cons.length) vars, okT y := zz5 (by omega) (by omega)
  have l0 : (lvs 0 (b.sorts.length + b.cons.length) vars).length = b.sorts.length + b.cons.length := zs2 _ _ _
  have o1 : ∀ y ∈ lvs ((b.sorts.length + b.cons.length : Nat) : Int) so.idx.length vars, okT y ∧ zac y ≤ 9000 := fun y hy => ⟨zz5 (by omega) (by omega) y hy, by
    simp only [lvs, List.mem_map] at hy
    obtain ⟨i, _, rfl⟩ := hy
    rw [zaq]; omega⟩
  have l1 : (lvs ((b.sorts.length + b.cons.length : Nat) : Int) so.idx.length vars).length = so.idx.length := zs2 _ _ _
  have o0' := o0
  rw [resE]
  generalize hAH : b.sorts.length + b.cons.length = AH at *
  generalize hOW : lvs (AH : Int) so.idx.length vars = OW at *
  generalize hL0 : lvs 0 AH vars = L0 at o0 l0 hL2 ⊢
  have hrl := fun j => zze b base AH vars OW (so.idx.take j) 0
  have hsn := zE7 b base AH vars OW so.idx 0
  simp only [cT, eTs] at hL
  simp -dsimp [zmc, eBl, cBl, eSos, eCos, w0, k0, klt, hk, hk', eSo, cSo, eArs]
  refine zaa hL ?_
  simp -dsimp
  refine zam so.idx.length (fun i st => (st.s 1 = .d (.int .i64 base) ∧ st.s 2 = .d (.int .i64 k) ∧ st.s 3 = .d (.int .i64 vars) ∧ st.s 10 = .d (.int .i64 AH) ∧ st.s 12 = .d (eTs OW)) ∧
    (st.s 4 = .ptr 4 1 0 ∧ st.h 4 = ⟨1, .box [.d (eSos b.sorts), .d (eCos b.cons), .d (.int .i64 b.elim)] false⟩) ∧ (st.s 8 = .ptr 8 1 0 ∧ st.h 8 = ⟨1, .box [.d (.int .i64 0), .d (.int .i64 0), .fsl 3 []] false⟩) ∧
    (st.s 39 = .d (eArs so.idx) ∧ st.s 40 = .d (.int .i64 so.idx.length) ∧ st.s 41 = .d (.int .i64 i)) ∧
    ∃ u, st.s 13 = .rsl 13 u ∧ st.h 13 = ⟨u, .row 3 ((rsL b base AH vars OW 0 (so.idx.take i)).map eT) false⟩) ?_ ?_
  · simp -dsimp [eSos, eCos, eTs, eArs, rsL]
  · rintro i ⟨s, hp'⟩ hi ⟨⟨g1, g2, g3, g10, g12⟩, ⟨g4, k4⟩, ⟨g8, k8⟩, ⟨g39, g40, g41⟩, u, g13, k13⟩
    dsimp only at g1 g2 g3 g10 g12 g4 k4 g8 k8 g39 g40 g41 g13 k13
    simp only [eTs, eArs] at g12 g39
    rcases Nat.lt_or_ge i so.idx.length with hlt | hge
    · have w1 : IntKind.i64.wrap ((i : Int) + 1) = (i : Int) + 1 := zad (by omega) (by omega)
      have fa := fl.2 _ (List.getElem_mem hlt)
      have hn1 := hsn i hlt
      have hG := hrl i
      rw [List.length_take] at hG
      have hII := hI i hlt
      have hltO : i < OW.length := by omega
      have oo := o1 _ (List.getElem_mem hltO)
      have hxn : ∀ x ∈ so.idx[i].idx, zac x ≤ 9000 := fun x hx => Nat.le_trans (zcg (List.mem_map.2 ⟨_, hx, rfl⟩)) fa.idx
      rw [hn1, Nat.zero_add, rsA, List.getElem?_eq_getElem hltO, Option.getD_some, hL0]
      generalize hSP : spT (tC (za7 b base so.idx[i].sort)) (L0 ++ so.idx[i].idx.map (fun t => ze0 t (OW.take i) 0) ++ [OW[i]]) = SP
      have oOWt : ∀ z ∈ OW.take i, zac z ≤ 1048576 := fun z hz => by have := (o1 z (List.mem_of_mem_take hz)).2; omega
      have lOWt : (OW.take i).length ≤ 100 := by rw [List.length_take]; omega
      generalize rsL b base AH vars OW 0 (so.idx.take i) = G at *
      have hgl : G.length ≤ 40 := by omega
      generalize hX : OW[i] = X at *
      generalize hR : so.idx[i] = R at *
      have r1 : (G.length + 1) * 40 ≤ zaj := zso hgl trivial
      have r2 : (G.length + 1 + 1) * 40 ≤ zaj := zF3 hgl
      cases hr : R.rc with
      | false =>
        simp -dsimp [g1, g2, g3, g10, g12, g4, k4, g8, k8, g39, g40, g41, g13, k13, hlt, hltO, hX, hR, eAr, cAr, cT, hr, r1, w1, zcr, eTs, eArs]
      | true =>
        simp -dsimp [g1, g2, g3, g10, g12, g4, k4, g8, k8, g39, g40, g41, g13, k13, hlt, hltO, hX, hR, eAr, cAr, cT, hr, r1]
        refine zcy hL2 (by simp [zax, zby, RV.cells]) ?_
        simp -dsimp [g1, g2, g3, g10, g12, g4, k4, g8, k8, g39, g40, g41, g13, k13, eTs]
        refine zam R.idx.length (fun j st => (st.s 1 = .d (.int .i64 base) ∧ st.s 2 = .d (.int .i64 k) ∧ st.s 3 = .d (.int .i64 vars) ∧ st.s 10 = .d (.int .i64 AH) ∧ st.s 12 = .d (eTs OW) ∧ st.s 14 = .d (.int .i64 i)) ∧
          (st.s 4 = .ptr 4 1 0 ∧ st.h 4 = ⟨1, .box [.d (eSos b.sorts), .d (eCos b.cons), .d (.int .i64 b.elim)] false⟩) ∧ (st.s 8 = .ptr 8 1 0 ∧ st.h 8 = ⟨1, .box [.d (.int .i64 0), .d (.int .i64 0), .fsl 3 []] false⟩) ∧
          (st.s 39 = .d (eArs so.idx) ∧ st.s 40 = .d (.int .i64 so.idx.length) ∧ st.s 41 = .d (.int .i64 i)) ∧
          (∃ u, st.s 13 = .rsl 13 u ∧ st.h 13 = ⟨u, .row 3 (G.map eT ++ [eT X]) false⟩) ∧
          (∃ v, st.s 15 = .ptr 15 v 0 ∧ st.h 15 = ⟨v, .box [.d (.bool R.rc), .d (.int .i64 R.ty.kind), .d (.int .i64 R.ty.num), .d (.sl 3 (R.ty.kids.map eT)), .d (eTs R.dom), .d (.int .i64 R.sort), .d (eTs R.idx)] false⟩) ∧
          (st.s 60 = .d (eTs R.idx) ∧ st.s 61 = .d (.int .i64 R.idx.length) ∧ st.s 62 = .d (.int .i64 j)) ∧
          ∃ u, st.s 16 = .rsl 58 u ∧ st.h 58 = ⟨u, .row 3 ((L0 ++ (R.idx.map fun t => ze0 t (OW.take i) 0).take j).map eT) false⟩) ?_ ?_
        · simp -dsimp [g1, g2, g3, g10, g12, g4, k4, g8, k8, g39, g40, g41, g13, k13, eTs, eArs, eSos, eCos, zcr, cT, hr]
        · clear g1 g2 g3 g10 g12 g4 k4 g8 k8 g39 g40 g41 g13 k13
          rintro j ⟨s, hp'⟩ hj ⟨⟨g1, g2, g3, g10, g12, g14⟩, ⟨g4, k4⟩, ⟨g8, k8⟩, ⟨g39, g40, g41⟩, ⟨u, g13, k13⟩, ⟨v, g15, k15⟩, ⟨g60, g61, g62⟩, u2, g16, k58⟩
          dsimp only at g1 g2 g3 g10 g12 g14 g4 k4 g8 k8 g39 g40 g41 g13 k13 g15 k15 g60 g61 g62 g16 k58
          simp only [eTs, eArs] at g12 g39 g60 k15
          have hidl := fa.idxL
          rcases Nat.lt_or_ge j R.idx.length with hlt2 | hge2
          · have w2 : IntKind.i64.wrap ((j : Int) + 1) = (j : Int) + 1 := zad (by omega) (by omega)
            have hxm := List.getElem_mem hlt2
            have hIn := zO9 R.idx[j] (OW.take i) 0 (by have := hxn _ hxm; omega) (fun x hx => by have := oOWt x hx; omega) (by omega)
            rw [hII hr _ hxm] at hIn
            have hn : (L0 ++ (R.idx.map fun t => ze0 t (OW.take i) 0).take (j + 1)).map eT = (L0 ++ (R.idx.map fun t => ze0 t (OW.take i) 0).take j).map eT ++ [eT (ze0 R.idx[j] (OW.take i) 0)] := by
              rw [zd1 (List.getElem?_eq_getElem (by simpa using hlt2)), ← List.append_assoc, List.map_append]
              simp
            rw [hn]
            have hl2 : (L0 ++ (R.idx.map fun t => ze0 t (OW.take i) 0).take j).length ≤ 200 := zUs (by rw [l0]; exact hah) (by rw [List.length_map]; exact hidl)
            generalize L0 ++ (R.idx.map fun t => ze0 t (OW.take i) 0).take j = L1 at *
            generalize ze0 R.idx[j] (OW.take i) 0 = Y at *
            have r3 : (L1.length + 1) * 40 ≤ zaj := zH6 hl2
            generalize hZ : R.idx[j] = Z at *
            have hio : i ≤ OW.length := by omega
            have hio' : (i : Int) ≤ OW.length := by omega
            simp only [cT, eTs, List.map_take] at hIn
            simp -dsimp [g1, g2, g3, g10, g12, g14, g4, k4, g8, k8, g39, g40, g41, g13, k13, g15, k15, g60, g61, g62, g16, k58, hlt2, hZ, cT, hio, hio']
            refine zaa hIn ?_
            simp -dsimp [g1, g2, g3, g10, g12, g14, g4, k4, g8, k8, g39, g40, g41, g13, k13, g15, k15, g60, g61, g62, g16, k58, hlt2, hZ, cT, r3, w2, zcr, eTs, eArs]
          · have e : j = R.idx.length := by omega
            subst e
            rw [List.take_of_length_le (by simp)] at k58
            have hEl := zrw b base R.sort
            have hC := zHz (za7 b base R.sort)
            have oC := zO0 b base R.sort
            have oL : ∀ x ∈ L0 ++ (R.idx.map fun t => ze0 t (OW.take i) 0) ++ [X], okT x := fun x hx => by
              simp only [List.mem_append, List.mem_singleton, List.mem_map] at hx
              rcases hx with (hx | ⟨t, ht, rfl⟩) | rfl
              · exact o0 x hx
              · exact zFt (by have := hxn t ht; omega) oOWt
              · exact oo.1
            have hLl : (L0 ++ (R.idx.map fun t => ze0 t (OW.take i) 0)).length ≤ 200 := zR7 (by rw [l0]; exact hah) (by rw [List.length_map]; exact hidl)
            have hS := zhh (tC (za7 b base R.sort)) _ (zNf hLl).1 oC ⟨(zNf hLl).2, oL⟩
            rw [hSP] at hS
            clear hSP
            generalize za7 b base R.sort = EL at *
            generalize L0 ++ (R.idx.map fun t => ze0 t (OW.take i) 0) = L1 at *
            have r3 : (L1.length + 1) * 40 ≤ zaj := zH6 hLl
            simp only [eBl, cBl, eSos, eCos, cT, eTs, tC, tk, tn, tks, List.map_nil, List.map_append, List.map_cons, zcr] at hEl hC hS
            simp -dsimp [g1, g2, g3, g10, g12, g14, g4, k4, g8, k8, g39, g40, g41, g13, k13, g15, k15, g60, g61, g62, g16, k58, hlt, hltO, hX, eSos, eCos]
            refine zaa hEl ?_
            simp -dsimp [g1, g2, g3, g10, g12, g14, g4, k4, g8, k8, g39, g40, g41, g13, k13, g15, k15, g60, g61, g62, g16, k58, hlt, hltO, hX, eSos, eCos]
            refine zaa hC ?_
            simp -dsimp [g1, g2, g3, g10, g12, g14, g4, k4, g8, k8, g39, g40, g41, g13, k13, g15, k15, g60, g61, g62, g16, k58, hlt, hltO, hX, eSos, eCos, r3, cT]
            refine zaa hS ?_
            simp -dsimp [g1, g2, g3, g10, g12, g14, g4, k4, g8, k8, g39, g40, g41, g13, k13, g15, k15, g60, g61, g62, g16, k58, hlt, hltO, hX, eSos, eCos, r2, w1, cT, zcr, eTs, eArs]
    · have e : i = so.idx.length := by omega
      subst e
      rw [List.take_length] at k13
      have w4 : IntKind.i64.wrap (vars - 1) = vars - 1 := zad (by omega) (by omega)
      have w5 : IntKind.i64.wrap (vars - 1 - k) = vars - 1 - k := zad (by omega) (by omega)
      have hV := v_ok (vars - 1 - k)
      have hV0 := v_ok 0
      have oV : okT (.mk 1 (vars - 1 - k) []) := .mk _ _ _ (by simp only [n64]; omega) (by simp only [n64]; omega) (by simp) (by simp)
      have oL := zDu (b := b) (base := base) (ahead := AH) (vars := vars) (own := OW) o1 o0' so.idx 0 fun a ha x hx => Nat.le_trans (zcg (List.mem_map.2 ⟨_, hx, rfl⟩)) (fl.2 a ha).idx
      have hgl := zze b base AH vars OW so.idx 0
      generalize rsL b base AH vars OW 0 so.idx = G at *
      have oL2 : ∀ x ∈ G ++ [.mk 1 0 []], okT x := fun x hx => by
        rcases List.mem_append.1 hx with hx | hx
        · exact oL x hx
        · rw [List.mem_singleton] at hx; subst hx; exact zez (by omega) (by omega)
      have hGl : G.length ≤ 200 := Nat.le_trans hgl (by omega)
      have hS := zhh (.mk 1 (vars - 1 - k) []) _ (zNf hGl).1 oV ⟨(zNf hGl).2, oL2⟩
      have r1 : (G.length + 1) * 40 ≤ zaj := zso (by omega) trivial
      generalize spT (.mk 1 (vars - 1 - k) []) _ = SP at *
      simp only [cT, eTs, tk, tn, tks, List.map_nil, List.map_append, List.map_cons, zcr] at hV hV0 hS
      simp -dsimp [g1, g2, g3, g10, g12, g4, k4, g8, k8, g39, g40, g41, g13, k13, w4, w5]
      refine zaa hV ?_
      simp -dsimp [g1, g2, g3, g10, g12, g4, k4, g8, k8, g39, g40, g41, g13, k13]
      refine zaa hV0 ?_
      simp -dsimp [g1, g2, g3, g10, g12, g4, k4, g8, k8, g39, g40, g41, g13, k13, r1, zcr, cT]
      refine zaa hS ?_
      simp -dsimp [g1, g2, g3, g10, g12, g4, k4, g8, k8, g39, g40, g41, g13, k13, cT]
end
end
section
section
attribute [local simp] zae zaf tk tn tks zb1 zcb za9 zba zbb zbz
theorem zCd {n : Int} (h : 0 ≤ n ∧ n ≤ 65535) : zaw (.mk 1 n []) = 0 := by
  refine (zn5 (by rw [zaq]; omega)).2 ⟨by rw [zaq]; omega, by rw [zen]; omega, zbm h⟩
theorem zHv {t : T} {l : List T} {V : Int} (hV : 0 ≤ V ∧ V ≤ 100) (ht : zaw t = 0) (hn : zac t ≤ 9000) (hl : ∀ x ∈ l, ∃ n : Int, x = .mk 1 n [] ∧ 0 ≤ n ∧ n < V) (hln : l.length ≤ 100) (hw : wiT t l.length 65536 = true) : zg2 t l 0 = 0 := by
  have hx : ∀ x ∈ l, zaw x = 0 ∧ zac x ≤ 9000 ∧ wiT x V 65536 = true := fun x hx => by
    obtain ⟨n, rfl, h0, h1⟩ := hl x hx
    exact ⟨zCd ⟨h0, by omega⟩, by rw [zaq]; omega, zks (by omega)⟩
  have hf := zf5 ht
  obtain ⟨c1, c2, _⟩ := (zn5 (by omega)).1 ht
  have h1 := (zLi hV (u := 0) ⟨by omega, by omega⟩ ht hn hx hln (by rw [Int.zero_add]; exact hw)).1
  have hleaf : ∀ n b, ∃ k m : Int, zd7 l 0 n b = .mk k m [] := fun n b => by
    rw [zd7]
    split
    · split
      · rename_i a ha
        obtain ⟨m, rfl, _, _⟩ := hl a (List.mem_of_getElem? ha)
        exact ⟨_, _, by rw [zm7, mapT, if_pos rfl]⟩
      · exact ⟨_, _, rfl⟩
    · exact ⟨_, _, rfl⟩
  have hN : zac (mapT (zd7 l 0) t 0) = zac t := zpf _ (fun n b => by obtain ⟨k, m, e⟩ := hleaf n b; rw [e, zaq]) t hf 0
  have hD : za5 (mapT (zd7 l 0) t 0) = za5 t := ztu _ (fun n b => by obtain ⟨k, m, e⟩ := hleaf n b; rw [e, zen]) t hf 0
  have hO : zi4 t l 0 = 0 := (zC2 t l 0).2 ⟨ht, fun x h => (hx x h).1, by omega, by omega⟩
  have hl' : ∀ x ∈ l, zac x ≤ 1048576 := fun x h => by have := (hx x h).2.1; omega
  refine (zFy (by omega) hl').2 ⟨hO, ?_, by omega, by omega⟩
  cases hs : scI l 0 t 0 with
  | false => rfl
  | true =>
    have : zg2 t l 0 = 6 := by rw [zg2, if_pos hO, zwk hO (by omega) hl', hs]; rfl
    omega
def fstN (f : Nat → Int) : Nat → Int
  | 0 => 0
  | n + 1 => if fstN f n = 0 then f n else fstN f n
theorem zGd {f : Nat → Int} {i : Nat} (h0 : fstN f i = 0) (h1 : f i ≠ 0) : ∀ {n : Nat}, i < n → fstN f n = f i := by
  intro n
  induction n with
  | zero => omega
  | succ n ih =>
    intro hlt
    rcases Nat.lt_or_ge i n with h | h
    · rw [fstN, ih h, if_neg h1]
    · have : i = n := by omega
      subst this
      rw [fstN, if_pos h0]
theorem zlq {f : Nat → Int} : ∀ {n : Nat}, fstN f n = 0 ↔ ∀ i, i < n → f i = 0 := by
  intro n
  induction n with
  | zero => simp [fstN]
  | succ n ih =>
    rw [fstN]
    constructor
    · intro h i hi
      split at h
      · rename_i h0
        rcases Nat.lt_or_ge i n with h1 | h1
        · exact ih.1 h0 i h1
        · have : i = n := by omega
          subst this; exact h
      · rename_i h0; exact absurd h h0
    · intro h
      rw [if_pos (ih.2 fun i hi => h i (by omega))]
      exact h n (by omega)
def zkp (b : Bl) (base : Int) (n : Nat) : List T := (List.range n).map fun (i : Nat) => motR b base (i : Int)
def zps (b : Bl) (base : Int) (n : Nat) : List T := (List.range n).map fun (i : Nat) => metR b base (i : Int)
theorem zHc (b : Bl) (base : Int) (n : Nat) : zkp b base (n + 1) = zkp b base n ++ [motR b base n] := by simp [zkp, List.range_succ]
theorem zHw (b : Bl) (base : Int) (n : Nat) : zps b base (n + 1) = zps b base n ++ [metR b base n] := by simp [zps, List.range_succ]
theorem zw9 (b : Bl) (base : Int) (n : Nat) : (zkp b base n).length = n := by simp [zkp]
theorem zxx (b : Bl) (base : Int) (n : Nat) : (zps b base n).length = n := by simp [zps]
def elL (b : Bl) (base k : Int) (so : So) : List T := zkp b base b.sorts.length ++ zps b base b.cons.length ++ so.idx.map (zcn b base) ++ [spT (tC (zbe b base k)) (zc8 so.idx.length)]
theorem zIn (b : Bl) (base k : Int) (so : So) : (elL b base k so).length = b.sorts.length + b.cons.length + so.idx.length + 1 := by
  simp only [elL, List.length_append, zw9, zxx, List.length_map, List.length_singleton]
def elT (b : Bl) (base k : Int) (so : So) : T := zbu 4 (elL b base k so) (resE b base k ((elL b base k so).length : Int) so)
def elE (b : Bl) (base k : Int) : Int :=
  if mayP b base k b.sorts.length = 0 then
    if fstN (fun i => motE b base i) b.sorts.length = 0 then
      if fstN (fun i => metE b base i) b.cons.length = 0 then (match b.sorts[k.toNat]? with | some so => zaw (elT b base k so) | none => 1)
      else fstN (fun i => metE b base i) b.cons.length
    else fstN (fun i => motE b base i) b.sorts.length
  else mayP b base k b.sorts.length
def elR (b : Bl) (base k : Int) : T := if elE b base k = 0 then (match b.sorts[k.toNat]? with | some so => elT b base k so | none => zT) else zT
theorem zO7 (b : Bl) (base k : Int) : okT (motR b base k) := by
  rw [motR]
  split
  · rename_i h
    split
    · rename_i so hso
      rw [motE] at h
      split at h
      · simp only [hso] at h
        exact zd9 (zf5 h)
      · rename_i h'; exact absurd h h'
    · exact zez (by omega) (by omega)
  · exact zez (by omega) (by omega)
theorem zR6 (b : Bl) (base k : Int) : okT (metR b base k) := by
  rw [metR]
  split
  · rename_i h
    rw [metE] at h
    split at h
    · cases hA : metA b base k with
      | none => exact zez (by omega) (by omega)
      | some t =>
        simp only [hA] at h
        exact zd9 (zf5 h)
    · rename_i h'; exact absurd h h'
  · exact zez (by omega) (by omega)
theorem zD6 {b : Bl} {l : List Ar} (hr : rowM b l = true) (fl : zgg l) (hd0 : ∀ a ∈ l, a.rc = true → a.dom = []) {o V : Int} (h0 : 0 ≤ V - o - l.length) (h1 : 0 ≤ o) (V1 : V ≤ 100) : ∀ (i : Nat) (h : i < l.length), l[i].rc = true → ∀ t ∈ l[i].idx, zg2 t ((lvs o l.length V).take i) 0 = 0 := fun i h hrc t ht => by
  obtain ⟨hr1, hr2⟩ := zi7 hr
  have fa := fl.2 _ (List.getElem_mem h)
  have hnx : zac t ≤ 9000 := Nat.le_trans (zcg (List.mem_map.2 ⟨_, ht, rfl⟩)) fa.idx
  obtain ⟨_, s0, s1, d1, ⟨so, hso, hil⟩, hd, hx⟩ := zf8 (hr2 i h) hrc (by omega) (by omega)
  have hx1 := hx t ht
  rw [hd0 _ (List.getElem_mem h) hrc, List.length_nil] at hx1
  have hf := zcc hx1 (by omega) (by omega) (by omega)
  have hlen : ((lvs o l.length V).take i).length = i := by rw [List.length_take, zs2]; omega
  refine zHv (V := V) ⟨by omega, by omega⟩ hf.2.2 hnx (fun x hxm => ?_) (by omega) (by rw [hlen]; simpa using hf.1)
  have := List.mem_of_mem_take hxm
  simp only [lvs, List.mem_map, List.mem_range] at this
  obtain ⟨j, hj, rfl⟩ := this
  exact ⟨_, rfl, by omega, by omega⟩
theorem zB9 {b : Bl} {base k many : Int} : (zbl 9000 b base ≠ 0 → mayP b base k many = zbl 9000 b base) ∧ (zbl 9000 b base = 0 → (k < 0 ∨ many ≤ k) → mayP b base k many = 1) ∧ (zbl 9000 b base = 0 → ¬(k < 0 ∨ many ≤ k) → mayP b base k many = 0) :=
  ⟨fun h => by rw [mayP, if_neg (fun h' => h h'.1)], fun h h' => by rw [mayP, if_pos ⟨h, h'⟩], fun h h' => by rw [mayP, if_neg (fun h2 => h' h2.2), h]⟩
set_option maxHeartbeats 4000000 in
theorem zrj (b : Bl) (ob : okBl b) (fb : FineBl b) (hf : Fit b) (base k : Int) (b1 : base ≤ 60000) : Pure Tryz.prog zkh [eBl b, .int .i64 base, .int .i64 k] [.agg (cT (elR b base k)), .int .i64 (elE b base k)] := by
  refine zD5 rfl fun hs => ?_
  have hP := zFf 9000 (by omega) (by omega) b ob fb base
  simp only [eBl, cBl, eSos, eCos] at hP
  obtain ⟨m1, m2, m3⟩ := zB9 (b := b) (base := base) (k := k) (many := b.sorts.length)
  have bad : elE b base k ≠ 0 → elR b base k = zT := fun h => by rw [elR, if_neg h]
  by_cases hp : zbl 9000 b base = 0
  case neg =>
    have e1 : elE b base k = zbl 9000 b base := by rw [elE, if_neg (by rw [m1 hp]; exact hp), m1 hp]
    rw [bad (by rw [e1]; exact hp), e1]
    simp -dsimp [zm5, eBl, cBl, eSos, eCos]
    refine zaa hP ?_
    simp -dsimp [hp, zT, cT]
  rw [hp] at hP
  obtain ⟨hz, b0, _, hpos⟩ := zcd hp
  obtain ⟨z1, z4, z8, zl, zs, zc⟩ := (za2 b).1 hz
  simp -dsimp [zm5, eBl, cBl, eSos, eCos]
  refine zaa hP ?_
  by_cases k0 : k < 0
  · have e0 := m2 hp (.inl k0)
    have e1 : elE b base k = 1 := by rw [elE, if_neg (by rw [e0]; decide), e0]
    rw [bad (by rw [e1]; decide), e1]
    simp -dsimp [k0, zT, cT]
  by_cases k1 : (b.sorts.length : Int) ≤ k
  · have e0 := m2 hp (.inr k1)
    have e1 : elE b base k = 1 := by rw [elE, if_neg (by rw [e0]; decide), e0]
    rw [bad (by rw [e1]; decide), e1]
    simp -dsimp [k0, k1, zT, cT]
  have e0 := m3 hp (by omega)
  simp -dsimp [k0, k1]
  have hfs := hf.s
  have hfc := hf.c
  refine zam b.sorts.length (fun i st => (st.s 1 = .d (.int .i64 base) ∧ st.s 2 = .d (.int .i64 k)) ∧ (st.s 3 = .ptr 3 1 0 ∧ st.h 3 = ⟨1, .box [.d (eSos b.sorts), .d (eCos b.cons), .d (.int .i64 b.elim)] false⟩) ∧
    (st.s 6 = .ptr 6 1 0 ∧ st.h 6 = ⟨1, .box [.d (.int .i64 0), .d (.int .i64 0), .fsl 3 []] false⟩) ∧ (st.s 40 = .d (.int .i64 b.sorts.length) ∧ st.s 41 = .d (.int .i64 i)) ∧
    (∃ u, st.s 9 = .rsl 9 u ∧ st.h 9 = ⟨u, .row 3 ((zkp b base i).map eT) false⟩) ∧ fstN (fun i => motE b base i) i = 0) ?_ ?_
  · simp -dsimp [eSos, eCos, zkp, fstN]
  rintro i ⟨s, hp'⟩ hi ⟨⟨g1, g2⟩, ⟨g3, k3⟩, ⟨g6, k6⟩, ⟨g40, g41⟩, ⟨u, g9, k9⟩, hF⟩
  dsimp only at g1 g2 g3 k3 g6 k6 g40 g41 g9 k9
  simp only [eSos, eCos] at k3
  rcases Nat.lt_or_ge i b.sorts.length with hlt | hge
  · have w1 : IntKind.i64.wrap ((i : Int) + 1) = (i : Int) + 1 := zad (by omega) (by omega)
    have hM := zIi b ob fb hf base i b1
    have hr : ((zkp b base i).length + 1) * 40 ≤ zaj := by rw [zw9]; simp only [zaj]; omega
    have hn : (zkp b base (i + 1)).map eT = (zkp b base i).map eT ++ [eT (motR b base i)] := by rw [zHc, List.map_append]; rfl
    have hF1 : fstN (fun i => motE b base i) (i + 1) = motE b base i := by rw [fstN, if_pos hF]
    rw [hn, hF1]
    by_cases hE : motE b base i = 0
    · generalize zkp b base i = G at *
      generalize motR b base i = Y at *
      simp only [eBl, cBl, eSos, eCos, cT] at hM
      rw [hE] at hM
      simp -dsimp [g1, g2, g3, k3, g6, k6, g40, g41, g9, k9, hlt]
      refine zaa hM ?_
      simp -dsimp [g1, g2, g3, k3, g6, k6, g40, g41, g9, k9, hlt, hE, hr, w1, zcr, cT, eSos, eCos]
    · have hh := zGd (f := fun i => motE b base i) hF hE hlt
      have e1 : elE b base k = motE b base i := by rw [elE, if_pos e0, hh, if_neg hE]
      rw [bad (by rw [e1]; exact hE), e1]
      generalize motE b base i = E at *
      generalize zkp b base i = G at *
      generalize motR b base i = Y at *
      simp only [eBl, cBl, eSos, eCos, cT] at hM
      simp -dsimp [g1, g2, g3, k3, g6, k6, g40, g41, g9, k9, hlt]
      refine zaa hM ?_
      simp -dsimp [g1, g2, g3, k3, g6, k6, g40, g41, g9, k9, hlt, hE, zT, cT]
  have e : i = b.sorts.length := by omega
  subst e
  simp -dsimp [g1, g2, g3, k3, g6, k6, g40, g41, g9, k9]
  refine zam b.cons.length (fun i st => (st.s 1 = .d (.int .i64 base) ∧ st.s 2 = .d (.int .i64 k)) ∧ (st.s 3 = .ptr 3 1 0 ∧ st.h 3 = ⟨1, .box [.d (eSos b.sorts), .d (eCos b.cons), .d (.int .i64 b.elim)] false⟩) ∧
    (st.s 6 = .ptr 6 1 0 ∧ st.h 6 = ⟨1, .box [.d (.int .i64 0), .d (.int .i64 0), .fsl 3 []] false⟩) ∧ (st.s 62 = .d (.int .i64 b.cons.length) ∧ st.s 63 = .d (.int .i64 i)) ∧
    (∃ u, st.s 9 = .rsl 9 u ∧ st.h 9 = ⟨u, .row 3 ((zkp b base b.sorts.length ++ zps b base i).map eT) false⟩) ∧ fstN (fun i => metE b base i) i = 0) ?_ ?_
  · simp -dsimp [eSos, eCos, zps, fstN, g1, g2, g3, k3, g6, k6, g40, g41, g9, k9]
  clear g1 g2 g3 k3 g6 k6 g40 g41 g9 k9 hi hge
  rintro i ⟨s, hp'⟩ hi ⟨⟨g1, g2⟩, ⟨g3, k3⟩, ⟨g6, k6⟩, ⟨g62, g63⟩, ⟨u, g9, k9⟩, hG⟩
  dsimp only at g1 g2 g3 k3 g6 k6 g62 g63 g9 k9
  simp only [eSos, eCos] at k3
  have lM := zw9 b base b.sorts.length
  rcases Nat.lt_or_ge i b.cons.length with hlt | hge
  · have w1 : IntKind.i64.wrap ((i : Int) + 1) = (i : Int) + 1 := zad (by omega) (by omega)
    have hM := zH2 b ob fb hf base i b1
    have hr : ((zkp b base b.sorts.length ++ zps b base i).length + 1) * 40 ≤ zaj := by rw [List.length_append, lM, zxx]; simp only [zaj]; omega
    have hn : (zkp b base b.sorts.length ++ zps b base (i + 1)).map eT = (zkp b base b.sorts.length ++ zps b base i).map eT ++ [eT (metR b base i)] := by rw [zHw, ← List.append_assoc, List.map_append]; rfl
    have hF1 : fstN (fun i => metE b base i) (i + 1) = metE b base i := by rw [fstN, if_pos hG]
    rw [hn, hF1]
    generalize zkp b base b.sorts.length ++ zps b base i = G at *
    by_cases hE : metE b base i = 0
    · generalize metR b base i = Y at *
      simp only [eBl, cBl, eSos, eCos, cT] at hM
      rw [hE] at hM
      simp -dsimp [g1, g2, g3, k3, g6, k6, g62, g63, g9, k9, hlt]
      refine zaa hM ?_
      simp -dsimp [g1, g2, g3, k3, g6, k6, g62, g63, g9, k9, hlt, hE, hr, w1, zcr, cT, eSos, eCos]
    · have hh := zGd (f := fun i => metE b base i) hG hE hlt
      have e1 : elE b base k = metE b base i := by rw [elE, if_pos e0, if_pos hF, hh, if_neg hE]
      rw [bad (by rw [e1]; exact hE), e1]
      generalize metE b base i = E at *
      generalize metR b base i = Y at *
      simp only [eBl, cBl, eSos, eCos, cT] at hM
      simp -dsimp [g1, g2, g3, k3, g6, k6, g62, g63, g9, k9, hlt]
      refine zaa hM ?_
      simp -dsimp [g1, g2, g3, k3, g6, k6, g62, g63, g9, k9, hlt, hE, zT, cT]
  have e : i = b.cons.length := by omega
  subst e
  have klt : k.toNat < b.sorts.length := by omega
  have hget : b.sorts[k.toNat]? = some b.sorts[k.toNat] := List.getElem?_eq_getElem klt
  have kk0 : 0 ≤ k := by omega
  have os := ob.sorts _ (List.getElem_mem klt)
  have fs := fb.sorts _ (List.getElem_mem klt)
  have hsm := zs _ klt
  have e1 : elE b base k = zaw (elT b base k b.sorts[k.toNat]) := by rw [elE, if_pos e0, if_pos hF, if_pos hG, hget]
  have e2 : elR b base k = zg1 (elT b base k b.sorts[k.toNat]) := by rw [elR, zg1, e1, hget]
  generalize hS : b.sorts[k.toNat] = S at *
  obtain ⟨hrow, _, _, hbad⟩ := (zbt _ _ _).1 hsm
  have hil := fs.idx.1
  have hd0 : ∀ a ∈ S.idx, a.rc = true → a.dom = [] := fun a ha hr => by
    have := hbad a ha
    rw [zew, if_pos hr] at this
    split at this
    · cases this
    · exact List.eq_nil_of_length_eq_zero (by omega)
  have lL := zIn b base k S
  have lN := zxx b base b.cons.length
  have hA := zE0 b base S.idx os.idx fs.idx
  have hFo := zrx b base k
  have hC := zHz (zbe b base k)
  have hfi := zit hf b0 (by omega : base ≤ 65535) k
  rw [if_pos ⟨kk0, by omega⟩] at hfi
  have oC : okT (tC (zbe b base k)) := zez (by omega) (by omega)
  have hV := zRm S.idx.length (by omega)
  have hSp := zhh (tC (zbe b base k)) (zc8 S.idx.length) (by rw [zj3]; omega) oC (zy4 _ (by omega))
  have oSp := zkj (zc8 S.idx.length) _ oC (zy4 S.idx.length (by omega)).2
  have hR := zI0 b hf base k ((elL b base k S).length : Int) S kk0 hget fs.idx (by omega) (by omega) (zD6 hrow fs.idx hd0 (by omega) (by omega) (by omega))
  have oR : okT (resE b base k ((elL b base k S).length : Int) S) := by
    refine zkj _ _ (.mk _ _ _ (by simp only [n64]; omega) (by simp only [n64]; omega) (by simp) (by simp)) fun x hx => ?_
    rcases List.mem_append.1 hx with hx | hx
    · refine zDu (fun y hy => ⟨zz5 (by omega) (by omega) y hy, ?_⟩) (zz5 (by omega) (by omega)) S.idx 0 (fun a ha x hx => Nat.le_trans (zcg (List.mem_map.2 ⟨_, hx, rfl⟩)) (fs.idx.2 a ha).idx) x hx
      simp only [lvs, List.mem_map] at hy
      obtain ⟨i, _, rfl⟩ := hy
      rw [zaq]; omega
    · rw [List.mem_singleton] at hx; subst hx; exact zez (by omega) (by omega)
  have oA := zLl b base os.idx fs.idx
  have oL : ∀ x ∈ elL b base k S, okT x := fun x hx => by
    simp only [elL, List.mem_append, List.mem_singleton] at hx
    rcases hx with ((hx | hx) | hx) | rfl
    · obtain ⟨i, _, rfl⟩ := List.mem_map.1 hx
      exact zO7 b base i
    · obtain ⟨i, _, rfl⟩ := List.mem_map.1 hx
      exact zR6 b base i
    · exact oA.2 x hx
    · exact oSp
  have hPi := zFr (elL b base k S) _ (by omega) oR ⟨by omega, oL⟩
  have hCh := zr1 (elT b base k S)
  rw [e1, e2]
  rw [← elT] at hPi
  have lA : (S.idx.map (zcn b base)).length = S.idx.length := List.length_map ..
  have hLe : (elL b base k S).map eT = (zkp b base b.sorts.length ++ zps b base b.cons.length).map eT ++ (S.idx.map (zcn b base)).map eT ++ [eT (spT (tC (zbe b base k)) (zc8 S.idx.length))] := by
    rw [elL, List.map_append, List.map_append, List.map_singleton]
  have hGl : (zkp b base b.sorts.length ++ zps b base b.cons.length).length ≤ 100 := by rw [List.length_append, lM, lN]; omega
  generalize elT b base k S = ET at *
  generalize resE b base k ((elL b base k S).length : Int) S = RE at *
  generalize elL b base k S = EL at *
  generalize zkp b base b.sorts.length ++ zps b base b.cons.length = G at *
  generalize S.idx.map (zcn b base) = AR at *
  generalize spT (tC (zbe b base k)) (zc8 S.idx.length) = SP at *
  generalize zbe b base k = FO at *
  have hl2 : EL.length = G.length + AR.length + 1 := by
    have := congrArg List.length hLe
    simp only [List.length_map, List.length_append, List.length_singleton] at this
    exact this
  rw [hl2] at hR
  have r1 : (G.length + AR.length) * 40 ≤ zaj := by simp only [zaj]; omega
  have r2 : (G.length + AR.length + 1) * 40 ≤ zaj := by simp only [zaj]; omega
  clear hP e1 e2 bad m1 m2 m3 oL oA oR oSp hd0 hbad hrow zs zc oC
  simp only [eTs] at hPi
  rw [hLe, List.append_assoc] at hPi
  have hle2 : ((G.length + AR.length + 1 : Nat) : Int) = (G.length : Int) + AR.length + 1 := by omega
  simp only [eBl, cBl, eSos, eCos, cT, eTs, eArs, tC, tk, tn, tks, List.map_nil, zcr, hle2] at hA hFo hC hV hSp hR hPi hCh
  simp -dsimp [g1, g2, g3, k3, g6, k6, g62, g63, g9, k9, kk0, klt, hget, hS, eSo, cSo, cT, eArs]
  refine zaa hA ?_
  simp -dsimp [g1, g2, g3, k3, g6, k6, g62, g63, g9, k9, kk0, klt, hget, hS, eSo, cSo, cT, eArs, r1]
  refine zaa hFo ?_
  simp -dsimp [g1, g2, g3, k3, g6, k6, g62, g63, g9, k9]
  refine zaa hC ?_
  simp -dsimp [g1, g2, g3, k3, g6, k6, g62, g63, g9, k9]
  refine zaa hV ?_
  simp -dsimp [g1, g2, g3, k3, g6, k6, g62, g63, g9, k9]
  refine zaa hSp ?_
  simp -dsimp [g1, g2, g3, k3, g6, k6, g62, g63, g9, k9, r2, cT]
  refine zaa hR ?_
  simp -dsimp [g1, g2, g3, k3, g6, k6, g62, g63, g9, k9, cT]
  refine zaa hPi ?_
  simp -dsimp [g1, g2, g3, k3, g6, k6, g62, g63, g9, k9, cT]
  refine zaa hCh ?_
  by_cases hc : zaw ET = 0
  · simp -dsimp [g1, g2, g3, k3, g6, k6, hc, zg1, cT]
  · simp -dsimp [g1, g2, g3, k3, g6, k6, hc, zg1, zT, cT]
end
end
section
section
attribute [local simp] zae zaf tk tn tks zb1 zcb
end
end
section
def n64B (n : Int) : Bool := decide (-9223372036854775808 ≤ n) && decide (n < 9223372036854775808)
theorem zza {n : Int} (h : n64B n = true) : n64 n := by
  rw [n64B, Bool.and_eq_true, decide_eq_true_eq, decide_eq_true_eq] at h
  exact h
mutual
def okTB : T → Bool
  | .mk k n ks => n64B k && (n64B n && (decide (ks.length * 40 ≤ 140737488351232) && okLB ks))
def okLB : List T → Bool
  | [] => true
  | x :: xs => okTB x && okLB xs
end
theorem zOz {xs : List T} (hx : ∀ x ∈ xs, okTB x = true → okT x) (h : okLB xs = true) : ∀ x ∈ xs, okT x := by
  induction xs with
  | nil => intro x hx'; simp at hx'
  | cons y ys ih =>
    rw [okLB, Bool.and_eq_true] at h
    intro x hm
    rcases List.mem_cons.1 hm with rfl | hm
    · exact hx _ (by simp) h.1
    · exact ih (fun z hz => hx z (by simp [hz])) h.2 x hm
theorem zyt (t : T) : okTB t = true → okT t := by
  refine T.ind (p := fun t => okTB t = true → okT t) ?_ t
  intro k n ks ih h
  rw [okTB] at h
  simp only [Bool.and_eq_true, decide_eq_true_eq] at h
  exact .mk k n ks (zza h.1) (zza h.2.1) h.2.2.1 (zOz ih h.2.2.2)
def zJr (l : List T) : Bool := decide (l.length * 40 ≤ 140737488351232) && okLB l
theorem zzq {l : List T} (h : zJr l = true) : okTs l := by
  rw [zJr, Bool.and_eq_true, decide_eq_true_eq] at h
  exact ⟨h.1, zOz (fun x _ => zyt x) h.2⟩
def zSu (a : Ar) : Bool := okTB a.ty && (zJr a.dom && (n64B a.sort && zJr a.idx))
def zGf (l : List Ar) : Bool := decide (l.length * 104 ≤ 140737488351232) && l.all zSu
theorem zGg {l : List Ar} (h : zGf l = true) : zuw l := by
  rw [zGf, Bool.and_eq_true, decide_eq_true_eq, List.all_eq_true] at h
  refine ⟨h.1, fun a ha => ?_⟩
  have := h.2 a ha
  simp only [zSu, Bool.and_eq_true] at this
  exact ⟨zyt _ this.1, zzq this.2.1, zza this.2.2.1, zzq this.2.2.2⟩
def zQn (b : Bl) : Bool := decide (b.sorts.length * 80 ≤ 140737488351232) && (b.sorts.all (fun s => zGf s.idx && (n64B s.level && okTB s.dty)) && (decide (b.cons.length * 96 ≤ 140737488351232) &&
  (b.cons.all (fun c => n64B c.sort && (zGf c.args && (zJr c.idx && okTB c.dec))) && n64B b.elim)))
theorem zPx {b : Bl} (h : zQn b = true) : okBl b := by
  simp only [zQn, Bool.and_eq_true, decide_eq_true_eq, List.all_eq_true] at h
  obtain ⟨h1, h2, h3, h4, h5⟩ := h
  exact ⟨h1, fun s hs => ⟨zGg (h2 s hs).1, zza (h2 s hs).2.1, zyt _ (h2 s hs).2.2⟩, h3, fun c hc => ⟨zza (h4 c hc).1, zGg (h4 c hc).2.1, zzq (h4 c hc).2.2.1, zyt _ (h4 c hc).2.2.2⟩, zza h5⟩
mutual
def nodB : T → Nat
  | .mk _ _ ks => 1 + zCz ks
def zCz : List T → Nat
  | [] => 0
  | x :: xs => nodB x + zCz xs
end
theorem zGa {xs : List T} (h : ∀ x ∈ xs, nodB x = zac x) : zCz xs = (xs.map zac).sum := by
  induction xs with
  | nil => rfl
  | cons y ys ih => rw [zCz, h y (by simp), ih fun z hz => h z (by simp [hz]), List.map_cons, List.sum_cons]
theorem zxy (t : T) : nodB t = zac t := by
  refine T.ind (p := fun t => nodB t = zac t) ?_ t
  intro k n ks ih
  rw [nodB, zac, zGa ih, Nat.add_comm]
theorem zFo (l : List T) : zCz l = (l.map zac).sum := zGa fun x _ => zxy x
def zvf (l : List Ar) : Bool := decide (l.length ≤ 20) && l.all fun a => decide (nodB a.ty ≤ 9000) && (decide (a.dom.length ≤ 60) && (decide (zCz a.dom ≤ 9000) && (decide (a.idx.length ≤ 60) && decide (zCz a.idx ≤ 9000))))
theorem zyj {l : List Ar} (h : zvf l = true) : zgg l := by
  simp only [zvf, zxy, zFo, Bool.and_eq_true, decide_eq_true_eq, List.all_eq_true] at h
  exact ⟨h.1, fun a ha => ⟨(h.2 a ha).1, (h.2 a ha).2.1, (h.2 a ha).2.2.1, (h.2 a ha).2.2.2.1, (h.2 a ha).2.2.2.2⟩⟩
def zEz (b : Bl) : Bool := decide (b.sorts.length ≤ 10) && (decide (b.cons.length ≤ 20) && ((b.sorts.all fun s => zvf s.idx && decide (nodB s.dty ≤ 9000)) &&
  b.cons.all fun c => zvf c.args && (decide (c.idx.length ≤ 60) && (decide (zCz c.idx ≤ 9000) && decide (nodB c.dec ≤ 9000)))))
theorem zH7 {b : Bl} (h : zEz b = true) : FineBl b := by
  simp only [zEz, zxy, zFo, Bool.and_eq_true, decide_eq_true_eq, List.all_eq_true] at h
  obtain ⟨h1, h2, h3, h4⟩ := h
  exact ⟨h1, h2, fun s hs => ⟨zyj (h3 s hs).1, (h3 s hs).2⟩, fun c hc => ⟨zyj (h4 c hc).1, (h4 c hc).2.1, (h4 c hc).2.2.1, (h4 c hc).2.2.2⟩⟩
mutual
def zx5 : T → Bool
  | .mk k n ks => if (ks.length : Int) = zdy k then if zdy k = 0 then inB n 0 65535 && zC9 ks else if n = 0 then zC9 ks else false else false
def zC9 : List T → Bool
  | [] => true
  | x :: xs => zx5 x && zC9 xs
end
theorem zLq {xs : List T} (h : ∀ x ∈ xs, zx5 x = zab x) : zC9 xs = xs.all zab := by
  induction xs with
  | nil => rfl
  | cons y ys ih => rw [zC9, h y (by simp), ih fun z hz => h z (by simp [hz]), List.all_cons]
theorem zF5 (t : T) : zx5 t = zab t := by
  refine T.ind (p := fun t => zx5 t = zab t) ?_ t
  intro k n ks ih
  rw [zx5, zaz, zLq ih]
def inC (t : T) (v : Nat) : Bool := decide (v ≤ 65536) && (decide (nodB t ≤ 200) && (zx5 t && wiT t v 65536))
theorem zGl {t : T} {v : Nat} (h : inC t v = true) : inM t v = true := by
  simp only [inC, Bool.and_eq_true, decide_eq_true_eq, zxy, zF5] at h
  obtain ⟨h1, h2, h3, h4⟩ := h
  have hd := zo9 t
  exact (zNt (by omega) (by omega) (by omega)).2 ⟨(zn5 (by omega)).2 ⟨by omega, by omega, h3⟩, h4⟩
def domC : Nat → List T → Bool
  | _, [] => true
  | i, x :: xs => inC x i && domC (i + 1) xs
theorem zJ4 : ∀ (l : List T) (i : Nat), domC i l = true → ∀ (j : Nat) (hj : j < l.length), inC l[j] (i + j) = true
  | x :: xs, i, h, 0, _ => by rw [domC, Bool.and_eq_true] at h; exact h.1
  | x :: xs, i, h, j + 1, hj => by
    rw [domC, Bool.and_eq_true] at h
    have := zJ4 xs (i + 1) h.2 j (by simpa using hj)
    rw [show i + (j + 1) = i + 1 + j by omega]
    exact this
def argC (b : Bl) (a : Ar) (i : Nat) : Bool :=
  if a.rc then zwq a.ty && (decide (a.dom.length ≤ 12) && (decide (0 ≤ a.sort) && match b.sorts[a.sort.toNat]? with
    | none => false
    | some s => decide (a.idx.length = s.idx.length) && (domC i a.dom && a.idx.all fun t => inC t (i + a.dom.length))))
  else inC a.ty i && (decide (a.dom = []) && (decide (a.idx = []) && decide (a.sort = 0)))
theorem zJ3 {l : List T} {v : Nat} (h : l.all (fun t => inC t v) = true) : allM l v = true := by
  rw [allM, Bool.not_eq_true', List.any_eq_false]
  intro x hx
  have := zGl (List.all_eq_true.1 h x hx)
  simp [this]
theorem zR3 {b : Bl} {a : Ar} {i : Nat} (hi : i ≤ 12) (h : argC b a i = true) : argM b a i = true := by
  rw [argC] at h
  rw [argM]
  split at h
  · rename_i hr
    simp only [Bool.and_eq_true, decide_eq_true_eq] at h
    obtain ⟨h1, h2, h3, h4⟩ := h
    rw [if_pos hr, if_pos h1, if_neg (by omega), if_neg (by omega)]
    split at h4
    · cases h4
    · rename_i s hs
      simp only [Bool.and_eq_true, decide_eq_true_eq] at h4
      obtain ⟨h5, h6, h7⟩ := h4
      rw [hs]
      dsimp only
      rw [if_pos (by omega), Bool.and_eq_true]
      refine ⟨(zan _ _ _).2 fun j hj => ?_, ?_⟩
      · rw [Nat.zero_add, zb7 (by omega) (by omega), show (i : Int) + (j : Int) = ((i + j : Nat) : Int) by omega]
        exact zGl (zJ4 _ _ h6 j hj)
      · rw [zb7 (by omega) (by omega), show (i : Int) + (a.dom.length : Int) = ((i + a.dom.length : Nat) : Int) by omega]
        exact zJ3 h7
  · rename_i hr
    simp only [Bool.and_eq_true, decide_eq_true_eq] at h
    obtain ⟨h1, h2, h3, h4⟩ := h
    rw [if_neg hr, if_pos (zGl h1), h2, h3]
    simp [h4, w64]
    rfl
def zI4 (b : Bl) : Nat → List Ar → Bool
  | _, [] => true
  | i, x :: xs => argC b x i && zI4 b (i + 1) xs
theorem zF1 {b : Bl} : ∀ (l : List Ar) (i : Nat), zI4 b i l = true → ∀ (j : Nat) (hj : j < l.length), argC b l[j] (i + j) = true
  | x :: xs, i, h, 0, _ => by rw [zI4, Bool.and_eq_true] at h; exact h.1
  | x :: xs, i, h, j + 1, hj => by
    rw [zI4, Bool.and_eq_true] at h
    have := zF1 xs (i + 1) h.2 j (by simpa using hj)
    rw [show i + (j + 1) = i + 1 + j by omega]
    exact this
def rowC (b : Bl) (l : List Ar) : Bool := decide (l.length ≤ 12) && zI4 b 0 l
theorem zKt {b : Bl} {l : List Ar} (h : rowC b l = true) : rowM b l = true := by
  rw [rowC, Bool.and_eq_true, decide_eq_true_eq] at h
  rw [rowM, if_neg (by omega)]
  refine (zan _ _ _).2 fun j hj => ?_
  have := zF1 _ _ h.2 j hj
  rw [Nat.zero_add] at this ⊢
  exact zR3 (by omega) this
def zFu (is : Bool) (t : T) (v : Nat) : Bool := if is then inC t v else zwq t
theorem zCe {is : Bool} {t : T} {v : Nat} (h : zFu is t v = true) : ze5 is t v = true := by
  rw [zFu] at h
  rw [ze5]
  split at h
  · rename_i h1
    rw [if_pos h1]; exact zGl h
  · rename_i h1
    rw [if_neg h1]; exact h
def zBj (b : Bl) : Nat → List So → Bool
  | _, [] => true
  | k, s :: l => (rowC b s.idx && (zjb s.level && (zFu s.dec s.dty s.idx.length && !s.idx.any (zew k s)))) && zBj b (k + 1) l
theorem zDh {b : Bl} : ∀ (l : List So) (k : Nat), zBj b k l = true → ∀ (j : Nat) (hj : j < l.length), zgl b (k + j) l[j] = true
  | x :: xs, k, h, 0, _ => by
    simp only [zBj, Bool.and_eq_true, Bool.not_eq_true'] at h
    obtain ⟨⟨h1, h2, h3, h4⟩, _⟩ := h
    refine (zbt _ _ _).2 ⟨zKt h1, h2, zCe h3, fun a ha => ?_⟩
    have := List.any_eq_false.1 h4 a ha
    simpa using this
  | x :: xs, k, h, j + 1, hj => by
    rw [zBj, Bool.and_eq_true] at h
    have := zDh xs (k + 1) h.2 j (by simpa using hj)
    rw [show k + (j + 1) = k + 1 + j by omega]
    exact this
def conC (b : Bl) (c : Co) : Bool := decide (0 ≤ c.sort) && (rowC b c.args && match b.sorts[c.sort.toNat]? with
  | none => false
  | some s => decide (c.idx.length = s.idx.length) && (c.idx.all (fun t => inC t c.args.length) && zFu s.dec c.dec c.args.length))
theorem zO6 {b : Bl} {c : Co} (h : conC b c = true) : conM b c = true := by
  simp only [conC, Bool.and_eq_true, decide_eq_true_eq] at h
  obtain ⟨h1, h2, h3⟩ := h
  rw [conM, if_neg (by omega), if_pos (zKt h2)]
  split at h3
  · cases h3
  · rename_i s hs
    simp only [Bool.and_eq_true, decide_eq_true_eq] at h3
    rw [hs]
    dsimp only
    rw [if_pos (by omega), if_pos (zJ3 h3.2.1)]
    exact zCe h3.2.2
def zH5 (b : Bl) : Bool := decide (1 ≤ b.sorts.length) && (decide (b.sorts.length ≤ 4) && (decide (b.cons.length ≤ 8) && (zjb b.elim && (zBj b 0 b.sorts && b.cons.all (conC b)))))
theorem zJe {b : Bl} (h : zH5 b = true) : ze9 b = 0 := by
  simp only [zH5, Bool.and_eq_true, decide_eq_true_eq, List.all_eq_true] at h
  obtain ⟨h1, h2, h3, h4, h5, h6⟩ := h
  exact (za2 b).2 ⟨h1, h2, h3, h4, fun j hj => by have := zDh _ _ h5 j hj; rwa [Nat.zero_add] at this, fun c hc => zO6 (h6 c hc)⟩
def zys (b : Bl) (base : Int) (good : Bool) : Bool := zQn b && (zEz b && (zH5 b && (decide (0 ≤ base) && (decide (base ≤ 65535) && (posF 9000 b base == good)))))
end
section
section
attribute [local simp] zae zaf tk tn tks zb1 zcb za9 zba zbb zbz
end
end
section
section
attribute [local simp] zae zaf tk tn tks zb1 zcb za9 zba zbb zbz
theorem traw (k : Int) (l : List D) (hl : l.length * 40 ≤ zaj) : Pure Tryz.prog zka [.int .i64 k, .sl 3 l] [.agg [.int .i64 k, .int .i64 0, .sl 3 l]] := by
  refine zv7 rfl fun hs => ?_
  simp -dsimp [zjx, hl]
theorem craw (n : Int) : Pure Tryz.prog zj5 [.int .i64 n] [.agg [.int .i64 3, .int .i64 n, .sl 3 []]] := by simpa [cT] using rc_ok n
theorem vraw (n : Int) : Pure Tryz.prog ze4 [.int .i64 n] [.agg [.int .i64 1, .int .i64 n, .sl 3 []]] := by simpa [cT] using rv_ok n
theorem uraw (n : Int) : Pure Tryz.prog zkm [.int .i64 n] [.agg [.int .i64 2, .int .i64 n, .sl 3 []]] := by simpa [cT] using ru_ok n
theorem zHf {b : Bl} {base : Int} (h : zys b base true = true) : zbl 9000 b base = 0 := by
  simp only [zys, Bool.and_eq_true, decide_eq_true_eq, beq_iff_eq] at h
  obtain ⟨h1, h2, h3, h4, h5, h6⟩ := h
  rw [zbl, if_pos (zJe h3), if_neg (by omega), h6]
  rfl
theorem zyl {b : Bl} {base : Int} {g : Bool} (h : zys b base g = true) : okBl b ∧ FineBl b ∧ Fit b := by
  simp only [zys, Bool.and_eq_true] at h
  have fb := zH7 h.2.1
  exact ⟨zPx h.1, fb, ⟨fb.s, fb.c⟩⟩
theorem zKy {t : T} (h : zx5 t = true) (hn : nodB t ≤ 200) : zaw t = 0 := by
  rw [zxy] at hn
  rw [zF5] at h
  have hd := zo9 t
  exact (zn5 (by omega)).2 ⟨by omega, by omega, h⟩
theorem nat8 : zys natB 0 true = true := by decide +kernel
end
end
section
section
attribute [local simp] zae zaf tk tn tks zb1 zcb za9 zba zbb zbz
def tA (f a : T) : T := .mk 6 0 [f, a]
def tP (f a : T) : T := .mk 4 0 [f, a]
set_option maxHeartbeats 4000000 in
end
end
section
section
attribute [local simp] zae zaf tk tn tks zb1 zcb za9 zba zbb zbz
def vA : Nat → List Ar → List Int
  | _, [] => []
  | i, a :: l => (if a.rc then (i : Int) else -1) :: vA (i + 1) l
theorem zyk : ∀ (l : List Ar) (i : Nat), (vA i l).length = l.length
  | [], _ => rfl
  | a :: l, i => by rw [vA, List.length_cons, zyk l, List.length_cons]
theorem zS1 : ∀ (l : List Ar) (i j : Nat) (h : j < l.length), (vA i l)[j]? = some (if l[j].rc then ((i + j : Nat) : Int) else -1)
  | a :: l, i, 0, h => by simp [vA]
  | a :: l, i, j + 1, h => by
    simp only [vA, List.getElem?_cons_succ, List.getElem_cons_succ]
    rw [zS1 l (i + 1) j (by simpa using h), show i + 1 + j = i + (j + 1) by omega]
theorem zLb : ∀ (l : List Ar) (i j : Nat) (h : j < l.length), vA i (l.take (j + 1)) = vA i (l.take j) ++ [if l[j].rc then ((i + j : Nat) : Int) else -1]
  | a :: l, i, 0, h => by simp [vA]
  | a :: l, i, j + 1, h => by
    simp only [List.take_succ_cons, vA, List.getElem_cons_succ, List.cons_append]
    rw [zLb l (i + 1) j (by simpa using h), show i + 1 + j = i + (j + 1) by omega]
def vrs (p : Pl) : List Int := vA 0 p.args ++ List.replicate p.more.toNat (-1)
def rp (p : Pl) : List D := cBl p.b ++ [.int .i64 p.base, .sl 1 ((vrs p).map (.int .i64)), eArs p.args]
theorem zwb (p : Pl) : (vrs p).length = p.args.length + p.more.toNat := by rw [vrs, List.length_append, zyk, List.length_replicate]
def grd (p : Pl) (n : Int) : Int := if za0 p (.mk 1 n []) then zcu p (.mk 1 n []) else -1
theorem zQ5 {p : Pl} {n : Int} (h0 : 0 ≤ p.more) (h : ((vrs p).length : Int) ≤ n) : grd p n = -1 := by
  rw [zwb] at h
  have hJ : zc3 p (.mk 1 n []) = none := by rw [zc3, if_neg]; simp only [tk, tn]; omega
  rw [grd, za0, hJ]
  rfl
theorem zUq {p : Pl} {n : Int} (h0 : 0 ≤ p.more) (hn : 0 ≤ n) (h : n < ((vrs p).length : Int)) : (vrs p)[((vrs p).length - 1 - n.toNat)]? = some (grd p n) := by
  have hl := zwb p
  rw [zwb] at h
  by_cases c : n < p.more
  · have hJ : zc3 p (.mk 1 n []) = none := by rw [zc3, if_neg]; simp only [tk, tn]; omega
    have e : grd p n = -1 := by rw [grd, za0, hJ]; rfl
    have hx : (vrs p).length - 1 - n.toNat - (vA 0 p.args).length < p.more.toNat := by rw [zyk, hl]; omega
    have hy : (vA 0 p.args).length ≤ (vrs p).length - 1 - n.toNat := by rw [zyk, hl]; omega
    rw [e]
    generalize (vrs p).length - 1 - n.toNat = j at *
    rw [vrs, List.getElem?_append_right hy, List.getElem?_replicate, if_pos hx]
  · have hJ : zc3 p (.mk 1 n []) = some (p.args.length - 1 - (n - p.more).toNat) := by
      rw [zc3, if_pos ⟨rfl, by show p.more ≤ n; omega, by show n - p.more < (p.args.length : Int); omega⟩]
      rfl
    have hidx : (vrs p).length - 1 - n.toNat = p.args.length - 1 - (n - p.more).toNat := by rw [hl]; omega
    have hlt : p.args.length - 1 - (n - p.more).toNat < p.args.length := by omega
    rw [hidx, vrs, List.getElem?_append_left (by rw [zyk]; omega), zS1 _ _ _ hlt]
    rw [grd, za0, zcu, hJ]
    simp only [List.getElem?_eq_getElem hlt, Nat.zero_add]
theorem zBa (p : Pl) (n : Int) : (grd p n < 0 ↔ za0 p (.mk 1 n []) = false) ∧ (za0 p (.mk 1 n []) = true → grd p n = zcu p (.mk 1 n [])) := by
  rw [grd]
  cases hb : za0 p (.mk 1 n []) with
  | true =>
    obtain ⟨_, j, hj, _⟩ : _ ∧ ∃ j : Nat, zcu p (.mk 1 n []) = j ∧ j < p.args.length := by
      rw [za0] at hb
      cases hJ : zc3 p (.mk 1 n []) with
      | none => rw [hJ] at hb; cases hb
      | some j =>
        have e : zcu p (.mk 1 n []) = j := by rw [zcu, hJ]
        rw [zc3] at hJ
        split at hJ
        · rename_i hh
          cases hJ
          exact ⟨hh.1, _, e, by omega⟩
        · cases hJ
    rw [if_pos rfl, hj]
    refine ⟨⟨fun h => by omega, fun h => by cases h⟩, fun _ => rfl⟩
  | false => rw [if_neg (by simp)]; exact ⟨⟨fun _ => rfl, fun _ => by omega⟩, fun h => by cases h⟩
theorem zmi (p : Pl) (n : Int) (hn : 0 ≤ n) (h0 : 0 ≤ p.more) (h1 : p.more ≤ 1000000000) (hl : p.args.length ≤ 1000000) : Pure Tryz.prog za8 [.agg (rp p), .int .i64 n] [.int .i64 (grd p n)] := by
  refine zkf rfl fun hs => ?_
  have hvl := zwb p
  have ho := zQ5 (p := p) (n := n) h0
  have hi := zUq (p := p) (n := n) h0 hn
  have e : rp p = cBl p.b ++ [.int .i64 p.base, .sl 1 ((vrs p).map (.int .i64)), eArs p.args] := rfl
  rw [e]
  generalize vrs p = L at *
  by_cases c : (L.length : Int) ≤ n
  · have := ho c
    simp -dsimp [zb4, cBl, c, this]
  · have hI := hi (by omega)
    have hlt : L.length - 1 - n.toNat < L.length := by omega
    have hI' := (List.getElem?_eq_some_iff.1 hI).2
    have w1 : IntKind.i64.wrap ((L.length : Int) - 1) = (L.length : Int) - 1 := zad (by omega) (by omega)
    have w2 : IntKind.i64.wrap ((L.length : Int) - 1 - n) = ((L.length - 1 - n.toNat : Nat) : Int) := by rw [zad (by omega) (by omega)]; omega
    generalize L.length - 1 - n.toNat = j at *
    simp -dsimp [zb4, cBl, c, w1, w2, hlt, hI, hI']
theorem zCc (l : List Int) (hl : l.length ≤ 2000000000) : OwnC Tryz.prog zfh [.sl 1 (l.map (.int .i64))] [.one (.row 1 (l.map (.int .i64)) false)] := by
  refine znw rfl fun hs => ?_
  simp -dsimp [ze8, (by simp only [zaj]; omega : l.length * 8 ≤ zaj)]
theorem zF4 (p : Pl) (n : Nat) (hn : n ≤ 1000000) (h0 : 0 ≤ p.more) (h1 : p.more ≤ 1000000000) (hl : p.args.length ≤ 1000000) : Pure Tryz.prog za6 [.agg (rp p), .int .i64 n] [.agg (rp (p.fwd n))] := by
  refine zlm rfl fun hs => ?_
  have hvl := zwb p
  have e : rp p = cBl p.b ++ [.int .i64 p.base, .sl 1 ((vrs p).map (.int .i64)), eArs p.args] := rfl
  have e2 : rp (p.fwd n) = cBl p.b ++ [.int .i64 p.base, .sl 1 ((vrs p ++ List.replicate n (-1)).map (.int .i64)), eArs p.args] := by
    rw [rp]
    simp only [Pl.fwd, vrs, List.append_assoc]
    rw [show (p.more + (n : Int)).toNat = p.more.toNat + n by omega, ← List.replicate_append_replicate]
  rw [e, e2]
  have hT := zCc (vrs p) (by omega)
  generalize vrs p = L at *
  simp -dsimp [zd6, cBl]
  refine zcy hT (by simp [zax, zby, RV.cells]) ?_
  simp -dsimp
  refine zam n (fun i st => st.s 1 = .d (.int .i64 n) ∧ st.s 6 = .d (.int .i64 i) ∧ (st.s 4 = .ptr 4 1 0 ∧ st.h 4 = ⟨1, .box [.fsl 6 [], .fsl 6 [], .d (.int .i64 0), .d (.int .i64 0), .fsl 1 [], .fsl 7 []] false⟩) ∧
    ∃ v, st.s 5 = .ptr 5 1 0 ∧ st.h 5 = ⟨1, .box [.d (eSos p.b.sorts), .d (eCos p.b.cons), .d (.int .i64 p.b.elim), .d (.int .i64 p.base), .rsl 10 v, .d (eArs p.args)] false⟩ ∧ st.h 10 = ⟨v, .row 1 ((L ++ List.replicate i (-1)).map (.int .i64)) false⟩) ?_ ?_
  · simp -dsimp
  · rintro i ⟨s, hp⟩ hi ⟨g1, g6, ⟨g4, k4⟩, v, g5, k5, k10⟩
    dsimp only at g1 g6 g4 k4 g5 k5 k10
    rcases Nat.lt_or_ge i n with hlt | hge
    · have w1 : IntKind.i64.wrap ((i : Int) + 1) = (i : Int) + 1 := zad (by omega) (by omega)
      have hn' : (L ++ List.replicate (i + 1) (-1)).map (D.int .i64) = (L ++ List.replicate i (-1)).map (D.int .i64) ++ [.int .i64 (-1)] := by
        rw [List.replicate_succ', ← List.append_assoc, List.map_append]; rfl
      have hll : (L ++ List.replicate i (-1 : Int)).length = L.length + i := by rw [List.length_append, List.length_replicate]
      rw [hn']
      generalize L ++ List.replicate i (-1 : Int) = M at *
      simp -dsimp [g1, g6, g4, k4, g5, k5, k10, hlt, w1, (by simp only [zaj]; omega : (M.length + 1) * 8 ≤ zaj)]
    · have ei : i = n := by omega
      subst ei
      simp -dsimp [g1, g6, g4, k4, g5, k5, k10]
theorem zK2 (b : Bl) (base : Int) (l : List Ar) (hl : l.length ≤ 1000000) : Pure Tryz.prog zei [eBl b, .int .i64 base, eArs l] [.agg (rp ⟨b, base, l, 0⟩)] := by
  refine zus rfl fun hs => ?_
  have e : rp ⟨b, base, l, 0⟩ = cBl b ++ [.int .i64 base, .sl 1 ((vA 0 l).map (.int .i64)), eArs l] := by
    rw [rp]; simp only [vrs]
    rw [show (0 : Int).toNat = 0 from rfl, List.replicate_zero, List.append_nil]
  rw [e]
  simp -dsimp [ziz, eBl, cBl, eArs]
  refine zam l.length (fun i st => st.s 2 = .d (eArs l) ∧ st.s 8 = .d (.int .i64 i) ∧ (st.s 6 = .ptr 6 1 0 ∧ st.h 6 = ⟨1, .box [.fsl 6 [], .fsl 6 [], .d (.int .i64 0), .d (.int .i64 0), .fsl 1 [], .fsl 7 []] false⟩) ∧
    ∃ c, st.s 7 = .ptr 7 1 0 ∧ st.h 7 = ⟨1, .box [.d (eSos b.sorts), .d (eCos b.cons), .d (.int .i64 b.elim), .d (.int .i64 base), c, .d (eArs l)] false⟩ ∧
    ((i = 0 ∧ c = .fsl 1 []) ∨ (0 < i ∧ ∃ k v, (k = 28 ∨ k = 33) ∧ c = .rsl k v ∧ st.h k = ⟨v, .row 1 ((vA 0 (l.take i)).map (.int .i64)) false⟩))) ?_ ?_
  · simp -dsimp [eArs]
  · rintro i ⟨s, hp⟩ hi ⟨g2, g8, ⟨g6, k6⟩, c, g7, k7, kc⟩
    dsimp only at g2 g8 g6 k6 g7 k7 kc
    simp only [eArs] at g2 k7
    rcases Nat.lt_or_ge i l.length with hlt | hge
    · have w1 : IntKind.i64.wrap ((i : Int) + 1) = (i : Int) + 1 := zad (by omega) (by omega)
      have hsn := zLb l 0 i hlt
      have hvl := zyk (l.take i) 0
      rw [List.length_take] at hvl
      rw [Nat.zero_add] at hsn
      rw [hsn]
      generalize hR : l[i] = R at *
      have hV0 : i = 0 → vA 0 (l.take i) = [] := fun h => by subst h; rfl
      generalize vA 0 (l.take i) = V at *
      have w1' : IntKind.i64.wrap 1 = 1 := by rfl
      rcases kc with ⟨rfl, rfl⟩ | ⟨hi0, k, v, hk, rfl, kc⟩
      · have := hV0 rfl
        subst this
        cases hrc : R.rc with
        | true => simp -dsimp [g2, g8, g6, k6, g7, k7, hlt, hR, hrc, eAr, cAr, cT, w1', (by decide : 8 ≤ zaj), eArs]
        | false => simp -dsimp [g2, g8, g6, k6, g7, k7, hlt, hR, hrc, eAr, cAr, cT, w1', (by decide : 8 ≤ zaj), eArs]
      · rcases hk with rfl | rfl <;> cases hrc : R.rc
        all_goals
          simp -dsimp [g2, g8, g6, k6, g7, k7, kc, hlt, hR, hrc, eAr, cAr, cT, w1, (by simp only [zaj]; omega : (V.length + 1) * 8 ≤ zaj), eArs]
    · have ei : i = l.length := by omega
      subst ei
      rw [List.take_length] at kc
      rcases kc with ⟨hz, rfl⟩ | ⟨hi0, k, v, hk, rfl, kc⟩
      · have hl0 : l = [] := List.length_eq_zero_iff.1 hz
        subst hl0
        simp -dsimp [g2, g8, g6, k6, g7, k7, vA]
      · rcases hk with rfl | rfl
        all_goals
          simp -dsimp [g2, g8, g6, k6, g7, k7, kc]
end
end
section
section
attribute [local simp] zae zaf tk tn tks zb1 zcb za9 zba zbb zbz
theorem zP5 {p : Pl} {s : So} {k : Int} : ∀ (n : Nat) (t : T), (spH t).kind = 3 → ofM p.b p.base (spH t).num = (4, k) → p.b.sorts[k.toNat]? = some s → (spA t).length ≤ s.idx.length → zac t ≤ n → zah n p t = false := by
  intro n
  induction n with
  | zero => intro t _ _ _ _ h; have := zf0 t; omega
  | succ n ih =>
    intro t h3 ho hs hl hn
    obtain ⟨k0, m, ks⟩ := t
    by_cases hc : k0 = 6 ∧ ∃ a b, ks = [a, b]
    · obtain ⟨rfl, a, b, rfl⟩ := hc
      rw [(zey m a b).2] at h3 ho
      rw [(zey m a b).1, List.length_cons] at hl
      have hd : decG (zah n p) p (.mk 6 m [a, b]) = false := by
        rw [decG, (zey m a b).1, (zey m a b).2, if_pos h3, ho]
        simp only [if_true, hs]
        rw [if_neg]
        rw [List.length_cons]; omega
      have e : zah (n + 1) p (.mk 6 m [a, b]) = allI (fun i x => zah n (p.fwd (zai 6 i)) x) 0 [a, b] := by
        have e0 : zah (n + 1) p (.mk 6 m [a, b]) = if (6 : Int) = 1 then !za0 p (.mk 6 m [a, b]) else if (6 : Int) = 3 then decide ((ofM p.b p.base m).1 = 0) else if (6 : Int) = 6 ∧ decG (zah n p) p (.mk 6 m [a, b]) = true then true else allI (fun i x => zah n (p.fwd (zai 6 i)) x) 0 [a, b] := rfl
        rw [e0, if_neg (by decide), if_neg (by decide), if_neg (by rw [hd]; simp)]
      have hb0 : zai 6 ((0 : Nat) : Int) = 0 := rfl
      have hp0 : p.fwd 0 = p := by rw [Pl.fwd, Int.add_zero]
      rw [zyw] at hn
      rw [e, allI, hb0, hp0, ih a h3 ho hs (by omega) (by omega)]
      rfl
    · rw [(zdv hc).2] at h3 ho
      have h3' : k0 = 3 := h3
      have ho' : ofM p.b p.base m = (4, k) := ho
      have e0 : zah (n + 1) p (.mk k0 m ks) = if k0 = 1 then !za0 p (.mk k0 m ks) else if k0 = 3 then decide ((ofM p.b p.base m).1 = 0) else if k0 = 6 ∧ decG (zah n p) p (.mk k0 m ks) = true then true else allI (fun i x => zah n (p.fwd (zai k0 i)) x) 0 ks := rfl
      rw [e0, if_neg (by omega), if_pos h3', ho']
      rfl
def decD (cl : T → Bool) (p : Pl) (A : List T) : Bool := match A.getLast? with
  | some z => za0 p (spH z) && ((A.dropLast.all cl) && ((spA z).reverse.all cl))
  | none => false
theorem zpa {l : List T} {cl : T → Bool} : l.all cl = true ↔ ∀ (j : Nat) (hj : j < l.length), cl l[j] = true := by
  rw [List.all_eq_true]
  exact ⟨fun h j hj => h _ (List.getElem_mem hj), fun h x hx => by obtain ⟨j, hj, rfl⟩ := List.mem_iff_getElem.1 hx; exact h j hj⟩
set_option maxHeartbeats 1000000 in
theorem zC7 (p : Pl) (h0 : 0 ≤ p.more) (h1 : p.more ≤ 1000000000) (hl : p.args.length ≤ 1000000) (A : List T) (hA : A ≠ []) (hAl : A.length ≤ 1000000) (cl : T → Bool) (ho : ∀ x ∈ A, okT x ∧ zab x = true ∧ zac x ≤ 1000000)
    (h : ∀ x, okT x → zab x = true → (x ∈ A ∨ ∃ z ∈ A, x ∈ spA z) → Pure Tryz.prog zag [.agg (rp p), .agg (cT x)] [.bool (cl x)]) :
    Pure Tryz.prog zcz [.agg (rp p), eTs A] [.bool (decD cl p A)] := by
  obtain ⟨N, hN⟩ : ∃ N, A.length = N + 1 := ⟨A.length - 1, by have := List.length_pos_iff.2 hA; omega⟩
  have hz : N < A.length := by omega
  have hgl : A.getLast? = some A[N] := by rw [List.getLast?_eq_getElem?, hN, Nat.add_sub_cancel, List.getElem?_eq_getElem hz]
  have hdl : A.dropLast = A.take N := by rw [List.dropLast_eq_take, hN, Nat.add_sub_cancel]
  have hD : decD cl p A = (za0 p (spH A[N]) && ((A.take N).all cl && (spA A[N]).reverse.all cl)) := by rw [decD, hgl, hdl]
  generalize hV : decD cl p A = V at *
  have hA1 : ∀ (i : Nat) (hi : i < N), cl A[i] = false → V = false := fun i hi hc => by
    rw [hD]
    have : (A.take N).all cl = false := by
      rw [Bool.eq_false_iff]
      intro h2
      have := zpa.1 h2 i (by rw [List.length_take]; omega)
      rw [List.getElem_take, hc] at this
      cases this
    rw [this]; simp
  obtain ⟨z1, z2, z3⟩ := ho _ (List.getElem_mem hz)
  have hsl := zuh A[N]
  obtain ⟨oH, oAr⟩ := (zh0 A[N]).2 z1
  obtain ⟨fH, fAr⟩ := zh1 A[N] z2
  have hU := zoz A[N] z1 (by omega)
  have hCx : ∀ (i : Nat) (hi : i < A.length), Pure Tryz.prog zag [.agg (rp p), .agg (cT A[i])] [.bool (cl A[i])] := fun i hi => by
    obtain ⟨x1, x2, x3⟩ := ho _ (List.getElem_mem hi)
    exact h _ x1 x2 (.inl (List.getElem_mem hi))
  have hCz : ∀ x ∈ (spA A[N]).reverse, Pure Tryz.prog zag [.agg (rp p), .agg (cT x)] [.bool (cl x)] := fun x hx => by
    have hx' : x ∈ spA A[N] := by simpa using hx
    exact h x (oAr x hx') (fAr x hx') (.inr ⟨_, List.getElem_mem hz, hx'⟩)
  refine zjo rfl fun hs => ?_
  have w0 : IntKind.i64.wrap ((A.length : Int) - 1) = (N : Int) := by rw [zad (by omega) (by omega)]; omega
  simp -dsimp [zc1, eTs, rp, cBl]
  refine zam N (fun i st => (st.s 2 = .ptr 2 1 0 ∧ st.h 2 = ⟨1, .box [.d (eSos p.b.sorts), .d (eCos p.b.cons), .d (.int .i64 p.b.elim), .d (.int .i64 p.base), .d (.sl 1 ((vrs p).map (.int .i64))), .d (eArs p.args)] false⟩) ∧ st.s 1 = .d (eTs A) ∧ st.s 5 = .d (.int .i64 i) ∧
    ∀ (j : Nat) (hj : j < N), j < i → cl (A[j]'(by omega)) = true) ?_ ?_
  · simp -dsimp [eTs]
  · rintro i ⟨s, hp⟩ hi ⟨⟨g2, k2⟩, g1, g5, g⟩
    dsimp only at g2 k2 g1 g5
    simp only [eTs] at g1
    rcases Nat.lt_or_ge i N with hlt | hge
    · have w1 : IntKind.i64.wrap ((i : Int) + 1) = (i : Int) + 1 := zad (by omega) (by omega)
      have hltA : i < A.length := by omega
      have hC := hCx i hltA
      have hA1i := hA1 i hlt
      have hnx : cl A[i] = true → ∀ (j : Nat) (hj : j < N), j < i + 1 → cl (A[j]'(by omega)) = true := fun h j hj hji => by
        rcases Nat.lt_or_ge j i with h' | h'
        · exact g j hj h'
        · have : j = i := by omega
          subst this
          exact h
      generalize hX : A[i] = X at *
      simp only [rp, cBl, cT, List.cons_append, List.nil_append] at hC
      simp -dsimp [g2, k2, g1, g5, w0, hlt, hltA, hX, cT]
      refine zaa hC ?_
      cases hc : cl X with
      | false =>
        have hv := hA1i hc
        simp -dsimp [g2, k2, g1, g5, hv]
      | true =>
        have hnx' := hnx hc
        simp -dsimp [g2, k2, g1, g5, hlt, w1, eTs]
        exact hnx'
    · have ei : i = N := by omega
      subst ei
      have hall : (A.take i).all cl = true := zpa.2 fun j hj => by
        rw [List.getElem_take]
        rw [List.length_take] at hj
        exact g j (by omega) (by omega)
      rw [hall, Bool.true_and] at hD
      have hle : spH A[i] = .mk 1 (spH A[i]).num [] ∨ (spH A[i]).kind ≠ 1 := by
        by_cases hk : (spH A[i]).kind = 1
        · refine .inl ?_
          generalize spH A[i] = H at *
          obtain ⟨k, m, ks⟩ := H
          have hk' : k = 1 := hk
          subst hk'
          rw [zku rfl fH]
          rfl
        · exact .inr hk
      have hZlen : (spA A[i]).reverse.length ≤ 1000000 := by rw [List.length_reverse]; omega
      have hgk : za0 p (spH A[i]) = true → (spH A[i]).kind = 1 := fun h => (zjm h).1
      generalize hZ : A[i] = z at *
      generalize hHz : spH z = H at *
      generalize (spA z).reverse = Z at *
      simp only [cT] at hU
      simp -dsimp [g2, k2, g1, g5, w0, hz, hZ, cT]
      refine zcy hU (by simp [zax, zby, RV.cells]) ?_
      by_cases hk : H.kind = 1
      case neg =>
        have hv : V = false := by
          rw [hD]
          have : za0 p H = false := by rw [Bool.eq_false_iff]; intro h; exact hk (hgk h)
          rw [this]; rfl
        simp -dsimp [g2, k2, g1, g5, hk, hv]
      have hHe := hle.resolve_right (fun h => h hk)
      have hn0 : 0 ≤ H.num := by
        rw [hHe] at fH
        exact (zdh rfl fH).1
      have hG := zmi p H.num hn0 h0 h1 hl
      obtain ⟨gn1, gn2⟩ := zBa p H.num
      rw [← hHe] at gn1 gn2
      simp only [rp, cBl, List.cons_append, List.nil_append] at hG
      simp -dsimp [g2, k2, g1, g5, hk]
      refine zaa hG ?_
      by_cases hg : za0 p H = true
      case neg =>
        have hg' : za0 p H = false := by simpa using hg
        have hlt0 := gn1.2 hg'
        have hv : V = false := by rw [hD, hg']; rfl
        simp -dsimp [g2, k2, g1, g5, hk, hlt0, hv]
      have hge0 : ¬ grd p H.num < 0 := fun h => by rw [gn1.1 h] at hg; cases hg
      have hZl : ∀ (j : Nat) (hj : j < Z.length), Pure Tryz.prog zag [.agg (rp p), .agg (cT Z[j])] [.bool (cl Z[j])] := fun j hj => hCz _ (List.getElem_mem hj)
      rw [hg, Bool.true_and] at hD
      have hB2 : ∀ (j : Nat) (hj : j < Z.length), cl Z[j] = false → V = false := fun j hj hc => by
        rw [hD, Bool.eq_false_iff]
        intro h2
        have := zpa.1 h2 j hj
        rw [hc] at this
        cases this
      have hZle : Z.length ≤ 1000000 := hZlen
      simp -dsimp [g2, k2, g1, g5, hk, hge0]
      refine zam Z.length (fun j st => (st.s 2 = .ptr 2 1 0 ∧ st.h 2 = ⟨1, .box [.d (eSos p.b.sorts), .d (eCos p.b.cons), .d (.int .i64 p.b.elim), .d (.int .i64 p.base), .d (.sl 1 ((vrs p).map (.int .i64))), .d (eArs p.args)] false⟩) ∧
        (st.s 7 = .rsl 30 ((hp 30).ver + 1) ∧ st.h 30 = ⟨(hp 30).ver + 1, .row 3 (Z.map eT) false⟩) ∧ st.s 8 = .d (.int .i64 j) ∧ ∀ (m : Nat) (hm : m < Z.length), m < j → cl Z[m] = true) ?_ ?_
      · simp -dsimp [g2, k2, g1, g5]
      · clear g2 k2 g1 g5
        rintro j ⟨s, hq⟩ hj ⟨⟨g2, k2⟩, ⟨g7, k30⟩, g8, gz⟩
        dsimp only at g2 k2 g7 k30 g8
        rcases Nat.lt_or_ge j Z.length with hlt2 | hge2
        · have w1 : IntKind.i64.wrap ((j : Int) + 1) = (j : Int) + 1 := zad (by omega) (by omega)
          have hC := hZl j hlt2
          have hB2j := hB2 j hlt2
          have hnx : cl Z[j] = true → ∀ (m : Nat) (hm : m < Z.length), m < j + 1 → cl Z[m] = true := fun h m hm hmj => by
            rcases Nat.lt_or_ge m j with h' | h'
            · exact gz m hm h'
            · have : m = j := by omega
              subst this
              exact h
          generalize hY : Z[j] = Y at *
          simp only [rp, cBl, cT, List.cons_append, List.nil_append] at hC
          simp -dsimp [g2, k2, g7, k30, g8, hlt2, hY, cT]
          refine zaa hC ?_
          cases hc : cl Y with
          | false =>
            have hv := hB2j hc
            simp -dsimp [g2, k2, g7, k30, g8, hv]
          | true =>
            have hnx' := hnx hc
            simp -dsimp [g2, k2, g7, k30, g8, hlt2, w1]
            exact hnx'
        · have ej : j = Z.length := by omega
          subst ej
          have hv : V = true := by rw [hD]; exact zpa.2 fun m hm => gz m hm hm
          simp -dsimp [g2, k2, g7, k30, g8, hv]
structure Pok (p : Pl) : Prop where
  m0 : 0 ≤ p.more
  al : p.args.length ≤ 1000
  fit : Fit p.b
  si : ∀ s ∈ p.b.sorts, s.idx.length ≤ 20
  ca : ∀ c ∈ p.b.cons, c.args.length ≤ 20
theorem Pok.fwd {p : Pl} (h : Pok p) {n : Int} (hn : 0 ≤ n) : Pok (p.fwd n) := ⟨by have := h.m0; simp only [Pl.fwd]; omega, h.al, h.fit, h.si, h.ca⟩
set_option maxHeartbeats 4000000 in
theorem zlj : ∀ (n : Nat), n ≤ 1000000 → ∀ (p : Pl) (t : T), Pok p → p.more + zac t ≤ 1000000000 → okT t → zab t = true → zac t ≤ n →
    Pure Tryz.prog zag [.agg (rp p), .agg (cT t)] [.bool (zah n p t)] := by
  intro n
  induction n with
  | zero => intro _ p t _ _ _ _ h; have := zf0 t; omega
  | succ n ih =>
    intro hN p t hp hm ot ft hn
    have h0 := hp.m0
    have hal := hp.al
    have hfs := hp.fit.s
    have hrec : ∀ x, okT x → zab x = true → zac x < zac t → Pure Tryz.prog zag [.agg (rp p), .agg (cT x)] [.bool (zah n p x)] := fun x ox fx hx => ih (by omega) p x hp (by omega) ox fx (by omega)
    have hkl := zGm ot
    have hO := zI3 p.b hp.fit p.base t.num ot.num64
    obtain ⟨oH, oA⟩ := (zh0 t).2 ot
    have mA := (zh0 t).1
    obtain ⟨fH, fA⟩ := zh1 t ft
    have hO2 := zI3 p.b hp.fit p.base (spH t).num oH.num64
    have hsl := zuh t
    have hU := zoz t ot (by omega)
    generalize hV0 : zah (n + 1) p t = V0
    by_cases c1 : t.kind = 1
    · have hn0 : 0 ≤ t.num := by obtain ⟨k, m, ks⟩ := t; exact (zdh c1 ft).1
      have hG := zmi p t.num hn0 h0 (by omega) (by omega)
      have hte : t = .mk 1 t.num [] := by
        obtain ⟨k, m, ks⟩ := t
        have c1' : k = 1 := c1
        subst c1'
        rw [zku rfl ft]; rfl
      obtain ⟨gn1, _⟩ := zBa p t.num
      rw [← hte] at gn1
      have hv : V0 = decide (grd p t.num < 0) := by
        rw [← hV0, zah, if_pos c1, Bool.eq_iff_iff, Bool.not_eq_true', decide_eq_true_eq]
        exact gn1.symm
      rw [hv]
      refine za4 rfl fun hs => ?_
      simp only [rp, cBl, List.cons_append, List.nil_append] at hG
      simp -dsimp [zav, rp, cBl, cT, c1]
      refine zaa hG ?_
      simp -dsimp [c1]
    by_cases c3 : t.kind = 3
    · have hv : V0 = decide ((ofM p.b p.base t.num).1 = 0) := by rw [← hV0, zah, if_neg c1, if_pos c3]
      rw [hv]
      refine za4 rfl fun hs => ?_
      simp only [eBl, cBl] at hO
      simp -dsimp [zav, rp, cBl, cT, c1, c3]
      refine zaa hO ?_
      simp -dsimp [c1, c3]
    have hkid : ∀ (i : Nat) (hi : i < t.kids.length), Pure Tryz.prog zc7 [.int .i64 t.kind, .int .i64 i] [.int .i64 (zai t.kind i)] ∧ Pure Tryz.prog za6 [.agg (rp p), .int .i64 (zai t.kind i)] [.agg (rp (p.fwd (zai t.kind i)))] ∧
        Pure Tryz.prog zag [.agg (rp (p.fwd (zai t.kind i))), .agg (cT t.kids[i])] [.bool (zah n (p.fwd (zai t.kind i)) t.kids[i])] := fun i hi => by
      have hbl := zdk t.kind i
      have hkn := zws t (List.getElem_mem hi)
      have hM := zF4 p (zai t.kind i).toNat (by omega) h0 (by omega) (by omega)
      rw [show (((zai t.kind i).toNat : Nat) : Int) = zai t.kind i by omega] at hM
      have fk : zab t.kids[i] = true := by obtain ⟨k, m, ks⟩ := t; exact zbo ft _ (List.getElem_mem hi)
      exact ⟨zBf _ _, hM, ih (by omega) _ _ (hp.fwd (by omega)) (by simp only [Pl.fwd]; omega) (zJ1 ot (List.getElem_mem hi)) fk (by omega)⟩
    have hkids : (¬ decG (zah n p) p t = true) → V0 = allI (fun i x => zah n (p.fwd (zai t.kind i)) x) 0 t.kids := fun h => by
      rw [← hV0, zah, if_neg c1, if_neg c3, if_neg (fun h' => h h'.2)]
    have hdec : ∀ k s, (spH t).kind = 3 → ofM p.b p.base (spH t).num = (4, k) → p.b.sorts[k.toNat]? = some s → (spA t).length = s.idx.length + 1 → V0 = decD (zah n p) p (spA t).reverse := fun k s h3 ho hs hll => by
      have hd : decG (zah n p) p t = decD (zah n p) p (spA t).reverse := by
        rw [decG, if_pos h3, ho]
        simp only [if_true, hs]
        rw [if_pos (by omega), decD]
        rfl
      by_cases hg : decG (zah n p) p t = true
      · have h6 : t.kind = 6 := by
          obtain ⟨k0, m, ks⟩ := t
          by_cases hc : k0 = 6 ∧ ∃ a b, ks = [a, b]
          · exact hc.1
          · rw [(zdv hc).1] at hll; simp at hll
        rw [← hV0, zah, if_neg c1, if_neg c3, if_pos ⟨h6, hg⟩, ← hd, hg]
      · rw [hkids hg, ← hd]
        have hg' : decG (zah n p) p t = false := by simpa using hg
        rw [hg', Bool.eq_false_iff]
        intro hall
        obtain ⟨k0, m, ks⟩ := t
        by_cases hc : k0 = 6 ∧ ∃ a b, ks = [a, b]
        · obtain ⟨rfl, a, b, rfl⟩ := hc
          rw [(zey m a b).2] at h3 ho
          rw [(zey m a b).1, List.length_cons] at hll
          rw [zyw] at hn
          have := (zan _ _ _).1 hall 0 (by simp [T.kids])
          have hp0 : p.fwd 0 = p := by rw [Pl.fwd, Int.add_zero]
          rw [show zai (T.mk 6 m [a, b]).kind ((0 + 0 : Nat) : Int) = 0 from rfl, hp0] at this
          have e : (T.mk 6 m [a, b]).kids[0] = a := rfl
          rw [e, zP5 n a h3 ho hs (by omega) (by omega)] at this
          cases this
        · rw [(zdv hc).1] at hll; simp at hll
    by_cases d3 : (spH t).kind = 3
    case neg =>
      have hV := hkids (by rw [decG, if_neg d3]; simp)
      generalize V0 = V at hV ⊢
      refine za4 rfl fun hs => ?_
      simp only [cT] at hU
      simp -dsimp [zav, rp, cBl, cT, c1, c3]
      refine zcy hU (by simp [zax, zby, RV.cells]) ?_
      simp -dsimp [d3]
      refine zam t.kids.length (fun i st => (st.s 2 = .ptr 2 1 0 ∧ st.h 2 = ⟨1, .box [.d (eSos p.b.sorts), .d (eCos p.b.cons), .d (.int .i64 p.b.elim), .d (.int .i64 p.base), .d (.sl 1 ((vrs p).map (.int .i64))), .d (eArs p.args)] false⟩) ∧
        (st.s 3 = .ptr 3 1 0 ∧ st.h 3 = ⟨1, .box [.d (.int .i64 t.kind), .d (.int .i64 t.num), .d (.sl 3 (t.kids.map eT))] false⟩) ∧ st.s 11 = .d (.int .i64 i) ∧ ∀ (j : Nat) (hj : j < t.kids.length), j < i → zah n (p.fwd (zai t.kind j)) t.kids[j] = true) ?_ ?_
      · simp -dsimp []
      · rintro i ⟨s, hp⟩ hi ⟨⟨g2, k2⟩, ⟨g3, k3⟩, g11, g⟩
        dsimp only at g2 k2 g3 k3 g11
        rcases Nat.lt_or_ge i t.kids.length with hlt | hge
        · have w1 : IntKind.i64.wrap ((i : Int) + 1) = (i : Int) + 1 := zad (by omega) (by omega)
          obtain ⟨hB, hMo, hI⟩ := hkid i hlt
          have hnx : zah n (p.fwd (zai t.kind i)) t.kids[i] = true → ∀ (j : Nat) (hj : j < t.kids.length), j < i + 1 → zah n (p.fwd (zai t.kind j)) t.kids[j] = true := fun h j hj hji => by
            rcases Nat.lt_or_ge j i with h' | h'
            · exact g j hj h'
            · have : j = i := by omega
              subst this
              exact h
          have hbad : zah n (p.fwd (zai t.kind i)) t.kids[i] = false → V = false := fun h => by
            rw [hV, Bool.eq_false_iff]
            intro h2
            have := (zan _ _ _).1 h2 i hlt
            rw [Nat.zero_add, h] at this
            cases this
          generalize zah n (p.fwd (zai t.kind i)) t.kids[i] = Z at *
          generalize hX : t.kids[i] = X at *
          generalize rp (p.fwd (zai t.kind i)) = RP at *
          simp only [rp, cBl, cT, List.cons_append, List.nil_append] at hMo hI
          simp -dsimp [g2, k2, g3, k3, g11, hlt, hX, cT]
          refine zaa hB ?_
          simp -dsimp [g2, k2, g3, k3, g11, hlt, hX, cT]
          refine zaa hMo ?_
          simp -dsimp [g2, k2, g3, k3, g11, hlt, hX, cT]
          refine zaa hI ?_
          cases Z with
          | false =>
            have := hbad rfl
            simp -dsimp [g2, k2, g3, k3, g11, this]
          | true =>
            have hnx' := hnx rfl
            simp -dsimp [g2, k2, g3, k3, g11, hlt, w1]
            exact hnx'
        · have e : i = t.kids.length := by omega
          subst e
          have hv : V = true := by rw [hV]; exact (zan _ _ _).2 fun j hj => by rw [Nat.zero_add]; exact g j hj hj
          simp -dsimp [g2, k2, g3, k3, g11, hv]
    by_cases dl : (spA t).length = 0
    case pos =>
      have hV := hkids (by
        rw [decG, if_pos d3]
        intro h
        split at h
        · split at h
          · split at h
            · omega
            · cases h
          · cases h
        · cases h)
      have dl' : spA t = [] := List.length_eq_zero_iff.1 dl
      generalize V0 = V at hV ⊢
      refine za4 rfl fun hs => ?_
      simp only [cT, dl', List.reverse_nil, List.map_nil] at hU
      simp -dsimp [zav, rp, cBl, cT, c1, c3]
      refine zcy hU (by simp [zax, zby, RV.cells]) ?_
      simp -dsimp [d3]
      refine zam t.kids.length (fun i st => (st.s 2 = .ptr 2 1 0 ∧ st.h 2 = ⟨1, .box [.d (eSos p.b.sorts), .d (eCos p.b.cons), .d (.int .i64 p.b.elim), .d (.int .i64 p.base), .d (.sl 1 ((vrs p).map (.int .i64))), .d (eArs p.args)] false⟩) ∧
        (st.s 3 = .ptr 3 1 0 ∧ st.h 3 = ⟨1, .box [.d (.int .i64 t.kind), .d (.int .i64 t.num), .d (.sl 3 (t.kids.map eT))] false⟩) ∧ st.s 11 = .d (.int .i64 i) ∧ ∀ (j : Nat) (hj : j < t.kids.length), j < i → zah n (p.fwd (zai t.kind j)) t.kids[j] = true) ?_ ?_
      · simp -dsimp []
      · rintro i ⟨s, hp⟩ hi ⟨⟨g2, k2⟩, ⟨g3, k3⟩, g11, g⟩
        dsimp only at g2 k2 g3 k3 g11
        rcases Nat.lt_or_ge i t.kids.length with hlt | hge
        · have w1 : IntKind.i64.wrap ((i : Int) + 1) = (i : Int) + 1 := zad (by omega) (by omega)
          obtain ⟨hB, hMo, hI⟩ := hkid i hlt
          have hnx : zah n (p.fwd (zai t.kind i)) t.kids[i] = true → ∀ (j : Nat) (hj : j < t.kids.length), j < i + 1 → zah n (p.fwd (zai t.kind j)) t.kids[j] = true := fun h j hj hji => by
            rcases Nat.lt_or_ge j i with h' | h'
            · exact g j hj h'
            · have : j = i := by omega
              subst this
              exact h
          have hbad : zah n (p.fwd (zai t.kind i)) t.kids[i] = false → V = false := fun h => by
            rw [hV, Bool.eq_false_iff]
            intro h2
            have := (zan _ _ _).1 h2 i hlt
            rw [Nat.zero_add, h] at this
            cases this
          generalize zah n (p.fwd (zai t.kind i)) t.kids[i] = Z at *
          generalize hX : t.kids[i] = X at *
          generalize rp (p.fwd (zai t.kind i)) = RP at *
          simp only [rp, cBl, cT, List.cons_append, List.nil_append] at hMo hI
          simp -dsimp [g2, k2, g3, k3, g11, hlt, hX, cT]
          refine zaa hB ?_
          simp -dsimp [g2, k2, g3, k3, g11, hlt, hX, cT]
          refine zaa hMo ?_
          simp -dsimp [g2, k2, g3, k3, g11, hlt, hX, cT]
          refine zaa hI ?_
          cases Z with
          | false =>
            have := hbad rfl
            simp -dsimp [g2, k2, g3, k3, g11, this]
          | true =>
            have hnx' := hnx rfl
            simp -dsimp [g2, k2, g3, k3, g11, hlt, w1]
            exact hnx'
        · have e : i = t.kids.length := by omega
          subst e
          have hv : V = true := by rw [hV]; exact (zan _ _ _).2 fun j hj => by rw [Nat.zero_add]; exact g j hj hj
          simp -dsimp [g2, k2, g3, k3, g11, hv]
    have dl0 : ¬ spA t = [] := fun h => dl (by rw [h]; rfl)
    have dl1 : 0 < (spA t).length := by omega
    by_cases d4 : (ofM p.b p.base (spH t).num).1 = 4
    case neg =>
      have hV := hkids (by rw [decG, if_pos d3, if_neg d4]; simp)
      generalize V0 = V at hV ⊢
      generalize ofM p.b p.base (spH t).num = o at *
      refine za4 rfl fun hs => ?_
      simp only [cT] at hU
      simp only [eBl, cBl] at hO2
      simp -dsimp [zav, rp, cBl, cT, c1, c3]
      refine zcy hU (by simp [zax, zby, RV.cells]) ?_
      simp -dsimp [d3, dl0, dl1]
      refine zaa hO2 ?_
      simp -dsimp [d4]
      refine zam t.kids.length (fun i st => (st.s 2 = .ptr 2 1 0 ∧ st.h 2 = ⟨1, .box [.d (eSos p.b.sorts), .d (eCos p.b.cons), .d (.int .i64 p.b.elim), .d (.int .i64 p.base), .d (.sl 1 ((vrs p).map (.int .i64))), .d (eArs p.args)] false⟩) ∧
        (st.s 3 = .ptr 3 1 0 ∧ st.h 3 = ⟨1, .box [.d (.int .i64 t.kind), .d (.int .i64 t.num), .d (.sl 3 (t.kids.map eT))] false⟩) ∧ st.s 11 = .d (.int .i64 i) ∧ ∀ (j : Nat) (hj : j < t.kids.length), j < i → zah n (p.fwd (zai t.kind j)) t.kids[j] = true) ?_ ?_
      · simp -dsimp []
      · rintro i ⟨s, hp⟩ hi ⟨⟨g2, k2⟩, ⟨g3, k3⟩, g11, g⟩
        dsimp only at g2 k2 g3 k3 g11
        rcases Nat.lt_or_ge i t.kids.length with hlt | hge
        · have w1 : IntKind.i64.wrap ((i : Int) + 1) = (i : Int) + 1 := zad (by omega) (by omega)
          obtain ⟨hB, hMo, hI⟩ := hkid i hlt
          have hnx : zah n (p.fwd (zai t.kind i)) t.kids[i] = true → ∀ (j : Nat) (hj : j < t.kids.length), j < i + 1 → zah n (p.fwd (zai t.kind j)) t.kids[j] = true := fun h j hj hji => by
            rcases Nat.lt_or_ge j i with h' | h'
            · exact g j hj h'
            · have : j = i := by omega
              subst this
              exact h
          have hbad : zah n (p.fwd (zai t.kind i)) t.kids[i] = false → V = false := fun h => by
            rw [hV, Bool.eq_false_iff]
            intro h2
            have := (zan _ _ _).1 h2 i hlt
            rw [Nat.zero_add, h] at this
            cases this
          generalize zah n (p.fwd (zai t.kind i)) t.kids[i] = Z at *
          generalize hX : t.kids[i] = X at *
          generalize rp (p.fwd (zai t.kind i)) = RP at *
          simp only [rp, cBl, cT, List.cons_append, List.nil_append] at hMo hI
          simp -dsimp [g2, k2, g3, k3, g11, hlt, hX, cT]
          refine zaa hB ?_
          simp -dsimp [g2, k2, g3, k3, g11, hlt, hX, cT]
          refine zaa hMo ?_
          simp -dsimp [g2, k2, g3, k3, g11, hlt, hX, cT]
          refine zaa hI ?_
          cases Z with
          | false =>
            have := hbad rfl
            simp -dsimp [g2, k2, g3, k3, g11, this]
          | true =>
            have hnx' := hnx rfl
            simp -dsimp [g2, k2, g3, k3, g11, hlt, w1]
            exact hnx'
        · have e : i = t.kids.length := by omega
          subst e
          have hv : V = true := by rw [hV]; exact (zan _ _ _).2 fun j hj => by rw [Nat.zero_add]; exact g j hj hj
          simp -dsimp [g2, k2, g3, k3, g11, hv]
    obtain ⟨k, k1, k2, k3⟩ := zKi d4
    have hget : p.b.sorts[k]? = some p.b.sorts[k] := List.getElem?_eq_getElem k1
    have hsil := hp.si _ (List.getElem_mem k1)
    have w3 : IntKind.i64.wrap ((p.b.sorts[k].idx.length : Int) + 1) = p.b.sorts[k].idx.length + 1 := zad (by omega) (by omega)
    by_cases d5 : (spA t).length = p.b.sorts[k].idx.length + 1
    case neg =>
      have hV := hkids (by
        rw [decG, if_pos d3, k3]
        simp only [if_true, Int.toNat_natCast, hget]
        rw [if_neg (by omega)]; simp)
      have d5' : ¬ ((spA t).length : Int) = p.b.sorts[k].idx.length + 1 := by omega
      rw [k3] at hO2
      generalize V0 = V at hV ⊢
      generalize hSk : p.b.sorts[k] = S at *
      refine za4 rfl fun hs => ?_
      simp only [cT] at hU
      simp only [eBl, cBl] at hO2
      simp -dsimp [zav, rp, cBl, cT, c1, c3]
      refine zcy hU (by simp [zax, zby, RV.cells]) ?_
      simp -dsimp [d3, dl0, dl1]
      refine zaa hO2 ?_
      simp -dsimp [k1, hget, hSk, eSos, eSo, cSo, cT, eArs, w3, d5']
      refine zam t.kids.length (fun i st => (st.s 2 = .ptr 2 1 0 ∧ st.h 2 = ⟨1, .box [.d (eSos p.b.sorts), .d (eCos p.b.cons), .d (.int .i64 p.b.elim), .d (.int .i64 p.base), .d (.sl 1 ((vrs p).map (.int .i64))), .d (eArs p.args)] false⟩) ∧
        (st.s 3 = .ptr 3 1 0 ∧ st.h 3 = ⟨1, .box [.d (.int .i64 t.kind), .d (.int .i64 t.num), .d (.sl 3 (t.kids.map eT))] false⟩) ∧ st.s 11 = .d (.int .i64 i) ∧ ∀ (j : Nat) (hj : j < t.kids.length), j < i → zah n (p.fwd (zai t.kind j)) t.kids[j] = true) ?_ ?_
      · simp -dsimp [eSos, eArs]
      · rintro i ⟨s, hp⟩ hi ⟨⟨g2, k2⟩, ⟨g3, k3⟩, g11, g⟩
        dsimp only at g2 k2 g3 k3 g11
        rcases Nat.lt_or_ge i t.kids.length with hlt | hge
        · have w1 : IntKind.i64.wrap ((i : Int) + 1) = (i : Int) + 1 := zad (by omega) (by omega)
          obtain ⟨hB, hMo, hI⟩ := hkid i hlt
          have hnx : zah n (p.fwd (zai t.kind i)) t.kids[i] = true → ∀ (j : Nat) (hj : j < t.kids.length), j < i + 1 → zah n (p.fwd (zai t.kind j)) t.kids[j] = true := fun h j hj hji => by
            rcases Nat.lt_or_ge j i with h' | h'
            · exact g j hj h'
            · have : j = i := by omega
              subst this
              exact h
          have hbad : zah n (p.fwd (zai t.kind i)) t.kids[i] = false → V = false := fun h => by
            rw [hV, Bool.eq_false_iff]
            intro h2
            have := (zan _ _ _).1 h2 i hlt
            rw [Nat.zero_add, h] at this
            cases this
          generalize zah n (p.fwd (zai t.kind i)) t.kids[i] = Z at *
          generalize hX : t.kids[i] = X at *
          generalize rp (p.fwd (zai t.kind i)) = RP at *
          simp only [rp, cBl, cT, List.cons_append, List.nil_append] at hMo hI
          simp -dsimp [g2, k2, g3, k3, g11, hlt, hX, cT]
          refine zaa hB ?_
          simp -dsimp [g2, k2, g3, k3, g11, hlt, hX, cT]
          refine zaa hMo ?_
          simp -dsimp [g2, k2, g3, k3, g11, hlt, hX, cT]
          refine zaa hI ?_
          cases Z with
          | false =>
            have := hbad rfl
            simp -dsimp [g2, k2, g3, k3, g11, this]
          | true =>
            have hnx' := hnx rfl
            simp -dsimp [g2, k2, g3, k3, g11, hlt, w1]
            exact hnx'
        · have e : i = t.kids.length := by omega
          subst e
          have hv : V = true := by rw [hV]; exact (zan _ _ _).2 fun j hj => by rw [Nat.zero_add]; exact g j hj hj
          simp -dsimp [g2, k2, g3, k3, g11, hv]
    have hV := hdec k _ d3 k3 (by rw [Int.toNat_natCast]; exact hget) d5
    have d5' : ((spA t).length : Int) = p.b.sorts[k].idx.length + 1 := by omega
    have hDe := zC7 p h0 (by omega) (by omega) (spA t).reverse (by simpa using dl0) (by rw [List.length_reverse]; omega) (zah n p) (fun x hx => by
      have hx' : x ∈ spA t := by simpa using hx
      exact ⟨oA x hx', fA x hx', by have := mA x hx'; omega⟩) (fun x ox fx hx => by
      refine hrec x ox fx ?_
      rcases hx with hx | ⟨z, hz, hx⟩
      · exact mA x (by simpa using hx)
      · have := mA z (by simpa using hz)
        have := (zh0 z).1 x hx
        omega)
    rw [← hV] at hDe
    rw [k3] at hO2
    generalize hSk : p.b.sorts[k] = S at *
    refine za4 rfl fun hs => ?_
    simp only [cT] at hU
    simp only [eBl, cBl] at hO2
    simp only [rp, cBl, eTs, List.cons_append, List.nil_append] at hDe
    simp -dsimp [zav, rp, cBl, cT, c1, c3]
    refine zcy hU (by simp [zax, zby, RV.cells]) ?_
    simp -dsimp [d3, dl0, dl1]
    refine zaa hO2 ?_
    simp -dsimp [k1, hget, hSk, eSos, eSo, cSo, cT, eArs, w3, d5']
    simp only [eSos, eArs, List.map_reverse] at hDe
    refine zaa hDe ?_
    simp -dsimp
end
end
end Ev
end Go.Proofs.YtdhfkbdhdgaccaaGreat
