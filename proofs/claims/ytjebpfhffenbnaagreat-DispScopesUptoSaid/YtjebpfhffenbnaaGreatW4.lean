/- The document's posit: rows, blocks. -/
import Derived.Test.YtjebpfhffenbnaaGreatW3
namespace Go.Proofs.YtjebpfhffenbnaaGreat
namespace Ev
open Go
set_option maxRecDepth 100000
set_option linter.unusedSimpArgs false
set_option linter.unusedVariables false
section
attribute [local simp] allD_map_d sks_map_d tk tn tks initA EndsM one_sos one_cos one_ars one_ts
set_option maxHeartbeats 2000000 in
theorem indices7_ok (n : Nat) (hN : n ≤ 1000000) (p : Pl) (hp : Pok p) (hm : p.more ≤ 1000000) (k : Int) (so : So) (hk0 : 0 ≤ k) (hk : p.b.sorts[k.toNat]? = some so) (l : List T) (cons : Int) (hll : l.length = so.idx.length)
    (ol : ∀ x ∈ l, okT x ∧ formedM x = true ∧ nodes x ≤ n) : Pure Tryz.prog n_porismref07_place_indices [.agg (rp p), .int .i64 k, eTs l, .int .i64 cons] [.bool (indF n p so l cons)] := by
  have hsm := hp.si so (List.mem_of_getElem? hk)
  have hklt := (List.getElem?_eq_some_iff.1 hk).1
  have hke := (List.getElem?_eq_some_iff.1 hk).2
  generalize hV : indF n p so l cons = V
  have hVt : (∀ (i : Nat) (hi : i < so.idx.length), (if so.idx[i].rc then goodF n p (l[i]'(by omega)) cons else cleanF n p (l[i]'(by omega))) = true) → V = true := fun h => by
    rw [← hV]
    exact (allI_iff _ _ _).2 fun j hj => by simp only [Nat.zero_add]; rw [List.getElem?_eq_getElem (by omega : j < l.length)]; exact h j hj
  have hVf : ∀ (i : Nat) (hi : i < so.idx.length), (if so.idx[i].rc then goodF n p (l[i]'(by omega)) cons else cleanF n p (l[i]'(by omega))) = false → V = false := fun i hi h => by
    rw [← hV, Bool.eq_false_iff]
    intro h2
    have := (allI_iff _ _ _).1 h2 i hi
    simp only [Nat.zero_add] at this
    rw [List.getElem?_eq_getElem (by omega : i < l.length)] at this
    simp only at this
    rw [h] at this
    cases this
  refine p_porismref07_place_indices rfl fun hs => ?_
  simp -dsimp [x_porismref07_place_indices, rp, cBl, eTs]
  refine wp_upto so.idx.length (fun i st => (st.s 1 = .d (.int .i64 k) ∧ st.s 2 = .d (eTs l) ∧ st.s 3 = .d (.int .i64 cons)) ∧ (st.s 4 = .ptr 4 1 0 ∧ st.h 4 = ⟨1, .box [.d (eSos p.b.sorts), .d (eCos p.b.cons), .d (.int .i64 p.b.elim), .d (.int .i64 p.base), .d (.sl 1 ((vrs p).map (.int .i64))), .d (eArs p.args)] false⟩) ∧ st.s 9 = .d (.int .i64 i) ∧
    ∀ (j : Nat) (hj : j < so.idx.length), j < i → (if so.idx[j].rc then goodF n p (l[j]'(by omega)) cons else cleanF n p (l[j]'(by omega))) = true) ?_ ?_
  · simp -dsimp [eTs]
  · rintro i ⟨s, hq⟩ hi ⟨⟨g1, g2, g3⟩, ⟨g4, k4⟩, g9, g⟩
    dsimp only at g1 g2 g3 g4 k4 g9
    simp only [eTs, eSos] at g2 k4
    rcases Nat.lt_or_ge i so.idx.length with hlt | hge
    · have w1 : IntKind.i64.wrap ((i : Int) + 1) = (i : Int) + 1 := wrap_id (by omega) (by omega)
      have hiA : i < l.length := by omega
      obtain ⟨x1, x2, x3⟩ := ol _ (List.getElem_mem hiA)
      have hcv := hVf i hlt
      have hfi : ∀ h : (if so.idx[i].rc then goodF n p l[i] cons else cleanF n p l[i]) = true, ∀ (j : Nat) (hj : j < so.idx.length), j < i + 1 → (if so.idx[j].rc then goodF n p (l[j]'(by omega)) cons else cleanF n p (l[j]'(by omega))) = true := fun h j hj hji => by
        rcases Nat.lt_or_ge j i with h' | h'
        · exact g j hj h'
        · have : j = i := by omega
          subst this
          exact h
      have hCx := clean7_ok n hN p l[i] hp (by omega) x1 x2 x3
      have hDx := good7_ok cons n hN p l[i] hp (by omega) x1 x2 x3
      generalize hX : l[i] = X at *
      generalize hAr : so.idx[i] = R at *
      simp only [rp, cBl, cT, eSos, List.cons_append, List.nil_append] at hCx hDx
      simp -dsimp [g1, g2, g3, g4, k4, g9, hlt, hiA, hX, hk0, hklt, hk, hke, hAr, eSo, cSo, eArs, eAr, cAr, cT]
      cases hr : R.rc with
      | false =>
        rw [hr] at hcv hfi
        simp only [Bool.false_eq_true, if_false] at hcv hfi
        simp -dsimp [g1, g2, g3, g4, k4, g9, hlt, hiA, hX, hk0, hklt, hk, hke, hAr, eSo, cSo, eArs, eAr, cAr, cT, hr]
        simp only [eArs] at hCx
        refine call_of hCx ?_
        cases hc : cleanF n p X with
        | false =>
          have hv := hcv hc
          simp -dsimp [g1, g2, g3, g4, k4, g9, hlt, hiA, hX, hr, hv]
        | true =>
          have hnx := hfi hc
          simp -dsimp [g1, g2, g3, g4, k4, g9, hlt, hiA, hX, hr, w1, eTs, eSos, eArs]
          simpa using hnx
      | true =>
        rw [hr] at hcv hfi
        simp only [if_true] at hcv hfi
        simp -dsimp [g1, g2, g3, g4, k4, g9, hlt, hiA, hX, hk0, hklt, hk, hke, hAr, eSo, cSo, eArs, eAr, cAr, cT, hr]
        simp only [eArs] at hDx
        refine call_of hDx ?_
        cases hc : goodF n p X cons with
        | false =>
          have hv := hcv hc
          simp -dsimp [g1, g2, g3, g4, k4, g9, hlt, hiA, hX, hk0, hklt, hk, hke, hAr, eSo, cSo, eArs, eAr, cAr, cT, hr, hv]
        | true =>
          have hnx := hfi hc
          simp -dsimp [g1, g2, g3, g4, k4, g9, hlt, hiA, hX, hk0, hklt, hk, hke, hAr, eSo, cSo, eArs, eAr, cAr, cT, hr, w1, eTs, eSos]
          simpa using hnx
    · have e : i = so.idx.length := by omega
      subst e
      have hz := hVt fun j hj => g j hj hj
      have hli : ¬ so.idx.length < l.length := by omega
      simp -dsimp [g1, g2, g3, g4, k4, g9, hz, hll]
/-- What rows ask. -/
structure Rok (b : Bl) (n : Nat) (l : List Ar) : Prop where
  al : l.length ≤ 20
  fit : Fit b
  si : ∀ s ∈ b.sorts, s.idx.length ≤ 20
  ca : ∀ c ∈ b.cons, c.args.length ≤ 20
  ty : ∀ a ∈ l, a.rc = false → okT a.ty ∧ formedM a.ty = true ∧ nodes a.ty ≤ n
  rc : ∀ a ∈ l, a.rc = true → a.dom.length ≤ 60 ∧ (∀ x ∈ a.dom, okT x ∧ formedM x = true ∧ nodes x ≤ n) ∧ (∀ x ∈ a.idx, okT x ∧ formedM x = true ∧ nodes x ≤ n) ∧ 0 ≤ a.sort ∧ ∃ so, b.sorts[a.sort.toNat]? = some so ∧ a.idx.length = so.idx.length
set_option maxHeartbeats 4000000 in
theorem tele7_ok (n : Nat) (hN : n ≤ 1000000) (b : Bl) (base : Int) (l : List Ar) (cons : Int) (H : Rok b n l) : Pure Tryz.prog n_porismref07_telescope [eBl b, .int .i64 base, eArs l, .int .i64 cons] [.bool (rowF n b base l cons)] := by
  have hal := H.al
  have hpl : ∀ (i : Nat) (m : Int), 0 ≤ m → Pok ⟨b, base, l.take i, m⟩ := fun i m h => ⟨h, by simp only [List.length_take]; omega, H.fit, H.si, H.ca⟩
  generalize hV : rowF n b base l cons = V
  have hVt : (∀ (i : Nat) (hi : i < l.length), argF n b base l cons i l[i] = true) → V = true := fun h => by
    rw [← hV]
    exact (allI_iff _ _ _).2 fun j hj => by simp only [Nat.zero_add]; exact h j hj
  have hVf : ∀ (i : Nat) (hi : i < l.length), argF n b base l cons i l[i] = false → V = false := fun i hi h => by
    rw [← hV, Bool.eq_false_iff]
    intro h2
    have := (allI_iff _ _ _).1 h2 i hi
    simp only [Nat.zero_add] at this
    rw [h] at this
    cases this
  refine p_porismref07_telescope rfl fun hs => ?_
  simp -dsimp [x_porismref07_telescope, eBl, cBl, eArs]
  refine wp_upto l.length (fun i st => (st.s 1 = .d (.int .i64 base) ∧ st.s 2 = .d (eArs l) ∧ st.s 3 = .d (.int .i64 cons)) ∧ (st.s 4 = .ptr 4 1 0 ∧ st.h 4 = ⟨1, .box [.d (eSos b.sorts), .d (eCos b.cons), .d (.int .i64 b.elim)] false⟩) ∧ st.s 9 = .d (.int .i64 i) ∧
    ∀ (j : Nat) (hj : j < l.length), j < i → argF n b base l cons j l[j] = true) ?_ ?_
  · simp -dsimp [eArs]
  · rintro i ⟨s, hp⟩ hi ⟨⟨g1, g2, g3⟩, ⟨g4, k4⟩, g9, g⟩
    dsimp only at g1 g2 g3 g4 k4 g9
    simp only [eArs] at g2
    rcases Nat.lt_or_ge i l.length with hlt | hge
    · have w1 : IntKind.i64.wrap ((i : Int) + 1) = (i : Int) + 1 := wrap_id (by omega) (by omega)
      have hile : i ≤ l.length := hi
      have hcv := hVf i hlt
      have hmem := List.getElem_mem hlt
      have h1 := H.ty _ hmem
      have h2 := H.rc _ hmem
      have hfi : ∀ h : argF n b base l cons i l[i] = true, ∀ (j : Nat) (hj : j < l.length), j < i + 1 → argF n b base l cons j l[j] = true := fun h j hj hji => by
        rcases Nat.lt_or_ge j i with h' | h'
        · exact g j hj h'
        · have : j = i := by omega
          subst this
          exact h
      have hAt := at7_ok b base (l.take i) (by rw [List.length_take]; omega)
      generalize hAr : l[i] = R at *
      have hrp : ∀ m : Int, rp ⟨b, base, l.take i, m⟩ = [eSos b.sorts, eCos b.cons, .int .i64 b.elim, .int .i64 base, .sl 1 ((vrs ⟨b, base, l.take i, m⟩).map (.int .i64)), .sl 7 ((l.map eAr).take i)] := fun m => by
        simp only [rp, cBl, eArs, List.map_take, List.cons_append, List.nil_append]
      rw [hrp] at hAt
      simp only [eBl, cBl, eArs, List.map_take] at hAt
      simp -dsimp [g1, g2, g3, g4, k4, g9, hlt, hile, hAr, eAr, cAr, cT]
      refine call_of hAt ?_
      cases hr : R.rc with
      | false =>
        obtain ⟨o1, o2, o3⟩ := h1 hr
        have hC := clean7_ok n hN ⟨b, base, l.take i, 0⟩ R.ty (hpl i 0 (by omega)) (by simp; omega) o1 o2 o3
        rw [hrp] at hC
        have hAF : argF n b base l cons i R = cleanF n ⟨b, base, l.take i, 0⟩ R.ty := by rw [argF, hr, if_neg (by simp)]
        rw [hAF] at hcv hfi
        simp only [cT] at hC
        simp -dsimp [g1, g2, g3, g4, k4, g9, hlt, hile, hAr, eAr, cAr, cT, hr]
        refine call_of hC ?_
        cases hc : cleanF n ⟨b, base, l.take i, 0⟩ R.ty with
        | false =>
          have hv := hcv hc
          simp -dsimp [g1, g2, g3, g4, k4, g9, hlt, hile, hAr, eAr, cAr, cT, hr, hv]
        | true =>
          have hnx := hfi hc
          simp -dsimp [g1, g2, g3, g4, k4, g9, hlt, hile, hAr, eAr, cAr, cT, hr, w1, eArs]
          simpa using hnx
      | true =>
        obtain ⟨r1, r2, r3, r4, so, hso, r5⟩ := h2 hr
        have hAF : argF n b base l cons i R = ((allI (fun j d => cleanF n ⟨b, base, l.take i, (j : Int)⟩ d) 0 R.dom) && indF n ⟨b, base, l.take i, (R.dom.length : Int)⟩ so R.idx cons) := by rw [argF, hr, if_pos rfl, hso]
        rw [hAF] at hcv hfi
        have hMo : ∀ m : Nat, m ≤ 1000000 → Pure Tryz.prog n_porismref07_place_more [.agg (rp ⟨b, base, l.take i, 0⟩), .int .i64 m] [.agg (rp ⟨b, base, l.take i, (m : Int)⟩)] := fun m hm => by
          have := more7_ok ⟨b, base, l.take i, 0⟩ m hm (by simp) (by simp) (by simp only [List.length_take]; omega)
          rw [Pl.fwd] at this
          simpa using this
        simp only [hrp] at hMo
        simp -dsimp [g1, g2, g3, g4, k4, g9, hlt, hile, hAr, eAr, cAr, cT, hr]
        refine wp_upto R.dom.length (fun j st => (st.s 1 = .d (.int .i64 base) ∧ st.s 2 = .d (eArs l) ∧ st.s 3 = .d (.int .i64 cons)) ∧ (st.s 4 = .ptr 4 1 0 ∧ st.h 4 = ⟨1, .box [.d (eSos b.sorts), .d (eCos b.cons), .d (.int .i64 b.elim)] false⟩) ∧ st.s 9 = .d (.int .i64 i) ∧
          (st.s 10 = .ptr 10 ((hp 10).ver + 1) 0 ∧ st.h 10 = ⟨(hp 10).ver + 1, .box [.d (eSos b.sorts), .d (eCos b.cons), .d (.int .i64 b.elim), .d (.int .i64 base), .d (.sl 1 ((vrs ⟨b, base, l.take i, 0⟩).map (.int .i64))), .d (.sl 7 ((l.map eAr).take i))] false⟩) ∧ st.s 11 = .d (.int .i64 j) ∧
          ∀ (q : Nat) (hq : q < R.dom.length), q < j → cleanF n ⟨b, base, l.take i, (q : Int)⟩ R.dom[q] = true) ?_ ?_
        · simp -dsimp [g1, g2, g3, g4, k4, g9, hlt, hile, hAr, eAr, cAr, cT, hr, eArs]
        · clear g1 g2 g3 g4 k4 g9
          rintro j ⟨s, hq⟩ hj ⟨⟨g1, g2, g3⟩, ⟨g4, k4⟩, g9, ⟨g10, k10⟩, g11, gd⟩
          dsimp only at g1 g2 g3 g4 k4 g9 g10 k10 g11
          simp only [eArs] at g2
          rcases Nat.lt_or_ge j R.dom.length with hlt2 | hge2
          · have w2 : IntKind.i64.wrap ((j : Int) + 1) = (j : Int) + 1 := wrap_id (by omega) (by omega)
            obtain ⟨d1, d2, d3⟩ := r2 _ (List.getElem_mem hlt2)
            have hP := hMo j (by omega)
            have hC := clean7_ok n hN ⟨b, base, l.take i, (j : Int)⟩ R.dom[j] (hpl i j (by omega)) (by simp; omega) d1 d2 d3
            rw [hrp] at hC
            generalize hX : R.dom[j] = X at *
            simp only [cT] at hC
            simp -dsimp [g1, g2, g3, g4, k4, g9, g10, k10, g11, hlt, hAr, hr, eAr, cAr, hlt2, hX, cT, eTs]
            refine call_of hP ?_
            simp -dsimp [g1, g2, g3, g4, k4, g9, g10, k10, g11, hlt, hAr, hr, eAr, cAr, hlt2, hX, cT, eTs]
            refine call_of hC ?_
            cases hc : cleanF n ⟨b, base, l.take i, (j : Int)⟩ X with
            | false =>
              have hz : allI (fun j d => cleanF n ⟨b, base, l.take i, (j : Int)⟩ d) 0 R.dom = false := by
                rw [Bool.eq_false_iff]
                intro h
                have := (allI_iff _ _ _).1 h j hlt2
                rw [Nat.zero_add, hX, hc] at this
                cases this
              have hv := hcv (by rw [hz]; rfl)
              simp -dsimp [g1, g2, g3, g4, k4, g9, g10, k10, g11, hv]
            | true =>
              simp -dsimp [g1, g2, g3, g4, k4, g9, g10, k10, g11, hlt2, w2, eArs]
              intro q hq' hqj
              rcases Nat.lt_or_ge q j with h' | h'
              · exact gd q hq' h'
              · have : q = j := by omega
                subst this
                rw [hX]; exact hc
          · have ej : j = R.dom.length := by omega
            subst ej
            have hz : allI (fun j d => cleanF n ⟨b, base, l.take i, (j : Int)⟩ d) 0 R.dom = true := (allI_iff _ _ _).2 fun q hq' => by rw [Nat.zero_add]; exact gd q hq' hq'
            rw [hz, Bool.true_and] at hcv hfi
            have hP := hMo R.dom.length (by omega)
            have hI := indices7_ok n hN ⟨b, base, l.take i, (R.dom.length : Int)⟩ (hpl i _ (by omega)) (by simp; omega) R.sort so r4 hso R.idx cons r5 r3
            rw [hrp] at hI
            simp only [eTs] at hI
            simp -dsimp [g1, g2, g3, g4, k4, g9, g10, k10, g11, hlt, hAr, hr, eAr, cAr, cT, eTs]
            refine call_of hP ?_
            simp -dsimp [g1, g2, g3, g4, k4, g9, g10, k10, g11, hlt, hAr, hr, eAr, cAr, cT, eTs]
            refine call_of hI ?_
            cases hc : indF n ⟨b, base, l.take i, (R.dom.length : Int)⟩ so R.idx cons with
            | false =>
              have hv := hcv hc
              simp -dsimp [g1, g2, g3, g4, k4, g9, g10, k10, g11, hv]
            | true =>
              have hnx := hfi hc
              simp -dsimp [g1, g2, g3, g4, k4, g9, g10, k10, g11, w1, eArs]
              exact ⟨hlt, hnx⟩
    · have e : i = l.length := by omega
      subst e
      have hz := hVt fun j hj => g j hj hj
      simp -dsimp [g1, g2, g3, g4, k4, g9, hz]
end
end Ev
end Go.Proofs.YtjebpfhffenbnaaGreat
