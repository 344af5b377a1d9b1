/- Texts of this claim, in one. -/
import Derived.Test.YtdhfkbdhdgaccaaGreatMb
namespace Go.Proofs.YtdhfkbdhdgaccaaGreat
namespace Ev
open Go
set_option maxRecDepth 100000
set_option linter.unusedSimpArgs false
set_option linter.unusedVariables false
section
section
attribute [local simp] zae zaf tk tn tks zb6 zb9 zbb zbe zba zb8
set_option maxHeartbeats 2000000 in
theorem zvx (n : Nat) (hN : n ≤ 1000000) (p : Pl) (hp : Pok p) (hm : p.more ≤ 1000000) (k : Int) (so : So) (hk0 : 0 ≤ k) (hk : p.b.sorts[k.toNat]? = some so) (l : List T) (cons : Int) (hll : l.length = so.idx.length)
    (ol : ∀ x ∈ l, okT x ∧ zab x = true ∧ zac x ≤ n) : Pure Tryz.prog zb2 [.agg (rp p), .int .i64 k, eTs l, .int .i64 cons] [.bool (indF n p so l cons)] := by
  have hsm := hp.si so (List.mem_of_getElem? hk)
  have hklt := (List.getElem?_eq_some_iff.1 hk).1
  have hke := (List.getElem?_eq_some_iff.1 hk).2
  generalize hV : indF n p so l cons = V
  have hVt : (∀ (i : Nat) (hi : i < so.idx.length), (if so.idx[i].rc then zcy n p (l[i]'(by omega)) cons else zah n p (l[i]'(by omega))) = true) → V = true := fun h => by
    rw [← hV]
    exact (zan _ _ _).2 fun j hj => by simp only [Nat.zero_add]; rw [List.getElem?_eq_getElem (by omega : j < l.length)]; exact h j hj
  have hVf : ∀ (i : Nat) (hi : i < so.idx.length), (if so.idx[i].rc then zcy n p (l[i]'(by omega)) cons else zah n p (l[i]'(by omega))) = false → V = false := fun i hi h => by
    rw [← hV, Bool.eq_false_iff]
    intro h2
    have := (zan _ _ _).1 h2 i hi
    simp only [Nat.zero_add] at this
    rw [List.getElem?_eq_getElem (by omega : i < l.length)] at this
    simp only at this
    rw [h] at this
    cases this
  refine zkc rfl fun hs => ?_
  simp -dsimp [zc3, rp, cBl, eTs]
  refine zam so.idx.length (fun i st => (st.s 1 = .d (.int .i64 k) ∧ st.s 2 = .d (eTs l) ∧ st.s 3 = .d (.int .i64 cons)) ∧ (st.s 4 = .ptr 4 1 0 ∧ st.h 4 = ⟨1, .box [.d (eSos p.b.sorts), .d (eCos p.b.cons), .d (.int .i64 p.b.elim), .d (.int .i64 p.base), .d (.sl 1 ((vrs p).map (.int .i64))), .d (eArs p.args)] false⟩) ∧ st.s 9 = .d (.int .i64 i) ∧
    ∀ (j : Nat) (hj : j < so.idx.length), j < i → (if so.idx[j].rc then zcy n p (l[j]'(by omega)) cons else zah n p (l[j]'(by omega))) = true) ?_ ?_
  · simp -dsimp [eTs]
  · rintro i ⟨s, hq⟩ hi ⟨⟨g1, g2, g3⟩, ⟨g4, k4⟩, g9, g⟩
    dsimp only at g1 g2 g3 g4 k4 g9
    simp only [eTs, eSos] at g2 k4
    rcases Nat.lt_or_ge i so.idx.length with hlt | hge
    · have w1 : IntKind.i64.wrap ((i : Int) + 1) = (i : Int) + 1 := zad (by omega) (by omega)
      have hiA : i < l.length := by omega
      obtain ⟨x1, x2, x3⟩ := ol _ (List.getElem_mem hiA)
      have hcv := hVf i hlt
      have hfi : ∀ h : (if so.idx[i].rc then zcy n p l[i] cons else zah n p l[i]) = true, ∀ (j : Nat) (hj : j < so.idx.length), j < i + 1 → (if so.idx[j].rc then zcy n p (l[j]'(by omega)) cons else zah n p (l[j]'(by omega))) = true := fun h j hj hji => by
        rcases Nat.lt_or_ge j i with h' | h'
        · exact g j hj h'
        · have : j = i := by omega
          subst this
          exact h
      have hCx := zle n hN p l[i] hp (by omega) x1 x2 x3
      have hDx := zLe cons n hN p l[i] hp (by omega) x1 x2 x3
      generalize hX : l[i] = X at *
      generalize hAr : so.idx[i] = R at *
      simp only [rp, cBl, cT, eSos, List.cons_append, List.nil_append] at hCx hDx
      simp -dsimp [g1, g2, g3, g4, k4, g9, hlt, hiA, hX, hk0, hklt, hk, hke, hAr, eSo, cSo, eArs, eAr, cAr, cT]
      cases hr : R.rc with
      | false =>
        rw [hr] at hcv hfi
        simp only [Bool.false_eq_true, if_false] at hcv hfi
        simp -dsimp [g1, g2, g3, g4, k4, g9, hlt, hiA, hX, hk0, hklt, hk, hke, hAr, eSo, cSo, eArs, eAr, cAr, cT, hr]
        simp only [eArs] at hCx
        refine zaa hCx ?_
        cases hc : zah n p X with
        | false =>
          have hv := hcv hc
          simp -dsimp [g1, g2, g3, g4, k4, g9, hlt, hiA, hX, hr, hv]
        | true =>
          have hnx := hfi hc
          simp -dsimp [g1, g2, g3, g4, k4, g9, hlt, hiA, hX, hr, w1, eTs, eSos, eArs]
          simpa using hnx
      | true =>
        rw [hr] at hcv hfi
        simp only [if_true] at hcv hfi
        simp -dsimp [g1, g2, g3, g4, k4, g9, hlt, hiA, hX, hk0, hklt, hk, hke, hAr, eSo, cSo, eArs, eAr, cAr, cT, hr]
        simp only [eArs] at hDx
        refine zaa hDx ?_
        cases hc : zcy n p X cons with
        | false =>
          have hv := hcv hc
          simp -dsimp [g1, g2, g3, g4, k4, g9, hlt, hiA, hX, hk0, hklt, hk, hke, hAr, eSo, cSo, eArs, eAr, cAr, cT, hr, hv]
        | true =>
          have hnx := hfi hc
          simp -dsimp [g1, g2, g3, g4, k4, g9, hlt, hiA, hX, hk0, hklt, hk, hke, hAr, eSo, cSo, eArs, eAr, cAr, cT, hr, w1, eTs, eSos]
          simpa using hnx
    · have e : i = so.idx.length := by omega
      subst e
      have hz := hVt fun j hj => g j hj hj
      have hli : ¬ so.idx.length < l.length := by omega
      simp -dsimp [g1, g2, g3, g4, k4, g9, hz, hll]
structure Rok (b : Bl) (n : Nat) (l : List Ar) : Prop where
  al : l.length ≤ 20
  fit : Fit b
  si : ∀ s ∈ b.sorts, s.idx.length ≤ 20
  ca : ∀ c ∈ b.cons, c.args.length ≤ 20
  ty : ∀ a ∈ l, a.rc = false → okT a.ty ∧ zab a.ty = true ∧ zac a.ty ≤ n
  rc : ∀ a ∈ l, a.rc = true → a.dom.length ≤ 60 ∧ (∀ x ∈ a.dom, okT x ∧ zab x = true ∧ zac x ≤ n) ∧ (∀ x ∈ a.idx, okT x ∧ zab x = true ∧ zac x ≤ n) ∧ 0 ≤ a.sort ∧ ∃ so, b.sorts[a.sort.toNat]? = some so ∧ a.idx.length = so.idx.length
set_option maxHeartbeats 4000000 in
theorem zEp (n : Nat) (hN : n ≤ 1000000) (b : Bl) (base : Int) (l : List Ar) (cons : Int) (H : Rok b n l) : Pure Tryz.prog zcv [eBl b, .int .i64 base, eArs l, .int .i64 cons] [.bool (rowF n b base l cons)] := by
  have hal := H.al
  have hpl : ∀ (i : Nat) (m : Int), 0 ≤ m → Pok ⟨b, base, l.take i, m⟩ := fun i m h => ⟨h, by simp only [List.length_take]; omega, H.fit, H.si, H.ca⟩
  generalize hV : rowF n b base l cons = V
  have hVt : (∀ (i : Nat) (hi : i < l.length), argF n b base l cons i l[i] = true) → V = true := fun h => by
    rw [← hV]
    exact (zan _ _ _).2 fun j hj => by simp only [Nat.zero_add]; exact h j hj
  have hVf : ∀ (i : Nat) (hi : i < l.length), argF n b base l cons i l[i] = false → V = false := fun i hi h => by
    rw [← hV, Bool.eq_false_iff]
    intro h2
    have := (zan _ _ _).1 h2 i hi
    simp only [Nat.zero_add] at this
    rw [h] at this
    cases this
  refine zm3 rfl fun hs => ?_
  simp -dsimp [zd8, eBl, cBl, eArs]
  refine zam l.length (fun i st => (st.s 1 = .d (.int .i64 base) ∧ st.s 2 = .d (eArs l) ∧ st.s 3 = .d (.int .i64 cons)) ∧ (st.s 4 = .ptr 4 1 0 ∧ st.h 4 = ⟨1, .box [.d (eSos b.sorts), .d (eCos b.cons), .d (.int .i64 b.elim)] false⟩) ∧ st.s 9 = .d (.int .i64 i) ∧
    ∀ (j : Nat) (hj : j < l.length), j < i → argF n b base l cons j l[j] = true) ?_ ?_
  · simp -dsimp [eArs]
  · rintro i ⟨s, hp⟩ hi ⟨⟨g1, g2, g3⟩, ⟨g4, k4⟩, g9, g⟩
    dsimp only at g1 g2 g3 g4 k4 g9
    simp only [eArs] at g2
    rcases Nat.lt_or_ge i l.length with hlt | hge
    · have w1 : IntKind.i64.wrap ((i : Int) + 1) = (i : Int) + 1 := zad (by omega) (by omega)
      have hile : i ≤ l.length := hi
      have hcv := hVf i hlt
      have hmem := List.getElem_mem hlt
      have h1 := H.ty _ hmem
      have h2 := H.rc _ hmem
      have hfi : ∀ h : argF n b base l cons i l[i] = true, ∀ (j : Nat) (hj : j < l.length), j < i + 1 → argF n b base l cons j l[j] = true := fun h j hj hji => by
        rcases Nat.lt_or_ge j i with h' | h'
        · exact g j hj h'
        · have : j = i := by omega
          subst this
          exact h
      have hAt := zIm b base (l.take i) (by rw [List.length_take]; omega)
      generalize hAr : l[i] = R at *
      have hrp : ∀ m : Int, rp ⟨b, base, l.take i, m⟩ = [eSos b.sorts, eCos b.cons, .int .i64 b.elim, .int .i64 base, .sl 1 ((vrs ⟨b, base, l.take i, m⟩).map (.int .i64)), .sl 7 ((l.map eAr).take i)] := fun m => by
        simp only [rp, cBl, eArs, List.map_take, List.cons_append, List.nil_append]
      rw [hrp] at hAt
      simp only [eBl, cBl, eArs, List.map_take] at hAt
      simp -dsimp [g1, g2, g3, g4, k4, g9, hlt, hile, hAr, eAr, cAr, cT]
      refine zaa hAt ?_
      cases hr : R.rc with
      | false =>
        obtain ⟨o1, o2, o3⟩ := h1 hr
        have hC := zle n hN ⟨b, base, l.take i, 0⟩ R.ty (hpl i 0 (by omega)) (by simp; omega) o1 o2 o3
        rw [hrp] at hC
        have hAF : argF n b base l cons i R = zah n ⟨b, base, l.take i, 0⟩ R.ty := by rw [argF, hr, if_neg (by simp)]
        rw [hAF] at hcv hfi
        simp only [cT] at hC
        simp -dsimp [g1, g2, g3, g4, k4, g9, hlt, hile, hAr, eAr, cAr, cT, hr]
        refine zaa hC ?_
        cases hc : zah n ⟨b, base, l.take i, 0⟩ R.ty with
        | false =>
          have hv := hcv hc
          simp -dsimp [g1, g2, g3, g4, k4, g9, hlt, hile, hAr, eAr, cAr, cT, hr, hv]
        | true =>
          have hnx := hfi hc
          simp -dsimp [g1, g2, g3, g4, k4, g9, hlt, hile, hAr, eAr, cAr, cT, hr, w1, eArs]
          simpa using hnx
      | true =>
        obtain ⟨r1, r2, r3, r4, so, hso, r5⟩ := h2 hr
        have hAF : argF n b base l cons i R = ((allI (fun j d => zah n ⟨b, base, l.take i, (j : Int)⟩ d) 0 R.dom) && indF n ⟨b, base, l.take i, (R.dom.length : Int)⟩ so R.idx cons) := by rw [argF, hr, if_pos rfl, hso]
        rw [hAF] at hcv hfi
        have hMo : ∀ m : Nat, m ≤ 1000000 → Pure Tryz.prog za5 [.agg (rp ⟨b, base, l.take i, 0⟩), .int .i64 m] [.agg (rp ⟨b, base, l.take i, (m : Int)⟩)] := fun m hm => by
          have := zFp ⟨b, base, l.take i, 0⟩ m hm (by simp) (by simp) (by simp only [List.length_take]; omega)
          rw [Pl.fwd] at this
          simpa using this
        simp only [hrp] at hMo
        simp -dsimp [g1, g2, g3, g4, k4, g9, hlt, hile, hAr, eAr, cAr, cT, hr]
        refine zam R.dom.length (fun j st => (st.s 1 = .d (.int .i64 base) ∧ st.s 2 = .d (eArs l) ∧ st.s 3 = .d (.int .i64 cons)) ∧ (st.s 4 = .ptr 4 1 0 ∧ st.h 4 = ⟨1, .box [.d (eSos b.sorts), .d (eCos b.cons), .d (.int .i64 b.elim)] false⟩) ∧ st.s 9 = .d (.int .i64 i) ∧
          (st.s 10 = .ptr 10 ((hp 10).ver + 1) 0 ∧ st.h 10 = ⟨(hp 10).ver + 1, .box [.d (eSos b.sorts), .d (eCos b.cons), .d (.int .i64 b.elim), .d (.int .i64 base), .d (.sl 1 ((vrs ⟨b, base, l.take i, 0⟩).map (.int .i64))), .d (.sl 7 ((l.map eAr).take i))] false⟩) ∧ st.s 11 = .d (.int .i64 j) ∧
          ∀ (q : Nat) (hq : q < R.dom.length), q < j → zah n ⟨b, base, l.take i, (q : Int)⟩ R.dom[q] = true) ?_ ?_
        · simp -dsimp [g1, g2, g3, g4, k4, g9, hlt, hile, hAr, eAr, cAr, cT, hr, eArs]
        · clear g1 g2 g3 g4 k4 g9
          rintro j ⟨s, hq⟩ hj ⟨⟨g1, g2, g3⟩, ⟨g4, k4⟩, g9, ⟨g10, k10⟩, g11, gd⟩
          dsimp only at g1 g2 g3 g4 k4 g9 g10 k10 g11
          simp only [eArs] at g2
          rcases Nat.lt_or_ge j R.dom.length with hlt2 | hge2
          · have w2 : IntKind.i64.wrap ((j : Int) + 1) = (j : Int) + 1 := zad (by omega) (by omega)
            obtain ⟨d1, d2, d3⟩ := r2 _ (List.getElem_mem hlt2)
            have hP := hMo j (by omega)
            have hC := zle n hN ⟨b, base, l.take i, (j : Int)⟩ R.dom[j] (hpl i j (by omega)) (by simp; omega) d1 d2 d3
            rw [hrp] at hC
            generalize hX : R.dom[j] = X at *
            simp only [cT] at hC
            simp -dsimp [g1, g2, g3, g4, k4, g9, g10, k10, g11, hlt, hAr, hr, eAr, cAr, hlt2, hX, cT, eTs]
            refine zaa hP ?_
            simp -dsimp [g1, g2, g3, g4, k4, g9, g10, k10, g11, hlt, hAr, hr, eAr, cAr, hlt2, hX, cT, eTs]
            refine zaa hC ?_
            cases hc : zah n ⟨b, base, l.take i, (j : Int)⟩ X with
            | false =>
              have hz : allI (fun j d => zah n ⟨b, base, l.take i, (j : Int)⟩ d) 0 R.dom = false := by
                rw [Bool.eq_false_iff]
                intro h
                have := (zan _ _ _).1 h j hlt2
                rw [Nat.zero_add, hX, hc] at this
                cases this
              have hv := hcv (by rw [hz]; rfl)
              simp -dsimp [g1, g2, g3, g4, k4, g9, g10, k10, g11, hv]
            | true =>
              simp -dsimp [g1, g2, g3, g4, k4, g9, g10, k10, g11, hlt2, w2, eArs]
              intro q hq' hqj
              rcases Nat.lt_or_ge q j with h' | h'
              · exact gd q hq' h'
              · have : q = j := by omega
                subst this
                rw [hX]; exact hc
          · have ej : j = R.dom.length := by omega
            subst ej
            have hz : allI (fun j d => zah n ⟨b, base, l.take i, (j : Int)⟩ d) 0 R.dom = true := (zan _ _ _).2 fun q hq' => by rw [Nat.zero_add]; exact gd q hq' hq'
            rw [hz, Bool.true_and] at hcv hfi
            have hP := hMo R.dom.length (by omega)
            have hI := zvx n hN ⟨b, base, l.take i, (R.dom.length : Int)⟩ (hpl i _ (by omega)) (by simp; omega) R.sort so r4 hso R.idx cons r5 r3
            rw [hrp] at hI
            simp only [eTs] at hI
            simp -dsimp [g1, g2, g3, g4, k4, g9, g10, k10, g11, hlt, hAr, hr, eAr, cAr, cT, eTs]
            refine zaa hP ?_
            simp -dsimp [g1, g2, g3, g4, k4, g9, g10, k10, g11, hlt, hAr, hr, eAr, cAr, cT, eTs]
            refine zaa hI ?_
            cases hc : indF n ⟨b, base, l.take i, (R.dom.length : Int)⟩ so R.idx cons with
            | false =>
              have hv := hcv hc
              simp -dsimp [g1, g2, g3, g4, k4, g9, g10, k10, g11, hv]
            | true =>
              have hnx := hfi hc
              simp -dsimp [g1, g2, g3, g4, k4, g9, g10, k10, g11, w1, eArs]
              exact ⟨hlt, hnx⟩
    · have e : i = l.length := by omega
      subst e
      have hz := hVt fun j hj => g j hj hj
      simp -dsimp [g1, g2, g3, g4, k4, g9, hz]
end
end
section
section
attribute [local simp] zae zaf tk tn tks zb6 zb9 zbb zbe zba zb8
theorem zNu {b : Bl} (hf : Fit b) (fb : FineBl b) {l : List Ar} (ol : zxq l) (fl : zfy l) (hr : rowM b l = true) {n : Nat} (hn : 9000 ≤ n) : Rok b n l := by
  obtain ⟨hl, hA⟩ := zka hr
  refine ⟨fl.1, hf, fun s hs => (fb.sorts s hs).idx.1, fun c hc => (fb.cons c hc).args.1, fun a ha hrc => ?_, fun a ha hrc => ?_⟩
  · obtain ⟨i, hi, rfl⟩ := List.mem_iff_getElem.1 ha
    have h1 := (fl.2 _ ha).ty
    exact ⟨(ol.2 _ ha).ty, (zcg (zyb (hA i hi) hrc) (by omega) (by omega) (by omega)).2.1, by omega⟩
  · obtain ⟨i, hi, rfl⟩ := List.mem_iff_getElem.1 ha
    have fa := fl.2 _ ha
    have oa := ol.2 _ ha
    obtain ⟨_, s0, s1, d1, ⟨so, hso, hil⟩, hd, hx⟩ := zg8 (hA i hi) hrc (by omega) (by omega)
    refine ⟨fa.domL, fun x hxm => ?_, fun x hxm => ?_, s0, so, hso, hil⟩
    · obtain ⟨j, hj, rfl⟩ := List.mem_iff_getElem.1 hxm
      have hnx : zac l[i].dom[j] ≤ 9000 := Nat.le_trans (zci (List.mem_map.2 ⟨_, hxm, rfl⟩)) fa.dom
      exact ⟨oa.dom.2 _ hxm, (zcg (hd j hj) (by omega) (by omega) (by omega)).2.1, by omega⟩
    · have hnx : zac x ≤ 9000 := Nat.le_trans (zci (List.mem_map.2 ⟨_, hxm, rfl⟩)) fa.idx
      exact ⟨oa.idx.2 _ hxm, (zcg (hx x hxm) (by omega) (by omega) (by omega)).2.1, by omega⟩
theorem zJ9 {b : Bl} {c : Co} {so : So} (h : conM b c = true) (hso : b.sorts[c.sort.toNat]? = some so) : (∀ x ∈ c.idx, inM x c.args.length = true) ∧ zeq so.dec c.dec c.args.length = true := by
  rw [conM] at h
  split at h
  · cases h
  split at h
  case isFalse => cases h
  rw [hso] at h
  simp only at h
  split at h
  case isFalse => cases h
  split at h
  case isFalse => cases h
  rename_i hA
  refine ⟨fun x hx => ?_, h⟩
  rw [allM, Bool.not_eq_true', List.any_eq_false] at hA
  have := hA x hx
  simpa using this
set_option maxHeartbeats 4000000 in
theorem zIw (n : Nat) (hn : 9000 ≤ n) (hN : n ≤ 1000000) (b : Bl) (ob : okBl b) (fb : FineBl b) (hf : Fit b) (base : Int) : Pure Tryz.prog zfx [eBl b, .int .i64 base] [.int .i64 (zbr n b base)] := by
  have hSh := zIj b
  have hIn := zkt base 0 65535
  have hbs := fb.s
  have hbc := fb.c
  generalize hE : zbr n b base = E
  simp only [eBl, cBl] at hSh
  by_cases hz : zey b = 0
  case neg =>
    have hs' : zln b = false := by rw [zln, decide_eq_false_iff_not]; exact hz
    have hE' : E = 12 := by
      rw [← hE, zbr, if_neg hz]
      rw [zG4, hs']; rfl
    rw [hE']
    refine zf7 rfl fun hs => ?_
    simp -dsimp [zc1, eBl, cBl]
    refine zaa hSh ?_
    simp -dsimp [hs']
  have hs' : zln b = true := by rw [zln, decide_eq_true_eq]; exact hz
  rw [zbr, if_pos hz] at hE
  obtain ⟨z1, z4, z8, zl, zs, zc⟩ := (za2 b).1 hz
  by_cases hb : inB base 0 65535 = true
  case neg =>
    have hb' : inB base 0 65535 = false := by simpa using hb
    have := (zgz _ _ _).1 hb'
    rw [if_pos (by omega)] at hE
    rw [← hE]
    refine zf7 rfl fun hs => ?_
    simp -dsimp [zc1, eBl, cBl]
    refine zaa hSh ?_
    simp -dsimp [hs']
    refine zaa hIn ?_
    simp -dsimp [hb']
  obtain ⟨b0, b1⟩ := (zdn _ _ _).1 hb
  rw [if_neg (by omega)] at hE
  have hbad : posF n b base = false → E = 11 := fun h => by rw [← hE, h]; rfl
  have hgood : posF n b base = true → E = 0 := fun h => by rw [← hE, h]; rfl
  have hbs1 : ∀ (i : Nat) (hi : i < b.sorts.length), zlm n b base b.sorts[i] = false → E = 11 := fun i hi h => hbad (by
    rw [posF, Bool.and_eq_false_iff]
    refine .inl (Bool.eq_false_iff.2 fun h2 => ?_)
    have := (zan _ _ _).1 h2 i hi
    rw [h] at this
    cases this)
  have hbc1 : ∀ (i : Nat) (hi : i < b.cons.length), conF n b base i b.cons[i] = false → E = 11 := fun i hi h => hbad (by
    rw [posF, Bool.and_eq_false_iff]
    refine .inr (Bool.eq_false_iff.2 fun h2 => ?_)
    have := (zan _ _ _).1 h2 i hi
    rw [Nat.zero_add, h] at this
    cases this)
  have hrp : ∀ (l : List Ar), rp ⟨b, base, l, 0⟩ = [eSos b.sorts, eCos b.cons, .int .i64 b.elim, .int .i64 base, .sl 1 ((vrs ⟨b, base, l, 0⟩).map (.int .i64)), .sl 7 (l.map eAr)] := fun l => by
    simp only [rp, cBl, eArs, List.cons_append, List.nil_append]
  have hpk : ∀ (l : List Ar), l.length ≤ 20 → Pok ⟨b, base, l, 0⟩ := fun l h => ⟨by simp, by simp only; omega, hf, fun s hs => (fb.sorts s hs).idx.1, fun c hc => (fb.cons c hc).args.1⟩
  refine zf7 rfl fun hs => ?_
  simp -dsimp [zc1, eBl, cBl]
  refine zaa hSh ?_
  simp -dsimp [hs']
  refine zaa hIn ?_
  simp -dsimp [hb]
  refine zam b.sorts.length (fun i st => st.s 1 = .d (.int .i64 base) ∧ (st.s 2 = .ptr 2 1 0 ∧ st.h 2 = ⟨1, .box [.d (eSos b.sorts), .d (eCos b.cons), .d (.int .i64 b.elim)] false⟩) ∧ st.s 5 = .d (.int .i64 i) ∧ ∀ (j : Nat) (hj : j < b.sorts.length), j < i → zlm n b base b.sorts[j] = true) ?_ ?_
  · simp -dsimp
  · rintro i ⟨s, hp⟩ hi ⟨g1, ⟨g2, k2⟩, g5, g⟩
    dsimp only at g1 g2 k2 g5
    simp only [eSos] at k2
    rcases Nat.lt_or_ge i b.sorts.length with hlt | hge
    · have w1 : IntKind.i64.wrap ((i : Int) + 1) = (i : Int) + 1 := zad (by omega) (by omega)
      have hcv := hbs1 i hlt
      have hmem := List.getElem_mem hlt
      have os := ob.sorts _ hmem
      have fs := fb.sorts _ hmem
      have hsm := zs i hlt
      have hrow := zy9 hsm
      obtain ⟨_, _, hmb, _⟩ := (zbx _ _ _).1 hsm
      have hfi : zlm n b base b.sorts[i] = true → ∀ (j : Nat) (hj : j < b.sorts.length), j < i + 1 → zlm n b base b.sorts[j] = true := fun h j hj hji => by
        rcases Nat.lt_or_ge j i with h' | h'
        · exact g j hj h'
        · have : j = i := by omega
          subst this
          exact h
      generalize hS : b.sorts[i] = S at *
      have hR := zEp n hN b base S.idx 0 (zNu hf fb os.idx fs.idx hrow hn)
      have hAt := zIm b base S.idx (by have := fs.idx.1; omega)
      rw [hrp] at hAt
      simp only [eBl, cBl, eSos, eArs] at hR hAt
      simp -dsimp [g1, g2, k2, g5, hlt, hS, eSo, cSo, cT, eArs]
      refine zaa hR ?_
      cases hr : rowF n b base S.idx 0 with
      | false =>
        have hw := hcv (by rw [zlm, hr]; rfl)
        simp -dsimp [g1, g2, k2, g5, hlt, hS, hw]
      | true =>
        cases hd : S.dec with
        | false =>
          have hnx := hfi (by rw [zlm, hr, hd]; rfl)
          simp -dsimp [g1, g2, k2, g5, hlt, hS, eSo, cSo, cT, hd, w1, eSos]
          exact hnx
        | true =>
          rw [hd] at hmb
          have hin : inM S.dty S.idx.length = true := by rw [zeq, if_pos rfl] at hmb; exact hmb
          have hsil := fs.idx.1
          have hdn := fs.dty
          have hD := zle n hN ⟨b, base, S.idx, 0⟩ S.dty (hpk _ fs.idx.1) (by simp; omega) os.dty (zcg hin (by omega) (by omega) (by omega)).2.1 (by omega)
          rw [hrp] at hD
          simp only [cT, eSos] at hD
          simp -dsimp [g1, g2, k2, g5, hlt, hS, eSo, cSo, cT, hd]
          refine zaa hAt ?_
          simp -dsimp [g1, g2, k2, g5, hlt, hS, eSo, cSo, cT, hd]
          refine zaa hD ?_
          cases hc : zah n ⟨b, base, S.idx, 0⟩ S.dty with
          | false =>
            have hw := hcv (by rw [zlm, hr, hd, hc]; rfl)
            simp -dsimp [g1, g2, k2, g5, hlt, hS, hw]
          | true =>
            have hnx := hfi (by rw [zlm, hr, hd, hc]; rfl)
            simp -dsimp [g1, g2, k2, g5, hlt, hS, w1, eSos]
            exact hnx
    · have e : i = b.sorts.length := by omega
      subst e
      have hzs : allI (fun _ s => zlm n b base s) 0 b.sorts = true := (zan _ _ _).2 fun j hj => g j hj hj
      clear g hge hi
      simp -dsimp [g1, g2, k2, g5]
      clear g5
      refine zam b.cons.length (fun i st => st.s 1 = .d (.int .i64 base) ∧ (st.s 2 = .ptr 2 1 0 ∧ st.h 2 = ⟨1, .box [.d (eSos b.sorts), .d (eCos b.cons), .d (.int .i64 b.elim)] false⟩) ∧ st.s 7 = .d (.int .i64 i) ∧ ∀ (j : Nat) (hj : j < b.cons.length), j < i → conF n b base j b.cons[j] = true) ?_ ?_
      · simp -dsimp [g1, g2, k2, eSos]
      · clear g1 g2 k2
        rintro i ⟨s, hp⟩ hi ⟨g1, ⟨g2, k2⟩, g7, g⟩
        dsimp only at g1 g2 k2 g7
        simp only [eSos, eCos] at k2
        rcases Nat.lt_or_ge i b.cons.length with hlt | hge
        · have w1 : IntKind.i64.wrap ((i : Int) + 1) = (i : Int) + 1 := zad (by omega) (by omega)
          have hcv := hbc1 i hlt
          have hmem := List.getElem_mem hlt
          have os := ob.cons _ hmem
          have fs := fb.cons _ hmem
          have hcm := zc _ hmem
          obtain ⟨hrow, c0, so, hso, hil⟩ := zkk hcm
          obtain ⟨hix, hmb⟩ := zJ9 hcm hso
          have hsolt := (List.getElem?_eq_some_iff.1 hso).1
          have hso' := (List.getElem?_eq_some_iff.1 hso).2
          have hfi : conF n b base i b.cons[i] = true → ∀ (j : Nat) (hj : j < b.cons.length), j < i + 1 → conF n b base j b.cons[j] = true := fun h j hj hji => by
            rcases Nat.lt_or_ge j i with h' | h'
            · exact g j hj h'
            · have : j = i := by omega
              subst this
              exact h
          generalize hS : b.cons[i] = S at *
          have hal := fs.args.1
          have hR := zEp n hN b base S.args (i : Int) (zNu hf fb os.args fs.args hrow hn)
          have hAt := zIm b base S.args (by omega)
          have hI := zvx n hN ⟨b, base, S.args, 0⟩ (hpk _ hal) (by simp) S.sort so c0 hso S.idx (i : Int) hil (fun x hx => by
            have hnx : zac x ≤ 9000 := Nat.le_trans (zci (List.mem_map.2 ⟨_, hx, rfl⟩)) fs.idx
            exact ⟨os.idx.2 x hx, (zcg (hix x hx) (by omega) (by omega) (by omega)).2.1, by omega⟩)
          have hF : conF n b base i S = (rowF n b base S.args i && (indF n ⟨b, base, S.args, 0⟩ so S.idx i && (!so.dec || zah n ⟨b, base, S.args, 0⟩ S.dec))) := by rw [conF, hso]
          rw [hrp] at hAt hI
          simp only [eBl, cBl, eSos, eCos, eArs, eTs] at hR hAt hI
          simp -dsimp [g1, g2, k2, g7, hlt, hS, eCo, cCo, cT, eArs, eTs]
          refine zaa hAt ?_
          simp -dsimp [g1, g2, k2, g7, hlt, hS, eCo, cCo, cT, eArs, eTs]
          refine zaa hR ?_
          cases hr : rowF n b base S.args i with
          | false =>
            have hw := hcv (by rw [hF, hr]; rfl)
            simp -dsimp [g1, g2, k2, g7, hlt, hS, hw]
          | true =>
            simp -dsimp [g1, g2, k2, g7, hlt, hS, eCo, cCo, cT, eArs, eTs]
            refine zaa hI ?_
            cases hii : indF n ⟨b, base, S.args, 0⟩ so S.idx i with
            | false =>
              have hw := hcv (by rw [hF, hr, hii]; rfl)
              simp -dsimp [g1, g2, k2, g7, hlt, hS, hw]
            | true =>
              cases hd : so.dec with
              | false =>
                have hnx := hfi (by rw [hF, hr, hii, hd]; rfl)
                simp -dsimp [g1, g2, k2, g7, hlt, hS, eCo, cCo, cT, eArs, eTs, c0, hso, hsolt, hso', eSo, cSo, hd, w1, eSos, eCos]
                try exact hnx
              | true =>
                rw [hd] at hmb
                have hin : inM S.dec S.args.length = true := by rw [zeq, if_pos rfl] at hmb; exact hmb
                have hdn := fs.dec
                have hD := zle n hN ⟨b, base, S.args, 0⟩ S.dec (hpk _ hal) (by simp; omega) os.dec (zcg hin (by omega) (by omega) (by omega)).2.1 (by omega)
                rw [hrp] at hD
                simp only [cT, eSos, eCos] at hD
                simp -dsimp [g1, g2, k2, g7, hlt, hS, eCo, cCo, cT, eArs, eTs, c0, hso, hsolt, hso', eSo, cSo, hd]
                refine zaa hD ?_
                cases hc : zah n ⟨b, base, S.args, 0⟩ S.dec with
                | false =>
                  have hw := hcv (by rw [hF, hr, hii, hd, hc]; rfl)
                  simp -dsimp [g1, g2, k2, g7, hlt, hS, hw]
                | true =>
                  have hnx := hfi (by rw [hF, hr, hii, hd, hc]; rfl)
                  simp -dsimp [g1, g2, k2, g7, hlt, hS, w1, eSos, eCos]
                  try exact hnx
        · have e : i = b.cons.length := by omega
          subst e
          have hzc : allI (fun c x => conF n b base c x) 0 b.cons = true := (zan _ _ _).2 fun j hj => by rw [Nat.zero_add]; exact g j hj hj
          have hw := hgood (by rw [posF, hzs, hzc]; rfl)
          simp -dsimp [g1, g2, k2, g7, hw]
end
end
section
def motL (b : Bl) (base k : Int) (so : So) : List T := tyL (vwOf b base so.idx k) 9000 0 so.idx ++ [spT (tC (zbq b base k)) ((posL k so.idx).map fun p => lv p (finL k so.idx))]
theorem zJz (l : List T) (a t : T) : zcx 4 l (.mk 4 0 [a, t]) = zcx 4 (l ++ [a]) t := by
  induction l with
  | nil => rfl
  | cons x xs ih => rw [List.cons_append]; show T.mk 4 0 [x, zcx 4 xs _] = T.mk 4 0 [x, zcx 4 (xs ++ [a]) t]; rw [ih]
theorem zNf (b : Bl) (base k : Int) (so : So) : motT b base k so = zcx 4 (motL b base k so) (.mk 2 b.elim []) := by rw [motT, zJz, motL]
end
section
section
attribute [local simp] zae zaf tk tn tks zb6 zb9 zbb zbe zba zb8
theorem zTg {b : Bl} {base k : Int} (hp : zbr 9000 b base = 0) (k0 : 0 ≤ k) {so : So} (hk : b.sorts[k.toNat]? = some so) : motE b base k = zau (motT b base k so) ∧ motR b base k = zfi (motT b base k so) := by
  have hlt := (List.getElem?_eq_some_iff.1 hk).1
  have hm : mayP b base k b.sorts.length = 0 := by rw [mayP, if_neg (by omega), hp]
  have e : motE b base k = zau (motT b base k so) := by rw [motE, if_pos hm, hk]
  exact ⟨e, by rw [motR, zfi, e, hk]⟩
set_option maxHeartbeats 4000000 in
end
end
section
section
attribute [local simp] zae zaf tk tn tks zb6 zb9 zbb zbe zba zb8
mutual
def eqB : T → T → Bool
  | .mk k n ks, .mk k' n' ks' => decide (k = k') && (decide (n = n') && eqLB ks ks')
def eqLB : List T → List T → Bool
  | [], [] => true
  | x :: xs, y :: ys => eqB x y && eqLB xs ys
  | _, _ => false
end
theorem zQh {xs : List T} (hx : ∀ x ∈ xs, ∀ y, eqB x y = true → x = y) : ∀ ys, eqLB xs ys = true → xs = ys := by
  induction xs with
  | nil => intro ys h; cases ys with
    | nil => rfl
    | cons y ys => simp [eqLB] at h
  | cons x xs ih => intro ys h; cases ys with
    | nil => simp [eqLB] at h
    | cons y ys =>
      rw [eqLB, Bool.and_eq_true] at h
      rw [hx x (by simp) y h.1, ih (fun z hz => hx z (by simp [hz])) ys h.2]
theorem zRo (t : T) : ∀ u, eqB t u = true → t = u := by
  refine T.ind (p := fun t => ∀ u, eqB t u = true → t = u) ?_ t
  intro k n ks ih u h
  obtain ⟨k', n', ks'⟩ := u
  rw [eqB] at h
  simp only [Bool.and_eq_true, decide_eq_true_eq] at h
  rw [h.1, h.2.1, zQh ih ks' h.2.2]
def rsA' (b : Bl) (base : Int) (ahead : Nat) (vars : Int) (own : List T) (i : Nat) (a : Ar) : List T :=
  (own[i]?).getD zT :: (if a.rc then [spT (tC (za6 b base a.sort)) (lvs 0 ahead vars ++ a.idx.map (fun t => mapT (zd1 (own.take i) 0) t 0) ++ [(own[i]?).getD zT])] else [])
def rsL' (b : Bl) (base : Int) (ahead : Nat) (vars : Int) (own : List T) : Nat → List Ar → List T
  | _, [] => []
  | i, a :: l => rsA' b base ahead vars own i a ++ rsL' b base ahead vars own (i + 1) l
def zQs (b : Bl) (base k vars : Int) (so : So) : T :=
  spT (.mk 1 (vars - 1 - k) []) (rsL' b base (b.sorts.length + b.cons.length) vars (lvs ((b.sorts.length + b.cons.length : Nat) : Int) so.idx.length vars) 0 so.idx ++ [.mk 1 0 []])
theorem zNn (b : Bl) (base : Int) (ahead : Nat) (vars : Int) (own : List T) : ∀ (l : List Ar) (i : Nat), (∀ (j : Nat) (h : j < l.length), l[j].rc = true → ∀ t ∈ l[j].idx, zgr t (own.take (i + j)) 0 = 0) → rsL b base ahead vars own i l = rsL' b base ahead vars own i l
  | [], i, _ => rfl
  | a :: l, i, h => by
    rw [rsL, rsL', zNn b base ahead vars own l (i + 1) fun j hj hr t ht => by
      have := h (j + 1) (by simpa using hj) (by simpa using hr) t (by simpa using ht)
      rwa [show i + 1 + j = i + (j + 1) by omega]]
    congr 1
    rw [rsA, rsA']
    congr 1
    cases hr : a.rc with
    | false => rfl
    | true =>
      have h0 := h 0 (by simp) (by simpa using hr)
      simp only [List.getElem_cons_zero, Nat.add_zero] at h0
      have e : a.idx.map (fun t => zfs t (own.take i) 0) = a.idx.map (fun t => mapT (zd1 (own.take i) 0) t 0) := List.map_congr_left fun t ht => zw8 (h0 t ht)
      rw [e]
def motU (b : Bl) (base : Int) (j : Nat) : T := match b.sorts[j]? with | some s => motT b base j s | none => zT
def metU (b : Bl) (base : Int) (c : Nat) : T := match b.cons[c]? with | some x => (match b.sorts[x.sort.toNat]? with | some s => metT b base c x s | none => zT) | none => zT
def elL' (b : Bl) (base k : Int) (so : So) : List T := (List.range b.sorts.length).map (motU b base) ++ (List.range b.cons.length).map (metU b base) ++ so.idx.map (zd2 b base) ++ [spT (tC (zbq b base k)) (zco so.idx.length)]
theorem zr0 (b : Bl) (base k : Int) (so : So) : (elL' b base k so).length = b.sorts.length + b.cons.length + so.idx.length + 1 := by simp only [elL', List.length_append, List.length_map, List.length_range, List.length_singleton]
def elT' (b : Bl) (base k : Int) (so : So) : T := zcx 4 (elL' b base k so) (zQs b base k ((b.sorts.length + b.cons.length + so.idx.length + 1 : Nat) : Int) so)
theorem zwm {b : Bl} {base : Int} (hp : zbr 9000 b base = 0) {j : Nat} (hj : j < b.sorts.length) : motE b base j = zau (motU b base j) ∧ motR b base j = zfi (motU b base j) := by
  have hk : b.sorts[(j : Int).toNat]? = some b.sorts[j] := by rw [Int.toNat_natCast]; exact List.getElem?_eq_getElem hj
  have h := zTg hp (by omega : (0 : Int) ≤ j) hk
  rw [motU, List.getElem?_eq_getElem hj]
  exact h
theorem zNj {b : Bl} {base : Int} (hp : zbr 9000 b base = 0) {c : Nat} (hc : c < b.cons.length) : metA b base c = some (metU b base c) := by
  obtain ⟨hz, _, _, hpos⟩ := zcj hp
  obtain ⟨z1, z4, z8, zl, zs, zc⟩ := (za2 b).1 hz
  obtain ⟨_, s0, so, hso, _⟩ := zkk (zc _ (List.getElem_mem hc))
  rw [metA, Int.toNat_natCast, List.getElem?_eq_getElem hc, metU, List.getElem?_eq_getElem hc]
  simp only [hso]
theorem zvz {b : Bl} {base : Int} (hp : zbr 9000 b base = 0) {c : Nat} (hc : c < b.cons.length) : metE b base c = zau (metU b base c) ∧ metR b base c = zfi (metU b base c) := by
  have hm : mayP b base c b.cons.length = 0 := by rw [mayP, if_neg (by omega), hp]
  have e : metE b base c = zau (metU b base c) := by rw [metE, if_pos hm, zNj hp hc]
  exact ⟨e, by rw [metR, zfi, e, zNj hp hc]; rfl⟩
theorem zIz {b : Bl} {base k : Int} {so : So} (hp : zbr 9000 b base = 0) (h1 : ∀ j, j < b.sorts.length → motE b base j = 0) (h2 : ∀ c, c < b.cons.length → metE b base c = 0) : elL b base k so = elL' b base k so := by
  have e1 : zko b base b.sorts.length = (List.range b.sorts.length).map (motU b base) := List.map_congr_left fun j hj => by
    have hj := List.mem_range.1 hj
    have h := zwm hp hj
    rw [h.2, zfi, if_pos (by rw [← h.1]; exact h1 j hj)]
  have e2 : zph b base b.cons.length = (List.range b.cons.length).map (metU b base) := List.map_congr_left fun j hj => by
    have hj := List.mem_range.1 hj
    have h := zvz hp hj
    rw [h.2, zfi, if_pos (by rw [← h.1]; exact h2 j hj)]
  rw [elL, elL', e1, e2]
theorem zCd {b : Bl} {k : Nat} {s : So} (h : zf3 b k s = true) : ∀ a ∈ s.idx, a.rc = true → a.dom = [] := fun a ha hr => by
  have := ((zbx _ _ _).1 h).2.2.2 a ha
  rw [zem, if_pos hr] at this
  split at this
  · cases this
  · exact List.eq_nil_of_length_eq_zero (by omega)
theorem zOy {b : Bl} (fb : FineBl b) (hf : Fit b) {base k : Int} (hp : zbr 9000 b base = 0) {so : So} (hk : b.sorts[k.toNat]? = some so) {V : Nat} (hV : V = b.sorts.length + b.cons.length + so.idx.length + 1) : resE b base k (V : Int) so = zQs b base k (V : Int) so := by
  obtain ⟨hz, _, _, hpos⟩ := zcj hp
  obtain ⟨z1, z4, z8, zl, zs, zc⟩ := (za2 b).1 hz
  obtain ⟨hlt, hS⟩ := List.getElem?_eq_some_iff.1 hk
  have hsm := zs _ hlt
  have fs := fb.sorts _ (List.getElem_mem hlt)
  rw [hS] at hsm fs
  obtain ⟨hrow, _, _, _⟩ := (zbx _ _ _).1 hsm
  have hfs := hf.s
  have hfc := hf.c
  have hil := fs.idx.1
  rw [resE, zQs, zNn _ _ _ _ _ _ _ fun j hj hr t ht => by
    rw [Nat.zero_add]
    exact zC9 hrow fs.idx (zCd hsm) (by omega) (by omega) (by omega) j hj hr t ht]
def zO2 (b : Bl) (base k : Int) (so : So) : Bool := zx5 b base true && ((List.range b.sorts.length).all (fun j => zxp (motU b base j) && decide (nodB (motU b base j) ≤ 200)) &&
  ((List.range b.cons.length).all (fun j => zxp (metU b base j) && decide (nodB (metU b base j) ≤ 200)) && (zxp (elT' b base k so) && decide (nodB (elT' b base k so) ≤ 200))))
theorem zF7 {b : Bl} {base k : Int} {so : So} (k0 : 0 ≤ k) (hk : b.sorts[k.toNat]? = some so) (h : zO2 b base k so = true) : elE b base k = 0 ∧ elR b base k = elT' b base k so := by
  simp only [zO2, Bool.and_eq_true, List.all_eq_true, List.mem_range, decide_eq_true_eq] at h
  obtain ⟨h0, h1, h2, h3, h4⟩ := h
  have hp := zGb h0
  obtain ⟨ob, fb, hf⟩ := zx3 h0
  have hlt := (List.getElem?_eq_some_iff.1 hk).1
  have a1 : ∀ j, j < b.sorts.length → motE b base j = 0 := fun j hj => by rw [(zwm hp hj).1]; exact zKi (h1 j hj).1 (h1 j hj).2
  have a2 : ∀ j, j < b.cons.length → metE b base j = 0 := fun j hj => by rw [(zvz hp hj).1]; exact zKi (h2 j hj).1 (h2 j hj).2
  have hm : mayP b base k b.sorts.length = 0 := by rw [mayP, if_neg (by omega), hp]
  have eT_ : elT b base k so = elT' b base k so := by
    rw [elT, elT', zIh, zIz hp a1 a2, zOy fb hf hp hk rfl]
  have e : elE b base k = 0 := by
    rw [elE, if_pos hm, if_pos (zlj.2 a1), if_pos (zlj.2 a2), hk]
    simp only [eT_]
    exact zKi h3 h4
  exact ⟨e, by rw [elR, if_pos e, hk]; exact eT_⟩
def soN : So := ⟨[], 0, false, zT⟩
def natW (n : Int) : T := tP (tP (tC n) (.mk 2 0 [])) (tP (tA (tV 0) (tC (n + 1))) (tP (tP (tC n) (tP (tA (tV 2) (tV 0)) (tA (tV 3) (tA (tC (n + 2)) (tV 1))))) (tP (tC n) (tA (tV 3) (tV 0)))))
theorem zSj : zO2 natB 0 0 soN = true := by decide +kernel
theorem zN7 : elT' natB 0 0 soN = natW 0 := zRo _ _ (by decide +kernel)
theorem zyh {L : List T} {R : T} (hk : R.kind ≠ 4) (hl : L.length ≤ 1000) (oL : ∀ x ∈ L, okT x) (oR : okT R) : Pure Tryz.prog zc2 [.agg (cT (zcx 4 L R))] [eTs L, .agg (cT R)] := by
  have e := zQj L R
  have e2 := zOm (t := R) hk
  rw [e2.1, e2.2, List.append_nil] at e
  have h := zKt (zcx 4 L R) (by rw [e.1]; omega) (by rw [e.2]; exact oR) (by rw [e.1]; exact ⟨by omega, oL⟩)
  rw [e.1, e.2] at h
  exact h
theorem zI4 : elE natB 0 0 = 0 ∧ elR natB 0 0 = natW 0 := by
  obtain ⟨h1, h2⟩ := zF7 (b := natB) (base := 0) (k := 0) (so := soN) (by omega) rfl zSj
  exact ⟨h1, h2.trans zN7⟩
set_option maxHeartbeats 2000000 in
theorem ztu : Pure Tryz.prog zd5 [] [.bool true] := by
  refine zql rfl fun hs => ?_
  obtain ⟨ob, fb, hf⟩ := zx3 nat8
  have hN := zRp
  have h1 := zw3 natB ob fb hf 0 0 (by omega)
  obtain ⟨e1, e2⟩ := zI4
  rw [e1, e2] at h1
  have hU := zyh (L := [tP (tC 0) (.mk 2 0 []), tA (tV 0) (tC 1), tP (tC 0) (tP (tA (tV 2) (tV 0)) (tA (tV 3) (tA (tC 2) (tV 1)))), tC 0]) (R := tA (tV 3) (tV 0)) (by decide) (by simp) (fun x hx => zyo (t := x) (by
    simp only [List.mem_cons, List.not_mem_nil, or_false] at hx
    rcases hx with rfl | rfl | rfl | rfl <;> decide +kernel)) (zyo _ (by decide +kernel))
  have k1 := zma (tA (tV 3) (tV 0))
  have e3 : zcx 4 [tP (tC 0) (.mk 2 0 []), tA (tV 0) (tC 1), tP (tC 0) (tP (tA (tV 2) (tV 0)) (tA (tV 3) (tA (tC 2) (tV 1)))), tC 0] (tA (tV 3) (tV 0)) = natW 0 := rfl
  rw [e3] at hU
  simp only [zH7, cBl, eBl, natW, tP, tA, tC, tV, cT, eTs, List.map_cons, List.map_nil, zcc, tk, tn, tks, List.cons_append, List.nil_append, Int.zero_add] at hN h1 hU k1
  simp -dsimp [zf2]
  refine zaa hN ?_
  simp -dsimp
  refine zaa h1 ?_
  simp -dsimp
  refine zaa hU ?_
  simp -dsimp
  repeat ((first | refine zaa (craw _) ?_ | refine zaa (vraw _) ?_ | refine zaa (uraw _) ?_ | refine zaa (traw _ _ (by simp [zal])) ?_ | refine zaa k1 ?_); simp -dsimp)
end
end
section
section
attribute [local simp] zae zaf tk tn tks zb6 zb9 zbb zbe zba zb8
end
end
section
open Classical in
end
section
mutual
def rnT (f : Int → Int) : T → T
  | .mk k n ks => .mk k (if k = 3 then f n else n) (rnL f ks)
def rnL (f : Int → Int) : List T → List T
  | [] => []
  | x :: xs => rnT f x :: rnL f xs
end
def mvA (f : Int → Int) (a : Ar) : Ar := ⟨a.rc, rnT f a.ty, a.dom.map (rnT f), a.sort, a.idx.map (rnT f)⟩
def mvS (f : Int → Int) (s : So) : So := ⟨s.idx.map (mvA f), s.level, s.dec, rnT f s.dty⟩
def mvC (f : Int → Int) (c : Co) : Co := ⟨c.sort, c.args.map (mvA f), c.idx.map (rnT f), rnT f c.dec⟩
def mvB (f : Int → Int) (b : Bl) : Bl := ⟨b.sorts.map (mvS f), b.cons.map (mvC f), b.elim⟩
end
section
structure Mv (f : Int → Int) (b : Bl) (base base' : Int) (c : Int) : Prop where
  of : ofM (mvB f b) base' (f c) = ofM b base c
end
section
end
section
section
structure Ch (f : Int → Int) (v v' : Vw) (cons : Int) : Prop where
  pos : v'.pos = v.pos
  args : v'.args = v.args.map (mvA f)
  sl : v'.b.sorts.length = v.b.sorts.length
  of : ∀ c : Int, (ofM v.b v.base c).1 = 5 → (ofM v.b v.base c).2 < cons → ofM v'.b v'.base (f c) = ofM v.b v.base c
  con : ∀ j : Nat, (j : Int) < cons → v'.b.cons[j]? = (v.b.cons[j]?).map (mvC f)
variable {f : Int → Int} {v v' : Vw} {cons : Int}
end
end
section
attribute [local simp] zae zaf tk tn tks zbb zbe zba zb8

theorem zQi (f : T) (l : List T) (h : f.kind ≠ 4) : (spT f l).kind ≠ 4 := by
  induction l generalizing f with
  | nil => exact h
  | cons a l ih => exact ih (.mk 6 0 [f, a]) (by show (6 : Int) ≠ 4; decide)
theorem zxy (f : T) (l : List T) (h6 : f.kind ≠ 6) (hf : okT f) (hl : okTs l) (hb : l.length ≤ 1000) :
    OwnC Tryz.prog zay [.agg (cT (spT f l))] [.agg [.d (.int .i64 f.kind), .d (.int .i64 f.num), .d (.sl 3 (f.kids.map eT))], .one (.row 3 (l.map eT) false)] := by
  have e := zHr l f
  rw [(zJ2 h6).1, (zJ2 h6).2, List.append_nil] at e
  have h := zkv (spT f l) (zi6 l f hf hl.2) (by rw [e.1]; simp; omega)
  rw [e.1, e.2, List.reverse_reverse] at h
  exact h
end
section
section
attribute [local simp] zae zaf tk tn tks zb6 zb9 zbb zbe zba zb8
def metB (b : Bl) (base c : Int) (x : Co) (so : So) : T := spT (lv x.sort (metV b base c x).fin) (inT (metV b base c x) 9000 so x.idx x.args.length 0 (metV b base c x).fin ++ [spT (tC (zap b base c)) ((metV b base c x).pos.map fun p => lv p (metV b base c x).fin)])
structure MetOk (b : Bl) (base c : Int) (x : Co) (so : So) : Prop where
  oL : ∀ y ∈ tyL (metV b base c x) 9000 0 x.args, okT y
  lL : (tyL (metV b base c x) 9000 0 x.args).length ≤ 40
  oJ : ∀ y ∈ inT (metV b base c x) 9000 so x.idx x.args.length 0 (metV b base c x).fin ++ [spT (tC (zap b base c)) ((metV b base c x).pos.map fun p => lv p (metV b base c x).fin)], okT y
  lJ : (inT (metV b base c x) 9000 so x.idx x.args.length 0 (metV b base c x).fin).length ≤ 40
  oH : okT (lv x.sort (metV b base c x).fin)
  oO : ∀ y ∈ (metV b base c x).pos.map (fun p => lv p (metV b base c x).fin), okT y
end
end
section
structure In8 (t : T) (V : Int) : Prop where
  wi : wiT t V 65536 = true
  fm : zab t = true
theorem zQn {f : Int → Int → T} {v w C : Int} (hC : C ≤ 4194304) (hv : ∀ n b : Int, 0 ≤ n → n ≤ 65535 → 0 ≤ b → b ≤ C → n < v + b → In8 (f n b) (w + b)) (t : T) : ∀ b : Int, zab t = true → 0 ≤ b → b + zac t ≤ C → wiT t (v + b) 65536 = true → In8 (mapT f t b) (w + b) := by
  refine T.ind (p := fun t => ∀ b : Int, zab t = true → 0 ≤ b → b + zac t ≤ C → wiT t (v + b) 65536 = true → In8 (mapT f t b) (w + b)) ?_ t
  intro k n ks ih b hfm h0 hb hw
  rw [mapT]
  by_cases h1 : k = 1
  · have hn := zc9 h1 hfm
    rw [wiT, if_pos h1] at hw
    rw [if_pos h1]
    exact hv n b hn.1 hn.2 h0 (by omega) (by simpa using hw)
  · rw [if_neg h1]
    by_cases h2 : k = 2
    · subst h2
      rw [wiT, if_neg (by decide), if_pos rfl] at hw
      have hks : ks = [] := by
        have := hfm
        rw [za0] at this
        split at this
        · rename_i hl
          exact List.length_eq_zero_iff.1 (by have h0 : zds 2 = 0 := rfl; omega)
        · cases this
      subst hks
      refine ⟨by rw [mapL, wiT, if_neg (by decide), if_pos rfl]; exact hw, by rw [mapL]; exact hfm⟩
    by_cases h3 : k = 3
    · subst h3
      rw [wiT, if_neg (by decide), if_neg (by decide), if_pos rfl] at hw
      have hks : ks = [] := by
        have := hfm
        rw [za0] at this
        split at this
        · rename_i hl
          exact List.length_eq_zero_iff.1 (by have h0 : zds 3 = 0 := rfl; omega)
        · cases this
      subst hks
      refine ⟨by rw [mapL, wiT, if_neg (by decide), if_neg (by decide), if_pos rfl]; exact hw, by rw [mapL]; exact hfm⟩
    rw [wiT, if_neg h1, if_neg h2, if_neg h3, zCi] at hw
    have key : ∀ (j : Nat) (hj : j < ks.length), In8 (mapT f ks[j] (b + zai k (0 + j : Nat))) (w + (b + zai k (0 + j : Nat))) := fun j hj => by
      have hxn := zcq (k := k) (n := n) (List.getElem_mem hj)
      have hbl := zdf k (0 + j : Nat)
      have := hw j hj
      rw [show v + b + zai k (0 + j : Nat) = v + (b + zai k (0 + j : Nat)) by omega] at this
      exact ih ks[j] (List.getElem_mem _) _ (zbm hfm _ (List.getElem_mem _)) (by omega) (by omega) this
    refine ⟨?_, zqs h1 hfm fun j hj => by have := (key j hj).fm; rwa [Nat.zero_add] at this⟩
    rw [wiT, if_neg h1, if_neg h2, if_neg h3, zCi]
    intro j hj
    rw [zja] at hj
    rw [zow _ _ _ _ _ _ hj, show w + b + zai k (0 + j : Nat) = w + (b + zai k (0 + j : Nat)) by omega]
    exact (key j hj).wi
theorem zx9 {l vars : Int} (h0 : 0 ≤ l) (h1 : l < vars) (h2 : vars ≤ 60000) : In8 (lv l vars) vars := ⟨zku (by omega), zbj ⟨by omega, by omega⟩⟩
theorem zpn {f : T} {l : List T} {V : Int} (hf : In8 f V) (hl : ∀ x ∈ l, In8 x V) : In8 (spT f l) V :=
  ⟨by rw [zPb, Bool.and_eq_true, List.all_eq_true]; exact ⟨hf.wi, fun x hx => (hl x hx).wi⟩, zwv _ _ hf.fm fun x hx => (hl x hx).fm⟩
theorem zuv {l : List T} {t : T} {V : Int} (hl : ∀ (i : Nat) (h : i < l.length), In8 l[i] (V + i)) (ht : In8 t (V + l.length)) : In8 (zcx 4 l t) V :=
  ⟨zDa (.inl rfl) l t V (fun i h => (hl i h).wi) ht.wi, zny l t (fun x hx => by obtain ⟨i, hi, rfl⟩ := List.mem_iff_getElem.1 hx; exact (hl i hi).fm) ht.fm⟩
theorem zzw {v : Vw} {t : T} {first : Nat} {more vars : Int} (hpos : ∀ j : Nat, j < first → ∃ q, v.pos[j]? = some q ∧ 0 ≤ q ∧ q < vars) (h0 : 0 ≤ more) (h1 : more ≤ 1000) (h2 : 0 ≤ vars) (h3 : vars ≤ 1000) (ft : zab t = true) (hn : zac t ≤ 30000) (hw : wiT t (first + more) 65536 = true) :
    In8 (putT v t first more vars) (vars + more) := by
  have := zQn (f := putF v.pos first more vars) (v := first + more) (w := vars + more) (C := 30000) (by omega) (fun n b n0 n1 b0 b1 hnb => by
    rw [putF]
    split
    · rename_i hc
      exact ⟨zku (by omega), zbj ⟨n0, by omega⟩⟩
    · rename_i hc
      obtain ⟨q, hq, q0, q1⟩ := hpos (first - 1 - (n - (more + b)).toNat) (by omega)
      rw [hq, Option.getD_some]
      exact ⟨zku (by omega), zbj ⟨by omega, by omega⟩⟩) t 0 ft (by omega) (by omega) (by rw [Int.add_zero]; exact hw)
  rw [Int.add_zero] at this
  exact this
theorem zRm (t : T) (V : Int) : wiT t V 65536 = true → wiT (spH t) V 65536 = true ∧ ∀ x ∈ spA t, wiT x V 65536 = true := by
  refine T.ind (p := fun t => wiT t V 65536 = true → wiT (spH t) V 65536 = true ∧ ∀ x ∈ spA t, wiT x V 65536 = true) ?_ t
  intro k n ks ih hw
  by_cases hc : k = 6 ∧ ∃ a b, ks = [a, b]
  · obtain ⟨rfl, a, b, rfl⟩ := hc
    rw [wiT, if_neg (by decide), if_neg (by decide), if_neg (by decide)] at hw
    simp only [wiL, Bool.and_eq_true] at hw
    have b0 : zai 6 ((0 : Nat) : Int) = 0 := rfl
    have b1 : zai 6 ((0 + 1 : Nat) : Int) = 0 := rfl
    rw [b0, b1, Int.add_zero] at hw
    obtain ⟨i1, i2⟩ := ih a (by simp) hw.1
    rw [(zfj n a b).1, (zfj n a b).2]
    refine ⟨i1, fun x hx => ?_⟩
    rcases List.mem_cons.1 hx with rfl | hx
    · exact hw.2.1
    · exact i2 x hx
  · rw [(zej hc).1, (zej hc).2]
    exact ⟨hw, by simp⟩
structure Sc8 (v : Vw) (first : Nat) (vars cons : Int) : Prop where
  pos : ∀ j : Nat, j < first → ∃ q, v.pos[j]? = some q ∧ 0 ≤ q ∧ q < vars
  rc : ∀ (j : Nat) a q, j < first → v.args[j]? = some a → a.rc = true → v.pos[j]? = some q → q + 1 < vars
  top : ∀ c : Nat, (c : Int) < cons → (v.b.sorts.length : Int) + c < vars
theorem zSl {v : Vw} {first : Nat} {more vars cons : Int} (S : Sc8 v first vars cons) (hfi : first ≤ v.args.length) (h0 : 0 ≤ more) (h1 : more ≤ 1000) (h2 : 0 ≤ vars) (h3 : vars ≤ 1000) : ∀ (n : Nat) (t : T), zab t = true → zac t ≤ n → zac t ≤ 30000 → wiT t (first + more) 65536 = true →
    (za9 (plV v first more) (spH t) = true ∨ zcy n (plV v first more) t cons = true) → In8 (shT v first more vars n t) (vars + more) := by
  intro n
  induction n with
  | zero => intro t _ h; have := zhl t; omega
  | succ n ih =>
    intro t ft hn hn3 hw hg
    have m1 := (zh3 t).1
    obtain ⟨fH, fA⟩ := zjs t ft
    obtain ⟨wH, wA⟩ := zRm t _ hw
    have hm : ∀ x ∈ (spA t).reverse, zac x < zac t ∧ zab x = true ∧ wiT x (first + more) 65536 = true := fun x hx => ⟨m1 x (by simpa using hx), fA x (by simpa using hx), wA x (by simpa using hx)⟩
    have hput : ∀ x ∈ (spA t).reverse, In8 (putT v x first more vars) (vars + more) := fun x hx => by
      obtain ⟨x1, x2, x3⟩ := hm x hx
      exact zzw S.pos h0 h1 h2 h3 x2 (by omega) x3
    by_cases hb : za9 (plV v first more) (spH t) = true
    · obtain ⟨_, j, hj, hjl⟩ := zkq hb
      have hjf : j < first := by simp only [plV, List.length_take] at hjl; omega
      obtain ⟨q, hq, q0, q1⟩ := S.pos j hjf
      have hrc : q + 1 < vars := by
        have hb' := hb
        rw [za9] at hb'
        cases hJ : ze6 (plV v first more) (spH t) with
        | none => rw [hJ] at hb'; cases hb'
        | some j' =>
          rw [hJ] at hb'
          have hje : j' = j := by
            rw [zec, hJ] at hj
            simp only at hj
            omega
          subst hje
          simp only at hb'
          cases ha : (plV v first more).args[j']? with
          | none => rw [ha] at hb'; cases hb'
          | some a =>
            rw [ha] at hb'
            have ha' : v.args[j']? = some a := by
              simp only [plV, List.getElem?_take] at ha
              rwa [if_pos hjf] at ha
            exact S.rc j' a q hjf ha' hb' hq
      have e : shT v first more vars (n + 1) t = spT (lv (q + 1) (vars + more)) ((spA t).reverse.map fun x => putT v x first more vars) := by
        rw [shT, if_pos hb, hj, Int.toNat_natCast, hq]; rfl
      rw [e]
      refine zpn (zx9 (by omega) (by omega) (by omega)) fun y hy => ?_
      obtain ⟨x, hx, rfl⟩ := List.mem_map.1 hy
      exact hput x hx
    · have hgood := hg.resolve_left hb
      rw [zcy] at hgood
      simp only [zz6] at hgood
      rw [if_neg hb] at hgood
      by_cases k3 : (spH t).kind = 3
      case neg => rw [if_neg k3] at hgood; cases hgood
      rw [if_pos k3] at hgood
      have eb : (plV v first more).b = v.b := rfl
      have ebase : (plV v first more).base = v.base := rfl
      rw [eb, ebase] at hgood
      by_cases k5 : (ofM v.b v.base (spH t).num).1 = 5
      case neg => rw [if_neg k5] at hgood; cases hgood
      rw [if_pos k5] at hgood
      by_cases k6 : (ofM v.b v.base (spH t).num).2 < cons
      case neg => rw [if_neg k6] at hgood; cases hgood
      rw [if_pos k6] at hgood
      obtain ⟨c, c1, c2, c3⟩ := zDb k5
      have hgc : v.b.cons[c]? = some v.b.cons[c] := List.getElem?_eq_getElem c1
      have e : shT v first more vars (n + 1) t = spT (lv (v.b.sorts.length + c) (vars + more)) (shA (fun x => putT v x first more vars) (shT v first more vars n) v.b.cons[c].args (spA t).reverse) := by
        rw [shT, if_neg hb, c3]
        simp only [Int.toNat_natCast, hgc]
      rw [c3] at hgood k6
      simp only [Int.toNat_natCast, hgc] at hgood
      by_cases k7 : (spA t).reverse.length = v.b.cons[c].args.length
      case neg => rw [if_neg k7] at hgood; cases hgood
      rw [if_pos k7] at hgood
      have k6' : (c : Int) < cons := k6
      have htop := S.top c k6'
      rw [e]
      refine zpn (zx9 (by omega) (by omega) (by omega)) (zww _ _ fun i h h' => ?_)
      refine ⟨hput _ (List.getElem_mem h'), fun hr => ?_⟩
      obtain ⟨x1, x2, x3⟩ := hm _ (List.getElem_mem h')
      refine ih _ x2 (by omega) (by omega) x3 ?_
      have hA := (zan _ _ _).1 hgood i h
      rw [Nat.zero_add, List.getElem?_eq_getElem h'] at hA
      simp only [fitA, hr, if_true] at hA
      split at hA
      · exact .inr hA
      · have hk := (zkq hA).1
        refine .inl ?_
        have : spH (spA t).reverse[i] = (spA t).reverse[i] := by
          generalize (spA t).reverse[i] = x at hk
          obtain ⟨k, m, ks⟩ := x
          have hk' : k = 1 := hk
          exact (zej (fun h => by omega)).2
        rw [this]
        exact hA
theorem zM4 {v : Vw} {first : Nat} {more vars cons : Int} (S : Sc8 v first vars cons) (hfi : first ≤ v.args.length) (h0 : 0 ≤ more) (h1 : more ≤ 1000) (h2 : 0 ≤ vars) (h3 : vars ≤ 1000) (n : Nat) (so : So) (l : List T) (hll : l.length = so.idx.length)
    (hl : ∀ x ∈ l, zab x = true ∧ zac x ≤ n ∧ zac x ≤ 30000 ∧ wiT x (first + more) 65536 = true) (hg : indF n (plV v first more) so l cons = true) : ∀ y ∈ inT v n so l first more vars, In8 y (vars + more) := by
  refine zww _ _ fun i h h' => ?_
  obtain ⟨x1, x2, x3, x4⟩ := hl _ (List.getElem_mem h')
  refine ⟨zzw S.pos h0 h1 h2 h3 x1 x3 x4, fun hr => ?_⟩
  refine zSl S hfi h0 h1 h2 h3 n _ x1 x2 x3 x4 (.inr ?_)
  rw [indF] at hg
  have hA := (zan _ _ _).1 hg i h
  rw [Nat.zero_add, List.getElem?_eq_getElem h'] at hA
  simpa only [hr, if_true] using hA
end
section
theorem zy0 (l : List Ar) (e : Int) {i j : Nat} (hij : i < j) (hj : j ≤ l.length) : finL e (l.take i) + 1 ≤ finL e (l.take j) := by
  induction j with
  | zero => omega
  | succ j ih =>
    have hs := zrf l e j (by omega)
    have : finL e (l.take j) + 1 ≤ finL e (l.take (j + 1)) := by rw [hs]; split <;> omega
    rcases Nat.lt_or_ge i j with h | h
    · have := ih h (by omega); omega
    · have : i = j := by omega
      subst this
      assumption
theorem zOu (l : List Ar) (e : Int) {i j : Nat} (hij : i < j) (hj : j ≤ l.length) (hr : l[i].rc = true) : finL e (l.take i) + 2 ≤ finL e (l.take j) := by
  have hs := zrf l e i (by omega)
  rw [if_pos hr] at hs
  rcases Nat.lt_or_ge (i + 1) j with h | h
  · have := zy0 l e h hj; omega
  · have : j = i + 1 := by omega
    subst this
    omega
theorem zHd {b : Bl} {base e cons : Int} {l : List Ar} (he : 0 ≤ e) (htop : ∀ c : Nat, (c : Int) < cons → (b.sorts.length : Int) + c < e) (first : Nat) (hfi : first ≤ l.length) {vars : Int} (hv : finL e (l.take first) ≤ vars) : Sc8 (vwOf b base l e) first vars cons := by
  have hle := fun j => zpj (l.take j) e
  refine ⟨fun j hj => ?_, fun j a q hj ha hr hq => ?_, fun c hc => by have := (hle first).1; have := htop c hc; show (b.sorts.length : Int) + c < vars; omega⟩
  · have hjl : j < (posL e l).length := by rw [zf1]; omega
    refine ⟨_, List.getElem?_eq_getElem hjl, ?_, ?_⟩
    · rw [zxw]; have := (hle j).1; omega
    · rw [zxw]; have := zy0 l e hj hfi; omega
  · have hjl : j < (posL e l).length := by rw [zf1]; omega
    have hq' : (posL e l)[j]? = some q := hq
    rw [List.getElem?_eq_getElem hjl, zxw] at hq'
    cases hq'
    obtain ⟨hjl2, rfl⟩ := List.getElem?_eq_some_iff.1 ha
    have := zOu l e hj hfi hr
    omega
theorem zEw (v : Vw) (first : Nat) (vars : Int) : ∀ (l : List T) (j i : Nat), dmP v first vars j (l.take i) = (dmP v first vars j l).take i
  | [], j, i => by simp [dmP]
  | d :: ds, j, 0 => by simp [dmP]
  | d :: ds, j, i + 1 => by simp only [List.take_succ_cons, dmP]; rw [zEw v first vars ds (j + 1) i]
structure Row8 (b : Bl) (base : Int) (l : List Ar) (e cons : Int) : Prop where
  fit : Fit b
  b0 : 0 ≤ base
  b1 : base ≤ 60000
  fine : zfy l
  row : rowM b l = true
  good : rowF 9000 b base l cons = true
  e0 : 0 ≤ e
  e1 : e ≤ 100
  top : ∀ c : Nat, (c : Int) < cons → (b.sorts.length : Int) + c < e
  srt : ∀ a ∈ l, a.rc = true → a.sort < e
theorem zCl (r : Nat) {V : Int} (h : (r : Int) ≤ V) (hV : V ≤ 60000) : ∀ y ∈ zco r, In8 y V := fun y hy => by
  simp only [zco, List.mem_map, List.mem_range] at hy
  obtain ⟨i, hi, rfl⟩ := hy
  exact ⟨zku (by omega), zbj ⟨by omega, by omega⟩⟩
theorem zPa {b : Bl} {base e cons : Int} {l : List Ar} (R : Row8 b base l e cons) (i : Nat) (hi : i < l.length) :
    In8 (putT (vwOf b base l e) (zd2 b base l[i]) i 0 (finL e (l.take i))) (finL e (l.take i)) ∧
    (l[i].rc = true → ∃ t, tyA (vwOf b base l e) 9000 i (finL e (l.take i)) l[i] = [putT (vwOf b base l e) (zd2 b base l[i]) i 0 (finL e (l.take i)), t] ∧ In8 t (finL e (l.take i) + 1)) ∧
    (l[i].rc = false → tyA (vwOf b base l e) 9000 i (finL e (l.take i)) l[i] = [putT (vwOf b base l e) (zd2 b base l[i]) i 0 (finL e (l.take i))]) := by
  obtain ⟨hr1, hr2⟩ := zka R.row
  have fa := R.fine.2 _ (List.getElem_mem hi)
  have hlen := R.fine.1
  have hfl := zpj (l.take i) e
  rw [List.length_take] at hfl
  have e0 := R.e0
  have e1 := R.e1
  have hfs := R.fit.s
  have hA := zl5 R.fit R.b0 R.b1 fa (by omega) (hr2 i hi)
  have hAn := zkf (b := b) (base := base) fa
  have S0 := zHd (base := base) (l := l) e0 R.top i (by omega) (Int.le_refl (finL e (l.take i)))
  refine ⟨?_, fun hr => ?_, fun hr => ?_⟩
  · have := zzw (v := vwOf b base l e) (t := zd2 b base l[i]) S0.pos (Int.le_refl 0) (by omega) (by omega) (by omega) hA.2 (by omega) (by rw [Int.add_zero]; exact hA.1)
    rwa [Int.add_zero] at this
  · obtain ⟨_, s0, s1, d1, ⟨so, hso, hil⟩, hd, hx⟩ := zg8 (hr2 i hi) hr (by omega) (by omega)
    have hg := (zan _ _ _).1 R.good i hi
    rw [Nat.zero_add, argF, if_pos hr, hso, Bool.and_eq_true] at hg
    have S1 := zHd (base := base) (l := l) (vars := finL e (l.take i) + 1) e0 R.top i (by omega) (by omega)
    have ep : plV (vwOf b base l e) i (l[i].dom.length : Int) = ⟨b, base, l.take i, l[i].dom.length⟩ := rfl
    have hg2 : indF 9000 (plV (vwOf b base l e) i (l[i].dom.length : Int)) so l[i].idx cons = true := by rw [ep]; exact hg.2
    have hsrt := R.srt _ (List.getElem_mem hi) hr
    have hso' : (vwOf b base l e).b.sorts[l[i].sort.toNat]? = some so := hso
    refine ⟨_, by rw [tyA, hr, if_pos rfl, hso']; rfl, ?_⟩
    refine zuv (fun j hj => ?_) ?_
    · rw [znw] at hj
      have hnx : zac l[i].dom[j] ≤ 9000 := Nat.le_trans (zci (List.mem_map.2 ⟨_, List.getElem_mem hj, rfl⟩)) fa.dom
      have hf := zcg (hd j hj) (by omega) (by omega) (by omega)
      have hget : (dmP (vwOf b base l e) i (finL e (l.take i) + 1) 0 l[i].dom)[j]? = some (putT (vwOf b base l e) l[i].dom[j] i j (finL e (l.take i) + 1)) := by
        have hs := zzd (vwOf b base l e) i (finL e (l.take i) + 1) l[i].dom 0 j hj
        have hpre : (dmP (vwOf b base l e) i (finL e (l.take i) + 1) 0 (l[i].dom.take (j + 1)))[j]? = some (putT (vwOf b base l e) l[i].dom[j] i ((0 + j : Nat) : Int) (finL e (l.take i) + 1)) := by
          rw [hs, List.getElem?_append_right (by rw [znw, List.length_take]; omega), znw, List.length_take, show j - min j l[i].dom.length = 0 by omega]
          rfl
        rw [zEw] at hpre
        rw [List.getElem?_take, if_pos (by omega), Nat.zero_add] at hpre
        exact hpre
      have hlt' : j < (dmP (vwOf b base l e) i (finL e (l.take i) + 1) 0 l[i].dom).length := by rw [znw]; exact hj
      rw [List.getElem?_eq_getElem hlt'] at hget
      rw [Option.some.inj hget]
      have := zzw (v := vwOf b base l e) (t := l[i].dom[j]) (more := j) (vars := finL e (l.take i) + 1) S1.pos (by omega) (by omega) (by omega) (by omega) hf.2.1 (by omega) hf.1
      exact this
    · rw [znw]
      refine zpn (zx9 s0 (by omega) (by omega)) fun y hy => ?_
      rcases List.mem_append.1 hy with hy | hy
      · exact zM4 S1 (by show i ≤ l.length; omega) (by omega) (by omega) (by omega) (by omega) 9000 so l[i].idx hil (fun x hxm => by
          have hnx : zac x ≤ 9000 := Nat.le_trans (zci (List.mem_map.2 ⟨_, hxm, rfl⟩)) fa.idx
          have hf := zcg (hx x hxm) (by omega) (by omega) (by omega)
          exact ⟨hf.2.1, hnx, by omega, hf.1⟩) hg2 y hy
      · rw [List.mem_singleton] at hy
        subst hy
        exact zpn (zx9 (by omega) (by omega) (by omega)) (zCl _ (by omega) (by omega))
  · rw [tyA, hr, if_neg (by simp)]
    rfl
theorem zNk {b : Bl} {base e cons : Int} {l : List Ar} (R : Row8 b base l e cons) : e + ((tyL (vwOf b base l e) 9000 0 l).length : Int) = finL e l ∧ ∀ (i : Nat) (h : i < (tyL (vwOf b base l e) 9000 0 l).length), In8 (tyL (vwOf b base l e) 9000 0 l)[i] (e + i) := by
  have go : ∀ j, j ≤ l.length → e + ((tyL (vwOf b base l e) 9000 0 (l.take j)).length : Int) = finL e (l.take j) ∧ ∀ (i : Nat) x, (tyL (vwOf b base l e) 9000 0 (l.take j))[i]? = some x → In8 x (e + i) := by
    intro j
    induction j with
    | zero => intro _; exact ⟨by simp [tyL, finL], fun i x h => by simp [tyL] at h⟩
    | succ j ih =>
      intro hj
      have hlt : j < l.length := by omega
      obtain ⟨i1, i2⟩ := ih (by omega)
      obtain ⟨a1, a2, a3⟩ := zPa R j hlt
      have hjl : j < (posL e l).length := by rw [zf1]; exact hlt
      have hpos : ((vwOf b base l e).pos[0 + j]?).getD 0 = finL e (l.take j) := by
        rw [Nat.zero_add, show (vwOf b base l e).pos = posL e l from rfl, List.getElem?_eq_getElem hjl, zxw]; rfl
      have hfs := zrf l e j hlt
      rw [zu4 _ _ _ _ _ hlt, hpos, Nat.zero_add]
      cases hr : l[j].rc with
      | true =>
        obtain ⟨t, ht, hti⟩ := a2 hr
        rw [hr, if_pos rfl] at hfs
        rw [ht, hfs]
        refine ⟨by rw [List.length_append]; simp only [List.length_cons, List.length_nil]; omega, fun i x hx => ?_⟩
        rcases Nat.lt_or_ge i (tyL (vwOf b base l e) 9000 0 (l.take j)).length with h | h
        · rw [List.getElem?_append_left h] at hx; exact i2 i x hx
        · rw [List.getElem?_append_right h] at hx
          match hi : i - (tyL (vwOf b base l e) 9000 0 (l.take j)).length, hx with
          | 0, hx =>
            simp only [List.getElem?_cons_zero, Option.some.injEq] at hx
            subst hx
            rw [show e + (i : Int) = finL e (l.take j) by omega]; exact a1
          | 1, hx =>
            simp only [List.getElem?_cons_succ, List.getElem?_cons_zero, Option.some.injEq] at hx
            subst hx
            rw [show e + (i : Int) = finL e (l.take j) + 1 by omega]; exact hti
          | q + 2, hx => simp at hx
      | false =>
        rw [hr, if_neg (by simp)] at hfs
        rw [a3 hr, hfs]
        refine ⟨by rw [List.length_append]; simp only [List.length_cons, List.length_nil]; omega, fun i x hx => ?_⟩
        rcases Nat.lt_or_ge i (tyL (vwOf b base l e) 9000 0 (l.take j)).length with h | h
        · rw [List.getElem?_append_left h] at hx; exact i2 i x hx
        · rw [List.getElem?_append_right h] at hx
          match hi : i - (tyL (vwOf b base l e) 9000 0 (l.take j)).length, hx with
          | 0, hx =>
            simp only [List.getElem?_cons_zero, Option.some.injEq] at hx
            subst hx
            rw [show e + (i : Int) = finL e (l.take j) by omega]; exact a1
          | q + 1, hx => simp at hx
  have := go l.length (Nat.le_refl _)
  rw [List.take_length] at this
  exact ⟨this.1, fun i h => this.2 i _ (List.getElem?_eq_getElem h)⟩
theorem zIt {l : List Ar} {e : Int} (e0 : 0 ≤ e) (e1 : e ≤ 100) (hl : l.length ≤ 20) : ∀ y ∈ (posL e l).map (fun p => lv p (finL e l)), In8 y (finL e l) := fun y hy => by
  obtain ⟨p, hp, rfl⟩ := List.mem_map.1 hy
  obtain ⟨j, hj, rfl⟩ := List.mem_iff_getElem.1 hp
  have hj' : j < l.length := by rw [zf1] at hj; exact hj
  have h1 := zy0 l e hj' (Nat.le_refl _)
  rw [List.take_length] at h1
  have h2 := zpj (l.take j) e
  have h3 := zpj l e
  rw [zxw]
  exact zx9 (by omega) (by omega) (by omega)
theorem zLf {n V : Int} (h0 : 0 ≤ n) (h1 : n < 65536) : In8 (tC n) V := ⟨zSm h1, zCv ⟨h0, by omega⟩⟩
theorem zJu {b : Bl} (fb : FineBl b) (hf : Fit b) {base k : Int} (hp : zbr 9000 b base = 0) (b1 : base ≤ 60000) {so : So} (k0 : 0 ≤ k) (hk : b.sorts[k.toNat]? = some so) : In8 (motT b base k so) k ∧ ((motL b base k so).length : Int) = finL 0 so.idx + 1 := by
  obtain ⟨hz, b0, _, hpos⟩ := zcj hp
  obtain ⟨z1, z4, z8, zl, zs, zc⟩ := (za2 b).1 hz
  obtain ⟨hlt, hS⟩ := List.getElem?_eq_some_iff.1 hk
  have fs := fb.sorts _ (List.getElem_mem hlt)
  have hsm := zs _ hlt
  rw [hS] at fs hsm
  obtain ⟨hrow, _, _, hbad⟩ := (zbx _ _ _).1 hsm
  have hfs := hf.s
  have R : Row8 b base so.idx k 0 := ⟨hf, b0, b1, fs.idx, hrow, zv8 hpos hk, k0, by omega, fun c hc => by omega, fun a ha hr => by
    have := hbad a ha
    rw [zem, if_pos hr] at this
    split at this
    · cases this
    · split at this
      · cases this
      · omega⟩
  obtain ⟨t1, t2⟩ := zNk R
  have hil := fs.idx.1
  have hfl := zpj so.idx k
  have hfi := zhg hf b0 (by omega : base ≤ 65535) k
  rw [if_pos ⟨k0, by omega⟩] at hfi
  have hSp : In8 (spT (tC (zbq b base k)) ((posL k so.idx).map fun p => lv p (finL k so.idx))) (finL k so.idx) := zpn (zLf (by omega) (by omega)) (zIt k0 (by omega) hil)
  have hU : ∀ V : Int, In8 (.mk 2 b.elim []) V := fun V => by
    rw [zi8, Bool.and_eq_true, decide_eq_true_eq, decide_eq_true_eq] at zl
    refine ⟨by rw [wiT, if_neg (by decide), if_pos rfl]; simpa using zl.2, ?_⟩
    have h0 : zds 2 = 0 := rfl
    rw [za0, h0, (zdn _ _ _).2 ⟨zl.1, by omega⟩]
    rfl
  have hsh : ∀ (l : List Ar) (e : Int), finL e l = e + finL 0 l := by
    intro l
    induction l with
    | nil => intro e; simp [finL]
    | cons a l ih =>
      intro e
      rw [finL, finL, ih, ih (if a.rc then 0 + 2 else 0 + 1)]
      split <;> omega
  refine ⟨?_, ?_⟩
  · rw [zNf]
    refine zuv (fun i hi => ?_) (hU _)
    have hgi := List.getElem?_eq_getElem hi
    generalize (motL b base k so)[i] = y at hgi ⊢
    rw [motL] at hgi
    rcases Nat.lt_or_ge i (tyL (vwOf b base so.idx k) 9000 0 so.idx).length with h | h
    · rw [List.getElem?_append_left h, List.getElem?_eq_getElem h] at hgi
      cases hgi
      exact t2 i h
    · rw [List.getElem?_append_right h] at hgi
      match hi2 : i - (tyL (vwOf b base so.idx k) 9000 0 so.idx).length, hgi with
      | 0, hgi =>
        simp only [List.getElem?_cons_zero, Option.some.injEq] at hgi
        subst hgi
        rw [show k + (i : Int) = finL k so.idx by omega]
        exact hSp
      | q + 1, hgi => simp at hgi
  · rw [motL, List.length_append, List.length_singleton]
    have := hsh so.idx k
    omega
theorem zOw : ∀ (l : List Ar) (e : Int), finL e l = e + finL 0 l := by
  intro l
  induction l with
  | nil => intro e; simp [finL]
  | cons a l ih =>
    intro e
    rw [finL, finL, ih, ih (if a.rc then 0 + 2 else 0 + 1)]
    split <;> omega
theorem zHt {b : Bl} (fb : FineBl b) (hf : Fit b) {base c : Int} (hp : zbr 9000 b base = 0) (b1 : base ≤ 60000) (k0 : 0 ≤ c) {S : Co} (hk : b.cons[c.toNat]? = some S) {so : So} (hso : b.sorts[S.sort.toNat]? = some so) : In8 (metT b base c S so) (b.sorts.length + c) ∧ ((tyL (metV b base c S) 9000 0 S.args).length : Int) = finL 0 S.args := by
  obtain ⟨hz, b0, _, hpos⟩ := zcj hp
  obtain ⟨z1, z4, z8, zl, zs, zc⟩ := (za2 b).1 hz
  obtain ⟨hlt, hS⟩ := List.getElem?_eq_some_iff.1 hk
  obtain ⟨hsg, so1, hso1, hig⟩ := zut hpos hk
  have fs := fb.cons _ (List.getElem_mem hlt)
  have hcon := zc _ (List.getElem_mem hlt)
  rw [hS] at fs hcon
  obtain ⟨hrow, s0, so2, hso2, hil2⟩ := zkk hcon
  rw [hso] at hso1 hso2
  cases hso1
  cases hso2
  rw [show ((c.toNat : Nat) : Int) = c by omega] at hsg hig
  have hsl := (List.getElem?_eq_some_iff.1 hso).1
  have hal := fs.args.1
  have hfs := hf.s
  have hfc := hf.c
  have R : Row8 b base S.args (b.sorts.length + c) c := ⟨hf, b0, b1, fs.args, hrow, hsg, by omega, by omega, fun c' hc => by omega, fun a ha hr => by
    obtain ⟨j, hj, rfl⟩ := List.mem_iff_getElem.1 ha
    have := zg8 ((zka hrow).2 j hj) hr (by omega) (by omega)
    omega⟩
  obtain ⟨t1, t2⟩ := zNk R
  have hfl := zpj S.args (b.sorts.length + c)
  have hfa := zOw S.args (b.sorts.length + c)
  have hfi := zfq hf b0 (by omega : base ≤ 65535) c
  rw [if_pos ⟨k0, by omega⟩] at hfi
  have hdl := zhb b.sorts
  have Sc := zHd (base := base) (l := S.args) R.e0 R.top S.args.length (Nat.le_refl _) (vars := finL (b.sorts.length + c) S.args) (by rw [List.take_length]; omega)
  have hig' : indF 9000 (plV (vwOf b base S.args (b.sorts.length + c)) S.args.length 0) so S.idx c = true := by
    have e : plV (vwOf b base S.args (b.sorts.length + c)) S.args.length 0 = ⟨b, base, S.args, 0⟩ := by simp only [plV, vwOf, List.take_length]
    rw [e]; exact hig
  have hJ := zM4 Sc (Nat.le_refl _) (Int.le_refl 0) (by omega) (by omega) (by omega) 9000 so S.idx hil2 (fun x hx => by
    have hnx : zac x ≤ 9000 := Nat.le_trans (zci (List.mem_map.2 ⟨_, hx, rfl⟩)) fs.idx
    have hf2 := zcg (zzu hcon hx) (by omega) (by omega) (by omega)
    exact ⟨hf2.2.1, hnx, by omega, by rw [Int.add_zero]; exact hf2.1⟩) hig'
  rw [Int.add_zero] at hJ
  refine ⟨?_, by have : (tyL (metV b base c S) 9000 0 S.args).length = (tyL (vwOf b base S.args (b.sorts.length + c)) 9000 0 S.args).length := rfl; omega⟩
  have e3 : metT b base c S so = zcx 4 (tyL (vwOf b base S.args (b.sorts.length + c)) 9000 0 S.args) (metB b base c S so) := rfl
  rw [e3]
  refine zuv t2 ?_
  rw [t1]
  refine zpn (zx9 s0 (by show S.sort < finL _ _; omega) (by show finL _ _ ≤ _; omega)) fun y hy => ?_
  rcases List.mem_append.1 hy with hy | hy
  · exact hJ y hy
  · rw [List.mem_singleton] at hy
    subst hy
    exact zpn (zLf (by omega) (by omega)) (zIt R.e0 R.e1 hal)
theorem zId {t : T} (h : zab t = true) : zau t = 0 ∨ zau t = 4 ∨ zau t = 5 := by
  rw [zau, h]
  split
  · exact .inr (.inl rfl)
  · split
    · exact .inr (.inr rfl)
    · exact .inl rfl
end
section
section
attribute [local simp] zae zaf tk tn tks zb6 zb9 zbb zbe zba zb8
set_option maxHeartbeats 8000000 in
end
end
section
section
attribute [local simp] zae zaf tk tn tks zb6 zb9 zbb zbe zba zb8
set_option maxHeartbeats 8000000 in
end
end
section
section
theorem zn4 (v : Vw) {t : T} (ft : zab t = true) (first : Nat) (more vars : Int) : zac (putT v t first more vars) = zac t :=
  zox _ (fun n b => by rw [putF]; split <;> exact zar _ _) t ft 0
theorem zSx {t : T} (ft : zab t = true) : ((spA t).map zac).sum + (spA t).length + zac (spH t) = zac t := by
  have h := (zL7 t ft).1
  have h2 := zdz (spA t).reverse (spH t)
  rw [h, List.length_reverse, List.map_reverse, List.sum_reverse] at h2
  omega
theorem zC5 {pt sh : T → T} {K : Nat} : ∀ (ar : List Ar) (xs : List T), (∀ x ∈ xs, zac (pt x) = zac x) → (∀ (i : Nat) (h : i < ar.length) (h' : i < xs.length), ar[i].rc = true → zac (sh xs[i]) ≤ K * zac xs[i]) →
    ((shA pt sh ar xs).map zac).sum + (shA pt sh ar xs).length ≤ (K + 2) * ((xs.map zac).sum + xs.length)
  | [], xs, _, _ => by simp [shA]
  | a :: ar, [], _, _ => by simp [shA]
  | a :: ar, x :: xs, hp, hs => by
    have ih := zC5 ar xs (fun y hy => hp y (by simp [hy])) fun i h h' hr => by
      have := hs (i + 1) (by simpa using h) (by simpa using h') (by simpa using hr)
      simpa only [List.getElem_cons_succ] using this
    have h0 := hp x (by simp)
    have e1 : (K + 2) * (((x :: xs).map zac).sum + (x :: xs).length) = (K + 2) * (zac x + 1) + (K + 2) * ((xs.map zac).sum + xs.length) := by
      rw [← Nat.mul_add]; simp only [List.map_cons, List.sum_cons, List.length_cons]; congr 1; omega
    have e2 : (K + 2) * (zac x + 1) = K * zac x + K + 2 * zac x + 2 := by
      rw [Nat.add_mul, Nat.mul_succ]; omega
    rw [e1, e2, shA]
    cases hr : a.rc with
    | true =>
      have h1 := hs 0 (by simp) (by simp) (by simpa using hr)
      simp only [List.getElem_cons_zero] at h1
      simp only [if_true, List.map_cons, List.sum_cons, List.length_cons]
      omega
    | false =>
      simp only [Bool.false_eq_true, if_false, List.map_cons, List.sum_cons, List.length_cons]
      omega
theorem zJq (v : Vw) (first : Nat) (more vars : Int) : ∀ (n : Nat) (t : T), zab t = true → zac t ≤ n → zac (shT v first more vars n t) ≤ (2 * n) * zac t := by
  intro n
  induction n with
  | zero => intro t _ h; have := zhl t; omega
  | succ n ih =>
    intro t ft hn
    have m1 := (zh3 t).1
    obtain ⟨fH, fA⟩ := zjs t ft
    have hs := zSx ft
    have hHp := zhl (spH t)
    have hm : ∀ x ∈ (spA t).reverse, zac x < zac t ∧ zab x = true := fun x hx => ⟨m1 x (by simpa using hx), fA x (by simpa using hx)⟩
    have hrs : ((spA t).reverse.map zac).sum = ((spA t).map zac).sum := by rw [List.map_reverse, List.sum_reverse]
    have e0 : 2 * (n + 1) * zac t = 2 * n * zac t + 2 * zac t := by
      rw [show 2 * (n + 1) = 2 * n + 2 by omega, Nat.add_mul]
    rw [shT]
    split
    · rw [zdz, List.map_map, List.length_map, List.length_reverse]
      have : ((spA t).reverse.map (zac ∘ fun x => putT v x first more vars)).sum = ((spA t).map zac).sum := by
        rw [← hrs]
        congr 1
        exact List.map_congr_left fun x hx => zn4 v (hm x hx).2 first more vars
      rw [this, show zac (lv _ _) = 1 from zar _ _, e0]
      omega
    · rw [zdz, show zac (lv _ _) = 1 from zar _ _, e0]
      split
      · rename_i c hc
        have h1 := zC5 (pt := fun x => putT v x first more vars) (sh := shT v first more vars n) (K := 2 * n) c.args (spA t).reverse (fun x hx => zn4 v (hm x hx).2 first more vars) fun i h h' hr => by
          obtain ⟨x1, x2⟩ := hm _ (List.getElem_mem h')
          exact ih _ x2 (by omega)
        rw [hrs, List.length_reverse] at h1
        have h2 : (2 * n + 2) * (((spA t).map zac).sum + (spA t).length) ≤ (2 * n + 2) * (zac t - 1) := Nat.mul_le_mul_left _ (by omega)
        have h3 : (2 * n + 2) * (zac t - 1) + (2 * n + 2) = (2 * n + 2) * zac t := by
          rw [← Nat.mul_succ]; congr 1; omega
        have h4 : (2 * n + 2) * zac t = 2 * n * zac t + 2 * zac t := by rw [Nat.add_mul]
        omega
      · simp only [List.map_nil, List.sum_nil, List.length_nil]
        omega
theorem zA5 (v : Vw) (so : So) {l : List T} (hl : ∀ x ∈ l, zab x = true ∧ zac x ≤ 9000) (hs : (l.map zac).sum ≤ 9000) (hn : l.length ≤ 60) (first : Nat) (more vars : Int) : ((inT v 9000 so l first more vars).map zac).sum + (inT v 9000 so l first more vars).length ≤ 200000000 := by
  have h1 := zC5 (pt := fun x => putT v x first more vars) (sh := shT v first more vars 9000) (K := 2 * 9000) so.idx l (fun x hx => zn4 v (hl x hx).1 first more vars) fun i h h' hr => by
    obtain ⟨x1, x2⟩ := hl _ (List.getElem_mem h')
    exact zJq v first more vars 9000 _ x1 x2
  rw [inT]
  omega
theorem zKu (v : Vw) (first : Nat) (vars : Int) : ∀ (l : List T) (j : Nat), (∀ x ∈ l, zab x = true) → ((dmP v first vars j l).map zac).sum = (l.map zac).sum
  | [], _, _ => rfl
  | d :: ds, j, h => by
    rw [dmP, List.map_cons, List.map_cons, List.sum_cons, List.sum_cons, zn4 v (h d (by simp)), zKu v first vars ds (j + 1) fun x hx => h x (by simp [hx])]
theorem zo4 {α : Type} (f : α → T) (h : ∀ x, zac (f x) = 1) : ∀ l : List α, ((l.map f).map zac).sum = l.length
  | [] => rfl
  | x :: xs => by rw [List.map_cons, List.map_cons, List.sum_cons, h x, zo4 f h xs, List.length_cons]; omega
theorem zKk {b : Bl} {base e cons : Int} {l : List Ar} (R : Row8 b base l e cons) (i : Nat) (hi : i < l.length) (p : Int) : ((tyA (vwOf b base l e) 9000 i p l[i]).map zac).sum + (tyA (vwOf b base l e) 9000 i p l[i]).length ≤ 300000000 := by
  obtain ⟨hr1, hr2⟩ := zka R.row
  have fa := R.fine.2 _ (List.getElem_mem hi)
  have hA := zl5 R.fit R.b0 R.b1 fa (by omega) (hr2 i hi)
  have hAn := zkf (b := b) (base := base) fa
  rw [tyA, List.map_cons, List.sum_cons, List.length_cons, show (vwOf b base l e).b = b from rfl, show (vwOf b base l e).base = base from rfl, zn4 _ hA.2]
  cases hr : l[i].rc with
  | false => simp only [Bool.false_eq_true, if_false, List.map_nil, List.sum_nil, List.length_nil]; omega
  | true =>
    obtain ⟨_, s0, s1, d1, ⟨so, hso, hil⟩, hd, hx⟩ := zg8 (hr2 i hi) hr (by omega) (by omega)
    have hxs : ∀ x ∈ l[i].idx, zab x = true ∧ zac x ≤ 9000 := fun x hxm => by
      have hnx : zac x ≤ 9000 := Nat.le_trans (zci (List.mem_map.2 ⟨_, hxm, rfl⟩)) fa.idx
      exact ⟨(zcg (hx x hxm) (by omega) (by omega) (by omega)).2.1, hnx⟩
    have hds : ∀ x ∈ l[i].dom, zab x = true := fun x hxm => by
      obtain ⟨j, hj, rfl⟩ := List.mem_iff_getElem.1 hxm
      have hnx : zac l[i].dom[j] ≤ 9000 := Nat.le_trans (zci (List.mem_map.2 ⟨_, List.getElem_mem hj, rfl⟩)) fa.dom
      exact (zcg (hd j hj) (by omega) (by omega) (by omega)).2.1
    have hI := zA5 (vwOf b base l e) so hxs fa.idx fa.idxL i l[i].dom.length (p + 1)
    have hdom := fa.dom
    have hV : ((zco l[i].dom.length).map zac).sum = l[i].dom.length := by
      have := zo4 (fun (j : Nat) => tV ((l[i].dom.length : Int) - 1 - (j : Int))) (fun j => zar _ _) (List.range l[i].dom.length)
      rwa [List.length_range] at this
    have hVl := zg0 l[i].dom.length
    simp only [if_true, List.map_cons, List.map_nil, List.sum_cons, List.sum_nil, List.length_cons, List.length_nil, hso]
    rw [zlf, zKu _ _ _ _ _ hds, znw, zdz, List.map_append, List.sum_append, List.length_append, List.map_cons, List.map_nil, List.sum_cons, List.sum_nil, zdz, hV, hVl,
      show zac (lv _ _) = 1 from zar _ _, show zac (lv _ _) = 1 from zar _ _, List.length_singleton]
    omega
theorem zBl {b : Bl} {base e cons : Int} {l : List Ar} (R : Row8 b base l e cons) : ((tyL (vwOf b base l e) 9000 0 l).map zac).sum + (tyL (vwOf b base l e) 9000 0 l).length ≤ 300000000 * l.length := by
  have go : ∀ j, j ≤ l.length → ((tyL (vwOf b base l e) 9000 0 (l.take j)).map zac).sum + (tyL (vwOf b base l e) 9000 0 (l.take j)).length ≤ 300000000 * j := by
    intro j
    induction j with
    | zero => intro _; simp [tyL]
    | succ j ih =>
      intro hj
      have hlt : j < l.length := by omega
      have h1 := zKk R j hlt (((vwOf b base l e).pos[0 + j]?).getD 0)
      have h2 := ih (by omega)
      rw [zu4 _ _ _ _ _ hlt, List.map_append, List.sum_append, List.length_append]
      rw [show 0 + j = j by omega] at h1 ⊢
      omega
  have := go l.length (Nat.le_refl _)
  rwa [List.take_length] at this
end
end
section
section
attribute [local simp] zae zaf tk tn tks zb6 zb9 zbb zbe zba zb8
theorem zMv {b : Bl} (fb : FineBl b) (hf : Fit b) {base k : Int} (hp : zbr 9000 b base = 0) (b1 : base ≤ 60000) {so : So} (k0 : 0 ≤ k) (hk : b.sorts[k.toNat]? = some so) : Row8 b base so.idx k 0 := by
  obtain ⟨hz, b0, _, hpos⟩ := zcj hp
  obtain ⟨z1, z4, z8, zl, zs, zc⟩ := (za2 b).1 hz
  obtain ⟨hlt, hS⟩ := List.getElem?_eq_some_iff.1 hk
  have fs := fb.sorts _ (List.getElem_mem hlt)
  have hsm := zs _ hlt
  rw [hS] at fs hsm
  obtain ⟨hrow, _, _, hbad⟩ := (zbx _ _ _).1 hsm
  have hfs := hf.s
  exact ⟨hf, b0, b1, fs.idx, hrow, zv8 hpos hk, k0, by omega, fun c hc => by omega, fun a ha hr => by
    have := hbad a ha
    rw [zem, if_pos hr] at this
    split at this
    · cases this
    · split at this
      · cases this
      · omega⟩
theorem zH8 (l : List Ar) (e V : Int) : (((posL e l).map fun p => lv p V).map zac).sum = l.length := by
  rw [zo4 (fun p => lv p V) (fun p => zar _ _), zf1]
theorem zHu {b : Bl} (fb : FineBl b) (hf : Fit b) {base k : Int} (hp : zbr 9000 b base = 0) (b1 : base ≤ 60000) {so : So} (k0 : 0 ≤ k) (hk : b.sorts[k.toNat]? = some so) : zac (motT b base k so) ≤ 1099511627776 := by
  have R := zMv fb hf hp b1 k0 hk
  have h := zBl R
  have hl := R.fine.1
  have hm : 300000000 * so.idx.length ≤ 300000000 * 20 := Nat.mul_le_mul_left _ hl
  rw [zNf, zlf, motL, List.map_append, List.sum_append, List.length_append, List.map_cons, List.map_nil, List.sum_cons, List.sum_nil, zdz, zH8, List.length_map, zf1, List.length_singleton,
    show zac (tC _) = 1 from zar _ _, zar]
  omega
theorem zIr {b : Bl} (fb : FineBl b) (hf : Fit b) {base c : Int} (hp : zbr 9000 b base = 0) (b1 : base ≤ 60000) (k0 : 0 ≤ c) {S : Co} (hk : b.cons[c.toNat]? = some S) {so : So} (hso : b.sorts[S.sort.toNat]? = some so) : zac (metT b base c S so) ≤ 1099511627776 := by
  obtain ⟨hz, b0, _, hpos⟩ := zcj hp
  obtain ⟨z1, z4, z8, zl, zs, zc⟩ := (za2 b).1 hz
  obtain ⟨hlt, hS⟩ := List.getElem?_eq_some_iff.1 hk
  obtain ⟨hsg, so1, hso1, hig⟩ := zut hpos hk
  have fs := fb.cons _ (List.getElem_mem hlt)
  have hcon := zc _ (List.getElem_mem hlt)
  rw [hS] at fs hcon
  obtain ⟨hrow, s0, so2, hso2, hil2⟩ := zkk hcon
  rw [hso] at hso1 hso2
  cases hso1
  cases hso2
  rw [show ((c.toNat : Nat) : Int) = c by omega] at hsg hig
  have hsl := (List.getElem?_eq_some_iff.1 hso).1
  have hal := fs.args.1
  have hfs := hf.s
  have hfc := hf.c
  have R : Row8 b base S.args (b.sorts.length + c) c := ⟨hf, b0, b1, fs.args, hrow, hsg, by omega, by omega, fun c' hc => by omega, fun a ha hr => by
    obtain ⟨j, hj, rfl⟩ := List.mem_iff_getElem.1 ha
    have := zg8 ((zka hrow).2 j hj) hr (by omega) (by omega)
    omega⟩
  have h := zBl R
  have hm : 300000000 * S.args.length ≤ 300000000 * 20 := Nat.mul_le_mul_left _ hal
  have hI := zA5 (metV b base c S) so (l := S.idx) (fun x hx => by
    have hnx : zac x ≤ 9000 := Nat.le_trans (zci (List.mem_map.2 ⟨_, hx, rfl⟩)) fs.idx
    exact ⟨(zcg (zzu hcon hx) (by omega) (by omega) (by omega)).2.1, hnx⟩) fs.idx fs.idxL S.args.length 0 (metV b base c S).fin
  have e3 : metT b base c S so = zcx 4 (tyL (vwOf b base S.args (b.sorts.length + c)) 9000 0 S.args) (metB b base c S so) := rfl
  have e4 : (metV b base c S).pos = posL (b.sorts.length + c) S.args := rfl
  rw [e3, zlf, metB, zdz, List.map_append, List.sum_append, List.length_append, List.map_cons, List.map_nil, List.sum_cons, List.sum_nil, zdz, e4, zH8, List.length_map, zf1, List.length_singleton,
    show zac (tC _) = 1 from zar _ _, show zac (lv _ _) = 1 from zar _ _]
  omega
theorem zS1 {t : T} {V : Int} (h : In8 t V) (h0 : 0 ≤ V) (h1 : V ≤ 60000) (hn : zac t ≤ 1099511627776) (hc : zau t = 0) : zj0 t V 65536 = true := by
  obtain ⟨n1, _, _⟩ := (ztn hn).1 hc
  exact (zFe h0 (by omega) (by omega)).2 ⟨hc, h.wi⟩
set_option maxHeartbeats 8000000 in
end
end
section
section
structure ChB (f : Int → Int) (b b' : Bl) (base base' : Int) (m : Int) : Prop where
  s : b'.sorts = b.sorts.map (mvS f)
  of : ∀ c : Int, (ofM b base c).1 = 5 → (ofM b base c).2 < m → ofM b' base' (f c) = ofM b base c
  con : ∀ j : Nat, (j : Int) < m → b'.cons[j]? = (b.cons[j]?).map (mvC f)
  fo : ∀ k : Int, 0 ≤ k → k < b.sorts.length → zbq b' base' k = f (zbq b base k)
  fm : ∀ k : Int, 0 ≤ k → k < b.sorts.length → fmT b' base' k = rnT f (fmT b base k)
  co : ∀ c : Int, 0 ≤ c → c < m → zap b' base' c = f (zap b base c)
  el : b'.elim = b.elim
variable {f : Int → Int} {b b' : Bl} {base base' m : Int}
theorem zE3 (fb : FineBl b) (hf : Fit b) (hp : zbr 9000 b base = 0) (b1 : base ≤ 60000) {c : Nat} {S : Co} (hk : b.cons[c]? = some S) : Row8 b base S.args (b.sorts.length + c) c ∧ 0 ≤ S.sort ∧ ∃ so, b.sorts[S.sort.toNat]? = some so ∧ S.idx.length = so.idx.length ∧ indF 9000 ⟨b, base, S.args, 0⟩ so S.idx c = true ∧ ∀ x ∈ S.idx, zab x = true ∧ zac x ≤ 9000 := by
  obtain ⟨hz, b0, _, hpos⟩ := zcj hp
  obtain ⟨z1, z4, z8, zl, zs, zc⟩ := (za2 b).1 hz
  obtain ⟨hlt, hS⟩ := List.getElem?_eq_some_iff.1 hk
  obtain ⟨hsg, so1, hso1, hig⟩ := zut hpos hk
  have fs := fb.cons _ (List.getElem_mem hlt)
  have hcon := zc _ (List.getElem_mem hlt)
  rw [hS] at fs hcon
  obtain ⟨hrow, s0, so2, hso2, hil2⟩ := zkk hcon
  rw [hso1] at hso2
  cases hso2
  have hal := fs.args.1
  have hfs := hf.s
  have hfc := hf.c
  refine ⟨⟨hf, b0, b1, fs.args, hrow, hsg, by omega, by omega, fun c' hc => by omega, fun a ha hr => ?_⟩, s0, so1, hso1, hil2, hig, fun x hx => ?_⟩
  · obtain ⟨j, hj, rfl⟩ := List.mem_iff_getElem.1 ha
    have := zg8 ((zka hrow).2 j hj) hr (by omega) (by omega)
    omega
  · have hnx : zac x ≤ 9000 := Nat.le_trans (zci (List.mem_map.2 ⟨_, hx, rfl⟩)) fs.idx
    exact ⟨(zcg (zzu hcon hx) (by omega) (by omega) (by omega)).2.1, hnx⟩
end
end
section
section
end
end
section
section
attribute [local simp] zae zaf tk tn tks zb6 zb9 zbb zbe zba zb8
end
end
section
section
attribute [local simp] zae zaf tk tn tks zb6 zb9 zbb zbe zba zb8
end
end
section
section
theorem In8.mono {t : T} {V W : Int} (h : In8 t V) (hw : V ≤ W) : In8 t W := ⟨zKf t V W hw h.wi, h.fm⟩
theorem zOl {o : Int} {n : Nat} {V : Int} (h0 : 0 ≤ V - o - n) (h1 : 0 ≤ o) (h2 : V ≤ 60000) : ∀ x ∈ lvs o n V, In8 x V := fun x hx => by
  simp only [lvs, List.mem_map, List.mem_range] at hx
  obtain ⟨i, hi, rfl⟩ := hx
  exact ⟨zku (by omega), zbj ⟨by omega, by omega⟩⟩
theorem zJc {o : Int} {n : Nat} {V : Int} {i : Nat} (h : i < n) : ((lvs o n V)[i]?).getD zT = .mk 1 (V - 1 - o - (i : Int)) [] := by
  rw [lvs, List.getElem?_map, List.getElem?_range h]; rfl
theorem zEo {b : Bl} {l : List Ar} (hr : rowM b l = true) (fl : zfy l) (hd0 : ∀ a ∈ l, a.rc = true → a.dom = []) {o V : Int} (h0 : 0 ≤ V - o - l.length) (h1 : 0 ≤ o) (V1 : V ≤ 100) (i : Nat) (h : i < l.length) (hrc : l[i].rc = true) (t : T) (ht : t ∈ l[i].idx) :
    In8 (zfs t ((lvs o l.length V).take i) 0) V ∧ zac (zfs t ((lvs o l.length V).take i) 0) = zac t ∧ zbg (zfs t ((lvs o l.length V).take i) 0) = zbg t := by
  have hz := zC9 hr fl hd0 h0 h1 V1 i h hrc t ht
  obtain ⟨hr1, hr2⟩ := zka hr
  have fa := fl.2 _ (List.getElem_mem h)
  have hnx : zac t ≤ 9000 := Nat.le_trans (zci (List.mem_map.2 ⟨_, ht, rfl⟩)) fa.idx
  obtain ⟨_, s0, s1, d1, ⟨so, hso, hil⟩, hd, hx⟩ := zg8 (hr2 i h) hrc (by omega) (by omega)
  have hx1 := hx t ht
  rw [hd0 _ (List.getElem_mem h) hrc, List.length_nil] at hx1
  have hf := zcg hx1 (by omega) (by omega) (by omega)
  have hlen : ((lvs o l.length V).take i).length = i := by rw [List.length_take, zs8]; omega
  have hmem : ∀ x ∈ (lvs o l.length V).take i, ∃ m : Int, x = .mk 1 m [] ∧ 0 ≤ m ∧ m < V := fun x hxm => by
    have := List.mem_of_mem_take hxm
    simp only [lvs, List.mem_map, List.mem_range] at this
    obtain ⟨j, hj, rfl⟩ := this
    exact ⟨_, rfl, by omega, by omega⟩
  have hl : ∀ x ∈ (lvs o l.length V).take i, zau x = 0 ∧ zac x ≤ 9000 ∧ wiT x V 65536 = true := fun x hxm => by
    obtain ⟨m, rfl, m0, m1⟩ := hmem x hxm
    exact ⟨zA2 ⟨m0, by omega⟩, by rw [zar]; omega, zku (by omega)⟩
  have hw := (zHn (V := V) ⟨by omega, by omega⟩ (u := 0) ⟨by omega, by omega⟩ hf.2.2 hnx hl (by omega) (by rw [Int.zero_add, hlen]; simpa using hf.1)).2 hz
  rw [Int.add_zero] at hw
  have hfm := (zxz (by omega) (fun x hxm => by have := (hl x hxm).2.1; omega) hz).2.2
  have hleaf : ∀ n b, ∃ k m : Int, zd1 ((lvs o l.length V).take i) 0 n b = .mk k m [] := fun n b => by
    rw [zd1]
    split
    · split
      · rename_i a ha
        obtain ⟨m, rfl, _, _⟩ := hmem a (List.mem_of_getElem? ha)
        exact ⟨_, _, by rw [zm4, mapT, if_pos rfl]⟩
      · exact ⟨_, _, rfl⟩
    · exact ⟨_, _, rfl⟩
  refine ⟨⟨hw, hfm⟩, ?_, ?_⟩
  · rw [zw8 hz]; exact zox _ (fun n b => by obtain ⟨k, m, e⟩ := hleaf n b; rw [e, zar]) t hf.2.1 0
  · rw [zw8 hz]; exact zsi _ (fun n b => by obtain ⟨k, m, e⟩ := hleaf n b; rw [e, zgl]) t hf.2.1 0
theorem zC8 {b : Bl} {base : Int} {ahead : Nat} {vars : Int} {own : List T} {q : T → Prop} : ∀ (l : List Ar) (i : Nat), (∀ (j : Nat) (h : j < l.length), ∀ y ∈ rsA b base ahead vars own (i + j) l[j], q y) → ∀ y ∈ rsL b base ahead vars own i l, q y
  | [], i, _, y, hy => by simp [rsL] at hy
  | a :: l, i, h, y, hy => by
    rw [rsL] at hy
    rcases List.mem_append.1 hy with hy | hy
    · exact h 0 (by simp) y hy
    · exact zC8 l (i + 1) (fun j hj y hy => h (j + 1) (by simpa using hj) y (by rw [show i + (j + 1) = i + 1 + j by omega]; simpa using hy)) y hy
theorem zjt {b : Bl} (fb : FineBl b) {base k : Int} (hp : zbr 9000 b base = 0) {so : So} (hk : b.sorts[k.toNat]? = some so) : rowM b so.idx = true ∧ zfy so.idx ∧ (∀ a ∈ so.idx, a.rc = true → a.dom = []) ∧ zi8 so.level = true := by
  obtain ⟨hz, _, _, hpos⟩ := zcj hp
  obtain ⟨z1, z4, z8, zl, zs, zc⟩ := (za2 b).1 hz
  obtain ⟨hlt, hS⟩ := List.getElem?_eq_some_iff.1 hk
  have hsm := zs _ hlt
  have fs := fb.sorts _ (List.getElem_mem hlt)
  rw [hS] at hsm fs
  obtain ⟨hrow, hlv, _, _⟩ := (zbx _ _ _).1 hsm
  exact ⟨hrow, fs.idx, zCd hsm, hlv⟩
theorem zD1 {b : Bl} (fb : FineBl b) (hf : Fit b) {base k : Int} (hp : zbr 9000 b base = 0) (b1 : base ≤ 60000) {so : So} (k0 : 0 ≤ k) (hk : b.sorts[k.toNat]? = some so) {V : Nat} (hV : V = b.sorts.length + b.cons.length + so.idx.length + 1) : In8 (resE b base k (V : Int) so) V := by
  obtain ⟨_, b0, _, _⟩ := zcj hp
  obtain ⟨hrow, fl, hd0, _⟩ := zjt fb hp hk
  have hlt := (List.getElem?_eq_some_iff.1 hk).1
  have hfs := hf.s
  have hfc := hf.c
  have hil := fl.1
  have h4 := zhb b.sorts
  rw [resE]
  refine zpn ⟨zku (by omega), zbj ⟨by omega, by omega⟩⟩ fun y hy => ?_
  rcases List.mem_append.1 hy with hy | hy
  · refine zC8 (q := fun y => In8 y (V : Int)) so.idx 0 (fun j hj y hy => ?_) y hy
    rw [Nat.zero_add, rsA, zJc hj] at hy
    have hown : In8 (.mk 1 ((V : Int) - 1 - ((b.sorts.length + b.cons.length : Nat) : Int) - (j : Int)) []) V := ⟨zku (by omega), zbj ⟨by omega, by omega⟩⟩
    rcases List.mem_cons.1 hy with rfl | hy
    · exact hown
    · split at hy
      · rename_i hrc
        rw [List.mem_singleton] at hy
        subst hy
        obtain ⟨hr1, hr2⟩ := zka hrow
        have hA := zg8 (hr2 j hj) hrc (by omega) (by omega)
        have e := zjj hf b0 (by omega : base ≤ 65535) so.idx[j].sort
        rw [if_pos ⟨hA.2.1, hA.2.2.1⟩] at e
        refine zpn (zLf (by omega) (by omega)) fun x hx => ?_
        simp only [List.mem_append, List.mem_singleton, List.mem_map] at hx
        rcases hx with (hx | ⟨t, ht, rfl⟩) | rfl
        · exact zOl (by omega) (by omega) (by omega) x hx
        · exact (zEo hrow fl hd0 (by omega) (by omega) (by omega) j hj hrc t ht).1
        · exact hown
      · simp at hy
  · rw [List.mem_singleton] at hy
    subst hy
    exact ⟨zku (by omega), zbj ⟨by omega, by omega⟩⟩
theorem zEu {b : Bl} (fb : FineBl b) (hf : Fit b) {base k : Int} (hp : zbr 9000 b base = 0) (b1 : base ≤ 60000) {so : So} (k0 : 0 ≤ k) (hk : b.sorts[k.toNat]? = some so) :
    (∀ (i : Nat) (h : i < (elL' b base k so).length), In8 (elL' b base k so)[i] i) ∧ ∀ x ∈ elL' b base k so, zac x ≤ 1099511627776 := by
  obtain ⟨_, b0, _, _⟩ := zcj hp
  obtain ⟨hrow, fl, hd0, _⟩ := zjt fb hp hk
  have hlt := (List.getElem?_eq_some_iff.1 hk).1
  have hfs := hf.s
  have hfc := hf.c
  have hil := fl.1
  have hfi := zhg hf b0 (by omega : base ≤ 65535) k
  rw [if_pos ⟨k0, by omega⟩] at hfi
  have m1 : ∀ j, j < b.sorts.length → In8 (motU b base j) j ∧ zac (motU b base j) ≤ 1099511627776 := fun j hj => by
    have hkj : b.sorts[(j : Int).toNat]? = some b.sorts[j] := by rw [Int.toNat_natCast]; exact List.getElem?_eq_getElem hj
    rw [motU, List.getElem?_eq_getElem hj]
    exact ⟨(zJu fb hf hp b1 (by omega) hkj).1, zHu fb hf hp b1 (by omega) hkj⟩
  have m2 : ∀ c, c < b.cons.length → In8 (metU b base c) (b.sorts.length + c) ∧ zac (metU b base c) ≤ 1099511627776 := fun c hc => by
    have hkc : b.cons[c]? = some b.cons[c] := List.getElem?_eq_getElem hc
    have hkc' : b.cons[(c : Int).toNat]? = some b.cons[c] := by rw [Int.toNat_natCast]; exact hkc
    obtain ⟨_, _, so1, hso1, _⟩ := zE3 fb hf hp b1 hkc
    rw [metU, hkc]
    simp only [hso1]
    exact ⟨(zHt fb hf hp b1 (by omega) hkc' hso1).1, zIr fb hf hp b1 (by omega) hkc' hso1⟩
  have hSp : In8 (spT (tC (zbq b base k)) (zco so.idx.length)) ((b.sorts.length + b.cons.length + so.idx.length : Nat) : Int) := zpn (zLf (by omega) (by omega)) (zCl _ (by omega) (by omega))
  have hSn : zac (spT (tC (zbq b base k)) (zco so.idx.length)) ≤ 1099511627776 := by
    have hV : ((zco so.idx.length).map zac).sum = so.idx.length := by
      have := zo4 (fun (j : Nat) => tV ((so.idx.length : Int) - 1 - (j : Int))) (fun j => zar _ _) (List.range so.idx.length)
      rwa [List.length_range] at this
    rw [zdz, hV, zg0, show zac (tC _) = 1 from zar _ _]
    omega
  refine ⟨fun i h => ?_, fun x hx => ?_⟩
  · have hl := zr0 b base k so
    have hget : (elL' b base k so)[i]? = some (elL' b base k so)[i] := List.getElem?_eq_getElem h
    generalize hX : (elL' b base k so)[i] = X at hget ⊢
    rw [elL'] at hget
    have lA : ((List.range b.sorts.length).map (motU b base)).length = b.sorts.length := by simp
    have lB : ((List.range b.cons.length).map (metU b base)).length = b.cons.length := by simp
    have lC : (so.idx.map (zd2 b base)).length = so.idx.length := by simp
    rcases Nat.lt_or_ge i b.sorts.length with h1 | h1
    · rw [List.append_assoc, List.append_assoc, List.getElem?_append_left (by omega), List.getElem?_map, List.getElem?_range h1, Option.map_some, Option.some.injEq] at hget
      rw [← hget]; exact (m1 i h1).1
    rcases Nat.lt_or_ge i (b.sorts.length + b.cons.length) with h2 | h2
    · rw [List.append_assoc, List.append_assoc, List.getElem?_append_right (by omega), List.getElem?_append_left (by omega), lA, List.getElem?_map, List.getElem?_range (by omega), Option.map_some, Option.some.injEq] at hget
      rw [← hget]; exact (m2 (i - b.sorts.length) (by omega)).1.mono (by omega)
    rcases Nat.lt_or_ge i (b.sorts.length + b.cons.length + so.idx.length) with h3 | h3
    · have h3' : i - b.sorts.length - b.cons.length < so.idx.length := by omega
      rw [List.append_assoc, List.append_assoc, List.getElem?_append_right (by omega), List.getElem?_append_right (by omega), List.getElem?_append_left (by omega), lA, lB, List.getElem?_map, List.getElem?_eq_getElem h3', Option.map_some, Option.some.injEq] at hget
      rw [← hget]
      obtain ⟨hr1, hr2⟩ := zka hrow
      have hA := zl5 hf b0 b1 (fl.2 _ (List.getElem_mem h3')) (by omega) (hr2 _ h3')
      exact In8.mono ⟨hA.1, hA.2⟩ (by omega)
    · have hi : i = b.sorts.length + b.cons.length + so.idx.length := by omega
      rw [List.getElem?_append_right (by simp only [List.length_append]; omega)] at hget
      simp only [List.length_append, lA, lB, lC, hi, Nat.sub_self, List.getElem?_cons_zero, Option.some.injEq] at hget
      rw [← hget, hi]
      exact hSp
  · simp only [elL', List.mem_append, List.mem_map, List.mem_range, List.mem_singleton] at hx
    rcases hx with ((⟨j, hj, rfl⟩ | ⟨j, hj, rfl⟩) | ⟨a, ha, rfl⟩) | rfl
    · exact (m1 j hj).2
    · exact (m2 j hj).2
    · have := zkf (b := b) (base := base) (fl.2 a ha); omega
    · exact hSn
end
end
section
section
attribute [local simp] zae zaf tk tn tks zb6 zb9 zbb zbe zba zb8
theorem zEf {f : Nat → Int} {q : Int → Prop} (h0 : q 0) : ∀ {n : Nat}, (∀ i, i < n → q (f i)) → q (fstN f n)
  | 0, _ => h0
  | n + 1, h => by
    rw [fstN]
    split
    · exact h n (by omega)
    · exact zEf h0 fun i hi => h i (by omega)
theorem zMd (b : Bl) (base k V : Int) (so : So) : (resE b base k V so).kind ≠ 4 := zQi _ _ (by show (1 : Int) ≠ 4; decide)
theorem zxl {l : List T} {t : T} (hl : ∀ x ∈ l, zab x = true) (ht : zab t = true) : zab (zcx 4 l t) = true := zny l t hl ht
theorem zRs {b : Bl} (fb : FineBl b) (hf : Fit b) {base k : Int} (hp : zbr 9000 b base = 0) (b1 : base ≤ 60000) (k0 : 0 ≤ k) (k1 : k < b.sorts.length) : elE b base k = 0 ∨ elE b base k = 4 ∨ elE b base k = 5 := by
  have hk : b.sorts[k.toNat]? = some b.sorts[k.toNat] := List.getElem?_eq_getElem (by omega)
  obtain ⟨e1, e2⟩ := zEu fb hf hp b1 k0 hk
  have hm : mayP b base k b.sorts.length = 0 := by rw [mayP, if_neg (by omega), hp]
  have hM : fstN (fun i => motE b base i) b.sorts.length = 0 ∨ fstN (fun i => motE b base i) b.sorts.length = 4 ∨ fstN (fun i => motE b base i) b.sorts.length = 5 := by
    refine zEf (q := fun x => x = 0 ∨ x = 4 ∨ x = 5) (.inl rfl) fun j hj => ?_
    have hkj : b.sorts[(j : Int).toNat]? = some b.sorts[j] := by rw [Int.toNat_natCast]; exact List.getElem?_eq_getElem hj
    rw [(zwm hp hj).1, motU, List.getElem?_eq_getElem hj]
    exact zId (zJu fb hf hp b1 (by omega) hkj).1.fm
  have hC : fstN (fun i => metE b base i) b.cons.length = 0 ∨ fstN (fun i => metE b base i) b.cons.length = 4 ∨ fstN (fun i => metE b base i) b.cons.length = 5 := by
    refine zEf (q := fun x => x = 0 ∨ x = 4 ∨ x = 5) (.inl rfl) fun c hc => ?_
    have hkc : b.cons[c]? = some b.cons[c] := List.getElem?_eq_getElem hc
    have hkc' : b.cons[(c : Int).toNat]? = some b.cons[c] := by rw [Int.toNat_natCast]; exact hkc
    obtain ⟨_, _, so1, hso1, _⟩ := zE3 fb hf hp b1 hkc
    rw [(zvz hp hc).1, metU, hkc]
    simp only [hso1]
    exact zId (zHt fb hf hp b1 (by omega) hkc' hso1).1.fm
  rw [elE, if_pos hm]
  split
  · rename_i h1
    split
    · rename_i h2
      rw [hk]
      simp only
      have a1 := zlj.1 h1
      have a2 := zlj.1 h2
      refine zId ?_
      rw [elT, zIz hp a1 a2, zr0]
      exact zxl (fun x hx => by obtain ⟨i, hi, rfl⟩ := List.mem_iff_getElem.1 hx; exact (e1 i hi).fm) (zD1 fb hf hp b1 k0 hk rfl).fm
    · exact hC
  · exact hM
structure ElOk (b : Bl) (base k : Int) (so : So) : Prop where
  r : elR b base k = zcx 4 (elL' b base k so) (resE b base k ((b.sorts.length + b.cons.length + so.idx.length + 1 : Nat) : Int) so)
  c : zau (elR b base k) = 0
  mot : ∀ j, j < b.sorts.length → motE b base j = 0
  met : ∀ j, j < b.cons.length → metE b base j = 0
  nod : ∀ x ∈ elL' b base k so, zac x ≤ 20000
theorem el_ok {b : Bl} (fb : FineBl b) (hf : Fit b) {base k : Int} (hp : zbr 9000 b base = 0) (b1 : base ≤ 60000) {so : So} (k0 : 0 ≤ k) (hk : b.sorts[k.toNat]? = some so) (he : elE b base k = 0) : ElOk b base k so := by
  have hlt := (List.getElem?_eq_some_iff.1 hk).1
  obtain ⟨e1, e2⟩ := zEu fb hf hp b1 k0 hk
  obtain ⟨hrow, fl, hd0, _⟩ := zjt fb hp hk
  have hm : mayP b base k b.sorts.length = 0 := by rw [mayP, if_neg (by omega), hp]
  have he' := he
  rw [elE, if_pos hm] at he
  split at he
  case isFalse h => exact absurd he h
  rename_i h1
  split at he
  case isFalse h => exact absurd he h
  rename_i h2
  rw [hk] at he
  simp only at he
  have a1 := zlj.1 h1
  have a2 := zlj.1 h2
  have hR : elR b base k = elT b base k so := by rw [elR, if_pos he', hk]
  refine ⟨by rw [hR, elT, zIz hp a1 a2, zr0], by rw [hR]; exact he, a1, a2, fun x hx => ?_⟩
  have hx2 := e2 x hx
  simp only [elL', List.mem_append, List.mem_map, List.mem_range, List.mem_singleton] at hx
  rcases hx with ((⟨j, hj, rfl⟩ | ⟨j, hj, rfl⟩) | ⟨a, ha, rfl⟩) | rfl
  · have := a1 j hj
    rw [(zwm hp hj).1] at this
    have := ((ztn hx2).1 this).1
    omega
  · have := a2 j hj
    rw [(zvz hp hj).1] at this
    have := ((ztn hx2).1 this).1
    omega
  · exact zkf (fl.2 a ha)
  · have hV : ((zco so.idx.length).map zac).sum = so.idx.length := by
      have := zo4 (fun (j : Nat) => tV ((so.idx.length : Int) - 1 - (j : Int))) (fun j => zar _ _) (List.range so.idx.length)
      rwa [List.length_range] at this
    have hil := fl.1
    rw [zdz, hV, zg0, show zac (tC _) = 1 from zar _ _]
    omega
theorem zFi (b : Bl) (base : Int) (ahead : Nat) (vars : Int) (own : List T) : ∀ (l : List Ar) (i : Nat), l.length ≤ (rsL b base ahead vars own i l).length
  | [], i => by simp
  | a :: l, i => by
    have := zFi b base ahead vars own l (i + 1)
    rw [rsL, List.length_append, rsA, List.length_cons, List.length_cons]
    omega
theorem zN0 (o : Int) (n : Nat) (V : Int) : ((lvs o n V).map zac).sum = n := by
  have := zo4 (fun (i : Nat) => (.mk 1 (V - 1 - o - (i : Int)) [] : T)) (fun j => zar _ _) (List.range n)
  rwa [List.length_range] at this
theorem zH5 {b : Bl} (fb : FineBl b) (hf : Fit b) {base k : Int} (hp : zbr 9000 b base = 0) {so : So} (hk : b.sorts[k.toNat]? = some so) {V : Nat} (hV : V = b.sorts.length + b.cons.length + so.idx.length + 1) : zac (resE b base k (V : Int) so) ≤ 1000000 := by
  obtain ⟨hrow, fl, hd0, _⟩ := zjt fb hp hk
  have hfs := hf.s
  have hfc := hf.c
  have hil := fl.1
  have hll := zvm b base (b.sorts.length + b.cons.length) V (lvs ((b.sorts.length + b.cons.length : Nat) : Int) so.idx.length V) so.idx 0
  have hm : ∀ y ∈ rsL b base (b.sorts.length + b.cons.length) V (lvs ((b.sorts.length + b.cons.length : Nat) : Int) so.idx.length V) 0 so.idx, zac y ≤ 10000 := by
    refine zC8 (q := fun y => zac y ≤ 10000) so.idx 0 fun j hj y hy => ?_
    rw [Nat.zero_add, rsA, zJc hj] at hy
    rcases List.mem_cons.1 hy with rfl | hy
    · rw [zar]; omega
    · split at hy
      · rename_i hrc
        rw [List.mem_singleton] at hy
        subst hy
        have fa := fl.2 _ (List.getElem_mem hj)
        have e : (so.idx[j].idx.map (fun t => zfs t ((lvs ((b.sorts.length + b.cons.length : Nat) : Int) so.idx.length V).take j) 0)).map zac = so.idx[j].idx.map zac := by
          rw [List.map_map]
          exact List.map_congr_left fun t ht => (zEo hrow fl hd0 (by omega) (by omega) (by omega) j hj hrc t ht).2.1
        have h1 := fa.idx
        have h2 := fa.idxL
        rw [zdz, List.map_append, List.map_append, List.sum_append, List.sum_append, e, zN0, List.length_append, List.length_append, zs8, List.length_map, show zac (tC _) = 1 from zar _ _, List.map_cons, List.map_nil, List.sum_cons, List.sum_nil, zar, List.length_singleton]
        omega
      · simp at hy
  have hs := zNd hm
  rw [resE, zdz, List.map_append, List.sum_append, List.length_append, zar, List.map_cons, List.map_nil, List.sum_cons, List.sum_nil, zar, List.length_singleton]
  have : (rsL b base (b.sorts.length + b.cons.length) V (lvs ((b.sorts.length + b.cons.length : Nat) : Int) so.idx.length V) 0 so.idx).length * 10000 ≤ 40 * 10000 := Nat.mul_le_mul_right _ (by omega)
  omega
theorem zKz {b : Bl} (fb : FineBl b) (hf : Fit b) {base k : Int} (hp : zbr 9000 b base = 0) (b1 : base ≤ 60000) {so : So} (k0 : 0 ≤ k) (hk : b.sorts[k.toNat]? = some so) (E : ElOk b base k so) : zj0 (elR b base k) 0 65536 = true := by
  obtain ⟨hrow, fl, hd0, _⟩ := zjt fb hp hk
  have hfs := hf.s
  have hfc := hf.c
  have hil := fl.1
  have hl := zr0 b base k so
  have hs := zNd E.nod
  have hm : (elL' b base k so).length * 20000 ≤ 60 * 20000 := Nat.mul_le_mul_right _ (by omega)
  have hr := zH5 fb hf hp hk rfl
  have hn : zac (elR b base k) ≤ 1099511627776 := by rw [E.r, zlf]; omega
  obtain ⟨e1, _⟩ := zEu fb hf hp b1 k0 hk
  refine zS1 ?_ (by omega) (by omega) hn E.c
  rw [E.r]
  refine zuv (fun i h => by rw [Int.zero_add]; exact e1 i h) ?_
  rw [hl, Int.zero_add]
  exact zD1 fb hf hp b1 k0 hk rfl
end
end
section
section
attribute [local simp] zae zaf tk tn tks zb6 zb9 zbb zbe zba zb8
set_option maxHeartbeats 8000000 in
theorem zEb (b : Bl) (ob : okBl b) (hb : bulk (eBl b) ≤ 1048576) (base k : Int) : Pure Tryz.prog zgs [eBl b, .int .i64 base, .int .i64 k] [.bool true] := by
  refine zlu rfl fun hs => ?_
  have hH := zGe b
  simp only [eBl, cBl] at hH
  simp -dsimp [zd6, eBl, cBl]
  refine zaa hH ?_
  simp -dsimp
  (first | refine zak ?_ ?_ | refine zaj ?_ ?_) <;> intro h1 <;> (try simp only [nrm] at h1) <;> simp -dsimp [h1]
  have hf := zNa h1
  have fb := zPw hb h1
  have hfs := hf.s
  have hfc := hf.c
  obtain ⟨B0, B1⟩ := zNs base 1000 (by omega) (by omega)
  generalize IntKind.i64.wrap ((IntKind.u64.wrap base).tmod 1000) = B at B0 B1 ⊢
  have hP := zIw 9000 (by omega) (by omega) b ob fb hf B
  simp only [eBl, cBl] at hP
  refine zaa hP ?_
  by_cases hp : zbr 9000 b B = 0
  case neg => simp -dsimp [hp]
  obtain ⟨hz, _, _, hpos⟩ := zcj hp
  obtain ⟨z1, z4, z8, zl, zs, zc⟩ := (za2 b).1 hz
  have q2 : IntKind.u64.wrap (b.sorts.length : Int) = (b.sorts.length : Int) := zRv (by omega) (by omega)
  have q3 : ¬((b.sorts.length : Int) = 0) := by omega
  have q4 : ¬ b.sorts = [] := fun h => by rw [h] at z1; simp at z1
  simp -dsimp [hp, q2, q3, q4, eSos]
  obtain ⟨K0, K1⟩ := zNs k (b.sorts.length : Int) (by omega) (by omega)
  generalize IntKind.i64.wrap ((IntKind.u64.wrap k).tmod (b.sorts.length : Int)) = K at K0 K1 ⊢
  have hlt : K.toNat < b.sorts.length := by omega
  have hget : b.sorts[K.toNat]? = some b.sorts[K.toNat] := List.getElem?_eq_getElem hlt
  have hT := zw3 b ob fb hf B K (by omega)
  simp only [eBl, cBl, eSos, cT] at hT
  refine zaa hT ?_
  have hE3 := zRs fb hf hp (by omega) K0 K1
  by_cases hE : elE b B K = 0
  case neg =>
    rcases hE3 with h | h | h
    · exact absurd h hE
    · simp -dsimp [h]
      refine zaa ztu ?_
      simp -dsimp
    · simp -dsimp [h]
      refine zaa ztu ?_
      simp -dsimp
  have E := el_ok fb hf hp (by omega) K0 hget hE
  have hSc := zKz fb hf hp (by omega) K0 hget E
  have hScc := zEl (elR b B K) 0 65536
  rw [hSc] at hScc
  obtain ⟨i1, i2⟩ := zEu fb hf hp (by omega) K0 hget
  have rI := zD1 fb hf hp (by omega) K0 hget (V := b.sorts.length + b.cons.length + b.sorts[K.toNat].idx.length + 1) rfl
  obtain ⟨hrow, fl, hd0, _⟩ := zjt fb hp hget
  have hil := fl.1
  have lL := zr0 b B K b.sorts[K.toNat]
  have oL : ∀ x ∈ elL' b B K b.sorts[K.toNat], okT x := fun x hx => by obtain ⟨i, hi, rfl⟩ := List.mem_iff_getElem.1 hx; exact zfg (i1 i hi).fm
  have hU := zyh (zMd b B K ((b.sorts.length + b.cons.length + b.sorts[K.toNat].idx.length + 1 : Nat) : Int) b.sorts[K.toNat]) (by omega) oL (zfg rI.fm)
  rw [← E.r] at hU
  have gMo : ∀ j, j < b.sorts.length → (elL' b B K b.sorts[K.toNat])[j]? = some (motR b B j) := fun j hj => by
    have hm := zwm (base := B) hp hj
    rw [elL', List.append_assoc, List.append_assoc, List.getElem?_append_left (by simpa using hj), List.getElem?_map, List.getElem?_range hj, Option.map_some, hm.2, zfi, if_pos (by rw [← hm.1]; exact E.mot j hj)]
  have gMe : ∀ j, j < b.cons.length → (elL' b B K b.sorts[K.toNat])[b.sorts.length + j]? = some (metR b B j) := fun j hj => by
    have hm := zvz (base := B) hp hj
    rw [elL', List.append_assoc, List.append_assoc, List.getElem?_append_right (by simp), List.getElem?_append_left (by simpa using hj), List.length_map, List.length_range, Nat.add_sub_cancel_left, List.getElem?_map, List.getElem?_range hj, Option.map_some, hm.2, zfi, if_pos (by rw [← hm.1]; exact E.met j hj)]
  have hfi := zhg hf B0 (by omega : B ≤ 65535) K
  rw [if_pos ⟨K0, K1⟩] at hfi
  have gSp : (elL' b B K b.sorts[K.toNat])[b.sorts.length + b.cons.length + b.sorts[K.toNat].idx.length]? = some (spT (tC (B + K)) (zco b.sorts[K.toNat].idx.length)) := by
    have lA : ((List.range b.sorts.length).map (motU b B) ++ (List.range b.cons.length).map (metU b B) ++ b.sorts[K.toNat].idx.map (zd2 b B)).length = b.sorts.length + b.cons.length + b.sorts[K.toNat].idx.length := by simp only [List.length_append, List.length_map, List.length_range]
    rw [elL', List.getElem?_append_right (by omega), hfi, lA, Nat.sub_self]
    rfl
  have hmE := E.mot
  have hcE := E.met
  rw [resE] at hU rI
  have lG := zFi b B (b.sorts.length + b.cons.length) ((b.sorts.length + b.cons.length + b.sorts[K.toNat].idx.length + 1 : Nat) : Int) (lvs ((b.sorts.length + b.cons.length : Nat) : Int) b.sorts[K.toNat].idx.length ((b.sorts.length + b.cons.length + b.sorts[K.toNat].idx.length + 1 : Nat) : Int)) b.sorts[K.toNat].idx 0
  have lG2 := zvm b B (b.sorts.length + b.cons.length) ((b.sorts.length + b.cons.length + b.sorts[K.toNat].idx.length + 1 : Nat) : Int) (lvs ((b.sorts.length + b.cons.length : Nat) : Int) b.sorts[K.toNat].idx.length ((b.sorts.length + b.cons.length + b.sorts[K.toNat].idx.length + 1 : Nat) : Int)) b.sorts[K.toNat].idx 0
  have oR := zfg rI.fm
  clear E hSc i1 i2 rI hrow hd0 oL hfi hpos hz zs zc z4 z8 zl hE3
  generalize hS : b.sorts[K.toNat] = S at *
  generalize rsL b B (b.sorts.length + b.cons.length) ((b.sorts.length + b.cons.length + S.idx.length + 1 : Nat) : Int) (lvs ((b.sorts.length + b.cons.length : Nat) : Int) S.idx.length ((b.sorts.length + b.cons.length + S.idx.length + 1 : Nat) : Int)) 0 S.idx = G at *
  have oV0 : okT (.mk 1 ((((b.sorts.length + b.cons.length + S.idx.length + 1 : Nat) : Int)) - 1 - K) []) := zdq (by omega) (by omega)
  have eV : (((b.sorts.length + b.cons.length + S.idx.length + 1 : Nat) : Int)) - 1 - K = (b.sorts.length : Int) + b.cons.length + S.idx.length - K := by omega
  have oG : ∀ x ∈ G ++ [.mk 1 0 []], okT x := fun x hx => by
    have h := zHr (G ++ [.mk 1 0 []]) (.mk 1 ((((b.sorts.length + b.cons.length + S.idx.length + 1 : Nat) : Int)) - 1 - K) [])
    have h2 := (zh3 _).2 oR
    rw [h.1] at h2
    exact h2.2 x (List.mem_append_left _ (List.mem_reverse.2 hx))
  have hUs := zxy (.mk 1 ((((b.sorts.length + b.cons.length + S.idx.length + 1 : Nat) : Int)) - 1 - K) []) (G ++ [.mk 1 0 []]) (by show (1 : Int) ≠ 6; decide) oV0 ⟨by rw [List.length_append, List.length_singleton]; omega, oG⟩ (by rw [List.length_append, List.length_singleton]; omega)
  have hUs2 := zxy (tC (B + K)) (zco S.idx.length) (by show (3 : Int) ≠ 6; decide) (zdq (by omega) (by omega)) (zso _ (by omega)) (by rw [zg0]; omega)
  have hVs := zL2 S.idx.length (by omega)
  have hKs := zA7 (zco S.idx.length)
  generalize spT (.mk 1 ((((b.sorts.length + b.cons.length + S.idx.length + 1 : Nat) : Int)) - 1 - K) []) (G ++ [.mk 1 0 []]) = R at *
  generalize spT (tC (B + K)) (zco S.idx.length) = S2 at *
  rw [eV] at hUs
  generalize elL' b B K S = L at *
  generalize elR b B K = X at *
  rw [hE]
  have lLi : (L.length : Int) = (b.sorts.length : Int) + b.cons.length + S.idx.length + 1 := by omega
  have w1 : IntKind.i64.wrap ((b.sorts.length : Int) + b.cons.length) = (b.sorts.length : Int) + b.cons.length := zad (by omega) (by omega)
  have w2 : IntKind.i64.wrap ((b.sorts.length : Int) + b.cons.length + S.idx.length) = (b.sorts.length : Int) + b.cons.length + S.idx.length := zad (by omega) (by omega)
  have w3 : IntKind.i64.wrap ((b.sorts.length : Int) + b.cons.length + S.idx.length + 1) = (b.sorts.length : Int) + b.cons.length + S.idx.length + 1 := zad (by omega) (by omega)
  clear oG oR oV0 eV
  simp only [cT, eTs] at hU hScc
  simp -dsimp [eTs]
  refine zaa hU ?_
  simp -dsimp [K0, hlt, hget, hS, eSo, cSo, cT, eArs, eTs, eCos]
  refine zaa hScc ?_
  simp -dsimp [lLi, w1, w2, w3]
  refine zam b.sorts.length (fun i st => (st.s 1 = .d (.int .i64 B) ∧ st.s 2 = .d (.int .i64 K)) ∧ (st.s 3 = .ptr 3 1 0 ∧ st.h 3 = ⟨1, .box [.d (eSos b.sorts), .d (eCos b.cons), .d (.int .i64 b.elim)] false⟩) ∧
    (st.s 9 = .d (eTs L) ∧ st.s 11 = .d (.int .i64 b.sorts.length) ∧ st.s 12 = .d (.int .i64 b.cons.length) ∧ st.s 13 = .d (.int .i64 S.idx.length)) ∧
    (st.s 10 = .ptr 10 1 0 ∧ st.h 10 = ⟨1, .box [.d (.int .i64 R.kind), .d (.int .i64 R.num), .d (.sl 3 (R.kids.map eT))] false⟩) ∧ st.s 14 = .d (.int .i64 i)) ?_ ?_
  · simp -dsimp [eSos, eCos, eTs]
  rintro i ⟨s, hp'⟩ hi ⟨⟨g1, g2⟩, ⟨g3, k3⟩, ⟨g9, g11, g12, g13⟩, ⟨g10, k10⟩, g14⟩
  dsimp only at g1 g2 g3 k3 g9 g11 g12 g13 g10 k10 g14
  simp only [eTs, eSos, eCos] at g9 k3
  rcases Nat.lt_or_ge i b.sorts.length with hlt2 | hge
  · have v1 : IntKind.i64.wrap ((i : Int) + 1) = (i : Int) + 1 := zad (by omega) (by omega)
    have hM := zCc b ob fb hf B i (by omega)
    rw [hmE i hlt2] at hM
    obtain ⟨q, gi⟩ := List.getElem?_eq_some_iff.1 (gMo i hlt2)
    have hk := zma (motR b B i)
    generalize motR b B i = M at *
    simp only [eBl, cBl, eSos, eCos, cT] at hM hk
    simp -dsimp [g1, g2, g3, k3, g9, g11, g12, g13, g10, k10, g14, hlt2]
    refine zaa hM ?_
    simp -dsimp [g1, g2, g3, k3, g9, g11, g12, g13, g10, k10, g14, hlt2, q, gi, cT, zcc]
    refine zaa hk ?_
    simp -dsimp [g1, g2, g3, k3, g9, g11, g12, g13, g10, k10, g14, hlt2, v1, eTs, eSos, eCos]
  have e : i = b.sorts.length := by omega
  subst e
  simp -dsimp [g1, g2, g3, k3, g9, g11, g12, g13, g10, k10, g14]
  refine zam b.cons.length (fun i st => (st.s 1 = .d (.int .i64 B) ∧ st.s 2 = .d (.int .i64 K)) ∧ (st.s 3 = .ptr 3 1 0 ∧ st.h 3 = ⟨1, .box [.d (eSos b.sorts), .d (eCos b.cons), .d (.int .i64 b.elim)] false⟩) ∧
    (st.s 9 = .d (eTs L) ∧ st.s 11 = .d (.int .i64 b.sorts.length) ∧ st.s 12 = .d (.int .i64 b.cons.length) ∧ st.s 13 = .d (.int .i64 S.idx.length)) ∧
    (st.s 10 = .ptr 10 1 0 ∧ st.h 10 = ⟨1, .box [.d (.int .i64 R.kind), .d (.int .i64 R.num), .d (.sl 3 (R.kids.map eT))] false⟩) ∧ st.s 17 = .d (.int .i64 i)) ?_ ?_
  · simp -dsimp [g1, g2, g3, k3, g9, g11, g12, g13, g10, k10, g14, eSos, eCos, eTs]
  clear g1 g2 g3 k3 g9 g11 g12 g13 g10 k10 g14 hi hge
  rintro i ⟨s, hp'⟩ hi ⟨⟨g1, g2⟩, ⟨g3, k3⟩, ⟨g9, g11, g12, g13⟩, ⟨g10, k10⟩, g17⟩
  dsimp only at g1 g2 g3 k3 g9 g11 g12 g13 g10 k10 g17
  simp only [eTs, eSos, eCos] at g9 k3
  rcases Nat.lt_or_ge i b.cons.length with hlt2 | hge
  · have v1 : IntKind.i64.wrap ((i : Int) + 1) = (i : Int) + 1 := zad (by omega) (by omega)
    have hM := zBa b ob fb hf B i (by omega)
    rw [hcE i hlt2] at hM
    have hg := gMe i hlt2
    obtain ⟨z, hzz⟩ : ∃ z : Nat, z = b.sorts.length + i := ⟨_, rfl⟩
    have v2 : IntKind.i64.wrap ((b.sorts.length : Int) + (i : Int)) = (z : Int) := by rw [zad (by omega) (by omega)]; omega
    rw [← hzz] at hg
    obtain ⟨q, gi⟩ := List.getElem?_eq_some_iff.1 hg
    have hk := zma (metR b B i)
    generalize metR b B i = M at *
    simp only [eBl, cBl, eSos, eCos, cT] at hM hk
    simp -dsimp [g1, g2, g3, k3, g9, g11, g12, g13, g10, k10, g17, hlt2]
    refine zaa hM ?_
    simp -dsimp [g1, g2, g3, k3, g9, g11, g12, g13, g10, k10, g17, hlt2, v2, q, gi, cT, zcc]
    refine zaa hk ?_
    simp -dsimp [g1, g2, g3, k3, g9, g11, g12, g13, g10, k10, g17, hlt2, v1, eTs, eSos, eCos]
  have e : i = b.cons.length := by omega
  subst e
  obtain ⟨z, hzz⟩ : ∃ z : Nat, z = b.sorts.length + b.cons.length + S.idx.length := ⟨_, rfl⟩
  have hg := gSp
  rw [← hzz] at hg
  obtain ⟨q, gi⟩ := List.getElem?_eq_some_iff.1 hg
  have w2' : IntKind.i64.wrap ((b.sorts.length : Int) + b.cons.length + S.idx.length) = (z : Int) := by rw [w2]; omega
  have w4 : IntKind.i64.wrap ((z : Int) - K) = (b.sorts.length : Int) + b.cons.length + S.idx.length - K := by rw [zad (by omega) (by omega)]; omega
  have w5 : IntKind.i64.wrap ((S.idx.length : Int) + 1) = (S.idx.length : Int) + 1 := zad (by omega) (by omega)
  have w6 : IntKind.i64.wrap (G.length : Int) = (G.length : Int) := zad (by omega) (by omega)
  have c3 : (G.length : Int) < G.length + 1 := by omega
  have w7 : IntKind.i64.wrap (B + K) = B + K := zad (by omega) (by omega)
  have c1 : (S.idx.length : Int) + 1 ≤ (G.length : Int) + 1 := by omega
  have c2 : (S.idx.length : Int) ≤ (G.length : Int) := by omega
  have hla : (G.map eT ++ [.agg [.int .i64 1, .int .i64 0, .sl 3 []]])[G.length]? = some (.agg [.int .i64 1, .int .i64 0, .sl 3 []]) := by rw [List.getElem?_append_right (by simp), List.length_map, Nat.sub_self]; rfl
  simp only [cT, eTs, tC, tk, tn, tks, List.map_nil, List.map_append, List.map_cons, zcc] at hUs hUs2 hVs hKs
  simp -dsimp [g1, g2, g3, k3, g9, g11, g12, g13, g10, k10, g17]
  refine zch hUs (by simp [zax, zbt, RV.cells]) ?_
  simp -dsimp [g1, g2, g3, k3, g9, g11, g12, g13, g10, k10, g17, w1, w2', q, gi, zcc, cT]
  refine zch hUs2 (by simp [zax, zbt, RV.cells]) ?_
  simp -dsimp [g1, g2, g3, k3, g9, g11, g12, g13, g10, k10, g17, w1, w2', w4, w5, w6, w7, c1, c2, c3, hla, lG]
  refine zaa hVs ?_
  simp -dsimp [g1, g2, g3, k3, g9, g11, g12, g13, g10, k10, g17]
  refine zaa hKs ?_
  simp -dsimp
  refine zaa ztu ?_
  simp -dsimp
end
end
end Ev
end Go.Proofs.YtdhfkbdhdgaccaaGreat
