/- The document's posit: blocks. -/
import Derived.Test.YtjebpfhffenbnaaGreatW4
namespace Go.Proofs.YtjebpfhffenbnaaGreat
namespace Ev
open Go
set_option maxRecDepth 100000
set_option linter.unusedSimpArgs false
set_option linter.unusedVariables false
section
attribute [local simp] allD_map_d sks_map_d tk tn tks initA EndsM one_sos one_cos one_ars one_ts
theorem rok_of {b : Bl} (hf : Fit b) (fb : FineBl b) {l : List Ar} (ol : okArs l) (fl : FineArs l) (hr : rowM b l = true) {n : Nat} (hn : 9000 ≤ n) : Rok b n l := by
  obtain ⟨hl, hA⟩ := rowM_at hr
  refine ⟨fl.1, hf, fun s hs => (fb.sorts s hs).idx.1, fun c hc => (fb.cons c hc).args.1, fun a ha hrc => ?_, fun a ha hrc => ?_⟩
  · obtain ⟨i, hi, rfl⟩ := List.mem_iff_getElem.1 ha
    have h1 := (fl.2 _ ha).ty
    exact ⟨(ol.2 _ ha).ty, (in_facts (argM_plain (hA i hi) hrc) (by omega) (by omega) (by omega)).2.1, by omega⟩
  · obtain ⟨i, hi, rfl⟩ := List.mem_iff_getElem.1 ha
    have fa := fl.2 _ ha
    have oa := ol.2 _ ha
    obtain ⟨_, s0, s1, d1, ⟨so, hso, hil⟩, hd, hx⟩ := argM_rec (hA i hi) hrc (by omega) (by omega)
    refine ⟨fa.domL, fun x hxm => ?_, fun x hxm => ?_, s0, so, hso, hil⟩
    · obtain ⟨j, hj, rfl⟩ := List.mem_iff_getElem.1 hxm
      have hnx : nodes l[i].dom[j] ≤ 9000 := Nat.le_trans (sum_mem (List.mem_map.2 ⟨_, hxm, rfl⟩)) fa.dom
      exact ⟨oa.dom.2 _ hxm, (in_facts (hd j hj) (by omega) (by omega) (by omega)).2.1, by omega⟩
    · have hnx : nodes x ≤ 9000 := Nat.le_trans (sum_mem (List.mem_map.2 ⟨_, hxm, rfl⟩)) fa.idx
      exact ⟨oa.idx.2 _ hxm, (in_facts (hx x hxm) (by omega) (by omega) (by omega)).2.1, by omega⟩
theorem con_facts {b : Bl} {c : Co} {so : So} (h : conM b c = true) (hso : b.sorts[c.sort.toNat]? = some so) : (∀ x ∈ c.idx, inM x c.args.length = true) ∧ maybeM so.dec c.dec c.args.length = true := by
  rw [conM] at h
  split at h
  · cases h
  split at h
  case isFalse => cases h
  rw [hso] at h
  simp only at h
  split at h
  case isFalse => cases h
  split at h
  case isFalse => cases h
  rename_i hA
  refine ⟨fun x hx => ?_, h⟩
  rw [allM, Bool.not_eq_true', List.any_eq_false] at hA
  have := hA x hx
  simpa using this
set_option maxHeartbeats 4000000 in
theorem posit7_ok (n : Nat) (hn : 9000 ≤ n) (hN : n ≤ 1000000) (b : Bl) (ob : okBl b) (fb : FineBl b) (hf : Fit b) (base : Int) : Pure Tryz.prog n_porismref07_Posit [eBl b, .int .i64 base] [.int .i64 (positE n b base)] := by
  have hSh := shape7_ok b
  have hIn := in7_ok base 0 65535
  have hbs := fb.s
  have hbc := fb.c
  generalize hE : positE n b base = E
  simp only [eBl, cBl] at hSh
  by_cases hz : checkB b = 0
  case neg =>
    have hs' : shapeR b = false := by rw [shapeR, decide_eq_false_iff_not]; exact hz
    have hE' : E = 12 := by
      rw [← hE, positE, if_neg hz]
      rw [checkB_two, hs']; rfl
    rw [hE']
    refine p_porismref07_Posit rfl fun hs => ?_
    simp -dsimp [x_porismref07_Posit, eBl, cBl]
    refine call_of hSh ?_
    simp -dsimp [hs']
  have hs' : shapeR b = true := by rw [shapeR, decide_eq_true_eq]; exact hz
  rw [positE, if_pos hz] at hE
  obtain ⟨z1, z4, z8, zl, zs, zc⟩ := (checkB_zero b).1 hz
  by_cases hb : inB base 0 65535 = true
  case neg =>
    have hb' : inB base 0 65535 = false := by simpa using hb
    have := (inB_not _ _ _).1 hb'
    rw [if_pos (by omega)] at hE
    rw [← hE]
    refine p_porismref07_Posit rfl fun hs => ?_
    simp -dsimp [x_porismref07_Posit, eBl, cBl]
    refine call_of hSh ?_
    simp -dsimp [hs']
    refine call_of hIn ?_
    simp -dsimp [hb']
  obtain ⟨b0, b1⟩ := (inB_iff _ _ _).1 hb
  rw [if_neg (by omega)] at hE
  have hbad : posF n b base = false → E = 11 := fun h => by rw [← hE, h]; rfl
  have hgood : posF n b base = true → E = 0 := fun h => by rw [← hE, h]; rfl
  have hbs1 : ∀ (i : Nat) (hi : i < b.sorts.length), sortF n b base b.sorts[i] = false → E = 11 := fun i hi h => hbad (by
    rw [posF, Bool.and_eq_false_iff]
    refine .inl (Bool.eq_false_iff.2 fun h2 => ?_)
    have := (allI_iff _ _ _).1 h2 i hi
    rw [h] at this
    cases this)
  have hbc1 : ∀ (i : Nat) (hi : i < b.cons.length), conF n b base i b.cons[i] = false → E = 11 := fun i hi h => hbad (by
    rw [posF, Bool.and_eq_false_iff]
    refine .inr (Bool.eq_false_iff.2 fun h2 => ?_)
    have := (allI_iff _ _ _).1 h2 i hi
    rw [Nat.zero_add, h] at this
    cases this)
  have hrp : ∀ (l : List Ar), rp ⟨b, base, l, 0⟩ = [eSos b.sorts, eCos b.cons, .int .i64 b.elim, .int .i64 base, .sl 1 ((vrs ⟨b, base, l, 0⟩).map (.int .i64)), .sl 7 (l.map eAr)] := fun l => by
    simp only [rp, cBl, eArs, List.cons_append, List.nil_append]
  have hpk : ∀ (l : List Ar), l.length ≤ 20 → Pok ⟨b, base, l, 0⟩ := fun l h => ⟨by simp, by simp only; omega, hf, fun s hs => (fb.sorts s hs).idx.1, fun c hc => (fb.cons c hc).args.1⟩
  refine p_porismref07_Posit rfl fun hs => ?_
  simp -dsimp [x_porismref07_Posit, eBl, cBl]
  refine call_of hSh ?_
  simp -dsimp [hs']
  refine call_of hIn ?_
  simp -dsimp [hb]
  refine wp_upto b.sorts.length (fun i st => st.s 1 = .d (.int .i64 base) ∧ (st.s 2 = .ptr 2 1 0 ∧ st.h 2 = ⟨1, .box [.d (eSos b.sorts), .d (eCos b.cons), .d (.int .i64 b.elim)] false⟩) ∧ st.s 5 = .d (.int .i64 i) ∧ ∀ (j : Nat) (hj : j < b.sorts.length), j < i → sortF n b base b.sorts[j] = true) ?_ ?_
  · simp -dsimp
  · rintro i ⟨s, hp⟩ hi ⟨g1, ⟨g2, k2⟩, g5, g⟩
    dsimp only at g1 g2 k2 g5
    simp only [eSos] at k2
    rcases Nat.lt_or_ge i b.sorts.length with hlt | hge
    · have w1 : IntKind.i64.wrap ((i : Int) + 1) = (i : Int) + 1 := wrap_id (by omega) (by omega)
      have hcv := hbs1 i hlt
      have hmem := List.getElem_mem hlt
      have os := ob.sorts _ hmem
      have fs := fb.sorts _ hmem
      have hsm := zs i hlt
      have hrow := sort_row hsm
      obtain ⟨_, _, hmb, _⟩ := (sortM_true _ _ _).1 hsm
      have hfi : sortF n b base b.sorts[i] = true → ∀ (j : Nat) (hj : j < b.sorts.length), j < i + 1 → sortF n b base b.sorts[j] = true := fun h j hj hji => by
        rcases Nat.lt_or_ge j i with h' | h'
        · exact g j hj h'
        · have : j = i := by omega
          subst this
          exact h
      generalize hS : b.sorts[i] = S at *
      have hR := tele7_ok n hN b base S.idx 0 (rok_of hf fb os.idx fs.idx hrow hn)
      have hAt := at7_ok b base S.idx (by have := fs.idx.1; omega)
      rw [hrp] at hAt
      simp only [eBl, cBl, eSos, eArs] at hR hAt
      simp -dsimp [g1, g2, k2, g5, hlt, hS, eSo, cSo, cT, eArs]
      refine call_of hR ?_
      cases hr : rowF n b base S.idx 0 with
      | false =>
        have hw := hcv (by rw [sortF, hr]; rfl)
        simp -dsimp [g1, g2, k2, g5, hlt, hS, hw]
      | true =>
        cases hd : S.dec with
        | false =>
          have hnx := hfi (by rw [sortF, hr, hd]; rfl)
          simp -dsimp [g1, g2, k2, g5, hlt, hS, eSo, cSo, cT, hd, w1, eSos]
          exact hnx
        | true =>
          rw [hd] at hmb
          have hin : inM S.dty S.idx.length = true := by rw [maybeM, if_pos rfl] at hmb; exact hmb
          have hsil := fs.idx.1
          have hdn := fs.dty
          have hD := clean7_ok n hN ⟨b, base, S.idx, 0⟩ S.dty (hpk _ fs.idx.1) (by simp; omega) os.dty (in_facts hin (by omega) (by omega) (by omega)).2.1 (by omega)
          rw [hrp] at hD
          simp only [cT, eSos] at hD
          simp -dsimp [g1, g2, k2, g5, hlt, hS, eSo, cSo, cT, hd]
          refine call_of hAt ?_
          simp -dsimp [g1, g2, k2, g5, hlt, hS, eSo, cSo, cT, hd]
          refine call_of hD ?_
          cases hc : cleanF n ⟨b, base, S.idx, 0⟩ S.dty with
          | false =>
            have hw := hcv (by rw [sortF, hr, hd, hc]; rfl)
            simp -dsimp [g1, g2, k2, g5, hlt, hS, hw]
          | true =>
            have hnx := hfi (by rw [sortF, hr, hd, hc]; rfl)
            simp -dsimp [g1, g2, k2, g5, hlt, hS, w1, eSos]
            exact hnx
    · have e : i = b.sorts.length := by omega
      subst e
      have hzs : allI (fun _ s => sortF n b base s) 0 b.sorts = true := (allI_iff _ _ _).2 fun j hj => g j hj hj
      clear g hge hi
      simp -dsimp [g1, g2, k2, g5]
      clear g5
      refine wp_upto b.cons.length (fun i st => st.s 1 = .d (.int .i64 base) ∧ (st.s 2 = .ptr 2 1 0 ∧ st.h 2 = ⟨1, .box [.d (eSos b.sorts), .d (eCos b.cons), .d (.int .i64 b.elim)] false⟩) ∧ st.s 7 = .d (.int .i64 i) ∧ ∀ (j : Nat) (hj : j < b.cons.length), j < i → conF n b base j b.cons[j] = true) ?_ ?_
      · simp -dsimp [g1, g2, k2, eSos]
      · clear g1 g2 k2
        rintro i ⟨s, hp⟩ hi ⟨g1, ⟨g2, k2⟩, g7, g⟩
        dsimp only at g1 g2 k2 g7
        simp only [eSos, eCos] at k2
        rcases Nat.lt_or_ge i b.cons.length with hlt | hge
        · have w1 : IntKind.i64.wrap ((i : Int) + 1) = (i : Int) + 1 := wrap_id (by omega) (by omega)
          have hcv := hbc1 i hlt
          have hmem := List.getElem_mem hlt
          have os := ob.cons _ hmem
          have fs := fb.cons _ hmem
          have hcm := zc _ hmem
          obtain ⟨hrow, c0, so, hso, hil⟩ := con_parts hcm
          obtain ⟨hix, hmb⟩ := con_facts hcm hso
          have hsolt := (List.getElem?_eq_some_iff.1 hso).1
          have hso' := (List.getElem?_eq_some_iff.1 hso).2
          have hfi : conF n b base i b.cons[i] = true → ∀ (j : Nat) (hj : j < b.cons.length), j < i + 1 → conF n b base j b.cons[j] = true := fun h j hj hji => by
            rcases Nat.lt_or_ge j i with h' | h'
            · exact g j hj h'
            · have : j = i := by omega
              subst this
              exact h
          generalize hS : b.cons[i] = S at *
          have hal := fs.args.1
          have hR := tele7_ok n hN b base S.args (i : Int) (rok_of hf fb os.args fs.args hrow hn)
          have hAt := at7_ok b base S.args (by omega)
          have hI := indices7_ok n hN ⟨b, base, S.args, 0⟩ (hpk _ hal) (by simp) S.sort so c0 hso S.idx (i : Int) hil (fun x hx => by
            have hnx : nodes x ≤ 9000 := Nat.le_trans (sum_mem (List.mem_map.2 ⟨_, hx, rfl⟩)) fs.idx
            exact ⟨os.idx.2 x hx, (in_facts (hix x hx) (by omega) (by omega) (by omega)).2.1, by omega⟩)
          have hF : conF n b base i S = (rowF n b base S.args i && (indF n ⟨b, base, S.args, 0⟩ so S.idx i && (!so.dec || cleanF n ⟨b, base, S.args, 0⟩ S.dec))) := by rw [conF, hso]
          rw [hrp] at hAt hI
          simp only [eBl, cBl, eSos, eCos, eArs, eTs] at hR hAt hI
          simp -dsimp [g1, g2, k2, g7, hlt, hS, eCo, cCo, cT, eArs, eTs]
          refine call_of hAt ?_
          simp -dsimp [g1, g2, k2, g7, hlt, hS, eCo, cCo, cT, eArs, eTs]
          refine call_of hR ?_
          cases hr : rowF n b base S.args i with
          | false =>
            have hw := hcv (by rw [hF, hr]; rfl)
            simp -dsimp [g1, g2, k2, g7, hlt, hS, hw]
          | true =>
            simp -dsimp [g1, g2, k2, g7, hlt, hS, eCo, cCo, cT, eArs, eTs]
            refine call_of hI ?_
            cases hii : indF n ⟨b, base, S.args, 0⟩ so S.idx i with
            | false =>
              have hw := hcv (by rw [hF, hr, hii]; rfl)
              simp -dsimp [g1, g2, k2, g7, hlt, hS, hw]
            | true =>
              cases hd : so.dec with
              | false =>
                have hnx := hfi (by rw [hF, hr, hii, hd]; rfl)
                simp -dsimp [g1, g2, k2, g7, hlt, hS, eCo, cCo, cT, eArs, eTs, c0, hso, hsolt, hso', eSo, cSo, hd, w1, eSos, eCos]
                try exact hnx
              | true =>
                rw [hd] at hmb
                have hin : inM S.dec S.args.length = true := by rw [maybeM, if_pos rfl] at hmb; exact hmb
                have hdn := fs.dec
                have hD := clean7_ok n hN ⟨b, base, S.args, 0⟩ S.dec (hpk _ hal) (by simp; omega) os.dec (in_facts hin (by omega) (by omega) (by omega)).2.1 (by omega)
                rw [hrp] at hD
                simp only [cT, eSos, eCos] at hD
                simp -dsimp [g1, g2, k2, g7, hlt, hS, eCo, cCo, cT, eArs, eTs, c0, hso, hsolt, hso', eSo, cSo, hd]
                refine call_of hD ?_
                cases hc : cleanF n ⟨b, base, S.args, 0⟩ S.dec with
                | false =>
                  have hw := hcv (by rw [hF, hr, hii, hd, hc]; rfl)
                  simp -dsimp [g1, g2, k2, g7, hlt, hS, hw]
                | true =>
                  have hnx := hfi (by rw [hF, hr, hii, hd, hc]; rfl)
                  simp -dsimp [g1, g2, k2, g7, hlt, hS, w1, eSos, eCos]
                  try exact hnx
        · have e : i = b.cons.length := by omega
          subst e
          have hzc : allI (fun c x => conF n b base c x) 0 b.cons = true := (allI_iff _ _ _).2 fun j hj => by rw [Nat.zero_add]; exact g j hj hj
          have hw := hgood (by rw [posF, hzs, hzc]; rfl)
          simp -dsimp [g1, g2, k2, g7, hw]
end
end Ev
end Go.Proofs.YtjebpfhffenbnaaGreat
