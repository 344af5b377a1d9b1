/- posit: blocks. -/
import Derived.Test.YtjebpfhffenbnaaGreatO3
namespace Go.Proofs.YtjebpfhffenbnaaGreat
namespace Ev
open Go
set_option maxRecDepth 100000
set_option linter.unusedSimpArgs false
set_option linter.unusedVariables false
section
attribute [local simp] allD_map_d sks_map_d tk tn tks initA EndsM one_sos one_cos one_ars one_ts
def sortF (n : Nat) (b : Bl) (base : Int) (so : So) : Bool := rowF n b base so.idx 0 && (!so.dec || cleanF n ⟨b, base, so.idx, 0⟩ so.dty)
def conF (n : Nat) (b : Bl) (base : Int) (c : Nat) (co : Co) : Bool := rowF n b base co.args c && match b.sorts[co.sort.toNat]? with
  | some so => indF n ⟨b, base, co.args, 0⟩ so co.idx c && (!so.dec || cleanF n ⟨b, base, co.args, 0⟩ co.dec)
  | none => false
/-- Is the block positive? -/
def posF (n : Nat) (b : Bl) (base : Int) : Bool := allI (fun _ s => sortF n b base s) 0 b.sorts && allI (fun c x => conF n b base c x) 0 b.cons
def positE (n : Nat) (b : Bl) (base : Int) : Int := if checkB b = 0 then if base < 0 ∨ 65535 < base then 1 else if posF n b base then 0 else 11 else checkB b
/-- What row, indices and clean ask of a right block. -/
structure Ready (n : Nat) (b : Bl) : Prop where
  s : ∀ s ∈ b.sorts, s.idx.length ≤ 1000000
  c : ∀ c ∈ b.cons, c.args.length ≤ 1000000
theorem args_ready {n : Nat} (hn : 9000 ≤ n) {b : Bl} {l : List Ar} (ol : okArs l) (fl : FineArs l) (hr : rowM b l = true) :
    (∀ a ∈ l, a.rc = false → okT a.ty ∧ nodes a.ty ≤ n) ∧ (∀ a ∈ l, a.rc = true → a.dom.length ≤ 60 ∧ (∀ x ∈ a.dom, okT x ∧ nodes x ≤ n) ∧ (∀ x ∈ a.idx, okT x ∧ nodes x ≤ n) ∧ 0 ≤ a.sort ∧ ∃ so, b.sorts[a.sort.toNat]? = some so ∧ a.idx.length = so.idx.length) := by
  refine ⟨fun a ha _ => ⟨(ol.2 a ha).ty, by have := (fl.2 a ha).ty; omega⟩, fun a ha hrc => ?_⟩
  have oa := ol.2 a ha
  have fa := fl.2 a ha
  refine ⟨fa.domL, fun x hx => ⟨oa.dom.2 x hx, ?_⟩, fun x hx => ⟨oa.idx.2 x hx, ?_⟩, ?_⟩
  · have := Nat.le_trans (sum_mem (List.mem_map.2 ⟨x, hx, rfl⟩)) fa.dom; omega
  · have := Nat.le_trans (sum_mem (List.mem_map.2 ⟨x, hx, rfl⟩)) fa.idx; omega
  · rw [rowM] at hr
    split at hr
    · cases hr
    obtain ⟨i, hi, rfl⟩ := List.mem_iff_getElem.1 ha
    have hA := (allI_iff _ _ _).1 hr i hi
    rw [Nat.zero_add, argM, if_pos hrc] at hA
    split at hA
    case isFalse => cases hA
    split at hA
    · cases hA
    split at hA
    · cases hA
    split at hA
    · cases hA
    rename_i so hso
    split at hA
    case isFalse => cases hA
    rename_i hlen
    exact ⟨by omega, so, hso, by omega⟩
theorem con_parts {b : Bl} {c : Co} (h : conM b c = true) : rowM b c.args = true ∧ 0 ≤ c.sort ∧ ∃ so, b.sorts[c.sort.toNat]? = some so ∧ c.idx.length = so.idx.length := by
  rw [conM] at h
  split at h
  · cases h
  split at h
  case isFalse => cases h
  rename_i h1
  split at h
  · cases h
  rename_i so hso
  split at h
  case isFalse => cases h
  exact ⟨h1, by omega, so, hso, by omega⟩
theorem sort_row {b : Bl} {k : Nat} {s : So} (h : sortM b k s = true) : rowM b s.idx = true := by
  rw [sortM] at h
  split at h
  · assumption
  · cases h
theorem posit_ok (n : Nat) (hn : 9000 ≤ n) (hN : n ≤ 1000000) (b : Bl) (ob : okBl b) (fb : FineBl b) (base : Int) : Pure Tryz.prog n_posit_Check [eBl b, .int .i64 base] [.int .i64 (positE n b base)] := by
  refine p_posit_Check rfl fun hs => ?_
  have hC := checkB_ok b
  have hbs := fb.s
  have hbc := fb.c
  have hsl : ∀ s ∈ b.sorts, s.idx.length ≤ 1000000 := fun s hs => by have := (fb.sorts s hs).idx.1; omega
  have hcl : ∀ c ∈ b.cons, c.args.length ≤ 1000000 := fun c hc => by have := (fb.cons c hc).args.1; omega
  simp only [eBl, cBl] at hC
  generalize hE : positE n b base = E
  simp -dsimp [x_posit_Check, eBl, cBl]
  refine call_of hC ?_
  by_cases hz : checkB b = 0
  case neg =>
    rw [positE, if_neg hz] at hE
    simp -dsimp [hz, ← hE]
  rw [positE, if_pos hz] at hE
  obtain ⟨z1, z4, z8, zl, zs, zc⟩ := (checkB_zero b).1 hz
  simp -dsimp [hz]
  by_cases b1 : base < 0
  · rw [if_pos (.inl b1)] at hE
    simp -dsimp [b1, ← hE]
  by_cases b2 : 65535 < base
  · rw [if_pos (.inr b2)] at hE
    simp -dsimp [b1, b2, ← hE]
  rw [if_neg (by omega)] at hE
  simp -dsimp [b1, b2, eSos]
  have hbad : posF n b base = false → E = 11 := fun h => by rw [← hE, h]; rfl
  have hgood : posF n b base = true → E = 0 := fun h => by rw [← hE, h]; rfl
  have hbs1 : ∀ (i : Nat) (hi : i < b.sorts.length), sortF n b base b.sorts[i] = false → E = 11 := fun i hi h => hbad (by
    rw [posF, Bool.and_eq_false_iff]
    refine .inl (Bool.eq_false_iff.2 fun h2 => ?_)
    have := (allI_iff _ _ _).1 h2 i hi
    rw [h] at this
    cases this)
  have hbc1 : ∀ (i : Nat) (hi : i < b.cons.length), conF n b base i b.cons[i] = false → E = 11 := fun i hi h => hbad (by
    rw [posF, Bool.and_eq_false_iff]
    refine .inr (Bool.eq_false_iff.2 fun h2 => ?_)
    have := (allI_iff _ _ _).1 h2 i hi
    rw [Nat.zero_add, h] at this
    cases this)
  refine wp_upto b.sorts.length (fun i st => st.s 1 = .d (.int .i64 base) ∧ st.s 2 = .ptr 2 1 0 ∧ st.s 26 = .d (eSos b.sorts) ∧ st.s 27 = .d (.int .i64 b.sorts.length) ∧ st.s 28 = .d (.int .i64 i) ∧
    st.h 2 = ⟨1, .box [.d (eSos b.sorts), .d (eCos b.cons), .d (.int .i64 b.elim)] false⟩ ∧ ∀ (j : Nat) (hj : j < b.sorts.length), j < i → sortF n b base b.sorts[j] = true) ?_ ?_
  · simp -dsimp [eSos]
  · rintro i ⟨s, hp⟩ hi ⟨g1, g2, g26, g27, g28, k2, g⟩
    dsimp only at g1 g2 g26 g27 g28 k2
    simp only [eSos] at g26
    rcases Nat.lt_or_ge i b.sorts.length with hlt | hge
    · have w1 : IntKind.i64.wrap ((i : Int) + 1) = (i : Int) + 1 := wrap_id (by omega) (by omega)
      have hcv := hbs1 i hlt
      have hmem := List.getElem_mem hlt
      have os := ob.sorts _ hmem
      have fs := fb.sorts _ hmem
      obtain ⟨q1, q2⟩ := args_ready (b := b) hn os.idx fs.idx (sort_row (zs i hlt))
      have hfi : sortF n b base b.sorts[i] = true → ∀ (j : Nat) (hj : j < b.sorts.length), j < i + 1 → sortF n b base b.sorts[j] = true := fun h j hj hji => by
        rcases Nat.lt_or_ge j i with h' | h'
        · exact g j hj h'
        · have : j = i := by omega
          subst this
          exact h
      generalize hS : b.sorts[i] = S at *
      have hR := row_ok8 n hN b base S.idx 0 (by have := fs.idx.1; omega) hsl hcl q1 q2
      have hD := clean_ok n hN ⟨b, base, S.idx, 0⟩ S.dty (by simp) (by have := fs.dty; simp; omega) (by have := fs.idx.1; simp; omega) hsl os.dty (by have := fs.dty; omega)
      simp only [cPl, cBl, eBl, cT, eArs, List.cons_append, List.nil_append] at hR hD
      simp -dsimp [g1, g2, g26, g27, g28, k2, hlt, hS, eSo, cSo, cT, eArs]
      refine call_of hR ?_
      cases hr : rowF n b base S.idx 0 with
      | false =>
        have hw := hcv (by rw [sortF, hr]; rfl)
        simp -dsimp [g1, g2, g26, g27, g28, k2, hlt, hS, eSo, cSo, cT, eArs, hw]
      | true =>
        cases hd : S.dec with
        | false =>
          have hnx := hfi (by rw [sortF, hr, hd]; rfl)
          simp -dsimp [g1, g2, g26, g27, g28, k2, hlt, hS, eSo, cSo, cT, eArs, hd, w1, eSos]
          exact hnx
        | true =>
          simp -dsimp [g1, g2, g26, g27, g28, k2, hlt, hS, eSo, cSo, cT, eArs, hd]
          refine call_of hD ?_
          cases hc : cleanF n ⟨b, base, S.idx, 0⟩ S.dty with
          | false =>
            have hw := hcv (by rw [sortF, hr, hd, hc]; rfl)
            simp -dsimp [g1, g2, g26, g27, g28, k2, hlt, hS, eSo, cSo, cT, eArs, hd, hw]
          | true =>
            have hnx := hfi (by rw [sortF, hr, hd, hc]; rfl)
            simp -dsimp [g1, g2, g26, g27, g28, k2, hlt, hS, eSo, cSo, cT, eArs, hd, w1, eSos]
            exact hnx
    · have e : i = b.sorts.length := by omega
      subst e
      have hzs : allI (fun _ s => sortF n b base s) 0 b.sorts = true := (allI_iff _ _ _).2 fun j hj => g j hj hj
      simp -dsimp [g1, g2, g26, g27, g28, k2, eCos]
      refine wp_upto b.cons.length (fun i st => st.s 1 = .d (.int .i64 base) ∧ st.s 2 = .ptr 2 1 0 ∧ st.s 56 = .d (eCos b.cons) ∧ st.s 57 = .d (.int .i64 b.cons.length) ∧ st.s 58 = .d (.int .i64 i) ∧
        st.h 2 = ⟨1, .box [.d (eSos b.sorts), .d (eCos b.cons), .d (.int .i64 b.elim)] false⟩ ∧ ∀ (j : Nat) (hj : j < b.cons.length), j < i → conF n b base j b.cons[j] = true) ?_ ?_
      · simp -dsimp [eSos, eCos, g1, g2, k2]
      · clear g1 g2 g26 g27 g28 k2
        rintro i ⟨s, hp⟩ hi ⟨g1, g2, g56, g57, g58, k2, g⟩
        dsimp only at g1 g2 g56 g57 g58 k2
        simp only [eCos] at g56
        rcases Nat.lt_or_ge i b.cons.length with hlt | hge
        · have w1 : IntKind.i64.wrap ((i : Int) + 1) = (i : Int) + 1 := wrap_id (by omega) (by omega)
          have hcv := hbc1 i hlt
          have hmem := List.getElem_mem hlt
          have os := ob.cons _ hmem
          have fs := fb.cons _ hmem
          obtain ⟨hrow, c0, so, hso, hil⟩ := con_parts (zc _ hmem)
          obtain ⟨q1, q2⟩ := args_ready (b := b) hn os.args fs.args hrow
          have hsolt := (List.getElem?_eq_some_iff.1 hso).1
          have hso' := (List.getElem?_eq_some_iff.1 hso).2
          have hfi : conF n b base i b.cons[i] = true → ∀ (j : Nat) (hj : j < b.cons.length), j < i + 1 → conF n b base j b.cons[j] = true := fun h j hj hji => by
            rcases Nat.lt_or_ge j i with h' | h'
            · exact g j hj h'
            · have : j = i := by omega
              subst this
              exact h
          generalize hS : b.cons[i] = S at *
          have hR := row_ok8 n hN b base S.args (i : Int) (by have := fs.args.1; omega) hsl hcl q1 q2
          have hI := indices_ok n hN ⟨b, base, S.args, 0⟩ S.sort so c0 hso S.idx (i : Int) hil (by simp) (by simp) (by have := fs.args.1; simp; omega) hsl hcl (fun x hx => ⟨os.idx.2 x hx, by have := Nat.le_trans (sum_mem (List.mem_map.2 ⟨x, hx, rfl⟩)) fs.idx; omega⟩)
          have hD := clean_ok n hN ⟨b, base, S.args, 0⟩ S.dec (by simp) (by have := fs.dec; simp; omega) (by have := fs.args.1; simp; omega) hsl os.dec (by have := fs.dec; omega)
          simp only [cPl, cBl, eBl, cT, eTs, eArs, List.cons_append, List.nil_append] at hR hI hD
          have hF : conF n b base i S = (rowF n b base S.args i && (indF n ⟨b, base, S.args, 0⟩ so S.idx i && (!so.dec || cleanF n ⟨b, base, S.args, 0⟩ S.dec))) := by rw [conF, hso]
          simp -dsimp [g1, g2, g56, g57, g58, k2, hlt, hS, eCo, cCo, cT, eArs]
          refine call_of hR ?_
          cases hr : rowF n b base S.args i with
          | false =>
            have hw := hcv (by rw [hF, hr]; rfl)
            simp -dsimp [g1, g2, g56, g57, g58, k2, hlt, hS, eCo, cCo, cT, eArs, hw]
          | true =>
            simp -dsimp [g1, g2, g56, g57, g58, k2, hlt, hS, eCo, cCo, cT, eArs, eTs]
            refine call_of hI ?_
            cases hii : indF n ⟨b, base, S.args, 0⟩ so S.idx i with
            | false =>
              have hw := hcv (by rw [hF, hr, hii]; rfl)
              simp -dsimp [g1, g2, g56, g57, g58, k2, hlt, hS, eCo, cCo, cT, eArs, hw]
            | true =>
              cases hd : so.dec with
              | false =>
                have hnx := hfi (by rw [hF, hr, hii, hd]; rfl)
                simp -dsimp [g1, g2, g56, g57, g58, k2, hlt, hS, eCo, cCo, cT, eArs, eSos, eTs, c0, hso, hsolt, hso', eSo, cSo, hd, w1]
                exact ⟨rfl, hnx⟩
              | true =>
                simp -dsimp [g1, g2, g56, g57, g58, k2, hlt, hS, eCo, cCo, cT, eArs, eSos, eTs, c0, hso, hsolt, hso', eSo, cSo, hd]
                refine call_of hD ?_
                cases hc : cleanF n ⟨b, base, S.args, 0⟩ S.dec with
                | false =>
                  have hw := hcv (by rw [hF, hr, hii, hd, hc]; rfl)
                  simp -dsimp [g1, g2, g56, g57, g58, k2, hlt, hS, eCo, cCo, cT, eArs, eSos, eTs, c0, hso, hsolt, hso', eSo, cSo, hd, hw]
                | true =>
                  have hnx := hfi (by rw [hF, hr, hii, hd, hc]; rfl)
                  simp -dsimp [g1, g2, g56, g57, g58, k2, hlt, hS, eCo, cCo, cT, eArs, eSos, eTs, c0, hso, hsolt, hso', eSo, cSo, hd, w1]
                  exact ⟨rfl, hnx⟩
        · have e : i = b.cons.length := by omega
          subst e
          have hzc : allI (fun c x => conF n b base c x) 0 b.cons = true := (allI_iff _ _ _).2 fun j hj => by rw [Nat.zero_add]; exact g j hj hj
          have hw := hgood (by rw [posF, hzs, hzc]; rfl)
          simp -dsimp [g1, g2, g56, g57, g58, k2, hw]
end
end Ev
end Go.Proofs.YtjebpfhffenbnaaGreat
