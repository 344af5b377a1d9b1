/- Texts of this claim, in one. -/
import Derived.Test.YtdhfkbdhdgaccaaGreatMa
import Derived.Test.YtdhfkbdhdgaccaaGreatXe
import Derived.Test.YtdhfkbdhdgaccaaGreatXc
import Derived.Test.YtdhfkbdhdgaccaaGreatXs
namespace Go.Proofs.YtdhfkbdhdgaccaaGreat
namespace Ev
open Go
set_option maxRecDepth 100000
set_option linter.unusedSimpArgs false
set_option linter.unusedVariables false
section
section
attribute [local simp] zae zaf tk tn tks zb6 zb9 zbb zbe zba zb8
def argF (n : Nat) (b : Bl) (base : Int) (l : List Ar) (cons : Int) (i : Nat) (a : Ar) : Bool :=
  if a.rc then (allI (fun j d => zah n ⟨b, base, l.take i, (j : Int)⟩ d) 0 a.dom) && (match b.sorts[a.sort.toNat]? with
    | some so => indF n ⟨b, base, l.take i, (a.dom.length : Int)⟩ so a.idx cons
    | none => false)
  else zah n ⟨b, base, l.take i, 0⟩ a.ty
def rowF (n : Nat) (b : Bl) (base : Int) (l : List Ar) (cons : Int) : Bool := allI (fun i a => argF n b base l cons i a) 0 l
theorem zHx (n : Nat) (hN : n ≤ 1000000) (b : Bl) (base : Int) (l : List Ar) (cons : Int) (hl : l.length ≤ 1000000) (hsl : ∀ s ∈ b.sorts, s.idx.length ≤ 1000000) (hcl : ∀ c ∈ b.cons, c.args.length ≤ 1000000)
    (hty : ∀ a ∈ l, a.rc = false → okT a.ty ∧ zac a.ty ≤ n) (hrc : ∀ a ∈ l, a.rc = true → a.dom.length ≤ 60 ∧ (∀ x ∈ a.dom, okT x ∧ zac x ≤ n) ∧ (∀ x ∈ a.idx, okT x ∧ zac x ≤ n) ∧ 0 ≤ a.sort ∧ ∃ so, b.sorts[a.sort.toNat]? = some so ∧ a.idx.length = so.idx.length) :
    Pure Tryz.prog zly [eBl b, .int .i64 base, eArs l, .int .i64 cons] [.bool (rowF n b base l cons)] := by
  refine zDo rfl fun hs => ?_
  generalize hV : rowF n b base l cons = V
  have hVt : (∀ (i : Nat) (hi : i < l.length), argF n b base l cons i l[i] = true) → V = true := fun h => by
    rw [← hV]
    exact (zan _ _ _).2 fun j hj => by simp only [Nat.zero_add]; exact h j hj
  have hVf : ∀ (i : Nat) (hi : i < l.length), argF n b base l cons i l[i] = false → V = false := fun i hi h => by
    rw [← hV, Bool.eq_false_iff]
    intro h2
    have := (zan _ _ _).1 h2 i hi
    simp only [Nat.zero_add] at this
    rw [h] at this
    cases this
  simp -dsimp [zqb, eBl, cBl, eArs]
  refine zam l.length (fun i st => st.s 1 = .d (.int .i64 base) ∧ st.s 2 = .d (eArs l) ∧ st.s 3 = .d (.int .i64 cons) ∧ st.s 4 = .ptr 4 1 0 ∧ st.s 14 = .d (eArs l) ∧ st.s 15 = .d (.int .i64 l.length) ∧ st.s 16 = .d (.int .i64 i) ∧
    st.h 4 = ⟨1, .box [.d (eSos b.sorts), .d (eCos b.cons), .d (.int .i64 b.elim)] false⟩ ∧ ∀ (j : Nat) (hj : j < l.length), j < i → argF n b base l cons j l[j] = true) ?_ ?_
  · simp -dsimp [eArs]
  · rintro i ⟨s, hp⟩ hi ⟨g1, g2, g3, g4, g14, g15, g16, k4, g⟩
    dsimp only at g1 g2 g3 g4 g14 g15 g16 k4
    simp only [eArs] at g2 g14
    rcases Nat.lt_or_ge i l.length with hlt | hge
    · have w1 : IntKind.i64.wrap ((i : Int) + 1) = (i : Int) + 1 := zad (by omega) (by omega)
      have hile : i ≤ l.length := hi
      have hcv := hVf i hlt
      have hmem := List.getElem_mem hlt
      have h1 := hty _ hmem
      have h2 := hrc _ hmem
      have hfi : ∀ h : argF n b base l cons i l[i] = true, ∀ (j : Nat) (hj : j < l.length), j < i + 1 → argF n b base l cons j l[j] = true := fun h j hj hji => by
        rcases Nat.lt_or_ge j i with h' | h'
        · exact g j hj h'
        · have : j = i := by omega
          subst this
          exact h
      generalize hAr : l[i] = R at *
      simp -dsimp [g1, g2, g3, g4, g14, g15, g16, k4, hlt, hile, hAr, eAr, cAr, cT]
      cases hr : R.rc with
      | false =>
        obtain ⟨o1, o2⟩ := h1 hr
        have hC := zm0 n hN ⟨b, base, l.take i, 0⟩ R.ty (by simp) (by simp; omega) (by simp; omega) hsl o1 o2
        have hAF : argF n b base l cons i R = zah n ⟨b, base, l.take i, 0⟩ R.ty := by rw [argF, hr, if_neg (by simp)]
        rw [hAF] at hcv hfi
        simp only [cPl, cBl, cT, eArs, List.cons_append, List.nil_append, List.map_take] at hC
        simp -dsimp [g1, g2, g3, g4, g14, g15, g16, k4, hlt, hile, hAr, eAr, cAr, cT, hr]
        refine zaa hC ?_
        cases hc : zah n ⟨b, base, l.take i, 0⟩ R.ty with
        | false => simp -dsimp [g1, g2, g3, g4, g14, g15, g16, k4, hlt, hile, hAr, eAr, cAr, cT, hr, hcv hc]
        | true =>
          have hnx := hfi hc
          simp -dsimp [g1, g2, g3, g4, g14, g15, g16, k4, hlt, hile, hAr, eAr, cAr, cT, hr, w1, eArs]
          simpa using hnx
      | true =>
        obtain ⟨r1, r2, r3, r4, so, hso, r5⟩ := h2 hr
        have hAF : argF n b base l cons i R = ((allI (fun j d => zah n ⟨b, base, l.take i, (j : Int)⟩ d) 0 R.dom) && indF n ⟨b, base, l.take i, (R.dom.length : Int)⟩ so R.idx cons) := by rw [argF, hr, if_pos rfl, hso]
        rw [hAF] at hcv hfi
        simp -dsimp [g1, g2, g3, g4, g14, g15, g16, k4, hlt, hile, hAr, eAr, cAr, cT, hr]
        simp -dsimp [eTs]
        refine zam R.dom.length (fun j st => st.s 1 = .d (.int .i64 base) ∧ st.s 2 = .d (eArs l) ∧ st.s 3 = .d (.int .i64 cons) ∧ st.s 4 = .ptr 4 1 0 ∧ st.s 10 = .ptr 10 ((hp 10).ver + 1) 0 ∧ st.s 11 = .ptr 11 ((hp 11).ver + 1) 0 ∧ st.s 14 = .d (eArs l) ∧ st.s 15 = .d (.int .i64 l.length) ∧ st.s 16 = .d (.int .i64 i) ∧
          st.s 36 = .d (eTs R.dom) ∧ st.s 37 = .d (.int .i64 R.dom.length) ∧ st.s 38 = .d (.int .i64 j) ∧
          st.h 4 = ⟨1, .box [.d (eSos b.sorts), .d (eCos b.cons), .d (.int .i64 b.elim)] false⟩ ∧
          st.h 10 = ⟨(hp 10).ver + 1, .box [.d (.bool true), .d (.int .i64 R.ty.kind), .d (.int .i64 R.ty.num), .d (.sl 3 (R.ty.kids.map eT)), .d (eTs R.dom), .d (.int .i64 R.sort), .d (eTs R.idx)] false⟩ ∧
          st.h 11 = ⟨(hp 11).ver + 1, .box [.d (eSos b.sorts), .d (eCos b.cons), .d (.int .i64 b.elim), .d (.int .i64 base), .d (eArs (l.take i)), .d (.int .i64 0)] false⟩ ∧
          ∀ (q : Nat) (hq : q < R.dom.length), q < j → zah n ⟨b, base, l.take i, (q : Int)⟩ R.dom[q] = true) ?_ ?_
        · simp -dsimp [g1, g2, g3, g4, g14, g15, g16, k4, hlt, hile, hAr, eAr, cAr, cT, hr, eArs, eTs]
        · clear g1 g2 g3 g4 g14 g15 g16 k4
          rintro j ⟨s, hq⟩ hj ⟨g1, g2, g3, g4, g10, g11, g14, g15, g16, g36, g37, g38, k4, k10, k11, gd⟩
          dsimp only at g1 g2 g3 g4 g10 g11 g14 g15 g16 g36 g37 g38 k4 k10 k11
          simp only [eTs, eArs] at g2 g14 g36 k11
          rcases Nat.lt_or_ge j R.dom.length with hlt2 | hge2
          · have w2 : IntKind.i64.wrap ((j : Int) + 1) = (j : Int) + 1 := zad (by omega) (by omega)
            obtain ⟨d1, d2⟩ := r2 _ (List.getElem_mem hlt2)
            have hP := zFl ⟨b, base, l.take i, 0⟩ (j : Int) (by simp) (by simp) (by omega) (by omega)
            have hC := zm0 n hN ⟨b, base, l.take i, (j : Int)⟩ R.dom[j] (by simp) (by simp; omega) (by simp; omega) hsl d1 d2
            generalize hX : R.dom[j] = X at *
            simp only [cPl, cBl, cT, eArs, Pl.fwd, Int.zero_add, List.cons_append, List.nil_append, List.map_take] at hP hC
            simp -dsimp [g1, g2, g3, g4, g10, g11, g14, g15, g16, g36, g37, g38, k4, k10, k11, hlt2, hX, cT]
            refine zaa hP ?_
            simp -dsimp [g1, g2, g3, g4, g10, g11, g14, g15, g16, g36, g37, g38, k4, k10, k11, hlt2, hX, cT]
            refine zaa hC ?_
            cases hc : zah n ⟨b, base, l.take i, (j : Int)⟩ X with
            | false =>
              have hz : allI (fun j d => zah n ⟨b, base, l.take i, (j : Int)⟩ d) 0 R.dom = false := by
                rw [Bool.eq_false_iff]
                intro h
                have := (zan _ _ _).1 h j hlt2
                rw [Nat.zero_add, hX, hc] at this
                cases this
              simp -dsimp [g1, g2, g3, g4, g10, g11, g14, g15, g16, g36, g37, g38, k4, k10, k11, hcv (by rw [hz]; rfl)]
            | true =>
              simp -dsimp [g1, g2, g3, g4, g10, g11, g14, g15, g16, g36, g37, g38, k4, k10, k11, hlt2, hX, cT, w2, eTs, eArs]
              intro q hq' hqj
              rcases Nat.lt_or_ge q j with h' | h'
              · exact gd q hq' h'
              · have : q = j := by omega
                subst this
                rw [hX]; exact hc
          · have ej : j = R.dom.length := by omega
            subst ej
            have hz : allI (fun j d => zah n ⟨b, base, l.take i, (j : Int)⟩ d) 0 R.dom = true := (zan _ _ _).2 fun q hq' => by rw [Nat.zero_add]; exact gd q hq' hq'
            rw [hz, Bool.true_and] at hcv hfi
            have hP := zFl ⟨b, base, l.take i, 0⟩ (R.dom.length : Int) (by simp) (by simp) (by omega) (by omega)
            have hI := zyc n hN ⟨b, base, l.take i, (R.dom.length : Int)⟩ R.sort so r4 hso R.idx cons r5 (by simp) (by simp; omega) (by simp; omega) hsl hcl r3
            simp only [cPl, cBl, cT, eTs, eArs, Pl.fwd, Int.zero_add, List.cons_append, List.nil_append, List.map_take] at hP hI
            simp -dsimp [g1, g2, g3, g4, g10, g11, g14, g15, g16, g36, g37, g38, k4, k10, k11, eTs]
            refine zaa hP ?_
            simp -dsimp [g1, g2, g3, g4, g10, g11, g14, g15, g16, g36, g37, g38, k4, k10, k11, eTs]
            refine zaa hI ?_
            cases hc : indF n ⟨b, base, l.take i, (R.dom.length : Int)⟩ so R.idx cons with
            | false => simp -dsimp [g1, g2, g3, g4, g10, g11, g14, g15, g16, g36, g37, g38, k4, k10, k11, hcv hc]
            | true =>
              have hnx := hfi hc
              simp -dsimp [g1, g2, g3, g4, g10, g11, g14, g15, g16, g36, g37, g38, k4, k10, k11, w1, eArs]
              exact ⟨hlt, hnx⟩
    · have e : i = l.length := by omega
      subst e
      have hz := hVt fun j hj => g j hj hj
      simp -dsimp [g1, g2, g3, g4, g14, g15, g16, k4, hz]
end
end
section
section
attribute [local simp] zae zaf tk tn tks zb6 zb9 zbb zbe zba zb8
def zlm (n : Nat) (b : Bl) (base : Int) (so : So) : Bool := rowF n b base so.idx 0 && (!so.dec || zah n ⟨b, base, so.idx, 0⟩ so.dty)
def conF (n : Nat) (b : Bl) (base : Int) (c : Nat) (co : Co) : Bool := rowF n b base co.args c && match b.sorts[co.sort.toNat]? with
  | some so => indF n ⟨b, base, co.args, 0⟩ so co.idx c && (!so.dec || zah n ⟨b, base, co.args, 0⟩ co.dec)
  | none => false
def posF (n : Nat) (b : Bl) (base : Int) : Bool := allI (fun _ s => zlm n b base s) 0 b.sorts && allI (fun c x => conF n b base c x) 0 b.cons
def zbr (n : Nat) (b : Bl) (base : Int) : Int := if zey b = 0 then if base < 0 ∨ 65535 < base then 1 else if posF n b base then 0 else 11 else zey b
structure Ready (n : Nat) (b : Bl) : Prop where
  s : ∀ s ∈ b.sorts, s.idx.length ≤ 1000000
  c : ∀ c ∈ b.cons, c.args.length ≤ 1000000
theorem zyq {n : Nat} (hn : 9000 ≤ n) {b : Bl} {l : List Ar} (ol : zxq l) (fl : zfy l) (hr : rowM b l = true) :
    (∀ a ∈ l, a.rc = false → okT a.ty ∧ zac a.ty ≤ n) ∧ (∀ a ∈ l, a.rc = true → a.dom.length ≤ 60 ∧ (∀ x ∈ a.dom, okT x ∧ zac x ≤ n) ∧ (∀ x ∈ a.idx, okT x ∧ zac x ≤ n) ∧ 0 ≤ a.sort ∧ ∃ so, b.sorts[a.sort.toNat]? = some so ∧ a.idx.length = so.idx.length) := by
  refine ⟨fun a ha _ => ⟨(ol.2 a ha).ty, by have := (fl.2 a ha).ty; omega⟩, fun a ha hrc => ?_⟩
  have oa := ol.2 a ha
  have fa := fl.2 a ha
  refine ⟨fa.domL, fun x hx => ⟨oa.dom.2 x hx, ?_⟩, fun x hx => ⟨oa.idx.2 x hx, ?_⟩, ?_⟩
  · have := Nat.le_trans (zci (List.mem_map.2 ⟨x, hx, rfl⟩)) fa.dom; omega
  · have := Nat.le_trans (zci (List.mem_map.2 ⟨x, hx, rfl⟩)) fa.idx; omega
  · rw [rowM] at hr
    split at hr
    · cases hr
    obtain ⟨i, hi, rfl⟩ := List.mem_iff_getElem.1 ha
    have hA := (zan _ _ _).1 hr i hi
    rw [Nat.zero_add, argM, if_pos hrc] at hA
    split at hA
    case isFalse => cases hA
    split at hA
    · cases hA
    split at hA
    · cases hA
    split at hA
    · cases hA
    rename_i so hso
    split at hA
    case isFalse => cases hA
    rename_i hlen
    exact ⟨by omega, so, hso, by omega⟩
theorem zkk {b : Bl} {c : Co} (h : conM b c = true) : rowM b c.args = true ∧ 0 ≤ c.sort ∧ ∃ so, b.sorts[c.sort.toNat]? = some so ∧ c.idx.length = so.idx.length := by
  rw [conM] at h
  split at h
  · cases h
  split at h
  case isFalse => cases h
  rename_i h1
  split at h
  · cases h
  rename_i so hso
  split at h
  case isFalse => cases h
  exact ⟨h1, by omega, so, hso, by omega⟩
theorem zy9 {b : Bl} {k : Nat} {s : So} (h : zf3 b k s = true) : rowM b s.idx = true := by
  rw [zf3] at h
  split at h
  · assumption
  · cases h
theorem zFn (n : Nat) (hn : 9000 ≤ n) (hN : n ≤ 1000000) (b : Bl) (ob : okBl b) (fb : FineBl b) (base : Int) : Pure Tryz.prog zjg [eBl b, .int .i64 base] [.int .i64 (zbr n b base)] := by
  refine zyx rfl fun hs => ?_
  have hC := zI5 b
  have hbs := fb.s
  have hbc := fb.c
  have hsl : ∀ s ∈ b.sorts, s.idx.length ≤ 1000000 := fun s hs => by have := (fb.sorts s hs).idx.1; omega
  have hcl : ∀ c ∈ b.cons, c.args.length ≤ 1000000 := fun c hc => by have := (fb.cons c hc).args.1; omega
  simp only [eBl, cBl] at hC
  generalize hE : zbr n b base = E
  simp -dsimp [zmq, eBl, cBl]
  refine zaa hC ?_
  by_cases hz : zey b = 0
  case neg =>
    rw [zbr, if_neg hz] at hE
    simp -dsimp [hz, ← hE]
  rw [zbr, if_pos hz] at hE
  obtain ⟨z1, z4, z8, zl, zs, zc⟩ := (za2 b).1 hz
  simp -dsimp [hz]
  by_cases b1 : base < 0
  · rw [if_pos (.inl b1)] at hE
    simp -dsimp [b1, ← hE]
  by_cases b2 : 65535 < base
  · rw [if_pos (.inr b2)] at hE
    simp -dsimp [b1, b2, ← hE]
  rw [if_neg (by omega)] at hE
  simp -dsimp [b1, b2, eSos]
  have hbad : posF n b base = false → E = 11 := fun h => by rw [← hE, h]; rfl
  have hgood : posF n b base = true → E = 0 := fun h => by rw [← hE, h]; rfl
  have hbs1 : ∀ (i : Nat) (hi : i < b.sorts.length), zlm n b base b.sorts[i] = false → E = 11 := fun i hi h => hbad (by
    rw [posF, Bool.and_eq_false_iff]
    refine .inl (Bool.eq_false_iff.2 fun h2 => ?_)
    have := (zan _ _ _).1 h2 i hi
    rw [h] at this
    cases this)
  have hbc1 : ∀ (i : Nat) (hi : i < b.cons.length), conF n b base i b.cons[i] = false → E = 11 := fun i hi h => hbad (by
    rw [posF, Bool.and_eq_false_iff]
    refine .inr (Bool.eq_false_iff.2 fun h2 => ?_)
    have := (zan _ _ _).1 h2 i hi
    rw [Nat.zero_add, h] at this
    cases this)
  refine zam b.sorts.length (fun i st => st.s 1 = .d (.int .i64 base) ∧ st.s 2 = .ptr 2 1 0 ∧ st.s 26 = .d (eSos b.sorts) ∧ st.s 27 = .d (.int .i64 b.sorts.length) ∧ st.s 28 = .d (.int .i64 i) ∧
    st.h 2 = ⟨1, .box [.d (eSos b.sorts), .d (eCos b.cons), .d (.int .i64 b.elim)] false⟩ ∧ ∀ (j : Nat) (hj : j < b.sorts.length), j < i → zlm n b base b.sorts[j] = true) ?_ ?_
  · simp -dsimp [eSos]
  · rintro i ⟨s, hp⟩ hi ⟨g1, g2, g26, g27, g28, k2, g⟩
    dsimp only at g1 g2 g26 g27 g28 k2
    simp only [eSos] at g26
    rcases Nat.lt_or_ge i b.sorts.length with hlt | hge
    · have w1 : IntKind.i64.wrap ((i : Int) + 1) = (i : Int) + 1 := zad (by omega) (by omega)
      have hcv := hbs1 i hlt
      have hmem := List.getElem_mem hlt
      have os := ob.sorts _ hmem
      have fs := fb.sorts _ hmem
      obtain ⟨q1, q2⟩ := zyq (b := b) hn os.idx fs.idx (zy9 (zs i hlt))
      have hfi : zlm n b base b.sorts[i] = true → ∀ (j : Nat) (hj : j < b.sorts.length), j < i + 1 → zlm n b base b.sorts[j] = true := fun h j hj hji => by
        rcases Nat.lt_or_ge j i with h' | h'
        · exact g j hj h'
        · have : j = i := by omega
          subst this
          exact h
      generalize hS : b.sorts[i] = S at *
      have hR := zHx n hN b base S.idx 0 (by have := fs.idx.1; omega) hsl hcl q1 q2
      have hD := zm0 n hN ⟨b, base, S.idx, 0⟩ S.dty (by simp) (by have := fs.dty; simp; omega) (by have := fs.idx.1; simp; omega) hsl os.dty (by have := fs.dty; omega)
      simp only [cPl, cBl, eBl, cT, eArs, List.cons_append, List.nil_append] at hR hD
      simp -dsimp [g1, g2, g26, g27, g28, k2, hlt, hS, eSo, cSo, cT, eArs]
      refine zaa hR ?_
      cases hr : rowF n b base S.idx 0 with
      | false =>
        have hw := hcv (by rw [zlm, hr]; rfl)
        simp -dsimp [g1, g2, g26, g27, g28, k2, hlt, hS, eSo, cSo, cT, eArs, hw]
      | true =>
        cases hd : S.dec with
        | false =>
          have hnx := hfi (by rw [zlm, hr, hd]; rfl)
          simp -dsimp [g1, g2, g26, g27, g28, k2, hlt, hS, eSo, cSo, cT, eArs, hd, w1, eSos]
          exact hnx
        | true =>
          simp -dsimp [g1, g2, g26, g27, g28, k2, hlt, hS, eSo, cSo, cT, eArs, hd]
          refine zaa hD ?_
          cases hc : zah n ⟨b, base, S.idx, 0⟩ S.dty with
          | false =>
            have hw := hcv (by rw [zlm, hr, hd, hc]; rfl)
            simp -dsimp [g1, g2, g26, g27, g28, k2, hlt, hS, eSo, cSo, cT, eArs, hd, hw]
          | true =>
            have hnx := hfi (by rw [zlm, hr, hd, hc]; rfl)
            simp -dsimp [g1, g2, g26, g27, g28, k2, hlt, hS, eSo, cSo, cT, eArs, hd, w1, eSos]
            exact hnx
    · have e : i = b.sorts.length := by omega
      subst e
      have hzs : allI (fun _ s => zlm n b base s) 0 b.sorts = true := (zan _ _ _).2 fun j hj => g j hj hj
      simp -dsimp [g1, g2, g26, g27, g28, k2, eCos]
      refine zam b.cons.length (fun i st => st.s 1 = .d (.int .i64 base) ∧ st.s 2 = .ptr 2 1 0 ∧ st.s 56 = .d (eCos b.cons) ∧ st.s 57 = .d (.int .i64 b.cons.length) ∧ st.s 58 = .d (.int .i64 i) ∧
        st.h 2 = ⟨1, .box [.d (eSos b.sorts), .d (eCos b.cons), .d (.int .i64 b.elim)] false⟩ ∧ ∀ (j : Nat) (hj : j < b.cons.length), j < i → conF n b base j b.cons[j] = true) ?_ ?_
      · simp -dsimp [eSos, eCos, g1, g2, k2]
      · clear g1 g2 g26 g27 g28 k2
        rintro i ⟨s, hp⟩ hi ⟨g1, g2, g56, g57, g58, k2, g⟩
        dsimp only at g1 g2 g56 g57 g58 k2
        simp only [eCos] at g56
        rcases Nat.lt_or_ge i b.cons.length with hlt | hge
        · have w1 : IntKind.i64.wrap ((i : Int) + 1) = (i : Int) + 1 := zad (by omega) (by omega)
          have hcv := hbc1 i hlt
          have hmem := List.getElem_mem hlt
          have os := ob.cons _ hmem
          have fs := fb.cons _ hmem
          obtain ⟨hrow, c0, so, hso, hil⟩ := zkk (zc _ hmem)
          obtain ⟨q1, q2⟩ := zyq (b := b) hn os.args fs.args hrow
          have hsolt := (List.getElem?_eq_some_iff.1 hso).1
          have hso' := (List.getElem?_eq_some_iff.1 hso).2
          have hfi : conF n b base i b.cons[i] = true → ∀ (j : Nat) (hj : j < b.cons.length), j < i + 1 → conF n b base j b.cons[j] = true := fun h j hj hji => by
            rcases Nat.lt_or_ge j i with h' | h'
            · exact g j hj h'
            · have : j = i := by omega
              subst this
              exact h
          generalize hS : b.cons[i] = S at *
          have hR := zHx n hN b base S.args (i : Int) (by have := fs.args.1; omega) hsl hcl q1 q2
          have hI := zyc n hN ⟨b, base, S.args, 0⟩ S.sort so c0 hso S.idx (i : Int) hil (by simp) (by simp) (by have := fs.args.1; simp; omega) hsl hcl (fun x hx => ⟨os.idx.2 x hx, by have := Nat.le_trans (zci (List.mem_map.2 ⟨x, hx, rfl⟩)) fs.idx; omega⟩)
          have hD := zm0 n hN ⟨b, base, S.args, 0⟩ S.dec (by simp) (by have := fs.dec; simp; omega) (by have := fs.args.1; simp; omega) hsl os.dec (by have := fs.dec; omega)
          simp only [cPl, cBl, eBl, cT, eTs, eArs, List.cons_append, List.nil_append] at hR hI hD
          have hF : conF n b base i S = (rowF n b base S.args i && (indF n ⟨b, base, S.args, 0⟩ so S.idx i && (!so.dec || zah n ⟨b, base, S.args, 0⟩ S.dec))) := by rw [conF, hso]
          simp -dsimp [g1, g2, g56, g57, g58, k2, hlt, hS, eCo, cCo, cT, eArs]
          refine zaa hR ?_
          cases hr : rowF n b base S.args i with
          | false =>
            have hw := hcv (by rw [hF, hr]; rfl)
            simp -dsimp [g1, g2, g56, g57, g58, k2, hlt, hS, eCo, cCo, cT, eArs, hw]
          | true =>
            simp -dsimp [g1, g2, g56, g57, g58, k2, hlt, hS, eCo, cCo, cT, eArs, eTs]
            refine zaa hI ?_
            cases hii : indF n ⟨b, base, S.args, 0⟩ so S.idx i with
            | false =>
              have hw := hcv (by rw [hF, hr, hii]; rfl)
              simp -dsimp [g1, g2, g56, g57, g58, k2, hlt, hS, eCo, cCo, cT, eArs, hw]
            | true =>
              cases hd : so.dec with
              | false =>
                have hnx := hfi (by rw [hF, hr, hii, hd]; rfl)
                simp -dsimp [g1, g2, g56, g57, g58, k2, hlt, hS, eCo, cCo, cT, eArs, eSos, eTs, c0, hso, hsolt, hso', eSo, cSo, hd, w1]
                exact ⟨rfl, hnx⟩
              | true =>
                simp -dsimp [g1, g2, g56, g57, g58, k2, hlt, hS, eCo, cCo, cT, eArs, eSos, eTs, c0, hso, hsolt, hso', eSo, cSo, hd]
                refine zaa hD ?_
                cases hc : zah n ⟨b, base, S.args, 0⟩ S.dec with
                | false =>
                  have hw := hcv (by rw [hF, hr, hii, hd, hc]; rfl)
                  simp -dsimp [g1, g2, g56, g57, g58, k2, hlt, hS, eCo, cCo, cT, eArs, eSos, eTs, c0, hso, hsolt, hso', eSo, cSo, hd, hw]
                | true =>
                  have hnx := hfi (by rw [hF, hr, hii, hd, hc]; rfl)
                  simp -dsimp [g1, g2, g56, g57, g58, k2, hlt, hS, eCo, cCo, cT, eArs, eSos, eTs, c0, hso, hsolt, hso', eSo, cSo, hd, w1]
                  exact ⟨rfl, hnx⟩
        · have e : i = b.cons.length := by omega
          subst e
          have hzc : allI (fun c x => conF n b base c x) 0 b.cons = true := (zan _ _ _).2 fun j hj => by rw [Nat.zero_add]; exact g j hj hj
          have hw := hgood (by rw [posF, hzs, hzc]; rfl)
          simp -dsimp [g1, g2, g56, g57, g58, k2, hw]
end
end
section
structure Few (b b' : Bl) (base : Int) (m : Int) : Prop where
  s : b'.sorts = b.sorts
  h0 : ∀ c, n64 c → (ofM b base c).1 = 0 → (ofM b' base c).1 = 0
  h4 : ∀ c, n64 c → (ofM b base c).1 = 4 → ofM b' base c = ofM b base c
  h5 : ∀ c, n64 c → (ofM b base c).1 = 5 → (ofM b base c).2 < m → ofM b' base c = ofM b base c
  c : ∀ j : Nat, (j : Int) < m → b'.cons[j]? = b.cons[j]?
theorem zN4 {b : Bl} {base n : Int} (h : (ofM b base n).1 = 4) : ∃ k : Nat, k < b.sorts.length ∧ zdp b base k = n ∧ ofM b base n = (4, (k : Int)) := by
  have h0 := h
  rw [ofM] at h
  split at h
  · cases h
  rename_i hc
  cases hs : seek n (tab b base) with
  | none => rw [hs] at h; cases h
  | some q =>
    obtain ⟨e, he, k, hk, hn, rfl⟩ := zro hs
    rw [hs] at h
    simp only [Option.getD_some] at h
    have e0 : ofM b base n = (e.kind, (k : Int)) := by rw [ofM, if_neg hc, hs]; rfl
    rw [h] at e0
    simp only [tab, List.mem_cons, List.not_mem_nil, or_false] at he
    rcases he with rfl | rfl | rfl | rfl
    · cases h
    · exact ⟨k, hk, hn, e0⟩
    · cases h
    · cases h
theorem zDb {b : Bl} {base n : Int} (h : (ofM b base n).1 = 5) : ∃ k : Nat, k < b.cons.length ∧ zap b base k = n ∧ ofM b base n = (5, (k : Int)) := by
  have h0 := h
  rw [ofM] at h
  split at h
  · cases h
  rename_i hc
  cases hs : seek n (tab b base) with
  | none => rw [hs] at h; cases h
  | some q =>
    obtain ⟨e, he, k, hk, hn, rfl⟩ := zro hs
    rw [hs] at h
    simp only [Option.getD_some] at h
    have e0 : ofM b base n = (e.kind, (k : Int)) := by rw [ofM, if_neg hc, hs]; rfl
    rw [h] at e0
    simp only [tab, List.mem_cons, List.not_mem_nil, or_false] at he
    rcases he with rfl | rfl | rfl | rfl
    · cases h
    · cases h
    · exact ⟨k, hk, hn, e0⟩
    · cases h
end
section
attribute [local simp] zae zaf tk tn tks zbb zbe zba zb8

theorem zfg {t : T} : zab t = true → okT t := by
  refine T.ind (p := fun t => zab t = true → okT t) ?_ t
  intro k n ks ih h
  have hk := zbm h
  have hs := zKn _ h
  have hl := hs.kids.1
  have h1 := h
  rw [za0] at h1
  have hkb : 0 ≤ k ∧ k ≤ 13 := by
    split at h1
    · rename_i hl'
      have : ¬ zds k < 0 := by omega
      rw [zds] at this
      by_cases hi : isM k = true
      · simp only [isM, Bool.and_eq_true, decide_eq_true_eq] at hi
        omega
      · repeat' split at this
        all_goals omega
    · cases h1
  have hnb : n64 n := by
    split at h1
    · split at h1
      · rw [Bool.and_eq_true] at h1
        have := (zdn n 0 65535).1 h1.1
        exact ⟨by omega, by omega⟩
      · split at h1
        · rename_i h0
          subst h0
          exact ⟨by omega, by omega⟩
        · cases h1
    · cases h1
  exact .mk k n ks ⟨by omega, by omega⟩ hnb (by omega) fun x hx => ih x hx (hk x hx)
def zfi (t : T) : T := if zau t = 0 then t else zT
theorem zI6 (b : Bl) (base : Int) {l : List Ar} (h : zxq l) (hf : zfy l) : okTs (l.map (zd2 b base)) :=
  zQz (by have := hf.1; simp; omega) fun x hx => by
    obtain ⟨a, ha, rfl⟩ := List.mem_map.1 hx
    exact zAu b base (h.2 a ha)
theorem zO1 (n : Nat) (h : n ≤ 60) : Pure Tryz.prog zj8 [.int .i64 n] [eTs (zco n)] := by
  have h1 := zHq n
  have hV : zwx n = zco n := by
    rw [zwx]
    split
    · have : n = 0 := by omega
      subst this
      rfl
    · rfl
  rw [hV] at h1
  exact h1
theorem zso (n : Nat) (h : n ≤ 60) : okTs (zco n) := ⟨by rw [zg0]; omega, fun x hx => by
  obtain ⟨q, hq, rfl⟩ := zH3 hx
  exact zdq (by omega) (by omega)⟩
end
section
attribute [local simp] zae zaf tk tn tks zbb zbe zba zb8

theorem zyb {b : Bl} {a : Ar} {i : Int} (h : argM b a i = true) (hr : a.rc = false) : inM a.ty i = true := by
  rw [argM, hr] at h
  simp only [Bool.false_eq_true, if_false] at h
  split at h
  · assumption
  · cases h
theorem zg8 {b : Bl} {a : Ar} {i : Int} (h : argM b a i = true) (hr : a.rc = true) (h0 : 0 ≤ i) (h1 : i ≤ 1000) : zv7 a.ty = true ∧ 0 ≤ a.sort ∧ a.sort < b.sorts.length ∧ a.dom.length ≤ 12 ∧
    (∃ s, b.sorts[a.sort.toNat]? = some s ∧ a.idx.length = s.idx.length) ∧ (∀ (j : Nat) (hj : j < a.dom.length), inM a.dom[j] (i + j) = true) ∧ ∀ x ∈ a.idx, inM x (i + a.dom.length) = true := by
  rw [argM, hr] at h
  simp only [if_true] at h
  split at h
  · rename_i hn
    split at h
    · cases h
    · rename_i hd
      split at h
      · cases h
      · rename_i hs
        split at h
        · cases h
        · rename_i s hs2
          split at h
          · rename_i hl
            rw [Bool.and_eq_true] at h
            have hlt := (List.getElem?_eq_some_iff.1 hs2).1
            refine ⟨hn, by omega, by omega, by omega, ⟨s, hs2, by omega⟩, fun j hj => ?_, fun x hx => ?_⟩
            · have := (zan _ _ 0).1 h.1 j hj
              rw [Nat.zero_add, zb0 (by omega) (by omega)] at this
              exact this
            · have h2 := h.2
              rw [zb0 (by omega) (by omega), allM, Bool.not_eq_true', List.any_eq_false] at h2
              have := h2 x hx
              simpa using this
          · cases h
  · cases h
theorem zcg {t : T} {v : Int} (h : inM t v = true) (h0 : 0 ≤ v) (h1 : v ≤ 60000) (hn : zac t ≤ 1048576) : wiT t v 65536 = true ∧ zab t = true ∧ zau t = 0 := by
  obtain ⟨h2, h3⟩ := (zJv h0 (by omega) (by omega)).1 h
  exact ⟨h3, zfp h2, h2⟩
theorem zRn {b : Bl} (hf : Fit b) {base k : Int} (h0 : 0 ≤ base) (h1 : base ≤ 60000) (k0 : 0 ≤ k) (k1 : k < b.sorts.length) : fmT b base k = tC (base + k) := by
  have hs := hf.s
  have e : zbq b base k = base + k := by rw [zhg hf h0 (by omega), if_pos ⟨k0, k1⟩]
  rw [fmT, e]
  split
  · rfl
  · rw [show base + k = 0 by omega]
theorem zCv {n : Int} (h : 0 ≤ n ∧ n ≤ 65535) : zab (tC n) = true := zDy (.inr rfl) h
theorem zSm {n v c : Int} (h : n < c) : wiT (tC n) v c = true := by simp [tC, wiT, h]
theorem zny (l : List T) (t : T) (hl : ∀ x ∈ l, zab x = true) (ht : zab t = true) : zab (zcx 4 l t) = true := by
  induction l with
  | nil => exact ht
  | cons a l ih =>
    show zab (.mk 4 0 [a, zcx 4 l t]) = true
    rw [za0]
    have h0 : zds 4 = 2 := rfl
    rw [h0]
    simp [hl a (by simp), ih fun x hx => hl x (by simp [hx])]
theorem zEt {l : List T} {x : T} (h : x ∈ l) : zac x ≤ (l.map zac).sum := zci (List.mem_map.2 ⟨x, h, rfl⟩)
theorem zl5 {b : Bl} (hf : Fit b) {base : Int} (h0 : 0 ≤ base) (h1 : base ≤ 60000) {a : Ar} (fa : FineAr a) {i : Nat} (hi : i ≤ 1000) (h : argM b a i = true) : wiT (zd2 b base a) i 65536 = true ∧ zab (zd2 b base a) = true := by
  have hfs := hf.s
  rw [zd2]
  split
  · rename_i hr
    obtain ⟨_, s0, s1, d1, _, hd, hx⟩ := zg8 h hr (by omega) (by omega)
    rw [zRn hf h0 h1 s0 s1]
    have hd' : ∀ (j : Nat) (hj : j < a.dom.length), wiT a.dom[j] (i + j) 65536 = true ∧ zab a.dom[j] = true := fun j hj => by
      obtain ⟨q1, q2, _⟩ := zcg (hd j hj) (by omega) (by omega) (by have := zEt (List.getElem_mem hj); have := fa.dom; omega)
      exact ⟨q1, q2⟩
    have hx' : ∀ x ∈ a.idx, wiT x (i + a.dom.length) 65536 = true ∧ zab x = true := fun x hm => by
      obtain ⟨q1, q2, _⟩ := zcg (hx x hm) (by omega) (by omega) (by have := zEt hm; have := fa.idx; omega)
      exact ⟨q1, q2⟩
    refine ⟨zDa (.inl rfl) _ _ _ (fun j hj => (hd' j hj).1) ?_, zny _ _ (fun x hm => ?_) (zwv _ _ (zCv (by omega)) fun x hm => (hx' x hm).2)⟩
    · rw [zPb, zSm (by omega), Bool.true_and, List.all_eq_true]
      exact fun x hm => (hx' x hm).1
    · obtain ⟨j, hj, rfl⟩ := List.mem_iff_getElem.1 hm
      exact (hd' j hj).2
  · rename_i hr
    have hr' : a.rc = false := by cases h' : a.rc <;> simp_all
    obtain ⟨q1, q2, _⟩ := zcg (zyb h hr') (by omega) (by omega) (by have := fa.ty; omega)
    exact ⟨q1, q2⟩
theorem zkf {b : Bl} {base : Int} {a : Ar} (fa : FineAr a) : zac (zd2 b base a) ≤ 20000 := by
  have h1 := fa.ty
  have h2 := fa.dom
  have h3 := fa.domL
  have h4 := fa.idx
  have h5 := fa.idxL
  rw [zd2]
  split
  · rw [zlf, zdz, fmT, tC, zar]
    omega
  · omega
theorem zNd {l : List T} {m : Nat} (h : ∀ x ∈ l, zac x ≤ m) : (l.map zac).sum ≤ l.length * m := by
  induction l with
  | nil => simp
  | cons x l ih =>
    have h1 := h x (by simp)
    have h2 := ih fun y hy => h y (by simp [hy])
    simp only [List.map_cons, List.sum_cons, List.length_cons, Nat.succ_mul]
    omega
theorem zka {b : Bl} {l : List Ar} (h : rowM b l = true) : l.length ≤ 12 ∧ ∀ (j : Nat) (hj : j < l.length), argM b l[j] j = true := by
  rw [rowM] at h
  split at h
  · cases h
  · refine ⟨by omega, fun j hj => ?_⟩
    have := (zan _ _ 0).1 h j hj
    rwa [Nat.zero_add] at this
end
section
section
attribute [local simp] zae zaf tk tn tks zb6 zb9 zbb zbe zba zb8
structure Vw where
  b : Bl
  base : Int
  args : List Ar
  pos : List Int
  fin : Int
def cVw (v : Vw) : List D := cBl v.b ++ [.int .i64 v.base, eArs v.args, .sl 1 (v.pos.map (.int .i64)), .int .i64 v.fin]
def posL : Int → List Ar → List Int
  | _, [] => []
  | e, a :: l => e :: posL (if a.rc then e + 2 else e + 1) l
def finL : Int → List Ar → Int
  | e, [] => e
  | e, a :: l => finL (if a.rc then e + 2 else e + 1) l
theorem zrf : ∀ (l : List Ar) (e : Int) (i : Nat) (h : i < l.length), finL e (l.take (i + 1)) = if l[i].rc then finL e (l.take i) + 2 else finL e (l.take i) + 1
  | a :: l, e, 0, h => by simp [finL]
  | a :: l, e, i + 1, h => by
    simp only [List.take_succ_cons, finL, List.getElem_cons_succ]
    exact zrf l _ i (by simpa using h)
theorem zFv : ∀ (l : List Ar) (e : Int) (i : Nat) (_ : i < l.length), posL e (l.take (i + 1)) = posL e (l.take i) ++ [finL e (l.take i)]
  | a :: l, e, 0, h => by simp [posL, finL]
  | a :: l, e, i + 1, h => by
    simp only [List.take_succ_cons, posL, finL, List.cons_append]
    rw [zFv l _ i (by simpa using h)]
theorem zf1 : ∀ (l : List Ar) (e : Int), (posL e l).length = l.length
  | [], e => rfl
  | a :: l, e => by rw [posL, List.length_cons, zf1 l, List.length_cons]
theorem zpj : ∀ (l : List Ar) (e : Int), e ≤ finL e l ∧ finL e l ≤ e + 2 * l.length
  | [], e => by simp [finL]
  | a :: l, e => by
    have h := zpj l (if a.rc then e + 2 else e + 1)
    rw [finL]
    simp only [List.length_cons]
    split <;> rename_i hr <;> simp only [hr, if_true, if_false, Bool.false_eq_true] at h <;> omega
theorem zxw : ∀ (l : List Ar) (e : Int) (i : Nat) (h : i < (posL e l).length), (posL e l)[i] = finL e (l.take i)
  | a :: l, e, 0, h => by simp [posL, finL]
  | a :: l, e, i + 1, h => by
    simp only [posL, List.getElem_cons_succ, List.take_succ_cons, finL]
    exact zxw l _ i _
theorem zIe (b : Bl) (base from_ : Int) (l : List Ar) (hl : l.length ≤ 20) (h0 : 0 ≤ from_) (h1 : from_ ≤ 1000) : Pure Tryz.prog zl0 [eBl b, .int .i64 base, eArs l, .int .i64 from_] [.rp (cVw ⟨b, base, l, posL from_ l, finL from_ l⟩)] := by
  refine zCx rfl fun hs => ?_
  simp -dsimp [zqd, eBl, cBl, eArs, cVw]
  refine zam l.length (fun i st => st.s 18 = .d (eArs l) ∧ st.s 19 = .d (.int .i64 l.length) ∧ st.s 20 = .d (.int .i64 i) ∧ st.s 9 = .ptr 17 1 0 ∧ ∃ c, st.h 17 = ⟨1, .box [.d (eSos b.sorts), .d (eCos b.cons), .d (.int .i64 b.elim), .d (.int .i64 base), .d (eArs l), c, .d (.int .i64 (finL from_ (l.take i)))] false⟩ ∧
    ((i = 0 ∧ c = .fsl 1 []) ∨ (0 < i ∧ ∃ v, c = .rsl 34 v ∧ st.h 34 = ⟨v, .row 1 ((posL from_ (l.take i)).map (.int .i64)) false⟩))) ?_ ?_
  · simp -dsimp [eArs, finL]
  · rintro i ⟨s, hp⟩ hi ⟨g18, g19, g20, g9, c, k17, k34⟩
    dsimp only at g18 g19 g20 g9 k17 k34
    simp only [eArs] at g18 k17
    rcases Nat.lt_or_ge i l.length with hlt | hge
    · have w1 : IntKind.i64.wrap ((i : Int) + 1) = (i : Int) + 1 := zad (by omega) (by omega)
      have hfl := zpj (l.take i) from_
      rw [List.length_take] at hfl
      have hfs := zrf l from_ i hlt
      have hps := zFv l from_ i hlt
      have hpl := zf1 (l.take i) from_
      rw [List.length_take] at hpl
      generalize finL from_ (l.take (i + 1)) = F' at *
      generalize finL from_ (l.take i) = F at *
      generalize posL from_ (l.take (i + 1)) = P' at *
      generalize posL from_ (l.take i) = P at *
      subst hps
      generalize hR : l[i] = R at *
      have w2 : IntKind.i64.wrap (F + 1) = F + 1 := zad (by omega) (by omega)
      have w3 : IntKind.i64.wrap (F + 1 + 1) = F + 2 := by rw [zad (by omega) (by omega)]; omega
      have hr : (P.length + 1) * 8 ≤ zal := by simp only [zal]; omega
      have hP0 : i = 0 → P = [] := fun h => List.length_eq_zero_iff.1 (by omega)
      rcases k34 with ⟨rfl, rfl⟩ | ⟨hi0, v, rfl, k34⟩
      · have hPn := hP0 rfl
        subst hPn
        have w1' : IntKind.i64.wrap 1 = 1 := by rfl
        cases hrc : R.rc with
        | true =>
          rw [hrc, if_pos rfl] at hfs
          simp -dsimp [g18, g19, g20, g9, k17, hlt, hR, hrc, eAr, cAr, cT, w1', w2, w3, (by decide : 8 ≤ zal), eArs, hfs]
        | false =>
          rw [hrc, if_neg (by simp)] at hfs
          simp -dsimp [g18, g19, g20, g9, k17, hlt, hR, hrc, eAr, cAr, cT, w1', w2, w3, (by decide : 8 ≤ zal), eArs, hfs]
      · cases hrc : R.rc with
        | true =>
          rw [hrc, if_pos rfl] at hfs
          simp -dsimp [g18, g19, g20, g9, k17, k34, hlt, hR, hrc, eAr, cAr, cT, w1, w2, w3, hr, eArs, hfs]
        | false =>
          rw [hrc, if_neg (by simp)] at hfs
          simp -dsimp [g18, g19, g20, g9, k17, k34, hlt, hR, hrc, eAr, cAr, cT, w1, w2, w3, hr, eArs, hfs]
    · have e : i = l.length := by omega
      subst e
      rw [List.take_length] at k17 k34
      rcases k34 with ⟨hz, rfl⟩ | ⟨hi0, v, rfl, k34⟩
      · have hl0 : l = [] := List.length_eq_zero_iff.1 hz
        subst hl0
        simp -dsimp [g18, g19, g20, g9, k17, posL]
      · simp -dsimp [g18, g19, g20, g9, k17, k34]
def lv (l vars : Int) : T := .mk 1 (vars - 1 - l) []
theorem zls (l vars : Int) (h0 : -1000000 ≤ l) (h1 : l ≤ 1000000) (h2 : -1000000 ≤ vars) (h3 : vars ≤ 1000000) : Pure Tryz.prog zd3 [.int .i64 l, .int .i64 vars] [.agg (cT (lv l vars))] := by
  refine zCt rfl fun hs => ?_
  have w1 : IntKind.i64.wrap (vars - 1) = vars - 1 := zad (by omega) (by omega)
  have w2 : IntKind.i64.wrap (vars - 1 - l) = vars - 1 - l := zad (by omega) (by omega)
  have hV := v_ok (vars - 1 - l)
  simp only [cT, tk, tn, tks, List.map_nil] at hV
  simp -dsimp [zoi, w1, w2]
  refine zaa hV ?_
  simp -dsimp [lv, cT]
def putF (pos : List Int) (first : Nat) (more vars n b : Int) : T :=
  if n < more + b ∨ (first : Int) ≤ n - (more + b) then .mk 1 n [] else .mk 1 (vars - 1 - (pos[first - 1 - (n - (more + b)).toNat]?).getD 0 + (more + b)) []
def putT (v : Vw) (t : T) (first : Nat) (more vars : Int) : T := mapT (putF v.pos first more vars) t 0
structure Pos (v : Vw) : Prop where
  len : v.pos.length ≤ 1000
  at_ : ∀ p ∈ v.pos, 0 ≤ p ∧ p ≤ 10000
theorem zOb (v : Vw) (hp : Pos v) (first : Nat) (hf : first ≤ v.pos.length) (more vars : Int) (h0 : 0 ≤ more) (h1 : more ≤ 10000) (h2 : 0 ≤ vars) (h3 : vars ≤ 10000) (n b : Int) (hn0 : 0 ≤ n) (hn1 : n ≤ 65535) (hb0 : 0 ≤ b) (hb1 : b ≤ 1099511627776) :
    Pure Tryz.prog zff [.int .i64 n, .int .i64 b, .rp [.int .i64 more], .rp [.int .i64 first], .rp [.rp (cVw v)], .rp [.int .i64 vars]] [.agg (cT (putF v.pos first more vars n b))] := by
  refine zs5 rfl fun hs => ?_
  have hpl := hp.len
  have w1 : IntKind.i64.wrap (more + b) = more + b := zad (by omega) (by omega)
  have w2 : IntKind.i64.wrap (n - (more + b)) = n - (more + b) := zad (by omega) (by omega)
  have hV1 := v_ok n
  simp only [cT, tk, tn, tks, List.map_nil] at hV1
  simp -dsimp [zhz, w1]
  by_cases c1 : n < more + b
  · have e : putF v.pos first more vars n b = .mk 1 n [] := by rw [putF, if_pos (.inl c1)]
    rw [e]
    simp -dsimp [c1]
    refine zaa hV1 ?_
    simp -dsimp [cT]
  by_cases c2 : (first : Int) ≤ n - (more + b)
  · have e : putF v.pos first more vars n b = .mk 1 n [] := by rw [putF, if_pos (.inr c2)]
    rw [e]
    simp -dsimp [c1, c2, w2]
    refine zaa hV1 ?_
    simp -dsimp [cT]
  obtain ⟨j, hj⟩ : ∃ j : Nat, (first : Int) - 1 - (n - (more + b)) = j := ⟨((first : Int) - 1 - (n - (more + b))).toNat, by omega⟩
  have hjl : j < v.pos.length := by omega
  have hje : first - 1 - (n - (more + b)).toNat = j := by omega
  have hge : v.pos[j]? = some v.pos[j] := List.getElem?_eq_getElem hjl
  have e : putF v.pos first more vars n b = .mk 1 (vars - 1 - v.pos[j] + (more + b)) [] := by rw [putF, if_neg (by omega), hje, hge]; rfl
  have hpj := hp.at_ _ (List.getElem_mem hjl)
  generalize hP : v.pos[j] = p at *
  rw [e]
  have w3 : IntKind.i64.wrap ((first : Int) - 1) = (first : Int) - 1 := zad (by omega) (by omega)
  have w4 : IntKind.i64.wrap ((first : Int) - 1 - (n - (more + b))) = (j : Int) := by rw [zad (by omega) (by omega), hj]
  have w5 : IntKind.i64.wrap (vars - 1) = vars - 1 := zad (by omega) (by omega)
  have w6 : IntKind.i64.wrap (vars - 1 - p) = vars - 1 - p := zad (by omega) (by omega)
  have w7 : IntKind.i64.wrap (vars - 1 - p + (more + b)) = vars - 1 - p + (more + b) := zad (by omega) (by omega)
  have hV2 := v_ok (vars - 1 - p + (more + b))
  simp only [cT, tk, tn, tks, List.map_nil] at hV2
  simp -dsimp [c1, c2, w2, w3, w4, w5, w6, w7, cVw, cBl, hjl, hge, hP]
  refine zaa hV2 ?_
  simp -dsimp [cT]
theorem zwa (v : Vw) (hp : Pos v) (t : T) (ft : zab t = true) (hn : zac t ≤ 1000000) (first : Nat) (hf : first ≤ v.pos.length) (more vars : Int) (h0 : 0 ≤ more) (h1 : more ≤ 10000) (h2 : 0 ≤ vars) (h3 : vars ≤ 10000) :
    Pure Tryz.prog zbp [.rp (cVw v), .agg (cT t), .int .i64 first, .int .i64 more, .int .i64 vars] [.agg (cT (putT v t first more vars))] := by
  refine zv6 rfl fun hs => ?_
  have hM := zJt (putF v.pos first more vars) zff [.rp [.int .i64 more], .rp [.int .i64 first], .rp [.rp (cVw v)], .rp [.int .i64 vars]] (fun n b hn0 hn1 hb0 hb1 => zOb v hp first hf more vars h0 h1 h2 h3 n b hn0 hn1 hb0 hb1) t 0 ft (by omega) (by omega)
  simp only [cVw, cBl, cT, List.cons_append, List.nil_append] at hM
  simp -dsimp [zkh, cT, cVw, cBl]
  refine zaa hM ?_
  simp -dsimp [cT, putT]
end
end
section
section
attribute [local simp] zae zaf tk tn tks zb6 zb9 zbb zbe zba zb8
theorem zP5 {f : Int → Int → T} (hf : ∀ n b : Int, 0 ≤ n → n ≤ 65535 → 0 ≤ b → b ≤ 1099511627776 → okT (f n b)) (t : T) : ∀ b : Int, zab t = true → okT t → 0 ≤ b → b + zac t ≤ 1099511627776 → okT (mapT f t b) := by
  refine T.ind (p := fun t => ∀ b : Int, zab t = true → okT t → 0 ≤ b → b + zac t ≤ 1099511627776 → okT (mapT f t b)) ?_ t
  intro k n ks ih b fm ho h0 hb
  rw [mapT]
  split
  · rename_i h1
    have hn := zc9 h1 fm
    exact hf n b hn.1 hn.2 h0 (by omega)
  · cases ho with
    | mk _ _ _ hk hn hl h =>
      refine .mk k n _ hk hn (by rw [zja]; exact hl) fun x hx => ?_
      obtain ⟨j, hj, rfl⟩ := List.mem_iff_getElem.1 hx
      rw [zja] at hj
      rw [zow f k b ks 0 j hj]
      have hkn := zcq (k := k) (n := n) (List.getElem_mem hj : ks[j] ∈ ks)
      have hbl := zdf k (0 + j : Nat)
      exact ih _ (List.getElem_mem hj) _ (zbm fm _ (List.getElem_mem hj)) (h _ (List.getElem_mem hj)) (by omega) (by omega)
theorem zsq {v : Vw} (hp : Pos v) {t : T} (ft : zab t = true) (ot : okT t) (hn : zac t ≤ 1000000) (first : Nat) (more vars : Int) (h0 : 0 ≤ more) (h1 : more ≤ 10000) (h2 : 0 ≤ vars) (h3 : vars ≤ 10000) : okT (putT v t first more vars) := by
  refine zP5 (fun n b a1 a2 a3 a4 => ?_) t 0 ft ot (by omega) (by omega)
  rw [putF]
  split
  · exact .mk _ _ _ (by simp only [n64]; omega) (by simp only [n64]; omega) (by simp) (by simp)
  · have hpj : 0 ≤ (v.pos[first - 1 - (n - (more + b)).toNat]?).getD 0 ∧ (v.pos[first - 1 - (n - (more + b)).toNat]?).getD 0 ≤ 10000 := by
      cases hg : v.pos[first - 1 - (n - (more + b)).toNat]? with
      | none => simp
      | some p => exact hp.at_ _ (List.mem_of_getElem? hg)
    generalize (v.pos[first - 1 - (n - (more + b)).toNat]?).getD 0 = p at hpj
    exact .mk _ _ _ (by simp only [n64]; omega) (by simp only [n64]; omega) (by simp) (by simp)
theorem zPp (v : Vw) (hp : Pos v) (l : List T) (hl : l.length ≤ 1000000) (hf : ∀ x ∈ l, zab x = true ∧ zac x ≤ 1000000) (first : Nat) (hfi : first ≤ v.pos.length) (more vars : Int) (h0 : 0 ≤ more) (h1 : more ≤ 10000) (h2 : 0 ≤ vars) (h3 : vars ≤ 10000) :
    Pure Tryz.prog zit [.rp (cVw v), eTs l, .int .i64 first, .int .i64 more, .int .i64 vars] [eTs (l.map fun x => putT v x first more vars)] := by
  refine zup rfl fun hs => ?_
  simp -dsimp [zi0, eTs]
  refine zam l.length (fun i st => (st.s 0 = .d (.rp (cVw v)) ∧ st.s 2 = .d (.int .i64 first) ∧ st.s 3 = .d (.int .i64 more) ∧ st.s 4 = .d (.int .i64 vars)) ∧ (st.s 10 = .rsl 10 1 ∧ st.h 10 = ⟨1, .row 3 [] false⟩) ∧ (st.s 14 = .d (eTs l) ∧ st.s 15 = .d (.int .i64 l.length)) ∧ st.s 16 = .d (.int .i64 i) ∧
    ∃ u, st.s 11 = .rsl 11 u ∧ st.h 11 = ⟨u, .row 3 (((l.map fun x => putT v x first more vars).take i).map eT) false⟩) ?_ ?_
  · simp -dsimp [eTs]
  · rintro i ⟨s, hp'⟩ hi ⟨⟨g0, g2, g3, g4⟩, ⟨g10, k10⟩, ⟨g14, g15⟩, g16, u, g11, k11⟩
    dsimp only at g0 g2 g3 g4 g10 k10 g14 g15 g16 g11 k11
    simp only [eTs] at g14
    rcases Nat.lt_or_ge i l.length with hlt | hge
    · have w1 : IntKind.i64.wrap ((i : Int) + 1) = (i : Int) + 1 := zad (by omega) (by omega)
      obtain ⟨x1, x2⟩ := hf _ (List.getElem_mem hlt)
      have hP := zwa v hp l[i] x1 x2 first hfi more vars h0 h1 h2 h3
      have hn : ((l.map fun x => putT v x first more vars).take (i + 1)).map eT = ((l.map fun x => putT v x first more vars).take i).map eT ++ [.agg (cT (putT v l[i] first more vars))] := by
        rw [zdb (List.getElem?_eq_getElem (by simpa using hlt)), List.map_append]
        simp [zcc]
      generalize hX : putT v l[i] first more vars = X at *
      generalize hM : (l.map fun x => putT v x first more vars) = M at *
      have hMl : M.length = l.length := by rw [← hM, List.length_map]
      have hr : (min i M.length + 1) * 40 ≤ zal := by simp only [zal]; omega
      rw [hn]
      simp only [cT] at hP
      simp -dsimp [g0, g2, g3, g4, g10, k10, g14, g15, g16, g11, k11, hlt, cT]
      refine zaa hP ?_
      simp -dsimp [g0, g2, g3, g4, g10, k10, g14, g15, g16, g11, k11, hlt, cT, hr, w1, eTs]
      try exact hlt
    · have e : i = l.length := by omega
      subst e
      rw [List.take_of_length_le (by simp)] at k11
      simp -dsimp [g0, g2, g3, g4, g10, k10, g14, g15, g16, g11, k11]
theorem zjs (t : T) : zab t = true → zab (spH t) = true ∧ ∀ x ∈ spA t, zab x = true := by
  refine T.ind (p := fun t => zab t = true → zab (spH t) = true ∧ ∀ x ∈ spA t, zab x = true) ?_ t
  intro k n ks ih hf
  by_cases hc : k = 6 ∧ ∃ a b, ks = [a, b]
  · obtain ⟨rfl, a, b, rfl⟩ := hc
    have ha := zbm hf a (by simp)
    have hb := zbm hf b (by simp)
    obtain ⟨i1, i2⟩ := ih a (by simp) ha
    rw [(zfj n a b).1, (zfj n a b).2]
    refine ⟨i1, fun x hx => ?_⟩
    rcases List.mem_cons.1 hx with rfl | hx
    · exact hb
    · exact i2 x hx
  · rw [(zej hc).1, (zej hc).2]
    exact ⟨hf, by simp⟩
theorem zkq {p : Pl} {t : T} (h : za9 p t = true) : t.kind = 1 ∧ ∃ j : Nat, zec p t = j ∧ j < p.args.length := by
  rw [za9] at h
  cases hJ : ze6 p t with
  | none => rw [hJ] at h; cases h
  | some j =>
    have e : zec p t = j := by rw [zec, hJ]
    rw [ze6] at hJ
    split at hJ
    · rename_i hh
      cases hJ
      exact ⟨hh.1, _, e, by omega⟩
    · cases hJ
def gdI (l : List Ar) (more : Int) (t : T) : Int := if za9 ⟨⟨[], [], 0⟩, 0, l, more⟩ t then zec ⟨⟨[], [], 0⟩, 0, l, more⟩ t else -1
theorem gd_ok (l : List Ar) (more : Int) (t : T) (h0 : 0 ≤ more) (h1 : more ≤ 1000000000) (hl : l.length ≤ 1000000) (hn : n64 t.num) : Pure Tryz.prog zjx [eArs l, .int .i64 more, .agg (cT t)] [.int .i64 (gdI l more t)] := by
  refine zv3 rfl fun hs => ?_
  have hG := zlr ⟨⟨[], [], 0⟩, 0, l, more⟩ t h0 h1 hl hn
  rw [gdI]
  simp only [cPl, cBl, cT, eSos, eCos, eArs, List.map_nil, List.cons_append, List.nil_append] at hG
  simp -dsimp [zj3, cT, eArs]
  refine zaa hG ?_
  cases hb : za9 ⟨⟨[], [], 0⟩, 0, l, more⟩ t with
  | true => simp -dsimp [hb]
  | false => simp -dsimp [hb]
def shA (pt sh : T → T) : List Ar → List T → List T
  | a :: ar, x :: xs => pt x :: (if a.rc then sh x :: shA pt sh ar xs else shA pt sh ar xs)
  | _, _ => []
theorem zyz (pt sh : T → T) : ∀ (ar : List Ar) (xs : List T) (i : Nat) (h : i < ar.length) (h' : i < xs.length), shA pt sh (ar.take (i + 1)) xs = shA pt sh (ar.take i) xs ++ (pt xs[i] :: if ar[i].rc then [sh xs[i]] else [])
  | a :: ar, x :: xs, 0, h, h' => by cases hr : a.rc <;> simp [shA, hr]
  | a :: ar, x :: xs, i + 1, h, h' => by
    have ih := zyz pt sh ar xs i (by simpa using h) (by simpa using h')
    simp only [List.take_succ_cons, shA, List.getElem_cons_succ]
    rw [ih]
    cases a.rc <;> simp
theorem zwh (pt sh : T → T) : ∀ (ar : List Ar) (xs : List T), (shA pt sh ar xs).length ≤ 2 * ar.length
  | [], xs => by simp [shA]
  | a :: ar, [] => by simp [shA]
  | a :: ar, x :: xs => by
    have := zwh pt sh ar xs
    rw [shA]
    cases a.rc <;> simp <;> omega
theorem zww {pt sh : T → T} {q : T → Prop} : ∀ (ar : List Ar) (xs : List T), (∀ (i : Nat) (h : i < ar.length) (h' : i < xs.length), q (pt xs[i]) ∧ (ar[i].rc = true → q (sh xs[i]))) → ∀ y ∈ shA pt sh ar xs, q y
  | [], xs, _, y, hy => by simp [shA] at hy
  | a :: ar, [], _, y, hy => by simp [shA] at hy
  | a :: ar, x :: xs, h, y, hy => by
    have h0 := h 0 (by simp) (by simp)
    simp only [List.getElem_cons_zero] at h0
    have ih := zww ar xs (q := q) fun i hi hi' => by
      have := h (i + 1) (by simpa using hi) (by simpa using hi')
      simpa only [List.getElem_cons_succ] using this
    rw [shA] at hy
    cases hr : a.rc with
    | true =>
      rw [hr] at hy
      simp only [if_true, List.mem_cons] at hy
      rcases hy with rfl | rfl | hy
      · exact h0.1
      · exact h0.2 hr
      · exact ih y hy
    | false =>
      rw [hr] at hy
      simp only [Bool.false_eq_true, if_false, List.mem_cons] at hy
      rcases hy with rfl | hy
      · exact h0.1
      · exact ih y hy
def plV (v : Vw) (first : Nat) (more : Int) : Pl := ⟨v.b, v.base, v.args.take first, more⟩
def shT (v : Vw) (first : Nat) (more vars : Int) : Nat → T → T
  | 0, _ => zT
  | n + 1, t =>
    if za9 (plV v first more) (spH t) then spT (lv ((v.pos[(zec (plV v first more) (spH t)).toNat]?).getD 0 + 1) (vars + more)) ((spA t).reverse.map fun x => putT v x first more vars)
    else spT (lv (v.b.sorts.length + (ofM v.b v.base (spH t).num).2) (vars + more)) (match v.b.cons[(ofM v.b v.base (spH t).num).2.toNat]? with
      | some c => shA (fun x => putT v x first more vars) (shT v first more vars n) c.args (spA t).reverse
      | none => [])
theorem ztz {l vars : Int} (h0 : -1000000 ≤ l) (h1 : l ≤ 1000000) (h2 : -1000000 ≤ vars) (h3 : vars ≤ 1000000) : okT (lv l vars) := .mk _ _ _ (by simp only [n64]; omega) (by simp only [n64]; omega) (by simp) (by simp)
structure VwOk (v : Vw) : Prop where
  pos : Pos v
  len : v.pos.length = v.args.length
  al : v.args.length ≤ 20
  sl : v.b.sorts.length ≤ 10
  cl : v.b.cons.length ≤ 20
  ca : ∀ c ∈ v.b.cons, c.args.length ≤ 20
  si : ∀ s ∈ v.b.sorts, s.idx.length ≤ 20
theorem zFd {n : Nat} (h : n ≤ 40) : (n + 1 + 1) * 40 ≤ zal := by simp only [zal]; omega
theorem zq9 {n : Nat} (h : n ≤ 40) (_ : True) : (n + 1) * 40 ≤ zal := by simp only [zal]; omega
set_option maxHeartbeats 1000000 in
theorem zLr (v : Vw) (hv : VwOk v) (first : Nat) (hfi : first ≤ v.args.length) (more vars : Int) (h0 : 0 ≤ more) (h1 : more ≤ 1000) (h2 : 0 ≤ vars) (h3 : vars ≤ 1000) (cons : Int) : ∀ (n : Nat) (t : T), n ≤ 1000000 → zab t = true → okT t → zac t ≤ n →
    (za9 (plV v first more) (spH t) = true ∨ zcy n (plV v first more) t cons = true) →
    Pure Tryz.prog zcz [.rp (cVw v), .agg (cT t), .int .i64 first, .int .i64 more, .int .i64 vars] [.agg (cT (shT v first more vars n t))] ∧ okT (shT v first more vars n t) := by
  intro n
  induction n with
  | zero => intro t _ _ _ h; have := zhl t; omega
  | succ n ih =>
    intro t hN ft ot hn hg
    have hp := hv.pos
    have hpl := hv.len
    have hal := hv.al
    have hsl := hv.sl
    have hcl := hv.cl
    have hA := zt0 t
    have hS := zu7 t (by omega)
    obtain ⟨m1, m2⟩ := zh3 t
    obtain ⟨oH, m3⟩ := m2 ot
    obtain ⟨fH, m4⟩ := zjs t ft
    have hm : ∀ x ∈ (spA t).reverse, zac x < zac t ∧ okT x ∧ zab x = true := fun x hx => ⟨m1 x (by simpa using hx), m3 x (by simpa using hx), m4 x (by simpa using hx)⟩
    have hAl : (spA t).reverse.length ≤ 1000000 := by rw [List.length_reverse]; omega
    have hG := gd_ok (v.args.take first) more (spH t) h0 (by omega) (by rw [List.length_take]; omega) oH.num64
    have hO := zMh v.b v.base (spH t).num
    have hgB : za9 ⟨⟨[], [], 0⟩, 0, v.args.take first, more⟩ (spH t) = za9 (plV v first more) (spH t) := rfl
    have hgN : zec ⟨⟨[], [], 0⟩, 0, v.args.take first, more⟩ (spH t) = zec (plV v first more) (spH t) := rfl
    rw [gdI, hgB, hgN] at hG
    have wv : IntKind.i64.wrap (vars + more) = vars + more := zad (by omega) (by omega)
    by_cases hb : za9 (plV v first more) (spH t) = true
    · obtain ⟨_, j, hj, hjl⟩ := zkq hb
      have hjl' : j < v.pos.length := by simp only [plV, List.length_take] at hjl; omega
      have hge : v.pos[j]? = some v.pos[j] := List.getElem?_eq_getElem hjl'
      have hpj := hp.at_ _ (List.getElem_mem hjl')
      have e : shT v first more vars (n + 1) t = spT (lv (v.pos[j] + 1) (vars + more)) ((spA t).reverse.map fun x => putT v x first more vars) := by
        rw [shT, if_pos hb, hj, Int.toNat_natCast, hge]; rfl
      rw [if_pos hb, hj] at hG
      rw [e]
      have oL : okT (lv (v.pos[j] + 1) (vars + more)) := ztz (by omega) (by omega) (by omega) (by omega)
      have oP : ∀ x ∈ (spA t).reverse.map (fun x => putT v x first more vars), okT x := fun y hy => by
        obtain ⟨x, hx, rfl⟩ := List.mem_map.1 hy
        exact zsq hp (hm x hx).2.2 (hm x hx).2.1 (by have := (hm x hx).1; omega) first more vars h0 (by omega) h2 (by omega)
      refine ⟨?_, zi6 _ _ oL oP⟩
      have hL := zls (v.pos[j] + 1) (vars + more) (by omega) (by omega) (by omega) (by omega)
      have hPs := zPp v hp (spA t).reverse hAl (fun x hx => ⟨(hm x hx).2.2, by have := (hm x hx).1; omega⟩) first (by omega) more vars h0 (by omega) h2 (by omega)
      have hSp := zhq (lv (v.pos[j] + 1) (vars + more)) ((spA t).reverse.map fun x => putT v x first more vars) (by rw [List.length_map]; omega) oL ⟨by rw [List.length_map]; omega, oP⟩
      have w1 : IntKind.i64.wrap (v.pos[j] + 1) = v.pos[j] + 1 := zad (by omega) (by omega)
      generalize spT (lv (v.pos[j] + 1) (vars + more)) ((spA t).reverse.map fun x => putT v x first more vars) = R at *
      generalize ((spA t).reverse.map fun x => putT v x first more vars) = M at *
      generalize (spA t).reverse = A at *
      generalize spH t = H at *
      generalize hPj : v.pos[j] = p at *
      generalize lv (p + 1) (vars + more) = L at *
      refine zlq rfl fun hs => ?_
      simp only [cVw, cBl, cT, eTs, eArs, List.map_take, List.cons_append, List.nil_append] at hS hG hL hPs hSp
      simp -dsimp [ze9, cT, cVw, cBl]
      refine zaa hS ?_
      have hfl : (first : Int) ≤ v.args.length := by omega
      simp -dsimp [eArs, hfl, hfi]
      refine zaa hG ?_
      simp -dsimp [hjl', hge, hPj, w1, wv]
      refine zaa hL ?_
      simp -dsimp
      refine zaa hPs ?_
      simp -dsimp
      refine zaa hSp ?_
      simp -dsimp [cT]
    · have hgood := hg.resolve_left hb
      rw [zcy] at hgood
      simp only [zz6] at hgood
      rw [if_neg hb] at hgood
      have hb' : za9 (plV v first more) (spH t) = false := by simpa using hb
      by_cases k3 : (spH t).kind = 3
      case neg => rw [if_neg k3] at hgood; cases hgood
      rw [if_pos k3] at hgood
      have eb : (plV v first more).b = v.b := rfl
      have ebase : (plV v first more).base = v.base := rfl
      rw [eb, ebase] at hgood
      by_cases k5 : (ofM v.b v.base (spH t).num).1 = 5
      case neg => rw [if_neg k5] at hgood; cases hgood
      rw [if_pos k5] at hgood
      by_cases k6 : (ofM v.b v.base (spH t).num).2 < cons
      case neg => rw [if_neg k6] at hgood; cases hgood
      rw [if_pos k6] at hgood
      obtain ⟨c, c1, c2, c3⟩ := zDb k5
      have hgc : v.b.cons[c]? = some v.b.cons[c] := List.getElem?_eq_getElem c1
      have e : shT v first more vars (n + 1) t = spT (lv (v.b.sorts.length + c) (vars + more)) (shA (fun x => putT v x first more vars) (shT v first more vars n) v.b.cons[c].args (spA t).reverse) := by
        rw [shT, if_neg hb, c3]
        simp only [Int.toNat_natCast, hgc]
      rw [c3] at hgood
      simp only [Int.toNat_natCast, hgc] at hgood
      have hcal := hv.ca _ (List.getElem_mem c1)
      by_cases k7 : (spA t).reverse.length = v.b.cons[c].args.length
      case neg => rw [if_neg k7] at hgood; cases hgood
      rw [if_pos k7] at hgood
      have hrec : ∀ (i : Nat) (h : i < v.b.cons[c].args.length) (h' : i < (spA t).reverse.length), v.b.cons[c].args[i].rc = true →
          Pure Tryz.prog zcz [.rp (cVw v), .agg (cT (spA t).reverse[i]), .int .i64 first, .int .i64 more, .int .i64 vars] [.agg (cT (shT v first more vars n (spA t).reverse[i]))] ∧ okT (shT v first more vars n (spA t).reverse[i]) := fun i h h' hr => by
        obtain ⟨x1, x2, x3⟩ := hm _ (List.getElem_mem h')
        refine ih _ (by omega) x3 x2 (by omega) ?_
        have hA := (zan _ _ _).1 hgood i h
        rw [Nat.zero_add, List.getElem?_eq_getElem h'] at hA
        simp only [fitA, hr, if_true] at hA
        split at hA
        · exact .inr hA
        · have hk := (zkq hA).1
          refine .inl ?_
          have : spH (spA t).reverse[i] = (spA t).reverse[i] := by
            generalize (spA t).reverse[i] = x at hk
            obtain ⟨k, m, ks⟩ := x
            have hk' : k = 1 := hk
            exact (zej (fun h => by omega)).2
          rw [this]
          exact hA
      have hput : ∀ (i : Nat) (h' : i < (spA t).reverse.length), Pure Tryz.prog zbp [.rp (cVw v), .agg (cT (spA t).reverse[i]), .int .i64 first, .int .i64 more, .int .i64 vars] [.agg (cT (putT v (spA t).reverse[i] first more vars))] := fun i h' => by
        obtain ⟨x1, x2, x3⟩ := hm _ (List.getElem_mem h')
        exact zwa v hp _ x3 (by omega) first (by omega) more vars h0 (by omega) h2 (by omega)
      have oAll : ∀ y ∈ shA (fun x => putT v x first more vars) (shT v first more vars n) v.b.cons[c].args (spA t).reverse, okT y := zww _ _ fun i h h' => by
        obtain ⟨x1, x2, x3⟩ := hm _ (List.getElem_mem h')
        exact ⟨zsq hp x3 x2 (by omega) first more vars h0 (by omega) h2 (by omega), fun hr => (hrec i h h' hr).2⟩
      have oL : okT (lv (v.b.sorts.length + c) (vars + more)) := ztz (by omega) (by omega) (by omega) (by omega)
      rw [e]
      refine ⟨?_, zi6 _ _ oL oAll⟩
      have hlen := zwh (fun x => putT v x first more vars) (shT v first more vars n) v.b.cons[c].args (spA t).reverse
      have hL := zls (v.b.sorts.length + c) (vars + more) (by omega) (by omega) (by omega) (by omega)
      have hSp := zhq (lv (v.b.sorts.length + c) (vars + more)) _ (by omega : (shA (fun x => putT v x first more vars) (shT v first more vars n) v.b.cons[c].args (spA t).reverse).length ≤ 100000000) oL ⟨by omega, oAll⟩
      have w1 : IntKind.i64.wrap ((v.b.sorts.length : Int) + (c : Int)) = v.b.sorts.length + c := zad (by omega) (by omega)
      rw [if_neg hb] at hG
      rw [c3] at hO
      generalize spT (lv (v.b.sorts.length + c) (vars + more)) (shA (fun x => putT v x first more vars) (shT v first more vars n) v.b.cons[c].args (spA t).reverse) = R at *
      have hsn := zyz (fun x => putT v x first more vars) (shT v first more vars n) v.b.cons[c].args (spA t).reverse
      have hsl2 := fun i => zwh (fun x => putT v x first more vars) (shT v first more vars n) (v.b.cons[c].args.take i) (spA t).reverse
      clear hgood oAll oL hm m1 m2 m3 m4 e ih
      generalize (spA t).reverse = A at *
      generalize spH t = H at *
      generalize lv (v.b.sorts.length + c) (vars + more) = L at *
      refine zlq rfl fun hs => ?_
      simp only [cVw, cBl, eBl, cT, eTs, eArs, List.map_take, List.cons_append, List.nil_append] at hS hG hO hL hSp
      simp -dsimp [ze9, cT, cVw, cBl]
      refine zaa hS ?_
      have hfl : (first : Int) ≤ v.args.length := by omega
      simp -dsimp [eArs, hfl, hfi]
      refine zaa hG ?_
      simp -dsimp
      refine zaa hO ?_
      generalize hCc : v.b.cons[c] = C at *
      simp -dsimp [c1, hgc, hCc, eCos, eCo, cCo, cT, eArs]
      refine zam C.args.length (fun i st => (st.s 0 = .d (.rp (cVw v)) ∧ st.s 2 = .d (.int .i64 first) ∧ st.s 3 = .d (.int .i64 more) ∧ st.s 4 = .d (.int .i64 vars)) ∧ (st.s 10 = .ptr 10 1 0 ∧ st.h 10 = ⟨1, .box [.d (.int .i64 0), .d (.int .i64 0), .fsl 3 []] false⟩) ∧
        (st.s 12 = .d (eTs A) ∧ st.s 15 = .d (.int .i64 c)) ∧ (st.s 76 = .d (eArs C.args) ∧ st.s 77 = .d (.int .i64 C.args.length)) ∧ st.s 78 = .d (.int .i64 i) ∧
        ∃ u, st.s 16 = .rsl 16 u ∧ st.h 16 = ⟨u, .row 3 ((shA (fun x => putT v x first more vars) (shT v first more vars n) (C.args.take i) A).map eT) false⟩) ?_ ?_
      · simp -dsimp [cVw, cBl, eTs, eArs, eCos, shA]
      · rintro i ⟨s, hp'⟩ hi ⟨⟨g0, g2, g3, g4⟩, ⟨g10, k10⟩, ⟨g12, g15⟩, ⟨g76, g77⟩, g78, u, g16, k16⟩
        dsimp only at g0 g2 g3 g4 g10 k10 g12 g15 g76 g77 g78 g16 k16
        simp only [eTs, eArs] at g12 g76
        rcases Nat.lt_or_ge i C.args.length with hlt | hge
        · have w2 : IntKind.i64.wrap ((i : Int) + 1) = (i : Int) + 1 := zad (by omega) (by omega)
          have hltA : i < A.length := by omega
          have hsn1 := hsn i hlt hltA
          have hsl1 := hsl2 i
          rw [List.length_take] at hsl1
          have hPi := hput i hltA
          have hRi := hrec i hlt hltA
          generalize hAr : C.args[i] = Ar_ at *
          generalize hX : A[i] = X at *
          rw [hsn1]
          generalize shA (fun x => putT v x first more vars) (shT v first more vars n) (C.args.take i) A = G at *
          have hgl : G.length ≤ 40 := by omega
          have r1 : (G.length + 1) * 40 ≤ zal := zq9 hgl trivial
          have r2 : (G.length + 1 + 1) * 40 ≤ zal := zFd hgl
          simp only [cT] at hPi hRi
          simp -dsimp [g0, g2, g3, g4, g10, k10, g12, g15, g76, g77, g78, g16, k16, hlt, hltA, hAr, hX, eAr, cAr, cT]
          refine zaa hPi ?_
          cases hr : Ar_.rc with
          | false => simp -dsimp [g0, g2, g3, g4, g10, k10, g12, g15, g76, g77, g78, g16, k16, hlt, hltA, hAr, hX, eAr, cAr, cT, hr, r1, w2, zcc, eTs, eArs]
          | true =>
            have hRi' := (hRi hr).1
            simp -dsimp [g0, g2, g3, g4, g10, k10, g12, g15, g76, g77, g78, g16, k16, hlt, hltA, hAr, hX, eAr, cAr, cT, hr, r1]
            refine zaa hRi' ?_
            simp -dsimp [g0, g2, g3, g4, g10, k10, g12, g15, g76, g77, g78, g16, k16, hlt, hltA, hAr, hX, eAr, cAr, cT, hr, r1, r2, w2, zcc, eTs, eArs]
        · have e : i = C.args.length := by omega
          subst e
          rw [List.take_length] at k16
          simp -dsimp [g0, g2, g3, g4, g10, k10, g12, g15, g76, g77, g78, g16, k16, cVw, cBl, eSos, w1, wv]
          refine zaa hL ?_
          simp -dsimp [g0, g2, g3, g4, g10, k10, g12, g15, g76, g77, g78, g16, k16, cT]
          refine zaa hSp ?_
          simp -dsimp [g10, k10, cT]
end
end
section
section
attribute [local simp] zae zaf tk tn tks zb6 zb9 zbb zbe zba zb8
def inT (v : Vw) (n : Nat) (so : So) (l : List T) (first : Nat) (more vars : Int) : List T := shA (fun x => putT v x first more vars) (shT v first more vars n) so.idx l
theorem zqv (v : Vw) (hv : VwOk v) (n : Nat) (hN : n ≤ 1000000) (k : Int) (so : So) (hk0 : 0 ≤ k) (hk : v.b.sorts[k.toNat]? = some so) (l : List T) (hll : l.length = so.idx.length) (first : Nat) (hfi : first ≤ v.args.length) (more vars : Int) (h0 : 0 ≤ more) (h1 : more ≤ 1000) (h2 : 0 ≤ vars) (h3 : vars ≤ 1000) (cons : Int)
    (hl : ∀ x ∈ l, zab x = true ∧ okT x ∧ zac x ≤ n) (hg : indF n (plV v first more) so l cons = true) :
    OwnC Tryz.prog zea [.rp (cVw v), .int .i64 k, eTs l, .int .i64 first, .int .i64 more, .int .i64 vars] [.one (.row 3 ((inT v n so l first more vars).map eT) false)] ∧ (∀ y ∈ inT v n so l first more vars, okT y) ∧ (inT v n so l first more vars).length ≤ 40 := by
  have hp := hv.pos
  have hpl := hv.len
  have hal := hv.al
  have hsil := hv.si _ (List.mem_of_getElem? hk)
  have hklt := (List.getElem?_eq_some_iff.1 hk).1
  have hk' := (List.getElem?_eq_some_iff.1 hk).2
  have hrec : ∀ (i : Nat) (h : i < so.idx.length) (h' : i < l.length), so.idx[i].rc = true →
      Pure Tryz.prog zcz [.rp (cVw v), .agg (cT l[i]), .int .i64 first, .int .i64 more, .int .i64 vars] [.agg (cT (shT v first more vars n l[i]))] ∧ okT (shT v first more vars n l[i]) := fun i h h' hr => by
    obtain ⟨x1, x2, x3⟩ := hl _ (List.getElem_mem h')
    refine zLr v hv first hfi more vars h0 h1 h2 h3 cons n _ hN x1 x2 x3 (.inr ?_)
    rw [indF] at hg
    have hA := (zan _ _ _).1 hg i h
    rw [Nat.zero_add, List.getElem?_eq_getElem h'] at hA
    simpa only [hr, if_true] using hA
  have hput : ∀ (i : Nat) (h' : i < l.length), Pure Tryz.prog zbp [.rp (cVw v), .agg (cT l[i]), .int .i64 first, .int .i64 more, .int .i64 vars] [.agg (cT (putT v l[i] first more vars))] := fun i h' => by
    obtain ⟨x1, x2, x3⟩ := hl _ (List.getElem_mem h')
    exact zwa v hp _ x1 (by omega) first (by omega) more vars h0 (by omega) h2 (by omega)
  have oAll : ∀ y ∈ inT v n so l first more vars, okT y := zww _ _ fun i h h' => by
    obtain ⟨x1, x2, x3⟩ := hl _ (List.getElem_mem h')
    exact ⟨zsq hp x1 x2 (by omega) first more vars h0 (by omega) h2 (by omega), fun hr => (hrec i h h' hr).2⟩
  have hlen := zwh (fun x => putT v x first more vars) (shT v first more vars n) so.idx l
  refine ⟨?_, oAll, by rw [inT]; omega⟩
  have hsn := zyz (fun x => putT v x first more vars) (shT v first more vars n) so.idx l
  have hsl2 := fun i => zwh (fun x => putT v x first more vars) (shT v first more vars n) (so.idx.take i) l
  rw [inT]
  clear oAll hl hg hlen
  refine zq1 rfl fun hs => ?_
  simp -dsimp [zge, cVw, cBl, eTs, eSos, hk0, hklt, hk, hk', eSo, cSo, eArs, cT]
  refine zam so.idx.length (fun i st => (st.s 0 = .d (.rp (cVw v)) ∧ st.s 2 = .d (eTs l) ∧ st.s 3 = .d (.int .i64 first) ∧ st.s 4 = .d (.int .i64 more) ∧ st.s 5 = .d (.int .i64 vars)) ∧ (st.s 12 = .rsl 12 1 ∧ st.h 12 = ⟨1, .row 3 [] false⟩) ∧
    (st.s 24 = .d (eArs so.idx) ∧ st.s 25 = .d (.int .i64 so.idx.length)) ∧ st.s 26 = .d (.int .i64 i) ∧
    ∃ u, st.s 13 = .rsl 13 u ∧ st.h 13 = ⟨u, .row 3 ((shA (fun x => putT v x first more vars) (shT v first more vars n) (so.idx.take i) l).map eT) false⟩) ?_ ?_
  · simp -dsimp [cVw, cBl, eTs, eArs, eSos, shA]
  · rintro i ⟨s, hp'⟩ hi ⟨⟨g0, g2, g3, g4, g5⟩, ⟨g12, k12⟩, ⟨g24, g25⟩, g26, u, g13, k13⟩
    dsimp only at g0 g2 g3 g4 g5 g12 k12 g24 g25 g26 g13 k13
    simp only [eTs, eArs] at g2 g24
    rcases Nat.lt_or_ge i so.idx.length with hlt | hge
    · have w2 : IntKind.i64.wrap ((i : Int) + 1) = (i : Int) + 1 := zad (by omega) (by omega)
      have hltA : i < l.length := by omega
      have hsn1 := hsn i hlt hltA
      have hsl1 := hsl2 i
      rw [List.length_take] at hsl1
      have hPi := hput i hltA
      have hRi := hrec i hlt hltA
      generalize hAr : so.idx[i] = Ar_ at *
      generalize hX : l[i] = X at *
      rw [hsn1]
      generalize shA (fun x => putT v x first more vars) (shT v first more vars n) (so.idx.take i) l = G at *
      have hgl : G.length ≤ 40 := by omega
      have r1 : (G.length + 1) * 40 ≤ zal := zq9 hgl trivial
      have r2 : (G.length + 1 + 1) * 40 ≤ zal := zFd hgl
      simp only [cT] at hPi hRi
      simp -dsimp [g0, g2, g3, g4, g5, g12, k12, g24, g25, g26, g13, k13, hlt, hltA, hAr, hX, eAr, cAr, cT]
      refine zaa hPi ?_
      cases hr : Ar_.rc with
      | false => simp -dsimp [g0, g2, g3, g4, g5, g12, k12, g24, g25, g26, g13, k13, hlt, hltA, hAr, hX, eAr, cAr, cT, hr, r1, w2, zcc, eTs, eArs]
      | true =>
        have hRi' := (hRi hr).1
        simp -dsimp [g0, g2, g3, g4, g5, g12, k12, g24, g25, g26, g13, k13, hlt, hltA, hAr, hX, eAr, cAr, cT, hr, r1]
        refine zaa hRi' ?_
        simp -dsimp [g0, g2, g3, g4, g5, g12, k12, g24, g25, g26, g13, k13, hlt, hltA, hAr, hX, eAr, cAr, cT, hr, r1, r2, w2, zcc, eTs, eArs]
    · have e : i = so.idx.length := by omega
      subst e
      rw [List.take_length] at k13
      simp -dsimp [g0, g2, g3, g4, g5, g12, k12, g24, g25, g26, g13, k13]
theorem zH0 (v : Vw) (hv : VwOk v) (vars : Int) (h2 : 0 ≤ vars) (h3 : vars ≤ 1000) : Pure Tryz.prog zg7 [.rp (cVw v), .int .i64 vars] [eTs (v.pos.map fun p => lv p vars)] ∧ ∀ y ∈ v.pos.map (fun p => lv p vars), okT y := by
  have hp := hv.pos
  have hpl := hv.len
  have hal := hv.al
  refine ⟨?_, fun y hy => ?_⟩
  case refine_2 =>
    obtain ⟨p, hpm, rfl⟩ := List.mem_map.1 hy
    have := hp.at_ p hpm
    exact ztz (by omega) (by omega) (by omega) (by omega)
  refine zv4 rfl fun hs => ?_
  simp -dsimp [zjz, cVw, cBl]
  refine zam v.pos.length (fun i st => st.s 1 = .d (.int .i64 vars) ∧ (st.s 4 = .rsl 4 1 ∧ st.h 4 = ⟨1, .row 3 [] false⟩) ∧ (st.s 11 = .d (.sl 1 (v.pos.map (.int .i64))) ∧ st.s 12 = .d (.int .i64 v.pos.length)) ∧ st.s 13 = .d (.int .i64 i) ∧
    ∃ u, st.s 5 = .rsl 5 u ∧ st.h 5 = ⟨u, .row 3 (((v.pos.map fun p => lv p vars).take i).map eT) false⟩) ?_ ?_
  · simp -dsimp
  · rintro i ⟨s, hp'⟩ hi ⟨g1, ⟨g4, k4⟩, ⟨g11, g12⟩, g13, u, g5, k5⟩
    dsimp only at g1 g4 k4 g11 g12 g13 g5 k5
    rcases Nat.lt_or_ge i v.pos.length with hlt | hge
    · have w1 : IntKind.i64.wrap ((i : Int) + 1) = (i : Int) + 1 := zad (by omega) (by omega)
      have hpj := hp.at_ _ (List.getElem_mem hlt)
      have hP := zls v.pos[i] vars (by omega) (by omega) (by omega) (by omega)
      have hn : ((v.pos.map fun p => lv p vars).take (i + 1)).map eT = ((v.pos.map fun p => lv p vars).take i).map eT ++ [.agg (cT (lv v.pos[i] vars))] := by
        rw [zdb (List.getElem?_eq_getElem (by simpa using hlt)), List.map_append]
        simp [zcc]
      generalize hX : lv v.pos[i] vars = X at *
      generalize hM : (v.pos.map fun p => lv p vars) = M at *
      have hMl : M.length = v.pos.length := by rw [← hM, List.length_map]
      have hr : (min i M.length + 1) * 40 ≤ zal := by simp only [zal]; omega
      rw [hn]
      simp only [cT] at hP
      simp -dsimp [g1, g4, k4, g11, g12, g13, g5, k5, hlt, cT]
      refine zaa hP ?_
      simp -dsimp [g1, g4, k4, g11, g12, g13, g5, k5, hlt, cT, hr, w1]
      try exact hlt
    · have e : i = v.pos.length := by omega
      subst e
      rw [List.take_of_length_le (by simp)] at k5
      simp -dsimp [g1, g4, k4, g11, g12, g13, g5, k5, eTs]
def dmP (v : Vw) (first : Nat) (vars : Int) : Nat → List T → List T
  | _, [] => []
  | j, d :: ds => putT v d first j vars :: dmP v first vars (j + 1) ds
theorem zzd (v : Vw) (first : Nat) (vars : Int) : ∀ (l : List T) (j i : Nat) (h : i < l.length), dmP v first vars j (l.take (i + 1)) = dmP v first vars j (l.take i) ++ [putT v l[i] first ((j + i : Nat) : Int) vars]
  | d :: ds, j, 0, h => by simp [dmP]
  | d :: ds, j, i + 1, h => by
    simp only [List.take_succ_cons, dmP, List.getElem_cons_succ, List.cons_append]
    rw [zzd v first vars ds (j + 1) i (by simpa using h)]
    congr 4
    omega
theorem znw (v : Vw) (first : Nat) (vars : Int) : ∀ (l : List T) (j : Nat), (dmP v first vars j l).length = l.length
  | [], j => rfl
  | d :: ds, j => by rw [dmP, List.length_cons, znw v first vars ds, List.length_cons]
theorem zDc {v : Vw} {first : Nat} {vars : Int} {q : T → Prop} : ∀ (l : List T) (j : Nat), (∀ (i : Nat) (h : i < l.length), q (putT v l[i] first ((j + i : Nat) : Int) vars)) → ∀ y ∈ dmP v first vars j l, q y
  | [], j, _, y, hy => by simp [dmP] at hy
  | d :: ds, j, h, y, hy => by
    rw [dmP] at hy
    rcases List.mem_cons.1 hy with rfl | hy
    · have := h 0 (by simp)
      simpa using this
    · refine zDc ds (j + 1) (fun i hi => ?_) y hy
      have := h (i + 1) (by simpa using hi)
      simp only [List.getElem_cons_succ] at this
      rwa [show j + 1 + i = j + (i + 1) by omega]
def tyA (v : Vw) (n : Nat) (i : Nat) (p : Int) (a : Ar) : List T :=
  putT v (zd2 v.b v.base a) i 0 p :: (if a.rc then [zcx 4 (dmP v i (p + 1) 0 a.dom) (spT (lv a.sort (p + 1 + a.dom.length)) ((match v.b.sorts[a.sort.toNat]? with
    | some so => inT v n so a.idx i a.dom.length (p + 1)
    | none => []) ++ [spT (lv p (p + 1 + a.dom.length)) (zco a.dom.length)]))] else [])
def tyL (v : Vw) (n : Nat) : Nat → List Ar → List T
  | _, [] => []
  | i, a :: l => tyA v n i ((v.pos[i]?).getD 0) a ++ tyL v n (i + 1) l
theorem zu4 (v : Vw) (n : Nat) : ∀ (l : List Ar) (i j : Nat) (h : j < l.length), tyL v n i (l.take (j + 1)) = tyL v n i (l.take j) ++ tyA v n (i + j) ((v.pos[i + j]?).getD 0) l[j]
  | a :: l, i, 0, h => by simp [tyL]
  | a :: l, i, j + 1, h => by
    simp only [List.take_succ_cons, tyL, List.getElem_cons_succ, List.append_assoc]
    rw [zu4 v n l (i + 1) j (by simpa using h), show i + 1 + j = i + (j + 1) by omega]
theorem zP7 (n : Nat) (h : n ≤ 65536) : zwx n = zco n := by
  rw [zwx]
  split
  · have : n = 0 := by omega
    subst this; rfl
  · rw [Int.toNat_natCast]
theorem zFf (n : Nat) (h : n ≤ 65536) : ∀ y ∈ zco n, okT y := fun y hy => by
  simp only [zco, List.mem_map, List.mem_range] at hy
  obtain ⟨i, hi, rfl⟩ := hy
  exact zdq (by omega) (by omega)
structure TyOk (v : Vw) (n : Nat) (cons : Int) : Prop where
  vw : VwOk v
  fit : Fit v.b
  b0 : 0 ≤ v.base
  b1 : v.base ≤ 60000
  pos : ∀ p ∈ v.pos, p ≤ 900
  ok : zxq v.args
  fine : zfy v.args
  row : rowM v.b v.args = true
  good : rowF n v.b v.base v.args cons = true
set_option maxHeartbeats 2000000 in
theorem zJb (v : Vw) (n : Nat) (hN : n ≤ 1000000) (hn9 : 9000 ≤ n) (cons : Int) (H : TyOk v n cons) : Pure Tryz.prog zhx [.rp (cVw v)] [eTs (tyL v n 0 v.args)] ∧ (∀ y ∈ tyL v n 0 v.args, okT y) ∧ (tyL v n 0 v.args).length ≤ 40 := by
  have hv := H.vw
  have hp := hv.pos
  have hpl := hv.len
  have hal := hv.al
  have hsl := H.fit.s
  obtain ⟨hr1, hr2⟩ := zka H.row
  have hsn := zu4 v n v.args 0
  -- what each argument gives
  have hA : ∀ (i : Nat) (hi : i < v.args.length), ∃ p : Int, v.pos[i]? = some p ∧ 0 ≤ p ∧ p ≤ 900 := fun i hi =>
    ⟨_, List.getElem?_eq_getElem (by omega), (hp.at_ _ (List.getElem_mem _)).1, H.pos _ (List.getElem_mem (by omega))⟩
  have hty : ∀ (i : Nat) (hi : i < v.args.length), zab (zd2 v.b v.base v.args[i]) = true ∧ okT (zd2 v.b v.base v.args[i]) ∧ zac (zd2 v.b v.base v.args[i]) ≤ 1000000 := fun i hi => by
    have fa := H.fine.2 _ (List.getElem_mem hi)
    have oa := H.ok.2 _ (List.getElem_mem hi)
    have := zkf (b := v.b) (base := v.base) fa
    exact ⟨(zl5 H.fit H.b0 H.b1 fa (by omega) (hr2 i hi)).2, zAu _ _ oa, by omega⟩
  have hrc : ∀ (i : Nat) (hi : i < v.args.length), v.args[i].rc = true → 0 ≤ v.args[i].sort ∧ v.args[i].dom.length ≤ 12 ∧ (∀ x ∈ v.args[i].dom, zab x = true ∧ okT x ∧ zac x ≤ n) ∧ (∀ x ∈ v.args[i].idx, zab x = true ∧ okT x ∧ zac x ≤ n) ∧
      ∃ so, v.b.sorts[v.args[i].sort.toNat]? = some so ∧ v.args[i].idx.length = so.idx.length ∧ indF n (plV v i v.args[i].dom.length) so v.args[i].idx cons = true := fun i hi hr => by
    have fa := H.fine.2 _ (List.getElem_mem hi)
    have oa := H.ok.2 _ (List.getElem_mem hi)
    obtain ⟨_, s0, s1, d1, ⟨so, hso, hil⟩, hd, hx⟩ := zg8 (hr2 i hi) hr (by omega) (by omega)
    refine ⟨s0, d1, fun x hxm => ?_, fun x hxm => ?_, so, hso, hil, ?_⟩
    · obtain ⟨j, hj, rfl⟩ := List.mem_iff_getElem.1 hxm
      have hnx : zac v.args[i].dom[j] ≤ 9000 := Nat.le_trans (zci (List.mem_map.2 ⟨_, hxm, rfl⟩)) fa.dom
      exact ⟨(zcg (hd j hj) (by omega) (by omega) (by omega)).2.1, oa.dom.2 _ hxm, by omega⟩
    · have hnx : zac x ≤ 9000 := Nat.le_trans (zci (List.mem_map.2 ⟨_, hxm, rfl⟩)) fa.idx
      exact ⟨(zcg (hx x hxm) (by omega) (by omega) (by omega)).2.1, oa.idx.2 _ hxm, by omega⟩
    · have hg := (zan _ _ _).1 H.good i hi
      rw [Nat.zero_add, argF, if_pos hr, hso, Bool.and_eq_true] at hg
      exact hg.2
  have hTok : ∀ (i : Nat) (hi : i < v.args.length) (p : Int), v.pos[i]? = some p → 0 ≤ p → p ≤ 900 → ∀ y ∈ tyA v n i p v.args[i], okT y := fun i hi p hpi p0 p1 y hy => by
    obtain ⟨t1, t2, t3⟩ := hty i hi
    rw [tyA] at hy
    rcases List.mem_cons.1 hy with rfl | hy
    · exact zsq hp t1 t2 t3 i 0 p (by omega) (by omega) p0 (by omega)
    · split at hy
      · rename_i hr
        obtain ⟨s0, d1, hd, hx, so, hso, hil, hg⟩ := hrc i hi hr
        have hsb := (List.getElem?_eq_some_iff.1 hso).1
        rw [List.mem_singleton] at hy
        subst hy
        rw [hso]
        have hI := zqv v hv n hN v.args[i].sort so s0 hso v.args[i].idx hil i (by omega) v.args[i].dom.length (p + 1) (by omega) (by omega) (by omega) (by omega) cons hx hg
        refine zzh (by omega) _ (zi6 _ _ (ztz (by omega) (by omega) (by omega) (by omega)) fun z hz => ?_) _ (zDc _ _ fun j hj => ?_)
        · rcases List.mem_append.1 hz with hz | hz
          · exact hI.2.1 z hz
          · rw [List.mem_singleton] at hz
            subst hz
            exact zi6 _ _ (ztz (by omega) (by omega) (by omega) (by omega)) (zFf _ (by omega))
        · obtain ⟨x1, x2, x3⟩ := hd _ (List.getElem_mem hj)
          exact zsq hp x1 x2 (by omega) i _ (p + 1) (by omega) (by omega) (by omega) (by omega)
      · simp at hy
  have hlen : ∀ (l : List Ar) (i : Nat), (tyL v n i l).length ≤ 2 * l.length := by
    intro l
    induction l with
    | nil => intro i; simp [tyL]
    | cons a l ih =>
      intro i
      have := ih (i + 1)
      rw [tyL, List.length_append, tyA, List.length_cons, List.length_cons]
      split <;> simp <;> omega
  have hAll : ∀ y ∈ tyL v n 0 v.args, okT y := by
    have go : ∀ j, j ≤ v.args.length → ∀ y ∈ tyL v n 0 (v.args.take j), okT y := by
      intro j
      induction j with
      | zero => intro _ y hy; simp [tyL] at hy
      | succ j ih =>
        intro hj y hy
        rw [hsn j (by omega)] at hy
        rcases List.mem_append.1 hy with hy | hy
        · exact ih (by omega) y hy
        · obtain ⟨p, hpi, p0, p1⟩ := hA j (by omega)
          rw [Nat.zero_add, hpi] at hy
          exact hTok j (by omega) p hpi p0 p1 y hy
    have := go v.args.length (Nat.le_refl _)
    rwa [List.take_length] at this
  refine ⟨?_, hAll, by have := hlen v.args 0; omega⟩
  refine zsv rfl fun hs => ?_
  simp -dsimp [zh6, cVw, cBl, eArs]
  refine zam v.args.length (fun i st => st.s 0 = .d (.rp (cVw v)) ∧ (st.s 2 = .rsl 2 1 ∧ st.h 2 = ⟨1, .row 3 [] false⟩) ∧ (st.s 15 = .d (eArs v.args) ∧ st.s 16 = .d (.int .i64 v.args.length)) ∧ st.s 17 = .d (.int .i64 i) ∧
    ∃ u, st.s 3 = .rsl 3 u ∧ st.h 3 = ⟨u, .row 3 ((tyL v n 0 (v.args.take i)).map eT) false⟩) ?_ ?_
  · simp -dsimp [cVw, cBl, eArs, tyL]
  · rintro i ⟨s, hp'⟩ hi ⟨g0, ⟨g2, k2⟩, ⟨g15, g16⟩, g17, u, g3, k3⟩
    dsimp only at g0 g2 k2 g15 g16 g17 g3 k3
    simp only [eArs] at g15
    rcases Nat.lt_or_ge i v.args.length with hlt | hge
    · have w1 : IntKind.i64.wrap ((i : Int) + 1) = (i : Int) + 1 := zad (by omega) (by omega)
      obtain ⟨p, hpi, p0, p1⟩ := hA i hlt
      have hlp : i < v.pos.length := by omega
      have hpi' : v.pos[i] = p := by have := (List.getElem?_eq_some_iff.1 hpi).2; exact this
      have hs1 := hsn i hlt
      rw [Nat.zero_add, hpi] at hs1
      have hl1 := hlen (v.args.take i) 0
      rw [List.length_take] at hl1
      rw [hs1]
      generalize tyL v n 0 (v.args.take i) = G at *
      have hgl : G.length ≤ 40 := by omega
      have hAT := zxu v.b v.base v.args[i] (H.ok.2 _ (List.getElem_mem hlt)) (H.fine.2 _ (List.getElem_mem hlt))
      obtain ⟨t1, t2, t3⟩ := hty i hlt
      have hPT := zwa v hp (zd2 v.b v.base v.args[i]) t1 t3 i (by omega) 0 p (by omega) (by omega) p0 (by omega)
      have hrci := hrc i hlt
      clear hsn hA hty hrc hTok hlen hAll
      simp only [Option.getD_some, tyA]
      generalize hR : v.args[i] = R at *
      generalize putT v (zd2 v.b v.base R) i 0 p = PT at *
      generalize zd2 v.b v.base R = AT at *
      simp only [eBl, cBl, cAr, cT, List.cons_append, List.nil_append] at hAT hPT
      simp -dsimp [g0, g2, k2, g15, g16, g17, g3, k3, hlt, hR, eAr, cAr, cT, cVw, cBl]
      refine zaa hAT ?_
      simp -dsimp [g0, g2, k2, g15, g16, g17, g3, k3, hlt, hR, eAr, cAr, cT, cVw, cBl, hlp, hpi, hpi']
      simp only [cVw, cBl, List.cons_append, List.nil_append] at hPT
      refine zaa hPT ?_
      cases hr : R.rc with
      | false =>
        simp -dsimp [g0, g2, k2, g15, g16, g17, g3, k3, hlt, hR, eAr, cAr, cT, cVw, cBl, hr, zq9 hgl trivial, w1, zcc, eArs]
        done
      | true =>
        obtain ⟨s0, d1, hd, hx, so, hso, hil, hg⟩ := hrci hr
        have hI := zqv v hv n hN R.sort so s0 hso R.idx hil i (by omega) R.dom.length (p + 1) (by omega) (by omega) (by omega) (by omega) cons hx hg
        have v1 : IntKind.i64.wrap (p + 1) = p + 1 := zad (by omega) (by omega)
        have v2 : IntKind.i64.wrap (p + 1 + (R.dom.length : Int)) = p + 1 + R.dom.length := zad (by omega) (by omega)
        have hdl := znw v i (p + 1)
        have hds := zzd v i (p + 1) R.dom 0
        have hPd : ∀ (j : Nat) (hj : j < R.dom.length), Pure Tryz.prog zbp [.rp (cVw v), .agg (cT R.dom[j]), .int .i64 i, .int .i64 j, .int .i64 (p + 1)] [.agg (cT (putT v R.dom[j] i j (p + 1)))] := fun j hj => by
          obtain ⟨x1, x2, x3⟩ := hd _ (List.getElem_mem hj)
          exact zwa v hp _ x1 (by omega) i (by omega) j (p + 1) (by omega) (by omega) (by omega) (by omega)
        have hssl := (List.getElem?_eq_some_iff.1 hso).1
        have hsr : R.sort ≤ 10 := by omega
        have hL1 := zls p (p + 1 + R.dom.length) (by omega) (by omega) (by omega) (by omega)
        have oL1 := ztz (l := p) (vars := p + 1 + R.dom.length) (by omega) (by omega) (by omega) (by omega)
        have hV := zHq (R.dom.length : Int)
        rw [zP7 _ (by omega)] at hV
        have oV := zFf R.dom.length (by omega)
        have hVl := zg0 R.dom.length
        have hS1 := zhq (lv p (p + 1 + R.dom.length)) (zco R.dom.length) (by omega) oL1 ⟨by omega, oV⟩
        have oS1 := zi6 (zco R.dom.length) _ oL1 oV
        have hL2 := zls R.sort (p + 1 + R.dom.length) (by omega) (by omega) (by omega) (by omega)
        have oL2 := ztz (l := R.sort) (vars := p + 1 + R.dom.length) (by omega) (by omega) (by omega) (by omega)
        obtain ⟨hI1, hI2, hI3⟩ := hI
        rw [hso]
        simp only
        generalize inT v n so R.idx i R.dom.length (p + 1) = J at *
        generalize spT (lv p (p + 1 + R.dom.length)) (zco R.dom.length) = S1 at *
        generalize lv p (p + 1 + R.dom.length) = L1 at *
        generalize zco R.dom.length = Vs at *
        generalize lv R.sort (p + 1 + R.dom.length) = L2 at *
        have oJ : ∀ y ∈ J ++ [S1], okT y := fun y hy => by
          rcases List.mem_append.1 hy with hy | hy
          · exact hI2 y hy
          · rw [List.mem_singleton] at hy; subst hy; exact oS1
        have hS2 := zhq L2 (J ++ [S1]) (by rw [List.length_append, List.length_singleton]; omega) oL2 ⟨by rw [List.length_append, List.length_singleton]; omega, oJ⟩
        have oS2 := zi6 (J ++ [S1]) _ oL2 oJ
        generalize spT L2 (J ++ [S1]) = S2 at *
        have oD : ∀ y ∈ dmP v i (p + 1) 0 R.dom, okT y := zDc _ _ fun j hj => by
          obtain ⟨x1, x2, x3⟩ := hd _ (List.getElem_mem hj)
          exact zsq hp x1 x2 (by omega) i _ (p + 1) (by omega) (by omega) (by omega) (by omega)
        have hPi := zEx (dmP v i (p + 1) 0 R.dom) S2 (by rw [hdl]; omega) oS2 ⟨by rw [hdl]; omega, oD⟩
        generalize zcx 4 (dmP v i (p + 1) 0 R.dom) S2 = PI at *
        simp only [cVw, cBl, cT, eTs, List.map_append, List.map_cons, List.map_nil, zcc, List.cons_append, List.nil_append] at hI1 hL1 hV hS1 hL2 hS2
        simp only [cT, eTs] at hPi
        simp -dsimp [g0, g2, k2, g15, g16, g17, g3, k3, hlt, hR, eAr, cAr, cT, cVw, cBl, hr, zq9 hgl trivial, w1, hlp, hpi, hpi', v1, eTs, eArs]
        refine zam R.dom.length (fun j st => (st.s 0 = .d (.rp (cVw v)) ∧ st.s 4 = .d (.int .i64 i) ∧ st.s 6 = .d (.int .i64 (p + 1)) ∧ st.s 7 = .d (.int .i64 R.dom.length)) ∧ (st.s 2 = .rsl 2 1 ∧ st.h 2 = ⟨1, .row 3 [] false⟩) ∧ (st.s 15 = .d (eArs v.args) ∧ st.s 16 = .d (.int .i64 v.args.length)) ∧ st.s 17 = .d (.int .i64 i) ∧
          (st.s 3 = .rsl 3 (u + 1) ∧ st.h 3 = ⟨u + 1, .row 3 (G.map eT ++ [.agg (cT PT)]) false⟩) ∧
          (st.s 5 = .ptr 5 ((hp' 5).ver + 1) 0 ∧ st.h 5 = ⟨(hp' 5).ver + 1, .box [.d (.bool true), .d (.int .i64 R.ty.kind), .d (.int .i64 R.ty.num), .d (.sl 3 (R.ty.kids.map eT)), .d (eTs R.dom), .d (.int .i64 R.sort), .d (eTs R.idx)] false⟩) ∧
          (st.s 60 = .d (eTs R.dom) ∧ st.s 61 = .d (.int .i64 R.dom.length)) ∧ st.s 62 = .d (.int .i64 j) ∧ ∃ w, st.s 8 = .rsl 8 w ∧ st.h 8 = ⟨w, .row 3 ((dmP v i (p + 1) 0 (R.dom.take j)).map eT) false⟩) ?_ ?_
        · simp -dsimp [g0, g2, k2, g15, g16, g17, g3, k3, hR, eAr, cAr, cT, cVw, cBl, hr, eTs, eArs, dmP]
        · clear g0 g2 k2 g15 g16 g17 g3 k3
          rintro j ⟨s, hq⟩ hj ⟨⟨g0, g4, g6, g7⟩, ⟨g2, k2⟩, ⟨g15, g16⟩, g17, ⟨g3, k3⟩, ⟨g5, k5⟩, ⟨g60, g61⟩, g62, w, g8, k8⟩
          dsimp only at g0 g4 g6 g7 g2 k2 g15 g16 g17 g3 k3 g5 k5 g60 g61 g62 g8 k8
          simp only [eTs, eArs] at g15 k5 g60
          rcases Nat.lt_or_ge j R.dom.length with hlt2 | hge2
          · have w2 : IntKind.i64.wrap ((j : Int) + 1) = (j : Int) + 1 := zad (by omega) (by omega)
            have hPj := hPd j hlt2
            have hds1 := hds j hlt2
            have hdl1 := hdl (R.dom.take j) 0
            rw [List.length_take] at hdl1
            rw [Nat.zero_add] at hds1
            rw [hds1]
            generalize dmP v i (p + 1) 0 (R.dom.take j) = E at *
            have hel : E.length ≤ 40 := by omega
            generalize putT v R.dom[j] i j (p + 1) = Y at *
            generalize hX : R.dom[j] = X at *
            simp only [cVw, cBl, cT, List.cons_append, List.nil_append] at hPj
            simp -dsimp [g0, g4, g6, g7, g2, k2, g15, g16, g17, g3, k3, g5, k5, g60, g61, g62, g8, k8, hlt2, hX, cT, cVw, cBl]
            refine zaa hPj ?_
            simp -dsimp [g0, g4, g6, g7, g2, k2, g15, g16, g17, g3, k3, g5, k5, g60, g61, g62, g8, k8, hlt2, hX, cT, cVw, cBl, zq9 hel trivial, w2, zcc, eTs, eArs]
            done
          · have ej : j = R.dom.length := by omega
            subst ej
            rw [List.take_length] at k8
            simp only [cVw, cBl, eTs, List.cons_append, List.nil_append] at g0 hI1
            simp -dsimp [g0, g4, g6, g7, g2, k2, g15, g16, g17, g3, k3, g5, k5, g60, g61, g62, g8, k8, eTs]
            refine zch hI1 (by simp [zax, zbt, RV.cells]) ?_
            simp -dsimp [g0, g4, g6, g7, g2, k2, g15, g16, g17, g3, k3, g5, k5, g60, g61, g62, g8, k8, hlp, hpi, hpi', v2]
            refine zaa hL1 ?_
            simp -dsimp [g0, g4, g6, g7, g2, k2, g15, g16, g17, g3, k3, g5, k5, g60, g61, g62, g8, k8, cT]
            refine zaa hV ?_
            simp -dsimp [g0, g4, g6, g7, g2, k2, g15, g16, g17, g3, k3, g5, k5, g60, g61, g62, g8, k8, cT]
            refine zaa hS1 ?_
            simp -dsimp [g0, g4, g6, g7, g2, k2, g15, g16, g17, g3, k3, g5, k5, g60, g61, g62, g8, k8, cT, zq9 hI3 trivial, v2]
            refine zaa hL2 ?_
            simp -dsimp [g0, g4, g6, g7, g2, k2, g15, g16, g17, g3, k3, g5, k5, g60, g61, g62, g8, k8, cT]
            refine zaa hS2 ?_
            simp -dsimp [g0, g4, g6, g7, g2, k2, g15, g16, g17, g3, k3, g5, k5, g60, g61, g62, g8, k8, cT]
            refine zaa hPi ?_
            simp -dsimp [g0, g4, g6, g7, g2, k2, g15, g16, g17, g3, k3, g5, k5, g60, g61, g62, g8, k8, cT, zFd hgl, w1, zcc, cVw, cBl, eArs]
            try exact hlt
    · have e : i = v.args.length := by omega
      subst e
      rw [List.take_length] at k3
      simp -dsimp [g0, g2, k2, g15, g16, g17, g3, k3, eTs]
end
end
section
section
attribute [local simp] zae zaf tk tn tks zb6 zb9 zbb zbe zba zb8
theorem zD3 : ∀ (l : List Ar) (e p : Int), p ∈ posL e l → e ≤ p ∧ p ≤ e + 2 * l.length
  | [], e, p, h => by simp [posL] at h
  | a :: l, e, p, h => by
    rw [posL] at h
    simp only [List.length_cons]
    rcases List.mem_cons.1 h with rfl | h
    · omega
    · have ih := zD3 l _ p h
      split at ih <;> omega
def vwOf (b : Bl) (base : Int) (l : List Ar) (e : Int) : Vw := ⟨b, base, l, posL e l, finL e l⟩
theorem vw_ok {b : Bl} (hz : zey b = 0) (fb : FineBl b) (base : Int) {l : List Ar} (hl : l.length ≤ 20) {e : Int} (h0 : 0 ≤ e) (h1 : e ≤ 100) : VwOk (vwOf b base l e) := by
  refine ⟨⟨by simp only [vwOf, zf1]; omega, fun p hp => ?_⟩, by simp only [vwOf, zf1], hl, fb.s, fb.c, fun c hc => (fb.cons c hc).args.1, fun s hs => (fb.sorts s hs).idx.1⟩
  have := zD3 l e p hp
  omega
theorem zSp {b : Bl} (hz : zey b = 0) (fb : FineBl b) (hf : Fit b) {base : Int} (b0 : 0 ≤ base) (b1 : base ≤ 60000) {l : List Ar} (ol : zxq l) (fl : zfy l) (hr : rowM b l = true) {n : Nat} {cons : Int} (hg : rowF n b base l cons = true) {e : Int} (h0 : 0 ≤ e) (h1 : e ≤ 100) : TyOk (vwOf b base l e) n cons :=
  ⟨vw_ok hz fb base fl.1 h0 h1, hf, b0, b1, fun p hp => by have := zD3 l e p hp; have := fl.1; omega, ol, fl, hr, hg⟩
theorem zE2 (v : Vw) (n : Nat) (hN : n ≤ 1000000) (hn9 : 9000 ≤ n) (cons : Int) (H : TyOk v n cons) (body : T) (ob : okT body) : Pure Tryz.prog zfw [.rp (cVw v), .agg (cT body)] [.agg (cT (zfi (zcx 4 (tyL v n 0 v.args) body))), .int .i64 (zau (zcx 4 (tyL v n 0 v.args) body))] := by
  refine zuc rfl fun hs => ?_
  obtain ⟨h1, h2, h3⟩ := zJb v n hN hn9 cons H
  have hP := zEx (tyL v n 0 v.args) body (by omega) ob ⟨by omega, h2⟩
  generalize tyL v n 0 v.args = L at *
  have hC := zra (zcx 4 L body)
  generalize zcx 4 L body = R at *
  simp only [cT, eTs] at h1 hP hC
  simp -dsimp [zi4, cT]
  refine zaa h1 ?_
  simp -dsimp
  refine zaa hP ?_
  simp -dsimp [cT]
  refine zaa hC ?_
  by_cases hc : zau R = 0
  · simp -dsimp [hc, zfi, cT]
  · simp -dsimp [hc, zfi, cT, zT]
def mayP (b : Bl) (base k many : Int) : Int := if zbr 9000 b base = 0 ∧ (k < 0 ∨ many ≤ k) then 1 else zbr 9000 b base
theorem zHe (b : Bl) (ob : okBl b) (fb : FineBl b) (base k many : Int) : Pure Tryz.prog zo8 [eBl b, .int .i64 base, .int .i64 k, .int .i64 many] [.int .i64 (mayP b base k many)] := by
  refine zF1 rfl fun hs => ?_
  have hP := zFn 9000 (by omega) (by omega) b ob fb base
  rw [mayP]
  generalize zbr 9000 b base = E at *
  simp only [eBl, cBl] at hP
  simp -dsimp [ztr, eBl, cBl]
  refine zaa hP ?_
  by_cases h1 : E = 0
  · by_cases h2 : k < 0
    · simp -dsimp [h1, h2]
    · by_cases h3 : many ≤ k
      · simp -dsimp [h1, h2, h3]
      · simp -dsimp [h1, h2, h3]
  · simp -dsimp [h1]
def motT (b : Bl) (base k : Int) (so : So) : T :=
  zcx 4 (tyL (vwOf b base so.idx k) 9000 0 so.idx) (.mk 4 0 [spT (tC (zbq b base k)) ((posL k so.idx).map fun p => lv p (finL k so.idx)), .mk 2 b.elim []])
def motE (b : Bl) (base k : Int) : Int := if mayP b base k b.sorts.length = 0 then (match b.sorts[k.toNat]? with | some so => zau (motT b base k so) | none => 1) else mayP b base k b.sorts.length
def motR (b : Bl) (base k : Int) : T := if motE b base k = 0 then (match b.sorts[k.toNat]? with | some so => motT b base k so | none => zT) else zT
theorem zCn {b : Bl} {base k many : Int} (h : mayP b base k many = 0) : zbr 9000 b base = 0 ∧ 0 ≤ k ∧ k < many := by
  rw [mayP] at h
  split at h
  · cases h
  · rename_i hc
    exact ⟨h, by omega, by omega⟩
theorem zcj {n : Nat} {b : Bl} {base : Int} (h : zbr n b base = 0) : zey b = 0 ∧ 0 ≤ base ∧ base ≤ 65535 ∧ posF n b base = true := by
  rw [zbr] at h
  split at h
  · rename_i hz
    split at h
    · cases h
    · split at h
      · rename_i hp
        exact ⟨hz, by omega, by omega, hp⟩
      · cases h
  · rename_i hz
    exact absurd h hz
theorem zv8 {n : Nat} {b : Bl} {base : Int} (h : posF n b base = true) {k : Nat} {so : So} (hk : b.sorts[k]? = some so) : rowF n b base so.idx 0 = true := by
  rw [posF, Bool.and_eq_true] at h
  obtain ⟨hlt, rfl⟩ := List.getElem?_eq_some_iff.1 hk
  have := (zan _ _ _).1 h.1 k hlt
  rw [zlm, Bool.and_eq_true] at this
  exact this.1
theorem zut {n : Nat} {b : Bl} {base : Int} (h : posF n b base = true) {c : Nat} {x : Co} (hk : b.cons[c]? = some x) : rowF n b base x.args c = true ∧ ∃ so, b.sorts[x.sort.toNat]? = some so ∧ indF n ⟨b, base, x.args, 0⟩ so x.idx c = true := by
  rw [posF, Bool.and_eq_true] at h
  obtain ⟨hlt, rfl⟩ := List.getElem?_eq_some_iff.1 hk
  have := (zan _ _ _).1 h.2 c hlt
  rw [Nat.zero_add, conF, Bool.and_eq_true] at this
  refine ⟨this.1, ?_⟩
  have h2 := this.2
  split at h2
  · rename_i so hso
    rw [Bool.and_eq_true] at h2
    exact ⟨so, hso, h2.1⟩
  · cases h2
set_option maxHeartbeats 2000000 in
theorem zCc (b : Bl) (ob : okBl b) (fb : FineBl b) (hf : Fit b) (base k : Int) (b1 : base ≤ 60000) : Pure Tryz.prog zjc [eBl b, .int .i64 base, .int .i64 k] [.agg (cT (motR b base k)), .int .i64 (motE b base k)] := by
  have hM := zHe b ob fb base k b.sorts.length
  by_cases hm : mayP b base k b.sorts.length = 0
  case neg =>
    have e1 : motE b base k = mayP b base k b.sorts.length := by rw [motE, if_neg hm]
    have e2 : motR b base k = zT := by rw [motR, if_neg (by rw [e1]; exact hm)]
    rw [e1, e2]
    generalize mayP b base k b.sorts.length = E at *
    refine zr5 rfl fun hs => ?_
    simp only [eBl, cBl] at hM
    simp -dsimp [zjb, eBl, cBl, eSos]
    simp only [eSos] at hM
    refine zaa hM ?_
    simp -dsimp [hm, zT, cT]
  obtain ⟨hp, k0, k1⟩ := zCn hm
  obtain ⟨hz, b0, _, hpos⟩ := zcj hp
  obtain ⟨z1, z4, z8, zl, zs, zc⟩ := (za2 b).1 hz
  have hlt : k.toNat < b.sorts.length := by omega
  have hget : b.sorts[k.toNat]? = some b.sorts[k.toNat] := List.getElem?_eq_getElem hlt
  have hsg := zv8 hpos hget
  have os := ob.sorts _ (List.getElem_mem hlt)
  have fs := fb.sorts _ (List.getElem_mem hlt)
  have hrow := zy9 (zs _ hlt)
  generalize hS : b.sorts[k.toNat] = S at *
  have hT := zSp hz fb hf b0 b1 os.idx fs.idx hrow hsg (e := k) k0 (by omega)
  have hv := hT.vw
  have hfl := zpj S.idx k
  have hil := fs.idx.1
  obtain ⟨hOwn, oOwn⟩ := zH0 (vwOf b base S.idx k) hv (finL k S.idx) (by omega) (by omega)
  have hSh := zIe b base k S.idx hil k0 (by omega)
  have hF := zrs b base k
  have hfi := zhg hf b0 (by omega : base ≤ 65535) k
  rw [if_pos ⟨k0, k1⟩] at hfi
  have hC := zHs (zbq b base k)
  have oC : okT (tC (zbq b base k)) := zdq (by omega) (by omega)
  have hSp := zhq (tC (zbq b base k)) ((posL k S.idx).map fun p => lv p (finL k S.idx)) (by rw [List.length_map, zf1]; omega) oC ⟨by rw [List.length_map, zf1]; omega, oOwn⟩
  have oSp := zi6 _ _ oC oOwn
  have hU := tu_ok b.elim
  have hN := zCz 4 [spT (tC (zbq b base k)) ((posL k S.idx).map fun p => lv p (finL k S.idx)), .mk 2 b.elim []]
  have oB : okT (.mk 4 0 [spT (tC (zbq b base k)) ((posL k S.idx).map fun p => lv p (finL k S.idx)), .mk 2 b.elim []]) := zTb (by omega) oSp (.mk _ _ _ (by simp only [n64]; omega) ob.elim (by simp) (by simp)) (by omega)
  have hD := zE2 (vwOf b base S.idx k) 9000 (by omega) (by omega) 0 hT _ oB
  have e0 : (vwOf b base S.idx k).args = S.idx := rfl
  have e1 : motE b base k = zau (motT b base k S) := by rw [motE, if_pos hm, hget]
  have e2 : motR b base k = zfi (motT b base k S) := by rw [motR, zfi, e1, hget]
  rw [e0, ← motT] at hD
  rw [e1, e2]
  rw [hm] at hM
  clear e1 e2 e0 hT hv oOwn oC oSp oB hrow hsg os fs
  have e3 : (vwOf b base S.idx k).pos = posL k S.idx := rfl
  rw [e3] at hOwn
  have e4 : cVw (vwOf b base S.idx k) = cBl b ++ [.int .i64 base, eArs S.idx, .sl 1 ((posL k S.idx).map (.int .i64)), .int .i64 (finL k S.idx)] := rfl
  have e5 : cVw ⟨b, base, S.idx, posL k S.idx, finL k S.idx⟩ = cBl b ++ [.int .i64 base, eArs S.idx, .sl 1 ((posL k S.idx).map (.int .i64)), .int .i64 (finL k S.idx)] := rfl
  rw [e4] at hOwn hD
  rw [e5] at hSh
  generalize zau (motT b base k S) = CE at *
  generalize zfi (motT b base k S) = RT at *
  generalize spT (tC (zbq b base k)) ((posL k S.idx).map fun p => lv p (finL k S.idx)) = SP at *
  generalize ((posL k S.idx).map fun p => lv p (finL k S.idx)) = OW at *
  generalize zbq b base k = FO at *
  refine zr5 rfl fun hs => ?_
  simp only [eBl, cBl, eSos, cT, eTs, eArs, tC, tk, tn, tks, List.map_nil, List.map_cons, zcc, List.cons_append, List.nil_append] at hM hOwn hSh hF hC hSp hU hN hD
  simp -dsimp [zjb, eBl, cBl, eSos]
  refine zaa hM ?_
  simp -dsimp [k0, hlt, hS, hget, eSo, cSo, cT, eArs]
  refine zaa hSh ?_
  simp -dsimp
  refine zaa hF ?_
  simp -dsimp
  refine zaa hC ?_
  simp -dsimp
  refine zaa hOwn ?_
  simp -dsimp
  refine zaa hSp ?_
  simp -dsimp [cT]
  refine zaa hU ?_
  simp -dsimp [cT]
  refine zaa hN ?_
  simp -dsimp [cT]
  refine zaa hD ?_
  simp -dsimp [cT]
end
end
section
section
attribute [local simp] zae zaf tk tn tks zb6 zb9 zbb zbe zba zb8
def metV (b : Bl) (base c : Int) (x : Co) : Vw := vwOf b base x.args (b.sorts.length + c)
def metT (b : Bl) (base c : Int) (x : Co) (so : So) : T :=
  zcx 4 (tyL (metV b base c x) 9000 0 x.args) (spT (lv x.sort (metV b base c x).fin) (inT (metV b base c x) 9000 so x.idx x.args.length 0 (metV b base c x).fin ++ [spT (tC (zap b base c)) ((metV b base c x).pos.map fun p => lv p (metV b base c x).fin)]))
def metA (b : Bl) (base c : Int) : Option T := match b.cons[c.toNat]? with
  | some x => match b.sorts[x.sort.toNat]? with
    | some so => some (metT b base c x so)
    | none => none
  | none => none
def metE (b : Bl) (base c : Int) : Int := if mayP b base c b.cons.length = 0 then (match metA b base c with | some t => zau t | none => 1) else mayP b base c b.cons.length
def metR (b : Bl) (base c : Int) : T := if metE b base c = 0 then (metA b base c).getD zT else zT
theorem zzu {b : Bl} {c : Co} (h : conM b c = true) {x : T} (hx : x ∈ c.idx) : inM x c.args.length = true := by
  rw [conM] at h
  split at h
  · cases h
  split at h
  case isFalse => cases h
  split at h
  · cases h
  split at h
  case isFalse => cases h
  split at h
  case isFalse => cases h
  rename_i hA
  rw [allM, Bool.not_eq_true', List.any_eq_false] at hA
  have := hA x hx
  simpa using this
set_option maxHeartbeats 2000000 in
theorem zBa (b : Bl) (ob : okBl b) (fb : FineBl b) (hf : Fit b) (base c : Int) (b1 : base ≤ 60000) : Pure Tryz.prog zjk [eBl b, .int .i64 base, .int .i64 c] [.agg (cT (metR b base c)), .int .i64 (metE b base c)] := by
  have hM := zHe b ob fb base c b.cons.length
  by_cases hm : mayP b base c b.cons.length = 0
  case neg =>
    have e1 : metE b base c = mayP b base c b.cons.length := by rw [metE, if_neg hm]
    have e2 : metR b base c = zT := by rw [metR, if_neg (by rw [e1]; exact hm)]
    rw [e1, e2]
    generalize mayP b base c b.cons.length = E at *
    refine zrb rfl fun hs => ?_
    simp only [eBl, cBl] at hM
    simp -dsimp [zi9, eBl, cBl, eCos]
    simp only [eCos] at hM
    refine zaa hM ?_
    simp -dsimp [hm, zT, cT]
  obtain ⟨hp, k0, k1⟩ := zCn hm
  obtain ⟨hz, b0, _, hpos⟩ := zcj hp
  obtain ⟨z1, z4, z8, zl, zs, zc⟩ := (za2 b).1 hz
  have hlt : c.toNat < b.cons.length := by omega
  have hget : b.cons[c.toNat]? = some b.cons[c.toNat] := List.getElem?_eq_getElem hlt
  obtain ⟨hsg, so, hso, hig⟩ := zut hpos hget
  have os := ob.cons _ (List.getElem_mem hlt)
  have fs := fb.cons _ (List.getElem_mem hlt)
  obtain ⟨hrow, s0, so2, hso2, hil2⟩ := zkk (zc _ (List.getElem_mem hlt))
  have hcon := zc _ (List.getElem_mem hlt)
  have hao : metA b base c = some (metT b base c b.cons[c.toNat] so) := by rw [metA, hget]; simp only [hso]
  generalize hS : b.cons[c.toNat] = S at *
  rw [hso] at hso2
  cases hso2
  rw [show ((c.toNat : Nat) : Int) = c by omega] at hsg hig
  have hT := zSp hz fb hf b0 b1 os.args fs.args hrow hsg (e := b.sorts.length + c) (by omega) (by omega)
  have hv := hT.vw
  have hfl := zpj S.args (b.sorts.length + c)
  have hal := fs.args.1
  have hsl := (List.getElem?_eq_some_iff.1 hso).1
  obtain ⟨hOwn, oOwn⟩ := zH0 (vwOf b base S.args (b.sorts.length + c)) hv (finL (b.sorts.length + c) S.args) (by omega) (by omega)
  have e3 : (vwOf b base S.args (b.sorts.length + c)).pos = posL (b.sorts.length + c) S.args := rfl
  rw [e3] at hOwn oOwn
  have hSh := zIe b base (b.sorts.length + c) S.args hal (by omega) (by omega)
  have hxf : ∀ x ∈ S.idx, zab x = true ∧ okT x ∧ zac x ≤ 9000 := fun x hx => by
    have hnx : zac x ≤ 9000 := Nat.le_trans (zci (List.mem_map.2 ⟨_, hx, rfl⟩)) fs.idx
    have hin : inM x S.args.length = true := zzu hcon hx
    exact ⟨(zcg hin (by omega) (by omega) (by omega)).2.1, os.idx.2 _ hx, hnx⟩
  have hig' : indF 9000 (plV (vwOf b base S.args (b.sorts.length + c)) S.args.length 0) so S.idx c = true := by
    have e : plV (vwOf b base S.args (b.sorts.length + c)) S.args.length 0 = ⟨b, base, S.args, 0⟩ := by simp only [plV, vwOf, List.take_length]
    rw [e]; exact hig
  have hI := zqv (vwOf b base S.args (b.sorts.length + c)) hv 9000 (by omega) S.sort so s0 hso S.idx hil2 S.args.length (Nat.le_refl _) 0 (finL (b.sorts.length + c) S.args) (by omega) (by omega) (by omega) (by omega) c hxf hig'
  have hF := zpl b base c
  have hfi := zfq hf b0 (by omega : base ≤ 65535) c
  rw [if_pos ⟨k0, k1⟩] at hfi
  have hdl := zhb b.sorts
  have hC := zHs (zap b base c)
  have oC : okT (tC (zap b base c)) := zdq (by omega) (by omega)
  have hSp := zhq (tC (zap b base c)) ((posL (b.sorts.length + c) S.args).map fun p => lv p (finL (b.sorts.length + c) S.args)) (by rw [List.length_map, zf1]; omega) oC ⟨by rw [List.length_map, zf1]; omega, oOwn⟩
  have oSp := zi6 _ _ oC oOwn
  have hL := zls S.sort (finL (b.sorts.length + c) S.args) (by omega) (by omega) (by omega) (by omega)
  have oL := ztz (l := S.sort) (vars := finL (b.sorts.length + c) S.args) (by omega) (by omega) (by omega) (by omega)
  obtain ⟨hI1, hI2, hI3⟩ := hI
  have eT' : metT b base c S so = zcx 4 (tyL (vwOf b base S.args (b.sorts.length + c)) 9000 0 S.args) (spT (lv S.sort (finL (b.sorts.length + c) S.args)) (inT (vwOf b base S.args (b.sorts.length + c)) 9000 so S.idx S.args.length 0 (finL (b.sorts.length + c) S.args) ++ [spT (tC (zap b base c)) ((posL (b.sorts.length + c) S.args).map fun p => lv p (finL (b.sorts.length + c) S.args))])) := rfl
  have e1 : metE b base c = zau (metT b base c S so) := by rw [metE, if_pos hm, hao]
  have e2 : metR b base c = zfi (metT b base c S so) := by rw [metR, zfi, e1, hao]; rfl
  rw [e1, e2]
  rw [eT']
  clear e1 e2 eT'
  rw [hm] at hM
  generalize spT (tC (zap b base c)) ((posL (b.sorts.length + c) S.args).map fun p => lv p (finL (b.sorts.length + c) S.args)) = SP at *
  generalize inT (vwOf b base S.args (b.sorts.length + c)) 9000 so S.idx S.args.length 0 (finL (b.sorts.length + c) S.args) = J at *
  generalize lv S.sort (finL (b.sorts.length + c) S.args) = L2 at *
  have oJ : ∀ y ∈ J ++ [SP], okT y := fun y hy => by
    rcases List.mem_append.1 hy with hy | hy
    · exact hI2 y hy
    · rw [List.mem_singleton] at hy; subst hy; exact oSp
  have hS2 := zhq L2 (J ++ [SP]) (by rw [List.length_append, List.length_singleton]; omega) oL ⟨by rw [List.length_append, List.length_singleton]; omega, oJ⟩
  have oS2 := zi6 (J ++ [SP]) _ oL oJ
  generalize spT L2 (J ++ [SP]) = S2 at *
  have hD := zE2 (vwOf b base S.args (b.sorts.length + c)) 9000 (by omega) (by omega) c hT _ oS2
  have e0 : (vwOf b base S.args (b.sorts.length + c)).args = S.args := rfl
  rw [e0] at hD
  clear hT hv oOwn oC oSp hrow hsg os fs oJ oS2 hig hig' hxf hcon
  have w1 : IntKind.i64.wrap ((b.sorts.length : Int) + c) = b.sorts.length + c := zad (by omega) (by omega)
  have e4 : cVw (vwOf b base S.args (b.sorts.length + c)) = cBl b ++ [.int .i64 base, eArs S.args, .sl 1 ((posL (b.sorts.length + c) S.args).map (.int .i64)), .int .i64 (finL (b.sorts.length + c) S.args)] := rfl
  have e5 : cVw ⟨b, base, S.args, posL (b.sorts.length + c) S.args, finL (b.sorts.length + c) S.args⟩ = cBl b ++ [.int .i64 base, eArs S.args, .sl 1 ((posL (b.sorts.length + c) S.args).map (.int .i64)), .int .i64 (finL (b.sorts.length + c) S.args)] := rfl
  rw [e4] at hOwn hD hI1
  rw [e5] at hSh
  generalize zcx 4 (tyL (vwOf b base S.args (b.sorts.length + c)) 9000 0 S.args) S2 = MT at *
  generalize zau MT = CE at *
  generalize zfi MT = RT at *
  generalize ((posL (b.sorts.length + c) S.args).map fun p => lv p (finL (b.sorts.length + c) S.args)) = OW at *
  generalize zap b base c = FO at *
  refine zrb rfl fun hs => ?_
  simp only [eBl, cBl, eCos, cT, eTs, eArs, tC, tk, tn, tks, List.map_nil, List.map_cons, List.map_append, zcc, List.cons_append, List.nil_append] at hM hOwn hSh hF hC hSp hL hS2 hD hI1
  simp -dsimp [zi9, eBl, cBl, eCos]
  refine zaa hM ?_
  simp -dsimp [k0, hlt, hS, hget, eCo, cCo, cT, eArs, eTs, w1, eSos]
  simp only [eSos] at hSh hF hI1 hD hOwn
  refine zaa hSh ?_
  simp -dsimp
  refine zch hI1 (by simp [zax, zbt, RV.cells]) ?_
  simp -dsimp
  refine zaa hF ?_
  simp -dsimp
  refine zaa hC ?_
  simp -dsimp
  refine zaa hOwn ?_
  simp -dsimp
  refine zaa hSp ?_
  simp -dsimp [cT, zq9 hI3 trivial]
  refine zaa hL ?_
  simp -dsimp [cT]
  refine zaa hS2 ?_
  simp -dsimp [cT]
  refine zaa hD ?_
  simp -dsimp [cT]
end
end
section
attribute [local simp] zae zaf tk tn tks zbb zbe zba zb8

end
section
section
attribute [local simp] zae zaf tk tn tks zb6 zb9 zbb zbe zba zb8
theorem zR0 : okT zT := zdq (by omega) (by omega)
theorem zFj {t : T} {l : List T} {u : Int} (hn : zac t ≤ 1048576) (hl : ∀ x ∈ l, zac x ≤ 1048576) : okT (zfs t l u) := by
  by_cases h : zgr t l u = 0
  · exact zfg (zxz hn hl h).2.2
  · rw [zfs, if_neg h]
    exact zR0
end
end
section
section
attribute [local simp] zae zaf tk tn tks zb6 zb9 zbb zbe zba zb8
def zR3 (b : Bl) (base c : Int) (co : Co) (mo me args : List T) : Prop := args.length = co.args.length ∧ mo.length = b.sorts.length ∧ me.length = b.cons.length ∧ 0 ≤ base ∧ base ≤ 65535
instance (b : Bl) (base c : Int) (co : Co) (mo me args : List T) : Decidable (zR3 b base c co mo me args) := by unfold zR3; infer_instance
end
end
section
section
attribute [local simp] zae zaf tk tn tks zb6 zb9 zbb zbe zba zb8
end
end
section
theorem zKf {c : Int} (t : T) : ∀ v w : Int, v ≤ w → wiT t v c = true → wiT t w c = true := by
  refine T.ind (p := fun t => ∀ v w : Int, v ≤ w → wiT t v c = true → wiT t w c = true) ?_ t
  intro k n ks ih v w hvw h
  rw [wiT] at h ⊢
  by_cases h1 : k = 1
  · rw [if_pos h1] at h ⊢
    simp only [decide_eq_true_eq] at h ⊢
    omega
  rw [if_neg h1] at h ⊢
  by_cases h2 : k = 2
  · rw [if_pos h2] at h ⊢; exact h
  rw [if_neg h2] at h ⊢
  by_cases h3 : k = 3
  · rw [if_pos h3] at h ⊢; exact h
  rw [if_neg h3] at h ⊢
  have go : ∀ (xs : List T) (i : Nat), (∀ x ∈ xs, x ∈ ks) → wiL k v c i xs = true → wiL k w c i xs = true := by
    intro xs
    induction xs with
    | nil => intro i _ _; rw [wiL]
    | cons x xs ihx =>
      intro i hm hw
      rw [wiL, Bool.and_eq_true] at hw ⊢
      exact ⟨ih x (hm x (by simp)) _ _ (by omega) hw.1, ihx _ (fun y hy => hm y (by simp [hy])) hw.2⟩
  exact go ks 0 (fun x hx => hx) h
theorem zIy (l : List T) (u : Int) (hl : ∀ x ∈ l, zfl x 0 ≤ 10000) (t : T) : ∀ b : Int, 0 ≤ b → u + b + zac t ≤ 50000 → scI l u t b = false := by
  refine T.ind (p := fun t => ∀ b : Int, 0 ≤ b → u + b + zac t ≤ 50000 → scI l u t b = false) ?_ t
  intro k n ks ih b h0 hb
  rw [scI]
  by_cases h1 : k = 1
  · rw [if_pos h1]
    split
    · rename_i a ha
      have hmem : a ∈ l := by
        split at ha
        · exact List.mem_of_getElem? ha
        · cases ha
      have := hl a hmem
      rw [zLo, Bool.and_eq_false_iff]
      right
      rw [decide_eq_false_iff_not]
      omega
    · rfl
  · rw [if_neg h1]
    have go : ∀ (xs : List T) (i : Nat), (∀ x ∈ xs, x ∈ ks) → scL l u k b i xs = false := by
      intro xs
      induction xs with
      | nil => intro i _; rw [scL]
      | cons x xs ihx =>
        intro i hm
        have hx := hm x (by simp)
        have hxn := zcq (k := k) (n := n) hx
        have hbl := zdf k i
        rw [scL, ih x hx _ (by omega) (by omega), ihx (i + 1) fun y hy => hm y (by simp [hy])]
        rfl
    exact go ks 0 fun x hx => hx
theorem zIl {a : T} {V b : Int} (hf : zab a = true) (hn : zac a ≤ 1048576) (hb : 0 ≤ b) (hb' : b ≤ 8388608) (hV : 0 ≤ V) (h : wiT a V 65536 = true) : wiT (mapT (mv b) a 0) (V + b) 65536 = true := by
  have := zM1 (mv b) 65536 V (V + b) (fun n c h1 h2 h3 h4 h5 => ?_) a 0 hf (by omega) (by omega) (by rw [Int.add_zero]; exact h)
  · rw [Int.add_zero] at this; exact this
  · by_cases c1 : n < c
    · rw [zSy c1]; exact zku (by omega)
    · have e : mv b n c = .mk 1 (n + b) [] := by rw [mv, if_pos (by omega), zb0 (by omega) (by omega)]
      rw [e]; exact zku (by omega)
theorem zEc {t : T} {l : List T} {V u : Int} (hV : 0 ≤ V) (hV' : V ≤ 65536) (hu : 0 ≤ u) (hu' : u ≤ 65536) (ht : zac t ≤ 1048576) (ft : zab t = true) (hl : ∀ x ∈ l, zab x = true ∧ zac x ≤ 1048576 ∧ wiT x V 65536 = true) (hn : l.length ≤ 65536)
    (hw : wiT t (V + u + l.length) 65536 = true) : wiT (mapT (zd1 l u) t 0) (V + u) 65536 = true := by
  have := zM1 (zd1 l u) 65536 (V + u + l.length) (V + u) (fun n b h1 h2 h3 h4 h5 => ?_) t 0 ft (by omega) (by omega) (by rw [Int.add_zero]; exact hw)
  · rw [Int.add_zero] at this; exact this
  · rw [zd1]
    by_cases hW : 0 ≤ zc7 l.length u n b
    · have hlt : (zc7 l.length u n b).toNat < l.length := by
        have h6 := hW
        rw [zc7] at h6 ⊢
        split at h6
        · omega
        · rename_i h7
          rw [if_neg h7]
          omega
      generalize (zc7 l.length u n b).toNat = m at hlt
      rw [if_pos hW, List.getElem?_eq_getElem hlt]
      obtain ⟨a1, a2, a3⟩ := hl l[m] (List.getElem_mem _)
      show wiT (zm4 (w64 (u + b)) l[m]) (V + u + b) 65536 = true
      rw [zb0 (by omega) (by omega), zFs]
      have := zIl (b := u + b) a1 a2 (by omega) (by omega) hV a3
      rw [← Int.add_assoc] at this
      exact this
    · rw [if_neg hW]
      have h6 := hW
      rw [zc7] at h6
      by_cases c : u + b ≤ n
      · rw [if_pos c]
        have : (l.length : Int) ≤ n - (u + b) := by
          split at h6
          · rename_i h7; omega
          · omega
        rw [zb0 (by omega) (by omega)]
        exact zku (by omega)
      · rw [if_neg c]
        exact zku (by omega)
theorem zMj {t : T} {l : List T} {u : Int} (h : zi5 t l u = 0) (ht : zac t ≤ 1048576) (hl : ∀ x ∈ l, zac x ≤ 1048576) (hs : scI l u t 0 = false) : zgr t l u = 0 ∨ zgr t l u = 4 ∨ zgr t l u = 5 := by
  rw [zgr, if_pos h, zwt h ht hl]
  simp only [hs, Bool.false_eq_true, if_false]
  split
  · omega
  · split <;> omega
theorem zHn {t : T} {l : List T} {V u : Int} (hV : 0 ≤ V ∧ V ≤ 100) (hu : 0 ≤ u ∧ u ≤ 100) (ht : zau t = 0) (hn : zac t ≤ 9000) (hl : ∀ x ∈ l, zau x = 0 ∧ zac x ≤ 9000 ∧ wiT x V 65536 = true) (hln : l.length ≤ 100) (hw : wiT t (u + l.length) 65536 = true) :
    (zgr t l u = 0 ∨ zgr t l u = 4 ∨ zgr t l u = 5) ∧ (zgr t l u = 0 → wiT (zfs t l u) (V + u) 65536 = true) := by
  have hf := zfp ht
  have hO : zi5 t l u = 0 := (zBj t l u).2 ⟨ht, fun x hx => (hl x hx).1, by omega, by omega⟩
  have hfr : ∀ x ∈ l, zfl x 0 ≤ 10000 := fun x hx => by
    obtain ⟨a1, a2, a3⟩ := hl x hx
    have := zQ8 65536 x V 0 (zfp a1) (by omega) (by omega) a3
    omega
  have hS := zIy l u hfr t 0 (by omega) (by omega)
  have hl' : ∀ x ∈ l, zac x ≤ 1048576 := fun x hx => by have := (hl x hx).2.1; omega
  refine ⟨zMj hO (by omega) hl' hS, fun h0 => ?_⟩
  rw [zw8 h0]
  exact zEc (by omega) (by omega) (by omega) (by omega) (by omega) hf (fun x hx => ⟨zfp (hl x hx).1, hl' x hx, (hl x hx).2.2⟩) (by omega) (zKf t _ _ (by omega) hw)
structure Right (V : Int) (l : List T) : Prop where
  c : ∀ x ∈ l, zau x = 0
  n : ∀ x ∈ l, zac x ≤ 9000
  w : ∀ x ∈ l, wiT x V 65536 = true
theorem Right.take {V : Int} {l : List T} (h : Right V l) (i : Nat) : Right V (l.take i) := ⟨fun x hx => h.c x (List.mem_of_mem_take hx), fun x hx => h.n x (List.mem_of_mem_take hx), fun x hx => h.w x (List.mem_of_mem_take hx)⟩
structure RecAt (b : Bl) (a : Ar) (i : Nat) : Prop where
  dl : a.dom.length ≤ 12
  sort : 0 ≤ a.sort ∧ a.sort < b.sorts.length
  dom : ∀ (j : Nat) (hj : j < a.dom.length), zau a.dom[j] = 0 ∧ wiT a.dom[j] (i + j) 65536 = true
  idx : ∀ x ∈ a.idx, zau x = 0 ∧ wiT x (i + a.dom.length) 65536 = true
end
section
section
attribute [local simp] zae zaf tk tn tks zb6 zb9 zbb zbe zba zb8
def lvs (f : Int) (m : Nat) (vars : Int) : List T := (List.range m).map fun (i : Nat) => .mk 1 (vars - 1 - f - (i : Int)) []
theorem zK8 (f : Int) (m : Nat) (vars : Int) : lvs f (m + 1) vars = lvs f m vars ++ [.mk 1 (vars - 1 - f - (m : Int)) []] := by simp [lvs, List.range_succ]
theorem zs8 (f : Int) (m : Nat) (vars : Int) : (lvs f m vars).length = m := by simp [lvs]
theorem zzn {f : Int} {m : Nat} {vars : Int} (h0 : -10000 ≤ vars - 1 - f - m) (h1 : vars - f ≤ 10000) : ∀ y ∈ lvs f m vars, okT y := fun y hy => by
  simp only [lvs, List.mem_map, List.mem_range] at hy
  obtain ⟨i, hi, rfl⟩ := hy
  exact .mk _ _ _ (by simp only [n64]; omega) (by simp only [n64]; omega) (by simp) (by simp)
theorem zyk (f : Int) (m : Nat) (vars : Int) (f0 : 0 ≤ f) (f1 : f ≤ 1000) (m1 : m ≤ 1000) (v0 : 0 ≤ vars) (v1 : vars ≤ 1000) : OwnC Tryz.prog zhf [.int .i64 f, .int .i64 m, .int .i64 vars] [.one (.row 3 ((lvs f m vars).map eT) false)] := by
  refine zAo rfl fun hs => ?_
  simp -dsimp [zmu]
  refine zam m (fun i st => st.s 0 = .d (.int .i64 f) ∧ st.s 2 = .d (.int .i64 vars) ∧ (st.s 6 = .rsl 6 1 ∧ st.h 6 = ⟨1, .row 3 [] false⟩) ∧ st.s 9 = .d (.int .i64 m) ∧ st.s 10 = .d (.int .i64 i) ∧
    ∃ u, st.s 7 = .rsl 7 u ∧ st.h 7 = ⟨u, .row 3 ((lvs f i vars).map eT) false⟩) ?_ ?_
  · simp -dsimp [lvs]
  · rintro i ⟨s, hp'⟩ hi ⟨g0, g2, ⟨g6, k6⟩, g9, g10, u, g7, k7⟩
    dsimp only at g0 g2 g6 k6 g9 g10 g7 k7
    rcases Nat.lt_or_ge i m with hlt | hge
    · have w1 : IntKind.i64.wrap ((i : Int) + 1) = (i : Int) + 1 := zad (by omega) (by omega)
      have w2 : IntKind.i64.wrap (vars - 1) = vars - 1 := zad (by omega) (by omega)
      have w3 : IntKind.i64.wrap (vars - 1 - f) = vars - 1 - f := zad (by omega) (by omega)
      have w4 : IntKind.i64.wrap (vars - 1 - f - (i : Int)) = vars - 1 - f - i := zad (by omega) (by omega)
      have hV := v_ok (vars - 1 - f - i)
      have hr : ((lvs f i vars).length + 1) * 40 ≤ zal := by rw [zs8]; simp only [zal]; omega
      have hn : (lvs f (i + 1) vars).map eT = (lvs f i vars).map eT ++ [.agg [.int .i64 1, .int .i64 (vars - 1 - f - i), .sl 3 []]] := by
        rw [zK8, List.map_append]; simp [zcc, cT]
      rw [hn]
      generalize lvs f i vars = L at *
      simp only [cT, List.map_nil] at hV
      simp -dsimp [g0, g2, g6, k6, g9, g10, g7, k7, hlt, w2, w3, w4]
      refine zaa hV ?_
      simp -dsimp [g0, g2, g6, k6, g9, g10, g7, k7, hlt, w1, hr]
    · have e : i = m := by omega
      subst e
      simp -dsimp [g0, g2, g6, k6, g9, g10, g7, k7, eTs]
theorem zHf (f : Int) (m : Nat) (vars : Int) (f0 : 0 ≤ f) (f1 : f ≤ 1000) (m1 : m ≤ 1000) (v0 : 0 ≤ vars) (v1 : vars ≤ 1000) : Pure Tryz.prog zhf [.int .i64 f, .int .i64 m, .int .i64 vars] [eTs (lvs f m vars)] := (zyk f m vars f0 f1 m1 v0 v1).pure
def rsA (b : Bl) (base : Int) (ahead : Nat) (vars : Int) (own : List T) (i : Nat) (a : Ar) : List T :=
  (own[i]?).getD zT :: (if a.rc then [spT (tC (za6 b base a.sort)) (lvs 0 ahead vars ++ a.idx.map (fun t => zfs t (own.take i) 0) ++ [(own[i]?).getD zT])] else [])
def rsL (b : Bl) (base : Int) (ahead : Nat) (vars : Int) (own : List T) : Nat → List Ar → List T
  | _, [] => []
  | i, a :: l => rsA b base ahead vars own i a ++ rsL b base ahead vars own (i + 1) l
theorem zE7 (b : Bl) (base : Int) (ahead : Nat) (vars : Int) (own : List T) : ∀ (l : List Ar) (i j : Nat) (h : j < l.length), rsL b base ahead vars own i (l.take (j + 1)) = rsL b base ahead vars own i (l.take j) ++ rsA b base ahead vars own (i + j) l[j]
  | a :: l, i, 0, h => by simp [rsL]
  | a :: l, i, j + 1, h => by
    simp only [List.take_succ_cons, rsL, List.getElem_cons_succ, List.append_assoc]
    rw [zE7 b base ahead vars own l (i + 1) j (by simpa using h), show i + 1 + j = i + (j + 1) by omega]
theorem zPi (b : Bl) (base : Int) (ahead : Nat) (vars : Int) (own : List T) (i : Nat) (a : Ar) : (rsA b base ahead vars own i a).length ≤ 2 := by
  rw [rsA]; split <;> simp
theorem zvm (b : Bl) (base : Int) (ahead : Nat) (vars : Int) (own : List T) : ∀ (l : List Ar) (i : Nat), (rsL b base ahead vars own i l).length ≤ 2 * l.length
  | [], i => by simp [rsL]
  | a :: l, i => by
    have h1 := zvm b base ahead vars own l (i + 1)
    have h2 := zPi b base ahead vars own i a
    rw [rsL, List.length_append, List.length_cons]
    omega
def resE (b : Bl) (base k vars : Int) (so : So) : T :=
  spT (.mk 1 (vars - 1 - k) []) (rsL b base (b.sorts.length + b.cons.length) vars (lvs ((b.sorts.length + b.cons.length : Nat) : Int) so.idx.length vars) 0 so.idx ++ [.mk 1 0 []])
theorem zNr (b : Bl) (base k : Int) : okT (tC (za6 b base k)) := by
  have := zCb base (w64 (w64 (b.sorts.length + decs b.sorts) + b.cons.length)) k b.sorts.length
  exact .mk _ _ _ ⟨by omega, by omega⟩ this (by simp) (by simp)
theorem zNy {b : Bl} {base : Int} {ahead : Nat} {vars : Int} {own : List T} {i : Nat} {a : Ar} (ho : ∀ x ∈ own, okT x ∧ zac x ≤ 9000) (hl : ∀ y ∈ lvs 0 ahead vars, okT y) (hx : ∀ x ∈ a.idx, zac x ≤ 9000) : ∀ y ∈ rsA b base ahead vars own i a, okT y := fun y hy => by
  have h0 : okT ((own[i]?).getD zT) := by
    cases h : own[i]? with
    | none => exact zdq (by omega) (by omega)
    | some x => exact (ho x (List.mem_of_getElem? h)).1
  rw [rsA] at hy
  rcases List.mem_cons.1 hy with rfl | hy
  · exact h0
  · split at hy
    · rw [List.mem_singleton] at hy
      subst hy
      refine zi6 _ _ (zNr b base a.sort) fun x hx' => ?_
      simp only [List.mem_append, List.mem_singleton, List.mem_map] at hx'
      rcases hx' with (hx' | ⟨t, ht, rfl⟩) | rfl
      · exact hl x hx'
      · exact zFj (by have := hx t ht; omega) fun z hz => by have := (ho z (List.mem_of_mem_take hz)).2; omega
      · exact h0
    · simp at hy
theorem zEh {b : Bl} {base : Int} {ahead : Nat} {vars : Int} {own : List T} (ho : ∀ x ∈ own, okT x ∧ zac x ≤ 9000) (hl : ∀ y ∈ lvs 0 ahead vars, okT y) : ∀ (l : List Ar) (i : Nat), (∀ a ∈ l, ∀ x ∈ a.idx, zac x ≤ 9000) → ∀ y ∈ rsL b base ahead vars own i l, okT y
  | [], i, _, y, hy => by simp [rsL] at hy
  | a :: l, i, h, y, hy => by
    rw [rsL] at hy
    rcases List.mem_append.1 hy with hy | hy
    · exact zNy ho hl (h a (by simp)) y hy
    · exact zEh ho hl l (i + 1) (fun a' ha' => h a' (by simp [ha'])) y hy
theorem zRl {L0 L1 : List T} {j : Nat} (h : L0.length ≤ 100) (h2 : L1.length ≤ 60) : (L0 ++ L1.take j).length ≤ 200 := by simp only [List.length_append, List.length_take]; omega
theorem zNz {L0 L1 : List T} (h : L0.length ≤ 100) (h2 : L1.length ≤ 60) : (L0 ++ L1).length ≤ 200 := by simp only [List.length_append]; omega
theorem zLm {L : List T} {x : T} (h : L.length ≤ 200) : (L ++ [x]).length ≤ 100000000 ∧ (L ++ [x]).length * 40 ≤ 140737488351232 := by simp only [List.length_append, List.length_singleton]; omega
theorem zKd {n : Nat} (h : n ≤ 200) : (n + 1) * 40 ≤ zal := by simp only [zal]; omega
set_option maxHeartbeats 2000000 in
theorem zHo (b : Bl) (hf : Fit b) (base k vars : Int) (so : So) (k0 : 0 ≤ k) (hk : b.sorts[k.toNat]? = some so) (fl : zfy so.idx) (v0 : 0 ≤ vars) (v1 : vars ≤ 1000)
    (hI : ∀ (i : Nat) (h : i < so.idx.length), so.idx[i].rc = true → ∀ t ∈ so.idx[i].idx, zgr t ((lvs ((b.sorts.length + b.cons.length : Nat) : Int) so.idx.length vars).take i) 0 = 0) :
    Pure Tryz.prog zl6 [eBl b, .int .i64 base, .int .i64 k, .int .i64 vars] [.agg (cT (resE b base k vars so)), .int .i64 0] := by
  refine zy8 rfl fun hs => ?_
  have hfs := hf.s
  have hfc := hf.c
  have hil := fl.1
  have klt := (List.getElem?_eq_some_iff.1 hk).1
  have hk' := (List.getElem?_eq_some_iff.1 hk).2
  have w0 : IntKind.i64.wrap ((b.sorts.length : Int) + b.cons.length) = ((b.sorts.length + b.cons.length : Nat) : Int) := by rw [zad (by omega) (by omega)]; omega
  have hah : b.sorts.length + b.cons.length ≤ 100 := by omega
  have hL := zHf ((b.sorts.length + b.cons.length : Nat) : Int) so.idx.length vars (by omega) (by omega) (by omega) v0 v1
  have hL2 := zyk 0 (b.sorts.length + b.cons.length) vars (by omega) (by omega) (by omega) v0 v1
  have o0 : ∀ y ∈ lvs 0 (b.sorts.length + b.cons.length) vars, okT y := zzn (by omega) (by omega)
  have l0 : (lvs 0 (b.sorts.length + b.cons.length) vars).length = b.sorts.length + b.cons.length := zs8 _ _ _
  have o1 : ∀ y ∈ lvs ((b.sorts.length + b.cons.length : Nat) : Int) so.idx.length vars, okT y ∧ zac y ≤ 9000 := fun y hy => ⟨zzn (by omega) (by omega) y hy, by
    simp only [lvs, List.mem_map] at hy
    obtain ⟨i, _, rfl⟩ := hy
    rw [zar]; omega⟩
  have l1 : (lvs ((b.sorts.length + b.cons.length : Nat) : Int) so.idx.length vars).length = so.idx.length := zs8 _ _ _
  have o0' := o0
  rw [resE]
  generalize hAH : b.sorts.length + b.cons.length = AH at *
  generalize hOW : lvs (AH : Int) so.idx.length vars = OW at *
  generalize hL0 : lvs 0 AH vars = L0 at o0 l0 hL2 ⊢
  have hrl := fun j => zvm b base AH vars OW (so.idx.take j) 0
  have hsn := zE7 b base AH vars OW so.idx 0
  simp only [cT, eTs] at hL
  simp -dsimp [zlv, eBl, cBl, eSos, eCos, w0, k0, klt, hk, hk', eSo, cSo, eArs]
  refine zaa hL ?_
  simp -dsimp
  refine zam so.idx.length (fun i st => (st.s 1 = .d (.int .i64 base) ∧ st.s 2 = .d (.int .i64 k) ∧ st.s 3 = .d (.int .i64 vars) ∧ st.s 10 = .d (.int .i64 AH) ∧ st.s 12 = .d (eTs OW)) ∧
    (st.s 4 = .ptr 4 1 0 ∧ st.h 4 = ⟨1, .box [.d (eSos b.sorts), .d (eCos b.cons), .d (.int .i64 b.elim)] false⟩) ∧ (st.s 8 = .ptr 8 1 0 ∧ st.h 8 = ⟨1, .box [.d (.int .i64 0), .d (.int .i64 0), .fsl 3 []] false⟩) ∧
    (st.s 39 = .d (eArs so.idx) ∧ st.s 40 = .d (.int .i64 so.idx.length) ∧ st.s 41 = .d (.int .i64 i)) ∧
    ∃ u, st.s 13 = .rsl 13 u ∧ st.h 13 = ⟨u, .row 3 ((rsL b base AH vars OW 0 (so.idx.take i)).map eT) false⟩) ?_ ?_
  · simp -dsimp [eSos, eCos, eTs, eArs, rsL]
  · rintro i ⟨s, hp'⟩ hi ⟨⟨g1, g2, g3, g10, g12⟩, ⟨g4, k4⟩, ⟨g8, k8⟩, ⟨g39, g40, g41⟩, u, g13, k13⟩
    dsimp only at g1 g2 g3 g10 g12 g4 k4 g8 k8 g39 g40 g41 g13 k13
    simp only [eTs, eArs] at g12 g39
    rcases Nat.lt_or_ge i so.idx.length with hlt | hge
    · have w1 : IntKind.i64.wrap ((i : Int) + 1) = (i : Int) + 1 := zad (by omega) (by omega)
      have fa := fl.2 _ (List.getElem_mem hlt)
      have hn1 := hsn i hlt
      have hG := hrl i
      rw [List.length_take] at hG
      have hII := hI i hlt
      have hltO : i < OW.length := by omega
      have oo := o1 _ (List.getElem_mem hltO)
      have hxn : ∀ x ∈ so.idx[i].idx, zac x ≤ 9000 := fun x hx => Nat.le_trans (zci (List.mem_map.2 ⟨_, hx, rfl⟩)) fa.idx
      rw [hn1, Nat.zero_add, rsA, List.getElem?_eq_getElem hltO, Option.getD_some, hL0]
      generalize hSP : spT (tC (za6 b base so.idx[i].sort)) (L0 ++ so.idx[i].idx.map (fun t => zfs t (OW.take i) 0) ++ [OW[i]]) = SP
      have oOWt : ∀ z ∈ OW.take i, zac z ≤ 1048576 := fun z hz => by have := (o1 z (List.mem_of_mem_take hz)).2; omega
      have lOWt : (OW.take i).length ≤ 100 := by rw [List.length_take]; omega
      generalize rsL b base AH vars OW 0 (so.idx.take i) = G at *
      have hgl : G.length ≤ 40 := by omega
      generalize hX : OW[i] = X at *
      generalize hR : so.idx[i] = R at *
      have r1 : (G.length + 1) * 40 ≤ zal := zq9 hgl trivial
      have r2 : (G.length + 1 + 1) * 40 ≤ zal := zFd hgl
      cases hr : R.rc with
      | false =>
        simp -dsimp [g1, g2, g3, g10, g12, g4, k4, g8, k8, g39, g40, g41, g13, k13, hlt, hltO, hX, hR, eAr, cAr, cT, hr, r1, w1, zcc, eTs, eArs]
      | true =>
        simp -dsimp [g1, g2, g3, g10, g12, g4, k4, g8, k8, g39, g40, g41, g13, k13, hlt, hltO, hX, hR, eAr, cAr, cT, hr, r1]
        refine zch hL2 (by simp [zax, zbt, RV.cells]) ?_
        simp -dsimp [g1, g2, g3, g10, g12, g4, k4, g8, k8, g39, g40, g41, g13, k13, eTs]
        refine zam R.idx.length (fun j st => (st.s 1 = .d (.int .i64 base) ∧ st.s 2 = .d (.int .i64 k) ∧ st.s 3 = .d (.int .i64 vars) ∧ st.s 10 = .d (.int .i64 AH) ∧ st.s 12 = .d (eTs OW) ∧ st.s 14 = .d (.int .i64 i)) ∧
          (st.s 4 = .ptr 4 1 0 ∧ st.h 4 = ⟨1, .box [.d (eSos b.sorts), .d (eCos b.cons), .d (.int .i64 b.elim)] false⟩) ∧ (st.s 8 = .ptr 8 1 0 ∧ st.h 8 = ⟨1, .box [.d (.int .i64 0), .d (.int .i64 0), .fsl 3 []] false⟩) ∧
          (st.s 39 = .d (eArs so.idx) ∧ st.s 40 = .d (.int .i64 so.idx.length) ∧ st.s 41 = .d (.int .i64 i)) ∧
          (∃ u, st.s 13 = .rsl 13 u ∧ st.h 13 = ⟨u, .row 3 (G.map eT ++ [eT X]) false⟩) ∧
          (∃ v, st.s 15 = .ptr 15 v 0 ∧ st.h 15 = ⟨v, .box [.d (.bool R.rc), .d (.int .i64 R.ty.kind), .d (.int .i64 R.ty.num), .d (.sl 3 (R.ty.kids.map eT)), .d (eTs R.dom), .d (.int .i64 R.sort), .d (eTs R.idx)] false⟩) ∧
          (st.s 60 = .d (eTs R.idx) ∧ st.s 61 = .d (.int .i64 R.idx.length) ∧ st.s 62 = .d (.int .i64 j)) ∧
          ∃ u, st.s 16 = .rsl 58 u ∧ st.h 58 = ⟨u, .row 3 ((L0 ++ (R.idx.map fun t => zfs t (OW.take i) 0).take j).map eT) false⟩) ?_ ?_
        · simp -dsimp [g1, g2, g3, g10, g12, g4, k4, g8, k8, g39, g40, g41, g13, k13, eTs, eArs, eSos, eCos, zcc, cT, hr]
        · clear g1 g2 g3 g10 g12 g4 k4 g8 k8 g39 g40 g41 g13 k13
          rintro j ⟨s, hp'⟩ hj ⟨⟨g1, g2, g3, g10, g12, g14⟩, ⟨g4, k4⟩, ⟨g8, k8⟩, ⟨g39, g40, g41⟩, ⟨u, g13, k13⟩, ⟨v, g15, k15⟩, ⟨g60, g61, g62⟩, u2, g16, k58⟩
          dsimp only at g1 g2 g3 g10 g12 g14 g4 k4 g8 k8 g39 g40 g41 g13 k13 g15 k15 g60 g61 g62 g16 k58
          simp only [eTs, eArs] at g12 g39 g60 k15
          have hidl := fa.idxL
          rcases Nat.lt_or_ge j R.idx.length with hlt2 | hge2
          · have w2 : IntKind.i64.wrap ((j : Int) + 1) = (j : Int) + 1 := zad (by omega) (by omega)
            have hxm := List.getElem_mem hlt2
            have hIn := zP8 R.idx[j] (OW.take i) 0 (by have := hxn _ hxm; omega) (fun x hx => by have := oOWt x hx; omega) (by omega)
            rw [hII hr _ hxm] at hIn
            have hn : (L0 ++ (R.idx.map fun t => zfs t (OW.take i) 0).take (j + 1)).map eT = (L0 ++ (R.idx.map fun t => zfs t (OW.take i) 0).take j).map eT ++ [eT (zfs R.idx[j] (OW.take i) 0)] := by
              rw [zdb (List.getElem?_eq_getElem (by simpa using hlt2)), ← List.append_assoc, List.map_append]
              simp
            rw [hn]
            have hl2 : (L0 ++ (R.idx.map fun t => zfs t (OW.take i) 0).take j).length ≤ 200 := zRl (by rw [l0]; exact hah) (by rw [List.length_map]; exact hidl)
            generalize L0 ++ (R.idx.map fun t => zfs t (OW.take i) 0).take j = L1 at *
            generalize zfs R.idx[j] (OW.take i) 0 = Y at *
            have r3 : (L1.length + 1) * 40 ≤ zal := zKd hl2
            generalize hZ : R.idx[j] = Z at *
            have hio : i ≤ OW.length := by omega
            have hio' : (i : Int) ≤ OW.length := by omega
            simp only [cT, eTs, List.map_take] at hIn
            simp -dsimp [g1, g2, g3, g10, g12, g14, g4, k4, g8, k8, g39, g40, g41, g13, k13, g15, k15, g60, g61, g62, g16, k58, hlt2, hZ, cT, hio, hio']
            refine zaa hIn ?_
            simp -dsimp [g1, g2, g3, g10, g12, g14, g4, k4, g8, k8, g39, g40, g41, g13, k13, g15, k15, g60, g61, g62, g16, k58, hlt2, hZ, cT, r3, w2, zcc, eTs, eArs]
          · have e : j = R.idx.length := by omega
            subst e
            rw [List.take_of_length_le (by simp)] at k58
            have hEl := zr9 b base R.sort
            have hC := zHs (za6 b base R.sort)
            have oC := zNr b base R.sort
            have oL : ∀ x ∈ L0 ++ (R.idx.map fun t => zfs t (OW.take i) 0) ++ [X], okT x := fun x hx => by
              simp only [List.mem_append, List.mem_singleton, List.mem_map] at hx
              rcases hx with (hx | ⟨t, ht, rfl⟩) | rfl
              · exact o0 x hx
              · exact zFj (by have := hxn t ht; omega) oOWt
              · exact oo.1
            have hLl : (L0 ++ (R.idx.map fun t => zfs t (OW.take i) 0)).length ≤ 200 := zNz (by rw [l0]; exact hah) (by rw [List.length_map]; exact hidl)
            have hS := zhq (tC (za6 b base R.sort)) _ (zLm hLl).1 oC ⟨(zLm hLl).2, oL⟩
            rw [hSP] at hS
            clear hSP
            generalize za6 b base R.sort = EL at *
            generalize L0 ++ (R.idx.map fun t => zfs t (OW.take i) 0) = L1 at *
            have r3 : (L1.length + 1) * 40 ≤ zal := zKd hLl
            simp only [eBl, cBl, eSos, eCos, cT, eTs, tC, tk, tn, tks, List.map_nil, List.map_append, List.map_cons, zcc] at hEl hC hS
            simp -dsimp [g1, g2, g3, g10, g12, g14, g4, k4, g8, k8, g39, g40, g41, g13, k13, g15, k15, g60, g61, g62, g16, k58, hlt, hltO, hX, eSos, eCos]
            refine zaa hEl ?_
            simp -dsimp [g1, g2, g3, g10, g12, g14, g4, k4, g8, k8, g39, g40, g41, g13, k13, g15, k15, g60, g61, g62, g16, k58, hlt, hltO, hX, eSos, eCos]
            refine zaa hC ?_
            simp -dsimp [g1, g2, g3, g10, g12, g14, g4, k4, g8, k8, g39, g40, g41, g13, k13, g15, k15, g60, g61, g62, g16, k58, hlt, hltO, hX, eSos, eCos, r3, cT]
            refine zaa hS ?_
            simp -dsimp [g1, g2, g3, g10, g12, g14, g4, k4, g8, k8, g39, g40, g41, g13, k13, g15, k15, g60, g61, g62, g16, k58, hlt, hltO, hX, eSos, eCos, r2, w1, cT, zcc, eTs, eArs]
    · have e : i = so.idx.length := by omega
      subst e
      rw [List.take_length] at k13
      have w4 : IntKind.i64.wrap (vars - 1) = vars - 1 := zad (by omega) (by omega)
      have w5 : IntKind.i64.wrap (vars - 1 - k) = vars - 1 - k := zad (by omega) (by omega)
      have hV := v_ok (vars - 1 - k)
      have hV0 := v_ok 0
      have oV : okT (.mk 1 (vars - 1 - k) []) := .mk _ _ _ (by simp only [n64]; omega) (by simp only [n64]; omega) (by simp) (by simp)
      have oL := zEh (b := b) (base := base) (ahead := AH) (vars := vars) (own := OW) o1 o0' so.idx 0 fun a ha x hx => Nat.le_trans (zci (List.mem_map.2 ⟨_, hx, rfl⟩)) (fl.2 a ha).idx
      have hgl := zvm b base AH vars OW so.idx 0
      generalize rsL b base AH vars OW 0 so.idx = G at *
      have oL2 : ∀ x ∈ G ++ [.mk 1 0 []], okT x := fun x hx => by
        rcases List.mem_append.1 hx with hx | hx
        · exact oL x hx
        · rw [List.mem_singleton] at hx; subst hx; exact zdq (by omega) (by omega)
      have hGl : G.length ≤ 200 := Nat.le_trans hgl (by omega)
      have hS := zhq (.mk 1 (vars - 1 - k) []) _ (zLm hGl).1 oV ⟨(zLm hGl).2, oL2⟩
      have r1 : (G.length + 1) * 40 ≤ zal := zq9 (by omega) trivial
      generalize spT (.mk 1 (vars - 1 - k) []) _ = SP at *
      simp only [cT, eTs, tk, tn, tks, List.map_nil, List.map_append, List.map_cons, zcc] at hV hV0 hS
      simp -dsimp [g1, g2, g3, g10, g12, g4, k4, g8, k8, g39, g40, g41, g13, k13, w4, w5]
      refine zaa hV ?_
      simp -dsimp [g1, g2, g3, g10, g12, g4, k4, g8, k8, g39, g40, g41, g13, k13]
      refine zaa hV0 ?_
      simp -dsimp [g1, g2, g3, g10, g12, g4, k4, g8, k8, g39, g40, g41, g13, k13, r1, zcc, cT]
      refine zaa hS ?_
      simp -dsimp [g1, g2, g3, g10, g12, g4, k4, g8, k8, g39, g40, g41, g13, k13, cT]
end
end
section
section
attribute [local simp] zae zaf tk tn tks zb6 zb9 zbb zbe zba zb8
theorem zA2 {n : Int} (h : 0 ≤ n ∧ n ≤ 65535) : zau (.mk 1 n []) = 0 := by
  refine (znj (by rw [zar]; omega)).2 ⟨by rw [zar]; omega, by rw [zgl]; omega, zbj h⟩
theorem zGt {t : T} {l : List T} {V : Int} (hV : 0 ≤ V ∧ V ≤ 100) (ht : zau t = 0) (hn : zac t ≤ 9000) (hl : ∀ x ∈ l, ∃ n : Int, x = .mk 1 n [] ∧ 0 ≤ n ∧ n < V) (hln : l.length ≤ 100) (hw : wiT t l.length 65536 = true) : zgr t l 0 = 0 := by
  have hx : ∀ x ∈ l, zau x = 0 ∧ zac x ≤ 9000 ∧ wiT x V 65536 = true := fun x hx => by
    obtain ⟨n, rfl, h0, h1⟩ := hl x hx
    exact ⟨zA2 ⟨h0, by omega⟩, by rw [zar]; omega, zku (by omega)⟩
  have hf := zfp ht
  obtain ⟨c1, c2, _⟩ := (znj (by omega)).1 ht
  have h1 := (zHn hV (u := 0) ⟨by omega, by omega⟩ ht hn hx hln (by rw [Int.zero_add]; exact hw)).1
  have hleaf : ∀ n b, ∃ k m : Int, zd1 l 0 n b = .mk k m [] := fun n b => by
    rw [zd1]
    split
    · split
      · rename_i a ha
        obtain ⟨m, rfl, _, _⟩ := hl a (List.mem_of_getElem? ha)
        exact ⟨_, _, by rw [zm4, mapT, if_pos rfl]⟩
      · exact ⟨_, _, rfl⟩
    · exact ⟨_, _, rfl⟩
  have hN : zac (mapT (zd1 l 0) t 0) = zac t := zox _ (fun n b => by obtain ⟨k, m, e⟩ := hleaf n b; rw [e, zar]) t hf 0
  have hD : zbg (mapT (zd1 l 0) t 0) = zbg t := zsi _ (fun n b => by obtain ⟨k, m, e⟩ := hleaf n b; rw [e, zgl]) t hf 0
  have hO : zi5 t l 0 = 0 := (zBj t l 0).2 ⟨ht, fun x h => (hx x h).1, by omega, by omega⟩
  have hl' : ∀ x ∈ l, zac x ≤ 1048576 := fun x h => by have := (hx x h).2.1; omega
  refine (zEr (by omega) hl').2 ⟨hO, ?_, by omega, by omega⟩
  cases hs : scI l 0 t 0 with
  | false => rfl
  | true =>
    have : zgr t l 0 = 6 := by rw [zgr, if_pos hO, zwt hO (by omega) hl', hs]; rfl
    omega
def fstN (f : Nat → Int) : Nat → Int
  | 0 => 0
  | n + 1 => if fstN f n = 0 then f n else fstN f n
theorem zFt {f : Nat → Int} {i : Nat} (h0 : fstN f i = 0) (h1 : f i ≠ 0) : ∀ {n : Nat}, i < n → fstN f n = f i := by
  intro n
  induction n with
  | zero => omega
  | succ n ih =>
    intro hlt
    rcases Nat.lt_or_ge i n with h | h
    · rw [fstN, ih h, if_neg h1]
    · have : i = n := by omega
      subst this
      rw [fstN, if_pos h0]
theorem zlj {f : Nat → Int} : ∀ {n : Nat}, fstN f n = 0 ↔ ∀ i, i < n → f i = 0 := by
  intro n
  induction n with
  | zero => simp [fstN]
  | succ n ih =>
    rw [fstN]
    constructor
    · intro h i hi
      split at h
      · rename_i h0
        rcases Nat.lt_or_ge i n with h1 | h1
        · exact ih.1 h0 i h1
        · have : i = n := by omega
          subst this; exact h
      · rename_i h0; exact absurd h h0
    · intro h
      rw [if_pos (ih.2 fun i hi => h i (by omega))]
      exact h n (by omega)
def zko (b : Bl) (base : Int) (n : Nat) : List T := (List.range n).map fun (i : Nat) => motR b base (i : Int)
def zph (b : Bl) (base : Int) (n : Nat) : List T := (List.range n).map fun (i : Nat) => metR b base (i : Int)
theorem zF2 (b : Bl) (base : Int) (n : Nat) : zko b base (n + 1) = zko b base n ++ [motR b base n] := by simp [zko, List.range_succ]
theorem zGk (b : Bl) (base : Int) (n : Nat) : zph b base (n + 1) = zph b base n ++ [metR b base n] := by simp [zph, List.range_succ]
theorem zxf (b : Bl) (base : Int) (n : Nat) : (zko b base n).length = n := by simp [zko]
theorem zw0 (b : Bl) (base : Int) (n : Nat) : (zph b base n).length = n := by simp [zph]
def elL (b : Bl) (base k : Int) (so : So) : List T := zko b base b.sorts.length ++ zph b base b.cons.length ++ so.idx.map (zd2 b base) ++ [spT (tC (zbq b base k)) (zco so.idx.length)]
theorem zIh (b : Bl) (base k : Int) (so : So) : (elL b base k so).length = b.sorts.length + b.cons.length + so.idx.length + 1 := by
  simp only [elL, List.length_append, zxf, zw0, List.length_map, List.length_singleton]
def elT (b : Bl) (base k : Int) (so : So) : T := zcx 4 (elL b base k so) (resE b base k ((elL b base k so).length : Int) so)
def elE (b : Bl) (base k : Int) : Int :=
  if mayP b base k b.sorts.length = 0 then
    if fstN (fun i => motE b base i) b.sorts.length = 0 then
      if fstN (fun i => metE b base i) b.cons.length = 0 then (match b.sorts[k.toNat]? with | some so => zau (elT b base k so) | none => 1)
      else fstN (fun i => metE b base i) b.cons.length
    else fstN (fun i => motE b base i) b.sorts.length
  else mayP b base k b.sorts.length
def elR (b : Bl) (base k : Int) : T := if elE b base k = 0 then (match b.sorts[k.toNat]? with | some so => elT b base k so | none => zT) else zT
theorem zQo (b : Bl) (base k : Int) : okT (motR b base k) := by
  rw [motR]
  split
  · rename_i h
    split
    · rename_i so hso
      rw [motE] at h
      split at h
      · simp only [hso] at h
        exact zfg (zfp h)
      · rename_i h'; exact absurd h h'
    · exact zdq (by omega) (by omega)
  · exact zdq (by omega) (by omega)
theorem zPh (b : Bl) (base k : Int) : okT (metR b base k) := by
  rw [metR]
  split
  · rename_i h
    rw [metE] at h
    split at h
    · cases hA : metA b base k with
      | none => exact zdq (by omega) (by omega)
      | some t =>
        simp only [hA] at h
        exact zfg (zfp h)
    · rename_i h'; exact absurd h h'
  · exact zdq (by omega) (by omega)
theorem zC9 {b : Bl} {l : List Ar} (hr : rowM b l = true) (fl : zfy l) (hd0 : ∀ a ∈ l, a.rc = true → a.dom = []) {o V : Int} (h0 : 0 ≤ V - o - l.length) (h1 : 0 ≤ o) (V1 : V ≤ 100) : ∀ (i : Nat) (h : i < l.length), l[i].rc = true → ∀ t ∈ l[i].idx, zgr t ((lvs o l.length V).take i) 0 = 0 := fun i h hrc t ht => by
  obtain ⟨hr1, hr2⟩ := zka hr
  have fa := fl.2 _ (List.getElem_mem h)
  have hnx : zac t ≤ 9000 := Nat.le_trans (zci (List.mem_map.2 ⟨_, ht, rfl⟩)) fa.idx
  obtain ⟨_, s0, s1, d1, ⟨so, hso, hil⟩, hd, hx⟩ := zg8 (hr2 i h) hrc (by omega) (by omega)
  have hx1 := hx t ht
  rw [hd0 _ (List.getElem_mem h) hrc, List.length_nil] at hx1
  have hf := zcg hx1 (by omega) (by omega) (by omega)
  have hlen : ((lvs o l.length V).take i).length = i := by rw [List.length_take, zs8]; omega
  refine zGt (V := V) ⟨by omega, by omega⟩ hf.2.2 hnx (fun x hxm => ?_) (by omega) (by rw [hlen]; simpa using hf.1)
  have := List.mem_of_mem_take hxm
  simp only [lvs, List.mem_map, List.mem_range] at this
  obtain ⟨j, hj, rfl⟩ := this
  exact ⟨_, rfl, by omega, by omega⟩
theorem zCu {b : Bl} {base k many : Int} : (zbr 9000 b base ≠ 0 → mayP b base k many = zbr 9000 b base) ∧ (zbr 9000 b base = 0 → (k < 0 ∨ many ≤ k) → mayP b base k many = 1) ∧ (zbr 9000 b base = 0 → ¬(k < 0 ∨ many ≤ k) → mayP b base k many = 0) :=
  ⟨fun h => by rw [mayP, if_neg (fun h' => h h'.1)], fun h h' => by rw [mayP, if_pos ⟨h, h'⟩], fun h h' => by rw [mayP, if_neg (fun h2 => h' h2.2), h]⟩
set_option maxHeartbeats 4000000 in
theorem zw3 (b : Bl) (ob : okBl b) (fb : FineBl b) (hf : Fit b) (base k : Int) (b1 : base ≤ 60000) : Pure Tryz.prog zms [eBl b, .int .i64 base, .int .i64 k] [.agg (cT (elR b base k)), .int .i64 (elE b base k)] := by
  refine zDp rfl fun hs => ?_
  have hP := zFn 9000 (by omega) (by omega) b ob fb base
  simp only [eBl, cBl, eSos, eCos] at hP
  obtain ⟨m1, m2, m3⟩ := zCu (b := b) (base := base) (k := k) (many := b.sorts.length)
  have bad : elE b base k ≠ 0 → elR b base k = zT := fun h => by rw [elR, if_neg h]
  by_cases hp : zbr 9000 b base = 0
  case neg =>
    have e1 : elE b base k = zbr 9000 b base := by rw [elE, if_neg (by rw [m1 hp]; exact hp), m1 hp]
    rw [bad (by rw [e1]; exact hp), e1]
    simp -dsimp [zl7, eBl, cBl, eSos, eCos]
    refine zaa hP ?_
    simp -dsimp [hp, zT, cT]
  rw [hp] at hP
  obtain ⟨hz, b0, _, hpos⟩ := zcj hp
  obtain ⟨z1, z4, z8, zl, zs, zc⟩ := (za2 b).1 hz
  simp -dsimp [zl7, eBl, cBl, eSos, eCos]
  refine zaa hP ?_
  by_cases k0 : k < 0
  · have e0 := m2 hp (.inl k0)
    have e1 : elE b base k = 1 := by rw [elE, if_neg (by rw [e0]; decide), e0]
    rw [bad (by rw [e1]; decide), e1]
    simp -dsimp [k0, zT, cT]
  by_cases k1 : (b.sorts.length : Int) ≤ k
  · have e0 := m2 hp (.inr k1)
    have e1 : elE b base k = 1 := by rw [elE, if_neg (by rw [e0]; decide), e0]
    rw [bad (by rw [e1]; decide), e1]
    simp -dsimp [k0, k1, zT, cT]
  have e0 := m3 hp (by omega)
  simp -dsimp [k0, k1]
  have hfs := hf.s
  have hfc := hf.c
  refine zam b.sorts.length (fun i st => (st.s 1 = .d (.int .i64 base) ∧ st.s 2 = .d (.int .i64 k)) ∧ (st.s 3 = .ptr 3 1 0 ∧ st.h 3 = ⟨1, .box [.d (eSos b.sorts), .d (eCos b.cons), .d (.int .i64 b.elim)] false⟩) ∧
    (st.s 6 = .ptr 6 1 0 ∧ st.h 6 = ⟨1, .box [.d (.int .i64 0), .d (.int .i64 0), .fsl 3 []] false⟩) ∧ (st.s 40 = .d (.int .i64 b.sorts.length) ∧ st.s 41 = .d (.int .i64 i)) ∧
    (∃ u, st.s 9 = .rsl 9 u ∧ st.h 9 = ⟨u, .row 3 ((zko b base i).map eT) false⟩) ∧ fstN (fun i => motE b base i) i = 0) ?_ ?_
  · simp -dsimp [eSos, eCos, zko, fstN]
  rintro i ⟨s, hp'⟩ hi ⟨⟨g1, g2⟩, ⟨g3, k3⟩, ⟨g6, k6⟩, ⟨g40, g41⟩, ⟨u, g9, k9⟩, hF⟩
  dsimp only at g1 g2 g3 k3 g6 k6 g40 g41 g9 k9
  simp only [eSos, eCos] at k3
  rcases Nat.lt_or_ge i b.sorts.length with hlt | hge
  · have w1 : IntKind.i64.wrap ((i : Int) + 1) = (i : Int) + 1 := zad (by omega) (by omega)
    have hM := zCc b ob fb hf base i b1
    have hr : ((zko b base i).length + 1) * 40 ≤ zal := by rw [zxf]; simp only [zal]; omega
    have hn : (zko b base (i + 1)).map eT = (zko b base i).map eT ++ [eT (motR b base i)] := by rw [zF2, List.map_append]; rfl
    have hF1 : fstN (fun i => motE b base i) (i + 1) = motE b base i := by rw [fstN, if_pos hF]
    rw [hn, hF1]
    by_cases hE : motE b base i = 0
    · generalize zko b base i = G at *
      generalize motR b base i = Y at *
      simp only [eBl, cBl, eSos, eCos, cT] at hM
      rw [hE] at hM
      simp -dsimp [g1, g2, g3, k3, g6, k6, g40, g41, g9, k9, hlt]
      refine zaa hM ?_
      simp -dsimp [g1, g2, g3, k3, g6, k6, g40, g41, g9, k9, hlt, hE, hr, w1, zcc, cT, eSos, eCos]
    · have hh := zFt (f := fun i => motE b base i) hF hE hlt
      have e1 : elE b base k = motE b base i := by rw [elE, if_pos e0, hh, if_neg hE]
      rw [bad (by rw [e1]; exact hE), e1]
      generalize motE b base i = E at *
      generalize zko b base i = G at *
      generalize motR b base i = Y at *
      simp only [eBl, cBl, eSos, eCos, cT] at hM
      simp -dsimp [g1, g2, g3, k3, g6, k6, g40, g41, g9, k9, hlt]
      refine zaa hM ?_
      simp -dsimp [g1, g2, g3, k3, g6, k6, g40, g41, g9, k9, hlt, hE, zT, cT]
  have e : i = b.sorts.length := by omega
  subst e
  simp -dsimp [g1, g2, g3, k3, g6, k6, g40, g41, g9, k9]
  refine zam b.cons.length (fun i st => (st.s 1 = .d (.int .i64 base) ∧ st.s 2 = .d (.int .i64 k)) ∧ (st.s 3 = .ptr 3 1 0 ∧ st.h 3 = ⟨1, .box [.d (eSos b.sorts), .d (eCos b.cons), .d (.int .i64 b.elim)] false⟩) ∧
    (st.s 6 = .ptr 6 1 0 ∧ st.h 6 = ⟨1, .box [.d (.int .i64 0), .d (.int .i64 0), .fsl 3 []] false⟩) ∧ (st.s 62 = .d (.int .i64 b.cons.length) ∧ st.s 63 = .d (.int .i64 i)) ∧
    (∃ u, st.s 9 = .rsl 9 u ∧ st.h 9 = ⟨u, .row 3 ((zko b base b.sorts.length ++ zph b base i).map eT) false⟩) ∧ fstN (fun i => metE b base i) i = 0) ?_ ?_
  · simp -dsimp [eSos, eCos, zph, fstN, g1, g2, g3, k3, g6, k6, g40, g41, g9, k9]
  clear g1 g2 g3 k3 g6 k6 g40 g41 g9 k9 hi hge
  rintro i ⟨s, hp'⟩ hi ⟨⟨g1, g2⟩, ⟨g3, k3⟩, ⟨g6, k6⟩, ⟨g62, g63⟩, ⟨u, g9, k9⟩, hG⟩
  dsimp only at g1 g2 g3 k3 g6 k6 g62 g63 g9 k9
  simp only [eSos, eCos] at k3
  have lM := zxf b base b.sorts.length
  rcases Nat.lt_or_ge i b.cons.length with hlt | hge
  · have w1 : IntKind.i64.wrap ((i : Int) + 1) = (i : Int) + 1 := zad (by omega) (by omega)
    have hM := zBa b ob fb hf base i b1
    have hr : ((zko b base b.sorts.length ++ zph b base i).length + 1) * 40 ≤ zal := by rw [List.length_append, lM, zw0]; simp only [zal]; omega
    have hn : (zko b base b.sorts.length ++ zph b base (i + 1)).map eT = (zko b base b.sorts.length ++ zph b base i).map eT ++ [eT (metR b base i)] := by rw [zGk, ← List.append_assoc, List.map_append]; rfl
    have hF1 : fstN (fun i => metE b base i) (i + 1) = metE b base i := by rw [fstN, if_pos hG]
    rw [hn, hF1]
    generalize zko b base b.sorts.length ++ zph b base i = G at *
    by_cases hE : metE b base i = 0
    · generalize metR b base i = Y at *
      simp only [eBl, cBl, eSos, eCos, cT] at hM
      rw [hE] at hM
      simp -dsimp [g1, g2, g3, k3, g6, k6, g62, g63, g9, k9, hlt]
      refine zaa hM ?_
      simp -dsimp [g1, g2, g3, k3, g6, k6, g62, g63, g9, k9, hlt, hE, hr, w1, zcc, cT, eSos, eCos]
    · have hh := zFt (f := fun i => metE b base i) hG hE hlt
      have e1 : elE b base k = metE b base i := by rw [elE, if_pos e0, if_pos hF, hh, if_neg hE]
      rw [bad (by rw [e1]; exact hE), e1]
      generalize metE b base i = E at *
      generalize metR b base i = Y at *
      simp only [eBl, cBl, eSos, eCos, cT] at hM
      simp -dsimp [g1, g2, g3, k3, g6, k6, g62, g63, g9, k9, hlt]
      refine zaa hM ?_
      simp -dsimp [g1, g2, g3, k3, g6, k6, g62, g63, g9, k9, hlt, hE, zT, cT]
  have e : i = b.cons.length := by omega
  subst e
  have klt : k.toNat < b.sorts.length := by omega
  have hget : b.sorts[k.toNat]? = some b.sorts[k.toNat] := List.getElem?_eq_getElem klt
  have kk0 : 0 ≤ k := by omega
  have os := ob.sorts _ (List.getElem_mem klt)
  have fs := fb.sorts _ (List.getElem_mem klt)
  have hsm := zs _ klt
  have e1 : elE b base k = zau (elT b base k b.sorts[k.toNat]) := by rw [elE, if_pos e0, if_pos hF, if_pos hG, hget]
  have e2 : elR b base k = zfi (elT b base k b.sorts[k.toNat]) := by rw [elR, zfi, e1, hget]
  generalize hS : b.sorts[k.toNat] = S at *
  obtain ⟨hrow, _, _, hbad⟩ := (zbx _ _ _).1 hsm
  have hil := fs.idx.1
  have hd0 : ∀ a ∈ S.idx, a.rc = true → a.dom = [] := fun a ha hr => by
    have := hbad a ha
    rw [zem, if_pos hr] at this
    split at this
    · cases this
    · exact List.eq_nil_of_length_eq_zero (by omega)
  have lL := zIh b base k S
  have lN := zw0 b base b.cons.length
  have hA := zD5 b base S.idx os.idx fs.idx
  have hFo := zrs b base k
  have hC := zHs (zbq b base k)
  have hfi := zhg hf b0 (by omega : base ≤ 65535) k
  rw [if_pos ⟨kk0, by omega⟩] at hfi
  have oC : okT (tC (zbq b base k)) := zdq (by omega) (by omega)
  have hV := zO1 S.idx.length (by omega)
  have hSp := zhq (tC (zbq b base k)) (zco S.idx.length) (by rw [zg0]; omega) oC (zso _ (by omega))
  have oSp := zi6 (zco S.idx.length) _ oC (zso S.idx.length (by omega)).2
  have hR := zHo b hf base k ((elL b base k S).length : Int) S kk0 hget fs.idx (by omega) (by omega) (zC9 hrow fs.idx hd0 (by omega) (by omega) (by omega))
  have oR : okT (resE b base k ((elL b base k S).length : Int) S) := by
    refine zi6 _ _ (.mk _ _ _ (by simp only [n64]; omega) (by simp only [n64]; omega) (by simp) (by simp)) fun x hx => ?_
    rcases List.mem_append.1 hx with hx | hx
    · refine zEh (fun y hy => ⟨zzn (by omega) (by omega) y hy, ?_⟩) (zzn (by omega) (by omega)) S.idx 0 (fun a ha x hx => Nat.le_trans (zci (List.mem_map.2 ⟨_, hx, rfl⟩)) (fs.idx.2 a ha).idx) x hx
      simp only [lvs, List.mem_map] at hy
      obtain ⟨i, _, rfl⟩ := hy
      rw [zar]; omega
    · rw [List.mem_singleton] at hx; subst hx; exact zdq (by omega) (by omega)
  have oA := zI6 b base os.idx fs.idx
  have oL : ∀ x ∈ elL b base k S, okT x := fun x hx => by
    simp only [elL, List.mem_append, List.mem_singleton] at hx
    rcases hx with ((hx | hx) | hx) | rfl
    · obtain ⟨i, _, rfl⟩ := List.mem_map.1 hx
      exact zQo b base i
    · obtain ⟨i, _, rfl⟩ := List.mem_map.1 hx
      exact zPh b base i
    · exact oA.2 x hx
    · exact oSp
  have hPi := zEx (elL b base k S) _ (by omega) oR ⟨by omega, oL⟩
  have hCh := zra (elT b base k S)
  rw [e1, e2]
  rw [← elT] at hPi
  have lA : (S.idx.map (zd2 b base)).length = S.idx.length := List.length_map ..
  have hLe : (elL b base k S).map eT = (zko b base b.sorts.length ++ zph b base b.cons.length).map eT ++ (S.idx.map (zd2 b base)).map eT ++ [eT (spT (tC (zbq b base k)) (zco S.idx.length))] := by
    rw [elL, List.map_append, List.map_append, List.map_singleton]
  have hGl : (zko b base b.sorts.length ++ zph b base b.cons.length).length ≤ 100 := by rw [List.length_append, lM, lN]; omega
  generalize elT b base k S = ET at *
  generalize resE b base k ((elL b base k S).length : Int) S = RE at *
  generalize elL b base k S = EL at *
  generalize zko b base b.sorts.length ++ zph b base b.cons.length = G at *
  generalize S.idx.map (zd2 b base) = AR at *
  generalize spT (tC (zbq b base k)) (zco S.idx.length) = SP at *
  generalize zbq b base k = FO at *
  have hl2 : EL.length = G.length + AR.length + 1 := by
    have := congrArg List.length hLe
    simp only [List.length_map, List.length_append, List.length_singleton] at this
    exact this
  rw [hl2] at hR
  have r1 : (G.length + AR.length) * 40 ≤ zal := by simp only [zal]; omega
  have r2 : (G.length + AR.length + 1) * 40 ≤ zal := by simp only [zal]; omega
  clear hP e1 e2 bad m1 m2 m3 oL oA oR oSp hd0 hbad hrow zs zc oC
  simp only [eTs] at hPi
  rw [hLe, List.append_assoc] at hPi
  have hle2 : ((G.length + AR.length + 1 : Nat) : Int) = (G.length : Int) + AR.length + 1 := by omega
  simp only [eBl, cBl, eSos, eCos, cT, eTs, eArs, tC, tk, tn, tks, List.map_nil, zcc, hle2] at hA hFo hC hV hSp hR hPi hCh
  simp -dsimp [g1, g2, g3, k3, g6, k6, g62, g63, g9, k9, kk0, klt, hget, hS, eSo, cSo, cT, eArs]
  refine zaa hA ?_
  simp -dsimp [g1, g2, g3, k3, g6, k6, g62, g63, g9, k9, kk0, klt, hget, hS, eSo, cSo, cT, eArs, r1]
  refine zaa hFo ?_
  simp -dsimp [g1, g2, g3, k3, g6, k6, g62, g63, g9, k9]
  refine zaa hC ?_
  simp -dsimp [g1, g2, g3, k3, g6, k6, g62, g63, g9, k9]
  refine zaa hV ?_
  simp -dsimp [g1, g2, g3, k3, g6, k6, g62, g63, g9, k9]
  refine zaa hSp ?_
  simp -dsimp [g1, g2, g3, k3, g6, k6, g62, g63, g9, k9, r2, cT]
  refine zaa hR ?_
  simp -dsimp [g1, g2, g3, k3, g6, k6, g62, g63, g9, k9, cT]
  refine zaa hPi ?_
  simp -dsimp [g1, g2, g3, k3, g6, k6, g62, g63, g9, k9, cT]
  refine zaa hCh ?_
  by_cases hc : zau ET = 0
  · simp -dsimp [g1, g2, g3, k3, g6, k6, hc, zfi, cT]
  · simp -dsimp [g1, g2, g3, k3, g6, k6, hc, zfi, zT, cT]
end
end
section
section
attribute [local simp] zae zaf tk tn tks zb6 zb9
end
end
section
def n64B (n : Int) : Bool := decide (-9223372036854775808 ≤ n) && decide (n < 9223372036854775808)
theorem zx1 {n : Int} (h : n64B n = true) : n64 n := by
  rw [n64B, Bool.and_eq_true, decide_eq_true_eq, decide_eq_true_eq] at h
  exact h
mutual
def okTB : T → Bool
  | .mk k n ks => n64B k && (n64B n && (decide (ks.length * 40 ≤ 140737488351232) && okLB ks))
def okLB : List T → Bool
  | [] => true
  | x :: xs => okTB x && okLB xs
end
theorem zM9 {xs : List T} (hx : ∀ x ∈ xs, okTB x = true → okT x) (h : okLB xs = true) : ∀ x ∈ xs, okT x := by
  induction xs with
  | nil => intro x hx'; simp at hx'
  | cons y ys ih =>
    rw [okLB, Bool.and_eq_true] at h
    intro x hm
    rcases List.mem_cons.1 hm with rfl | hm
    · exact hx _ (by simp) h.1
    · exact ih (fun z hz => hx z (by simp [hz])) h.2 x hm
theorem zyo (t : T) : okTB t = true → okT t := by
  refine T.ind (p := fun t => okTB t = true → okT t) ?_ t
  intro k n ks ih h
  rw [okTB] at h
  simp only [Bool.and_eq_true, decide_eq_true_eq] at h
  exact .mk k n ks (zx1 h.1) (zx1 h.2.1) h.2.2.1 (zM9 ih h.2.2.2)
def zHg (l : List T) : Bool := decide (l.length * 40 ≤ 140737488351232) && okLB l
theorem zzj {l : List T} (h : zHg l = true) : okTs l := by
  rw [zHg, Bool.and_eq_true, decide_eq_true_eq] at h
  exact ⟨h.1, zM9 (fun x _ => zyo x) h.2⟩
def zR8 (a : Ar) : Bool := okTB a.ty && (zHg a.dom && (n64B a.sort && zHg a.idx))
def zFh (l : List Ar) : Bool := decide (l.length * 104 ≤ 140737488351232) && l.all zR8
theorem zE9 {l : List Ar} (h : zFh l = true) : zxq l := by
  rw [zFh, Bool.and_eq_true, decide_eq_true_eq, List.all_eq_true] at h
  refine ⟨h.1, fun a ha => ?_⟩
  have := h.2 a ha
  simp only [zR8, Bool.and_eq_true] at this
  exact ⟨zyo _ this.1, zzj this.2.1, zx1 this.2.2.1, zzj this.2.2.2⟩
def zQ1 (b : Bl) : Bool := decide (b.sorts.length * 80 ≤ 140737488351232) && (b.sorts.all (fun s => zFh s.idx && (n64B s.level && okTB s.dty)) && (decide (b.cons.length * 96 ≤ 140737488351232) &&
  (b.cons.all (fun c => n64B c.sort && (zFh c.args && (zHg c.idx && okTB c.dec))) && n64B b.elim)))
theorem zQ7 {b : Bl} (h : zQ1 b = true) : okBl b := by
  simp only [zQ1, Bool.and_eq_true, decide_eq_true_eq, List.all_eq_true] at h
  obtain ⟨h1, h2, h3, h4, h5⟩ := h
  exact ⟨h1, fun s hs => ⟨zE9 (h2 s hs).1, zx1 (h2 s hs).2.1, zyo _ (h2 s hs).2.2⟩, h3, fun c hc => ⟨zx1 (h4 c hc).1, zE9 (h4 c hc).2.1, zzj (h4 c hc).2.2.1, zyo _ (h4 c hc).2.2.2⟩, zx1 h5⟩
mutual
def nodB : T → Nat
  | .mk _ _ ks => 1 + zCa ks
def zCa : List T → Nat
  | [] => 0
  | x :: xs => nodB x + zCa xs
end
theorem zE4 {xs : List T} (h : ∀ x ∈ xs, nodB x = zac x) : zCa xs = (xs.map zac).sum := by
  induction xs with
  | nil => rfl
  | cons y ys ih => rw [zCa, h y (by simp), ih fun z hz => h z (by simp [hz]), List.map_cons, List.sum_cons]
theorem zwc (t : T) : nodB t = zac t := by
  refine T.ind (p := fun t => nodB t = zac t) ?_ t
  intro k n ks ih
  rw [nodB, zac, zE4 ih, Nat.add_comm]
theorem zEj (l : List T) : zCa l = (l.map zac).sum := zE4 fun x _ => zwc x
def zus (l : List Ar) : Bool := decide (l.length ≤ 20) && l.all fun a => decide (nodB a.ty ≤ 9000) && (decide (a.dom.length ≤ 60) && (decide (zCa a.dom ≤ 9000) && (decide (a.idx.length ≤ 60) && decide (zCa a.idx ≤ 9000))))
theorem zyf {l : List Ar} (h : zus l = true) : zfy l := by
  simp only [zus, zwc, zEj, Bool.and_eq_true, decide_eq_true_eq, List.all_eq_true] at h
  exact ⟨h.1, fun a ha => ⟨(h.2 a ha).1, (h.2 a ha).2.1, (h.2 a ha).2.2.1, (h.2 a ha).2.2.2.1, (h.2 a ha).2.2.2.2⟩⟩
def zDx (b : Bl) : Bool := decide (b.sorts.length ≤ 10) && (decide (b.cons.length ≤ 20) && ((b.sorts.all fun s => zus s.idx && decide (nodB s.dty ≤ 9000)) &&
  b.cons.all fun c => zus c.args && (decide (c.idx.length ≤ 60) && (decide (zCa c.idx ≤ 9000) && decide (nodB c.dec ≤ 9000)))))
theorem zJi {b : Bl} (h : zDx b = true) : FineBl b := by
  simp only [zDx, zwc, zEj, Bool.and_eq_true, decide_eq_true_eq, List.all_eq_true] at h
  obtain ⟨h1, h2, h3, h4⟩ := h
  exact ⟨h1, h2, fun s hs => ⟨zyf (h3 s hs).1, (h3 s hs).2⟩, fun c hc => ⟨zyf (h4 c hc).1, (h4 c hc).2.1, (h4 c hc).2.2.1, (h4 c hc).2.2.2⟩⟩
mutual
def zxp : T → Bool
  | .mk k n ks => if (ks.length : Int) = zds k then if zds k = 0 then inB n 0 65535 && zBs ks else if n = 0 then zBs ks else false else false
def zBs : List T → Bool
  | [] => true
  | x :: xs => zxp x && zBs xs
end
theorem zI1 {xs : List T} (h : ∀ x ∈ xs, zxp x = zab x) : zBs xs = xs.all zab := by
  induction xs with
  | nil => rfl
  | cons y ys ih => rw [zBs, h y (by simp), ih fun z hz => h z (by simp [hz]), List.all_cons]
theorem zE1 (t : T) : zxp t = zab t := by
  refine T.ind (p := fun t => zxp t = zab t) ?_ t
  intro k n ks ih
  rw [zxp, za0, zI1 ih]
def inC (t : T) (v : Nat) : Bool := decide (v ≤ 65536) && (decide (nodB t ≤ 200) && (zxp t && wiT t v 65536))
theorem zFg {t : T} {v : Nat} (h : inC t v = true) : inM t v = true := by
  simp only [inC, Bool.and_eq_true, decide_eq_true_eq, zwc, zE1] at h
  obtain ⟨h1, h2, h3, h4⟩ := h
  have hd := zpa t
  exact (zFe (by omega) (by omega) (by omega)).2 ⟨(znj (by omega)).2 ⟨by omega, by omega, h3⟩, h4⟩
def domC : Nat → List T → Bool
  | _, [] => true
  | i, x :: xs => inC x i && domC (i + 1) xs
theorem zKb : ∀ (l : List T) (i : Nat), domC i l = true → ∀ (j : Nat) (hj : j < l.length), inC l[j] (i + j) = true
  | x :: xs, i, h, 0, _ => by rw [domC, Bool.and_eq_true] at h; exact h.1
  | x :: xs, i, h, j + 1, hj => by
    rw [domC, Bool.and_eq_true] at h
    have := zKb xs (i + 1) h.2 j (by simpa using hj)
    rw [show i + (j + 1) = i + 1 + j by omega]
    exact this
def argC (b : Bl) (a : Ar) (i : Nat) : Bool :=
  if a.rc then zv7 a.ty && (decide (a.dom.length ≤ 12) && (decide (0 ≤ a.sort) && match b.sorts[a.sort.toNat]? with
    | none => false
    | some s => decide (a.idx.length = s.idx.length) && (domC i a.dom && a.idx.all fun t => inC t (i + a.dom.length))))
  else inC a.ty i && (decide (a.dom = []) && (decide (a.idx = []) && decide (a.sort = 0)))
theorem zHc {l : List T} {v : Nat} (h : l.all (fun t => inC t v) = true) : allM l v = true := by
  rw [allM, Bool.not_eq_true', List.any_eq_false]
  intro x hx
  have := zFg (List.all_eq_true.1 h x hx)
  simp [this]
theorem zPr {b : Bl} {a : Ar} {i : Nat} (hi : i ≤ 12) (h : argC b a i = true) : argM b a i = true := by
  rw [argC] at h
  rw [argM]
  split at h
  · rename_i hr
    simp only [Bool.and_eq_true, decide_eq_true_eq] at h
    obtain ⟨h1, h2, h3, h4⟩ := h
    rw [if_pos hr, if_pos h1, if_neg (by omega), if_neg (by omega)]
    split at h4
    · cases h4
    · rename_i s hs
      simp only [Bool.and_eq_true, decide_eq_true_eq] at h4
      obtain ⟨h5, h6, h7⟩ := h4
      rw [hs]
      dsimp only
      rw [if_pos (by omega), Bool.and_eq_true]
      refine ⟨(zan _ _ _).2 fun j hj => ?_, ?_⟩
      · rw [Nat.zero_add, zb0 (by omega) (by omega), show (i : Int) + (j : Int) = ((i + j : Nat) : Int) by omega]
        exact zFg (zKb _ _ h6 j hj)
      · rw [zb0 (by omega) (by omega), show (i : Int) + (a.dom.length : Int) = ((i + a.dom.length : Nat) : Int) by omega]
        exact zHc h7
  · rename_i hr
    simp only [Bool.and_eq_true, decide_eq_true_eq] at h
    obtain ⟨h1, h2, h3, h4⟩ := h
    rw [if_neg hr, if_pos (zFg h1), h2, h3]
    simp [h4, w64]
    rfl
def zIa (b : Bl) : Nat → List Ar → Bool
  | _, [] => true
  | i, x :: xs => argC b x i && zIa b (i + 1) xs
theorem zFb {b : Bl} : ∀ (l : List Ar) (i : Nat), zIa b i l = true → ∀ (j : Nat) (hj : j < l.length), argC b l[j] (i + j) = true
  | x :: xs, i, h, 0, _ => by rw [zIa, Bool.and_eq_true] at h; exact h.1
  | x :: xs, i, h, j + 1, hj => by
    rw [zIa, Bool.and_eq_true] at h
    have := zFb xs (i + 1) h.2 j (by simpa using hj)
    rw [show i + (j + 1) = i + 1 + j by omega]
    exact this
def rowC (b : Bl) (l : List Ar) : Bool := decide (l.length ≤ 12) && zIa b 0 l
theorem zJ4 {b : Bl} {l : List Ar} (h : rowC b l = true) : rowM b l = true := by
  rw [rowC, Bool.and_eq_true, decide_eq_true_eq] at h
  rw [rowM, if_neg (by omega)]
  refine (zan _ _ _).2 fun j hj => ?_
  have := zFb _ _ h.2 j hj
  rw [Nat.zero_add] at this ⊢
  exact zPr (by omega) this
def zFq (is : Bool) (t : T) (v : Nat) : Bool := if is then inC t v else zv7 t
theorem zBh {is : Bool} {t : T} {v : Nat} (h : zFq is t v = true) : zeq is t v = true := by
  rw [zFq] at h
  rw [zeq]
  split at h
  · rename_i h1
    rw [if_pos h1]; exact zFg h
  · rename_i h1
    rw [if_neg h1]; exact h
def zA1 (b : Bl) : Nat → List So → Bool
  | _, [] => true
  | k, s :: l => (rowC b s.idx && (zi8 s.level && (zFq s.dec s.dty s.idx.length && !s.idx.any (zem k s)))) && zA1 b (k + 1) l
theorem zCp {b : Bl} : ∀ (l : List So) (k : Nat), zA1 b k l = true → ∀ (j : Nat) (hj : j < l.length), zf3 b (k + j) l[j] = true
  | x :: xs, k, h, 0, _ => by
    simp only [zA1, Bool.and_eq_true, Bool.not_eq_true'] at h
    obtain ⟨⟨h1, h2, h3, h4⟩, _⟩ := h
    refine (zbx _ _ _).2 ⟨zJ4 h1, h2, zBh h3, fun a ha => ?_⟩
    have := List.any_eq_false.1 h4 a ha
    simpa using this
  | x :: xs, k, h, j + 1, hj => by
    rw [zA1, Bool.and_eq_true] at h
    have := zCp xs (k + 1) h.2 j (by simpa using hj)
    rw [show k + (j + 1) = k + 1 + j by omega]
    exact this
def conC (b : Bl) (c : Co) : Bool := decide (0 ≤ c.sort) && (rowC b c.args && match b.sorts[c.sort.toNat]? with
  | none => false
  | some s => decide (c.idx.length = s.idx.length) && (c.idx.all (fun t => inC t c.args.length) && zFq s.dec c.dec c.args.length))
theorem zOs {b : Bl} {c : Co} (h : conC b c = true) : conM b c = true := by
  simp only [conC, Bool.and_eq_true, decide_eq_true_eq] at h
  obtain ⟨h1, h2, h3⟩ := h
  rw [conM, if_neg (by omega), if_pos (zJ4 h2)]
  split at h3
  · cases h3
  · rename_i s hs
    simp only [Bool.and_eq_true, decide_eq_true_eq] at h3
    rw [hs]
    dsimp only
    rw [if_pos (by omega), if_pos (zHc h3.2.1)]
    exact zBh h3.2.2
def zJl (b : Bl) : Bool := decide (1 ≤ b.sorts.length) && (decide (b.sorts.length ≤ 4) && (decide (b.cons.length ≤ 8) && (zi8 b.elim && (zA1 b 0 b.sorts && b.cons.all (conC b)))))
theorem zJk {b : Bl} (h : zJl b = true) : zey b = 0 := by
  simp only [zJl, Bool.and_eq_true, decide_eq_true_eq, List.all_eq_true] at h
  obtain ⟨h1, h2, h3, h4, h5, h6⟩ := h
  exact (za2 b).2 ⟨h1, h2, h3, h4, fun j hj => by have := zCp _ _ h5 j hj; rwa [Nat.zero_add] at this, fun c hc => zOs (h6 c hc)⟩
def zx5 (b : Bl) (base : Int) (good : Bool) : Bool := zQ1 b && (zDx b && (zJl b && (decide (0 ≤ base) && (decide (base ≤ 65535) && (posF 9000 b base == good)))))
end
section
section
attribute [local simp] zae zaf tk tn tks zb6 zb9 zbb zbe zba zb8
end
end
section
section
attribute [local simp] zae zaf tk tn tks zb6 zb9 zbb zbe zba zb8
theorem traw (k : Int) (l : List D) (hl : l.length * 40 ≤ zal) : Pure Tryz.prog zj2 [.int .i64 k, .sl 3 l] [.agg [.int .i64 k, .int .i64 0, .sl 3 l]] := by
  refine zvt rfl fun hs => ?_
  simp -dsimp [zjy, hl]
theorem craw (n : Int) : Pure Tryz.prog zj7 [.int .i64 n] [.agg [.int .i64 3, .int .i64 n, .sl 3 []]] := by simpa [cT] using rc_ok n
theorem vraw (n : Int) : Pure Tryz.prog zdv [.int .i64 n] [.agg [.int .i64 1, .int .i64 n, .sl 3 []]] := by simpa [cT] using zRj n
theorem uraw (n : Int) : Pure Tryz.prog zjv [.int .i64 n] [.agg [.int .i64 2, .int .i64 n, .sl 3 []]] := by simpa [cT] using ru_ok n
theorem zGb {b : Bl} {base : Int} (h : zx5 b base true = true) : zbr 9000 b base = 0 := by
  simp only [zx5, Bool.and_eq_true, decide_eq_true_eq, beq_iff_eq] at h
  obtain ⟨h1, h2, h3, h4, h5, h6⟩ := h
  rw [zbr, if_pos (zJk h3), if_neg (by omega), h6]
  rfl
theorem zx3 {b : Bl} {base : Int} {g : Bool} (h : zx5 b base g = true) : okBl b ∧ FineBl b ∧ Fit b := by
  simp only [zx5, Bool.and_eq_true] at h
  have fb := zJi h.2.1
  exact ⟨zQ7 h.1, fb, ⟨fb.s, fb.c⟩⟩
theorem zKi {t : T} (h : zxp t = true) (hn : nodB t ≤ 200) : zau t = 0 := by
  rw [zwc] at hn
  rw [zE1] at h
  have hd := zpa t
  exact (znj (by omega)).2 ⟨by omega, by omega, h⟩
theorem nat8 : zx5 natB 0 true = true := by decide +kernel
end
end
section
section
attribute [local simp] zae zaf tk tn tks zb6 zb9 zbb zbe zba zb8
def tA (f a : T) : T := .mk 6 0 [f, a]
def tP (f a : T) : T := .mk 4 0 [f, a]
set_option maxHeartbeats 4000000 in
end
end
section
section
attribute [local simp] zae zaf tk tn tks zb6 zb9 zbb zbe zba zb8
def vA : Nat → List Ar → List Int
  | _, [] => []
  | i, a :: l => (if a.rc then (i : Int) else -1) :: vA (i + 1) l
theorem zyd : ∀ (l : List Ar) (i : Nat), (vA i l).length = l.length
  | [], _ => rfl
  | a :: l, i => by rw [vA, List.length_cons, zyd l, List.length_cons]
theorem zSg : ∀ (l : List Ar) (i j : Nat) (h : j < l.length), (vA i l)[j]? = some (if l[j].rc then ((i + j : Nat) : Int) else -1)
  | a :: l, i, 0, h => by simp [vA]
  | a :: l, i, j + 1, h => by
    simp only [vA, List.getElem?_cons_succ, List.getElem_cons_succ]
    rw [zSg l (i + 1) j (by simpa using h), show i + 1 + j = i + (j + 1) by omega]
theorem zJr : ∀ (l : List Ar) (i j : Nat) (h : j < l.length), vA i (l.take (j + 1)) = vA i (l.take j) ++ [if l[j].rc then ((i + j : Nat) : Int) else -1]
  | a :: l, i, 0, h => by simp [vA]
  | a :: l, i, j + 1, h => by
    simp only [List.take_succ_cons, vA, List.getElem_cons_succ, List.cons_append]
    rw [zJr l (i + 1) j (by simpa using h), show i + 1 + j = i + (j + 1) by omega]
def vrs (p : Pl) : List Int := vA 0 p.args ++ List.replicate p.more.toNat (-1)
def rp (p : Pl) : List D := cBl p.b ++ [.int .i64 p.base, .sl 1 ((vrs p).map (.int .i64)), eArs p.args]
theorem zvh (p : Pl) : (vrs p).length = p.args.length + p.more.toNat := by rw [vrs, List.length_append, zyd, List.length_replicate]
def grd (p : Pl) (n : Int) : Int := if za9 p (.mk 1 n []) then zec p (.mk 1 n []) else -1
theorem zO5 {p : Pl} {n : Int} (h0 : 0 ≤ p.more) (h : ((vrs p).length : Int) ≤ n) : grd p n = -1 := by
  rw [zvh] at h
  have hJ : ze6 p (.mk 1 n []) = none := by rw [ze6, if_neg]; simp only [tk, tn]; omega
  rw [grd, za9, hJ]
  rfl
theorem zRb {p : Pl} {n : Int} (h0 : 0 ≤ p.more) (hn : 0 ≤ n) (h : n < ((vrs p).length : Int)) : (vrs p)[((vrs p).length - 1 - n.toNat)]? = some (grd p n) := by
  have hl := zvh p
  rw [zvh] at h
  by_cases c : n < p.more
  · have hJ : ze6 p (.mk 1 n []) = none := by rw [ze6, if_neg]; simp only [tk, tn]; omega
    have e : grd p n = -1 := by rw [grd, za9, hJ]; rfl
    have hx : (vrs p).length - 1 - n.toNat - (vA 0 p.args).length < p.more.toNat := by rw [zyd, hl]; omega
    have hy : (vA 0 p.args).length ≤ (vrs p).length - 1 - n.toNat := by rw [zyd, hl]; omega
    rw [e]
    generalize (vrs p).length - 1 - n.toNat = j at *
    rw [vrs, List.getElem?_append_right hy, List.getElem?_replicate, if_pos hx]
  · have hJ : ze6 p (.mk 1 n []) = some (p.args.length - 1 - (n - p.more).toNat) := by
      rw [ze6, if_pos ⟨rfl, by show p.more ≤ n; omega, by show n - p.more < (p.args.length : Int); omega⟩]
      rfl
    have hidx : (vrs p).length - 1 - n.toNat = p.args.length - 1 - (n - p.more).toNat := by rw [hl]; omega
    have hlt : p.args.length - 1 - (n - p.more).toNat < p.args.length := by omega
    rw [hidx, vrs, List.getElem?_append_left (by rw [zyd]; omega), zSg _ _ _ hlt]
    rw [grd, za9, zec, hJ]
    simp only [List.getElem?_eq_getElem hlt, Nat.zero_add]
theorem zAa (p : Pl) (n : Int) : (grd p n < 0 ↔ za9 p (.mk 1 n []) = false) ∧ (za9 p (.mk 1 n []) = true → grd p n = zec p (.mk 1 n [])) := by
  rw [grd]
  cases hb : za9 p (.mk 1 n []) with
  | true =>
    obtain ⟨_, j, hj, _⟩ : _ ∧ ∃ j : Nat, zec p (.mk 1 n []) = j ∧ j < p.args.length := by
      rw [za9] at hb
      cases hJ : ze6 p (.mk 1 n []) with
      | none => rw [hJ] at hb; cases hb
      | some j =>
        have e : zec p (.mk 1 n []) = j := by rw [zec, hJ]
        rw [ze6] at hJ
        split at hJ
        · rename_i hh
          cases hJ
          exact ⟨hh.1, _, e, by omega⟩
        · cases hJ
    rw [if_pos rfl, hj]
    refine ⟨⟨fun h => by omega, fun h => by cases h⟩, fun _ => rfl⟩
  | false => rw [if_neg (by simp)]; exact ⟨⟨fun _ => rfl, fun _ => by omega⟩, fun h => by cases h⟩
theorem zmd (p : Pl) (n : Int) (hn : 0 ≤ n) (h0 : 0 ≤ p.more) (h1 : p.more ≤ 1000000000) (hl : p.args.length ≤ 1000000) : Pure Tryz.prog za4 [.agg (rp p), .int .i64 n] [.int .i64 (grd p n)] := by
  refine zkb rfl fun hs => ?_
  have hvl := zvh p
  have ho := zO5 (p := p) (n := n) h0
  have hi := zRb (p := p) (n := n) h0 hn
  have e : rp p = cBl p.b ++ [.int .i64 p.base, .sl 1 ((vrs p).map (.int .i64)), eArs p.args] := rfl
  rw [e]
  generalize vrs p = L at *
  by_cases c : (L.length : Int) ≤ n
  · have := ho c
    simp -dsimp [zb3, cBl, c, this]
  · have hI := hi (by omega)
    have hlt : L.length - 1 - n.toNat < L.length := by omega
    have hI' := (List.getElem?_eq_some_iff.1 hI).2
    have w1 : IntKind.i64.wrap ((L.length : Int) - 1) = (L.length : Int) - 1 := zad (by omega) (by omega)
    have w2 : IntKind.i64.wrap ((L.length : Int) - 1 - n) = ((L.length - 1 - n.toNat : Nat) : Int) := by rw [zad (by omega) (by omega)]; omega
    generalize L.length - 1 - n.toNat = j at *
    simp -dsimp [zb3, cBl, c, w1, w2, hlt, hI, hI']
theorem zB9 (l : List Int) (hl : l.length ≤ 2000000000) : OwnC Tryz.prog ze4 [.sl 1 (l.map (.int .i64))] [.one (.row 1 (l.map (.int .i64)) false)] := by
  refine znq rfl fun hs => ?_
  simp -dsimp [zex, (by simp only [zal]; omega : l.length * 8 ≤ zal)]
theorem zFp (p : Pl) (n : Nat) (hn : n ≤ 1000000) (h0 : 0 ≤ p.more) (h1 : p.more ≤ 1000000000) (hl : p.args.length ≤ 1000000) : Pure Tryz.prog za5 [.agg (rp p), .int .i64 n] [.agg (rp (p.fwd n))] := by
  refine zlb rfl fun hs => ?_
  have hvl := zvh p
  have e : rp p = cBl p.b ++ [.int .i64 p.base, .sl 1 ((vrs p).map (.int .i64)), eArs p.args] := rfl
  have e2 : rp (p.fwd n) = cBl p.b ++ [.int .i64 p.base, .sl 1 ((vrs p ++ List.replicate n (-1)).map (.int .i64)), eArs p.args] := by
    rw [rp]
    simp only [Pl.fwd, vrs, List.append_assoc]
    rw [show (p.more + (n : Int)).toNat = p.more.toNat + n by omega, ← List.replicate_append_replicate]
  rw [e, e2]
  have hT := zB9 (vrs p) (by omega)
  generalize vrs p = L at *
  simp -dsimp [zdw, cBl]
  refine zch hT (by simp [zax, zbt, RV.cells]) ?_
  simp -dsimp
  refine zam n (fun i st => st.s 1 = .d (.int .i64 n) ∧ st.s 6 = .d (.int .i64 i) ∧ (st.s 4 = .ptr 4 1 0 ∧ st.h 4 = ⟨1, .box [.fsl 6 [], .fsl 6 [], .d (.int .i64 0), .d (.int .i64 0), .fsl 1 [], .fsl 7 []] false⟩) ∧
    ∃ v, st.s 5 = .ptr 5 1 0 ∧ st.h 5 = ⟨1, .box [.d (eSos p.b.sorts), .d (eCos p.b.cons), .d (.int .i64 p.b.elim), .d (.int .i64 p.base), .rsl 10 v, .d (eArs p.args)] false⟩ ∧ st.h 10 = ⟨v, .row 1 ((L ++ List.replicate i (-1)).map (.int .i64)) false⟩) ?_ ?_
  · simp -dsimp
  · rintro i ⟨s, hp⟩ hi ⟨g1, g6, ⟨g4, k4⟩, v, g5, k5, k10⟩
    dsimp only at g1 g6 g4 k4 g5 k5 k10
    rcases Nat.lt_or_ge i n with hlt | hge
    · have w1 : IntKind.i64.wrap ((i : Int) + 1) = (i : Int) + 1 := zad (by omega) (by omega)
      have hn' : (L ++ List.replicate (i + 1) (-1)).map (D.int .i64) = (L ++ List.replicate i (-1)).map (D.int .i64) ++ [.int .i64 (-1)] := by
        rw [List.replicate_succ', ← List.append_assoc, List.map_append]; rfl
      have hll : (L ++ List.replicate i (-1 : Int)).length = L.length + i := by rw [List.length_append, List.length_replicate]
      rw [hn']
      generalize L ++ List.replicate i (-1 : Int) = M at *
      simp -dsimp [g1, g6, g4, k4, g5, k5, k10, hlt, w1, (by simp only [zal]; omega : (M.length + 1) * 8 ≤ zal)]
    · have ei : i = n := by omega
      subst ei
      simp -dsimp [g1, g6, g4, k4, g5, k5, k10]
theorem zIm (b : Bl) (base : Int) (l : List Ar) (hl : l.length ≤ 1000000) : Pure Tryz.prog zeg [eBl b, .int .i64 base, eArs l] [.agg (rp ⟨b, base, l, 0⟩)] := by
  refine zub rfl fun hs => ?_
  have e : rp ⟨b, base, l, 0⟩ = cBl b ++ [.int .i64 base, .sl 1 ((vA 0 l).map (.int .i64)), eArs l] := by
    rw [rp]; simp only [vrs]
    rw [show (0 : Int).toNat = 0 from rfl, List.replicate_zero, List.append_nil]
  rw [e]
  simp -dsimp [ziw, eBl, cBl, eArs]
  refine zam l.length (fun i st => st.s 2 = .d (eArs l) ∧ st.s 8 = .d (.int .i64 i) ∧ (st.s 6 = .ptr 6 1 0 ∧ st.h 6 = ⟨1, .box [.fsl 6 [], .fsl 6 [], .d (.int .i64 0), .d (.int .i64 0), .fsl 1 [], .fsl 7 []] false⟩) ∧
    ∃ c, st.s 7 = .ptr 7 1 0 ∧ st.h 7 = ⟨1, .box [.d (eSos b.sorts), .d (eCos b.cons), .d (.int .i64 b.elim), .d (.int .i64 base), c, .d (eArs l)] false⟩ ∧
    ((i = 0 ∧ c = .fsl 1 []) ∨ (0 < i ∧ ∃ k v, (k = 28 ∨ k = 33) ∧ c = .rsl k v ∧ st.h k = ⟨v, .row 1 ((vA 0 (l.take i)).map (.int .i64)) false⟩))) ?_ ?_
  · simp -dsimp [eArs]
  · rintro i ⟨s, hp⟩ hi ⟨g2, g8, ⟨g6, k6⟩, c, g7, k7, kc⟩
    dsimp only at g2 g8 g6 k6 g7 k7 kc
    simp only [eArs] at g2 k7
    rcases Nat.lt_or_ge i l.length with hlt | hge
    · have w1 : IntKind.i64.wrap ((i : Int) + 1) = (i : Int) + 1 := zad (by omega) (by omega)
      have hsn := zJr l 0 i hlt
      have hvl := zyd (l.take i) 0
      rw [List.length_take] at hvl
      rw [Nat.zero_add] at hsn
      rw [hsn]
      generalize hR : l[i] = R at *
      have hV0 : i = 0 → vA 0 (l.take i) = [] := fun h => by subst h; rfl
      generalize vA 0 (l.take i) = V at *
      have w1' : IntKind.i64.wrap 1 = 1 := by rfl
      rcases kc with ⟨rfl, rfl⟩ | ⟨hi0, k, v, hk, rfl, kc⟩
      · have := hV0 rfl
        subst this
        cases hrc : R.rc with
        | true => simp -dsimp [g2, g8, g6, k6, g7, k7, hlt, hR, hrc, eAr, cAr, cT, w1', (by decide : 8 ≤ zal), eArs]
        | false => simp -dsimp [g2, g8, g6, k6, g7, k7, hlt, hR, hrc, eAr, cAr, cT, w1', (by decide : 8 ≤ zal), eArs]
      · rcases hk with rfl | rfl <;> cases hrc : R.rc
        all_goals
          simp -dsimp [g2, g8, g6, k6, g7, k7, kc, hlt, hR, hrc, eAr, cAr, cT, w1, (by simp only [zal]; omega : (V.length + 1) * 8 ≤ zal), eArs]
    · have ei : i = l.length := by omega
      subst ei
      rw [List.take_length] at kc
      rcases kc with ⟨hz, rfl⟩ | ⟨hi0, k, v, hk, rfl, kc⟩
      · have hl0 : l = [] := List.length_eq_zero_iff.1 hz
        subst hl0
        simp -dsimp [g2, g8, g6, k6, g7, k7, vA]
      · rcases hk with rfl | rfl
        all_goals
          simp -dsimp [g2, g8, g6, k6, g7, k7, kc]
end
end
section
section
attribute [local simp] zae zaf tk tn tks zb6 zb9 zbb zbe zba zb8
theorem zPk {p : Pl} {s : So} {k : Int} : ∀ (n : Nat) (t : T), (spH t).kind = 3 → ofM p.b p.base (spH t).num = (4, k) → p.b.sorts[k.toNat]? = some s → (spA t).length ≤ s.idx.length → zac t ≤ n → zah n p t = false := by
  intro n
  induction n with
  | zero => intro t _ _ _ _ h; have := zhl t; omega
  | succ n ih =>
    intro t h3 ho hs hl hn
    obtain ⟨k0, m, ks⟩ := t
    by_cases hc : k0 = 6 ∧ ∃ a b, ks = [a, b]
    · obtain ⟨rfl, a, b, rfl⟩ := hc
      rw [(zfj m a b).2] at h3 ho
      rw [(zfj m a b).1, List.length_cons] at hl
      have hd : decG (zah n p) p (.mk 6 m [a, b]) = false := by
        rw [decG, (zfj m a b).1, (zfj m a b).2, if_pos h3, ho]
        simp only [if_true, hs]
        rw [if_neg]
        rw [List.length_cons]; omega
      have e : zah (n + 1) p (.mk 6 m [a, b]) = allI (fun i x => zah n (p.fwd (zai 6 i)) x) 0 [a, b] := by
        have e0 : zah (n + 1) p (.mk 6 m [a, b]) = if (6 : Int) = 1 then !za9 p (.mk 6 m [a, b]) else if (6 : Int) = 3 then decide ((ofM p.b p.base m).1 = 0) else if (6 : Int) = 6 ∧ decG (zah n p) p (.mk 6 m [a, b]) = true then true else allI (fun i x => zah n (p.fwd (zai 6 i)) x) 0 [a, b] := rfl
        rw [e0, if_neg (by decide), if_neg (by decide), if_neg (by rw [hd]; simp)]
      have hb0 : zai 6 ((0 : Nat) : Int) = 0 := rfl
      have hp0 : p.fwd 0 = p := by rw [Pl.fwd, Int.add_zero]
      rw [zym] at hn
      rw [e, allI, hb0, hp0, ih a h3 ho hs (by omega) (by omega)]
      rfl
    · rw [(zej hc).2] at h3 ho
      have h3' : k0 = 3 := h3
      have ho' : ofM p.b p.base m = (4, k) := ho
      have e0 : zah (n + 1) p (.mk k0 m ks) = if k0 = 1 then !za9 p (.mk k0 m ks) else if k0 = 3 then decide ((ofM p.b p.base m).1 = 0) else if k0 = 6 ∧ decG (zah n p) p (.mk k0 m ks) = true then true else allI (fun i x => zah n (p.fwd (zai k0 i)) x) 0 ks := rfl
      rw [e0, if_neg (by omega), if_pos h3', ho']
      rfl
def decD (cl : T → Bool) (p : Pl) (A : List T) : Bool := match A.getLast? with
  | some z => za9 p (spH z) && ((A.dropLast.all cl) && ((spA z).reverse.all cl))
  | none => false
theorem zo1 {l : List T} {cl : T → Bool} : l.all cl = true ↔ ∀ (j : Nat) (hj : j < l.length), cl l[j] = true := by
  rw [List.all_eq_true]
  exact ⟨fun h j hj => h _ (List.getElem_mem hj), fun h x hx => by obtain ⟨j, hj, rfl⟩ := List.mem_iff_getElem.1 hx; exact h j hj⟩
set_option maxHeartbeats 1000000 in
theorem zB7 (p : Pl) (h0 : 0 ≤ p.more) (h1 : p.more ≤ 1000000000) (hl : p.args.length ≤ 1000000) (A : List T) (hA : A ≠ []) (hAl : A.length ≤ 1000000) (cl : T → Bool) (ho : ∀ x ∈ A, okT x ∧ zab x = true ∧ zac x ≤ 1000000)
    (h : ∀ x, okT x → zab x = true → (x ∈ A ∨ ∃ z ∈ A, x ∈ spA z) → Pure Tryz.prog zag [.agg (rp p), .agg (cT x)] [.bool (cl x)]) :
    Pure Tryz.prog zcu [.agg (rp p), eTs A] [.bool (decD cl p A)] := by
  obtain ⟨N, hN⟩ : ∃ N, A.length = N + 1 := ⟨A.length - 1, by have := List.length_pos_iff.2 hA; omega⟩
  have hz : N < A.length := by omega
  have hgl : A.getLast? = some A[N] := by rw [List.getLast?_eq_getElem?, hN, Nat.add_sub_cancel, List.getElem?_eq_getElem hz]
  have hdl : A.dropLast = A.take N := by rw [List.dropLast_eq_take, hN, Nat.add_sub_cancel]
  have hD : decD cl p A = (za9 p (spH A[N]) && ((A.take N).all cl && (spA A[N]).reverse.all cl)) := by rw [decD, hgl, hdl]
  generalize hV : decD cl p A = V at *
  have hA1 : ∀ (i : Nat) (hi : i < N), cl A[i] = false → V = false := fun i hi hc => by
    rw [hD]
    have : (A.take N).all cl = false := by
      rw [Bool.eq_false_iff]
      intro h2
      have := zo1.1 h2 i (by rw [List.length_take]; omega)
      rw [List.getElem_take, hc] at this
      cases this
    rw [this]; simp
  obtain ⟨z1, z2, z3⟩ := ho _ (List.getElem_mem hz)
  have hsl := zt0 A[N]
  obtain ⟨oH, oAr⟩ := (zh3 A[N]).2 z1
  obtain ⟨fH, fAr⟩ := zjs A[N] z2
  have hU := zkv A[N] z1 (by omega)
  have hCx : ∀ (i : Nat) (hi : i < A.length), Pure Tryz.prog zag [.agg (rp p), .agg (cT A[i])] [.bool (cl A[i])] := fun i hi => by
    obtain ⟨x1, x2, x3⟩ := ho _ (List.getElem_mem hi)
    exact h _ x1 x2 (.inl (List.getElem_mem hi))
  have hCz : ∀ x ∈ (spA A[N]).reverse, Pure Tryz.prog zag [.agg (rp p), .agg (cT x)] [.bool (cl x)] := fun x hx => by
    have hx' : x ∈ spA A[N] := by simpa using hx
    exact h x (oAr x hx') (fAr x hx') (.inr ⟨_, List.getElem_mem hz, hx'⟩)
  refine zjm rfl fun hs => ?_
  have w0 : IntKind.i64.wrap ((A.length : Int) - 1) = (N : Int) := by rw [zad (by omega) (by omega)]; omega
  simp -dsimp [zcw, eTs, rp, cBl]
  refine zam N (fun i st => (st.s 2 = .ptr 2 1 0 ∧ st.h 2 = ⟨1, .box [.d (eSos p.b.sorts), .d (eCos p.b.cons), .d (.int .i64 p.b.elim), .d (.int .i64 p.base), .d (.sl 1 ((vrs p).map (.int .i64))), .d (eArs p.args)] false⟩) ∧ st.s 1 = .d (eTs A) ∧ st.s 5 = .d (.int .i64 i) ∧
    ∀ (j : Nat) (hj : j < N), j < i → cl (A[j]'(by omega)) = true) ?_ ?_
  · simp -dsimp [eTs]
  · rintro i ⟨s, hp⟩ hi ⟨⟨g2, k2⟩, g1, g5, g⟩
    dsimp only at g2 k2 g1 g5
    simp only [eTs] at g1
    rcases Nat.lt_or_ge i N with hlt | hge
    · have w1 : IntKind.i64.wrap ((i : Int) + 1) = (i : Int) + 1 := zad (by omega) (by omega)
      have hltA : i < A.length := by omega
      have hC := hCx i hltA
      have hA1i := hA1 i hlt
      have hnx : cl A[i] = true → ∀ (j : Nat) (hj : j < N), j < i + 1 → cl (A[j]'(by omega)) = true := fun h j hj hji => by
        rcases Nat.lt_or_ge j i with h' | h'
        · exact g j hj h'
        · have : j = i := by omega
          subst this
          exact h
      generalize hX : A[i] = X at *
      simp only [rp, cBl, cT, List.cons_append, List.nil_append] at hC
      simp -dsimp [g2, k2, g1, g5, w0, hlt, hltA, hX, cT]
      refine zaa hC ?_
      cases hc : cl X with
      | false =>
        have hv := hA1i hc
        simp -dsimp [g2, k2, g1, g5, hv]
      | true =>
        have hnx' := hnx hc
        simp -dsimp [g2, k2, g1, g5, hlt, w1, eTs]
        exact hnx'
    · have ei : i = N := by omega
      subst ei
      have hall : (A.take i).all cl = true := zo1.2 fun j hj => by
        rw [List.getElem_take]
        rw [List.length_take] at hj
        exact g j (by omega) (by omega)
      rw [hall, Bool.true_and] at hD
      have hle : spH A[i] = .mk 1 (spH A[i]).num [] ∨ (spH A[i]).kind ≠ 1 := by
        by_cases hk : (spH A[i]).kind = 1
        · refine .inl ?_
          generalize spH A[i] = H at *
          obtain ⟨k, m, ks⟩ := H
          have hk' : k = 1 := hk
          subst hk'
          rw [zlw rfl fH]
          rfl
        · exact .inr hk
      have hZlen : (spA A[i]).reverse.length ≤ 1000000 := by rw [List.length_reverse]; omega
      have hgk : za9 p (spH A[i]) = true → (spH A[i]).kind = 1 := fun h => (zkq h).1
      generalize hZ : A[i] = z at *
      generalize hHz : spH z = H at *
      generalize (spA z).reverse = Z at *
      simp only [cT] at hU
      simp -dsimp [g2, k2, g1, g5, w0, hz, hZ, cT]
      refine zch hU (by simp [zax, zbt, RV.cells]) ?_
      by_cases hk : H.kind = 1
      case neg =>
        have hv : V = false := by
          rw [hD]
          have : za9 p H = false := by rw [Bool.eq_false_iff]; intro h; exact hk (hgk h)
          rw [this]; rfl
        simp -dsimp [g2, k2, g1, g5, hk, hv]
      have hHe := hle.resolve_right (fun h => h hk)
      have hn0 : 0 ≤ H.num := by
        rw [hHe] at fH
        exact (zc9 rfl fH).1
      have hG := zmd p H.num hn0 h0 h1 hl
      obtain ⟨gn1, gn2⟩ := zAa p H.num
      rw [← hHe] at gn1 gn2
      simp only [rp, cBl, List.cons_append, List.nil_append] at hG
      simp -dsimp [g2, k2, g1, g5, hk]
      refine zaa hG ?_
      by_cases hg : za9 p H = true
      case neg =>
        have hg' : za9 p H = false := by simpa using hg
        have hlt0 := gn1.2 hg'
        have hv : V = false := by rw [hD, hg']; rfl
        simp -dsimp [g2, k2, g1, g5, hk, hlt0, hv]
      have hge0 : ¬ grd p H.num < 0 := fun h => by rw [gn1.1 h] at hg; cases hg
      have hZl : ∀ (j : Nat) (hj : j < Z.length), Pure Tryz.prog zag [.agg (rp p), .agg (cT Z[j])] [.bool (cl Z[j])] := fun j hj => hCz _ (List.getElem_mem hj)
      rw [hg, Bool.true_and] at hD
      have hB2 : ∀ (j : Nat) (hj : j < Z.length), cl Z[j] = false → V = false := fun j hj hc => by
        rw [hD, Bool.eq_false_iff]
        intro h2
        have := zo1.1 h2 j hj
        rw [hc] at this
        cases this
      have hZle : Z.length ≤ 1000000 := hZlen
      simp -dsimp [g2, k2, g1, g5, hk, hge0]
      refine zam Z.length (fun j st => (st.s 2 = .ptr 2 1 0 ∧ st.h 2 = ⟨1, .box [.d (eSos p.b.sorts), .d (eCos p.b.cons), .d (.int .i64 p.b.elim), .d (.int .i64 p.base), .d (.sl 1 ((vrs p).map (.int .i64))), .d (eArs p.args)] false⟩) ∧
        (st.s 7 = .rsl 30 ((hp 30).ver + 1) ∧ st.h 30 = ⟨(hp 30).ver + 1, .row 3 (Z.map eT) false⟩) ∧ st.s 8 = .d (.int .i64 j) ∧ ∀ (m : Nat) (hm : m < Z.length), m < j → cl Z[m] = true) ?_ ?_
      · simp -dsimp [g2, k2, g1, g5]
      · clear g2 k2 g1 g5
        rintro j ⟨s, hq⟩ hj ⟨⟨g2, k2⟩, ⟨g7, k30⟩, g8, gz⟩
        dsimp only at g2 k2 g7 k30 g8
        rcases Nat.lt_or_ge j Z.length with hlt2 | hge2
        · have w1 : IntKind.i64.wrap ((j : Int) + 1) = (j : Int) + 1 := zad (by omega) (by omega)
          have hC := hZl j hlt2
          have hB2j := hB2 j hlt2
          have hnx : cl Z[j] = true → ∀ (m : Nat) (hm : m < Z.length), m < j + 1 → cl Z[m] = true := fun h m hm hmj => by
            rcases Nat.lt_or_ge m j with h' | h'
            · exact gz m hm h'
            · have : m = j := by omega
              subst this
              exact h
          generalize hY : Z[j] = Y at *
          simp only [rp, cBl, cT, List.cons_append, List.nil_append] at hC
          simp -dsimp [g2, k2, g7, k30, g8, hlt2, hY, cT]
          refine zaa hC ?_
          cases hc : cl Y with
          | false =>
            have hv := hB2j hc
            simp -dsimp [g2, k2, g7, k30, g8, hv]
          | true =>
            have hnx' := hnx hc
            simp -dsimp [g2, k2, g7, k30, g8, hlt2, w1]
            exact hnx'
        · have ej : j = Z.length := by omega
          subst ej
          have hv : V = true := by rw [hD]; exact zo1.2 fun m hm => gz m hm hm
          simp -dsimp [g2, k2, g7, k30, g8, hv]
structure Pok (p : Pl) : Prop where
  m0 : 0 ≤ p.more
  al : p.args.length ≤ 1000
  fit : Fit p.b
  si : ∀ s ∈ p.b.sorts, s.idx.length ≤ 20
  ca : ∀ c ∈ p.b.cons, c.args.length ≤ 20
theorem Pok.fwd {p : Pl} (h : Pok p) {n : Int} (hn : 0 ≤ n) : Pok (p.fwd n) := ⟨by have := h.m0; simp only [Pl.fwd]; omega, h.al, h.fit, h.si, h.ca⟩
set_option maxHeartbeats 4000000 in
theorem zle : ∀ (n : Nat), n ≤ 1000000 → ∀ (p : Pl) (t : T), Pok p → p.more + zac t ≤ 1000000000 → okT t → zab t = true → zac t ≤ n →
    Pure Tryz.prog zag [.agg (rp p), .agg (cT t)] [.bool (zah n p t)] := by
  intro n
  induction n with
  | zero => intro _ p t _ _ _ _ h; have := zhl t; omega
  | succ n ih =>
    intro hN p t hp hm ot ft hn
    have h0 := hp.m0
    have hal := hp.al
    have hfs := hp.fit.s
    have hrec : ∀ x, okT x → zab x = true → zac x < zac t → Pure Tryz.prog zag [.agg (rp p), .agg (cT x)] [.bool (zah n p x)] := fun x ox fx hx => ih (by omega) p x hp (by omega) ox fx (by omega)
    have hkl := zE8 ot
    have hO := zKq p.b hp.fit p.base t.num ot.num64
    obtain ⟨oH, oA⟩ := (zh3 t).2 ot
    have mA := (zh3 t).1
    obtain ⟨fH, fA⟩ := zjs t ft
    have hO2 := zKq p.b hp.fit p.base (spH t).num oH.num64
    have hsl := zt0 t
    have hU := zkv t ot (by omega)
    generalize hV0 : zah (n + 1) p t = V0
    by_cases c1 : t.kind = 1
    · have hn0 : 0 ≤ t.num := by obtain ⟨k, m, ks⟩ := t; exact (zc9 c1 ft).1
      have hG := zmd p t.num hn0 h0 (by omega) (by omega)
      have hte : t = .mk 1 t.num [] := by
        obtain ⟨k, m, ks⟩ := t
        have c1' : k = 1 := c1
        subst c1'
        rw [zlw rfl ft]; rfl
      obtain ⟨gn1, _⟩ := zAa p t.num
      rw [← hte] at gn1
      have hv : V0 = decide (grd p t.num < 0) := by
        rw [← hV0, zah, if_pos c1, Bool.eq_iff_iff, Bool.not_eq_true', decide_eq_true_eq]
        exact gn1.symm
      rw [hv]
      refine za3 rfl fun hs => ?_
      simp only [rp, cBl, List.cons_append, List.nil_append] at hG
      simp -dsimp [zaw, rp, cBl, cT, c1]
      refine zaa hG ?_
      simp -dsimp [c1]
    by_cases c3 : t.kind = 3
    · have hv : V0 = decide ((ofM p.b p.base t.num).1 = 0) := by rw [← hV0, zah, if_neg c1, if_pos c3]
      rw [hv]
      refine za3 rfl fun hs => ?_
      simp only [eBl, cBl] at hO
      simp -dsimp [zaw, rp, cBl, cT, c1, c3]
      refine zaa hO ?_
      simp -dsimp [c1, c3]
    have hkid : ∀ (i : Nat) (hi : i < t.kids.length), Pure Tryz.prog zc0 [.int .i64 t.kind, .int .i64 i] [.int .i64 (zai t.kind i)] ∧ Pure Tryz.prog za5 [.agg (rp p), .int .i64 (zai t.kind i)] [.agg (rp (p.fwd (zai t.kind i)))] ∧
        Pure Tryz.prog zag [.agg (rp (p.fwd (zai t.kind i))), .agg (cT t.kids[i])] [.bool (zah n (p.fwd (zai t.kind i)) t.kids[i])] := fun i hi => by
      have hbl := zdf t.kind i
      have hkn := zws t (List.getElem_mem hi)
      have hM := zFp p (zai t.kind i).toNat (by omega) h0 (by omega) (by omega)
      rw [show (((zai t.kind i).toNat : Nat) : Int) = zai t.kind i by omega] at hM
      have fk : zab t.kids[i] = true := by obtain ⟨k, m, ks⟩ := t; exact zbm ft _ (List.getElem_mem hi)
      exact ⟨zCm _ _, hM, ih (by omega) _ _ (hp.fwd (by omega)) (by simp only [Pl.fwd]; omega) (zHb ot (List.getElem_mem hi)) fk (by omega)⟩
    -- the last way: all Kids
    have hkids : (¬ decG (zah n p) p t = true) → V0 = allI (fun i x => zah n (p.fwd (zai t.kind i)) x) 0 t.kids := fun h => by
      rw [← hV0, zah, if_neg c1, if_neg c3, if_neg (fun h' => h h'.2)]
    have hdec : ∀ k s, (spH t).kind = 3 → ofM p.b p.base (spH t).num = (4, k) → p.b.sorts[k.toNat]? = some s → (spA t).length = s.idx.length + 1 → V0 = decD (zah n p) p (spA t).reverse := fun k s h3 ho hs hll => by
      have hd : decG (zah n p) p t = decD (zah n p) p (spA t).reverse := by
        rw [decG, if_pos h3, ho]
        simp only [if_true, hs]
        rw [if_pos (by omega), decD]
        rfl
      by_cases hg : decG (zah n p) p t = true
      · have h6 : t.kind = 6 := by
          obtain ⟨k0, m, ks⟩ := t
          by_cases hc : k0 = 6 ∧ ∃ a b, ks = [a, b]
          · exact hc.1
          · rw [(zej hc).1] at hll; simp at hll
        rw [← hV0, zah, if_neg c1, if_neg c3, if_pos ⟨h6, hg⟩, ← hd, hg]
      · rw [hkids hg, ← hd]
        have hg' : decG (zah n p) p t = false := by simpa using hg
        rw [hg', Bool.eq_false_iff]
        intro hall
        obtain ⟨k0, m, ks⟩ := t
        by_cases hc : k0 = 6 ∧ ∃ a b, ks = [a, b]
        · obtain ⟨rfl, a, b, rfl⟩ := hc
          rw [(zfj m a b).2] at h3 ho
          rw [(zfj m a b).1, List.length_cons] at hll
          rw [zym] at hn
          have := (zan _ _ _).1 hall 0 (by simp [T.kids])
          have hp0 : p.fwd 0 = p := by rw [Pl.fwd, Int.add_zero]
          rw [show zai (T.mk 6 m [a, b]).kind ((0 + 0 : Nat) : Int) = 0 from rfl, hp0] at this
          have e : (T.mk 6 m [a, b]).kids[0] = a := rfl
          rw [e, zPk n a h3 ho hs (by omega) (by omega)] at this
          cases this
        · rw [(zej hc).1] at hll; simp at hll
    by_cases d3 : (spH t).kind = 3
    case neg =>
      have hV := hkids (by rw [decG, if_neg d3]; simp)
      generalize V0 = V at hV ⊢
      refine za3 rfl fun hs => ?_
      simp only [cT] at hU
      simp -dsimp [zaw, rp, cBl, cT, c1, c3]
      refine zch hU (by simp [zax, zbt, RV.cells]) ?_
      simp -dsimp [d3]
      refine zam t.kids.length (fun i st => (st.s 2 = .ptr 2 1 0 ∧ st.h 2 = ⟨1, .box [.d (eSos p.b.sorts), .d (eCos p.b.cons), .d (.int .i64 p.b.elim), .d (.int .i64 p.base), .d (.sl 1 ((vrs p).map (.int .i64))), .d (eArs p.args)] false⟩) ∧
        (st.s 3 = .ptr 3 1 0 ∧ st.h 3 = ⟨1, .box [.d (.int .i64 t.kind), .d (.int .i64 t.num), .d (.sl 3 (t.kids.map eT))] false⟩) ∧ st.s 11 = .d (.int .i64 i) ∧ ∀ (j : Nat) (hj : j < t.kids.length), j < i → zah n (p.fwd (zai t.kind j)) t.kids[j] = true) ?_ ?_
      · simp -dsimp []
      · rintro i ⟨s, hp⟩ hi ⟨⟨g2, k2⟩, ⟨g3, k3⟩, g11, g⟩
        dsimp only at g2 k2 g3 k3 g11
        rcases Nat.lt_or_ge i t.kids.length with hlt | hge
        · have w1 : IntKind.i64.wrap ((i : Int) + 1) = (i : Int) + 1 := zad (by omega) (by omega)
          obtain ⟨hB, hMo, hI⟩ := hkid i hlt
          have hnx : zah n (p.fwd (zai t.kind i)) t.kids[i] = true → ∀ (j : Nat) (hj : j < t.kids.length), j < i + 1 → zah n (p.fwd (zai t.kind j)) t.kids[j] = true := fun h j hj hji => by
            rcases Nat.lt_or_ge j i with h' | h'
            · exact g j hj h'
            · have : j = i := by omega
              subst this
              exact h
          have hbad : zah n (p.fwd (zai t.kind i)) t.kids[i] = false → V = false := fun h => by
            rw [hV, Bool.eq_false_iff]
            intro h2
            have := (zan _ _ _).1 h2 i hlt
            rw [Nat.zero_add, h] at this
            cases this
          generalize zah n (p.fwd (zai t.kind i)) t.kids[i] = Z at *
          generalize hX : t.kids[i] = X at *
          generalize rp (p.fwd (zai t.kind i)) = RP at *
          simp only [rp, cBl, cT, List.cons_append, List.nil_append] at hMo hI
          simp -dsimp [g2, k2, g3, k3, g11, hlt, hX, cT]
          refine zaa hB ?_
          simp -dsimp [g2, k2, g3, k3, g11, hlt, hX, cT]
          refine zaa hMo ?_
          simp -dsimp [g2, k2, g3, k3, g11, hlt, hX, cT]
          refine zaa hI ?_
          cases Z with
          | false =>
            have := hbad rfl
            simp -dsimp [g2, k2, g3, k3, g11, this]
          | true =>
            have hnx' := hnx rfl
            simp -dsimp [g2, k2, g3, k3, g11, hlt, w1]
            exact hnx'
        · have e : i = t.kids.length := by omega
          subst e
          have hv : V = true := by rw [hV]; exact (zan _ _ _).2 fun j hj => by rw [Nat.zero_add]; exact g j hj hj
          simp -dsimp [g2, k2, g3, k3, g11, hv]
    by_cases dl : (spA t).length = 0
    case pos =>
      have hV := hkids (by
        rw [decG, if_pos d3]
        intro h
        split at h
        · split at h
          · split at h
            · omega
            · cases h
          · cases h
        · cases h)
      have dl' : spA t = [] := List.length_eq_zero_iff.1 dl
      generalize V0 = V at hV ⊢
      refine za3 rfl fun hs => ?_
      simp only [cT, dl', List.reverse_nil, List.map_nil] at hU
      simp -dsimp [zaw, rp, cBl, cT, c1, c3]
      refine zch hU (by simp [zax, zbt, RV.cells]) ?_
      simp -dsimp [d3]
      refine zam t.kids.length (fun i st => (st.s 2 = .ptr 2 1 0 ∧ st.h 2 = ⟨1, .box [.d (eSos p.b.sorts), .d (eCos p.b.cons), .d (.int .i64 p.b.elim), .d (.int .i64 p.base), .d (.sl 1 ((vrs p).map (.int .i64))), .d (eArs p.args)] false⟩) ∧
        (st.s 3 = .ptr 3 1 0 ∧ st.h 3 = ⟨1, .box [.d (.int .i64 t.kind), .d (.int .i64 t.num), .d (.sl 3 (t.kids.map eT))] false⟩) ∧ st.s 11 = .d (.int .i64 i) ∧ ∀ (j : Nat) (hj : j < t.kids.length), j < i → zah n (p.fwd (zai t.kind j)) t.kids[j] = true) ?_ ?_
      · simp -dsimp []
      · rintro i ⟨s, hp⟩ hi ⟨⟨g2, k2⟩, ⟨g3, k3⟩, g11, g⟩
        dsimp only at g2 k2 g3 k3 g11
        rcases Nat.lt_or_ge i t.kids.length with hlt | hge
        · have w1 : IntKind.i64.wrap ((i : Int) + 1) = (i : Int) + 1 := zad (by omega) (by omega)
          obtain ⟨hB, hMo, hI⟩ := hkid i hlt
          have hnx : zah n (p.fwd (zai t.kind i)) t.kids[i] = true → ∀ (j : Nat) (hj : j < t.kids.length), j < i + 1 → zah n (p.fwd (zai t.kind j)) t.kids[j] = true := fun h j hj hji => by
            rcases Nat.lt_or_ge j i with h' | h'
            · exact g j hj h'
            · have : j = i := by omega
              subst this
              exact h
          have hbad : zah n (p.fwd (zai t.kind i)) t.kids[i] = false → V = false := fun h => by
            rw [hV, Bool.eq_false_iff]
            intro h2
            have := (zan _ _ _).1 h2 i hlt
            rw [Nat.zero_add, h] at this
            cases this
          generalize zah n (p.fwd (zai t.kind i)) t.kids[i] = Z at *
          generalize hX : t.kids[i] = X at *
          generalize rp (p.fwd (zai t.kind i)) = RP at *
          simp only [rp, cBl, cT, List.cons_append, List.nil_append] at hMo hI
          simp -dsimp [g2, k2, g3, k3, g11, hlt, hX, cT]
          refine zaa hB ?_
          simp -dsimp [g2, k2, g3, k3, g11, hlt, hX, cT]
          refine zaa hMo ?_
          simp -dsimp [g2, k2, g3, k3, g11, hlt, hX, cT]
          refine zaa hI ?_
          cases Z with
          | false =>
            have := hbad rfl
            simp -dsimp [g2, k2, g3, k3, g11, this]
          | true =>
            have hnx' := hnx rfl
            simp -dsimp [g2, k2, g3, k3, g11, hlt, w1]
            exact hnx'
        · have e : i = t.kids.length := by omega
          subst e
          have hv : V = true := by rw [hV]; exact (zan _ _ _).2 fun j hj => by rw [Nat.zero_add]; exact g j hj hj
          simp -dsimp [g2, k2, g3, k3, g11, hv]
    have dl0 : ¬ spA t = [] := fun h => dl (by rw [h]; rfl)
    have dl1 : 0 < (spA t).length := by omega
    by_cases d4 : (ofM p.b p.base (spH t).num).1 = 4
    case neg =>
      have hV := hkids (by rw [decG, if_pos d3, if_neg d4]; simp)
      generalize V0 = V at hV ⊢
      generalize ofM p.b p.base (spH t).num = o at *
      refine za3 rfl fun hs => ?_
      simp only [cT] at hU
      simp only [eBl, cBl] at hO2
      simp -dsimp [zaw, rp, cBl, cT, c1, c3]
      refine zch hU (by simp [zax, zbt, RV.cells]) ?_
      simp -dsimp [d3, dl0, dl1]
      refine zaa hO2 ?_
      simp -dsimp [d4]
      refine zam t.kids.length (fun i st => (st.s 2 = .ptr 2 1 0 ∧ st.h 2 = ⟨1, .box [.d (eSos p.b.sorts), .d (eCos p.b.cons), .d (.int .i64 p.b.elim), .d (.int .i64 p.base), .d (.sl 1 ((vrs p).map (.int .i64))), .d (eArs p.args)] false⟩) ∧
        (st.s 3 = .ptr 3 1 0 ∧ st.h 3 = ⟨1, .box [.d (.int .i64 t.kind), .d (.int .i64 t.num), .d (.sl 3 (t.kids.map eT))] false⟩) ∧ st.s 11 = .d (.int .i64 i) ∧ ∀ (j : Nat) (hj : j < t.kids.length), j < i → zah n (p.fwd (zai t.kind j)) t.kids[j] = true) ?_ ?_
      · simp -dsimp []
      · rintro i ⟨s, hp⟩ hi ⟨⟨g2, k2⟩, ⟨g3, k3⟩, g11, g⟩
        dsimp only at g2 k2 g3 k3 g11
        rcases Nat.lt_or_ge i t.kids.length with hlt | hge
        · have w1 : IntKind.i64.wrap ((i : Int) + 1) = (i : Int) + 1 := zad (by omega) (by omega)
          obtain ⟨hB, hMo, hI⟩ := hkid i hlt
          have hnx : zah n (p.fwd (zai t.kind i)) t.kids[i] = true → ∀ (j : Nat) (hj : j < t.kids.length), j < i + 1 → zah n (p.fwd (zai t.kind j)) t.kids[j] = true := fun h j hj hji => by
            rcases Nat.lt_or_ge j i with h' | h'
            · exact g j hj h'
            · have : j = i := by omega
              subst this
              exact h
          have hbad : zah n (p.fwd (zai t.kind i)) t.kids[i] = false → V = false := fun h => by
            rw [hV, Bool.eq_false_iff]
            intro h2
            have := (zan _ _ _).1 h2 i hlt
            rw [Nat.zero_add, h] at this
            cases this
          generalize zah n (p.fwd (zai t.kind i)) t.kids[i] = Z at *
          generalize hX : t.kids[i] = X at *
          generalize rp (p.fwd (zai t.kind i)) = RP at *
          simp only [rp, cBl, cT, List.cons_append, List.nil_append] at hMo hI
          simp -dsimp [g2, k2, g3, k3, g11, hlt, hX, cT]
          refine zaa hB ?_
          simp -dsimp [g2, k2, g3, k3, g11, hlt, hX, cT]
          refine zaa hMo ?_
          simp -dsimp [g2, k2, g3, k3, g11, hlt, hX, cT]
          refine zaa hI ?_
          cases Z with
          | false =>
            have := hbad rfl
            simp -dsimp [g2, k2, g3, k3, g11, this]
          | true =>
            have hnx' := hnx rfl
            simp -dsimp [g2, k2, g3, k3, g11, hlt, w1]
            exact hnx'
        · have e : i = t.kids.length := by omega
          subst e
          have hv : V = true := by rw [hV]; exact (zan _ _ _).2 fun j hj => by rw [Nat.zero_add]; exact g j hj hj
          simp -dsimp [g2, k2, g3, k3, g11, hv]
    obtain ⟨k, k1, k2, k3⟩ := zN4 d4
    have hget : p.b.sorts[k]? = some p.b.sorts[k] := List.getElem?_eq_getElem k1
    have hsil := hp.si _ (List.getElem_mem k1)
    have w3 : IntKind.i64.wrap ((p.b.sorts[k].idx.length : Int) + 1) = p.b.sorts[k].idx.length + 1 := zad (by omega) (by omega)
    by_cases d5 : (spA t).length = p.b.sorts[k].idx.length + 1
    case neg =>
      have hV := hkids (by
        rw [decG, if_pos d3, k3]
        simp only [if_true, Int.toNat_natCast, hget]
        rw [if_neg (by omega)]; simp)
      have d5' : ¬ ((spA t).length : Int) = p.b.sorts[k].idx.length + 1 := by omega
      rw [k3] at hO2
      generalize V0 = V at hV ⊢
      generalize hSk : p.b.sorts[k] = S at *
      refine za3 rfl fun hs => ?_
      simp only [cT] at hU
      simp only [eBl, cBl] at hO2
      simp -dsimp [zaw, rp, cBl, cT, c1, c3]
      refine zch hU (by simp [zax, zbt, RV.cells]) ?_
      simp -dsimp [d3, dl0, dl1]
      refine zaa hO2 ?_
      simp -dsimp [k1, hget, hSk, eSos, eSo, cSo, cT, eArs, w3, d5']
      refine zam t.kids.length (fun i st => (st.s 2 = .ptr 2 1 0 ∧ st.h 2 = ⟨1, .box [.d (eSos p.b.sorts), .d (eCos p.b.cons), .d (.int .i64 p.b.elim), .d (.int .i64 p.base), .d (.sl 1 ((vrs p).map (.int .i64))), .d (eArs p.args)] false⟩) ∧
        (st.s 3 = .ptr 3 1 0 ∧ st.h 3 = ⟨1, .box [.d (.int .i64 t.kind), .d (.int .i64 t.num), .d (.sl 3 (t.kids.map eT))] false⟩) ∧ st.s 11 = .d (.int .i64 i) ∧ ∀ (j : Nat) (hj : j < t.kids.length), j < i → zah n (p.fwd (zai t.kind j)) t.kids[j] = true) ?_ ?_
      · simp -dsimp [eSos, eArs]
      · rintro i ⟨s, hp⟩ hi ⟨⟨g2, k2⟩, ⟨g3, k3⟩, g11, g⟩
        dsimp only at g2 k2 g3 k3 g11
        rcases Nat.lt_or_ge i t.kids.length with hlt | hge
        · have w1 : IntKind.i64.wrap ((i : Int) + 1) = (i : Int) + 1 := zad (by omega) (by omega)
          obtain ⟨hB, hMo, hI⟩ := hkid i hlt
          have hnx : zah n (p.fwd (zai t.kind i)) t.kids[i] = true → ∀ (j : Nat) (hj : j < t.kids.length), j < i + 1 → zah n (p.fwd (zai t.kind j)) t.kids[j] = true := fun h j hj hji => by
            rcases Nat.lt_or_ge j i with h' | h'
            · exact g j hj h'
            · have : j = i := by omega
              subst this
              exact h
          have hbad : zah n (p.fwd (zai t.kind i)) t.kids[i] = false → V = false := fun h => by
            rw [hV, Bool.eq_false_iff]
            intro h2
            have := (zan _ _ _).1 h2 i hlt
            rw [Nat.zero_add, h] at this
            cases this
          generalize zah n (p.fwd (zai t.kind i)) t.kids[i] = Z at *
          generalize hX : t.kids[i] = X at *
          generalize rp (p.fwd (zai t.kind i)) = RP at *
          simp only [rp, cBl, cT, List.cons_append, List.nil_append] at hMo hI
          simp -dsimp [g2, k2, g3, k3, g11, hlt, hX, cT]
          refine zaa hB ?_
          simp -dsimp [g2, k2, g3, k3, g11, hlt, hX, cT]
          refine zaa hMo ?_
          simp -dsimp [g2, k2, g3, k3, g11, hlt, hX, cT]
          refine zaa hI ?_
          cases Z with
          | false =>
            have := hbad rfl
            simp -dsimp [g2, k2, g3, k3, g11, this]
          | true =>
            have hnx' := hnx rfl
            simp -dsimp [g2, k2, g3, k3, g11, hlt, w1]
            exact hnx'
        · have e : i = t.kids.length := by omega
          subst e
          have hv : V = true := by rw [hV]; exact (zan _ _ _).2 fun j hj => by rw [Nat.zero_add]; exact g j hj hj
          simp -dsimp [g2, k2, g3, k3, g11, hv]
    have hV := hdec k _ d3 k3 (by rw [Int.toNat_natCast]; exact hget) d5
    have d5' : ((spA t).length : Int) = p.b.sorts[k].idx.length + 1 := by omega
    have hDe := zB7 p h0 (by omega) (by omega) (spA t).reverse (by simpa using dl0) (by rw [List.length_reverse]; omega) (zah n p) (fun x hx => by
      have hx' : x ∈ spA t := by simpa using hx
      exact ⟨oA x hx', fA x hx', by have := mA x hx'; omega⟩) (fun x ox fx hx => by
      refine hrec x ox fx ?_
      rcases hx with hx | ⟨z, hz, hx⟩
      · exact mA x (by simpa using hx)
      · have := mA z (by simpa using hz)
        have := (zh3 z).1 x hx
        omega)
    rw [← hV] at hDe
    rw [k3] at hO2
    generalize hSk : p.b.sorts[k] = S at *
    refine za3 rfl fun hs => ?_
    simp only [cT] at hU
    simp only [eBl, cBl] at hO2
    simp only [rp, cBl, eTs, List.cons_append, List.nil_append] at hDe
    simp -dsimp [zaw, rp, cBl, cT, c1, c3]
    refine zch hU (by simp [zax, zbt, RV.cells]) ?_
    simp -dsimp [d3, dl0, dl1]
    refine zaa hO2 ?_
    simp -dsimp [k1, hget, hSk, eSos, eSo, cSo, cT, eArs, w3, d5']
    simp only [eSos, eArs, List.map_reverse] at hDe
    refine zaa hDe ?_
    simp -dsimp
end
end
section
section
attribute [local simp] zae zaf tk tn tks zb6 zb9 zbb zbe zba zb8
theorem zM3 {t : T} (ft : zab t = true) (h : t.kind = 1) : t = .mk 1 t.num [] ∧ 0 ≤ t.num := by
  obtain ⟨k, m, ks⟩ := t
  have c1' : k = 1 := h
  subst c1'
  refine ⟨?_, (zc9 rfl ft).1⟩
  rw [zlw rfl ft]; rfl
set_option maxHeartbeats 4000000 in
theorem zLe (cons : Int) : ∀ (n : Nat), n ≤ 1000000 → ∀ (p : Pl) (t : T), Pok p → p.more + zac t ≤ 1000000000 → okT t → zab t = true → zac t ≤ n →
    Pure Tryz.prog zbw [.agg (rp p), .agg (cT t), .int .i64 cons] [.bool (zcy n p t cons)] := by
  intro n
  induction n with
  | zero => intro _ p t _ _ _ _ h; have := zhl t; omega
  | succ n ih =>
    intro hN p t hp hm ot ft hn
    have h0 := hp.m0
    have hal := hp.al
    have hfs := hp.fit.s
    have hfc := hp.fit.c
    obtain ⟨oH, oA⟩ := (zh3 t).2 ot
    have mA := (zh3 t).1
    obtain ⟨fH, fA⟩ := zjs t ft
    have hO2 := zKq p.b hp.fit p.base (spH t).num oH.num64
    have hsl := zt0 t
    have hU := zkv t ot (by omega)
    have hm' : ∀ x ∈ (spA t).reverse, okT x ∧ zab x = true ∧ zac x < zac t := fun x hx => ⟨oA x (by simpa using hx), fA x (by simpa using hx), mA x (by simpa using hx)⟩
    have hAl : (spA t).reverse.length ≤ 1000000 := by rw [List.length_reverse]; omega
    have hCl : ∀ (i : Nat) (hi : i < (spA t).reverse.length), Pure Tryz.prog zag [.agg (rp p), .agg (cT (spA t).reverse[i])] [.bool (zah n p (spA t).reverse[i])] := fun i hi => by
      obtain ⟨x1, x2, x3⟩ := hm' _ (List.getElem_mem hi)
      exact zle n (by omega) p _ hp (by omega) x1 x2 (by omega)
    have hGl : ∀ (i : Nat) (hi : i < (spA t).reverse.length), Pure Tryz.prog zbw [.agg (rp p), .agg (cT (spA t).reverse[i]), .int .i64 cons] [.bool (zcy n p (spA t).reverse[i] cons)] := fun i hi => by
      obtain ⟨x1, x2, x3⟩ := hm' _ (List.getElem_mem hi)
      exact ih (by omega) p _ hp (by omega) x1 x2 (by omega)
    have hFl : ∀ (i : Nat) (hi : i < (spA t).reverse.length), zab (spA t).reverse[i] = true := fun i hi => (hm' _ (List.getElem_mem hi)).2.1
    have hgk : za9 p (spH t) = true → (spH t).kind = 1 := fun h => (zkq h).1
    have hgj : za9 p (spH t) = true → ∃ j : Nat, zec p (spH t) = j ∧ j < p.args.length := fun h => (zkq h).2
    have hvar : (spH t).kind = 1 → spH t = .mk 1 (spH t).num [] ∧ 0 ≤ (spH t).num := fun h => zM3 fH h
    rw [zcy]
    have hV : zz6 (zah n p) (fun x => zcy n p x cons) p t cons = if za9 p (spH t) then (match p.args[(zec p (spH t)).toNat]? with
      | some a => decide ((spA t).reverse.length = a.dom.length) && (spA t).reverse.all (zah n p)
      | none => false)
      else if (spH t).kind = 3 then if (ofM p.b p.base (spH t).num).1 = 5 then if (ofM p.b p.base (spH t).num).2 < cons then match p.b.cons[(ofM p.b p.base (spH t).num).2.toNat]? with
        | some c => if (spA t).reverse.length = c.args.length then allI (fun i a => match (spA t).reverse[i]? with | some x => fitA (zah n p) (fun x => zcy n p x cons) p a x | none => false) 0 c.args else false
        | none => false else false else false
      else false := rfl
    generalize zz6 (zah n p) (fun x => zcy n p x cons) p t cons = V at hV ⊢
    simp only [cT] at hU
    clear oA mA fA hm' hsl
    have hof5 := zDb (b := p.b) (base := p.base) (n := (spH t).num)
    have hofk := zD7 (b := p.b) (base := p.base) (n := (spH t).num)
    generalize (spA t).reverse = A at *
    generalize spH t = H at *
    by_cases c1 : H.kind = 1
    · obtain ⟨hHe, hn0⟩ := hvar c1
      have hG := zmd p H.num hn0 h0 (by omega) (by omega)
      obtain ⟨gn1, gn2⟩ := zAa p H.num
      rw [← hHe] at gn1 gn2
      by_cases hg : za9 p H = true
      case neg =>
        have hg' : za9 p H = false := by simpa using hg
        have hlt0 := gn1.2 hg'
        have hv : V = false := by rw [hV, if_neg hg, if_neg (by omega)]
        rw [hv]
        refine za1 rfl fun hs => ?_
        simp only [rp, cBl, List.cons_append, List.nil_append] at hG
        simp -dsimp [zas, rp, cBl, cT]
        refine zch hU (by simp [zax, zbt, RV.cells]) ?_
        simp -dsimp [c1]
        refine zaa hG ?_
        simp -dsimp [c1, hlt0]
      obtain ⟨j, hj, hjl⟩ := hgj hg
      have hge : p.args[j]? = some p.args[j] := List.getElem?_eq_getElem hjl
      have hgv : grd p H.num = j := by rw [gn2 hg, hj]
      rw [hgv] at hG
      have hj0 : ¬ ((j : Int) < 0) := by omega
      rw [if_pos hg, hj, Int.toNat_natCast, hge] at hV
      simp only at hV
      clear gn1 gn2 hgv hof5 hofk
      generalize hR : p.args[j] = R at *
      by_cases hll : A.length = R.dom.length
      case neg =>
        have hll' : ¬ (A.length : Int) = R.dom.length := by omega
        have hv : V = false := by rw [hV]; simp [hll]
        rw [hv]
        refine za1 rfl fun hs => ?_
        simp only [rp, cBl, List.cons_append, List.nil_append] at hG
        simp -dsimp [zas, rp, cBl, cT]
        refine zch hU (by simp [zax, zbt, RV.cells]) ?_
        simp -dsimp [c1]
        refine zaa hG ?_
        simp -dsimp [c1, hj0, eArs, hjl, hge, hR, eAr, cAr, cT, eTs, hll, hll']
      have hll' : (A.length : Int) = R.dom.length := by omega
      have hV2 : V = A.all (zah n p) := by rw [hV]; simp [hll]
      have hB2 : ∀ (j : Nat) (hj : j < A.length), zah n p A[j] = false → V = false := fun j hj hc => by
        rw [hV2, Bool.eq_false_iff]
        intro h2
        have := zo1.1 h2 j hj
        rw [hc] at this
        cases this
      refine za1 rfl fun hs => ?_
      simp only [rp, cBl, List.cons_append, List.nil_append] at hG
      simp -dsimp [zas, rp, cBl, cT]
      refine zch hU (by simp [zax, zbt, RV.cells]) ?_
      simp -dsimp [c1]
      refine zaa hG ?_
      simp -dsimp [c1, hj0, eArs, hjl, hge, hR, eAr, cAr, cT, eTs, hll']
      refine zam A.length (fun i st => (st.s 3 = .ptr 3 1 0 ∧ st.h 3 = ⟨1, .box [.d (eSos p.b.sorts), .d (eCos p.b.cons), .d (.int .i64 p.b.elim), .d (.int .i64 p.base), .d (.sl 1 ((vrs p).map (.int .i64))), .d (eArs p.args)] false⟩) ∧
        (st.s 8 = .rsl 17 1 ∧ st.h 17 = ⟨1, .row 3 (A.map eT) false⟩) ∧ st.s 10 = .d (.int .i64 i) ∧ ∀ (m : Nat) (hm : m < A.length), m < i → zah n p A[m] = true) ?_ ?_
      · simp -dsimp [eArs]
      · rintro i ⟨s, hq⟩ hi ⟨⟨g3, k3⟩, ⟨g8, k17⟩, g10, gz⟩
        dsimp only at g3 k3 g8 k17 g10
        rcases Nat.lt_or_ge i A.length with hlt | hge2
        · have w1 : IntKind.i64.wrap ((i : Int) + 1) = (i : Int) + 1 := zad (by omega) (by omega)
          have hC := hCl i hlt
          have hB2i := hB2 i hlt
          have hnx : zah n p A[i] = true → ∀ (m : Nat) (hm : m < A.length), m < i + 1 → zah n p A[m] = true := fun h m hm hmj => by
            rcases Nat.lt_or_ge m i with h' | h'
            · exact gz m hm h'
            · have : m = i := by omega
              subst this
              exact h
          generalize hY : A[i] = Y at *
          simp only [rp, cBl, cT, List.cons_append, List.nil_append] at hC
          simp -dsimp [g3, k3, g8, k17, g10, hlt, hY, cT]
          refine zaa hC ?_
          cases hc : zah n p Y with
          | false =>
            have hv := hB2i hc
            simp -dsimp [g3, k3, g8, k17, g10, hv]
          | true =>
            have hnx' := hnx hc
            simp -dsimp [g3, k3, g8, k17, g10, hlt, w1]
            exact hnx'
        · have ej : i = A.length := by omega
          subst ej
          have hv : V = true := by rw [hV2]; exact zo1.2 fun m hm => gz m hm hm
          simp -dsimp [g3, k3, g8, k17, g10, hv]
    have hgf : ¬ za9 p H = true := fun h => c1 (hgk h)
    rw [if_neg hgf] at hV
    by_cases c3 : H.kind = 3
    case neg =>
      have hv : V = false := by rw [hV, if_neg c3]
      rw [hv]
      refine za1 rfl fun hs => ?_
      simp -dsimp [zas, rp, cBl, cT]
      refine zch hU (by simp [zax, zbt, RV.cells]) ?_
      simp -dsimp [c1, c3]
    rw [if_pos c3] at hV
    by_cases c5 : (ofM p.b p.base H.num).1 = 5
    case neg =>
      have hv : V = false := by rw [hV, if_neg c5]
      rw [hv]
      generalize ofM p.b p.base H.num = o at *
      refine za1 rfl fun hs => ?_
      simp only [eBl, cBl] at hO2
      simp -dsimp [zas, rp, cBl, cT]
      refine zch hU (by simp [zax, zbt, RV.cells]) ?_
      simp -dsimp [c1, c3]
      refine zaa hO2 ?_
      simp -dsimp [c5]
    rw [if_pos c5] at hV
    obtain ⟨k, k1, _, k3⟩ := hof5 c5
    rw [k3] at hV hO2
    have hget : p.b.cons[k]? = some p.b.cons[k] := List.getElem?_eq_getElem k1
    have hcal := hp.ca _ (List.getElem_mem k1)
    simp only [Int.toNat_natCast, hget] at hV
    clear hofk hof5 c5 k3
    generalize hSk : p.b.cons[k] = S at *
    by_cases c6 : (k : Int) < cons
    case neg =>
      have hv : V = false := by rw [hV, if_neg c6]
      rw [hv]
      have c6' : cons ≤ (k : Int) := by omega
      refine za1 rfl fun hs => ?_
      simp only [eBl, cBl] at hO2
      simp -dsimp [zas, rp, cBl, cT]
      refine zch hU (by simp [zax, zbt, RV.cells]) ?_
      simp -dsimp [c1, c3]
      refine zaa hO2 ?_
      simp -dsimp [c6']
    rw [if_pos c6] at hV
    have c6' : ¬ cons ≤ (k : Int) := by omega
    by_cases c7 : A.length = S.args.length
    case neg =>
      have hv : V = false := by rw [hV, if_neg c7]
      rw [hv]
      have c7' : ¬ (A.length : Int) = S.args.length := by omega
      refine za1 rfl fun hs => ?_
      simp only [eBl, cBl] at hO2
      simp -dsimp [zas, rp, cBl, cT]
      refine zch hU (by simp [zax, zbt, RV.cells]) ?_
      simp -dsimp [c1, c3]
      refine zaa hO2 ?_
      simp -dsimp [c6, c6', k1, hget, hSk, eCos, eCo, cCo, cT, eArs, c7, c7']
    rw [if_pos c7] at hV
    have c7' : (A.length : Int) = S.args.length := by omega
    have hfit : ∀ (i : Nat) (hi : i < S.args.length), (match A[i]? with | some x => fitA (zah n p) (fun x => zcy n p x cons) p S.args[i] x | none => false) = fitA (zah n p) (fun x => zcy n p x cons) p S.args[i] (A[i]'(by omega)) := fun i hi => by rw [List.getElem?_eq_getElem (by omega : i < A.length)]
    have hVt : (∀ (i : Nat) (hi : i < S.args.length), fitA (zah n p) (fun x => zcy n p x cons) p S.args[i] (A[i]'(by omega)) = true) → V = true := fun h => by
      rw [hV]
      exact (zan _ _ _).2 fun j hj => by simp only [Nat.zero_add]; rw [hfit j hj]; exact h j hj
    have hVf : ∀ (i : Nat) (hi : i < S.args.length), fitA (zah n p) (fun x => zcy n p x cons) p S.args[i] (A[i]'(by omega)) = false → V = false := fun i hi h => by
      rw [hV, Bool.eq_false_iff]
      intro h2
      have := (zan _ _ _).1 h2 i hi
      simp only [Nat.zero_add] at this
      rw [hfit i hi, h] at this
      cases this
    refine za1 rfl fun hs => ?_
    simp only [eBl, cBl] at hO2
    simp -dsimp [zas, rp, cBl, cT]
    refine zch hU (by simp [zax, zbt, RV.cells]) ?_
    simp -dsimp [c1, c3]
    refine zaa hO2 ?_
    simp -dsimp [c6, c6', k1, hget, hSk, eCos, eCo, cCo, cT, eArs, c7']
    refine zam A.length (fun i st => (st.s 2 = .d (.int .i64 cons) ∧ st.s 12 = .d (.int .i64 k)) ∧ (st.s 3 = .ptr 3 1 0 ∧ st.h 3 = ⟨1, .box [.d (eSos p.b.sorts), .d (eCos p.b.cons), .d (.int .i64 p.b.elim), .d (.int .i64 p.base), .d (.sl 1 ((vrs p).map (.int .i64))), .d (eArs p.args)] false⟩) ∧
      (st.s 8 = .rsl 17 1 ∧ st.h 17 = ⟨1, .row 3 (A.map eT) false⟩) ∧ st.s 13 = .d (.int .i64 i) ∧ ∀ (j : Nat) (hj : j < S.args.length), j < i → fitA (zah n p) (fun x => zcy n p x cons) p S.args[j] (A[j]'(by omega)) = true) ?_ ?_
    · simp -dsimp [eCos, eArs]
    · rintro i ⟨s, hq⟩ hi ⟨⟨g2, g12⟩, ⟨g3, k3⟩, ⟨g8, k17⟩, g13, g⟩
      dsimp only at g2 g12 g3 k3 g8 k17 g13
      simp only [eCos] at k3
      rcases Nat.lt_or_ge i A.length with hlt | hge2
      · have w1 : IntKind.i64.wrap ((i : Int) + 1) = (i : Int) + 1 := zad (by omega) (by omega)
        have hltS : i < S.args.length := by omega
        have hcv := hVf i hltS
        have hfi : ∀ h : fitA (zah n p) (fun x => zcy n p x cons) p S.args[i] A[i] = true, ∀ (j : Nat) (hj : j < S.args.length), j < i + 1 → fitA (zah n p) (fun x => zcy n p x cons) p S.args[j] (A[j]'(by omega)) = true := fun h j hj hji => by
          rcases Nat.lt_or_ge j i with h' | h'
          · exact g j hj h'
          · have : j = i := by omega
            subst this
            exact h
        have hCx := hCl i hlt
        have hDx := hGl i hlt
        have hFx := hFl i hlt
        generalize hX : A[i] = X at *
        generalize hAr : S.args[i] = R at *
        simp only [rp, cBl, cT, eCos, List.cons_append, List.nil_append] at hCx hDx
        simp -dsimp [g2, g12, g3, k3, g8, k17, g13, hlt, k1, hget, hSk, hltS, hAr, hX, eCo, cCo, eAr, cAr, cT, eArs]
        cases hr : R.rc with
        | false =>
          simp -dsimp [g2, g12, g3, k3, g8, k17, g13, hlt, hltS, hAr, hX, eAr, cAr, cT, hr]
          simp only [eArs] at hCx
          refine zaa hCx ?_
          cases hc : zah n p X with
          | false =>
            have hw := hcv (by simp [fitA, hr, hc])
            simp -dsimp [g2, g12, g3, k3, g8, k17, g13, hlt, hltS, hAr, hX, eAr, cAr, cT, hr, hw]
          | true =>
            have hnx := hfi (by simp [fitA, hr, hc])
            simp -dsimp [g2, g12, g3, k3, g8, k17, g13, hlt, hltS, hAr, hX, eAr, cAr, cT, hr, w1, eCos, eArs]
            exact hnx
        | true =>
          by_cases hd : R.dom.length = 0
          · have hdn : R.dom = [] := List.length_eq_zero_iff.1 hd
            simp -dsimp [g2, g12, g3, k3, g8, k17, g13, hlt, hltS, hAr, hX, eAr, cAr, cT, hr, hdn, eTs]
            simp only [eArs] at hDx
            refine zaa hDx ?_
            cases hc : zcy n p X cons with
            | false =>
              have hw := hcv (by simp [fitA, hr, hd, hc])
              simp -dsimp [g2, g12, g3, k3, g8, k17, g13, hlt, hltS, hAr, hX, eAr, cAr, cT, hr, hdn, eTs, hw]
            | true =>
              have hnx := hfi (by simp [fitA, hr, hd, hc])
              simp -dsimp [g2, g12, g3, k3, g8, k17, g13, hlt, hltS, hAr, hX, eAr, cAr, cT, hr, hdn, eTs, w1, eCos, eArs]
              exact hnx
          · have hd' : ¬ (R.dom.length : Int) = 0 := by omega
            have hd2 : (0 : Int) < R.dom.length := by omega
            have hdn : ¬ R.dom = [] := fun h => hd (by rw [h]; rfl)
            have hd3 : 0 < R.dom.length := by omega
            by_cases hk1 : X.kind = 1
            case neg =>
              have hgX : za9 p X = false := by rw [Bool.eq_false_iff]; intro h; exact hk1 (zkq h).1
              have hw := hcv (by simp [fitA, hr, hdn, hgX])
              simp -dsimp [g2, g12, g3, k3, g8, k17, g13, hlt, hltS, hAr, hX, eAr, cAr, cT, hr, hdn, hd', hd2, hd3, hk1, eTs, hw]
            obtain ⟨hXe, hXn⟩ := zM3 hFx hk1
            have hGX := zmd p X.num hXn h0 (by omega) (by omega)
            obtain ⟨gn1, _⟩ := zAa p X.num
            rw [← hXe] at gn1
            simp only [rp, cBl, eCos, eArs, List.cons_append, List.nil_append] at hGX
            simp -dsimp [g2, g12, g3, k3, g8, k17, g13, hlt, hltS, hAr, hX, eAr, cAr, cT, hr, hdn, hd', hd2, hd3, hk1, eTs, eArs]
            refine zaa hGX ?_
            cases hc : za9 p X with
            | false =>
              have hneg : ¬ 0 ≤ grd p X.num := by have := gn1.2 hc; omega
              have hw := hcv (by simp [fitA, hr, hdn, hc])
              simp -dsimp [g2, g12, g3, k3, g8, k17, g13, hlt, hltS, hAr, hX, hr, hdn, hd', hd2, hd3, hneg, hw]
            | true =>
              have hnn : 0 ≤ grd p X.num := by
                by_cases h : 0 ≤ grd p X.num
                · exact h
                · rw [gn1.1 (by omega)] at hc; cases hc
              have hnx := hfi (by simp [fitA, hr, hdn, hc])
              simp -dsimp [g2, g12, g3, k3, g8, k17, g13, hlt, hltS, hAr, hX, hr, hdn, hd', hd2, hd3, hnn, w1, eCos, eArs]
              exact hnx
      · have ej : i = A.length := by omega
        subst ej
        have hv := hVt fun j hj => g j hj (by omega)
        simp -dsimp [g2, g12, g3, k3, g8, k17, g13, hv]
end
end
end Ev
end Go.Proofs.YtdhfkbdhdgaccaaGreat
