/- posit: rows, blocks. -/
import Derived.Test.YtjebpfhffenbnaaGreatO2
namespace Go.Proofs.YtjebpfhffenbnaaGreat
namespace Ev
open Go
set_option maxRecDepth 100000
set_option linter.unusedSimpArgs false
set_option linter.unusedVariables false
section
attribute [local simp] allD_map_d sks_map_d tk tn tks initA EndsM one_sos one_cos one_ars one_ts
/-- Is an argument as it is to be, behind those ahead of it? -/
def argF (n : Nat) (b : Bl) (base : Int) (l : List Ar) (cons : Int) (i : Nat) (a : Ar) : Bool :=
  if a.rc then (allI (fun j d => cleanF n ⟨b, base, l.take i, (j : Int)⟩ d) 0 a.dom) && (match b.sorts[a.sort.toNat]? with
    | some so => indF n ⟨b, base, l.take i, (a.dom.length : Int)⟩ so a.idx cons
    | none => false)
  else cleanF n ⟨b, base, l.take i, 0⟩ a.ty
def rowF (n : Nat) (b : Bl) (base : Int) (l : List Ar) (cons : Int) : Bool := allI (fun i a => argF n b base l cons i a) 0 l
theorem row_ok8 (n : Nat) (hN : n ≤ 1000000) (b : Bl) (base : Int) (l : List Ar) (cons : Int) (hl : l.length ≤ 1000000) (hsl : ∀ s ∈ b.sorts, s.idx.length ≤ 1000000) (hcl : ∀ c ∈ b.cons, c.args.length ≤ 1000000)
    (hty : ∀ a ∈ l, a.rc = false → okT a.ty ∧ nodes a.ty ≤ n) (hrc : ∀ a ∈ l, a.rc = true → a.dom.length ≤ 60 ∧ (∀ x ∈ a.dom, okT x ∧ nodes x ≤ n) ∧ (∀ x ∈ a.idx, okT x ∧ nodes x ≤ n) ∧ 0 ≤ a.sort ∧ ∃ so, b.sorts[a.sort.toNat]? = some so ∧ a.idx.length = so.idx.length) :
    Pure Tryz.prog n_posit_row [eBl b, .int .i64 base, eArs l, .int .i64 cons] [.bool (rowF n b base l cons)] := by
  refine p_posit_row rfl fun hs => ?_
  generalize hV : rowF n b base l cons = V
  have hVt : (∀ (i : Nat) (hi : i < l.length), argF n b base l cons i l[i] = true) → V = true := fun h => by
    rw [← hV]
    exact (allI_iff _ _ _).2 fun j hj => by simp only [Nat.zero_add]; exact h j hj
  have hVf : ∀ (i : Nat) (hi : i < l.length), argF n b base l cons i l[i] = false → V = false := fun i hi h => by
    rw [← hV, Bool.eq_false_iff]
    intro h2
    have := (allI_iff _ _ _).1 h2 i hi
    simp only [Nat.zero_add] at this
    rw [h] at this
    cases this
  simp -dsimp [x_posit_row, eBl, cBl, eArs]
  refine wp_upto l.length (fun i st => st.s 1 = .d (.int .i64 base) ∧ st.s 2 = .d (eArs l) ∧ st.s 3 = .d (.int .i64 cons) ∧ st.s 4 = .ptr 4 1 0 ∧ st.s 14 = .d (eArs l) ∧ st.s 15 = .d (.int .i64 l.length) ∧ st.s 16 = .d (.int .i64 i) ∧
    st.h 4 = ⟨1, .box [.d (eSos b.sorts), .d (eCos b.cons), .d (.int .i64 b.elim)] false⟩ ∧ ∀ (j : Nat) (hj : j < l.length), j < i → argF n b base l cons j l[j] = true) ?_ ?_
  · simp -dsimp [eArs]
  · rintro i ⟨s, hp⟩ hi ⟨g1, g2, g3, g4, g14, g15, g16, k4, g⟩
    dsimp only at g1 g2 g3 g4 g14 g15 g16 k4
    simp only [eArs] at g2 g14
    rcases Nat.lt_or_ge i l.length with hlt | hge
    · have w1 : IntKind.i64.wrap ((i : Int) + 1) = (i : Int) + 1 := wrap_id (by omega) (by omega)
      have hile : i ≤ l.length := hi
      have hcv := hVf i hlt
      have hmem := List.getElem_mem hlt
      have h1 := hty _ hmem
      have h2 := hrc _ hmem
      have hfi : ∀ h : argF n b base l cons i l[i] = true, ∀ (j : Nat) (hj : j < l.length), j < i + 1 → argF n b base l cons j l[j] = true := fun h j hj hji => by
        rcases Nat.lt_or_ge j i with h' | h'
        · exact g j hj h'
        · have : j = i := by omega
          subst this
          exact h
      generalize hAr : l[i] = R at *
      simp -dsimp [g1, g2, g3, g4, g14, g15, g16, k4, hlt, hile, hAr, eAr, cAr, cT]
      cases hr : R.rc with
      | false =>
        obtain ⟨o1, o2⟩ := h1 hr
        have hC := clean_ok n hN ⟨b, base, l.take i, 0⟩ R.ty (by simp) (by simp; omega) (by simp; omega) hsl o1 o2
        have hAF : argF n b base l cons i R = cleanF n ⟨b, base, l.take i, 0⟩ R.ty := by rw [argF, hr, if_neg (by simp)]
        rw [hAF] at hcv hfi
        simp only [cPl, cBl, cT, eArs, List.cons_append, List.nil_append, List.map_take] at hC
        simp -dsimp [g1, g2, g3, g4, g14, g15, g16, k4, hlt, hile, hAr, eAr, cAr, cT, hr]
        refine call_of hC ?_
        cases hc : cleanF n ⟨b, base, l.take i, 0⟩ R.ty with
        | false => simp -dsimp [g1, g2, g3, g4, g14, g15, g16, k4, hlt, hile, hAr, eAr, cAr, cT, hr, hcv hc]
        | true =>
          have hnx := hfi hc
          simp -dsimp [g1, g2, g3, g4, g14, g15, g16, k4, hlt, hile, hAr, eAr, cAr, cT, hr, w1, eArs]
          simpa using hnx
      | true =>
        obtain ⟨r1, r2, r3, r4, so, hso, r5⟩ := h2 hr
        have hAF : argF n b base l cons i R = ((allI (fun j d => cleanF n ⟨b, base, l.take i, (j : Int)⟩ d) 0 R.dom) && indF n ⟨b, base, l.take i, (R.dom.length : Int)⟩ so R.idx cons) := by rw [argF, hr, if_pos rfl, hso]
        rw [hAF] at hcv hfi
        simp -dsimp [g1, g2, g3, g4, g14, g15, g16, k4, hlt, hile, hAr, eAr, cAr, cT, hr]
        simp -dsimp [eTs]
        refine wp_upto R.dom.length (fun j st => st.s 1 = .d (.int .i64 base) ∧ st.s 2 = .d (eArs l) ∧ st.s 3 = .d (.int .i64 cons) ∧ st.s 4 = .ptr 4 1 0 ∧ st.s 10 = .ptr 10 ((hp 10).ver + 1) 0 ∧ st.s 11 = .ptr 11 ((hp 11).ver + 1) 0 ∧ st.s 14 = .d (eArs l) ∧ st.s 15 = .d (.int .i64 l.length) ∧ st.s 16 = .d (.int .i64 i) ∧
          st.s 36 = .d (eTs R.dom) ∧ st.s 37 = .d (.int .i64 R.dom.length) ∧ st.s 38 = .d (.int .i64 j) ∧
          st.h 4 = ⟨1, .box [.d (eSos b.sorts), .d (eCos b.cons), .d (.int .i64 b.elim)] false⟩ ∧
          st.h 10 = ⟨(hp 10).ver + 1, .box [.d (.bool true), .d (.int .i64 R.ty.kind), .d (.int .i64 R.ty.num), .d (.sl 3 (R.ty.kids.map eT)), .d (eTs R.dom), .d (.int .i64 R.sort), .d (eTs R.idx)] false⟩ ∧
          st.h 11 = ⟨(hp 11).ver + 1, .box [.d (eSos b.sorts), .d (eCos b.cons), .d (.int .i64 b.elim), .d (.int .i64 base), .d (eArs (l.take i)), .d (.int .i64 0)] false⟩ ∧
          ∀ (q : Nat) (hq : q < R.dom.length), q < j → cleanF n ⟨b, base, l.take i, (q : Int)⟩ R.dom[q] = true) ?_ ?_
        · simp -dsimp [g1, g2, g3, g4, g14, g15, g16, k4, hlt, hile, hAr, eAr, cAr, cT, hr, eArs, eTs]
        · clear g1 g2 g3 g4 g14 g15 g16 k4
          rintro j ⟨s, hq⟩ hj ⟨g1, g2, g3, g4, g10, g11, g14, g15, g16, g36, g37, g38, k4, k10, k11, gd⟩
          dsimp only at g1 g2 g3 g4 g10 g11 g14 g15 g16 g36 g37 g38 k4 k10 k11
          simp only [eTs, eArs] at g2 g14 g36 k11
          rcases Nat.lt_or_ge j R.dom.length with hlt2 | hge2
          · have w2 : IntKind.i64.wrap ((j : Int) + 1) = (j : Int) + 1 := wrap_id (by omega) (by omega)
            obtain ⟨d1, d2⟩ := r2 _ (List.getElem_mem hlt2)
            have hP := pin_ok ⟨b, base, l.take i, 0⟩ (j : Int) (by simp) (by simp) (by omega) (by omega)
            have hC := clean_ok n hN ⟨b, base, l.take i, (j : Int)⟩ R.dom[j] (by simp) (by simp; omega) (by simp; omega) hsl d1 d2
            generalize hX : R.dom[j] = X at *
            simp only [cPl, cBl, cT, eArs, Pl.fwd, Int.zero_add, List.cons_append, List.nil_append, List.map_take] at hP hC
            simp -dsimp [g1, g2, g3, g4, g10, g11, g14, g15, g16, g36, g37, g38, k4, k10, k11, hlt2, hX, cT]
            refine call_of hP ?_
            simp -dsimp [g1, g2, g3, g4, g10, g11, g14, g15, g16, g36, g37, g38, k4, k10, k11, hlt2, hX, cT]
            refine call_of hC ?_
            cases hc : cleanF n ⟨b, base, l.take i, (j : Int)⟩ X with
            | false =>
              have hz : allI (fun j d => cleanF n ⟨b, base, l.take i, (j : Int)⟩ d) 0 R.dom = false := by
                rw [Bool.eq_false_iff]
                intro h
                have := (allI_iff _ _ _).1 h j hlt2
                rw [Nat.zero_add, hX, hc] at this
                cases this
              simp -dsimp [g1, g2, g3, g4, g10, g11, g14, g15, g16, g36, g37, g38, k4, k10, k11, hcv (by rw [hz]; rfl)]
            | true =>
              simp -dsimp [g1, g2, g3, g4, g10, g11, g14, g15, g16, g36, g37, g38, k4, k10, k11, hlt2, hX, cT, w2, eTs, eArs]
              intro q hq' hqj
              rcases Nat.lt_or_ge q j with h' | h'
              · exact gd q hq' h'
              · have : q = j := by omega
                subst this
                rw [hX]; exact hc
          · have ej : j = R.dom.length := by omega
            subst ej
            have hz : allI (fun j d => cleanF n ⟨b, base, l.take i, (j : Int)⟩ d) 0 R.dom = true := (allI_iff _ _ _).2 fun q hq' => by rw [Nat.zero_add]; exact gd q hq' hq'
            rw [hz, Bool.true_and] at hcv hfi
            have hP := pin_ok ⟨b, base, l.take i, 0⟩ (R.dom.length : Int) (by simp) (by simp) (by omega) (by omega)
            have hI := indices_ok n hN ⟨b, base, l.take i, (R.dom.length : Int)⟩ R.sort so r4 hso R.idx cons r5 (by simp) (by simp; omega) (by simp; omega) hsl hcl r3
            simp only [cPl, cBl, cT, eTs, eArs, Pl.fwd, Int.zero_add, List.cons_append, List.nil_append, List.map_take] at hP hI
            simp -dsimp [g1, g2, g3, g4, g10, g11, g14, g15, g16, g36, g37, g38, k4, k10, k11, eTs]
            refine call_of hP ?_
            simp -dsimp [g1, g2, g3, g4, g10, g11, g14, g15, g16, g36, g37, g38, k4, k10, k11, eTs]
            refine call_of hI ?_
            cases hc : indF n ⟨b, base, l.take i, (R.dom.length : Int)⟩ so R.idx cons with
            | false => simp -dsimp [g1, g2, g3, g4, g10, g11, g14, g15, g16, g36, g37, g38, k4, k10, k11, hcv hc]
            | true =>
              have hnx := hfi hc
              simp -dsimp [g1, g2, g3, g4, g10, g11, g14, g15, g16, g36, g37, g38, k4, k10, k11, w1, eArs]
              exact ⟨hlt, hnx⟩
    · have e : i = l.length := by omega
      subst e
      have hz := hVt fun j hj => g j hj hj
      simp -dsimp [g1, g2, g3, g4, g14, g15, g16, k4, hz]
end
end Ev
end Go.Proofs.YtjebpfhffenbnaaGreat
