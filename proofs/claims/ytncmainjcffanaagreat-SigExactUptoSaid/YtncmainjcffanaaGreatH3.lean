/- sig: what it tells; blocks within bounds. -/
import Derived.Test.YtncmainjcffanaaGreatH2
import Derived.Test.YtncmainjcffanaaGreatQ2
import Derived.Test.YtncmainjcffanaaGreatQ3
import Derived.Test.YtncmainjcffanaaGreatRA
namespace Go.Proofs.YtncmainjcffanaaGreat
namespace Ev
open Go
set_option maxRecDepth 100000
set_option linter.unusedSimpArgs false
set_option linter.unusedVariables false
theorem one_sos (l : List So) : (AV.d (eSos l)).one = true := rfl
theorem one_cos (l : List Co) : (AV.d (eCos l)).one = true := rfl
theorem one_ars (l : List Ar) : (AV.d (eArs l)).one = true := rfl
theorem one_ts (l : List T) : (AV.d (eTs l)).one = true := rfl
attribute [local simp] allD_map_d sks_map_d tk tn tks one_sos one_cos one_ars one_ts

/-! ### bounds -/
structure FineAr (a : Ar) : Prop where
  ty : nodes a.ty ≤ 9000
  domL : a.dom.length ≤ 60
  dom : (a.dom.map nodes).sum ≤ 9000
  idxL : a.idx.length ≤ 60
  idx : (a.idx.map nodes).sum ≤ 9000
def FineArs (l : List Ar) : Prop := l.length ≤ 20 ∧ ∀ a ∈ l, FineAr a
structure FineSo (s : So) : Prop where
  idx : FineArs s.idx
  dty : nodes s.dty ≤ 9000
structure FineCo (c : Co) : Prop where
  args : FineArs c.args
  idxL : c.idx.length ≤ 60
  idx : (c.idx.map nodes).sum ≤ 9000
  dec : nodes c.dec ≤ 9000
structure FineBl (b : Bl) : Prop where
  s : b.sorts.length ≤ 10
  c : b.cons.length ≤ 20
  sorts : ∀ s ∈ b.sorts, FineSo s
  cons : ∀ c ∈ b.cons, FineCo c
theorem mem_sum {xs : List D} {x : D} (h : x ∈ xs) : bulk x ≤ (xs.map bulk).sum := sum_mem (List.mem_map.2 ⟨x, h, rfl⟩)
theorem heavy_one {t : T} (hb : nodes t ≤ 1048576) (h : heavy02 [t] = false) : nodes t ≤ 9000 := by
  have := (heavy_no (l := [t]) (by simpa using hb) h).2.2
  simpa using this
theorem bulk_agg_app (a c : List D) : bulk (.agg (a ++ c)) = bulk (.agg a) + bulk (.agg c) := by simp [bulk]
theorem fine_ar {a : Ar} (hb : bulk (eAr a) ≤ 1048576) (h : pArg a = false) : FineAr a := by
  have e : bulk (eAr a) = 1 + bulk (.agg (cT a.ty)) + (bulk (eTs a.dom) + (1 + bulk (eTs a.idx))) := by
    simp only [eAr, cAr, bulk, List.map_cons, List.map_append, List.sum_cons, List.sum_append, List.map_nil, List.sum_nil, List.cons_append, cT, eTs, List.nil_append]
    omega
  simp only [pArg, Bool.or_eq_false_iff] at h
  have h1 := term_bulk a.ty
  have h2 := sum_bulk a.dom
  have h3 := sum_bulk a.idx
  obtain ⟨d1, _, d2⟩ := heavy_no (l := a.dom) (by omega) h.1.2
  obtain ⟨i1, _, i2⟩ := heavy_no (l := a.idx) (by omega) h.2
  exact ⟨heavy_one (by omega) h.1.1, d1, d2, i1, i2⟩
theorem fine_ars {l : List Ar} (hb : bulk (eArs l) ≤ 1048576) (h : heavyArgs l = false) : FineArs l := by
  simp only [heavyArgs, Bool.or_eq_false_iff, decide_eq_false_iff_not] at h
  refine ⟨by omega, fun a ha => fine_ar ?_ ?_⟩
  · have := mem_sum (List.mem_map.2 ⟨a, ha, rfl⟩ : eAr a ∈ l.map eAr)
    simp only [eArs, bulk] at hb
    omega
  · have := List.any_eq_false.1 h.2 a ha
    simpa using this
theorem fine_of {b : Bl} (hb : bulk (eBl b) ≤ 1048576) (h : heavy07 b = false) : FineBl b := by
  have hf := fit_of h
  have e : bulk (eBl b) = bulk (eSos b.sorts) + (bulk (eCos b.cons) + 1) := by simp [eBl, cBl, bulk]
  simp only [heavy07, Bool.or_eq_false_iff] at h
  refine ⟨hf.s, hf.c, fun s hs => ?_, fun c hc => ?_⟩
  · have h1 := mem_sum (List.mem_map.2 ⟨s, hs, rfl⟩ : eSo s ∈ b.sorts.map eSo)
    have h2 : bulk (eSos b.sorts) = ((b.sorts.map eSo).map bulk).sum + 1 := by simp [eSos, bulk]
    have h3 : bulk (eSo s) = bulk (eArs s.idx) + (1 + (1 + bulk (.agg (cT s.dty)))) := by
      simp only [eSo, cSo, bulk, List.map_cons, List.map_append, List.sum_cons, List.sum_append, List.map_nil, List.sum_nil, cT]
      omega
    have hp := List.any_eq_false.1 h.1.2 s hs
    simp only [pSo, Bool.not_eq_true, Bool.or_eq_false_iff] at hp
    have h4 := term_bulk s.dty
    exact ⟨fine_ars (by omega) hp.1, heavy_one (by omega) hp.2⟩
  · have h1 := mem_sum (List.mem_map.2 ⟨c, hc, rfl⟩ : eCo c ∈ b.cons.map eCo)
    have h2 : bulk (eCos b.cons) = ((b.cons.map eCo).map bulk).sum + 1 := by simp [eCos, bulk]
    have h3 : bulk (eCo c) = 1 + (bulk (eArs c.args) + (bulk (eTs c.idx) + bulk (.agg (cT c.dec)))) := by
      simp only [eCo, cCo, bulk, List.map_cons, List.map_append, List.sum_cons, List.sum_append, List.map_nil, List.sum_nil, cT]
      omega
    have hp := List.any_eq_false.1 h.2 c hc
    simp only [pCo, Bool.not_eq_true, Bool.or_eq_false_iff] at hp
    have h4 := term_bulk c.dec
    have h5 := sum_bulk c.idx
    obtain ⟨i1, _, i2⟩ := heavy_no (l := c.idx) (by omega) hp.1.2
    exact ⟨fine_ars (by omega) hp.1.1, i1, i2, heavy_one (by omega) hp.2⟩

/-! ### what sig tells -/
theorem tc_ok (n : Int) : Pure Tryz.prog n_term_C [.int .i64 n] [.agg (cT (.mk 3 n []))] := by
  refine p_term_C rfl fun hs => ?_
  simp -dsimp [x_term_C, cT]
theorem tu_ok (n : Int) : Pure Tryz.prog n_term_U [.int .i64 n] [.agg (cT (.mk 2 n []))] := by
  refine p_term_U rfl fun hs => ?_
  simp -dsimp [x_term_U, cT]
def tC (n : Int) : T := .mk 3 n []
def fmT (b : Bl) (base k : Int) : T := tC (if 0 < former b base k then former b base k else 0)
theorem sformer_ok (b : Bl) (base k : Int) : Pure Tryz.prog n_sig_former [eBl b, .int .i64 base, .int .i64 k] [.agg (cT (fmT b base k))] := by
  refine p_sig_former rfl fun hs => ?_
  have h := former_ok b base k
  simp only [eBl, cBl] at h
  simp -dsimp [x_sig_former, eBl, cBl]
  refine call_of h ?_
  simp -dsimp
  refine call_of (tc_ok _) ?_
  simp -dsimp [cT, fmT, tC]
theorem place_n64 (a c k m : Int) : n64 (place a c k m) := by
  rw [place]
  split
  · exact ⟨by omega, by omega⟩
  · have := wrap_lo (w64 (a + c) + k)
    simp only [w64, n64] at this ⊢
    omega
theorem fmT_ok (b : Bl) (base k : Int) : okT (fmT b base k) := by
  have h := place_n64 base 0 k b.sorts.length
  refine .mk _ _ _ ⟨by omega, by omega⟩ ?_ (by simp) (by simp)
  show n64 (if 0 < former b base k then former b base k else 0)
  split
  · exact h
  · exact ⟨by omega, by omega⟩
def argTy (b : Bl) (base : Int) (a : Ar) : T := if a.rc = true then nestT 4 a.dom (spT (fmT b base a.sort) a.idx) else a.ty
theorem argTy_okT (b : Bl) (base : Int) {a : Ar} (h : okAr a) : okT (argTy b base a) := by
  rw [argTy]
  split
  · exact nest_okT (by omega) _ (sp_okT _ _ (fmT_ok _ _ _) h.idx.2) _ h.dom.2
  · exact h.ty
theorem argType_ok (b : Bl) (base : Int) (a : Ar) (h : okAr a) (hf : FineAr a) : Pure Tryz.prog n_sig_ArgType [eBl b, .int .i64 base, .agg (cAr a)] [.agg (cT (argTy b base a))] := by
  refine p_sig_ArgType rfl fun hs => ?_
  have d1 := hf.domL
  have i1 := hf.idxL
  have hF := sformer_ok b base a.sort
  have hS := spine_ok (fmT b base a.sort) a.idx (by omega) (fmT_ok _ _ _) h.idx
  have hP := pis_ok a.dom (spT (fmT b base a.sort) a.idx) (by omega) (sp_okT _ _ (fmT_ok _ _ _) h.idx.2) h.dom
  have hT := ttwin_ok a.ty h.ty
  cases hr : a.rc with
  | false =>
    have e : argTy b base a = a.ty := by rw [argTy, hr]; rfl
    rw [e]
    simp only [cT] at hT
    simp -dsimp [x_sig_ArgType, eBl, cBl, cAr, cT, hr]
    refine call_of hT ?_
    simp -dsimp
  | true =>
    have e : argTy b base a = nestT 4 a.dom (spT (fmT b base a.sort) a.idx) := by rw [argTy, hr]; rfl
    rw [e]
    generalize nestT 4 a.dom (spT (fmT b base a.sort) a.idx) = P at hP
    generalize spT (fmT b base a.sort) a.idx = Sp at hS hP
    generalize fmT b base a.sort = F at hF hS
    simp only [eBl, cBl, cT, eTs] at hF hS hP
    simp -dsimp [x_sig_ArgType, eBl, cBl, cAr, cT, eTs, hr]
    refine call_of hF ?_
    simp -dsimp [hr]
    refine call_of hS ?_
    simp -dsimp [hr]
    refine call_of hP ?_
    simp -dsimp [hr]
theorem argTypes_ok (b : Bl) (base : Int) (l : List Ar) (h : okArs l) (hf : FineArs l) : Pure Tryz.prog n_sig_ArgTypes [eBl b, .int .i64 base, eArs l] [eTs (l.map (argTy b base))] := by
  refine p_sig_ArgTypes rfl fun hs => ?_
  have hl := hf.1
  simp -dsimp [x_sig_ArgTypes, eBl, cBl, eArs]
  refine wp_upto l.length (fun i st => st.s 6 = .rsl 6 1 ∧ st.h 6 = ⟨1, .row 3 [] false⟩ ∧ st.s 1 = .d (.int .i64 base) ∧ st.s 3 = .ptr 3 1 0 ∧ st.h 3 = ⟨1, .box [.d (eSos b.sorts), .d (eCos b.cons), .d (.int .i64 b.elim)] false⟩ ∧
    st.s 10 = .d (.sl 7 (l.map eAr)) ∧ st.s 11 = .d (.int .i64 l.length) ∧ st.s 12 = .d (.int .i64 i) ∧ st.s 7 = .rsl 7 (1 + i) ∧ st.h 7 = ⟨1 + i, .row 3 (((l.map (argTy b base)).take i).map eT) false⟩) ?_ ?_
  · simp -dsimp
  · rintro i ⟨s, hp⟩ hi ⟨g1, g2, g3, g4, g5, g6, g7, g8, g9, g10⟩
    dsimp only at g1 g2 g3 g4 g5 g6 g7 g8 g9 g10
    rcases Nat.lt_or_ge i l.length with hlt | hge
    · have w1 : IntKind.i64.wrap ((i : Int) + 1) = (i : Int) + 1 := wrap_id (by omega) (by omega)
      have ha := argType_ok b base l[i] (h.2 _ (List.getElem_mem _)) (hf.2 _ (List.getElem_mem _))
      have hr : (min i l.length + 1) * 40 ≤ maxRoom := by simp only [maxRoom]; omega
      have htk : ((l.map (argTy b base)).take (i + 1)).map eT = ((l.map (argTy b base)).take i).map eT ++ [.agg (cT (argTy b base l[i]))] := by
        rw [take_snoc (List.getElem?_eq_getElem (by simpa using hlt) : (l.map (argTy b base))[i]? = some _), List.map_append]
        simp [eT_eq]
      rw [htk]
      generalize argTy b base l[i] = A at ha
      simp only [eBl, cBl, cAr, cT, eTs, List.cons_append, List.nil_append] at ha
      simp -dsimp [g1, g2, g3, g4, g5, g6, g7, g8, g9, g10, hlt, eAr, cAr, cT, eTs]
      refine call_of ha ?_
      simp -dsimp [g1, g2, g3, g4, g5, g6, g7, g8, g9, g10, hlt, w1, hr, cT]
      omega
    · have e : i = l.length := by omega
      subst e
      have ht : (l.map (argTy b base)).take l.length = l.map (argTy b base) := List.take_of_length_le (by simp)
      rw [ht] at g10
      simp -dsimp [g1, g2, g3, g4, g5, g6, g7, g8, g9, g10, eTs]
def mayE (b : Bl) (base k many : Int) : Int := if checkB b = 0 then if base < 0 ∨ 65535 < base ∨ k < 0 ∨ many ≤ k then 1 else 0 else checkB b
theorem smay_ok (b : Bl) (base k many : Int) : Pure Tryz.prog n_sig_may [eBl b, .int .i64 base, .int .i64 k, .int .i64 many] [.int .i64 (mayE b base k many)] := by
  refine p_sig_may rfl fun hs => ?_
  have h := checkB_ok b
  simp only [eBl, cBl] at h
  simp -dsimp [x_sig_may, eBl, cBl]
  refine call_of h ?_
  simp -dsimp
  (first | refine Ask_b ?_ ?_ | refine Cnd_b ?_ ?_) <;> intro h1 <;> (try simp only [nrm] at h1) <;> simp -dsimp [h1, mayE]
  · (first | refine Ask_b ?_ ?_ | refine Cnd_b ?_ ?_) <;> intro h2 <;> (try simp only [nrm] at h2) <;> simp -dsimp [h2, mayE, h1]
    (first | refine Ask_b ?_ ?_ | refine Cnd_b ?_ ?_) <;> intro h3 <;> (try simp only [nrm] at h3) <;> simp -dsimp [h3, mayE, h1, h2]
    (first | refine Ask_b ?_ ?_ | refine Cnd_b ?_ ?_) <;> intro h4 <;> (try simp only [nrm] at h4) <;> simp -dsimp [h4, mayE, h1, h2, h3]
    (first | refine Ask_b ?_ ?_ | refine Cnd_b ?_ ?_) <;> intro h5 <;> (try simp only [nrm] at h5) <;> simp -dsimp [h5, mayE, h1, h2, h3, h4]
end Ev
end Go.Proofs.YtncmainjcffanaaGreat
