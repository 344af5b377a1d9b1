/- Texts of this claim, in one. -/
import Derived.Test.YtgiejcndcbanjaaMa
set_option maxRecDepth 100000
set_option linter.unusedSimpArgs false
set_option linter.unusedVariables false
namespace Go.Proofs.Ytgiejcndcbanjaa
namespace Ev
open Go
section
section
attribute [local simp] allD_map_d sks_map_d tk tn tks initA EndsM
theorem c_arg : Try.prog.cellsOf 83 = 7 := by kernel_rfl
theorem c_args : Try.prog.cellsOf 68 = 1 := by kernel_rfl
theorem c_sort : Try.prog.cellsOf 70 = 6 := by kernel_rfl
theorem c_con : Try.prog.cellsOf 74 = 6 := by kernel_rfl
theorem c_sorts : Try.prog.cellsOf 39 = 1 := by kernel_rfl
theorem c_cons : Try.prog.cellsOf 40 = 1 := by kernel_rfl
theorem c_block : Try.prog.cellsOf 42 = 3 := by kernel_rfl
theorem y_arg : Try.prog.bytesOf 83 = 104 := by kernel_rfl
theorem y_sort : Try.prog.bytesOf 70 = 80 := by kernel_rfl
theorem y_con : Try.prog.bytesOf 74 = 96 := by kernel_rfl
theorem is_arg : isStructB Try.prog 83 = true := by simp only [isStructB, Try.underlying83]
theorem is_sort : isStructB Try.prog 70 = true := by simp only [isStructB, Try.underlying70]
theorem is_con : isStructB Try.prog 74 = true := by simp only [isStructB, Try.underlying74]
structure okAr (a : Ar) : Prop where
  ty : okT a.ty
  dom : okTs a.dom
  sort : n64 a.sort
  idx : okTs a.idx
def okArs (l : List Ar) : Prop := l.length * 104 ≤ 140737488351232 ∧ ∀ x ∈ l, okAr x
structure okSo (s : So) : Prop where
  idx : okArs s.idx
  level : n64 s.level
  dty : okT s.dty
structure okCo (c : Co) : Prop where
  sort : n64 c.sort
  args : okArs c.args
  idx : okTs c.idx
  dec : okT c.dec
structure okBl (b : Bl) : Prop where
  sortsL : b.sorts.length * 80 ≤ 140737488351232
  sorts : ∀ x ∈ b.sorts, okSo x
  consL : b.cons.length * 96 ≤ 140737488351232
  cons : ∀ x ∈ b.cons, okCo x
  elim : n64 b.elim
theorem len6 {xs : List D} (h : xs.length = 6) : ∃ a b c d e f, xs = [a, b, c, d, e, f] := by
  match xs, h with
  | [a, b, c, d, e, f], _ => exact ⟨a, b, c, d, e, f, rfl⟩
theorem len7 {xs : List D} (h : xs.length = 7) : ∃ a b c d e f g, xs = [a, b, c, d, e, f, g] := by
  match xs, h with
  | [a, b, c, d, e, f, g], _ => exact ⟨a, b, c, d, e, f, g, rfl⟩
theorem typ_arg {n : Nat} {cs : List D} (h : typ Try.prog n 83 cs) : ∃ a : Ar, cs = cAr a ∧ okAr a := by
  cases n with
  | zero => exact h.elim
  | succ n =>
    simp only [typ, Try.underlying83, c_arg, c_int, c_bool, c_term, c_terms, List.forall_mem_cons] at h
    obtain ⟨hl, h1, h2, h3, h4, h5, _⟩ := h
    obtain ⟨a, b, c, d, e, f, g, rfl⟩ := len7 hl
    obtain ⟨r, hr⟩ := typ_bool h1
    obtain ⟨t, ht, q1⟩ := typ_term _ h2
    obtain ⟨ds, hd, q2⟩ := typ_terms h3
    obtain ⟨i, hi, q3⟩ := typ_int h4
    obtain ⟨js, hj, q4⟩ := typ_terms h5
    simp at hr ht hd hi hj
    refine ⟨⟨r, t, ds, i, js⟩, ?_, ⟨q1, q2, q3, q4⟩⟩
    simp [cAr, ← ht, hr, hd, hi, hj]
theorem typ_args {n : Nat} {cs : List D} (h : typ Try.prog n 68 cs) : ∃ l : List Ar, cs = [eArs l] ∧ okArs l := by
  obtain ⟨m, xs, rfl, hc, hb, hx⟩ := typ_slice Try.underlying68 c_arg y_arg is_arg h
  obtain ⟨ks, rfl, hks⟩ : ∃ l : List Ar, xs = l.map eAr ∧ ∀ a ∈ l, okAr a := map_of fun x hxx => by
    obtain ⟨h4, h5⟩ := hx x hxx
    obtain ⟨t, ht, hq⟩ := typ_arg h4
    exact ⟨t, hq, by rw [h5, ht]; rfl⟩
  exact ⟨ks, hc, by simpa using hb, hks⟩
theorem typ_sort {n : Nat} {cs : List D} (h : typ Try.prog n 70 cs) : ∃ a : So, cs = cSo a ∧ okSo a := by
  cases n with
  | zero => exact h.elim
  | succ n =>
    simp only [typ, Try.underlying70, c_sort, c_int, c_bool, c_term, c_args, List.forall_mem_cons] at h
    obtain ⟨hl, h1, h2, h3, h4, _⟩ := h
    obtain ⟨a, b, c, d, e, f, rfl⟩ := len6 hl
    obtain ⟨l, hq, q1⟩ := typ_args h1
    obtain ⟨i, hi, q2⟩ := typ_int h2
    obtain ⟨r, hr⟩ := typ_bool h3
    obtain ⟨t, ht, q3⟩ := typ_term _ h4
    simp at hr ht hi hq
    refine ⟨⟨l, i, r, t⟩, ?_, ⟨q1, q2, q3⟩⟩
    simp [cSo, ← ht, hr, hi, hq]
theorem typ_con {n : Nat} {cs : List D} (h : typ Try.prog n 74 cs) : ∃ a : Co, cs = cCo a ∧ okCo a := by
  cases n with
  | zero => exact h.elim
  | succ n =>
    simp only [typ, Try.underlying74, c_con, c_int, c_args, c_term, c_terms, List.forall_mem_cons] at h
    obtain ⟨hl, h1, h2, h3, h4, _⟩ := h
    obtain ⟨a, b, c, d, e, f, rfl⟩ := len6 hl
    obtain ⟨i, hi, q1⟩ := typ_int h1
    obtain ⟨l, hq, q2⟩ := typ_args h2
    obtain ⟨js, hj, q3⟩ := typ_terms h3
    obtain ⟨t, ht, q4⟩ := typ_term _ h4
    simp at ht hi hq hj
    refine ⟨⟨i, l, js, t⟩, ?_, ⟨q1, q2, q3, q4⟩⟩
    simp [cCo, ← ht, hi, hq, hj]
theorem typ_block {n : Nat} {cs : List D} (h : typ Try.prog n 42 cs) : ∃ b : Bl, cs = cBl b ∧ okBl b := by
  cases n with
  | zero => exact h.elim
  | succ n =>
    simp only [typ, Try.underlying42, c_block, c_int, c_sorts, c_cons, List.forall_mem_cons] at h
    obtain ⟨hl, h1, h2, h3, _⟩ := h
    obtain ⟨a, b, c, rfl⟩ := len3 hl
    obtain ⟨m, xs, rfl, hc, hb, hx⟩ := typ_slice Try.underlying39 c_sort y_sort is_sort h1
    obtain ⟨m', ys, _, hd, hb', hy⟩ := typ_slice Try.underlying40 c_con y_con is_con h2
    obtain ⟨i, hi, q1⟩ := typ_int h3
    obtain ⟨ss, rfl, q2⟩ : ∃ l : List So, xs = l.map eSo ∧ ∀ a ∈ l, okSo a := map_of fun x hxx => by
      obtain ⟨h4, h5⟩ := hx x hxx
      obtain ⟨t, ht, hq⟩ := typ_sort h4
      exact ⟨t, hq, by rw [h5, ht]; rfl⟩
    obtain ⟨ks, rfl, q3⟩ : ∃ l : List Co, ys = l.map eCo ∧ ∀ a ∈ l, okCo a := map_of fun x hxx => by
      obtain ⟨h4, h5⟩ := hy x hxx
      obtain ⟨t, ht, hq⟩ := typ_con h4
      exact ⟨t, hq, by rw [h5, ht]; rfl⟩
    simp at hc hd hi
    refine ⟨⟨ss, ks, i⟩, ?_, ⟨by simpa using hb, q2, by simpa using hb', q3, q1⟩⟩
    simp [cBl, hc, hd, hi, eSos, eCos]
end
section
attribute [local simp] allD_map_d sks_map_d tk tn tks initA EndsM
end
section
attribute [local simp] allD_map_d sks_map_d tk tn tks initA EndsM
theorem keepArgs_of (l : List Ar) (h : ∀ x ∈ l, Pure Try.prog n_porismkeep_Arg [.agg (cAr x), .agg (cAr x)] [.bool true]) : Pure Try.prog n_porismkeep_Args [eArs l, eArs l] [.bool true] := by
  refine p_porismkeep_Args rfl fun hs => ?_
  have hl := hs (eArs l) (by simp)
  simp [eArs, small] at hl
  replace hl := hl.1
  simp -dsimp [x_porismkeep_Args, eArs]
  refine wp_upto l.length (fun i st => st.s 0 = .d (.sl 7 (l.map eAr)) ∧ st.s 1 = .d (.sl 7 (l.map eAr)) ∧ st.s 5 = .d (.int .i64 i)) ?_ ?_
  · simp -dsimp
  · rintro i ⟨s, hp⟩ hi ⟨g1, g2, g3⟩
    dsimp only at g1 g2 g3
    rcases Nat.lt_or_ge i l.length with hlt | hge
    · have w1 : IntKind.i64.wrap ((i : Int) + 1) = (i : Int) + 1 := wrap_id (by omega) (by omega)
      simp -dsimp [g1, g2, g3, hlt, cT, eAr, cAr, eTs]
      refine call_of (h l[i] (List.getElem_mem _)) ?_
      simp -dsimp [g1, g2, g3, hlt, w1]
    · have e : i = l.length := by omega
      subst e
      simp -dsimp [g1, g2, g3]
theorem keepArg_ok (a : Ar) : Pure Try.prog n_porismkeep_Arg [.agg (cAr a), .agg (cAr a)] [.bool true] := by
  refine p_porismkeep_Arg rfl fun hs => ?_
  simp -dsimp [x_porismkeep_Arg, cAr, cT, eTs]
  refine call_of (keepTerm_ok a.ty) ?_
  simp -dsimp
  refine call_of (keepTerms_ok a.dom) ?_
  simp -dsimp
  refine call_of (keepTerms_ok a.idx) ?_
  simp -dsimp
theorem keepArgs_ok (l : List Ar) : Pure Try.prog n_porismkeep_Args [eArs l, eArs l] [.bool true] := keepArgs_of l fun x _ => keepArg_ok x
theorem keepCon_ok (c : Co) : Pure Try.prog n_porismkeep_Con [.agg (cCo c), .agg (cCo c)] [.bool true] := by
  refine p_porismkeep_Con rfl fun hs => ?_
  simp -dsimp [x_porismkeep_Con, cCo, cT, eTs, eArs]
  refine call_of (keepArgs_ok c.args) ?_
  simp -dsimp
  refine call_of (keepTerms_ok c.idx) ?_
  simp -dsimp
  refine call_of (keepTerm_ok c.dec) ?_
  simp -dsimp
theorem keepBlock_ok (b : Bl) : Pure Try.prog n_porismkeep_Block [eBl b, eBl b] [.bool true] := by
  refine p_porismkeep_Block rfl fun hs => ?_
  have hl := hs (eBl b) (by simp)
  simp -dsimp [eBl, cBl, eSos, eCos, small] at hl
  have hl1 := hl.1.1
  have hl2 := hl.2.1
  simp -dsimp [x_porismkeep_Block, eBl, cBl, eSos, eCos]
  refine wp_upto b.sorts.length (fun i st => st.s 2 = .ptr 2 1 0 ∧ st.h 2 = ⟨1, .box [.d (.sl 6 (b.sorts.map eSo)), .d (.sl 6 (b.cons.map eCo)), .d (.int .i64 b.elim)] false⟩ ∧
    st.s 3 = .ptr 3 1 0 ∧ st.h 3 = ⟨1, .box [.d (.sl 6 (b.sorts.map eSo)), .d (.sl 6 (b.cons.map eCo)), .d (.int .i64 b.elim)] false⟩ ∧ st.s 5 = .d (.int .i64 i)) ?_ ?_
  · simp -dsimp
  · rintro i ⟨s, hp⟩ hi ⟨g1, g2, g3, g4, g5⟩
    dsimp only at g1 g2 g3 g4 g5
    rcases Nat.lt_or_ge i b.sorts.length with hlt | hge
    · have w1 : IntKind.i64.wrap ((i : Int) + 1) = (i : Int) + 1 := wrap_id (by omega) (by omega)
      simp -dsimp [g1, g2, g3, g4, g5, hlt, cT, eSo, cSo, eArs]
      refine call_of (keepArgs_ok b.sorts[i].idx) ?_
      simp -dsimp [g1, g2, g3, g4, g5, hlt, w1, cT]
      refine call_of (keepTerm_ok b.sorts[i].dty) ?_
      simp -dsimp [g1, g2, g3, g4, g5, hlt, w1]
    · have e : i = b.sorts.length := by omega
      subst e
      simp -dsimp [g1, g2, g3, g4, g5]
      clear hi g5
      refine wp_upto b.cons.length (fun i st => st.s 2 = .ptr 2 1 0 ∧ st.h 2 = ⟨1, .box [.d (.sl 6 (b.sorts.map eSo)), .d (.sl 6 (b.cons.map eCo)), .d (.int .i64 b.elim)] false⟩ ∧
        st.s 3 = .ptr 3 1 0 ∧ st.h 3 = ⟨1, .box [.d (.sl 6 (b.sorts.map eSo)), .d (.sl 6 (b.cons.map eCo)), .d (.int .i64 b.elim)] false⟩ ∧ st.s 8 = .d (.int .i64 i)) ?_ ?_
      · simp -dsimp [g1, g2, g3, g4]
      · clear g1 g2 g3 g4 s hp
        rintro i ⟨s, hp⟩ hi ⟨g1, g2, g3, g4, g5⟩
        dsimp only at g1 g2 g3 g4 g5
        rcases Nat.lt_or_ge i b.cons.length with hlt | hge
        · have w1 : IntKind.i64.wrap ((i : Int) + 1) = (i : Int) + 1 := wrap_id (by omega) (by omega)
          simp -dsimp [g1, g2, g3, g4, g5, hlt, cT, eCo, cCo, eArs, eTs]
          refine call_of (keepCon_ok b.cons[i]) ?_
          simp -dsimp [g1, g2, g3, g4, g5, hlt, w1]
        · have e : i = b.cons.length := by omega
          subst e
          simp -dsimp [g1, g2, g3, g4, g5]
end
section
attribute [local simp] allD_map_d sks_map_d tk tn tks initA EndsM
end
section
attribute [local simp] allD_map_d sks_map_d tk tn tks initA EndsM
theorem checkB_zero (b : Bl) : checkB b = 0 ↔ 1 ≤ b.sorts.length ∧ b.sorts.length ≤ 4 ∧ b.cons.length ≤ 8 ∧ levelM b.elim = true ∧ (∀ (j : Nat) (hj : j < b.sorts.length), sortM b j b.sorts[j] = true) ∧ ∀ c ∈ b.cons, conM b c = true := by
  have ha : allI (fun k s => sortM b k s) 0 b.sorts = true ↔ ∀ (j : Nat) (hj : j < b.sorts.length), sortM b j b.sorts[j] = true := by
    rw [allI_iff]
    simp
  rw [checkB]
  by_cases h1 : (b.sorts.length : Int) < 1
  · rw [if_pos h1]
    constructor
    · intro h; simp at h
    · rintro ⟨h, _⟩; omega
  rw [if_neg h1]
  by_cases h2 : 4 < (b.sorts.length : Int)
  · rw [if_pos h2]
    constructor
    · intro h; simp at h
    · rintro ⟨_, h, _⟩; omega
  rw [if_neg h2]
  by_cases h3 : 8 < (b.cons.length : Int)
  · rw [if_pos h3]
    constructor
    · intro h; simp at h
    · rintro ⟨_, _, h, _⟩; omega
  rw [if_neg h3, ← ha]
  cases hl : levelM b.elim with
  | false => simp
  | true =>
    cases hs : allI (fun k s => sortM b k s) 0 b.sorts with
    | false => simp
    | true =>
      have hc : (b.cons.any fun c => !conM b c) = false ↔ ∀ c ∈ b.cons, conM b c = true := by
        rw [List.any_eq_false]
        simp
      cases hq : b.cons.any fun c => !conM b c with
      | false =>
        simp only [hq] at hc ⊢
        simp only [if_true]
        exact ⟨fun _ => ⟨by omega, by omega, by omega, trivial, trivial, hc.1 trivial⟩, fun _ => rfl⟩
      | true =>
        simp only [hq] at hc ⊢
        simp only [if_true]
        constructor
        · intro h; simp at h
        · rintro ⟨_, _, _, _, _, h⟩
          exact absurd (hc.2 h) (by simp)
end
section
attribute [local simp] allD_map_d sks_map_d tk tn tks initA EndsM
end
section
attribute [local simp] allD_map_d sks_map_d tk tn tks initA EndsM
theorem u64_id {n : Int} (h1 : 0 ≤ n) (h2 : n < 18446744073709551616) : IntKind.u64.wrap n = n := by
  simp only [IntKind.wrap]
  exact Int.emod_eq_of_lt h1 h2
end
section
attribute [local simp] allD_map_d sks_map_d tk tn tks initA EndsM
end
end
section
attribute [local simp] allD_map_d sks_map_d tk tn tks initA EndsM
theorem keepDecl_ok (d : De) : Pure Try.prog n_porismkeep_Decl [eDe d, eDe d] [.bool true] := by
  refine p_porismkeep_Decl rfl fun hs => ?_
  have h1 := keepTerm_ok d.ty
  have h2 := keepTerm_ok d.body
  have h3 := keepBlock_ok d.bl
  simp only [cT, eBl, cBl, eSos, eCos] at h1 h2 h3
  simp -dsimp [x_porismkeep_Decl, eDe, cDe, cT, cBl, eSos, eCos]
  refine call_of h1 ?_
  simp -dsimp
  refine call_of h2 ?_
  simp -dsimp
  refine call_of h3 ?_
  simp -dsimp
theorem keepDecls_ok (l : List De) : Pure Try.prog n_porismkeep_Decls [eDes l, eDes l] [.bool true] := by
  refine p_porismkeep_Decls rfl fun hs => ?_
  have hl := hs (eDes l) (by simp)
  simp [eDes, small] at hl
  replace hl := hl.1
  simp -dsimp [x_porismkeep_Decls, eDes]
  refine wp_upto l.length (fun i st => st.s 0 = .d (.sl 10 (l.map eDe)) ∧ st.s 1 = .d (.sl 10 (l.map eDe)) ∧ st.s 5 = .d (.int .i64 i)) ?_ ?_
  · simp -dsimp
  · rintro i ⟨s, hp⟩ hi ⟨g1, g2, g3⟩
    dsimp only at g1 g2 g3
    rcases Nat.lt_or_ge i l.length with hlt | hge
    · have w1 : IntKind.i64.wrap ((i : Int) + 1) = (i : Int) + 1 := wrap_id (by omega) (by omega)
      have hD := keepDecl_ok l[i]
      simp only [eDe, cDe, cT, cBl, eSos, eCos, List.cons_append, List.nil_append] at hD
      simp -dsimp [g1, g2, g3, hlt, eDe, cDe, cT, cBl, eSos, eCos]
      refine call_of hD ?_
      simp -dsimp [g1, g2, g3, hlt, w1, eDe, cDe, cT, cBl, eSos, eCos]
    · have e : i = l.length := by omega
      subst e
      simp -dsimp [g1, g2, g3]
def uT (n : Int) : T := .mk 2 n []
theorem u_ok (n : Int) : Pure Try.prog n_porismref01_U [.int .i64 n] [.agg (cT (uT n))] := by
  refine p_porismref01_U rfl fun hs => ?_
  simp -dsimp [x_porismref01_U, cT, uT]
theorem uT_gt {n : Int} (h0 : 0 ≤ n) (h1 : n ≤ 65535) : Gt (uT n) := ⟨fm_leaf_of (by decide) h0 h1, by simp [uT, nodes], by simp [uT, depthN, dmax]⟩
theorem uT_pk {n : Int} (h0 : 0 ≤ n) (h1 : n ≤ 255) : pk (uT n) = [2, 0, n] := by
  rw [uT, pk, if_pos (by decide)]
  have : n.fdiv 256 = 0 := by rw [Int.fdiv_eq_ediv_of_nonneg _ (by omega)]; omega
  rw [this, u8_id h0 (by omega)]
  rfl
def heavy20 (d : De) : Bool := if heavy02 [d.ty, d.body] then true else heavy07 d.bl
theorem heavy20_ok (d : De) : Pure Try.prog n_porismlaw20_Heavy [eDe d] [.bool (heavy20 d)] := by
  refine p_porismlaw20_Heavy rfl fun hs => ?_
  have h1 := heavy02_ok [d.ty, d.body]
  have h2 := heavy07_ok d.bl
  simp only [eTs, List.map_cons, List.map_nil, eT_eq, cT, eBl, cBl, eSos, eCos] at h1 h2
  simp -dsimp [x_porismlaw20_Heavy, eDe, cDe, cT, cBl, eSos, eCos]
  refine call_of h1 ?_
  cases g : heavy02 [d.ty, d.body] <;> simp -dsimp [g, heavy20]
  refine call_of h2 ?_
  simp -dsimp [g, heavy20]
end
section
attribute [local simp] allD_map_d sks_map_d tk tn tks initA EndsM
def W0 : Bl → List (List Int) := fun _ => []
theorem putG_ok (l : List De) (hl : l.length ≤ 60) (hG : ∀ d ∈ l, Gd d) (hb : ((l.map dB).flatten).length + 1 ≤ 65536) : Pure Try.prog n_pile_Put [eDes l] [eB (u8 l.length :: (l.map dB).flatten), .int .i64 0] := by
  have hW : putW W0 l = u8 l.length :: (l.map dB).flatten := by
    rw [putW]
    congr 1
    induction l with
    | nil => rfl
    | cons d l ih =>
      simp only [List.map_cons, List.flatten_cons, List.flatten_append, List.length_append, List.length_cons] at hb hl ⊢
      rw [ih (by omega) (fun x hx => hG x (by simp [hx])) (by omega)]
      rfl
  have hbad : badD l = false := by
    rw [badD, List.any_eq_false]
    intro d hd
    simp [(hG d hd).right]
  have hlen : (putW W0 l).length ≤ 65536 := by rw [hW]; simpa using hb
  have h := putD_ok W0 l (fun _ d hd => by
    rcases hG d hd with ⟨t, ht, rfl⟩ | ⟨t, u, ht, hu, rfl⟩
    · have := ht.n
      exact ⟨by show nodes t ≤ _; omega, by show nodes T0 ≤ _; simp [T0, nodes]⟩
    · have := ht.n
      have := hu.n
      exact ⟨by show nodes t ≤ _; omega, by show nodes u ≤ _; omega⟩) (fun d hd _ k1 k2 => by
    rcases hG d hd with ⟨t, ht, rfl⟩ | ⟨t, u, ht, hu, rfl⟩
    · exact (k1 rfl).elim
    · exact (k2 rfl).elim) fun _ _ => by omega
  have e1 : putL W0 l = putW W0 l := by rw [putL, if_neg (by omega), hbad]; simp only [Bool.false_eq_true, if_false]; rw [if_neg (by omega)]
  have e2 : putE W0 l = 0 := by rw [putE, if_neg (by omega), hbad]; simp only [Bool.false_eq_true, if_false]; rw [if_neg (by omega)]
  rw [e1, e2, hW] at h
  exact h
theorem wakes22_ok : Pure Try.prog n_porismlaw22_wakes [] [.bool true] := by
  refine p_porismlaw22_wakes rfl fun hs => ?_
  have hU := u_ok 0
  have ht := uT_gt (n := 0) (by omega) (by omega)
  have hdB : ([De.ax (uT 0)].map dB).flatten = [1, 2, 0, 0] := by simp [dB_ax ht, uT_pk]
  have hP := putG_ok [.ax (uT 0)] (by simp) (fun d hd => by simp at hd; subst hd; exact .inl ⟨_, ht, rfl⟩) (by rw [hdB]; simp)
  have hG := getD_ok [.ax (uT 0)] (fun d hd => by simp at hd; subst hd; exact .inl ⟨_, ht, rfl⟩) (by simp) (by rw [hdB]; simp)
  have hD := keepDecls_ok [.ax (uT 0)]
  have hB := keepBytes_ok [1, 1, 2, 0, 0] [1, 1, 2, 0, 0]
  have hC := checkD_ok (.ax (uT 0))
  have hR : rightM (.ax (uT 0)) = true := Gd.right (.inl ⟨_, ht, rfl⟩)
  have hu : u8 ([De.ax (uT 0)].length : Nat) = 1 := rfl
  rw [hdB, hu] at hP hG
  rw [hR] at hC
  simp only [eDes, eB, List.map_cons, List.map_nil, eDe, cDe, De.ax, uT, T0, B0, cT, cBl, eSos, eCos, T.kind, T.num, T.kids, List.cons_append, List.nil_append, decide_true, if_true] at hU hP hG hD hB hC
  simp -dsimp [x_porismlaw22_wakes]
  refine call_of hU ?_
  simp -dsimp
  refine call_of hP ?_
  simp -dsimp
  refine call_of hG ?_
  simp -dsimp
  refine call_of hB ?_
  simp -dsimp
  refine call_of hD ?_
  simp -dsimp
  refine call_of hC ?_
  simp -dsimp
end
section
section
attribute [local simp] allD_map_d sks_map_d tk tn tks initA EndsM
theorem c_decl : Try.prog.cellsOf 44 = 10 := by kernel_rfl
theorem is_decl : isStructB Try.prog 44 = true := by simp only [isStructB, Try.underlying44]
structure okDe (d : De) : Prop where
  kind : n64 d.kind
  ty : okT d.ty
  body : okT d.body
  bl : okBl d.bl
theorem len10 {xs : List D} (h : xs.length = 10) : ∃ a b c d e f g i j k, xs = [a, b, c, d, e, f, g, i, j, k] := by
  match xs, h with
  | [a, b, c, d, e, f, g, i, j, k], _ => exact ⟨a, b, c, d, e, f, g, i, j, k, rfl⟩
theorem typ_decl {n : Nat} {cs : List D} (h : typ Try.prog n 44 cs) : ∃ d : De, cs = cDe d ∧ okDe d := by
  cases n with
  | zero => exact h.elim
  | succ n =>
    simp only [typ, Try.underlying44, c_decl, c_int, c_term, c_block, List.forall_mem_cons] at h
    obtain ⟨hl, h1, h2, h3, h4, _⟩ := h
    obtain ⟨a, b, c, d, e, f, g, i, j, k, rfl⟩ := len10 hl
    obtain ⟨r, hr, q0⟩ := typ_int h1
    obtain ⟨t, ht, q1⟩ := typ_term _ h2
    obtain ⟨u, hu, q2⟩ := typ_term _ h3
    obtain ⟨bl, hb, q3⟩ := typ_block h4
    simp at hr ht hu hb
    refine ⟨⟨r, t, u, bl⟩, ?_, ⟨q0, q1, q2, q3⟩⟩
    simp [cDe, ← ht, ← hu, ← hb, hr]
theorem none_iff (t : T) : noneM t = true ↔ t = T0 := by
  obtain ⟨k, n, ks⟩ := t
  simp [noneM, T0, T.kind, T.num, T.kids]
theorem plain_iff (b : Bl) : plainB b = true ↔ b = B0 := by
  obtain ⟨s, c, e⟩ := b
  rw [plainB]
  simp only [B0]
  constructor
  · intro h
    split at h
    · split at h
      · simp at h
        rename_i h1 h2
        simp at h1 h2
        rw [h1, h2, h]
      · cases h
    · cases h
  · intro h
    cases h
    rfl
end
end
section
section
attribute [local simp] allD_map_d sks_map_d tk tn tks initA EndsM
theorem y_decl : Try.prog.bytesOf 44 = 144 := by kernel_rfl
def okDes (l : List De) : Prop := l.length * 144 ≤ 140737488351232 ∧ ∀ x ∈ l, okDe x
theorem arg_decls {x : D} (h : TypD Try.prog 22 x) : ∃ l : List De, x = eDes l ∧ okDes l := by
  obtain ⟨⟨n, h1⟩, h2⟩ := h
  obtain ⟨m, xs, rfl, hc, hb, hx⟩ := typ_slice Try.underlying22 c_decl y_decl is_decl h1
  obtain ⟨ks, rfl, hks⟩ : ∃ l : List De, xs = l.map eDe ∧ ∀ a ∈ l, okDe a := map_of fun x hxx => by
    obtain ⟨h4, h5⟩ := hx x hxx
    obtain ⟨t, ht, hq⟩ := typ_decl h4
    exact ⟨t, hq, by rw [h5, ht]; rfl⟩
  have h3 : isStructB Try.prog 22 = false := by simp only [isStructB, Try.underlying22]
  rw [not_agg (h2.trans h3)] at hc
  exact ⟨ks, by simpa [eDes] using hc, by simpa using hb, hks⟩
theorem sum_le_of {α : Type} (f g : α → Nat) : ∀ (l : List α), (∀ x ∈ l, f x ≤ 3 * g x) → (l.map f).sum ≤ 3 * (l.map g).sum
  | [], _ => by simp
  | x :: l, h => by
    have h1 := h x (by simp)
    have h2 := sum_le_of f g l fun y hy => h y (by simp [hy])
    simp only [List.map_cons, List.sum_cons]
    omega
theorem fl2 {α : Type} (f : α → List (List Int)) : ∀ l : List α, (l.map f).flatten.flatten.length = (l.map fun x => (f x).flatten.length).sum
  | [] => rfl
  | x :: l => by simp only [List.map_cons, List.flatten_cons, List.flatten_append, List.length_append, List.sum_cons, fl2 f l]
theorem mem_sum3 {xs : List D} {x : D} (h : x ∈ xs) : bulk x ≤ (xs.map bulk).sum := sum_mem (List.mem_map.2 ⟨x, h, rfl⟩)
theorem pkO_len (t : T) : (pkO t).length ≤ 3 * bulk (.agg (cT t)) := by
  have h1 := term_bulk t
  have h2 := pk_len t
  have h3 : 1 ≤ nodes t := by cases t; rw [nodes]; omega
  rw [pkO]
  split
  · simp; omega
  · omega
theorem rowW_len (l : List T) : (rowW l).flatten.length ≤ 3 * bulk (eTs l) := by
  have h := sum_le_of (fun t => ([pkO t] : List (List Int)).flatten.length) (fun t => bulk (eT t)) l fun t _ => by
    have := pkO_len t
    rw [← eT_eq] at this
    simpa using this
  rw [rowW, List.flatten_cons, List.length_append, fl2]
  simp only [eTs, bulk, List.map_map, Function.comp_def, List.length_cons, List.length_nil]
  omega
theorem argW_len (a : Ar) : (argW a).flatten.length ≤ 3 * bulk (eAr a) := by
  have e : bulk (eAr a) = 1 + bulk (.agg (cT a.ty)) + (bulk (eTs a.dom) + (1 + bulk (eTs a.idx))) := by
    simp only [eAr, cAr, bulk, List.map_cons, List.map_append, List.sum_cons, List.sum_append, List.map_nil, List.sum_nil, List.cons_append, cT, eTs, List.nil_append]
    omega
  have h1 := pkO_len a.ty
  have h2 := rowW_len a.dom
  have h3 := rowW_len a.idx
  rw [argW]
  simp only [List.flatten_append, List.length_append, List.flatten_cons, List.flatten_nil, List.length_cons, List.length_nil]
  omega
theorem argsW_len (l : List Ar) : (argsW l).flatten.length ≤ 3 * bulk (eArs l) := by
  have h := sum_le_of (fun a => (argW a).flatten.length) (fun a => bulk (eAr a)) l fun a _ => argW_len a
  rw [argsW, List.flatten_cons, List.length_append, fl2]
  simp only [eArs, bulk, List.map_map, Function.comp_def, List.length_cons, List.length_nil]
  omega
theorem soW_len (x : So) : (soW x).flatten.length ≤ 3 * bulk (eSo x) := by
  have e : bulk (eSo x) = bulk (eArs x.idx) + (1 + (1 + bulk (.agg (cT x.dty)))) := by
    simp only [eSo, cSo, bulk, List.map_cons, List.map_append, List.sum_cons, List.sum_append, List.map_nil, List.sum_nil, List.cons_append, cT, eArs, List.nil_append]
  have h1 := pkO_len x.dty
  have h2 := argsW_len x.idx
  rw [soW]
  simp only [List.flatten_append, List.length_append, List.flatten_cons, List.flatten_nil, List.length_cons, List.length_nil]
  omega
theorem coW_len (x : Co) : (coW x).flatten.length ≤ 3 * bulk (eCo x) := by
  have e : bulk (eCo x) = 1 + (bulk (eArs x.args) + (bulk (eTs x.idx) + bulk (.agg (cT x.dec)))) := by
    simp only [eCo, cCo, bulk, List.map_cons, List.map_append, List.sum_cons, List.sum_append, List.map_nil, List.sum_nil, List.cons_append, cT, eArs, eTs, List.nil_append]
  have h1 := pkO_len x.dec
  have h2 := argsW_len x.args
  have h3 := rowW_len x.idx
  rw [coW]
  simp only [List.flatten_append, List.length_append, List.flatten_cons, List.flatten_nil, List.length_cons, List.length_nil]
  omega
theorem blkW_len (b : Bl) : (blkW b).flatten.length ≤ 3 * bulk (eBl b) := by
  have h1 := sum_le_of (fun a => (soW a).flatten.length) (fun a => bulk (eSo a)) b.sorts fun a _ => soW_len a
  have h2 := sum_le_of (fun a => (coW a).flatten.length) (fun a => bulk (eCo a)) b.cons fun a _ => coW_len a
  rw [blkW]
  simp only [List.flatten_append, List.length_append, List.flatten_cons, List.flatten_nil, List.length_cons, List.length_nil, fl2]
  simp only [eBl, cBl, eSos, eCos, bulk, List.map_map, Function.comp_def, List.map_cons, List.map_nil, List.sum_cons, List.sum_nil]
  omega
theorem bulk_de (d : De) : bulk (eDe d) = 1 + (bulk (.agg (cT d.ty)) + (bulk (.agg (cT d.body)) + bulk (eBl d.bl))) := by
  simp only [eDe, cDe, eBl, bulk, List.map_cons, List.map_append, List.sum_cons, List.sum_append]
theorem declW_len (d : De) : (declW blkW d).flatten.length ≤ 3 * bulk (eDe d) := by
  have h1 := pkO_len d.ty
  have h2 := pkO_len d.body
  have h3 := blkW_len d.bl
  have e := bulk_de d
  rw [declW, List.flatten_cons, List.length_append]
  by_cases k1 : d.kind = 1
  · rw [if_pos k1]; simp only [List.flatten_cons, List.flatten_nil, List.length_append, List.length_cons, List.length_nil]; omega
  · by_cases k2 : d.kind = 2
    · rw [if_neg k1, if_pos k2]; simp only [List.flatten_cons, List.flatten_nil, List.length_append, List.length_cons, List.length_nil]; omega
    · rw [if_neg k1, if_neg k2]; simp only [List.length_cons, List.length_nil]; omega
theorem putW_len (l : List De) : (putW blkW l).length ≤ 3 * bulk (eDes l) := by
  have h := sum_le_of (fun a => (declW blkW a).flatten.length) (fun a => bulk (eDe a)) l fun a _ => declW_len a
  rw [putW, List.length_cons, fl2]
  simp only [eDes, bulk, List.map_map, Function.comp_def]
  omega
end
end
section
section
attribute [local simp] allD_map_d sks_map_d tk tn tks initA EndsM
theorem in_check {t : T} {v : Int} (h : inM t v = true) : checkM t = 0 := by
  rw [inM, scopeM] at h
  by_cases g : checkM t = 0
  · exact g
  · rw [if_neg g] at h; split at h <;> simp at h
theorem all_check {l : List T} {v : Int} (h : allM l v = true) : ∀ t ∈ l, checkM t = 0 := fun t ht => by
  rw [allM, Bool.not_eq_true', List.any_eq_false] at h
  have := h t ht
  exact in_check (v := v) (by simpa using this)
theorem dom_check {l : List T} {i : Int} (h : domM i l = true) : ∀ t ∈ l, checkM t = 0 := fun t ht => by
  rw [domM, allI_iff] at h
  obtain ⟨j, hj, rfl⟩ := List.mem_iff_getElem.1 ht
  exact in_check (h j hj)
theorem okW_in {l : List T} (hb : bulk (eTs l) ≤ 1048576) (h : ∀ t ∈ l, checkM t = 0) : ∀ t ∈ l, okW t := fun t ht => by
  have := (terms_bulk l).1 t ht
  exact ⟨by omega, .inr (h t ht)⟩
theorem okAW_of {b : Bl} {a : Ar} {i : Int} (hb : bulk (eAr a) ≤ 1048576) (h : argM b a i = true) : okAW a := by
  have e : bulk (eAr a) = 1 + bulk (.agg (cT a.ty)) + (bulk (eTs a.dom) + (1 + bulk (eTs a.idx))) := by
    simp only [eAr, cAr, bulk, List.map_cons, List.map_append, List.sum_cons, List.sum_append, List.map_nil, List.sum_nil, List.cons_append, cT, eTs, List.nil_append]
    omega
  have h1 := term_bulk a.ty
  rw [argM] at h
  cases hr : a.rc
  · simp only [hr, Bool.false_eq_true, if_false] at h
    cases hi : inM a.ty i
    · simp [hi] at h
    · simp only [hi, if_true] at h
      have l1 := (terms_bulk a.dom).2
      have l2 := (terms_bulk a.idx).2
      have hz : a.dom.length = 0 ∧ a.idx.length = 0 := by
        split at h
        · rename_i hw
          rw [w64, wrap_id (by omega) (by omega)] at hw
          omega
        · cases h
      refine ⟨⟨by omega, .inr (in_check hi)⟩, fun t ht => ?_, fun t ht => ?_⟩
      · rw [List.eq_nil_of_length_eq_zero hz.1] at ht; cases ht
      · rw [List.eq_nil_of_length_eq_zero hz.2] at ht; cases ht
  · simp only [hr, if_true] at h
    cases hn : noneM a.ty
    · simp [hn] at h
    · simp only [hn, if_true] at h
      split at h
      · cases h
      · split at h
        · cases h
        · split at h
          · cases h
          · split at h
            · rw [Bool.and_eq_true] at h
              exact ⟨⟨by omega, .inl hn⟩, okW_in (by omega) (dom_check h.1), okW_in (by omega) (all_check h.2)⟩
            · cases h
theorem okAWs_of {b : Bl} {l : List Ar} (hb : bulk (eArs l) ≤ 1048576) (h : rowM b l = true) : ∀ a ∈ l, okAW a := fun a ha => by
  rw [rowM] at h
  split at h
  · cases h
  · rw [allI_iff] at h
    have hm := mem_sum3 (List.mem_map.2 ⟨a, ha, rfl⟩ : eAr a ∈ l.map eAr)
    simp only [eArs, bulk] at hb
    obtain ⟨j, hj, rfl⟩ := List.mem_iff_getElem.1 ha
    exact okAW_of (by omega) (h j hj)
theorem maybe_okW {is : Bool} {t : T} {v : Int} (hb : nodes t ≤ 1048576) (h : maybeM is t v = true) : okW t := by
  rw [maybeM] at h
  cases is
  · exact ⟨by omega, .inl (by simpa using h)⟩
  · exact ⟨by omega, .inr (in_check (v := v) (by simpa using h))⟩
theorem okBW_of {b : Bl} (hb : bulk (eBl b) ≤ 1048576) (h : checkB b = 0) : okBW b := by
  obtain ⟨_, _, _, _, hs, hc⟩ := (checkB_zero b).1 h
  have e : bulk (eBl b) = bulk (eSos b.sorts) + (bulk (eCos b.cons) + 1) := by
    simp only [eBl, cBl, bulk, List.map_cons, List.sum_cons, List.map_nil, List.sum_nil, Nat.add_zero]
  refine ⟨fun x hx => ?_, fun c hx => ?_⟩
  · have hm := mem_sum3 (List.mem_map.2 ⟨x, hx, rfl⟩ : eSo x ∈ b.sorts.map eSo)
    have e1 : bulk (eSos b.sorts) = ((b.sorts.map eSo).map bulk).sum + 1 := by simp only [eSos, bulk]
    have e2 : bulk (eSo x) = bulk (eArs x.idx) + (1 + (1 + bulk (.agg (cT x.dty)))) := by
      simp only [eSo, cSo, bulk, List.map_cons, List.map_append, List.sum_cons, List.sum_append, List.map_nil, List.sum_nil, List.cons_append, cT, eArs, List.nil_append]
    have h1 := term_bulk x.dty
    obtain ⟨j, hj, hjx⟩ := List.mem_iff_getElem.1 hx
    have hsx := hs j hj
    rw [hjx, sortM] at hsx
    split at hsx
    · rename_i hr
      split at hsx
      · split at hsx
        · rename_i hmb
          exact ⟨okAWs_of (by omega) hr, maybe_okW (by omega) hmb⟩
        · cases hsx
      · cases hsx
    · cases hsx
  · have hm := mem_sum3 (List.mem_map.2 ⟨c, hx, rfl⟩ : eCo c ∈ b.cons.map eCo)
    have e1 : bulk (eCos b.cons) = ((b.cons.map eCo).map bulk).sum + 1 := by simp only [eCos, bulk]
    have e2 : bulk (eCo c) = 1 + (bulk (eArs c.args) + (bulk (eTs c.idx) + bulk (.agg (cT c.dec)))) := by
      simp only [eCo, cCo, bulk, List.map_cons, List.map_append, List.sum_cons, List.sum_append, List.map_nil, List.sum_nil, List.cons_append, cT, eArs, eTs, List.nil_append]
    have h1 := term_bulk c.dec
    have hcx := hc c hx
    rw [conM] at hcx
    split at hcx
    · cases hcx
    · split at hcx
      · rename_i hr
        split at hcx
        · cases hcx
        · split at hcx
          · split at hcx
            · rename_i ha
              exact ⟨okAWs_of (by omega) hr, okW_in (by omega) (all_check ha), maybe_okW (by omega) hcx⟩
            · cases hcx
          · cases hcx
      · cases hcx
theorem putB_ok (l : List De) (hb : bulk (eDes l) ≤ 1048576) : Pure Try.prog n_pile_Put [eDes l] [eB (putL blkW l), .int .i64 (putE blkW l)] := by
  have hd : ∀ d ∈ l, bulk (eDe d) ≤ 1048576 := fun d hx => by
    have hm := mem_sum3 (List.mem_map.2 ⟨d, hx, rfl⟩ : eDe d ∈ l.map eDe)
    simp only [eDes, bulk] at hb
    omega
  refine putD_ok blkW l (fun _ d hx => ?_) (fun d hx hr k1 k2 => ?_) fun _ _ => ?_
  · have := hd d hx
    have e := bulk_de d
    have h1 := term_bulk d.ty
    have h2 := term_bulk d.body
    omega
  · have := hd d hx
    have e := bulk_de d
    refine block_wr d.bl (okBW_of (by omega) ?_)
    rw [rightM, if_neg k1, if_neg k2] at hr
    split at hr
    · split at hr
      · split at hr
        · simpa using hr
        · cases hr
      · cases hr
    · cases hr
  · have := putW_len l
    omega
def heavy22 (l : List De) : Bool := if 70 < (l.length : Int) then true else l.any heavy20
theorem heavy22_ok (l : List De) : Pure Try.prog n_porismlaw22_Heavy [eDes l] [.bool (heavy22 l)] := by
  refine p_porismlaw22_Heavy rfl fun hs => ?_
  by_cases g : 70 < (l.length : Int)
  · simp -dsimp [x_porismlaw22_Heavy, eDes, g, heavy22]
  simp -dsimp [x_porismlaw22_Heavy, eDes, g]
  refine wp_upto l.length (fun i st => (l.take i).any heavy20 = false ∧ st.s 0 = .d (.sl 10 (l.map eDe)) ∧ st.s 3 = .d (.int .i64 i)) ?_ ?_
  · simp -dsimp
  · rintro i ⟨s, hp⟩ hi ⟨hb, e0, e1⟩
    dsimp only at e0 e1
    rcases Nat.lt_or_ge i l.length with hlt | hge
    · have w1 : IntKind.i64.wrap ((i : Int) + 1) = (i : Int) + 1 := wrap_id (by omega) (by omega)
      have hC := heavy20_ok l[i]
      have hx := fun h : heavy20 l[i] = false => any_snoc (p := heavy20) hlt hb h
      have hy := fun h : heavy20 l[i] = true => any_mem (p := heavy20) hlt h
      simp only [eDe, cDe, cT, cBl, eSos, eCos, List.cons_append, List.nil_append] at hC
      simp -dsimp [e0, e1, hlt, eDe, cDe, cT, cBl, eSos, eCos]
      refine call_of hC ?_
      cases hr : heavy20 l[i]
      · simp -dsimp [hr, e0, e1, w1, hx hr, hlt, eDe, cDe, cT, cBl, eSos, eCos]
      · simp -dsimp [hr, heavy22, g, hy hr]
    · have e : i = l.length := by omega
      subst e
      rw [List.take_length] at hb
      simp -dsimp [e0, e1, heavy22, g, hb]
end
end
section
theorem gt_of2 {t : T} (hb : nodes t ≤ 1048576) (h : checkM t = 0) : Gt t := by
  obtain ⟨h1, h2, h3⟩ := (check_iff hb).1 h
  exact ⟨h3, by omega, by omega⟩
theorem okR_none {t : T} (h : noneM t = true) : okR t := .inl ((none_iff t).1 h)
theorem okR_in {l : List T} (hb : bulk (eTs l) ≤ 1048576) (h : ∀ t ∈ l, checkM t = 0) : ∀ t ∈ l, okR t := fun t ht => .inr (gt_of2 (by have := (terms_bulk l).1 t ht; omega) (h t ht))
theorem maybe_okR {is : Bool} {t : T} {v : Int} (hb : nodes t ≤ 1048576) (h : maybeM is t v = true) : okR t := by
  rw [maybeM] at h
  cases is
  · exact okR_none (by simpa using h)
  · exact .inr (gt_of2 hb (in_check (v := v) (by simpa using h)))
theorem level_rng {n : Int} (h : levelM n = true) : 0 ≤ n ∧ n < 256 := by
  rw [levelM, Bool.and_eq_true, decide_eq_true_eq, decide_eq_true_eq] at h
  omega
theorem okRA_of {b : Bl} (hS : b.sorts.length ≤ 4) (hI : ∀ s ∈ b.sorts, s.idx.length ≤ 12) {a : Ar} {i : Int} (hb : bulk (eAr a) ≤ 1048576) (h : argM b a i = true) : okRA a := by
  have e : bulk (eAr a) = 1 + bulk (.agg (cT a.ty)) + (bulk (eTs a.dom) + (1 + bulk (eTs a.idx))) := by
    simp only [eAr, cAr, bulk, List.map_cons, List.map_append, List.sum_cons, List.sum_append, List.map_nil, List.sum_nil, List.cons_append, cT, eTs, List.nil_append]
    omega
  have h1 := term_bulk a.ty
  rw [argM] at h
  cases hr : a.rc
  · simp only [hr, Bool.false_eq_true, if_false] at h
    cases hi : inM a.ty i
    · simp [hi] at h
    · simp only [hi, if_true] at h
      have l1 := (terms_bulk a.dom).2
      have l2 := (terms_bulk a.idx).2
      have hz : (a.dom.length = 0 ∧ a.idx.length = 0) ∧ a.sort = 0 := by
        split at h
        · rename_i hw
          rw [w64, wrap_id (by omega) (by omega)] at hw
          exact ⟨by omega, by simpa using h⟩
        · cases h
      have z1 := List.eq_nil_of_length_eq_zero hz.1.1
      have z2 := List.eq_nil_of_length_eq_zero hz.1.2
      refine ⟨.inr (gt_of2 (by omega) (in_check hi)), ⟨by omega, fun t ht => ?_⟩, by omega, ⟨by omega, fun t ht => ?_⟩⟩
      · rw [z1] at ht; cases ht
      · rw [z2] at ht; cases ht
  · simp only [hr, if_true] at h
    cases hn : noneM a.ty
    · simp [hn] at h
    · simp only [hn, if_true] at h
      split at h
      · cases h
      · rename_i hd
        split at h
        · cases h
        · rename_i hs0
          split at h
          · cases h
          · rename_i s hs
            split at h
            · rename_i hix
              rw [Bool.and_eq_true] at h
              obtain ⟨hlt, hse⟩ := List.getElem?_eq_some_iff.1 hs
              have := hI s (by rw [← hse]; exact List.getElem_mem _)
              exact ⟨okR_none hn, ⟨by omega, okR_in (by omega) (dom_check h.1)⟩, by omega, ⟨by omega, okR_in (by omega) (all_check h.2)⟩⟩
            · cases h
theorem row_len {b : Bl} {l : List Ar} (h : rowM b l = true) : l.length ≤ 12 := by
  rw [rowM] at h
  split at h
  · cases h
  · omega
theorem okRAs_of {b : Bl} (hS : b.sorts.length ≤ 4) (hI : ∀ s ∈ b.sorts, s.idx.length ≤ 12) {l : List Ar} (hb : bulk (eArs l) ≤ 1048576) (h : rowM b l = true) : l.length < 256 ∧ ∀ a ∈ l, okRA a := by
  have hl := row_len h
  refine ⟨by omega, fun a ha => ?_⟩
  rw [rowM] at h
  split at h
  · cases h
  · rw [allI_iff] at h
    have hm := mem_sum3 (List.mem_map.2 ⟨a, ha, rfl⟩ : eAr a ∈ l.map eAr)
    simp only [eArs, bulk] at hb
    obtain ⟨j, hj, rfl⟩ := List.mem_iff_getElem.1 ha
    exact okRA_of hS hI (by omega) (h j hj)
theorem okRB_of {b : Bl} (hb : bulk (eBl b) ≤ 1048576) (h : checkB b = 0) : okRB b := by
  obtain ⟨_, hS, hC, hel, hs, hc⟩ := (checkB_zero b).1 h
  have e : bulk (eBl b) = bulk (eSos b.sorts) + (bulk (eCos b.cons) + 1) := by
    simp only [eBl, cBl, bulk, List.map_cons, List.sum_cons, List.map_nil, List.sum_nil, Nat.add_zero]
  have hI : ∀ s ∈ b.sorts, s.idx.length ≤ 12 := fun s hsm => by
    obtain ⟨j, hj, hjx⟩ := List.mem_iff_getElem.1 hsm
    have hsx := hs j hj
    rw [hjx, sortM] at hsx
    split at hsx
    · rename_i hr; exact row_len hr
    · cases hsx
  refine ⟨⟨by omega, fun x hx => ?_⟩, ⟨by omega, fun c hx => ?_⟩, level_rng hel⟩
  · have hm := mem_sum3 (List.mem_map.2 ⟨x, hx, rfl⟩ : eSo x ∈ b.sorts.map eSo)
    have e1 : bulk (eSos b.sorts) = ((b.sorts.map eSo).map bulk).sum + 1 := by simp only [eSos, bulk]
    have e2 : bulk (eSo x) = bulk (eArs x.idx) + (1 + (1 + bulk (.agg (cT x.dty)))) := by
      simp only [eSo, cSo, bulk, List.map_cons, List.map_append, List.sum_cons, List.sum_append, List.map_nil, List.sum_nil, List.cons_append, cT, eArs, List.nil_append]
    have h1 := term_bulk x.dty
    obtain ⟨j, hj, hjx⟩ := List.mem_iff_getElem.1 hx
    have hsx := hs j hj
    rw [hjx, sortM] at hsx
    split at hsx
    · rename_i hr
      split at hsx
      · rename_i hlv
        split at hsx
        · rename_i hmb
          exact ⟨okRAs_of hS hI (by omega) hr, level_rng hlv, maybe_okR (by omega) hmb⟩
        · cases hsx
      · cases hsx
    · cases hsx
  · have hm := mem_sum3 (List.mem_map.2 ⟨c, hx, rfl⟩ : eCo c ∈ b.cons.map eCo)
    have e1 : bulk (eCos b.cons) = ((b.cons.map eCo).map bulk).sum + 1 := by simp only [eCos, bulk]
    have e2 : bulk (eCo c) = 1 + (bulk (eArs c.args) + (bulk (eTs c.idx) + bulk (.agg (cT c.dec)))) := by
      simp only [eCo, cCo, bulk, List.map_cons, List.map_append, List.sum_cons, List.sum_append, List.map_nil, List.sum_nil, List.cons_append, cT, eArs, eTs, List.nil_append]
    have h1 := term_bulk c.dec
    have hcx := hc c hx
    rw [conM] at hcx
    split at hcx
    · cases hcx
    · rename_i hs0
      split at hcx
      · rename_i hr
        split at hcx
        · cases hcx
        · rename_i s hsg
          split at hcx
          · rename_i hix
            split at hcx
            · rename_i ha
              obtain ⟨hlt, hse⟩ := List.getElem?_eq_some_iff.1 hsg
              have := hI s (by rw [← hse]; exact List.getElem_mem _)
              exact ⟨by omega, okRAs_of hS hI (by omega) hr, ⟨by omega, okR_in (by omega) (all_check ha)⟩, maybe_okR (by omega) hcx⟩
            · cases hcx
          · cases hcx
      · cases hcx
theorem okRD_of {d : De} (hb : bulk (eDe d) ≤ 1048576) (h : rightM d = true) : okRD d := by
  refine ⟨h, ?_⟩
  have e := bulk_de d
  have h1 := term_bulk d.ty
  have h2 := term_bulk d.body
  obtain ⟨k, t, u, bl⟩ := d
  simp only at e h1 h2
  rw [rightM] at h
  simp only at h
  split at h
  · rename_i k1
    subst k1
    split at h
    · rename_i c1
      split at h
      · rename_i c2
        exact .inl ⟨t, .inr (gt_of2 (by omega) c1), by rw [(none_iff u).1 c2, (plain_iff bl).1 h]⟩
      · cases h
    · cases h
  · split at h
    · rename_i k1
      subst k1
      split at h
      · rename_i c1
        split at h
        · rename_i c2
          exact .inr (.inl ⟨t, u, .inr (gt_of2 (by omega) c1), .inr (gt_of2 (by omega) c2), by rw [(plain_iff bl).1 h]⟩)
        · cases h
      · cases h
    · split at h
      · rename_i k1
        subst k1
        split at h
        · rename_i c1
          split at h
          · rename_i c2
            exact .inr (.inr ⟨bl, okRB_of (by omega) (by simpa using h), by rw [(none_iff t).1 c1, (none_iff u).1 c2]⟩)
          · cases h
        · cases h
      · cases h
end
section
attribute [local simp] allD_map_d sks_map_d tk tn tks initA EndsM
noncomputable def eqX {α : Type} (t u : α) : Bool := @decide (t = u) (Classical.propDecidable _)
theorem eqX_iff {α : Type} (t u : α) : eqX t u = true ↔ t = u := by simp [eqX]
theorem eqX_not {α : Type} (t u : α) : eqX t u = false ↔ ¬ t = u := by simp [eqX]
theorem keepTerms2_ok (l m : List T) : Pure Try.prog n_porismkeep_Terms [eTs l, eTs m] [.bool (eqTs l m)] := keepTerms2_of l m fun x _ y => keepTerm2_ok x y
theorem keepArg2_ok (a c : Ar) : Pure Try.prog n_porismkeep_Arg [.agg (cAr a), .agg (cAr c)] [.bool (eqX a c)] := by
  refine p_porismkeep_Arg rfl fun hs => ?_
  obtain ⟨a1, a2, a3, a4, a5⟩ := a
  obtain ⟨c1, c2, c3, c4, c5⟩ := c
  have h1 := keepTerm2_ok a2 c2
  have h2 := keepTerms2_ok a3 c3
  have h3 := keepTerms2_ok a5 c5
  have hE : eqX (⟨a1, a2, a3, a4, a5⟩ : Ar) ⟨c1, c2, c3, c4, c5⟩ = (decide (a1 = c1) && (eqT a2 c2 && (eqTs a3 c3 && (decide (a4 = c4) && eqTs a5 c5)))) := by
    rw [Bool.eq_iff_iff]
    simp [eqX_iff, eqT_iff, eqTs_iff]
  rw [hE]
  simp only [cT, eTs] at h1 h2 h3
  simp -dsimp [x_porismkeep_Arg, cAr, cT, eTs]
  by_cases g1 : a1 = c1
  case neg => cases a1 <;> cases c1 <;> first | exact absurd rfl g1 | simp -dsimp
  subst g1
  cases a1 <;> simp -dsimp
  all_goals
    refine call_of h1 ?_
    cases g2 : eqT a2 c2
    case false => simp -dsimp
    simp -dsimp
    refine call_of h2 ?_
    cases g3 : eqTs a3 c3
    case false => simp -dsimp
    by_cases g4 : a4 = c4
    case neg => simp -dsimp [g4]
    simp -dsimp [g4]
    refine call_of h3 ?_
    simp -dsimp [g4]
theorem keepArgs2_ok (l m : List Ar) : Pure Try.prog n_porismkeep_Args [eArs l, eArs m] [.bool (eqX l m)] := by
  refine p_porismkeep_Args rfl fun hs => ?_
  have hl := hs (eArs l) (by simp)
  simp [eArs, small] at hl
  replace hl := hl.1
  simp -dsimp [x_porismkeep_Args, eArs]
  (first | refine Ask_b ?_ ?_ | refine Cnd_b ?_ ?_) <;> intro g1 <;> (try simp only [nrm] at g1) <;> simp -dsimp [g1]
  · exact (eqX_not l m).2 fun h => g1 (by rw [h])
  replace g1 : l.length = m.length := by omega
  refine wp_upto l.length (fun i st => st.s 0 = .d (.sl 7 (l.map eAr)) ∧ st.s 1 = .d (.sl 7 (m.map eAr)) ∧ st.s 5 = .d (.int .i64 i) ∧ l.take i = m.take i) ?_ ?_
  · simp -dsimp
  · rintro i ⟨s, hp⟩ hi ⟨e1, e2, e3, e4⟩
    dsimp only at e1 e2 e3
    rcases Nat.lt_or_ge i l.length with hlt | hge
    · have w1 : IntKind.i64.wrap ((i : Int) + 1) = (i : Int) + 1 := wrap_id (by omega) (by omega)
      have hlt2 : i < m.length := by omega
      have hI := keepArg2_ok l[i] m[i]
      simp only [cAr, cT, eTs, cBl, eSos, eCos, eArs, List.cons_append, List.nil_append] at hI
      simp -dsimp [e1, e2, e3, hlt, hlt2, w1, eAr, cAr, cT, eTs, cBl, eSos, eCos]
      refine call_of hI ?_
      cases he : eqX l[i] m[i]
      · have hne := (eqX_not _ _).1 he
        simp -dsimp [e1, e2, e3, hlt, hlt2, w1, he]
        refine (eqX_not l m).2 fun h => hne ?_
        simp [h]
      · have hee := (eqX_iff _ _).1 he
        simp -dsimp [e1, e2, e3, hlt, hlt2, w1, he]
        exact take_eq_next hlt hlt2 e4 hee
    · have e : i = l.length := by omega
      subst e
      rw [List.take_length, g1, List.take_length] at e4
      simp -dsimp [e1, e2, e3, e4]
      exact (eqX_iff m m).2 rfl
theorem keepCon2_ok (a c : Co) : Pure Try.prog n_porismkeep_Con [.agg (cCo a), .agg (cCo c)] [.bool (eqX a c)] := by
  refine p_porismkeep_Con rfl fun hs => ?_
  obtain ⟨a1, a2, a3, a4⟩ := a
  obtain ⟨c1, c2, c3, c4⟩ := c
  have h1 := keepArgs2_ok a2 c2
  have h2 := keepTerms2_ok a3 c3
  have h3 := keepTerm2_ok a4 c4
  have hE : eqX (⟨a1, a2, a3, a4⟩ : Co) ⟨c1, c2, c3, c4⟩ = (decide (a1 = c1) && (eqX a2 c2 && (eqTs a3 c3 && eqT a4 c4))) := by
    rw [Bool.eq_iff_iff]
    simp [eqX_iff, eqT_iff, eqTs_iff]
  rw [hE]
  simp only [cT, eTs, eArs] at h1 h2 h3
  simp -dsimp [x_porismkeep_Con, cCo, cT, eTs, eArs]
  by_cases g1 : a1 = c1
  case neg => simp -dsimp [g1]
  simp -dsimp [g1]
  refine call_of h1 ?_
  cases g2 : eqX a2 c2
  case false => simp -dsimp [g1]
  simp -dsimp [g1]
  refine call_of h2 ?_
  cases g3 : eqTs a3 c3
  case false => simp -dsimp [g1]
  simp -dsimp [g1]
  refine call_of h3 ?_
  simp -dsimp [g1]
set_option maxHeartbeats 4000000 in
theorem keepBlock2_ok (b c : Bl) : Pure Try.prog n_porismkeep_Block [eBl b, eBl c] [.bool (eqX b c)] := by
  refine p_porismkeep_Block rfl fun hs => ?_
  have hl := hs (eBl b) (by simp)
  simp -dsimp [eBl, cBl, eSos, eCos, small] at hl
  have hl1 := hl.1.1
  have hl2 := hl.2.1
  obtain ⟨bs, bc, be⟩ := b
  obtain ⟨cs, cc, ce⟩ := c
  simp only at hl1 hl2
  have hF : ∀ {h : ¬ (bs = cs ∧ bc = cc ∧ be = ce)}, eqX (⟨bs, bc, be⟩ : Bl) ⟨cs, cc, ce⟩ = false := fun {h} => (eqX_not _ _).2 fun e => h (by simpa using e)
  simp -dsimp [x_porismkeep_Block, eBl, cBl, eSos, eCos]
  by_cases n1 : bs.length = cs.length
  case neg =>
    have n1' : ¬ ((bs.length : Int) = cs.length) := by omega
    rw [hF (h := fun h => n1 (by rw [h.1]))]
    simp -dsimp [n1, n1']
  by_cases n2 : bc.length = cc.length
  case neg =>
    have n2' : ¬ ((bc.length : Int) = cc.length) := by omega
    rw [hF (h := fun h => n2 (by rw [h.2.1]))]
    simp -dsimp [n1, n2, n2']
  by_cases n3 : be = ce
  case neg =>
    rw [hF (h := fun h => n3 h.2.2)]
    simp -dsimp [n1, n2, n3]
  subst n3
  simp -dsimp [n1, n2]
  have m1 : ∀ (i : Nat) (hb : i < bs.length), i < cs.length := fun i hb => by omega
  have m2 : ∀ (i : Nat) (hb : i < bc.length), i < cc.length := fun i hb => by omega
  refine wp_upto bs.length (fun i st => st.s 2 = .ptr 2 1 0 ∧ st.h 2 = ⟨1, .box [.d (.sl 6 (bs.map eSo)), .d (.sl 6 (bc.map eCo)), .d (.int .i64 be)] false⟩ ∧
    st.s 3 = .ptr 3 1 0 ∧ st.h 3 = ⟨1, .box [.d (.sl 6 (cs.map eSo)), .d (.sl 6 (cc.map eCo)), .d (.int .i64 be)] false⟩ ∧ st.s 5 = .d (.int .i64 i) ∧ bs.take i = cs.take i) ?_ ?_
  · simp -dsimp
  · rintro i ⟨s, hp⟩ hi ⟨g1, g2, g3, g4, g5, g6⟩
    dsimp only at g1 g2 g3 g4 g5
    rcases Nat.lt_or_ge i bs.length with hlt | hge
    · have w1 : IntKind.i64.wrap ((i : Int) + 1) = (i : Int) + 1 := wrap_id (by omega) (by omega)
      have hlt2 := m1 i hlt
      have hne : ∀ (h : ¬ bs[i] = cs[i]), eqX (⟨bs, bc, be⟩ : Bl) ⟨cs, cc, be⟩ = false := fun h => (eqX_not _ _).2 fun e => h (by simp only [Bl.mk.injEq] at e; simp [e.1])
      have hnxt := take_eq_next hlt hlt2 g6
      obtain ⟨x, hx⟩ : ∃ x, bs[i] = x := ⟨_, rfl⟩
      obtain ⟨y, hy⟩ : ∃ y, cs[i] = y := ⟨_, rfl⟩
      rw [hx, hy] at hne hnxt
      obtain ⟨x1, x2, x3, x4⟩ := x
      obtain ⟨y1, y2, y3, y4⟩ := y
      have k1 := keepArgs2_ok x1 y1
      have k2 := keepTerm2_ok x4 y4
      simp only [eArs, cT] at k1 k2
      simp -dsimp [g1, g2, g3, g4, g5, hlt, hlt2, hx, hy, cT, eSo, cSo, eArs]
      refine call_of k1 ?_
      cases q1 : eqX x1 y1
      case false =>
        rw [hne fun e => (eqX_not _ _).1 q1 (by simp only [So.mk.injEq] at e; exact e.1)]
        simp -dsimp [g1, g2, g3, g4, g5, hlt, hlt2]
      by_cases q2 : x2 = y2
      case neg =>
        rw [hne fun e => q2 (by simp only [So.mk.injEq] at e; exact e.2.1)]
        simp -dsimp [g1, g2, g3, g4, g5, hlt, hlt2, q2]
      by_cases q3 : x3 = y3
      case neg =>
        rw [hne fun e => q3 (by simp only [So.mk.injEq] at e; exact e.2.2.1)]
        cases x3 <;> cases y3 <;> first | exact absurd rfl q3 | simp -dsimp [g1, g2, g3, g4, g5, hlt, hlt2, q2]
      subst q3
      cases x3
      all_goals
        simp -dsimp [g1, g2, g3, g4, g5, hlt, hlt2, q2]
        refine call_of k2 ?_
        cases q4 : eqT x4 y4
        case false =>
          rw [hne fun e => (eqT_not _ _).1 q4 (by simp only [So.mk.injEq] at e; exact e.2.2.2)]
          simp -dsimp [g1, g2, g3, g4, g5, hlt, hlt2]
        have hn := hnxt (by rw [(eqX_iff _ _).1 q1, q2, (eqT_iff _ _).1 q4])
        simp -dsimp [g1, g2, g3, g4, g5, hlt, hlt2, w1]
        exact hn
    · have e : i = bs.length := by omega
      subst e
      rw [List.take_length, n1, List.take_length] at g6
      subst g6
      simp -dsimp [g1, g2, g3, g4, g5]
      clear hi g5
      refine wp_upto bc.length (fun i st => st.s 2 = .ptr 2 1 0 ∧ st.h 2 = ⟨1, .box [.d (.sl 6 (bs.map eSo)), .d (.sl 6 (bc.map eCo)), .d (.int .i64 be)] false⟩ ∧
        st.s 3 = .ptr 3 1 0 ∧ st.h 3 = ⟨1, .box [.d (.sl 6 (bs.map eSo)), .d (.sl 6 (cc.map eCo)), .d (.int .i64 be)] false⟩ ∧ st.s 8 = .d (.int .i64 i) ∧ bc.take i = cc.take i) ?_ ?_
      · simp -dsimp [g1, g2, g3, g4]
      · clear g1 g2 g3 g4 s hp
        rintro i ⟨s, hp⟩ hi ⟨g1, g2, g3, g4, g5, g6⟩
        dsimp only at g1 g2 g3 g4 g5
        rcases Nat.lt_or_ge i bc.length with hlt | hge
        · have w1 : IntKind.i64.wrap ((i : Int) + 1) = (i : Int) + 1 := wrap_id (by omega) (by omega)
          have hlt2 := m2 i hlt
          have hne : ∀ (h : ¬ bc[i] = cc[i]), eqX (⟨bs, bc, be⟩ : Bl) ⟨bs, cc, be⟩ = false := fun h => (eqX_not _ _).2 fun e => h (by simp only [Bl.mk.injEq] at e; simp [e.2.1])
          have hnxt := take_eq_next hlt hlt2 g6
          have k1 := keepCon2_ok bc[i] cc[i]
          simp only [cCo, cT, eArs, eTs, List.cons_append, List.nil_append] at k1
          simp -dsimp [g1, g2, g3, g4, g5, hlt, hlt2, cT, eCo, cCo, eArs, eTs]
          refine call_of k1 ?_
          cases q1 : eqX bc[i] cc[i]
          case false =>
            rw [hne ((eqX_not _ _).1 q1)]
            simp -dsimp [g1, g2, g3, g4, g5, hlt, hlt2]
          have hn := hnxt ((eqX_iff _ _).1 q1)
          simp -dsimp [g1, g2, g3, g4, g5, hlt, hlt2, w1]
          exact hn
        · have e : i = bc.length := by omega
          subst e
          rw [List.take_length, n2, List.take_length] at g6
          subst g6
          simp -dsimp [g1, g2, g3, g4, g5]
          exact (eqX_iff _ _).2 rfl
theorem keepDecl2_ok (a c : De) : Pure Try.prog n_porismkeep_Decl [.agg (cDe a), .agg (cDe c)] [.bool (eqX a c)] := by
  refine p_porismkeep_Decl rfl fun hs => ?_
  obtain ⟨a1, a2, a3, a4⟩ := a
  obtain ⟨c1, c2, c3, c4⟩ := c
  have h1 := keepTerm2_ok a2 c2
  have h2 := keepTerm2_ok a3 c3
  have h3 := keepBlock2_ok a4 c4
  have hE : eqX (⟨a1, a2, a3, a4⟩ : De) ⟨c1, c2, c3, c4⟩ = (decide (a1 = c1) && (eqT a2 c2 && (eqT a3 c3 && eqX a4 c4))) := by
    rw [Bool.eq_iff_iff]
    simp [eqX_iff, eqT_iff]
  rw [hE]
  simp only [cT, eBl, cBl, eSos, eCos] at h1 h2 h3
  simp -dsimp [x_porismkeep_Decl, cDe, cT, cBl, eSos, eCos]
  by_cases g1 : a1 = c1
  case neg => simp -dsimp [g1]
  simp -dsimp [g1]
  refine call_of h1 ?_
  cases g2 : eqT a2 c2
  case false => simp -dsimp [g1]
  simp -dsimp [g1]
  refine call_of h2 ?_
  cases g3 : eqT a3 c3
  case false => simp -dsimp [g1]
  simp -dsimp [g1]
  refine call_of h3 ?_
  simp -dsimp [g1]
theorem keepDecls2_ok (l m : List De) : Pure Try.prog n_porismkeep_Decls [eDes l, eDes m] [.bool (eqX l m)] := by
  refine p_porismkeep_Decls rfl fun hs => ?_
  have hl := hs (eDes l) (by simp)
  simp [eDes, small] at hl
  replace hl := hl.1
  simp -dsimp [x_porismkeep_Decls, eDes]
  (first | refine Ask_b ?_ ?_ | refine Cnd_b ?_ ?_) <;> intro g1 <;> (try simp only [nrm] at g1) <;> simp -dsimp [g1]
  · exact (eqX_not l m).2 fun h => g1 (by rw [h])
  replace g1 : l.length = m.length := by omega
  refine wp_upto l.length (fun i st => st.s 0 = .d (.sl 10 (l.map eDe)) ∧ st.s 1 = .d (.sl 10 (m.map eDe)) ∧ st.s 5 = .d (.int .i64 i) ∧ l.take i = m.take i) ?_ ?_
  · simp -dsimp
  · rintro i ⟨s, hp⟩ hi ⟨e1, e2, e3, e4⟩
    dsimp only at e1 e2 e3
    rcases Nat.lt_or_ge i l.length with hlt | hge
    · have w1 : IntKind.i64.wrap ((i : Int) + 1) = (i : Int) + 1 := wrap_id (by omega) (by omega)
      have hlt2 : i < m.length := by omega
      have hI := keepDecl2_ok l[i] m[i]
      simp only [cDe, cT, eTs, cBl, eSos, eCos, eArs, List.cons_append, List.nil_append] at hI
      simp -dsimp [e1, e2, e3, hlt, hlt2, w1, eDe, cDe, cT, eTs, cBl, eSos, eCos]
      refine call_of hI ?_
      cases he : eqX l[i] m[i]
      · have hne := (eqX_not _ _).1 he
        simp -dsimp [e1, e2, e3, hlt, hlt2, w1, he]
        refine (eqX_not l m).2 fun h => hne ?_
        simp [h]
      · have hee := (eqX_iff _ _).1 he
        simp -dsimp [e1, e2, e3, hlt, hlt2, w1, he]
        exact take_eq_next hlt hlt2 e4 hee
    · have e : i = l.length := by omega
      subst e
      rw [List.take_length, g1, List.take_length] at e4
      simp -dsimp [e1, e2, e3, e4]
      exact (eqX_iff m m).2 rfl
end
section
attribute [local simp] allD_map_d sks_map_d tk tn tks initA EndsM
theorem putE_cases {bw : Bl → List (List Int)} {l : List De} (h : ¬ putE bw l = 0) : putL bw l = [] := by
  rw [putE] at h
  rw [putL]
  split
  · rfl
  · rename_i h1
    rw [if_neg h1] at h
    split
    · rfl
    · rename_i h2
      rw [if_neg h2] at h
      split
      · rfl
      · rename_i h3
        rw [if_neg h3] at h
        exact (h rfl).elim
theorem putE_zero {bw : Bl → List (List Int)} {l : List De} (h : putE bw l = 0) : l.length ≤ 60 ∧ badD l = false ∧ (putW bw l).length ≤ 65536 ∧ putL bw l = putW bw l := by
  rw [putE] at h
  rw [putL]
  split at h
  · omega
  · rename_i h1
    rw [if_neg h1]
    split at h
    · omega
    · rename_i h2
      rw [if_neg h2]
      split at h
      · omega
      · rename_i h3
        rw [if_neg h3]
        exact ⟨by omega, by simpa using h2, by omega, rfl⟩
end
section
attribute [local simp] allD_map_d sks_map_d tk tn tks initA EndsM
theorem twinBytes_own2 (l : List Int) (hl : l.length ≤ 2000000000) : OwnC Try.prog n_porismkeep_TwinBytes [eB l] [.one (.row 1 (l.map (.int .u8)) false)] := by
  refine own_small hm Try.func13 c_porismkeep_TwinBytes rfl fun hs => ?_
  have hr : l.length ≤ maxRoom := by simp only [maxRoom]; omega
  simp -dsimp [x_porismkeep_TwinBytes, eB, hr]
theorem arg_byte {x : D} (h : TypD Try.prog 5 x) : ∃ i, x = .int .u8 i ∧ 0 ≤ i ∧ i < 256 := by
  obtain ⟨⟨n, h1⟩, h2⟩ := h
  have h3 : isStructB Try.prog 5 = false := by simp only [isStructB, Try.underlying5]
  rw [not_agg (h2.trans h3)] at h1
  obtain ⟨i, hi, hr⟩ := typ_u8 h1
  exact ⟨i, by simpa using hi, hr⟩
theorem getBad_ok (b : List Int) (hB : byteL b) (h : getOk b = false) : Pure Try.prog n_pile_Get [eB b] [eDes [], .int .i64 3] := by
  have := getF_ok b hB
  rw [h] at this
  simpa using this
def byteLL (ws : List (List Int)) : Prop := ∀ w ∈ ws, byteL w
theorem byteLL_flat {ws : List (List Int)} (h : byteLL ws) : byteL ws.flatten := fun x hx => by
  obtain ⟨w, hw, hxw⟩ := List.mem_flatten.1 hx
  exact h w hw x hxw
theorem byteLL_app {a c : List (List Int)} (h : byteLL a) (k : byteLL c) : byteLL (a ++ c) := fun w hw => by
  rcases List.mem_append.1 hw with hw | hw
  · exact h w hw
  · exact k w hw
theorem byteLL_rep {α : Type} {f : α → List (List Int)} (h : ∀ x, byteLL (f x)) (l : List α) : byteLL (l.map f).flatten := fun w hw => by
  obtain ⟨q, hq, hwq⟩ := List.mem_flatten.1 hw
  obtain ⟨x, _, rfl⟩ := List.mem_map.1 hq
  exact h x w hwq
theorem byteLL_one {w : List Int} (h : byteL w) : byteLL [w] := fun x hx => by simp at hx; subst hx; exact h
theorem byte_u8 (n : Int) : byteL [u8 n] := fun x hx => by simp at hx; subst hx; exact u8_rng n
theorem byte_fl (is : Bool) : byteL [fl is] := fun x hx => by simp at hx; subst hx; cases is <;> simp [fl]
theorem byte_pkO (t : T) : byteL (pkO t) := by
  rw [pkO]
  split
  · intro x hx; simp at hx; subst hx; omega
  · exact pk_byte t
theorem byte_row (l : List T) : byteLL (rowW l) := byteLL_app (a := [[u8 l.length]]) (byteLL_one (byte_u8 _)) (byteLL_rep (fun t => byteLL_one (byte_pkO t)) l)
theorem byte_arg (a : Ar) : byteLL (argW a) := byteLL_app (byteLL_app (byteLL_app (byteLL_app (byteLL_one (byte_fl _)) (byteLL_one (byte_pkO _))) (byte_row _)) (byteLL_one (byte_u8 _))) (byte_row _)
theorem byte_args (l : List Ar) : byteLL (argsW l) := byteLL_app (a := [[u8 l.length]]) (byteLL_one (byte_u8 _)) (byteLL_rep byte_arg l)
theorem byte_so (x : So) : byteLL (soW x) := byteLL_app (byteLL_app (byteLL_app (byte_args _) (byteLL_one (byte_u8 _))) (byteLL_one (byte_fl _))) (byteLL_one (byte_pkO _))
theorem byte_co (x : Co) : byteLL (coW x) := byteLL_app (byteLL_app (byteLL_app (byteLL_one (byte_u8 _)) (byte_args _)) (byte_row _)) (byteLL_one (byte_pkO _))
theorem byte_blk (x : Bl) : byteLL (blkW x) := byteLL_app (byteLL_app (byteLL_app (byteLL_app (byteLL_one (byte_u8 _)) (byteLL_rep byte_so _)) (byteLL_one (byte_u8 _))) (byteLL_rep byte_co _)) (byteLL_one (byte_u8 _))
theorem byte_decl (d : De) : byteLL (declW blkW d) := by
  rw [declW]
  by_cases k1 : d.kind = 1
  · rw [if_pos k1]
    exact byteLL_app (a := [[u8 d.kind]]) (byteLL_one (byte_u8 _)) (byteLL_one (byte_pkO _))
  · rw [if_neg k1]
    by_cases k2 : d.kind = 2
    · rw [if_pos k2]
      exact byteLL_app (a := [[u8 d.kind]]) (byteLL_one (byte_u8 _)) (byteLL_app (a := [pkO d.ty]) (byteLL_one (byte_pkO _)) (byteLL_one (byte_pkO _)))
    · rw [if_neg k2]
      exact byteLL_app (a := [[u8 d.kind]]) (byteLL_one (byte_u8 _)) (byte_blk _)
theorem byte_put (l : List De) : byteL (putW blkW l) := by
  have := byteLL_flat (byteLL_app (a := [[u8 l.length]]) (byteLL_one (byte_u8 _)) (byteLL_rep byte_decl l))
  simpa [putW] using this
theorem put_facts {l : List De} (hb : bulk (eDes l) ≤ 1048576) (h : putE blkW l = 0) : (∀ d ∈ l, okRD d) ∧ l.length ≤ 60 ∧ (putW blkW l).length ≤ 65536 ∧ 1 ≤ (putW blkW l).length ∧ putL blkW l = putW blkW l := by
  obtain ⟨h1, h2, h3, h4⟩ := putE_zero h
  refine ⟨fun d hd => okRD_of ?_ ?_, h1, h3, by rw [putW]; simp, h4⟩
  · have hm := mem_sum3 (List.mem_map.2 ⟨d, hd, rfl⟩ : eDe d ∈ l.map eDe)
    simp only [eDes, bulk] at hb
    omega
  · rw [badD, List.any_eq_false] at h2
    have := h2 d hd
    simpa using this
theorem put_inj {l k : List De} (hl : l.length ≤ 60) (ol : ∀ d ∈ l, okRD d) (hk : k.length ≤ 60) (ok : ∀ d ∈ k, okRD d) (hb : (putW blkW l).length ≤ 65536) (h : putW blkW l = putW blkW k) : l = k := by
  have h1 := get_cpl (rest := []) hl ol (by simp; omega)
  have h2 := get_cpl (rest := []) hk ok (by simp; rw [← h]; omega)
  rw [List.append_nil] at h1 h2
  rw [h, h2] at h1
  exact (Prod.mk.inj h1).1.symm
theorem cut_bad {l : List De} (hl : l.length ≤ 60) (ol : ∀ d ∈ l, okRD d) (hb : (putW blkW l).length ≤ 65536) {j : Nat} (hj : j < (putW blkW l).length) : getOk ((putW blkW l).take j) = false := by
  cases h : getOk ((putW blkW l).take j)
  · rfl
  · have hlen : ((putW blkW l).take j).length = j := by rw [List.length_take]; omega
    obtain ⟨s1, s2, s3⟩ := get_snd (fun x hx => byte_put l x (List.mem_of_mem_take hx)) (by omega) h
    generalize (getR ((putW blkW l).take j)).1 = m at *
    have e : putW blkW m ++ (putW blkW l).drop j = putW blkW l := by rw [← s1, List.take_append_drop]
    have h1 := get_cpl (rest := []) hl ol (by simp; omega)
    have h2 := get_cpl (rest := (putW blkW l).drop j) s2 s3 (by rw [e]; omega)
    rw [List.append_nil] at h1
    rw [e, h1] at h2
    have h3 := congrArg Rd.p (Prod.mk.inj h2).2
    simp only at h3
    rw [← s1, hlen] at h3
    omega
theorem more_bad {l : List De} (hl : l.length ≤ 60) (ol : ∀ d ∈ l, okRD d) (hb : (putW blkW l).length ≤ 65536) (m : Int) : getOk (putW blkW l ++ [m]) = false := by
  have h1 := get_cpl (rest := [m]) hl ol (by simp; omega)
  rw [getOk, h1]
  simp
set_option maxHeartbeats 8000000 in
theorem unlike_law (l k : List De) (cut more : Int) (hm0 : 0 ≤ more ∧ more < 256) (hb : bulk (eDes l) ≤ 1048576) (hb2 : bulk (eDes k) ≤ 1048576) : Pure Try.prog n_porismlaw22_PileUnlike [eDes l, eDes k, .int .i64 cut, .int .u8 more] [.bool true] := by
  refine p_porismlaw22_PileUnlike rfl fun hs => ?_
  have hH := heavy22_ok l
  have hH2 := heavy22_ok k
  have hP := putB_ok l hb
  have hP2 := putB_ok k hb2
  simp only [eDes, eB] at hH hP hH2 hP2
  simp -dsimp [x_porismlaw22_PileUnlike, eDes]
  refine call_of hH ?_
  cases g1 : heavy22 l
  case true => simp -dsimp
  simp -dsimp
  refine call_of hH2 ?_
  cases g2 : heavy22 k
  case true => simp -dsimp
  simp -dsimp
  refine call_of hP ?_
  simp -dsimp
  refine call_of hP2 ?_
  by_cases E1 : putE blkW l = 0
  case neg =>
    rw [putE_cases E1]
    by_cases E2 : putE blkW k = 0
    · simp -dsimp [E1, E2]
      refine call_of wakes22_ok ?_
      simp -dsimp
    · rw [putE_cases E2]
      simp -dsimp [E1, E2]
      refine call_of wakes22_ok ?_
      simp -dsimp
  by_cases E2 : putE blkW k = 0
  case neg =>
    rw [putE_cases E2]
    simp -dsimp [E1, E2]
    refine call_of wakes22_ok ?_
    simp -dsimp
  obtain ⟨ol, hl60, hA, hA1, hLl⟩ := put_facts hb E1
  obtain ⟨ok, hk60, hB, hB1, hLk⟩ := put_facts hb2 E2
  rw [hLl, hLk]
  have hKB := keepBytes_ok (putW blkW l) (putW blkW k)
  have hKD := keepDecls2_ok l k
  have hEq : eqX l k = decide (putW blkW l = putW blkW k) := by
    rw [Bool.eq_iff_iff, eqX_iff, decide_eq_true_eq]
    exact ⟨fun h => by rw [h], fun h => put_inj hl60 ol hk60 ok hA h⟩
  rw [hEq] at hKD
  obtain ⟨j, hj, hjc⟩ : ∃ j : Nat, j < (putW blkW l).length ∧ IntKind.u64.wrap cut % ((putW blkW l).length : Int) = (j : Int) := by
    have h1 := Int.emod_nonneg (IntKind.u64.wrap cut) (b := ((putW blkW l).length : Int)) (by omega)
    have h2 := Int.emod_lt_of_pos (IntKind.u64.wrap cut) (b := ((putW blkW l).length : Int)) (by omega)
    exact ⟨(IntKind.u64.wrap cut % ((putW blkW l).length : Int)).toNat, by omega, by omega⟩
  have hjt : (IntKind.u64.wrap cut).tmod ((putW blkW l).length : Int) = (j : Int) := by rw [Int.tmod_eq_emod_of_nonneg (by simp [IntKind.wrap, IntKind.bits, IntKind.signed]; omega)]; exact hjc
  have hG1 := getBad_ok ((putW blkW l).take j) (fun x hx => byte_put l x (List.mem_of_mem_take hx)) (cut_bad hl60 ol hA hj)
  have hG2 := getBad_ok (putW blkW l ++ [more]) (fun x hx => by
    rcases List.mem_append.1 hx with h | h
    · exact byte_put l x h
    · simp at h; subst h; exact hm0) (more_bad hl60 ol hA more)
  have hTw := twinBytes_own2 (putW blkW l) (by omega)
  generalize putW blkW l = A at *
  generalize putW blkW k = B at *
  clear hP hP2 hLl hLk
  have a0 : ¬ ((A.length : Int) = 0) := by omega
  have a0' : ¬ (A.length = 0) := by omega
  have a0'' : ¬ (A = []) := fun h => a0' (by rw [h]; rfl)
  have wl : IntKind.u64.wrap (A.length : Int) = A.length := u64_id (by omega) (by omega)
  have wj : IntKind.i64.wrap (j : Int) = j := wrap_id (by omega) (by omega)
  have w0 : IntKind.i64.wrap 0 = 0 := rfl
  have hjl : (j : Int) ≤ A.length := by omega
  have hr : A.length + 1 ≤ maxRoom := by simp only [maxRoom]; omega
  simp only [eDes, eB, List.map_append, List.map_take, List.map_cons, List.map_nil] at hKB hKD hG1 hG2 hTw
  simp -dsimp [E1, E2, a0, a0', a0'']
  refine call_of hKB ?_
  simp -dsimp [a0, a0', a0'']
  refine call_of hKD ?_
  cases hd : decide (A = B)
  all_goals
    simp -dsimp [a0, a0', a0'', wl, hjt, wj, hjl, hd]
    refine call_of hG1 ?_
    simp -dsimp
    refine callO_of hTw (by simp [rowsV, rowsC, RV.cells]) ?_
    simp -dsimp [hr]
    refine call_of hG2 ?_
    simp -dsimp [w0]
    refine call_of wakes22_ok ?_
    simp -dsimp
end
end Ev
end Go.Proofs.Ytgiejcndcbanjaa
