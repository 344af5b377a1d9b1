/- disp: displayed telescopes; what stands where, terms put. -/
import Derived.Test.YtjebpfhffenbnaaGreatO6
import Derived.Test.YtjebpfhffenbnaaGreatH5
import Derived.Test.YtjebpfhffenbnaaGreatXe
namespace Go.Proofs.YtjebpfhffenbnaaGreat
namespace Ev
open Go
set_option maxRecDepth 100000
set_option linter.unusedSimpArgs false
set_option linter.unusedVariables false
section
attribute [local simp] allD_map_d sks_map_d tk tn tks initA EndsM one_sos one_cos one_ars one_ts
structure Vw where
  b : Bl
  base : Int
  args : List Ar
  pos : List Int
  fin : Int
def cVw (v : Vw) : List D := cBl v.b ++ [.int .i64 v.base, eArs v.args, .sl 1 (v.pos.map (.int .i64)), .int .i64 v.fin]
def posL : Int → List Ar → List Int
  | _, [] => []
  | e, a :: l => e :: posL (if a.rc then e + 2 else e + 1) l
def finL : Int → List Ar → Int
  | e, [] => e
  | e, a :: l => finL (if a.rc then e + 2 else e + 1) l
theorem fin_snoc : ∀ (l : List Ar) (e : Int) (i : Nat) (h : i < l.length), finL e (l.take (i + 1)) = if l[i].rc then finL e (l.take i) + 2 else finL e (l.take i) + 1
  | a :: l, e, 0, h => by simp [finL]
  | a :: l, e, i + 1, h => by
    simp only [List.take_succ_cons, finL, List.getElem_cons_succ]
    exact fin_snoc l _ i (by simpa using h)
theorem pos_snoc : ∀ (l : List Ar) (e : Int) (i : Nat) (_ : i < l.length), posL e (l.take (i + 1)) = posL e (l.take i) ++ [finL e (l.take i)]
  | a :: l, e, 0, h => by simp [posL, finL]
  | a :: l, e, i + 1, h => by
    simp only [List.take_succ_cons, posL, finL, List.cons_append]
    rw [pos_snoc l _ i (by simpa using h)]
theorem pos_len : ∀ (l : List Ar) (e : Int), (posL e l).length = l.length
  | [], e => rfl
  | a :: l, e => by rw [posL, List.length_cons, pos_len l, List.length_cons]
theorem fin_le : ∀ (l : List Ar) (e : Int), e ≤ finL e l ∧ finL e l ≤ e + 2 * l.length
  | [], e => by simp [finL]
  | a :: l, e => by
    have h := fin_le l (if a.rc then e + 2 else e + 1)
    rw [finL]
    simp only [List.length_cons]
    split <;> rename_i hr <;> simp only [hr, if_true, if_false, Bool.false_eq_true] at h <;> omega
theorem pos_at : ∀ (l : List Ar) (e : Int) (i : Nat) (h : i < (posL e l).length), (posL e l)[i] = finL e (l.take i)
  | a :: l, e, 0, h => by simp [posL, finL]
  | a :: l, e, i + 1, h => by
    simp only [posL, List.getElem_cons_succ, List.take_succ_cons, finL]
    exact pos_at l _ i _
theorem show_ok (b : Bl) (base from_ : Int) (l : List Ar) (hl : l.length ≤ 20) (h0 : 0 ≤ from_) (h1 : from_ ≤ 1000) : Pure Tryz.prog n_disp_show [eBl b, .int .i64 base, eArs l, .int .i64 from_] [.rp (cVw ⟨b, base, l, posL from_ l, finL from_ l⟩)] := by
  refine p_disp_show rfl fun hs => ?_
  simp -dsimp [x_disp_show, eBl, cBl, eArs, cVw]
  refine wp_upto l.length (fun i st => st.s 18 = .d (eArs l) ∧ st.s 19 = .d (.int .i64 l.length) ∧ st.s 20 = .d (.int .i64 i) ∧ st.s 9 = .ptr 17 1 0 ∧ ∃ c, st.h 17 = ⟨1, .box [.d (eSos b.sorts), .d (eCos b.cons), .d (.int .i64 b.elim), .d (.int .i64 base), .d (eArs l), c, .d (.int .i64 (finL from_ (l.take i)))] false⟩ ∧
    ((i = 0 ∧ c = .fsl 1 []) ∨ (0 < i ∧ ∃ v, c = .rsl 34 v ∧ st.h 34 = ⟨v, .row 1 ((posL from_ (l.take i)).map (.int .i64)) false⟩))) ?_ ?_
  · simp -dsimp [eArs, finL]
  · rintro i ⟨s, hp⟩ hi ⟨g18, g19, g20, g9, c, k17, k34⟩
    dsimp only at g18 g19 g20 g9 k17 k34
    simp only [eArs] at g18 k17
    rcases Nat.lt_or_ge i l.length with hlt | hge
    · have w1 : IntKind.i64.wrap ((i : Int) + 1) = (i : Int) + 1 := wrap_id (by omega) (by omega)
      have hfl := fin_le (l.take i) from_
      rw [List.length_take] at hfl
      have hfs := fin_snoc l from_ i hlt
      have hps := pos_snoc l from_ i hlt
      have hpl := pos_len (l.take i) from_
      rw [List.length_take] at hpl
      generalize finL from_ (l.take (i + 1)) = F' at *
      generalize finL from_ (l.take i) = F at *
      generalize posL from_ (l.take (i + 1)) = P' at *
      generalize posL from_ (l.take i) = P at *
      subst hps
      generalize hR : l[i] = R at *
      have w2 : IntKind.i64.wrap (F + 1) = F + 1 := wrap_id (by omega) (by omega)
      have w3 : IntKind.i64.wrap (F + 1 + 1) = F + 2 := by rw [wrap_id (by omega) (by omega)]; omega
      have hr : (P.length + 1) * 8 ≤ maxRoom := by simp only [maxRoom]; omega
      have hP0 : i = 0 → P = [] := fun h => List.length_eq_zero_iff.1 (by omega)
      rcases k34 with ⟨rfl, rfl⟩ | ⟨hi0, v, rfl, k34⟩
      · have hPn := hP0 rfl
        subst hPn
        have w1' : IntKind.i64.wrap 1 = 1 := by rfl
        cases hrc : R.rc with
        | true =>
          rw [hrc, if_pos rfl] at hfs
          simp -dsimp [g18, g19, g20, g9, k17, hlt, hR, hrc, eAr, cAr, cT, w1', w2, w3, (by decide : 8 ≤ maxRoom), eArs, hfs]
        | false =>
          rw [hrc, if_neg (by simp)] at hfs
          simp -dsimp [g18, g19, g20, g9, k17, hlt, hR, hrc, eAr, cAr, cT, w1', w2, w3, (by decide : 8 ≤ maxRoom), eArs, hfs]
      · cases hrc : R.rc with
        | true =>
          rw [hrc, if_pos rfl] at hfs
          simp -dsimp [g18, g19, g20, g9, k17, k34, hlt, hR, hrc, eAr, cAr, cT, w1, w2, w3, hr, eArs, hfs]
        | false =>
          rw [hrc, if_neg (by simp)] at hfs
          simp -dsimp [g18, g19, g20, g9, k17, k34, hlt, hR, hrc, eAr, cAr, cT, w1, w2, w3, hr, eArs, hfs]
    · have e : i = l.length := by omega
      subst e
      rw [List.take_length] at k17 k34
      rcases k34 with ⟨hz, rfl⟩ | ⟨hi0, v, rfl, k34⟩
      · have hl0 : l = [] := List.length_eq_zero_iff.1 hz
        subst hl0
        simp -dsimp [g18, g19, g20, g9, k17, posL]
      · simp -dsimp [g18, g19, g20, g9, k17, k34]
/-- A level's variable. -/
def lv (l vars : Int) : T := .mk 1 (vars - 1 - l) []
theorem level_ok8 (l vars : Int) (h0 : -1000000 ≤ l) (h1 : l ≤ 1000000) (h2 : -1000000 ≤ vars) (h3 : vars ≤ 1000000) : Pure Tryz.prog n_disp_level [.int .i64 l, .int .i64 vars] [.agg (cT (lv l vars))] := by
  refine p_disp_level rfl fun hs => ?_
  have w1 : IntKind.i64.wrap (vars - 1) = vars - 1 := wrap_id (by omega) (by omega)
  have w2 : IntKind.i64.wrap (vars - 1 - l) = vars - 1 - l := wrap_id (by omega) (by omega)
  have hV := v_ok (vars - 1 - l)
  simp only [cT, tk, tn, tks, List.map_nil] at hV
  simp -dsimp [x_disp_level, w1, w2]
  refine call_of hV ?_
  simp -dsimp [lv, cT]
def putF (pos : List Int) (first : Nat) (more vars n b : Int) : T :=
  if n < more + b ∨ (first : Int) ≤ n - (more + b) then .mk 1 n [] else .mk 1 (vars - 1 - (pos[first - 1 - (n - (more + b)).toNat]?).getD 0 + (more + b)) []
def putT (v : Vw) (t : T) (first : Nat) (more vars : Int) : T := mapT (putF v.pos first more vars) t 0
structure Pos (v : Vw) : Prop where
  len : v.pos.length ≤ 1000
  at_ : ∀ p ∈ v.pos, 0 ≤ p ∧ p ≤ 10000
theorem put1_ok (v : Vw) (hp : Pos v) (first : Nat) (hf : first ≤ v.pos.length) (more vars : Int) (h0 : 0 ≤ more) (h1 : more ≤ 10000) (h2 : 0 ≤ vars) (h3 : vars ≤ 10000) (n b : Int) (hn0 : 0 ≤ n) (hn1 : n ≤ 65535) (hb0 : 0 ≤ b) (hb1 : b ≤ 1099511627776) :
    Pure Tryz.prog n_disp_view_put_1 [.int .i64 n, .int .i64 b, .rp [.int .i64 more], .rp [.int .i64 first], .rp [.rp (cVw v)], .rp [.int .i64 vars]] [.agg (cT (putF v.pos first more vars n b))] := by
  refine p_disp_view_put_1 rfl fun hs => ?_
  have hpl := hp.len
  have w1 : IntKind.i64.wrap (more + b) = more + b := wrap_id (by omega) (by omega)
  have w2 : IntKind.i64.wrap (n - (more + b)) = n - (more + b) := wrap_id (by omega) (by omega)
  have hV1 := v_ok n
  simp only [cT, tk, tn, tks, List.map_nil] at hV1
  simp -dsimp [x_disp_view_put_1, w1]
  by_cases c1 : n < more + b
  · have e : putF v.pos first more vars n b = .mk 1 n [] := by rw [putF, if_pos (.inl c1)]
    rw [e]
    simp -dsimp [c1]
    refine call_of hV1 ?_
    simp -dsimp [cT]
  by_cases c2 : (first : Int) ≤ n - (more + b)
  · have e : putF v.pos first more vars n b = .mk 1 n [] := by rw [putF, if_pos (.inr c2)]
    rw [e]
    simp -dsimp [c1, c2, w2]
    refine call_of hV1 ?_
    simp -dsimp [cT]
  obtain ⟨j, hj⟩ : ∃ j : Nat, (first : Int) - 1 - (n - (more + b)) = j := ⟨((first : Int) - 1 - (n - (more + b))).toNat, by omega⟩
  have hjl : j < v.pos.length := by omega
  have hje : first - 1 - (n - (more + b)).toNat = j := by omega
  have hge : v.pos[j]? = some v.pos[j] := List.getElem?_eq_getElem hjl
  have e : putF v.pos first more vars n b = .mk 1 (vars - 1 - v.pos[j] + (more + b)) [] := by rw [putF, if_neg (by omega), hje, hge]; rfl
  have hpj := hp.at_ _ (List.getElem_mem hjl)
  generalize hP : v.pos[j] = p at *
  rw [e]
  have w3 : IntKind.i64.wrap ((first : Int) - 1) = (first : Int) - 1 := wrap_id (by omega) (by omega)
  have w4 : IntKind.i64.wrap ((first : Int) - 1 - (n - (more + b))) = (j : Int) := by rw [wrap_id (by omega) (by omega), hj]
  have w5 : IntKind.i64.wrap (vars - 1) = vars - 1 := wrap_id (by omega) (by omega)
  have w6 : IntKind.i64.wrap (vars - 1 - p) = vars - 1 - p := wrap_id (by omega) (by omega)
  have w7 : IntKind.i64.wrap (vars - 1 - p + (more + b)) = vars - 1 - p + (more + b) := wrap_id (by omega) (by omega)
  have hV2 := v_ok (vars - 1 - p + (more + b))
  simp only [cT, tk, tn, tks, List.map_nil] at hV2
  simp -dsimp [c1, c2, w2, w3, w4, w5, w6, w7, cVw, cBl, hjl, hge, hP]
  refine call_of hV2 ?_
  simp -dsimp [cT]
theorem put_ok8 (v : Vw) (hp : Pos v) (t : T) (ft : formedM t = true) (hn : nodes t ≤ 1000000) (first : Nat) (hf : first ≤ v.pos.length) (more vars : Int) (h0 : 0 ≤ more) (h1 : more ≤ 10000) (h2 : 0 ≤ vars) (h3 : vars ≤ 10000) :
    Pure Tryz.prog n_disp_view_put [.rp (cVw v), .agg (cT t), .int .i64 first, .int .i64 more, .int .i64 vars] [.agg (cT (putT v t first more vars))] := by
  refine p_disp_view_put rfl fun hs => ?_
  have hM := map_ok (putF v.pos first more vars) n_disp_view_put_1 [.rp [.int .i64 more], .rp [.int .i64 first], .rp [.rp (cVw v)], .rp [.int .i64 vars]] (fun n b hn0 hn1 hb0 hb1 => put1_ok v hp first hf more vars h0 h1 h2 h3 n b hn0 hn1 hb0 hb1) t 0 ft (by omega) (by omega)
  simp only [cVw, cBl, cT, List.cons_append, List.nil_append] at hM
  simp -dsimp [x_disp_view_put, cT, cVw, cBl]
  refine call_of hM ?_
  simp -dsimp [cT, putT]
end
end Ev
end Go.Proofs.YtjebpfhffenbnaaGreat
