/- The document on layer 7. -/
import Derived.Test.YtncmainjcffanaaGreatH1
namespace Go.Proofs.YtncmainjcffanaaGreat
namespace Ev
open Go
set_option maxRecDepth 100000
set_option linter.unusedSimpArgs false
set_option linter.unusedVariables false
section
attribute [local simp] allD_map_d sks_map_d tk tn tks initA EndsM
theorem c_arg : Tryz.prog.cellsOf 30 = 7 := by kernel_rfl
theorem c_args : Tryz.prog.cellsOf 32 = 1 := by kernel_rfl
theorem c_sort : Tryz.prog.cellsOf 46 = 6 := by kernel_rfl
theorem c_con : Tryz.prog.cellsOf 34 = 6 := by kernel_rfl
theorem c_sorts : Tryz.prog.cellsOf 22 = 1 := by kernel_rfl
theorem c_cons : Tryz.prog.cellsOf 23 = 1 := by kernel_rfl
theorem c_block : Tryz.prog.cellsOf 25 = 3 := by kernel_rfl
theorem y_arg : Tryz.prog.bytesOf 30 = 104 := by kernel_rfl
theorem y_sort : Tryz.prog.bytesOf 46 = 80 := by kernel_rfl
theorem y_con : Tryz.prog.bytesOf 34 = 96 := by kernel_rfl
theorem is_arg : isStructB Tryz.prog 30 = true := by simp only [isStructB, Tryz.underlying30]
theorem is_sort : isStructB Tryz.prog 46 = true := by simp only [isStructB, Tryz.underlying46]
theorem is_con : isStructB Tryz.prog 34 = true := by simp only [isStructB, Tryz.underlying34]
theorem is_block : isStructB Tryz.prog 25 = true := by simp only [isStructB, Tryz.underlying25]
structure okAr (a : Ar) : Prop where
  ty : okT a.ty
  dom : okTs a.dom
  sort : n64 a.sort
  idx : okTs a.idx
def okArs (l : List Ar) : Prop := l.length * 104 ≤ 140737488351232 ∧ ∀ x ∈ l, okAr x
structure okSo (s : So) : Prop where
  idx : okArs s.idx
  level : n64 s.level
  dty : okT s.dty
structure okCo (c : Co) : Prop where
  sort : n64 c.sort
  args : okArs c.args
  idx : okTs c.idx
  dec : okT c.dec
structure okBl (b : Bl) : Prop where
  sortsL : b.sorts.length * 80 ≤ 140737488351232
  sorts : ∀ x ∈ b.sorts, okSo x
  consL : b.cons.length * 96 ≤ 140737488351232
  cons : ∀ x ∈ b.cons, okCo x
  elim : n64 b.elim
theorem len6 {xs : List D} (h : xs.length = 6) : ∃ a b c d e f, xs = [a, b, c, d, e, f] := by
  match xs, h with
  | [a, b, c, d, e, f], _ => exact ⟨a, b, c, d, e, f, rfl⟩
theorem len7 {xs : List D} (h : xs.length = 7) : ∃ a b c d e f g, xs = [a, b, c, d, e, f, g] := by
  match xs, h with
  | [a, b, c, d, e, f, g], _ => exact ⟨a, b, c, d, e, f, g, rfl⟩
theorem typ_arg {n : Nat} {cs : List D} (h : typ Tryz.prog n 30 cs) : ∃ a : Ar, cs = cAr a ∧ okAr a := by
  cases n with
  | zero => exact h.elim
  | succ n =>
    simp only [typ, Tryz.underlying30, c_arg, c_int, c_bool, c_term, c_terms, List.forall_mem_cons] at h
    obtain ⟨hl, h1, h2, h3, h4, h5, _⟩ := h
    obtain ⟨a, b, c, d, e, f, g, rfl⟩ := len7 hl
    obtain ⟨r, hr⟩ := typ_bool h1
    obtain ⟨t, ht, q1⟩ := typ_term _ h2
    obtain ⟨ds, hd, q2⟩ := typ_terms h3
    obtain ⟨i, hi, q3⟩ := typ_int h4
    obtain ⟨js, hj, q4⟩ := typ_terms h5
    simp at hr ht hd hi hj
    refine ⟨⟨r, t, ds, i, js⟩, ?_, ⟨q1, q2, q3, q4⟩⟩
    simp [cAr, ← ht, hr, hd, hi, hj]
theorem typ_args {n : Nat} {cs : List D} (h : typ Tryz.prog n 32 cs) : ∃ l : List Ar, cs = [eArs l] ∧ okArs l := by
  obtain ⟨m, xs, rfl, hc, hb, hx⟩ := typ_slice Tryz.underlying32 c_arg y_arg is_arg h
  obtain ⟨ks, rfl, hks⟩ : ∃ l : List Ar, xs = l.map eAr ∧ ∀ a ∈ l, okAr a := map_of fun x hxx => by
    obtain ⟨h4, h5⟩ := hx x hxx
    obtain ⟨t, ht, hq⟩ := typ_arg h4
    exact ⟨t, hq, by rw [h5, ht]; rfl⟩
  exact ⟨ks, hc, by simpa using hb, hks⟩
theorem typ_sort {n : Nat} {cs : List D} (h : typ Tryz.prog n 46 cs) : ∃ a : So, cs = cSo a ∧ okSo a := by
  cases n with
  | zero => exact h.elim
  | succ n =>
    simp only [typ, Tryz.underlying46, c_sort, c_int, c_bool, c_term, c_args, List.forall_mem_cons] at h
    obtain ⟨hl, h1, h2, h3, h4, _⟩ := h
    obtain ⟨a, b, c, d, e, f, rfl⟩ := len6 hl
    obtain ⟨l, hq, q1⟩ := typ_args h1
    obtain ⟨i, hi, q2⟩ := typ_int h2
    obtain ⟨r, hr⟩ := typ_bool h3
    obtain ⟨t, ht, q3⟩ := typ_term _ h4
    simp at hr ht hi hq
    refine ⟨⟨l, i, r, t⟩, ?_, ⟨q1, q2, q3⟩⟩
    simp [cSo, ← ht, hr, hi, hq]
theorem typ_con {n : Nat} {cs : List D} (h : typ Tryz.prog n 34 cs) : ∃ a : Co, cs = cCo a ∧ okCo a := by
  cases n with
  | zero => exact h.elim
  | succ n =>
    simp only [typ, Tryz.underlying34, c_con, c_int, c_args, c_term, c_terms, List.forall_mem_cons] at h
    obtain ⟨hl, h1, h2, h3, h4, _⟩ := h
    obtain ⟨a, b, c, d, e, f, rfl⟩ := len6 hl
    obtain ⟨i, hi, q1⟩ := typ_int h1
    obtain ⟨l, hq, q2⟩ := typ_args h2
    obtain ⟨js, hj, q3⟩ := typ_terms h3
    obtain ⟨t, ht, q4⟩ := typ_term _ h4
    simp at ht hi hq hj
    refine ⟨⟨i, l, js, t⟩, ?_, ⟨q1, q2, q3, q4⟩⟩
    simp [cCo, ← ht, hi, hq, hj]
theorem typ_block {n : Nat} {cs : List D} (h : typ Tryz.prog n 25 cs) : ∃ b : Bl, cs = cBl b ∧ okBl b := by
  cases n with
  | zero => exact h.elim
  | succ n =>
    simp only [typ, Tryz.underlying25, c_block, c_int, c_sorts, c_cons, List.forall_mem_cons] at h
    obtain ⟨hl, h1, h2, h3, _⟩ := h
    obtain ⟨a, b, c, rfl⟩ := len3 hl
    obtain ⟨m, xs, rfl, hc, hb, hx⟩ := typ_slice Tryz.underlying22 c_sort y_sort is_sort h1
    obtain ⟨m', ys, _, hd, hb', hy⟩ := typ_slice Tryz.underlying23 c_con y_con is_con h2
    obtain ⟨i, hi, q1⟩ := typ_int h3
    obtain ⟨ss, rfl, q2⟩ : ∃ l : List So, xs = l.map eSo ∧ ∀ a ∈ l, okSo a := map_of fun x hxx => by
      obtain ⟨h4, h5⟩ := hx x hxx
      obtain ⟨t, ht, hq⟩ := typ_sort h4
      exact ⟨t, hq, by rw [h5, ht]; rfl⟩
    obtain ⟨ks, rfl, q3⟩ : ∃ l : List Co, ys = l.map eCo ∧ ∀ a ∈ l, okCo a := map_of fun x hxx => by
      obtain ⟨h4, h5⟩ := hy x hxx
      obtain ⟨t, ht, hq⟩ := typ_con h4
      exact ⟨t, hq, by rw [h5, ht]; rfl⟩
    simp at hc hd hi
    refine ⟨⟨ss, ks, i⟩, ?_, ⟨by simpa using hb, q2, by simpa using hb', q3, q1⟩⟩
    simp [cBl, hc, hd, hi, eSos, eCos]
theorem arg_block {x : D} (h : TypD Tryz.prog 25 x) : ∃ b : Bl, x = eBl b ∧ okBl b := by
  obtain ⟨⟨n, h1⟩, h2⟩ := h
  obtain ⟨b, hb, hq⟩ := typ_block h1
  exact ⟨b, by rw [agg_of (h2.trans is_block), hb]; rfl, hq⟩
end
section
attribute [local simp] allD_map_d sks_map_d tk tn tks initA EndsM
theorem twinArgs_own (l : List Ar) (h : okArs l) : OwnC Tryz.prog n_porismkeep_TwinArgs [eArs l] [.one (.row 7 (l.map eAr) false)] := by
  refine o_porismkeep_TwinArgs rfl fun hs => ?_
  have hl := h.1
  simp -dsimp [x_porismkeep_TwinArgs, eArs]
  refine wp_upto l.length (fun i st => st.s 0 = .d (.sl 7 (l.map eAr)) ∧ st.s 4 = .d (.int .i64 i) ∧ ∃ v, st.s 3 = .rsl 3 v ∧ st.h 3 = ⟨v, .row 7 ((l.map eAr).take i) false⟩) ?_ ?_
  · simp -dsimp
  · rintro i ⟨s, hp⟩ hi ⟨g1, g2, v, g3, g4⟩
    dsimp only at g1 g2 g3 g4
    rcases Nat.lt_or_ge i l.length with hlt | hge
    · have w1 : IntKind.i64.wrap ((i : Int) + 1) = (i : Int) + 1 := wrap_id (by omega) (by omega)
      have ho := h.2 l[i] (List.getElem_mem _)
      simp -dsimp [g1, g2, g3, g4, hlt, cT, eAr, cAr, eTs]
      refine call_of (twin_ok l[i].ty ho.ty) ?_
      simp -dsimp [g1, g2, g3, g4, hlt, cT, eAr, cAr, eTs]
      refine call_of (twins_ok l[i].dom ho.dom) ?_
      simp -dsimp [g1, g2, g3, g4, hlt, cT, eAr, cAr, eTs]
      refine call_of (twins_ok l[i].idx ho.idx) ?_
      have hr : (min i l.length + 1) * 104 ≤ maxRoom := by simp only [maxRoom]; omega
      have hn := take_next eAr cAr (fun _ => rfl) l i hlt
      simp only [cAr, cT, List.cons_append, List.nil_append, eTs] at hn
      simp -dsimp [g1, g2, g3, g4, hlt, cT, hr, hn, w1, eTs]
    · have e : i = l.length := by omega
      subst e
      simp -dsimp [g1, g2, g3, g4]
      exact List.take_of_length_le (by simp)
theorem twinArgs_ok (l : List Ar) (h : okArs l) : Pure Tryz.prog n_porismkeep_TwinArgs [eArs l] [eArs l] := (twinArgs_own l h).pure
theorem twinCon_ok (c : Co) (h : okCo c) : Pure Tryz.prog n_porismkeep_TwinCon [.agg (cCo c)] [.agg (cCo c)] := by
  refine p_porismkeep_TwinCon rfl fun hs => ?_
  simp -dsimp [x_porismkeep_TwinCon, cCo, cT, eArs, eTs]
  refine call_of (twinArgs_ok c.args h.args) ?_
  simp -dsimp [eArs, eTs]
  refine call_of (twins_ok c.idx h.idx) ?_
  simp -dsimp [eArs, eTs]
  refine call_of (twin_ok c.dec h.dec) ?_
  simp -dsimp [eArs, eTs, cT]
def rcS (l : List So) : RC := if l = [] then .d (.sl 6 []) else .row 6 (l.map eSo) false
def rcK (l : List Co) : RC := if l = [] then .d (.sl 6 []) else .row 6 (l.map eCo) false
theorem twinBlock_own (b : Bl) (h : okBl b) : OwnC Tryz.prog n_porismkeep_TwinBlock [eBl b] [.agg [rcS b.sorts, rcK b.cons, .d (.int .i64 b.elim)]] := by
  refine o_porismkeep_TwinBlock rfl fun hs => ?_
  have hl := h.sortsL
  have hl2 := h.consL
  simp -dsimp [x_porismkeep_TwinBlock, eBl, cBl, eSos, eCos]
  refine wp_upto b.sorts.length (fun i st => st.s 1 = .ptr 1 1 0 ∧ st.h 1 = ⟨1, .box [.d (.sl 6 (b.sorts.map eSo)), .d (.sl 6 (b.cons.map eCo)), .d (.int .i64 b.elim)] false⟩ ∧
    st.s 2 = .ptr 2 1 0 ∧ st.h 2 = ⟨1, .box [.fsl 6 [], .fsl 6 [], .d (.int .i64 0)] false⟩ ∧ st.s 4 = .d (.int .i64 i) ∧
    st.s 3 = .ptr 3 1 0 ∧ ∃ c, st.h 3 = ⟨1, .box [c, .fsl 6 [], .d (.int .i64 b.elim)] false⟩ ∧ ((i = 0 ∧ c = .fsl 6 []) ∨ (0 < i ∧ ∃ v, c = .rsl 34 v ∧ st.h 34 = ⟨v, .row 6 ((b.sorts.map eSo).take i) false⟩))) ?_ ?_
  · simp -dsimp
  · rintro i ⟨s, hp⟩ hi ⟨g1, g2, g3, g4, g5, g6, c, g7, g8⟩
    dsimp only at g1 g2 g3 g4 g5 g6 g7 g8
    rcases Nat.lt_or_ge i b.sorts.length with hlt | hge
    · have w1 : IntKind.i64.wrap ((i : Int) + 1) = (i : Int) + 1 := wrap_id (by omega) (by omega)
      have ho := h.sorts b.sorts[i] (List.getElem_mem _)
      simp -dsimp [g1, g2, g3, g4, g5, g6, g7, hlt, cT, eSo, cSo, eArs]
      refine call_of (twinArgs_ok b.sorts[i].idx ho.idx) ?_
      simp -dsimp [g1, g2, g3, g4, g5, g6, g7, hlt, cT, eSo, cSo, eArs]
      refine call_of (twin_ok b.sorts[i].dty ho.dty) ?_
      have hr : (min i b.sorts.length + 1) * 80 ≤ maxRoom := by simp only [maxRoom]; omega
      have hn := take_next eSo cSo (fun _ => rfl) b.sorts i hlt
      simp only [cSo, cT, List.cons_append, List.nil_append, eArs] at hn
      rcases g8 with ⟨rfl, rfl⟩ | ⟨hi0, v, rfl, g8⟩
      · have h80 : min 1 b.sorts.length * 80 ≤ maxRoom := by simp only [maxRoom]; omega
        have hne : ¬ b.sorts = [] := List.ne_nil_of_length_pos hlt
        simp only [List.take_zero, List.nil_append, Nat.zero_add] at hn
        simp at hlt hn w1
        simp -dsimp [g1, g2, g3, g4, g5, g6, g7, hlt, cT, eSo, cSo, eArs, w1, h80, hn, hne]
      · simp -dsimp [g1, g2, g3, g4, g5, g6, g7, g8, hlt, cT, eSo, cSo, eArs, w1, hr, hn]
    · have e : i = b.sorts.length := by omega
      subst e
      rw [List.take_of_length_le (by simp)] at g8
      simp -dsimp [g1, g2, g3, g4, g5, g6, g7]
      clear hi g5
      refine wp_upto b.cons.length (fun i st => st.s 1 = .ptr 1 1 0 ∧ st.h 1 = ⟨1, .box [.d (.sl 6 (b.sorts.map eSo)), .d (.sl 6 (b.cons.map eCo)), .d (.int .i64 b.elim)] false⟩ ∧
        st.s 2 = .ptr 2 1 0 ∧ st.h 2 = ⟨1, .box [.fsl 6 [], .fsl 6 [], .d (.int .i64 0)] false⟩ ∧ st.s 6 = .d (.int .i64 i) ∧
        st.s 3 = .ptr 3 1 0 ∧ ∃ d, st.h 3 = ⟨1, .box [c, d, .d (.int .i64 b.elim)] false⟩ ∧ ((b.sorts = [] ∧ c = .fsl 6 []) ∨ (0 < b.sorts.length ∧ ∃ v, c = .rsl 34 v ∧ st.h 34 = ⟨v, .row 6 (b.sorts.map eSo) false⟩)) ∧
          ((i = 0 ∧ d = .fsl 6 []) ∨ (0 < i ∧ ∃ v, d = .rsl 52 v ∧ st.h 52 = ⟨v, .row 6 ((b.cons.map eCo).take i) false⟩))) ?_ ?_
      · simp -dsimp [g1, g2, g3, g4, g6, g7]
        simpa using g8
      · clear g1 g2 g3 g4 g6 g7 g8 s hp
        rintro i ⟨s, hp⟩ hi ⟨g1, g2, g3, g4, g5, g6, d, g7, g8, g9⟩
        dsimp only at g1 g2 g3 g4 g5 g6 g7 g8 g9
        rcases Nat.lt_or_ge i b.cons.length with hlt | hge
        · have w1 : IntKind.i64.wrap ((i : Int) + 1) = (i : Int) + 1 := wrap_id (by omega) (by omega)
          have ho := h.cons b.cons[i] (List.getElem_mem _)
          simp -dsimp [g1, g2, g3, g4, g5, g6, g7, hlt, cT, eCo, cCo, eArs, eTs]
          refine call_of (twinCon_ok b.cons[i] ho) ?_
          have hr : (min i b.cons.length + 1) * 96 ≤ maxRoom := by simp only [maxRoom]; omega
          have hn := take_next eCo cCo (fun _ => rfl) b.cons i hlt
          simp only [cCo, cT, List.cons_append, List.nil_append, eArs, eTs] at hn
          rcases g9 with ⟨rfl, rfl⟩ | ⟨hi0, v, rfl, g9⟩
          · have h96 : min 1 b.cons.length * 96 ≤ maxRoom := by simp only [maxRoom]; omega
            have hne : ¬ b.cons = [] := List.ne_nil_of_length_pos hlt
            simp only [List.take_zero, List.nil_append, Nat.zero_add] at hn
            simp at hlt hn w1
            simp -dsimp [g1, g2, g3, g4, g5, g6, g7, hlt, cT, eCo, cCo, eArs, eTs, w1, h96, hn, hne]
            exact g8
          · simp -dsimp [g1, g2, g3, g4, g5, g6, g7, g9, hlt, cT, eCo, cCo, eArs, eTs, w1, hr, hn]
            exact g8
        · have e : i = b.cons.length := by omega
          subst e
          rw [List.take_of_length_le (by simp)] at g9
          have hc : b.cons.length = 0 → b.cons = [] := List.length_eq_zero_iff.1
          have hS0 : rcS [] = .d (.sl 6 []) := rfl
          have hK0 : rcK [] = .d (.sl 6 []) := rfl
          rcases g8 with ⟨hz, rfl⟩ | ⟨hp1, v, rfl, g8⟩ <;> rcases g9 with ⟨hy, rfl⟩ | ⟨hp2, u, rfl, g9⟩
          · simp -dsimp [g1, g2, g3, g4, g5, g6, g7, hz, hc hy, hS0, hK0]
          · have hK : rcK b.cons = .row 6 (b.cons.map eCo) false := by rw [rcK, if_neg (List.ne_nil_of_length_pos hp2)]
            simp -dsimp [g1, g2, g3, g4, g5, g6, g7, hz, g9, hS0, hK]
          · have hS : rcS b.sorts = .row 6 (b.sorts.map eSo) false := by rw [rcS, if_neg (List.ne_nil_of_length_pos hp1)]
            simp -dsimp [g1, g2, g3, g4, g5, g6, g7, g8, hc hy, hS, hK0]
          · have hK : rcK b.cons = .row 6 (b.cons.map eCo) false := by rw [rcK, if_neg (List.ne_nil_of_length_pos hp2)]
            have hS : rcS b.sorts = .row 6 (b.sorts.map eSo) false := by rw [rcS, if_neg (List.ne_nil_of_length_pos hp1)]
            simp -dsimp [g1, g2, g3, g4, g5, g6, g7, g8, g9, hS, hK]
theorem rcS_data (l : List So) : (rcS l).data = eSos l := by
  rw [rcS]; split
  · rename_i h; subst h; rfl
  · rfl
theorem rcK_data (l : List Co) : (rcK l).data = eCos l := by
  rw [rcK]; split
  · rename_i h; subst h; rfl
  · rfl
theorem twinBlock_ok (b : Bl) (h : okBl b) : Pure Tryz.prog n_porismkeep_TwinBlock [eBl b] [eBl b] := by
  have := (twinBlock_own b h).pure
  simp only [List.map_cons, List.map_nil, RV.data, rcS_data, rcK_data] at this
  exact this
end
section
attribute [local simp] allD_map_d sks_map_d tk tn tks initA EndsM
theorem keepArgs_of (l : List Ar) (h : ∀ x ∈ l, Pure Tryz.prog n_porismkeep_Arg [.agg (cAr x), .agg (cAr x)] [.bool true]) : Pure Tryz.prog n_porismkeep_Args [eArs l, eArs l] [.bool true] := by
  refine p_porismkeep_Args rfl fun hs => ?_
  have hl := hs (eArs l) (by simp)
  simp [eArs, small] at hl
  replace hl := hl.1
  simp -dsimp [x_porismkeep_Args, eArs]
  refine wp_upto l.length (fun i st => st.s 0 = .d (.sl 7 (l.map eAr)) ∧ st.s 1 = .d (.sl 7 (l.map eAr)) ∧ st.s 5 = .d (.int .i64 i)) ?_ ?_
  · simp -dsimp
  · rintro i ⟨s, hp⟩ hi ⟨g1, g2, g3⟩
    dsimp only at g1 g2 g3
    rcases Nat.lt_or_ge i l.length with hlt | hge
    · have w1 : IntKind.i64.wrap ((i : Int) + 1) = (i : Int) + 1 := wrap_id (by omega) (by omega)
      simp -dsimp [g1, g2, g3, hlt, cT, eAr, cAr, eTs]
      refine call_of (h l[i] (List.getElem_mem _)) ?_
      simp -dsimp [g1, g2, g3, hlt, w1]
    · have e : i = l.length := by omega
      subst e
      simp -dsimp [g1, g2, g3]
theorem keepArg_ok (a : Ar) : Pure Tryz.prog n_porismkeep_Arg [.agg (cAr a), .agg (cAr a)] [.bool true] := by
  refine p_porismkeep_Arg rfl fun hs => ?_
  simp -dsimp [x_porismkeep_Arg, cAr, cT, eTs]
  refine call_of (keepTerm_ok a.ty) ?_
  simp -dsimp
  refine call_of (keepTerms_ok a.dom) ?_
  simp -dsimp
  refine call_of (keepTerms_ok a.idx) ?_
  simp -dsimp
theorem keepArgs_ok (l : List Ar) : Pure Tryz.prog n_porismkeep_Args [eArs l, eArs l] [.bool true] := keepArgs_of l fun x _ => keepArg_ok x
theorem keepCon_ok (c : Co) : Pure Tryz.prog n_porismkeep_Con [.agg (cCo c), .agg (cCo c)] [.bool true] := by
  refine p_porismkeep_Con rfl fun hs => ?_
  simp -dsimp [x_porismkeep_Con, cCo, cT, eTs, eArs]
  refine call_of (keepArgs_ok c.args) ?_
  simp -dsimp
  refine call_of (keepTerms_ok c.idx) ?_
  simp -dsimp
  refine call_of (keepTerm_ok c.dec) ?_
  simp -dsimp
theorem keepBlock_ok (b : Bl) : Pure Tryz.prog n_porismkeep_Block [eBl b, eBl b] [.bool true] := by
  refine p_porismkeep_Block rfl fun hs => ?_
  have hl := hs (eBl b) (by simp)
  simp -dsimp [eBl, cBl, eSos, eCos, small] at hl
  have hl1 := hl.1.1
  have hl2 := hl.2.1
  simp -dsimp [x_porismkeep_Block, eBl, cBl, eSos, eCos]
  refine wp_upto b.sorts.length (fun i st => st.s 2 = .ptr 2 1 0 ∧ st.h 2 = ⟨1, .box [.d (.sl 6 (b.sorts.map eSo)), .d (.sl 6 (b.cons.map eCo)), .d (.int .i64 b.elim)] false⟩ ∧
    st.s 3 = .ptr 3 1 0 ∧ st.h 3 = ⟨1, .box [.d (.sl 6 (b.sorts.map eSo)), .d (.sl 6 (b.cons.map eCo)), .d (.int .i64 b.elim)] false⟩ ∧ st.s 5 = .d (.int .i64 i)) ?_ ?_
  · simp -dsimp
  · rintro i ⟨s, hp⟩ hi ⟨g1, g2, g3, g4, g5⟩
    dsimp only at g1 g2 g3 g4 g5
    rcases Nat.lt_or_ge i b.sorts.length with hlt | hge
    · have w1 : IntKind.i64.wrap ((i : Int) + 1) = (i : Int) + 1 := wrap_id (by omega) (by omega)
      simp -dsimp [g1, g2, g3, g4, g5, hlt, cT, eSo, cSo, eArs]
      refine call_of (keepArgs_ok b.sorts[i].idx) ?_
      simp -dsimp [g1, g2, g3, g4, g5, hlt, w1, cT]
      refine call_of (keepTerm_ok b.sorts[i].dty) ?_
      simp -dsimp [g1, g2, g3, g4, g5, hlt, w1]
    · have e : i = b.sorts.length := by omega
      subst e
      simp -dsimp [g1, g2, g3, g4, g5]
      clear hi g5
      refine wp_upto b.cons.length (fun i st => st.s 2 = .ptr 2 1 0 ∧ st.h 2 = ⟨1, .box [.d (.sl 6 (b.sorts.map eSo)), .d (.sl 6 (b.cons.map eCo)), .d (.int .i64 b.elim)] false⟩ ∧
        st.s 3 = .ptr 3 1 0 ∧ st.h 3 = ⟨1, .box [.d (.sl 6 (b.sorts.map eSo)), .d (.sl 6 (b.cons.map eCo)), .d (.int .i64 b.elim)] false⟩ ∧ st.s 8 = .d (.int .i64 i)) ?_ ?_
      · simp -dsimp [g1, g2, g3, g4]
      · clear g1 g2 g3 g4 s hp
        rintro i ⟨s, hp⟩ hi ⟨g1, g2, g3, g4, g5⟩
        dsimp only at g1 g2 g3 g4 g5
        rcases Nat.lt_or_ge i b.cons.length with hlt | hge
        · have w1 : IntKind.i64.wrap ((i : Int) + 1) = (i : Int) + 1 := wrap_id (by omega) (by omega)
          simp -dsimp [g1, g2, g3, g4, g5, hlt, cT, eCo, cCo, eArs, eTs]
          refine call_of (keepCon_ok b.cons[i]) ?_
          simp -dsimp [g1, g2, g3, g4, g5, hlt, w1]
        · have e : i = b.cons.length := by omega
          subst e
          simp -dsimp [g1, g2, g3, g4, g5]
end
section
attribute [local simp] allD_map_d sks_map_d tk tn tks initA EndsM
theorem rscoped_ok (t : T) : ∀ v c : Int, Pure Tryz.prog n_porismref01_scoped [.agg (cT t), .int .i64 v, .int .i64 c] [.bool (withinM t v c)] := by
  refine T.ind (p := fun t => ∀ v c : Int, Pure Tryz.prog n_porismref01_scoped [.agg (cT t), .int .i64 v, .int .i64 c] [.bool (withinM t v c)]) ?_ t
  intro k n ks ih v c
  refine p_porismref01_scoped rfl fun hs => ?_
  have hl := kids_small (t := .mk k n ks) (fun d hd => hs d (by simp at hd; simp [hd]))
  simp [T.kids] at hl
  simp -dsimp [x_porismref01_scoped, cT, T.kind, T.num, T.kids]
  (first | refine Ask_b ?_ ?_ | refine Cnd_b ?_ ?_) <;> intro h1 <;> (try simp only [nrm] at h1) <;> simp -dsimp [h1, withinM]
  (first | refine Ask_b ?_ ?_ | refine Cnd_b ?_ ?_) <;> intro h2 <;> (try simp only [nrm] at h2) <;> simp -dsimp [h2, withinM, h1]
  (first | refine Ask_b ?_ ?_ | refine Cnd_b ?_ ?_) <;> intro h3 <;> (try simp only [nrm] at h3) <;> simp -dsimp [h3, withinM, h1, h2]
  have hw : withinM (.mk k n ks) v c = withinL k v c 0 ks := by rw [withinM, if_neg h1, if_neg h2, if_neg h3]
  rw [hw]
  refine wp_upto ks.length (fun i st => st.s 3 = .ptr 3 1 0 ∧ st.h 3 = ⟨1, .box [.d (.int .i64 k), .d (.int .i64 n), .d (.sl 3 (ks.map eT))] false⟩ ∧ st.s 1 = .d (.int .i64 v) ∧ st.s 2 = .d (.int .i64 c) ∧
    st.s 7 = .d (.int .i64 i) ∧ ∀ (j : Nat) (hj : j < ks.length), j < i → withinM ks[j] (w64 (v + bindsM k j)) c = true) ?_ ?_
  · simp -dsimp
  · rintro i ⟨s, hp⟩ hi ⟨g1, g2, g3, g4, g5, g8⟩
    dsimp only at g1 g2 g3 g4 g5
    rcases Nat.lt_or_ge i ks.length with hlt | hge
    · have w1 : IntKind.i64.wrap ((i : Int) + 1) = (i : Int) + 1 := wrap_id (by omega) (by omega)
      simp -dsimp [g1, g2, g3, g4, g5, hlt, cT]
      refine call_of (rbinds_ok k i) ?_
      simp -dsimp [g1, g2, g3, g4, g5, hlt]
      refine call_of (ih ks[i] (List.getElem_mem _) (w64 (v + bindsM k i)) c) ?_
      simp -dsimp [g1, g2, g3, g4, g5, hlt]
      (first | refine Ask_b ?_ ?_ | refine Cnd_b ?_ ?_) <;> intro h4 <;> (try simp only [nrm] at h4) <;> simp -dsimp [h4, g1, g2, g3, g4, g5, hlt, w1]
      · cases hw : withinL k v c 0 ks with
        | false => rfl
        | true =>
          have := (withinL_iff k v c ks 0).1 hw i hlt
          rw [Nat.zero_add, h4] at this
          cases this
      · intro j hj hji
        rcases Nat.lt_or_ge j i with h | h
        · exact g8 j hj h
        · have : j = i := by omega
          subst this
          exact h4
    · have e : i = ks.length := by omega
      subst e
      have : withinL k v c 0 ks = true := (withinL_iff k v c ks 0).2 fun j hj => by simpa using g8 j hj hj
      simp -dsimp [g1, g2, g3, g4, g5, this]
def rscopeM (t : T) (v c : Int) : Bool := if v < 0 then false else if c < 0 then false else if checkM t = 0 then withinM t (if 1048576 < v then 1048576 else v) c else false
theorem rscope_is {t : T} {v c : Int} (h : v ≤ 65536) : rscopeM t v c = scopeM t v c := by
  rw [rscopeM, scopeM, if_neg (show ¬1048576 < v by omega), if_neg (show ¬65536 < v by omega)]
theorem rscope_ok (t : T) (v c : Int) : Pure Tryz.prog n_porismref01_Scope [.agg (cT t), .int .i64 v, .int .i64 c] [.bool (rscopeM t v c)] := by
  refine p_porismref01_Scope rfl fun hs => ?_
  simp -dsimp [x_porismref01_Scope, cT]
  (first | refine Ask_b ?_ ?_ | refine Cnd_b ?_ ?_) <;> intro h1 <;> (try simp only [nrm] at h1) <;> simp -dsimp [h1, rscopeM]
  · (first | refine Ask_b ?_ ?_ | refine Cnd_b ?_ ?_) <;> intro h2 <;> (try simp only [nrm] at h2) <;> simp -dsimp [h2, rscopeM, h1]
    · refine call_of (rcheck_ok t) ?_
      simp -dsimp [h1, h2]
      (first | refine Ask_b ?_ ?_ | refine Cnd_b ?_ ?_) <;> intro h3 <;> (try simp only [nrm] at h3) <;> simp -dsimp [h3, rscopeM, h1, h2]
      · refine call_of (rscoped_ok t _ _) ?_
        have hS : rscopeM t v c = withinM t (if 1048576 < v then 1048576 else v) c := by rw [rscopeM, if_neg (by omega), if_neg (by omega), if_pos h3]
        rw [hS]
        simp -dsimp [h3]
end
section
attribute [local simp] allD_map_d sks_map_d tk tn tks initA EndsM
theorem in7_ok (n lo hi : Int) : Pure Tryz.prog n_porismref07_in [.int .i64 n, .int .i64 lo, .int .i64 hi] [.bool (inB n lo hi)] := by
  refine p_porismref07_in rfl fun hs => ?_
  simp -dsimp [x_porismref07_in, inB]
  (first | refine Ask_b ?_ ?_ | refine Cnd_b ?_ ?_) <;> intro h1 <;> (try simp only [nrm] at h1) <;> simp -dsimp [h1]
theorem none7_ok (t : T) : Pure Tryz.prog n_porismref07_none [.agg (cT t)] [.bool (noneM t)] := by
  refine p_porismref07_none rfl fun hs => ?_
  simp -dsimp [x_porismref07_none, cT]
  (first | refine Ask_b ?_ ?_ | refine Cnd_b ?_ ?_) <;> intro h1 <;> (try simp only [nrm] at h1) <;> simp -dsimp [h1, noneM]
  (first | refine Ask_b ?_ ?_ | refine Cnd_b ?_ ?_) <;> intro h2 <;> (try simp only [nrm] at h2) <;> simp -dsimp [h2, noneM, h1]
theorem open7_ok (t : T) (v : Int) (hv : v ≤ 65536) : Pure Tryz.prog n_porismref07_open [.agg (cT t), .int .i64 v] [.bool (inM t v)] := by
  refine p_porismref07_open rfl fun hs => ?_
  simp -dsimp [x_porismref07_open, cT]
  refine call_of (rscope_ok t v 65536) ?_
  simp -dsimp [inM, rscope_is hv]
theorem arg7_ok (b : Bl) (a : Ar) (i : Int) (h0 : 0 ≤ i) (h1 : i ≤ 1000) : Pure Tryz.prog n_porismref07_arg [eBl b, .agg (cAr a), .int .i64 i] [.bool (argM b a i)] := by
  refine p_porismref07_arg rfl fun hs => ?_
  have hi : ((a.idx.length : Int)) ≤ 9223372036854775807 := by
    have := hs (.agg (cAr a)) (by simp)
    simp -dsimp [cAr, cT, eTs, small] at this
    omega
  simp -dsimp [x_porismref07_arg, eBl, cBl, eSos, eCos, cAr, cT, eTs]
  cases hr : a.rc with
  | false =>
    simp -dsimp [hr]
    refine call_of (open7_ok a.ty i (by omega)) ?_
    simp -dsimp
    (first | refine Ask_b ?_ ?_ | refine Cnd_b ?_ ?_) <;> intro g1 <;> (try simp only [nrm] at g1) <;> simp -dsimp [g1, argM, hr]
    (first | refine Ask_b ?_ ?_ | refine Cnd_b ?_ ?_) <;> intro g2 <;> (try simp only [nrm] at g2) <;> simp -dsimp [g2, argM, hr, g1, w64]
  | true =>
    simp -dsimp [hr]
    refine call_of (none7_ok a.ty) ?_
    simp -dsimp
    (first | refine Ask_b ?_ ?_ | refine Cnd_b ?_ ?_) <;> intro g1 <;> (try simp only [nrm] at g1) <;> simp -dsimp [g1, argM, hr]
    (first | refine Ask_b ?_ ?_ | refine Cnd_b ?_ ?_) <;> intro g2 <;> (try simp only [nrm] at g2) <;> simp -dsimp [g2, argM, hr, g1]
    refine call_of (in7_ok a.sort 0 _) ?_
    have hbl : ((b.sorts.length : Int)) ≤ 9223372036854775807 := by
      have := hs (eBl b) (by simp)
      simp -dsimp [eBl, cBl, eSos, small] at this
      omega
    have wS : IntKind.i64.wrap ((b.sorts.length : Int) - 1) = (b.sorts.length : Int) - 1 := wrap_id (by omega) (by omega)
    simp -dsimp [hr, g1, g2, wS]
    (first | refine Ask_b ?_ ?_ | refine Cnd_b ?_ ?_) <;> intro g3 <;> (try simp only [nrm] at g3) <;> simp -dsimp [g3, hr, g1, g2, wS]
    · have h5 := (inB_not _ _ _).1 g3
      by_cases h6 : a.sort < 0
      · simp -dsimp [argM, hr, g1, g2, h6]
      · have h7 : b.sorts[a.sort.toNat]? = none := List.getElem?_eq_none (by omega)
        simp -dsimp [argM, hr, g1, g2, h6, h7]
    have h5 := (inB_iff _ _ _).1 g3
    have hlt : a.sort.toNat < b.sorts.length := by omega
    have hs0 : 0 ≤ a.sort := h5.1
    have hA : argM b a i = if (a.idx.length : Int) = (b.sorts[a.sort.toNat].idx.length : Int) then domM i a.dom && allM a.idx (w64 (i + a.dom.length)) else false := by
      have : ¬a.sort < 0 := by omega
      simp [argM, hr, g1, g2, hlt, this]
    simp -dsimp [hr, g1, g2, g3, hlt, hs0, eSo, cSo, eArs, cT]
    (first | refine Ask_b ?_ ?_ | refine Cnd_b ?_ ?_) <;> intro g4 <;> (try simp only [nrm] at g4) <;> simp -dsimp [g4, hr, g1, g2, g3, hlt, hs0, eSo, cSo, eArs, cT]
    · rw [hA, if_neg g4]
    rw [hA, if_pos g4]
    have hd : a.dom.length ≤ 12 := by omega
    refine wp_upto a.dom.length (fun j st => st.s 2 = .d (.int .i64 i) ∧ st.s 4 = .ptr 4 1 0 ∧ st.h 4 = ⟨1, .box [.d (.bool true), .d (.int .i64 a.ty.kind), .d (.int .i64 a.ty.num), .d (.sl 3 (a.ty.kids.map eT)), .d (.sl 3 (a.dom.map eT)), .d (.int .i64 a.sort), .d (.sl 3 (a.idx.map eT))] false⟩ ∧
      st.s 7 = .d (.int .i64 j) ∧ ∀ (k : Nat) (hk : k < a.dom.length), k < j → inM a.dom[k] (w64 (i + k)) = true) ?_ ?_
    · simp -dsimp [hr]
    · rintro j ⟨s, hp⟩ hj ⟨f1, f2, f3, f4, f7⟩
      dsimp only at f1 f2 f3 f4
      rcases Nat.lt_or_ge j a.dom.length with hlt | hge
      · have w1 : IntKind.i64.wrap ((j : Int) + 1) = (j : Int) + 1 := wrap_id (by omega) (by omega)
        have w2 : IntKind.i64.wrap (i + (j : Int)) = i + (j : Int) := wrap_id (by omega) (by omega)
        have w3 : w64 (i + (j : Int)) = i + (j : Int) := w2
        simp -dsimp [f1, f2, f3, f4, hlt, cT, w2]
        refine call_of (open7_ok a.dom[j] _ (by omega)) ?_
        simp -dsimp [f1, f2, f3, f4, hlt]
        (first | refine Ask_b ?_ ?_ | refine Cnd_b ?_ ?_) <;> intro h6 <;> (try simp only [nrm] at h6) <;> simp -dsimp [h6, f1, f2, f3, f4, hlt, w1]
        · have : domM i a.dom = false := allI_not (p := fun j t => inM t (w64 (i + j))) hlt (by rw [w3]; exact h6)
          simp [this]
        · exact allI_next (p := fun j t => inM t (w64 (i + j))) hlt f7 (by rw [w3]; exact h6)
      · have e : j = a.dom.length := by omega
        subst e
        have hD : domM i a.dom = true := allI_all f7
        have w2 : IntKind.i64.wrap (i + (a.dom.length : Int)) = i + (a.dom.length : Int) := wrap_id (by omega) (by omega)
        have w3 : w64 (i + (a.dom.length : Int)) = i + (a.dom.length : Int) := w2
        rw [hD, Bool.true_and]
        simp -dsimp [f1, f2, f3, f4]
        clear f4 f7 hj
        refine wp_upto a.idx.length (fun j st => st.s 2 = .d (.int .i64 i) ∧ st.s 4 = .ptr 4 1 0 ∧ st.h 4 = ⟨1, .box [.d (.bool true), .d (.int .i64 a.ty.kind), .d (.int .i64 a.ty.num), .d (.sl 3 (a.ty.kids.map eT)), .d (.sl 3 (a.dom.map eT)), .d (.int .i64 a.sort), .d (.sl 3 (a.idx.map eT))] false⟩ ∧
          st.s 8 = .d (.int .i64 j) ∧ ∀ (k : Nat) (hk : k < a.idx.length), k < j → inM a.idx[k] (i + a.dom.length) = true) ?_ ?_
        · simp -dsimp [f1, f2, f3]
        · clear f1 f2 f3 s hp
          rintro j ⟨s, hp⟩ hj ⟨f1, f2, f3, f4, f7⟩
          dsimp only at f1 f2 f3 f4
          rcases Nat.lt_or_ge j a.idx.length with hlt | hge
          · have w1 : IntKind.i64.wrap ((j : Int) + 1) = (j : Int) + 1 := wrap_id (by omega) (by omega)
            simp -dsimp [f1, f2, f3, f4, hlt, cT, w2]
            refine call_of (open7_ok a.idx[j] _ (by omega)) ?_
            simp -dsimp [f1, f2, f3, f4, hlt]
            (first | refine Ask_b ?_ ?_ | refine Cnd_b ?_ ?_) <;> intro h6 <;> (try simp only [nrm] at h6) <;> simp -dsimp [h6, f1, f2, f3, f4, hlt, w1]
            · rw [allM, w3]
              have : (a.idx.any fun t => !inM t (i + a.dom.length)) = true := any_mem hlt (by simp [h6])
              rw [this]; rfl
            · exact upto_next (p := fun t => inM t (i + a.dom.length)) hlt f7 h6
          · have e : j = a.idx.length := by omega
            subst e
            have hI : allM a.idx (w64 (i + a.dom.length)) = true := by
              rw [allM, w3]
              have := all_next (p := fun t => inM t (i + a.dom.length)) f7
              rw [List.all_eq_not_any_not] at this
              exact this
            simp -dsimp [f1, f2, f3, f4, hI]
theorem con7_ok (b : Bl) (c : Co) : Pure Tryz.prog n_porismref07_con [eBl b, .agg (cCo c)] [.bool (conM b c)] := by
  refine p_porismref07_con rfl fun hs => ?_
  have hi : ((c.idx.length : Int)) ≤ 9223372036854775807 := by
    have := hs (.agg (cCo c)) (by simp)
    simp -dsimp [cCo, cT, eTs, eArs, small] at this
    omega
  have hbl : ((b.sorts.length : Int)) ≤ 9223372036854775807 := by
    have := hs (eBl b) (by simp)
    simp -dsimp [eBl, cBl, eSos, small] at this
    omega
  have wS : IntKind.i64.wrap ((b.sorts.length : Int) - 1) = (b.sorts.length : Int) - 1 := wrap_id (by omega) (by omega)
  simp -dsimp [x_porismref07_con, eBl, cBl, eSos, eCos, cCo, cT, eTs, eArs, wS]
  refine call_of (in7_ok c.sort 0 _) ?_
  simp -dsimp
  (first | refine Ask_b ?_ ?_ | refine Cnd_b ?_ ?_) <;> intro g1 <;> (try simp only [nrm] at g1) <;> simp -dsimp [g1]
  · have h5 := (inB_not _ _ _).1 g1
    by_cases h6 : c.sort < 0
    · simp -dsimp [conM, h6]
    · have h7 : b.sorts[c.sort.toNat]? = none := List.getElem?_eq_none (by omega)
      simp -dsimp [conM, h6, h7]
  have h5 := (inB_iff _ _ _).1 g1
  have hlt : c.sort.toNat < b.sorts.length := by omega
  have hs0 : 0 ≤ c.sort := h5.1
  have hA : conM b c = if rowM b c.args then if (c.idx.length : Int) = (b.sorts[c.sort.toNat].idx.length : Int) then if allM c.idx c.args.length then maybeM b.sorts[c.sort.toNat].dec c.dec c.args.length else false else false else false := by
    have : ¬c.sort < 0 := by omega
    simp [conM, hlt, this]
  (first | refine Ask_b ?_ ?_ | refine Cnd_b ?_ ?_) <;> intro g2 <;> (try simp only [nrm] at g2) <;> simp -dsimp [g2, g1]
  · rw [hA, rowM, if_pos g2]; rfl
  simp -dsimp [g1, g2, hlt, hs0, eSo, cSo, eArs, cT]
  (first | refine Ask_b ?_ ?_ | refine Cnd_b ?_ ?_) <;> intro g3 <;> (try simp only [nrm] at g3) <;> simp -dsimp [g3, g1, g2]
  · rw [hA, if_neg g3]
    split <;> rfl
  have hal : c.args.length ≤ 12 := by omega
  rw [if_pos g3] at hA
  have hR : rowM b c.args = allI (fun i a => argM b a i) 0 c.args := by rw [rowM, if_neg g2]
  rw [hA]
  refine wp_upto c.args.length (fun i st => st.s 2 = .ptr 2 1 0 ∧ st.h 2 = ⟨1, .box [.d (.sl 6 (b.sorts.map eSo)), .d (.sl 6 (b.cons.map eCo)), .d (.int .i64 b.elim)] false⟩ ∧
    st.s 3 = .ptr 3 1 0 ∧ st.h 3 = ⟨1, .box [.d (.int .i64 c.sort), .d (.sl 7 (c.args.map eAr)), .d (.sl 3 (c.idx.map eT)), .d (.int .i64 c.dec.kind), .d (.int .i64 c.dec.num), .d (.sl 3 (c.dec.kids.map eT))] false⟩ ∧
    st.s 5 = .d (.int .i64 i) ∧ ∀ (j : Nat) (hj : j < c.args.length), j < i → argM b c.args[j] j = true) ?_ ?_
  · simp -dsimp
  · rintro i ⟨s, hp⟩ hi ⟨f1, f2, f3, f4, f5, f7⟩
    dsimp only at f1 f2 f3 f4 f5
    rcases Nat.lt_or_ge i c.args.length with hlt' | hge
    · have w1 : IntKind.i64.wrap ((i : Int) + 1) = (i : Int) + 1 := wrap_id (by omega) (by omega)
      simp -dsimp [f1, f2, f3, f4, f5, hlt', eAr, cAr, cT, eTs]
      refine call_of (arg7_ok b c.args[i] i (by omega) (by omega)) ?_
      simp -dsimp [f1, f2, f3, f4, f5, hlt']
      (first | refine Ask_b ?_ ?_ | refine Cnd_b ?_ ?_) <;> intro h6 <;> (try simp only [nrm] at h6) <;> simp -dsimp [h6, f1, f2, f3, f4, f5, hlt', w1]
      · intro h
        rw [hR, allI_not (p := fun i a => argM b a i) hlt' h6] at h
        cases h
      · exact allI_next (p := fun i a => argM b a i) hlt' f7 h6
    · have e : i = c.args.length := by omega
      subst e
      have hD : rowM b c.args = true := by rw [hR]; exact allI_all (p := fun i a => argM b a i) f7
      rw [if_pos hD]
      simp -dsimp [f1, f2, f3, f4, f5]
      clear f5 f7 hi
      refine wp_upto c.idx.length (fun i st => st.s 2 = .ptr 2 1 0 ∧ st.h 2 = ⟨1, .box [.d (.sl 6 (b.sorts.map eSo)), .d (.sl 6 (b.cons.map eCo)), .d (.int .i64 b.elim)] false⟩ ∧
        st.s 3 = .ptr 3 1 0 ∧ st.h 3 = ⟨1, .box [.d (.int .i64 c.sort), .d (.sl 7 (c.args.map eAr)), .d (.sl 3 (c.idx.map eT)), .d (.int .i64 c.dec.kind), .d (.int .i64 c.dec.num), .d (.sl 3 (c.dec.kids.map eT))] false⟩ ∧
        st.s 6 = .d (.int .i64 i) ∧ ∀ (j : Nat) (hj : j < c.idx.length), j < i → inM c.idx[j] c.args.length = true) ?_ ?_
      · simp -dsimp [f1, f2, f3, f4]
      · clear f1 f2 f3 f4 s hp
        rintro i ⟨s, hp⟩ hi ⟨f1, f2, f3, f4, f5, f7⟩
        dsimp only at f1 f2 f3 f4 f5
        rcases Nat.lt_or_ge i c.idx.length with hlt' | hge
        · have w1 : IntKind.i64.wrap ((i : Int) + 1) = (i : Int) + 1 := wrap_id (by omega) (by omega)
          simp -dsimp [f1, f2, f3, f4, f5, hlt', cT]
          refine call_of (open7_ok c.idx[i] _ (by omega)) ?_
          simp -dsimp [f1, f2, f3, f4, f5, hlt']
          (first | refine Ask_b ?_ ?_ | refine Cnd_b ?_ ?_) <;> intro h6 <;> (try simp only [nrm] at h6) <;> simp -dsimp [h6, f1, f2, f3, f4, f5, hlt', w1]
          · intro h
            have : (c.idx.any fun t => !inM t c.args.length) = true := any_mem hlt' (by simp [h6])
            rw [allM, this] at h
            cases h
          · exact upto_next (p := fun t => inM t c.args.length) hlt' f7 h6
        · have e : i = c.idx.length := by omega
          subst e
          have hI : allM c.idx c.args.length = true := by
            rw [allM]
            have := all_next (p := fun t => inM t c.args.length) f7
            rw [List.all_eq_not_any_not] at this
            exact this
          rw [if_pos hI]
          simp -dsimp [f1, f2, f3, f4, f5, hlt, hs0, eSo, cSo, eArs, cT]
          (first | refine Ask_b ?_ ?_ | refine Cnd_b ?_ ?_) <;> intro g6 <;> (try simp only [nrm] at g6) <;> simp -dsimp [g6, f1, f2, f3, f4, f5, maybeM]
          · refine call_of (open7_ok c.dec _ (by omega)) ?_
            simp -dsimp [f1, f2, f3, f4, f5, maybeM, g6]
          · refine call_of (none7_ok c.dec) ?_
            simp -dsimp [f1, f2, f3, f4, f5, maybeM, g6]
theorem checkB_zero (b : Bl) : checkB b = 0 ↔ 1 ≤ b.sorts.length ∧ b.sorts.length ≤ 4 ∧ b.cons.length ≤ 8 ∧ levelM b.elim = true ∧ (∀ (j : Nat) (hj : j < b.sorts.length), sortM b j b.sorts[j] = true) ∧ ∀ c ∈ b.cons, conM b c = true := by
  have ha : allI (fun k s => sortM b k s) 0 b.sorts = true ↔ ∀ (j : Nat) (hj : j < b.sorts.length), sortM b j b.sorts[j] = true := by
    rw [allI_iff]
    simp
  rw [checkB]
  by_cases h1 : (b.sorts.length : Int) < 1
  · rw [if_pos h1]
    constructor
    · intro h; simp at h
    · rintro ⟨h, _⟩; omega
  rw [if_neg h1]
  by_cases h2 : 4 < (b.sorts.length : Int)
  · rw [if_pos h2]
    constructor
    · intro h; simp at h
    · rintro ⟨_, h, _⟩; omega
  rw [if_neg h2]
  by_cases h3 : 8 < (b.cons.length : Int)
  · rw [if_pos h3]
    constructor
    · intro h; simp at h
    · rintro ⟨_, _, h, _⟩; omega
  rw [if_neg h3, ← ha]
  cases hl : levelM b.elim with
  | false => simp
  | true =>
    cases hs : allI (fun k s => sortM b k s) 0 b.sorts with
    | false => simp
    | true =>
      have hc : (b.cons.any fun c => !conM b c) = false ↔ ∀ c ∈ b.cons, conM b c = true := by
        rw [List.any_eq_false]
        simp
      cases hq : b.cons.any fun c => !conM b c with
      | false =>
        simp only [hq] at hc ⊢
        simp only [if_true]
        exact ⟨fun _ => ⟨by omega, by omega, by omega, trivial, trivial, hc.1 trivial⟩, fun _ => rfl⟩
      | true =>
        simp only [hq] at hc ⊢
        simp only [if_true]
        constructor
        · intro h; simp at h
        · rintro ⟨_, _, _, _, _, h⟩
          exact absurd (hc.2 h) (by simp)
/-- Right? -/
def shapeR (b : Bl) : Bool := decide (checkB b = 0)
theorem levelM_is (n : Int) : levelM n = inB n 0 6 := rfl
theorem sortM_true (b : Bl) (k : Nat) (s : So) : sortM b k s = true ↔ rowM b s.idx = true ∧ levelM s.level = true ∧ maybeM s.dec s.dty s.idx.length = true ∧ ∀ a ∈ s.idx, sortBad k s a = false := by
  rw [sortM]
  cases rowM b s.idx <;> cases levelM s.level <;> cases maybeM s.dec s.dty s.idx.length <;> simp
theorem sortM_false {b : Bl} {k : Nat} {s : So} {p : Prop} (hn : ¬p) (h : sortM b k s = true → p) : sortM b k s = false := by
  cases hq : sortM b k s with
  | false => rfl
  | true => exact absurd (h hq) hn
theorem upto_nextF {α : Type} {p : α → Bool} {l : List α} {i : Nat} (hi : i < l.length) (h : ∀ (j : Nat) (hj : j < l.length), j < i → p l[j] = false) (hx : p l[i] = false) :
    ∀ (j : Nat) (hj : j < l.length), j < i + 1 → p l[j] = false := by
  intro j hj hji
  rcases Nat.lt_or_ge j i with h' | h'
  · exact h j hj h'
  · have : j = i := by omega
    subst this
    exact hx
def bad0 (k : Int) (a : Ar) : Bool := if a.rc then if 0 < (a.dom.length : Int) then true else decide (k ≤ a.sort) else false
theorem any_take {l : List Ar} {j : Nat} (h : j < l.length) : (l.take (j + 1)).any (·.rc) = ((l.take j).any (·.rc) || l[j].rc) := by
  rw [take_snoc (List.getElem?_eq_getElem h), List.any_append]
  simp
theorem sortBad_of {k : Int} {s : So} {a : Ar} (h : bad0 k a = false) (hd : a.rc = true → s.dec = false) : sortBad k s a = false := by
  rw [bad0] at h
  rw [sortBad]
  cases hr : a.rc with
  | false => rfl
  | true =>
    simp only [hr, if_true] at h ⊢
    by_cases c : 0 < (a.dom.length : Int)
    · rw [if_pos c] at h; cases h
    · rw [if_neg c] at h ⊢
      have c2 : ¬k ≤ a.sort := by simpa using h
      rw [if_neg c2]
      exact hd hr
theorem shape7_ok (b : Bl) : Pure Tryz.prog n_porismref07_Shape [eBl b] [.bool (shapeR b)] := by
  refine p_porismref07_Shape rfl fun hs => ?_
  have hbl : ((b.sorts.length : Int)) ≤ 9223372036854775807 := by
    have := hs (eBl b) (by simp)
    simp -dsimp [eBl, cBl, eSos, small] at this
    omega
  have no : ∀ {p : Prop}, ¬p → (checkB b = 0 → p) → shapeR b = false := fun hn hp => by
    rw [shapeR, decide_eq_false_iff_not]
    exact fun h => hn (hp h)
  simp -dsimp [x_porismref07_Shape, eBl, cBl, eSos, eCos]
  refine call_of (in7_ok _ 1 4) ?_
  simp -dsimp
  (first | refine Ask_b ?_ ?_ | refine Cnd_b ?_ ?_) <;> intro g1 <;> (try simp only [nrm] at g1) <;> simp -dsimp [g1]
  · refine no (p := 1 ≤ b.sorts.length ∧ b.sorts.length ≤ 4) ?_ fun h => ⟨((checkB_zero b).1 h).1, ((checkB_zero b).1 h).2.1⟩
    have := (inB_not _ _ _).1 g1
    omega
  (first | refine Ask_b ?_ ?_ | refine Cnd_b ?_ ?_) <;> intro g2 <;> (try simp only [nrm] at g2) <;> simp -dsimp [g2, g1]
  · exact no (p := b.cons.length ≤ 8) (by omega) fun h => ((checkB_zero b).1 h).2.2.1
  refine call_of (in7_ok b.elim 0 6) ?_
  simp -dsimp [g1, g2]
  (first | refine Ask_b ?_ ?_ | refine Cnd_b ?_ ?_) <;> intro g3 <;> (try simp only [nrm] at g3) <;> simp -dsimp [g3, g1, g2]
  · exact no (p := levelM b.elim = true) (by rw [levelM_is, g3]; simp) fun h => ((checkB_zero b).1 h).2.2.2.1
  have hS := (inB_iff _ _ _).1 g1
  have hSl : b.sorts.length ≤ 4 := by omega
  have hCl : b.cons.length ≤ 8 := by omega
  refine wp_upto b.sorts.length (fun i st => st.s 1 = .ptr 1 1 0 ∧ st.h 1 = ⟨1, .box [.d (.sl 6 (b.sorts.map eSo)), .d (.sl 6 (b.cons.map eCo)), .d (.int .i64 b.elim)] false⟩ ∧ st.s 3 = .d (.int .i64 i) ∧
    ∀ (j : Nat) (hj : j < b.sorts.length), j < i → sortM b j b.sorts[j] = true) ?_ ?_
  · simp -dsimp
  · rintro i ⟨s, hp⟩ hi ⟨f1, f2, f3, f4⟩
    dsimp only at f1 f2 f3
    rcases Nat.lt_or_ge i b.sorts.length with hlt | hge
    · have w1 : IntKind.i64.wrap ((i : Int) + 1) = (i : Int) + 1 := wrap_id (by omega) (by omega)
      simp -dsimp [f1, f2, f3, hlt, eSo, cSo, cT, eArs]
      have noS : sortM b i b.sorts[i] = false → shapeR b = false := fun hx =>
        no (p := sortM b i b.sorts[i] = true) (by rw [hx]; simp) fun h => ((checkB_zero b).1 h).2.2.2.2.1 i hlt
      have hR : ¬12 < (b.sorts[i].idx.length : Int) → rowM b b.sorts[i].idx = allI (fun i a => argM b a i) 0 b.sorts[i].idx := fun h => by rw [rowM, if_neg h]
      generalize hsi : b.sorts[i] = s at noS hR ⊢
      (first | refine Ask_b ?_ ?_ | refine Cnd_b ?_ ?_) <;> intro g4 <;> (try simp only [nrm] at g4) <;> simp -dsimp [g4, f1, f2, f3, hlt]
      · exact noS (sortM_false (p := rowM b s.idx = true) (by rw [rowM, if_pos g4]; simp) fun h => ((sortM_true b i s).1 h).1)
      refine call_of (in7_ok s.level 0 6) ?_
      simp -dsimp [g4]
      (first | refine Ask_b ?_ ?_ | refine Cnd_b ?_ ?_) <;> intro g5 <;> (try simp only [nrm] at g5) <;> simp -dsimp [g5, f1, f2, f3, hlt, g4]
      · exact noS (sortM_false (p := levelM s.level = true) (by rw [levelM_is, g5]; simp) fun h => ((sortM_true b i s).1 h).2.1)
      replace hR := hR g4
      have hsl : s.idx.length ≤ 12 := by omega
      generalize (hp 4).ver + 1 = v
      refine wp_upto s.idx.length (fun j st => st.s 1 = .ptr 1 1 0 ∧ st.h 1 = ⟨1, .box [.d (.sl 6 (b.sorts.map eSo)), .d (.sl 6 (b.cons.map eCo)), .d (.int .i64 b.elim)] false⟩ ∧ st.s 3 = .d (.int .i64 i) ∧
        st.s 4 = .ptr 4 v 0 ∧ st.h 4 = ⟨v, .box [.d (.sl 7 (s.idx.map eAr)), .d (.int .i64 s.level), .d (.bool s.dec), .d (.int .i64 s.dty.kind), .d (.int .i64 s.dty.num), .d (.sl 3 (s.dty.kids.map eT))] false⟩ ∧
        st.s 6 = .d (.int .i64 j) ∧ st.s 5 = .d (.bool ((s.idx.take j).any (·.rc))) ∧ (∀ (k : Nat) (hk : k < s.idx.length), k < j → argM b s.idx[k] k = true) ∧ ∀ (k : Nat) (hk : k < s.idx.length), k < j → bad0 i s.idx[k] = false) ?_ ?_
      · simp -dsimp [f1, f2, f3]
      · clear f1 f2 f3 hp
        rintro j ⟨s', hp⟩ hj ⟨e1, e2, e3, e4, e5, e6, e7, e8, e9⟩
        dsimp only at e1 e2 e3 e4 e5 e6 e7
        rcases Nat.lt_or_ge j s.idx.length with hlt' | hge
        · have w2 : IntKind.i64.wrap ((j : Int) + 1) = (j : Int) + 1 := wrap_id (by omega) (by omega)
          simp -dsimp [e1, e2, e3, e4, e5, e6, e7, hlt', eAr, cAr, cT, eTs]
          refine call_of (arg7_ok b s.idx[j] j (by omega) (by omega)) ?_
          simp -dsimp [e1, e2, e3, e4, e5, e6, e7, hlt', eAr, cAr, cT, eTs]
          (first | refine Ask_b ?_ ?_ | refine Cnd_b ?_ ?_) <;> intro c1 <;> (try simp only [nrm] at c1) <;> simp -dsimp [c1, e1, e2, e3, e4, e5, e6, e7, hlt', eAr, cAr, cT, eTs]
          · refine noS (sortM_false (p := rowM b s.idx = true) ?_ fun h => ((sortM_true b i s).1 h).1)
            rw [hR, allI_not (p := fun i a => argM b a i) hlt' c1]
            simp
          have hany := any_take hlt'
          have hbad : bad0 i s.idx[j] = true → shapeR b = false := fun hb => by
            refine noS (sortM_false (p := sortBad i s s.idx[j] = false) ?_ fun h => ((sortM_true b i s).1 h).2.2.2 _ (List.getElem_mem _))
            rw [bad0] at hb
            rw [sortBad]
            cases hr : s.idx[j].rc with
            | false => simp [hr] at hb
            | true =>
              simp only [hr, if_true] at hb ⊢
              by_cases c2 : 0 < (s.idx[j].dom.length : Int)
              · rw [if_pos c2]; simp
              · rw [if_neg c2] at hb
                have c3 : (i : Int) ≤ s.idx[j].sort := by simpa using hb
                rw [if_neg c2, if_pos c3]; simp
          generalize (s.idx.take j).any (·.rc) = R at e7 hany
          cases hr : s.idx[j].rc with
          | false =>
            rw [hr] at hany
            have hb0 : bad0 i s.idx[j] = false := by simp [bad0, hr]
            cases R <;> simp -dsimp [e1, e2, e3, e4, e5, e6, e7, hlt', eAr, cAr, cT, eTs, hr, hany, w2, c1] <;> exact ⟨allI_next (p := fun i a => argM b a i) hlt' e8 c1, upto_nextF hlt' e9 hb0⟩
          | true =>
            rw [hr] at hany
            simp -dsimp [e1, e2, e3, e4, e5, e6, e7, hlt', eAr, cAr, cT, eTs, hr, hany, w2, c1]
            (first | refine Ask_b ?_ ?_ | refine Cnd_b ?_ ?_) <;> intro c2 <;> (try simp only [nrm] at c2) <;> simp -dsimp [c2, e1, e2, e3, e4, e5, e6, e7, hlt', eAr, cAr, cT, eTs, hr, hany, w2, c1]
            · exact hbad (by simp only [bad0, hr, if_true]; rw [if_pos (by omega)])
            (first | refine Ask_b ?_ ?_ | refine Cnd_b ?_ ?_) <;> intro c3 <;> (try simp only [nrm] at c3) <;> simp -dsimp [c3, e1, e2, e3, e4, e5, e6, e7, hlt', eAr, cAr, cT, eTs, hr, hany, w2, c1, c2]
            · exact hbad (by simp only [bad0, hr, if_true]; rw [if_neg (by omega)]; simpa using c3)
            have hb0 : bad0 i s.idx[j] = false := by
              simp only [bad0, hr, if_true]
              rw [if_neg (by omega)]
              simp
              omega
            cases R <;> simp -dsimp [e1, e2, e3, e4, e5, e6, e7, hlt', eAr, cAr, cT, eTs, hr, hany, w2, c1, c2, c3] <;> exact ⟨allI_next (p := fun i a => argM b a i) hlt' e8 c1, upto_nextF hlt' e9 hb0⟩
        · have e : j = s.idx.length := by omega
          subst e
          rw [List.take_length] at e7
          have hRow : rowM b s.idx = true := by rw [hR]; exact allI_all (p := fun i a => argM b a i) e8
          have hLev : levelM s.level = true := g5
          have hbads : ∀ a ∈ s.idx, bad0 i a = false := fun a ha => by
            obtain ⟨k, hk, rfl⟩ := List.mem_iff_getElem.1 ha
            exact e9 k hk hk
          have next : sortM b i s = true → ∀ (k : Nat) (hk : k < b.sorts.length), k < i + 1 → sortM b k b.sorts[k] = true := fun h => allI_next (p := fun k s => sortM b k s) hlt f4 (by rw [hsi]; exact h)
          simp -dsimp [e1, e2, e3, e4, e5, e6, e7]
          cases hd : s.dec with
          | false =>
            simp -dsimp [e1, e2, e3, e4, e5, e6, e7, hd]
            refine call_of (none7_ok s.dty) ?_
            simp -dsimp [e1, e2, e3, e4, e5, e6, e7, hd]
            (first | refine Ask_b ?_ ?_ | refine Cnd_b ?_ ?_) <;> intro c4 <;> (try simp only [nrm] at c4) <;> simp -dsimp [c4, e1, e2, e3, e4, e5, e6, e7, hd, w1]
            · exact noS (sortM_false (p := maybeM s.dec s.dty s.idx.length = true) (by rw [maybeM, hd]; simp [c4]) fun h => ((sortM_true b i s).1 h).2.2.1)
            · exact ⟨hlt, next ((sortM_true b i s).2 ⟨hRow, hLev, by rw [maybeM, hd]; exact c4, fun a ha => sortBad_of (hbads a ha) fun _ => hd⟩)⟩
          | true =>
            cases hrec : s.idx.any (·.rc) with
            | true =>
              rw [hrec] at e7
              simp -dsimp [e1, e2, e3, e4, e5, e6, e7, hd]
              obtain ⟨a, ha, har⟩ := List.any_eq_true.1 hrec
              refine noS (sortM_false (p := sortBad i s a = false) ?_ fun h => ((sortM_true b i s).1 h).2.2.2 a ha)
              have har : a.rc = true := har
              simp [sortBad, har, hd]
            | false =>
              rw [hrec] at e7
              simp -dsimp [e1, e2, e3, e4, e5, e6, e7, hd]
              refine call_of (open7_ok s.dty _ (by omega)) ?_
              simp -dsimp [e1, e2, e3, e4, e5, e6, e7, hd]
              (first | refine Ask_b ?_ ?_ | refine Cnd_b ?_ ?_) <;> intro c4 <;> (try simp only [nrm] at c4) <;> simp -dsimp [c4, e1, e2, e3, e4, e5, e6, e7, hd, w1]
              · exact noS (sortM_false (p := maybeM s.dec s.dty s.idx.length = true) (by rw [maybeM, hd]; simp [c4]) fun h => ((sortM_true b i s).1 h).2.2.1)
              · exact ⟨hlt, next ((sortM_true b i s).2 ⟨hRow, hLev, by rw [maybeM, hd]; exact c4, fun a ha => sortBad_of (hbads a ha) fun har => absurd har (by simpa using List.any_eq_false.1 hrec a ha)⟩)⟩
    · have e : i = b.sorts.length := by omega
      subst e
      simp -dsimp [f1, f2, f3]
      clear f3 hi
      refine wp_upto b.cons.length (fun i st => st.s 1 = .ptr 1 1 0 ∧ st.h 1 = ⟨1, .box [.d (.sl 6 (b.sorts.map eSo)), .d (.sl 6 (b.cons.map eCo)), .d (.int .i64 b.elim)] false⟩ ∧ st.s 7 = .d (.int .i64 i) ∧
        ∀ (j : Nat) (hj : j < b.cons.length), j < i → conM b b.cons[j] = true) ?_ ?_
      · simp -dsimp [f1, f2]
      · clear f1 f2 s hp
        rintro i ⟨s, hp⟩ hi ⟨f1, f2, f3, f5⟩
        dsimp only at f1 f2 f3
        rcases Nat.lt_or_ge i b.cons.length with hlt | hge
        · have w1 : IntKind.i64.wrap ((i : Int) + 1) = (i : Int) + 1 := wrap_id (by omega) (by omega)
          simp -dsimp [f1, f2, f3, hlt, eCo, cCo, cT, eArs, eTs]
          refine call_of (con7_ok b b.cons[i]) ?_
          simp -dsimp [f1, f2, f3, hlt]
          (first | refine Ask_b ?_ ?_ | refine Cnd_b ?_ ?_) <;> intro h6 <;> (try simp only [nrm] at h6) <;> simp -dsimp [h6, f1, f2, f3, hlt, w1]
          · exact no (p := conM b b.cons[i] = true) (by rw [h6]; simp) fun h => ((checkB_zero b).1 h).2.2.2.2.2 _ (List.getElem_mem _)
          · exact upto_next (p := conM b) hlt f5 h6
        · have e : i = b.cons.length := by omega
          subst e
          have hAll : shapeR b = true := by
            rw [shapeR, decide_eq_true_eq, checkB_zero]
            refine ⟨by omega, by omega, hCl, g3, fun j hj => f4 j hj hj, fun c hc => ?_⟩
            obtain ⟨k, hk, rfl⟩ := List.mem_iff_getElem.1 hc
            exact f5 k hk hk
          simp -dsimp [f1, f2, f3, hAll]
end
section
attribute [local simp] allD_map_d sks_map_d tk tn tks initA EndsM
theorem ns_ok (b : Bl) : Pure Tryz.prog n_porismref07_ns [eBl b] [.int .i64 b.sorts.length] := by
  refine p_porismref07_ns rfl fun hs => ?_
  simp -dsimp [x_porismref07_ns, eBl, cBl, eSos, eCos]
theorem decs_len {l : List So} {i : Nat} (h : l.length ≤ i) : decs (l.take i) = decs l := by rw [List.take_of_length_le h]
theorem decs7_ok (b : Bl) (k : Int) : Pure Tryz.prog n_porismref07_decs [eBl b, .int .i64 k] [.int .i64 (decs (b.sorts.take k.toNat))] := by
  refine p_porismref07_decs rfl fun hs => ?_
  have hbl : ((b.sorts.length : Int)) ≤ 9223372036854775807 := by
    have := hs (eBl b) (by simp)
    simp -dsimp [eBl, cBl, eSos, small] at this
    omega
  simp -dsimp [x_porismref07_decs, eBl, cBl, eSos, eCos]
  have hl := decs_len (l := b.sorts) (i := k.toNat)
  refine wp_upto (min k.toNat b.sorts.length) (fun i st => st.s 1 = .d (.int .i64 k) ∧ st.s 2 = .ptr 2 1 0 ∧ st.h 2 = ⟨1, .box [.d (.sl 6 (b.sorts.map eSo)), .d (.sl 6 (b.cons.map eCo)), .d (.int .i64 b.elim)] false⟩ ∧
    st.s 6 = .d (.int .i64 i) ∧ st.s 5 = .d (.int .i64 (decs (b.sorts.take i)))) ?_ ?_
  · simp -dsimp [decs]
  · rintro i ⟨s, hp⟩ hi ⟨g1, g2, g3, g4, g5⟩
    dsimp only at g1 g2 g3 g4 g5
    rcases Nat.lt_or_ge i (min k.toNat b.sorts.length) with hlt | hge
    · have hlt1 : (i : Int) < k := by omega
      have hlt2 : i < b.sorts.length := by omega
      have hlt3 : i < k.toNat := by omega
      have w1 : IntKind.i64.wrap ((i : Int) + 1) = (i : Int) + 1 := wrap_id (by omega) (by omega)
      have hd := decs_le (b.sorts.take i)
      rw [List.length_take] at hd
      have w2 : IntKind.i64.wrap ((decs (b.sorts.take i) : Int) + 1) = (decs (b.sorts.take i) : Int) + 1 := wrap_id (by omega) (by omega)
      have hsn := decs_snoc b.sorts i b.sorts[i] (List.getElem?_eq_getElem hlt2)
      simp -dsimp [g1, g2, g3, g4, g5, hlt1, hlt2, eSo, cSo, cT, eArs]
      cases hxd : b.sorts[i].dec <;> simp -dsimp [hlt, hxd, g1, g2, g3, g4, g5, hlt1, hlt2, hlt3, w1, w2, hsn]
    · have e : i = min k.toNat b.sorts.length := by omega
      rcases Nat.lt_or_ge k.toNat b.sorts.length with c | c
      · have e2 : i = k.toNat := by omega
        have n1 : ¬(max k 0 < k) := by omega
        clear e
        subst e2
        simp -dsimp [g1, g2, g3, g4, g5, n1]
      · have e2 : i = b.sorts.length := by omega
        rw [hl c]
        clear e
        subst e2
        rw [List.take_length] at g5
        simp -dsimp [g1, g2, g3, g4, g5]
        (first | refine Ask_b ?_ ?_ | refine Cnd_b ?_ ?_) <;> intro n1 <;> (try simp only [nrm] at n1) <;> simp -dsimp [n1, g1, g2, g3, g4, g5]
theorem count7_ok (b : Bl) : Pure Tryz.prog n_porismref07_Count [eBl b] [.int .i64 (count b)] := by
  refine p_porismref07_Count rfl fun hs => ?_
  simp -dsimp [x_porismref07_Count, eBl, cBl, eSos, eCos]
  refine call_of (ns_ok b) ?_
  simp -dsimp
  refine call_of (ns_ok b) ?_
  simp -dsimp
  refine call_of (decs7_ok b b.sorts.length) ?_
  simp -dsimp [count, w64]
theorem former7_ok (b : Bl) (hf : Fit b) (base k : Int) : Pure Tryz.prog n_porismref07_Former [eBl b, .int .i64 base, .int .i64 k] [.int .i64 (former b base k)] := by
  refine p_porismref07_Former rfl fun hs => ?_
  have hfs := hf.s
  simp -dsimp [x_porismref07_Former, eBl, cBl, eSos, eCos]
  refine call_of (in7_ok base 0 65535) ?_
  simp -dsimp
  (first | refine Ask_b ?_ ?_ | refine Cnd_b ?_ ?_) <;> intro g1 <;> (try simp only [nrm] at g1) <;> simp -dsimp [g1]
  · have h5 := (inB_not _ _ _).1 g1
    rw [former, place, if_pos (by omega)]
  refine call_of (ns_ok b) ?_
  have wS : IntKind.i64.wrap ((b.sorts.length : Int) - 1) = (b.sorts.length : Int) - 1 := wrap_id (by omega) (by omega)
  simp -dsimp [g1, wS]
  refine call_of (in7_ok k 0 _) ?_
  simp -dsimp [g1]
  have h5 := (inB_iff _ _ _).1 g1
  rw [former_is hf h5.1 h5.2]
  (first | refine Ask_b ?_ ?_ | refine Cnd_b ?_ ?_) <;> intro g2 <;> (try simp only [nrm] at g2) <;> simp -dsimp [g2, g1]
  · have h6 := (inB_not _ _ _).1 g2
    intros
    omega
  have h6 := (inB_iff _ _ _).1 g2
  rw [if_pos (by omega)]
  exact wrap_id (by omega) (by omega)
theorem eliminator7_ok (b : Bl) (hf : Fit b) (base k : Int) : Pure Tryz.prog n_porismref07_Eliminator [eBl b, .int .i64 base, .int .i64 k] [.int .i64 (eliminator b base k)] := by
  refine p_porismref07_Eliminator rfl fun hs => ?_
  have hfs := hf.s
  have hfc := hf.c
  have hd := decs_le b.sorts
  simp -dsimp [x_porismref07_Eliminator, eBl, cBl, eSos, eCos]
  refine call_of (in7_ok base 0 65535) ?_
  simp -dsimp
  (first | refine Ask_b ?_ ?_ | refine Cnd_b ?_ ?_) <;> intro g1 <;> (try simp only [nrm] at g1) <;> simp -dsimp [g1]
  · have h5 := (inB_not _ _ _).1 g1
    rw [eliminator, place, if_pos (by omega)]
  refine call_of (ns_ok b) ?_
  have wS : IntKind.i64.wrap ((b.sorts.length : Int) - 1) = (b.sorts.length : Int) - 1 := wrap_id (by omega) (by omega)
  simp -dsimp [g1, wS]
  refine call_of (in7_ok k 0 _) ?_
  simp -dsimp [g1]
  have h5 := (inB_iff _ _ _).1 g1
  rw [eliminator_is hf h5.1 h5.2]
  (first | refine Ask_b ?_ ?_ | refine Cnd_b ?_ ?_) <;> intro g2 <;> (try simp only [nrm] at g2) <;> simp -dsimp [g2, g1]
  · have h6 := (inB_not _ _ _).1 g2
    intros
    omega
  have h6 := (inB_iff _ _ _).1 g2
  rw [if_pos (by omega)]
  refine call_of (ns_ok b) ?_
  simp -dsimp
  refine call_of (ns_ok b) ?_
  simp -dsimp
  refine call_of (decs7_ok b b.sorts.length) ?_
  simp -dsimp
  rw [wrap_id (n := base + (b.sorts.length : Int)) (by omega) (by omega), wrap_id (n := base + (b.sorts.length : Int) + decs b.sorts) (by omega) (by omega), wrap_id (n := base + (b.sorts.length : Int) + decs b.sorts + b.cons.length) (by omega) (by omega), wrap_id (by omega) (by omega)]
  omega
theorem constructor7_ok (b : Bl) (hf : Fit b) (base k : Int) : Pure Tryz.prog n_porismref07_Constructor [eBl b, .int .i64 base, .int .i64 k] [.int .i64 (constructor_ b base k)] := by
  refine p_porismref07_Constructor rfl fun hs => ?_
  have hfs := hf.s
  have hfc := hf.c
  have hd := decs_le b.sorts
  simp -dsimp [x_porismref07_Constructor, eBl, cBl, eSos, eCos]
  refine call_of (in7_ok base 0 65535) ?_
  simp -dsimp
  (first | refine Ask_b ?_ ?_ | refine Cnd_b ?_ ?_) <;> intro g1 <;> (try simp only [nrm] at g1) <;> simp -dsimp [g1]
  · have h5 := (inB_not _ _ _).1 g1
    rw [constructor_, place, if_pos (by omega)]
  have wS : IntKind.i64.wrap ((b.cons.length : Int) - 1) = (b.cons.length : Int) - 1 := wrap_id (by omega) (by omega)
  simp -dsimp [g1, wS]
  refine call_of (in7_ok k 0 _) ?_
  simp -dsimp [g1]
  have h5 := (inB_iff _ _ _).1 g1
  rw [constructor_is hf h5.1 h5.2]
  (first | refine Ask_b ?_ ?_ | refine Cnd_b ?_ ?_) <;> intro g2 <;> (try simp only [nrm] at g2) <;> simp -dsimp [g2, g1]
  · have h6 := (inB_not _ _ _).1 g2
    intros
    omega
  have h6 := (inB_iff _ _ _).1 g2
  rw [if_pos (by omega)]
  refine call_of (ns_ok b) ?_
  simp -dsimp
  refine call_of (ns_ok b) ?_
  simp -dsimp
  refine call_of (decs7_ok b b.sorts.length) ?_
  simp -dsimp
  rw [wrap_id (n := base + (b.sorts.length : Int)) (by omega) (by omega), wrap_id (n := base + (b.sorts.length : Int) + decs b.sorts) (by omega) (by omega), wrap_id (by omega) (by omega)]
  omega
theorem decoder7_ok (b : Bl) (hf : Fit b) (base k : Int) : Pure Tryz.prog n_porismref07_Decoder [eBl b, .int .i64 base, .int .i64 k] [.int .i64 (decoder b base k)] := by
  refine p_porismref07_Decoder rfl fun hs => ?_
  have hfs := hf.s
  simp -dsimp [x_porismref07_Decoder, eBl, cBl, eSos, eCos]
  refine call_of (in7_ok base 0 65535) ?_
  simp -dsimp
  (first | refine Ask_b ?_ ?_ | refine Cnd_b ?_ ?_) <;> intro g1 <;> (try simp only [nrm] at g1) <;> simp -dsimp [g1]
  · have h5 := (inB_not _ _ _).1 g1
    rw [decoder]
    split
    · rfl
    · split
      · rfl
      · split
        · rw [place, if_pos (by omega)]
        · rfl
  refine call_of (ns_ok b) ?_
  have wS : IntKind.i64.wrap ((b.sorts.length : Int) - 1) = (b.sorts.length : Int) - 1 := wrap_id (by omega) (by omega)
  simp -dsimp [g1, wS]
  refine call_of (in7_ok k 0 _) ?_
  simp -dsimp [g1]
  have h5 := (inB_iff _ _ _).1 g1
  rw [decoder_is hf h5.1 h5.2]
  (first | refine Ask_b ?_ ?_ | refine Cnd_b ?_ ?_) <;> intro g2 <;> (try simp only [nrm] at g2) <;> simp -dsimp [g2, g1]
  · have h6 := (inB_not _ _ _).1 g2
    intro h
    omega
  have h6 := (inB_iff _ _ _).1 g2
  have hlt : k.toNat < b.sorts.length := by omega
  rw [dif_pos (by omega)]
  simp -dsimp [g1, g2, h6.1, hlt, eSo, cSo, cT, eArs]
  (first | refine Ask_b ?_ ?_ | refine Cnd_b ?_ ?_) <;> intro g4 <;> (try simp only [nrm] at g4) <;> simp -dsimp [g4, g1, g2, h6.1, hlt, eSo, cSo, cT, eArs]
  rw [if_pos g4]
  refine call_of (ns_ok b) ?_
  simp -dsimp
  refine call_of (decs7_ok b k) ?_
  simp -dsimp
  have hd := decs_le (b.sorts.take k.toNat)
  rw [List.length_take] at hd
  rw [wrap_id (n := base + (b.sorts.length : Int)) (by omega) (by omega), wrap_id (by omega) (by omega)]
theorem of7_ok (b : Bl) (hf : Fit b) (base n : Int) (hn : is64 n) : Pure Tryz.prog n_porismref07_Of [eBl b, .int .i64 base, .int .i64 n] [.int .i64 (ofM b base n).1, .int .i64 (ofM b base n).2] := by
  refine p_porismref07_Of rfl fun hs => ?_
  have hfs := hf.s
  have hfc := hf.c
  simp -dsimp [x_porismref07_Of, eBl, cBl, eSos, eCos]
  refine wp_upto b.sorts.length (fun i st => st.s 3 = .ptr 3 1 0 ∧ st.h 3 = ⟨1, .box [.d (.sl 6 (b.sorts.map eSo)), .d (.sl 6 (b.cons.map eCo)), .d (.int .i64 b.elim)] false⟩ ∧ st.s 1 = .d (.int .i64 base) ∧ st.s 2 = .d (.int .i64 n) ∧
    st.s 8 = .d (.int .i64 i) ∧ ∀ j : Nat, j < i → 0 ≤ n → former b base j ≠ n ∧ decoder b base j ≠ n ∧ eliminator b base j ≠ n) ?_ ?_
  · simp -dsimp
  · rintro i ⟨s, hp⟩ hi ⟨g1, g2, g3, g4, g5, g6⟩
    dsimp only at g1 g2 g3 g4 g5
    simp -dsimp [g1, g2, g3, g4, g5]
    refine call_of (ns_ok b) ?_
    rcases Nat.lt_or_ge i b.sorts.length with hlt | hge
    · have w1 : IntKind.i64.wrap ((i : Int) + 1) = (i : Int) + 1 := wrap_id (by omega) (by omega)
      simp -dsimp [g1, g2, g3, g4, g5, hlt]
      refine call_of (former7_ok b hf base i) ?_
      simp -dsimp [g1, g2, g3, g4, g5, hlt]
      by_cases nn : 0 ≤ n
      · by_cases c1 : former b base i = n
        · have ho := of_former hf nn c1
          simp -dsimp [g1, g2, g3, g4, g5, hlt, w1, c1, nn, ho]
        simp -dsimp [g1, g2, g3, g4, g5, hlt, w1, c1]
        refine call_of (decoder7_ok b hf base i) ?_
        simp -dsimp [g1, g2, g3, g4, g5, hlt, w1, c1]
        by_cases c2 : decoder b base i = n
        · have ho := of_decoder hf nn c2
          simp -dsimp [g1, g2, g3, g4, g5, hlt, w1, c1, c2, nn, ho]
        simp -dsimp [g1, g2, g3, g4, g5, hlt, w1, c1, c2]
        refine call_of (eliminator7_ok b hf base i) ?_
        simp -dsimp [g1, g2, g3, g4, g5, hlt, w1, c1, c2]
        by_cases c3 : eliminator b base i = n
        · have ho := of_eliminator hf nn c3
          simp -dsimp [g1, g2, g3, g4, g5, hlt, w1, c1, c2, c3, nn, ho]
        simp -dsimp [g1, g2, g3, g4, g5, hlt, w1, c1, c2, c3]
        intro j hj hnn
        rcases Nat.lt_or_ge j i with h | h
        · exact g6 j h hnn
        · have : j = i := by omega
          subst this
          exact ⟨c1, c2, c3⟩
      · generalize decide (former b base i = n) = q1
        cases q1 <;> simp -dsimp [g1, g2, g3, g4, g5, hlt, w1, nn] <;> refine call_of (decoder7_ok b hf base i) ?_ <;> simp -dsimp [g1, g2, g3, g4, g5, hlt, w1, nn] <;>
          generalize decide (decoder b base i = n) = q2 <;> cases q2 <;> simp -dsimp [g1, g2, g3, g4, g5, hlt, w1, nn] <;> refine call_of (eliminator7_ok b hf base i) ?_ <;> simp -dsimp [g1, g2, g3, g4, g5, hlt, w1, nn] <;>
          generalize decide (eliminator b base i = n) = q3 <;> cases q3 <;> simp -dsimp [g1, g2, g3, g4, g5, hlt, w1, nn] <;> omega
    · have e : i = b.sorts.length := by omega
      subst e
      simp -dsimp [g1, g2, g3, g4, g5]
      clear hi g5
      refine wp_upto b.cons.length (fun i st => st.s 3 = .ptr 3 1 0 ∧ st.h 3 = ⟨1, .box [.d (.sl 6 (b.sorts.map eSo)), .d (.sl 6 (b.cons.map eCo)), .d (.int .i64 b.elim)] false⟩ ∧ st.s 1 = .d (.int .i64 base) ∧ st.s 2 = .d (.int .i64 n) ∧
        st.s 9 = .d (.int .i64 i) ∧ ∀ j : Nat, j < i → 0 ≤ n → constructor_ b base j ≠ n) ?_ ?_
      · simp -dsimp [g1, g2, g3, g4]
      · clear g1 g2 g3 g4 s hp
        rintro i ⟨s, hp⟩ hi ⟨g1, g2, g3, g4, g5, g7⟩
        dsimp only at g1 g2 g3 g4 g5
        rcases Nat.lt_or_ge i b.cons.length with hlt | hge
        · have w1 : IntKind.i64.wrap ((i : Int) + 1) = (i : Int) + 1 := wrap_id (by omega) (by omega)
          simp -dsimp [g1, g2, g3, g4, g5, hlt]
          refine call_of (constructor7_ok b hf base i) ?_
          simp -dsimp [g1, g2, g3, g4, g5, hlt, w1]
          by_cases nn : 0 ≤ n
          · by_cases c1 : constructor_ b base i = n
            · have ho := of_constructor hf nn c1
              simp -dsimp [g1, g2, g3, g4, g5, hlt, w1, c1, nn, ho]
            simp -dsimp [g1, g2, g3, g4, g5, hlt, w1, c1]
            intro j hj hnn
            rcases Nat.lt_or_ge j i with h | h
            · exact g7 j h hnn
            · have : j = i := by omega
              subst this
              exact c1
          · generalize decide (constructor_ b base i = n) = q1
            cases q1 <;> simp -dsimp [g1, g2, g3, g4, g5, hlt, w1, nn] <;> omega
        · have e : i = b.cons.length := by omega
          subst e
          have ho : ofM b base n = (0, 0) := of_none hf hn fun e he k hk nn => by
            simp only [tab, List.mem_cons, List.not_mem_nil, or_false] at he
            rcases he with rfl | rfl | rfl | rfl <;> simp only at hk ⊢
            · exact (g6 k hk nn).1
            · exact (g6 k hk nn).2.1
            · exact g7 k hk nn
            · exact (g6 k hk nn).2.2
          simp -dsimp [g1, g2, g3, g4, g5, ho]
end
section
attribute [local simp] allD_map_d sks_map_d tk tn tks initA EndsM
theorem u64_id {n : Int} (h1 : 0 ≤ n) (h2 : n < 18446744073709551616) : IntKind.u64.wrap n = n := by
  simp only [IntKind.wrap]
  exact Int.emod_eq_of_lt h1 h2
/-- With its first constructors alone. -/
def fewB (b : Bl) (m : Nat) : Bl := ⟨b.sorts, b.cons.take m, b.elim⟩
theorem few_right {b : Bl} (h : checkB b = 0) (m : Nat) : checkB (fewB b m) = 0 := by
  obtain ⟨h1, h2, h3, h4, h5, h6⟩ := (checkB_zero b).1 h
  refine (checkB_zero (fewB b m)).2 ⟨h1, h2, ?_, h4, h5, fun c hc => h6 c (List.mem_of_mem_take hc)⟩
  simp only [fewB, List.length_take]
  omega
end
section
attribute [local simp] allD_map_d sks_map_d tk tn tks initA EndsM
theorem checkB_two (b : Bl) : checkB b = if shapeR b then 0 else 12 := by
  rw [shapeR]
  by_cases h : checkB b = 0
  · simp [h]
  · have : checkB b = 12 := by
      rw [checkB] at h ⊢
      repeat' split
      all_goals first | rfl | (exfalso; apply h; simp_all)
    simp [this]
end
end Ev
end Go.Proofs.YtncmainjcffanaaGreat
