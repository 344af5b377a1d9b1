/- posit's laws: constants that terms name; variables counted (the document's). -/
import Derived.Test.YthopdhnbflkabaaO4
namespace Go.Proofs.Ythopdhnbflkabaa
namespace Ev
open Go
set_option maxRecDepth 100000
set_option linter.unusedSimpArgs false
set_option linter.unusedVariables false
attribute [local simp ↓] wx_skip wx_region wx_seq wx_block wx_exit wx_ret wx_cond wx_loop wo_nil wo_run wo_ask wx_draw wt_nil wt_run_t wt_run_f wt_ask_t wt_ask_f rb_mv rb_nilrow rb_pick rb_alloc rb_box rb_load rb_store rb_nilck rb_bin rb_binb rb_un rb_conv rb_mkf rb_mks rb_slice rb_faddr rb_fld rb_iaddr rb_ext rb_len rb_app rb_mm rb_build rb_bslice run_callC upd_eq upd_ne
attribute [local simp] runB_some runB_none Tch_nil Tch_cons Chk_t Cnd_t Cnd_f Ask_tt Ask_ff Ask_tf Ask_ft Ask_skip act ev_t ev_c evs sks caps2 touch_call List.cons_append List.nil_append putS binI binB int_add int_sub int_mul int_quo int_rem int_or int_eql int_neq int_lss int_leq int_gtr int_geq shiftD Ex.then Ex.inBlock Ends resL resX allD toD_d toD_fsl sk_d sk_fsl none_ loadA cut wrapA wrapD avc_d avc_agg avc_fsl avc_rsl avc_ptr avc_eptr avc_clo dc_agg dc_int dc_bool dc_str dc_sl dc_nilp dc_rp dc_clo on_int on_bool on_str on_sl on_nilp on_rp on_clo on_fsl on_rsl on_ptr on_eptr on_cloA newE elemsA elemsS storeA put frz_nil deep callee resA initS touchOp fits compat rd wr key1 buildA partsD partsK idx frz_at Body.frz lk_hit lk_miss toD6_agg toD5_agg toD4_agg toD6_clo toD5_clo toD4_clo toD6_ptr toD5_ptr toD4_ptr sk6_agg sk5_agg sk4_agg sk6_clo sk5_clo sk4_clo sk6_ptr sk5_ptr sk4_ptr toD_rsl sk_rsl resK EndsP EndsMP fitVs fitCs fitC keysV keysC keyC cellsA1 skVs skCs skC1 resO tupA valsV cellsV oneV rowsV rowsC RV.cells nk rowsH_one rowsH_two rowsH_none
section
attribute [local simp] allD_map_d sks_map_d tk tn tks initA EndsM
/-- Where a number stands in a rising list. -/
def kI : List Int → Int → Nat
  | [], _ => 0
  | x :: xs, n => if x < n then kI xs n + 1 else 0
theorem kI_le (n : Int) : ∀ l : List Int, kI l n ≤ l.length
  | [] => by simp [kI]
  | x :: xs => by
    rw [kI]
    split
    · have := kI_le n xs; simp; omega
    · simp
theorem kI_lt (n : Int) : ∀ (l : List Int) (i : Nat) (hi : i < l.length), i < kI l n → l[i] < n
  | x :: xs, 0, hi, h => by
    rw [kI] at h
    split at h
    · simpa
    · omega
  | x :: xs, i + 1, hi, h => by
    rw [kI] at h
    split at h
    · exact kI_lt n xs i (by simpa using hi) (by omega)
    · omega
theorem kI_at (n : Int) : ∀ (l : List Int) (hi : kI l n < l.length), ¬ l[kI l n] < n
  | x :: xs, hi => by
    by_cases hx : x < n
    · have e : kI (x :: xs) n = kI xs n + 1 := by rw [kI, if_pos hx]
      have h := kI_at n xs (by rw [e] at hi; simpa using hi)
      simp only [e, List.getElem_cons_succ]
      exact h
    · have e : kI (x :: xs) n = 0 := by rw [kI, if_neg hx]
      simp only [e, List.getElem_cons_zero]
      exact hx
def joinL (l : List Int) (n : Int) : List Int := if l[kI l n]? = some n then l else l.take (kI l n) ++ n :: l.drop (kI l n)
theorem join_mem {l : List Int} {n x : Int} : x ∈ joinL l n ↔ x = n ∨ x ∈ l := by
  rw [joinL]
  split
  · rename_i h
    constructor
    · exact .inr
    · rintro (rfl | h')
      · exact List.mem_of_getElem? h
      · exact h'
  · have e : x ∈ l ↔ x ∈ l.take (kI l n) ∨ x ∈ l.drop (kI l n) := by rw [← List.mem_append, List.take_append_drop]
    rw [List.mem_append, List.mem_cons, e]
    constructor
    · rintro (h | h | h)
      · exact .inr (.inl h)
      · exact .inl h
      · exact .inr (.inr h)
    · rintro (h | h | h)
      · exact .inr (.inl h)
      · exact .inl h
      · exact .inr (.inr h)
theorem join_len (l : List Int) (n : Int) : (joinL l n).length ≤ l.length + 1 := by
  rw [joinL]
  split
  · omega
  · have := kI_le n l
    simp
    omega
theorem join_ok (l : List Int) (n : Int) (hl : l.length ≤ 100000000) : Pure Try.prog n_porismref01_Join [.sl 1 (l.map (.int .i64)), .int .i64 n] [.sl 1 ((joinL l n).map (.int .i64))] := by
  refine p_porismref01_Join rfl fun hs => ?_
  have hk := kI_le n l
  have hka := kI_at n l
  have hkl := kI_lt n l
  have hJ1 : l[kI l n]? = some n → joinL l n = l := fun h => by rw [joinL, if_pos h]
  have hJ2 : ¬ l[kI l n]? = some n → joinL l n = l.take (kI l n) ++ n :: l.drop (kI l n) := fun h => by rw [joinL, if_neg h]
  generalize kI l n = K at *
  simp -dsimp [x_porismref01_Join]
  refine wp_upto K (fun i st => st.s 0 = .d (.sl 1 (l.map (.int .i64))) ∧ st.s 1 = .d (.int .i64 n) ∧ st.s 5 = .d (.int .i64 i)) ?_ ?_
  · simp -dsimp
  · rintro i ⟨s, hp⟩ hi ⟨g0, g1, g5⟩
    dsimp only at g0 g1 g5
    rcases Nat.lt_or_ge i K with hlt | hge
    · have w1 : IntKind.i64.wrap ((i : Int) + 1) = (i : Int) + 1 := wrap_id (by omega) (by omega)
      have hil : i < l.length := by omega
      have hx := hkl i hil hlt
      simp -dsimp [g0, g1, g5, hil, hx, w1]
      exact hlt
    · have e : i = K := by omega
      subst e
      by_cases hil : i < l.length
      case neg =>
        have e2 : i = l.length := by omega
        subst e2
        have hj := hJ2 (by simp)
        rw [hj]
        have hr : (l.length + 1) * 8 ≤ maxRoom := by simp only [maxRoom]; omega
        have hr2 : l.length * 8 ≤ maxRoom := by simp only [maxRoom]; omega
        simp -dsimp [g0, g1, g5, hr, hr2]
        exact List.take_of_length_le (by simp)
      have hx := hka hil
      have hile : i ≤ l.length := by omega
      have hge : l[i]? = some l[i] := List.getElem?_eq_getElem hil
      rw [hge] at hJ1 hJ2
      have htl : List.take l.length (l.map (.int .i64)) = l.map (D.int .i64) := List.take_of_length_le (by simp)
      have hr : (i + 1 + (l.length - i)) * 8 ≤ maxRoom := by simp only [maxRoom]; omega
      have hr1 : (i + 1) * 8 ≤ maxRoom := by simp only [maxRoom]; omega
      have hr2 : i * 8 ≤ maxRoom := by simp only [maxRoom]; omega
      by_cases he : l[i] = n
      · have hj := hJ1 (by rw [he])
        rw [hj]
        simp -dsimp [g0, g1, g5, hil, hx, he]
      · have hj := hJ2 (by simpa using he)
        rw [hj]
        simp -dsimp [g0, g1, g5, hil, hile, hx, he, hr, hr1, hr2, htl]
mutual
def csT : T → List Int
  | .mk k n ks => csL (if k = 3 then joinL [] n else []) ks
def csL : List Int → List T → List Int
  | a, [] => a
  | a, x :: xs => csL ((csT x).foldl joinL a) xs
end
theorem csL_snoc : ∀ (l : List T) (a : List Int) (j : Nat) (h : j < l.length), csL a (l.take (j + 1)) = (csT l[j]).foldl joinL (csL a (l.take j))
  | x :: xs, a, 0, h => by simp [csL]
  | x :: xs, a, j + 1, h => by
    simp only [List.take_succ_cons, csL, List.getElem_cons_succ]
    exact csL_snoc xs _ j (by simpa using h)
theorem fold_len : ∀ (l a : List Int), (l.foldl joinL a).length ≤ a.length + l.length
  | [], a => by simp
  | x :: xs, a => by
    have h1 := fold_len xs (joinL a x)
    have h2 := join_len a x
    simp only [List.foldl_cons, List.length_cons]
    omega
theorem fold_mem {c : Int} : ∀ (l a : List Int), c ∈ l.foldl joinL a ↔ c ∈ a ∨ c ∈ l
  | [], a => by simp
  | x :: xs, a => by
    rw [List.foldl_cons, fold_mem xs, join_mem, List.mem_cons]
    constructor
    · rintro ((h | h) | h)
      · exact .inr (.inl h)
      · exact .inl h
      · exact .inr (.inr h)
    · rintro (h | h | h)
      · exact .inl (.inr h)
      · exact .inl (.inl h)
      · exact .inr h
theorem cs_len (t : T) : (csT t).length ≤ nodes t := by
  refine T.ind (p := fun t => (csT t).length ≤ nodes t) ?_ t
  intro k n ks ih
  rw [csT, nodes]
  have h0 : (if k = 3 then joinL [] n else []).length ≤ 1 := by
    split
    · exact join_len [] n
    · simp
  generalize (if k = 3 then joinL [] n else []) = a at h0
  have go : ∀ (l : List T) (a : List Int), (∀ x ∈ l, x ∈ ks) → (csL a l).length ≤ a.length + (l.map nodes).sum := by
    intro l
    induction l with
    | nil => intro a _; simp [csL]
    | cons x xs ihx =>
      intro a hm
      have h1 := ih x (hm x (by simp))
      have h2 := ihx ((csT x).foldl joinL a) fun y hy => hm y (by simp [hy])
      have h3 := fold_len (csT x) a
      simp only [csL, List.map_cons, List.sum_cons]
      omega
  have := go ks a fun x hx => hx
  omega
theorem cs_mem {c : Int} {k n : Int} {ks : List T} : c ∈ csT (.mk k n ks) ↔ (k = 3 ∧ c = n) ∨ ∃ x ∈ ks, c ∈ csT x := by
  rw [csT]
  have go : ∀ (l : List T) (a : List Int), c ∈ csL a l ↔ c ∈ a ∨ ∃ x ∈ l, c ∈ csT x := by
    intro l
    induction l with
    | nil => intro a; simp [csL]
    | cons x xs ihx =>
      intro a
      rw [csL, ihx, fold_mem]
      simp only [List.mem_cons, exists_eq_or_imp]
      constructor
      · rintro ((h | h) | h)
        · exact .inl h
        · exact .inr (.inl h)
        · exact .inr (.inr h)
      · rintro (h | h | h)
        · exact .inl (.inl h)
        · exact .inl (.inr h)
        · exact .inr h
  rw [go]
  by_cases hk : k = 3
  · rw [if_pos hk, join_mem]; simp [hk]
  · rw [if_neg hk]; simp [hk]
theorem consts_ok (t : T) : nodes t ≤ 1000000 → Pure Try.prog n_porismref01_Consts [.agg (cT t)] [.sl 1 ((csT t).map (.int .i64))] := by
  refine T.ind (p := fun t => nodes t ≤ 1000000 → Pure Try.prog n_porismref01_Consts [.agg (cT t)] [.sl 1 ((csT t).map (.int .i64))]) ?_ t
  intro k n ks ih hb
  refine p_porismref01_Consts rfl fun hs => ?_
  have hF : csT (.mk k n ks) = csL (if k = 3 then joinL [] n else []) ks := by rw [csT]
  have hlen : ∀ i, i ≤ ks.length → (csL (if k = 3 then joinL [] n else []) (ks.take i)).length ≤ 1000000 := fun i hi => by
    have h1 := cs_len (.mk k n (ks.take i))
    rw [csT] at h1
    have h2 : nodes (.mk k n (ks.take i)) ≤ nodes (.mk k n ks) := by
      rw [nodes, nodes]
      have h3 : (ks.map nodes).sum = ((ks.take i).map nodes).sum + ((ks.drop i).map nodes).sum := by
        rw [← List.sum_append, ← List.map_append, List.take_append_drop]
      omega
    omega
  have hksl : ks.length ≤ 1000000 := by
    have : ks.length ≤ (ks.map nodes).sum := by
      clear ih hb hs hF hlen
      induction ks with
      | nil => simp
      | cons x xs ih => have := nodes_pos x; simp; omega
    rw [nodes] at hb
    omega
  rw [hF]
  have hA0 : k = 3 → (if k = 3 then joinL [] n else []) = joinL [] n := fun h => if_pos h
  have hA1 : ¬ k = 3 → (if k = 3 then joinL [] n else []) = [] := fun h => if_neg h
  generalize (if k = 3 then joinL [] n else []) = A at hA0 hA1 hlen ⊢
  have hsn := csL_snoc ks A
  simp -dsimp [x_porismref01_Consts, cT]
  by_cases h3 : k = 3
  simp -dsimp [h3]
  refine call_of (join_ok [] n (by simp)) ?_
  simp -dsimp [h3]
  rotate_left
  simp -dsimp [h3]
  all_goals
    refine wp_upto ks.length (fun i st => st.s 1 = .ptr 1 1 0 ∧ (st.h 1 = ⟨1, .box [.d (.int .i64 k), .d (.int .i64 n), .d (.sl 3 (ks.map eT))] false⟩ ∧ st.s 2 = .rsl 2 1 ∧ st.h 2 = ⟨1, .row 1 [] false⟩) ∧ st.s 4 = .d (.int .i64 i) ∧
      (st.s 3 = .d (.sl 1 ((csL A (ks.take i)).map (.int .i64))) ∨ csL A (ks.take i) = [] ∧ ∃ v, st.s 3 = .rsl 3 v ∧ st.h 3 = ⟨v, .row 1 [] false⟩)) ?_ ?_
    · first | (have hA := hA0 h3; simp -dsimp [csL, h3, hA]) | (have hA := hA1 h3; simp -dsimp [csL, hA])
    · rintro i ⟨s, hp⟩ hi ⟨g1, ⟨k1, g2, k2⟩, g4, g3⟩
      dsimp only at g1 k1 g2 k2 g4 g3
      rcases Nat.lt_or_ge i ks.length with hlt | hge
      · have w1 : IntKind.i64.wrap ((i : Int) + 1) = (i : Int) + 1 := wrap_id (by omega) (by omega)
        have hkn := nodes_kid (k := k) (n := n) (List.getElem_mem hlt : ks[i] ∈ ks)
        have hC := ih _ (List.getElem_mem hlt) (by omega)
        have hcl := cs_len ks[i]
        have hs1 := hsn i hlt
        have hlen1 := hlen i (by omega)
        simp only [cT] at hC
        simp -dsimp [g1, k1, g2, k2, g4, hlt, cT]
        refine call_of hC ?_
        generalize csT ks[i] = C at *
        generalize csL A (ks.take (i + 1)) = B' at *
        generalize csL A (ks.take i) = B at *
        subst hs1
        simp -dsimp [g1, k1, g2, k2, g4, hlt]
        refine wp_upto C.length (fun j st => st.s 1 = .ptr 1 1 0 ∧ (st.h 1 = ⟨1, .box [.d (.int .i64 k), .d (.int .i64 n), .d (.sl 3 (ks.map eT))] false⟩ ∧ st.s 2 = .rsl 2 1 ∧ st.h 2 = ⟨1, .row 1 [] false⟩) ∧ st.s 4 = .d (.int .i64 i) ∧
          st.s 5 = .d (.sl 1 (C.map (.int .i64))) ∧ st.s 6 = .d (.int .i64 j) ∧
          (st.s 3 = .d (.sl 1 (((C.take j).foldl joinL B).map (.int .i64))) ∨ (C.take j).foldl joinL B = [] ∧ ∃ v, st.s 3 = .rsl 3 v ∧ st.h 3 = ⟨v, .row 1 [] false⟩)) ?_ ?_
        · simp -dsimp [g1, k1, g2, k2, g4]
          exact g3
        · clear g1 k1 g2 k2 g4 g3
          rintro j ⟨s, hp⟩ hj ⟨g1, ⟨k1, g2, k2⟩, g4, g5, g6, g3⟩
          dsimp only at g1 k1 g2 k2 g4 g5 g6 g3
          rcases Nat.lt_or_ge j C.length with hlt2 | hge2
          · have w2 : IntKind.i64.wrap ((j : Int) + 1) = (j : Int) + 1 := wrap_id (by omega) (by omega)
            have hfl := fold_len (C.take j) B
            rw [List.length_take] at hfl
            have hnx : (C.take (j + 1)).foldl joinL B = joinL ((C.take j).foldl joinL B) C[j] := by
              rw [take_snoc (List.getElem?_eq_getElem hlt2), List.foldl_append]; rfl
            rw [hnx]
            generalize (C.take j).foldl joinL B = G at *
            have hJ := join_ok G C[j] (by omega)
            rcases g3 with g3 | ⟨g3, v, g7, g8⟩
            · simp -dsimp [g1, k1, g2, k2, g4, g5, g6, g3, hlt2]
              refine call_of hJ ?_
              simp -dsimp [g1, k1, g2, k2, g4, g5, g6, hlt2, w2]
            · subst g3
              simp -dsimp [g1, k1, g2, k2, g4, g5, g6, g7, g8, hlt2]
              refine call_of hJ ?_
              simp -dsimp [g1, k1, g2, k2, g4, g5, g6, hlt2, w2]
          · have e : j = C.length := by omega
            subst e
            rw [List.take_length] at g3
            simp -dsimp [g1, k1, g2, k2, g4, g5, g6, w1]
            exact ⟨hlt, g3⟩
      · have e : i = ks.length := by omega
        subst e
        rw [List.take_length] at g3
        rcases g3 with g3 | ⟨g3, v, g7, g8⟩
        · simp -dsimp [g1, k1, g2, k2, g4, g3]
        · simp -dsimp [g1, k1, g2, k2, g4, g3, g7, g8]
/-- A row's terms. -/
def arT (a : Ar) : List T := a.ty :: (a.dom ++ a.idx)
def arTs (l : List Ar) : List T := (l.map arT).flatten
def soT (s : So) : List T := s.dty :: arTs s.idx
def coT (c : Co) : List T := c.dec :: (c.idx ++ arTs c.args)
def blT (b : Bl) : List T := (b.sorts.map soT).flatten ++ (b.cons.map coT).flatten
def nmB (b : Bl) (c : Int) : Bool := (blT b).any fun t => (csT t).any (· == c)
theorem flat_snoc {α : Type} (f : α → List T) (l : List α) (i : Nat) (h : i < l.length) : ((l.take (i + 1)).map f).flatten = ((l.take i).map f).flatten ++ f l[i] := by
  rw [take_snoc (List.getElem?_eq_getElem h)]
  simp only [List.map_append, List.map_cons, List.map_nil, List.flatten_append, List.flatten_cons, List.flatten_nil, List.append_nil]
theorem terms_ok (l : List Ar) (hl : l.length ≤ 20) (hf : ∀ a ∈ l, FineAr a) : Pure Try.prog n_porismlaw08_terms [eArs l] [eTs (arTs l)] := by
  refine p_porismlaw08_terms rfl fun hs => ?_
  have hlen : ∀ i, i ≤ l.length → (((l.take i).map arT).flatten).length ≤ 121 * i := fun i => by
    induction i with
    | zero => simp
    | succ i ih =>
      intro hi
      have hlt : i < l.length := by omega
      have h1 := ih (by omega)
      have h2 := hf _ (List.getElem_mem hlt)
      have h3 := h2.domL
      have h4 := h2.idxL
      rw [flat_snoc arT l i hlt, List.length_append]
      simp only [arT, List.length_cons, List.length_append]
      omega
  simp -dsimp [x_porismlaw08_terms, eArs]
  refine wp_upto l.length (fun i st => st.s 0 = .d (eArs l) ∧ st.s 4 = .d (.int .i64 i) ∧ ∃ v, st.s 3 = .rsl 3 v ∧ st.h 3 = ⟨v, .row 3 ((((l.take i).map arT).flatten).map eT) false⟩) ?_ ?_
  · simp -dsimp [eArs]
  · rintro i ⟨s, hp⟩ hi ⟨g0, g4, v, g3, k3⟩
    dsimp only at g0 g4 g3 k3
    simp only [eArs] at g0
    rcases Nat.lt_or_ge i l.length with hlt | hge
    · have w1 : IntKind.i64.wrap ((i : Int) + 1) = (i : Int) + 1 := wrap_id (by omega) (by omega)
      have h1 := hlen i (by omega)
      have h2 := hf _ (List.getElem_mem hlt)
      have h3 := h2.domL
      have h4 := h2.idxL
      have hsn := flat_snoc arT l i hlt
      generalize ((l.take (i + 1)).map arT).flatten = L' at hsn ⊢
      generalize ((l.take i).map arT).flatten = L at *
      generalize hA : l[i] = A at *
      have r1 : (L.length + 1) * 40 ≤ maxRoom := by simp only [maxRoom]; omega
      have r2 : (L.length + 1 + A.dom.length) * 40 ≤ maxRoom := by simp only [maxRoom]; omega
      have r3 : (L.length + (A.dom.length + 1) + A.idx.length) * 40 ≤ maxRoom := by simp only [maxRoom]; omega
      rw [hsn]
      simp -dsimp [g0, g4, g3, k3, hlt, hA, eAr, cAr, cT, eTs, arT, r1, r2, r3, w1, eT_eq, eArs]
    · have e : i = l.length := by omega
      subst e
      rw [List.take_length] at k3
      simp -dsimp [g0, g4, g3, k3, arTs, eTs]
theorem flat_len {α : Type} (f : α → List T) (m : Nat) : ∀ (l : List α), (∀ x ∈ l, (f x).length ≤ m) → (l.map f).flatten.length ≤ m * l.length
  | [], _ => by simp
  | x :: xs, h => by
    have h1 := flat_len f m xs fun y hy => h y (by simp [hy])
    have h2 := h x (by simp)
    simp only [List.map_cons, List.flatten_cons, List.length_append, List.length_cons]
    rw [Nat.mul_succ]
    omega
theorem arTs_len {l : List Ar} (hf : FineArs l) : (arTs l).length ≤ 2420 := by
  have := flat_len arT 121 l fun a ha => by
    have h := hf.2 a ha
    have h3 := h.domL
    have h4 := h.idxL
    simp only [arT, List.length_cons, List.length_append]
    omega
  have h2 := hf.1
  rw [arTs]
  omega
theorem take_len_le {α : Type} (f : α → List T) (m : Nat) (l : List α) (h : ∀ x ∈ l, (f x).length ≤ m) (i : Nat) : ((l.take i).map f).flatten.length ≤ m * l.length := by
  have h1 := flat_len f m (l.take i) fun x hx => h x (List.mem_of_mem_take hx)
  have h2 : (l.take i).length ≤ l.length := by rw [List.length_take]; omega
  exact Nat.le_trans h1 (Nat.mul_le_mul_left m h2)
theorem names_ok (b : Bl) (fb : FineBl b) (c : Int) : Pure Try.prog n_porismlaw08_names [eBl b, .int .i64 c] [.bool (nmB b c)] := by
  refine p_porismlaw08_names rfl fun hs => ?_
  have hbs := fb.s
  have hbc := fb.c
  have lS := take_len_le soT 2421 b.sorts fun s hs => by
    have := arTs_len (fb.sorts s hs).idx
    simp only [soT, List.length_cons]; omega
  have lC := take_len_le coT 2481 b.cons fun k hk => by
    have := arTs_len (fb.cons k hk).args
    have := (fb.cons k hk).idxL
    simp only [coT, List.length_cons, List.length_append]; omega
  have hN : ∀ x ∈ blT b, nodes x ≤ 9000 := by
    have har : ∀ l : List Ar, FineArs l → ∀ x ∈ arTs l, nodes x ≤ 9000 := fun l hl x hx => by
      simp only [arTs, List.mem_flatten, List.mem_map] at hx
      obtain ⟨_, ⟨a, ha, rfl⟩, hx⟩ := hx
      have fa := hl.2 a ha
      simp only [arT, List.mem_cons, List.mem_append] at hx
      rcases hx with rfl | hx | hx
      · exact fa.ty
      · exact Nat.le_trans (sum_mem (List.mem_map.2 ⟨x, hx, rfl⟩)) fa.dom
      · exact Nat.le_trans (sum_mem (List.mem_map.2 ⟨x, hx, rfl⟩)) fa.idx
    intro x hx
    simp only [blT, List.mem_append, List.mem_flatten, List.mem_map] at hx
    rcases hx with ⟨_, ⟨s, hs, rfl⟩, hx⟩ | ⟨_, ⟨k, hk, rfl⟩, hx⟩
    · simp only [soT, List.mem_cons] at hx
      rcases hx with rfl | hx
      · exact (fb.sorts s hs).dty
      · exact har _ (fb.sorts s hs).idx x hx
    · simp only [coT, List.mem_cons, List.mem_append] at hx
      rcases hx with rfl | hx | hx
      · exact (fb.cons k hk).dec
      · exact Nat.le_trans (sum_mem (List.mem_map.2 ⟨x, hx, rfl⟩)) (fb.cons k hk).idx
      · exact har _ (fb.cons k hk).args x hx
  simp -dsimp [x_porismlaw08_names, eBl, cBl, eSos, eCos]
  refine wp_upto b.sorts.length (fun i st => st.s 1 = .d (.int .i64 c) ∧ st.s 2 = .ptr 2 1 0 ∧ st.h 2 = ⟨1, .box [.d (.sl 6 (b.sorts.map eSo)), .d (.sl 6 (b.cons.map eCo)), .d (.int .i64 b.elim)] false⟩ ∧ st.s 6 = .d (.int .i64 i) ∧
    ∃ v, st.s 5 = .rsl 5 v ∧ st.h 5 = ⟨v, .row 3 ((((b.sorts.take i).map soT).flatten).map eT) false⟩) ?_ ?_
  · simp -dsimp
  · rintro i ⟨s, hp⟩ hi ⟨g1, g2, k2, g6, v, g5, k5⟩
    dsimp only at g1 g2 k2 g6 g5 k5
    rcases Nat.lt_or_ge i b.sorts.length with hlt | hge
    · have w1 : IntKind.i64.wrap ((i : Int) + 1) = (i : Int) + 1 := wrap_id (by omega) (by omega)
      have h1 := lS i
      have hfs := fb.sorts _ (List.getElem_mem hlt)
      have hsn := flat_snoc soT b.sorts i hlt
      have hT := terms_ok b.sorts[i].idx hfs.idx.1 hfs.idx.2
      have hTl := arTs_len hfs.idx
      generalize ((b.sorts.take (i + 1)).map soT).flatten = L' at hsn ⊢
      generalize ((b.sorts.take i).map soT).flatten = L at *
      generalize hA : b.sorts[i] = A at *
      have r1 : (L.length + 1) * 40 ≤ maxRoom := by simp only [maxRoom]; omega
      have r2 : (L.length + 1 + (arTs A.idx).length) * 40 ≤ maxRoom := by simp only [maxRoom]; omega
      rw [hsn]
      simp only [eArs, eTs] at hT
      simp -dsimp [g1, g2, k2, g6, g5, k5, hlt, hA, eSo, cSo, cT, r1, eArs]
      refine call_of hT ?_
      simp -dsimp [g1, g2, k2, g6, g5, k5, hlt, hA, eSo, cSo, cT, r1, r2, soT, eT_eq, w1]
      done
    · have e : i = b.sorts.length := by omega
      subst e
      rw [List.take_length] at k5
      have l0 := lS b.sorts.length
      rw [List.take_length] at l0
      have hB : ∀ j, ((b.sorts.map soT).flatten ++ ((b.cons.take j).map coT).flatten).length ≤ 1000000 := fun j => by
        have := lC j
        rw [List.length_append]; omega
      simp -dsimp [g1, g2, k2, g6, g5, k5]
      refine wp_upto b.cons.length (fun i st => st.s 1 = .d (.int .i64 c) ∧ st.s 2 = .ptr 2 1 0 ∧ st.h 2 = ⟨1, .box [.d (.sl 6 (b.sorts.map eSo)), .d (.sl 6 (b.cons.map eCo)), .d (.int .i64 b.elim)] false⟩ ∧ st.s 7 = .d (.int .i64 i) ∧
        ∃ v, st.s 5 = .rsl 5 v ∧ st.h 5 = ⟨v, .row 3 (((b.sorts.map soT).flatten ++ ((b.cons.take i).map coT).flatten).map eT) false⟩) ?_ ?_
      · simp -dsimp [g1, g2, k2, g5, k5]
      · clear g1 g2 k2 g6 g5 k5 hi hge
        rintro i ⟨s, hp⟩ hi ⟨g1, g2, k2, g7, v, g5, k5⟩
        dsimp only at g1 g2 k2 g7 g5 k5
        rcases Nat.lt_or_ge i b.cons.length with hlt | hge
        · have w1 : IntKind.i64.wrap ((i : Int) + 1) = (i : Int) + 1 := wrap_id (by omega) (by omega)
          have h1 := hB i
          have hfc := fb.cons _ (List.getElem_mem hlt)
          have hsn := flat_snoc coT b.cons i hlt
          have hT := terms_ok b.cons[i].args hfc.args.1 hfc.args.2
          have hTl := arTs_len hfc.args
          have hil := hfc.idxL
          rw [hsn, ← List.append_assoc]
          generalize (b.sorts.map soT).flatten ++ ((b.cons.take i).map coT).flatten = L at *
          generalize hA : b.cons[i] = A at *
          have r1 : (L.length + 1) * 40 ≤ maxRoom := by simp only [maxRoom]; omega
          have r2 : (L.length + 1 + A.idx.length) * 40 ≤ maxRoom := by simp only [maxRoom]; omega
          have r3 : (L.length + (A.idx.length + 1) + (arTs A.args).length) * 40 ≤ maxRoom := by simp only [maxRoom]; omega
          simp only [eArs, eTs] at hT
          simp -dsimp [g1, g2, k2, g7, g5, k5, hlt, hA, eCo, cCo, cT, eTs, r1, r2, eArs]
          refine call_of hT ?_
          simp -dsimp [g1, g2, k2, g7, g5, k5, hlt, hA, eCo, cCo, cT, eTs, r1, r2, r3, coT, eT_eq, w1]
          done
        · have e : i = b.cons.length := by omega
          subst e
          rw [List.take_length, ← blT] at k5
          have l1 := hB b.cons.length
          rw [List.take_length, ← blT] at l1
          have hnm : nmB b c = (blT b).any fun t => (csT t).any (· == c) := rfl
          generalize nmB b c = V at hnm ⊢
          generalize blT b = L at *
          simp -dsimp [g1, g2, k2, g7, g5, k5]
          refine wp_upto L.length (fun i st => st.s 1 = .d (.int .i64 c) ∧ st.s 8 = .d (.int .i64 i) ∧ (st.s 5 = .rsl 5 v ∧ st.h 5 = ⟨v, .row 3 (L.map eT) false⟩) ∧
            ∀ (j : Nat) (hj : j < L.length), j < i → ¬ c ∈ csT L[j]) ?_ ?_
          · simp -dsimp [g1, g5, k5]
          · clear g1 g2 k2 g7 g5 k5 hi hge
            rintro i ⟨s, hp⟩ hi ⟨g1, g8, ⟨g5, k5⟩, g⟩
            dsimp only at g1 g8 g5 k5
            rcases Nat.lt_or_ge i L.length with hlt | hge
            · have w1 : IntKind.i64.wrap ((i : Int) + 1) = (i : Int) + 1 := wrap_id (by omega) (by omega)
              have hmem := List.getElem_mem hlt
              have hn := hN _ hmem
              have hC := consts_ok L[i] (by omega)
              have hcl := cs_len L[i]
              have hany : c ∈ csT L[i] → V = true := fun h => by
                rw [hnm]; exact List.any_eq_true.2 ⟨_, hmem, List.any_eq_true.2 ⟨c, h, by simp⟩⟩
              have hnx : ¬ c ∈ csT L[i] → ∀ (j : Nat) (hj : j < L.length), j < i + 1 → ¬ c ∈ csT L[j] := fun h j hj hji => by
                rcases Nat.lt_or_ge j i with h' | h'
                · exact g j hj h'
                · have : j = i := by omega
                  subst this
                  exact h
              generalize hX : L[i] = X at *
              simp only [cT] at hC
              simp -dsimp [g1, g8, g5, k5, hlt, hX, cT]
              refine call_of hC ?_
              generalize csT X = C at *
              simp -dsimp [g1, g8, g5, k5, hlt]
              refine wp_upto C.length (fun j st => st.s 1 = .d (.int .i64 c) ∧ st.s 8 = .d (.int .i64 i) ∧ (st.s 5 = .rsl 5 v ∧ st.h 5 = ⟨v, .row 3 (L.map eT) false⟩) ∧ st.s 9 = .d (.sl 1 (C.map (.int .i64))) ∧ st.s 10 = .d (.int .i64 j) ∧
                ∀ (q : Nat) (hq : q < C.length), q < j → ¬ C[q] = c) ?_ ?_
              · simp -dsimp [g1, g8, g5, k5]
              · clear g1 g8 g5 k5
                rintro j ⟨s, hp⟩ hj ⟨g1, g8, ⟨g5, k5⟩, g9, g10, gc⟩
                dsimp only at g1 g8 g5 k5 g9 g10
                rcases Nat.lt_or_ge j C.length with hlt2 | hge2
                · have w2 : IntKind.i64.wrap ((j : Int) + 1) = (j : Int) + 1 := wrap_id (by omega) (by omega)
                  by_cases hx : C[j] = c
                  · have hv := hany (hx ▸ List.getElem_mem hlt2)
                    simp -dsimp [g1, g8, g5, k5, g9, g10, hlt2, hx, hv]
                  · simp -dsimp [g1, g8, g5, k5, g9, g10, hlt2, hx, w2]
                    intro q hq hqj
                    rcases Nat.lt_or_ge q j with h' | h'
                    · exact gc q hq h'
                    · have : q = j := by omega
                      subst this
                      exact hx
                · have e : j = C.length := by omega
                  subst e
                  have hf := hnx fun hx => by
                    obtain ⟨q, hq, hx⟩ := List.mem_iff_getElem.1 hx
                    exact gc q hq hq hx
                  simp -dsimp [g1, g8, g5, k5, g9, g10, w1]
                  exact ⟨hlt, hf⟩
            · have e : i = L.length := by omega
              subst e
              have hv : V = false := by
                rw [hnm]
                exact List.any_eq_false.2 fun x hx => by
                  obtain ⟨q, hq, rfl⟩ := List.mem_iff_getElem.1 hx
                  rw [Bool.not_eq_true]
                  refine List.any_eq_false.2 fun y hy => ?_
                  have := g q hq hq
                  simp only [beq_iff_eq]
                  intro h
                  subst h
                  exact this hy
              simp -dsimp [g1, g8, g5, k5, hv]
end
end Ev
end Go.Proofs.Ythopdhnbflkabaa
