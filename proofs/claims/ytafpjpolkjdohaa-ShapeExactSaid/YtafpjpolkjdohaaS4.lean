/- shape: which constant a number is. -/
import Derived.Test.YtafpjpolkjdohaaS1
import Derived.Test.YtafpjpolkjdohaaS3
namespace Go.Proofs.Ytafpjpolkjdohaa
namespace Ev
open Go
set_option maxRecDepth 100000
set_option linter.unusedSimpArgs false
set_option linter.unusedVariables false
attribute [local simp ↓] wx_skip wx_region wx_seq wx_block wx_exit wx_ret wx_cond wx_loop wo_nil wo_run wo_ask wx_draw wt_nil wt_run_t wt_run_f wt_ask_t wt_ask_f rb_mv rb_nilrow rb_pick rb_alloc rb_box rb_load rb_store rb_nilck rb_bin rb_binb rb_un rb_conv rb_mkf rb_mks rb_slice rb_faddr rb_fld rb_iaddr rb_ext rb_len rb_app rb_mm rb_build rb_bslice run_callC upd_eq upd_ne
attribute [local simp] runB_some runB_none Tch_nil Tch_cons Chk_t Cnd_t Cnd_f Ask_tt Ask_ff Ask_tf Ask_ft Ask_skip act ev_t ev_c evs sks caps2 touch_call List.cons_append List.nil_append putS binI binB int_add int_sub int_mul int_quo int_rem int_or int_eql int_neq int_lss int_leq int_gtr int_geq shiftD Ex.then Ex.inBlock Ends resL resX allD toD_d toD_fsl sk_d sk_fsl none_ loadA cut wrapA wrapD avc_d avc_agg avc_fsl avc_rsl avc_ptr avc_eptr avc_clo dc_agg dc_int dc_bool dc_str dc_sl dc_nilp dc_rp dc_clo on_int on_bool on_str on_sl on_nilp on_rp on_clo on_fsl on_rsl on_ptr on_eptr on_cloA newE elemsA elemsS storeA put frz_nil deep callee resA initS touchOp fits compat rd wr key1 buildA partsD partsK idx frz_at Body.frz lk_hit lk_miss toD6_agg toD5_agg toD4_agg toD6_clo toD5_clo toD4_clo toD6_ptr toD5_ptr toD4_ptr sk6_agg sk5_agg sk4_agg sk6_clo sk5_clo sk4_clo sk6_ptr sk5_ptr sk4_ptr toD_rsl sk_rsl

/-- A row of the table of a block's constants. -/
structure En where
  kind : Int
  many : Nat
  f : Nat
  of : Int → Int
def eEn (e : En) : D := .agg [.int .i64 e.kind, .int .i64 e.many, .clo e.f []]
def tab (b : Bl) (base : Int) : List En :=
  [⟨3, b.sorts.length, n_shape_Former, former b base⟩, ⟨4, b.sorts.length, n_shape_Decoder, decoder b base⟩, ⟨5, b.cons.length, n_shape_Constructor, constructor_ b base⟩, ⟨6, b.sorts.length, n_shape_Eliminator, eliminator b base⟩]
def hit (n : Int) (e : En) : Option Nat := (List.range e.many).find? fun k => e.of k == n
def seek (n : Int) (l : List En) : Option (Int × Int) := l.findSome? fun e => (hit n e).map fun (k : Nat) => (e.kind, (k : Int))
def ofM (b : Bl) (base n : Int) : Int × Int :=
  if base < 0 ∨ 65535 < base ∨ n < base ∨ count b ≤ w64 (n - base) then (0, 0) else (seek n (tab b base)).getD (0, 0)

theorem tab_ok (b : Bl) (base : Int) : ∀ e ∈ tab b base, ∀ k : Int, Pure Try.prog e.f [eBl b, .int .i64 base, .int .i64 k] [.int .i64 (e.of k)] := by
  intro e he k
  simp only [tab, List.mem_cons, List.not_mem_nil, or_false] at he
  rcases he with rfl | rfl | rfl | rfl
  · exact former_ok b base k
  · exact decoder_ok b base k
  · exact constructor_ok b base k
  · exact eliminator_ok b base k

theorem tab_many (b : Bl) (base : Int) (hl : b.sorts.length ≤ 9223372036854775807) (hc : b.cons.length ≤ 9223372036854775807) : ∀ e ∈ tab b base, e.many ≤ 9223372036854775807 := by
  intro e he
  simp only [tab, List.mem_cons, List.not_mem_nil, or_false] at he
  rcases he with rfl | rfl | rfl | rfl <;> assumption

theorem find_range {p : Nat → Bool} {n i : Nat} (hi : i < n) (hb : ∀ j, j < i → p j = false) (h : p i = true) : (List.range n).find? p = some i := by
  rw [List.find?_eq_some_iff_append]
  refine ⟨h, List.range i, (List.range (n - i - 1)).map (· + (i + 1)), ?_, ?_⟩
  · apply List.ext_getElem
    · simp; omega
    · intro j h1 h2
      simp [List.getElem_append, List.getElem_cons]
      split
      · omega
      · omega
  · intro a ha
    simp at ha
    simp [hb a ha]

theorem seek_next {n : Int} {l : List En} {i : Nat} (hlt : i < l.length) (h : seek n (l.take i) = none) (hx : hit n l[i] = none) : seek n (l.take (i + 1)) = none := by
  rw [take_snoc (List.getElem?_eq_getElem hlt)]
  simp only [seek, List.findSome?_append] at h ⊢
  rw [h]
  simp [hx]
theorem seek_hit {n : Int} {l : List En} {i k : Nat} (hlt : i < l.length) (h : seek n (l.take i) = none) (hx : hit n l[i] = some k) : seek n l = some (l[i].kind, (k : Int)) := by
  have e : seek n (l.take i ++ l[i] :: l.drop (i + 1)) = some (l[i].kind, (k : Int)) := by
    simp only [seek, List.findSome?_append] at h ⊢
    rw [h, List.findSome?_cons, hx]
    rfl
  rwa [List.getElem_cons_drop, List.take_append_drop] at e

theorem of_ok (b : Bl) (base n : Int) : Pure Try.prog n_shape_Of [eBl b, .int .i64 base, .int .i64 n] [.int .i64 (ofM b base n).1, .int .i64 (ofM b base n).2] := by
  refine p_shape_Of rfl fun hs => ?_
  have hsm := hs (eBl b) (by simp)
  simp [eBl, cBl, eSos, eCos, small] at hsm
  obtain ⟨⟨hl, _⟩, hlc, _⟩ := hsm
  simp -dsimp [x_shape_Of, eBl, cBl, eSos, eCos]
  (first | refine Ask_b ?_ ?_ | refine Cnd_b ?_ ?_) <;> intro h1 <;> (try simp only [decide_eq_true_eq, decide_eq_false_iff_not, beq_iff_eq, beq_eq_false_iff_ne, bne_iff_ne, bne_eq_false_iff_eq, Bool.not_eq_true', Bool.not_eq_false', Bool.and_eq_true, Bool.or_eq_true, Bool.and_eq_false_iff, Bool.or_eq_false_iff] at h1) <;> simp -dsimp [h1, ofM]
  (first | refine Ask_b ?_ ?_ | refine Cnd_b ?_ ?_) <;> intro h2 <;> (try simp only [decide_eq_true_eq, decide_eq_false_iff_not, beq_iff_eq, beq_eq_false_iff_ne, bne_iff_ne, bne_eq_false_iff_eq, Bool.not_eq_true', Bool.not_eq_false', Bool.and_eq_true, Bool.or_eq_true, Bool.and_eq_false_iff, Bool.or_eq_false_iff] at h2) <;> simp -dsimp [h2, ofM, h1]
  (first | refine Ask_b ?_ ?_ | refine Cnd_b ?_ ?_) <;> intro h3 <;> (try simp only [decide_eq_true_eq, decide_eq_false_iff_not, beq_iff_eq, beq_eq_false_iff_ne, bne_iff_ne, bne_eq_false_iff_eq, Bool.not_eq_true', Bool.not_eq_false', Bool.and_eq_true, Bool.or_eq_true, Bool.and_eq_false_iff, Bool.or_eq_false_iff] at h3) <;> simp -dsimp [h3, ofM, h1, h2]
  refine call_of (count_ok b) ?_
  simp -dsimp [h1, h2, h3]
  (first | refine Ask_b ?_ ?_ | refine Cnd_b ?_ ?_) <;> intro h4 <;> (try simp only [decide_eq_true_eq, decide_eq_false_iff_not, beq_iff_eq, beq_eq_false_iff_ne, bne_iff_ne, bne_eq_false_iff_eq, Bool.not_eq_true', Bool.not_eq_false', Bool.and_eq_true, Bool.or_eq_true, Bool.and_eq_false_iff, Bool.or_eq_false_iff] at h4) <;> simp -dsimp [h4, h1, h2, h3]
  · have : ofM b base n = (0, 0) := by rw [ofM, if_pos (.inr (.inr (.inr h4)))]
    simp [this]
  have hof : ofM b base n = (seek n (tab b base)).getD (0, 0) := by
    rw [ofM, if_neg]
    rintro (h | h | h | h)
    · exact h1 h
    · exact h2 h
    · exact h3 h
    · exact h4 h
  rw [hof]
  refine wp_upto 4 (fun i st => st.s 1 = .d (.int .i64 base) ∧ st.s 2 = .d (.int .i64 n) ∧ st.s 3 = .ptr 3 1 0 ∧ st.h 3 = ⟨1, .box [.d (.sl 6 (b.sorts.map eSo)), .d (.sl 6 (b.cons.map eCo)), .d (.int .i64 b.elim)] false⟩ ∧
    st.s 46 = .fsl 3 ((tab b base).map eEn) ∧ st.s 47 = .d (.int .i64 4) ∧ st.s 48 = .d (.int .i64 i) ∧ seek n ((tab b base).take i) = none) ?_ ?_
  · simp -dsimp [tab, eEn, seek]
  · rintro i ⟨s, hp⟩ hi ⟨g1, g2, g3, g4, g5, g6, g7, g8⟩
    dsimp only at g1 g2 g3 g4 g5 g6 g7 g8
    have htl : (tab b base).length = 4 := rfl
    rcases Nat.lt_or_ge i 4 with hlt | hge
    · have w1 : IntKind.i64.wrap ((i : Int) + 1) = (i : Int) + 1 := wrap_id (by omega) (by omega)
      have hlt' : i < (tab b base).length := by omega
      generalize he : (tab b base)[i] = e at *
      have hm := tab_many b base hl hlc e (he ▸ List.getElem_mem _)
      have hok := tab_ok b base e (he ▸ List.getElem_mem _)
      have hi4 : ((i : Int) < 4) := by omega
      simp -dsimp [g1, g2, g3, g4, g5, g6, g7, hi4, hlt', he, eEn]
      refine wp_upto e.many (fun j st => st.s 1 = .d (.int .i64 base) ∧ st.s 2 = .d (.int .i64 n) ∧ st.s 3 = .ptr 3 1 0 ∧ st.h 3 = ⟨1, .box [.d (.sl 6 (b.sorts.map eSo)), .d (.sl 6 (b.cons.map eCo)), .d (.int .i64 b.elim)] false⟩ ∧
        st.s 46 = .fsl 3 ((tab b base).map eEn) ∧ st.s 47 = .d (.int .i64 4) ∧ st.s 48 = .d (.int .i64 i) ∧ (∃ v, st.s 9 = .ptr 9 v 0 ∧ st.h 9 = ⟨v, .box [.d (.int .i64 e.kind), .d (.int .i64 e.many), .d (.clo e.f [])] false⟩) ∧
        st.s 53 = .d (.int .i64 e.many) ∧ st.s 54 = .d (.int .i64 j) ∧ ∀ k, k < j → (e.of k == n) = false) ?_ ?_
      · simp -dsimp [g1, g2, g3, g4, g5, g6, g7]
      · rintro j ⟨s, hp⟩ hj ⟨g1, g2, g3, g4, g5, g6, g7, ⟨v, g9, g10⟩, g11, g12, g13⟩
        dsimp only at g1 g2 g3 g4 g5 g6 g7 g9 g10 g11 g12
        rcases Nat.lt_or_ge j e.many with hjl | hjg
        · have w2 : IntKind.i64.wrap ((j : Int) + 1) = (j : Int) + 1 := wrap_id (by omega) (by omega)
          simp -dsimp [g1, g2, g3, g4, g5, g6, g7, g9, g10, g11, g12, hjl]
          refine call_of (hok j) ?_
          simp -dsimp [g1, g2, g3, g4, g5, g6, g7, g9, g10, g11, g12, hjl]
          (first | refine Ask_b ?_ ?_ | refine Cnd_b ?_ ?_) <;> intro h5 <;> (try simp only [decide_eq_true_eq, decide_eq_false_iff_not, beq_iff_eq, beq_eq_false_iff_ne, bne_iff_ne, bne_eq_false_iff_eq, Bool.not_eq_true', Bool.not_eq_false', Bool.and_eq_true, Bool.or_eq_true, Bool.and_eq_false_iff, Bool.or_eq_false_iff] at h5) <;> simp -dsimp [h5, g1, g2, g3, g4, g5, g6, g7, g9, g10, g11, g12, hjl, w2]
          · have hh : hit n e = some j := find_range hjl g13 (by simpa using h5)
            have hk := seek_hit hlt' g8 (by rw [he]; exact hh)
            rw [hk, he]
            simp
          · intro k hk
            rcases Nat.lt_or_ge k j with h | h
            · simpa using g13 k h
            · have : k = j := by omega
              subst this
              exact h5
        · have e2 : j = e.many := by omega
          subst e2
          simp -dsimp [g1, g2, g3, g4, g5, g6, g7, g9, g10, g11, g12, w1, hlt]
          refine seek_next hlt' g8 ?_
          rw [he]
          simp only [hit, List.find?_eq_none]
          intro k hk
          simpa using g13 k (by simpa using hk)
    · have e : i = 4 := by omega
      subst e
      simp -dsimp [g1, g2, g3, g4, g5, g6, g7]
      have : (tab b base).take 4 = tab b base := List.take_of_length_le (by omega)
      rw [this] at g8
      simp [g8]
end Ev
end Go.Proofs.Ytafpjpolkjdohaa
