/- What is played, of blocks. -/
import Derived.Test.YtafpjpolkjdohaaS2
namespace Go.Proofs.Ytafpjpolkjdohaa
namespace Ev
open Go
set_option maxRecDepth 100000
set_option linter.unusedSimpArgs false
set_option linter.unusedVariables false
attribute [local simp ↓] wx_skip wx_region wx_seq wx_block wx_exit wx_ret wx_cond wx_loop wo_nil wo_run wo_ask wx_draw wt_nil wt_run_t wt_run_f wt_ask_t wt_ask_f rb_mv rb_nilrow rb_pick rb_alloc rb_box rb_load rb_store rb_nilck rb_bin rb_binb rb_un rb_conv rb_mkf rb_mks rb_slice rb_faddr rb_fld rb_iaddr rb_ext rb_len rb_app rb_mm rb_build rb_bslice run_callC upd_eq upd_ne
attribute [local simp] runB_some runB_none Tch_nil Tch_cons Chk_t Cnd_t Cnd_f Ask_tt Ask_ff Ask_tf Ask_ft Ask_skip act ev_t ev_c evs sks caps2 touch_call List.cons_append List.nil_append putS binI binB int_add int_sub int_mul int_quo int_rem int_or int_eql int_neq int_lss int_leq int_gtr int_geq shiftD Ex.then Ex.inBlock Ends resL resX allD toD_d toD_fsl sk_d sk_fsl none_ loadA cut wrapA wrapD avc_d avc_agg avc_fsl avc_rsl avc_ptr avc_eptr avc_clo dc_agg dc_int dc_bool dc_str dc_sl dc_nilp dc_rp dc_clo on_int on_bool on_str on_sl on_nilp on_rp on_clo on_fsl on_rsl on_ptr on_eptr on_cloA newE elemsA elemsS storeA put frz_nil deep callee resA initS touchOp fits compat rd wr key1 buildA partsD partsK idx frz_at Body.frz lk_hit lk_miss toD6_agg toD5_agg toD4_agg toD6_clo toD5_clo toD4_clo toD6_ptr toD5_ptr toD4_ptr sk6_agg sk5_agg sk4_agg sk6_clo sk5_clo sk4_clo sk6_ptr sk5_ptr sk4_ptr toD_rsl sk_rsl

theorem heavy02_one (t : T) : Pure Try.prog n_porismlaw02_Heavy [.sl 3 [.agg (cT t)]] [.bool (heavy02 [t])] := by
  have h := heavy02_ok [t]
  simp only [eTs, List.map_cons, List.map_nil, eT_eq] at h
  exact h

theorem any_snoc {α : Type} {p : α → Bool} {l : List α} {i : Nat} (hlt : i < l.length) (h : (l.take i).any p = false) (hx : p l[i] = false) : (l.take (i + 1)).any p = false := by
  rw [take_snoc (List.getElem?_eq_getElem hlt), List.any_append, h]
  simp [hx]
theorem any_mem {α : Type} {p : α → Bool} {l : List α} {i : Nat} (hlt : i < l.length) (hx : p l[i] = true) : l.any p = true := List.any_eq_true.2 ⟨l[i], List.getElem_mem _, hx⟩

def pArg (a : Ar) : Bool := heavy02 [a.ty] || heavy02 a.dom || heavy02 a.idx
def heavyArgs (l : List Ar) : Bool := decide ((20 : Int) < (l.length : Int)) || l.any pArg
theorem heavyArgs_ok (l : List Ar) : Pure Try.prog n_porismlaw07_heavyArgs [eArs l] [.bool (heavyArgs l)] := by
  refine p_porismlaw07_heavyArgs rfl fun hs => ?_
  simp -dsimp [x_porismlaw07_heavyArgs, eArs]
  (first | refine Ask_b ?_ ?_ | refine Cnd_b ?_ ?_) <;> intro h1 <;> (try simp only [decide_eq_true_eq, decide_eq_false_iff_not, beq_iff_eq, beq_eq_false_iff_ne, bne_iff_ne, bne_eq_false_iff_eq, Bool.not_eq_true', Bool.not_eq_false', Bool.and_eq_true, Bool.or_eq_true, Bool.and_eq_false_iff, Bool.or_eq_false_iff] at h1) <;> simp -dsimp [h1, heavyArgs]
  have hl : l.length ≤ 20 := by omega
  refine wp_upto l.length (fun i st => st.s 0 = .d (.sl 7 (l.map eAr)) ∧ st.s 3 = .d (.int .i64 i) ∧ (l.take i).any pArg = false) ?_ ?_
  · simp -dsimp
  · rintro i ⟨s, hp⟩ hi ⟨h2, h3, h5⟩
    dsimp only at h2 h3 h5
    rcases Nat.lt_or_ge i l.length with hlt | hge
    · have w1 : IntKind.i64.wrap ((i : Int) + 1) = (i : Int) + 1 := wrap_id (by omega) (by omega)
      have ht : ∀ b, pArg l[i] = b → heavy02 [l[i].ty] = true ∨ heavy02 l[i].dom = true ∨ heavy02 l[i].idx = true → b = true := by
        rintro b rfl h
        simp only [pArg, Bool.or_eq_true]
        rcases h with h | h | h <;> simp [h]
      have fin : pArg l[i] = true → heavyArgs l = true := fun h => by simp only [heavyArgs, any_mem hlt h, Bool.or_true]
      simp -dsimp [h2, h3, hlt, eAr, cAr, cT, eTs]
      refine call_of (heavy02_one l[i].ty) ?_
      simp -dsimp [h2, h3, hlt]
      (first | refine Ask_b ?_ ?_ | refine Cnd_b ?_ ?_) <;> intro h6 <;> (try simp only [decide_eq_true_eq, decide_eq_false_iff_not, beq_iff_eq, beq_eq_false_iff_ne, bne_iff_ne, bne_eq_false_iff_eq, Bool.not_eq_true', Bool.not_eq_false', Bool.and_eq_true, Bool.or_eq_true, Bool.and_eq_false_iff, Bool.or_eq_false_iff] at h6) <;> simp -dsimp [h6, h2, h3, hlt]
      · exact fin (ht _ rfl (.inl h6))
      · simp -dsimp [h2, h3, hlt, h6, eAr, cAr, cT, eTs]
        refine call_of (heavy02_ok l[i].dom) ?_
        simp -dsimp [h2, h3, hlt, h6]
        (first | refine Ask_b ?_ ?_ | refine Cnd_b ?_ ?_) <;> intro h7 <;> (try simp only [decide_eq_true_eq, decide_eq_false_iff_not, beq_iff_eq, beq_eq_false_iff_ne, bne_iff_ne, bne_eq_false_iff_eq, Bool.not_eq_true', Bool.not_eq_false', Bool.and_eq_true, Bool.or_eq_true, Bool.and_eq_false_iff, Bool.or_eq_false_iff] at h7) <;> simp -dsimp [h7, h2, h3, hlt, h6]
        · exact fin (ht _ rfl (.inr (.inl h7)))
        · simp -dsimp [h2, h3, hlt, h6, h7, eAr, cAr, cT, eTs]
          refine call_of (heavy02_ok l[i].idx) ?_
          simp -dsimp [h2, h3, hlt, h6, h7]
          (first | refine Ask_b ?_ ?_ | refine Cnd_b ?_ ?_) <;> intro h8 <;> (try simp only [decide_eq_true_eq, decide_eq_false_iff_not, beq_iff_eq, beq_eq_false_iff_ne, bne_iff_ne, bne_eq_false_iff_eq, Bool.not_eq_true', Bool.not_eq_false', Bool.and_eq_true, Bool.or_eq_true, Bool.and_eq_false_iff, Bool.or_eq_false_iff] at h8) <;> simp -dsimp [h8, h2, h3, hlt, h6, h7]
          · exact fin (ht _ rfl (.inr (.inr h8)))
          · simp -dsimp [h2, h3, hlt, h6, h7, h8, w1]
            have := any_snoc hlt h5 (by simp [pArg, h6, h7, h8])
            simpa using this
    · have e : i = l.length := by omega
      subst e
      simp -dsimp [h2, h3, heavyArgs]
      rw [List.take_length] at h5
      exact ⟨by omega, by simpa using h5⟩

def pSo (s : So) : Bool := heavyArgs s.idx || heavy02 [s.dty]
def pCo (c : Co) : Bool := heavyArgs c.args || heavy02 c.idx || heavy02 [c.dec]
def heavy07 (b : Bl) : Bool := decide ((10 : Int) < (b.sorts.length : Int)) || decide ((20 : Int) < (b.cons.length : Int)) || b.sorts.any pSo || b.cons.any pCo
theorem heavy07_ok (b : Bl) : Pure Try.prog n_porismlaw07_Heavy [eBl b] [.bool (heavy07 b)] := by
  refine p_porismlaw07_Heavy rfl fun hs => ?_
  simp -dsimp [x_porismlaw07_Heavy, eBl, cBl, eSos, eCos]
  (first | refine Ask_b ?_ ?_ | refine Cnd_b ?_ ?_) <;> intro h1 <;> (try simp only [decide_eq_true_eq, decide_eq_false_iff_not, beq_iff_eq, beq_eq_false_iff_ne, bne_iff_ne, bne_eq_false_iff_eq, Bool.not_eq_true', Bool.not_eq_false', Bool.and_eq_true, Bool.or_eq_true, Bool.and_eq_false_iff, Bool.or_eq_false_iff] at h1) <;> simp -dsimp [h1, heavy07]
  (first | refine Ask_b ?_ ?_ | refine Cnd_b ?_ ?_) <;> intro h2 <;> (try simp only [decide_eq_true_eq, decide_eq_false_iff_not, beq_iff_eq, beq_eq_false_iff_ne, bne_iff_ne, bne_eq_false_iff_eq, Bool.not_eq_true', Bool.not_eq_false', Bool.and_eq_true, Bool.or_eq_true, Bool.and_eq_false_iff, Bool.or_eq_false_iff] at h2) <;> simp -dsimp [h2, heavy07, h1]
  have hl : b.sorts.length ≤ 10 := by omega
  have hl2 : b.cons.length ≤ 20 := by omega
  refine wp_upto b.sorts.length (fun i st => st.s 1 = .ptr 1 1 0 ∧ st.h 1 = ⟨1, .box [.d (.sl 6 (b.sorts.map eSo)), .d (.sl 6 (b.cons.map eCo)), .d (.int .i64 b.elim)] false⟩ ∧ st.s 3 = .d (.int .i64 i) ∧ (b.sorts.take i).any pSo = false) ?_ ?_
  · simp -dsimp
  · rintro i ⟨s, hp⟩ hi ⟨h3, h4, h5, h6⟩
    dsimp only at h3 h4 h5 h6
    rcases Nat.lt_or_ge i b.sorts.length with hlt | hge
    · have w1 : IntKind.i64.wrap ((i : Int) + 1) = (i : Int) + 1 := wrap_id (by omega) (by omega)
      have fin : pSo b.sorts[i] = true → heavy07 b = true := fun h => by simp only [heavy07, any_mem hlt h, Bool.or_true, Bool.true_or]
      simp -dsimp [h3, h4, h5, hlt, eSo, cSo, cT, eArs]
      refine call_of (heavyArgs_ok b.sorts[i].idx) ?_
      simp -dsimp [h3, h4, h5, hlt]
      (first | refine Ask_b ?_ ?_ | refine Cnd_b ?_ ?_) <;> intro h7 <;> (try simp only [decide_eq_true_eq, decide_eq_false_iff_not, beq_iff_eq, beq_eq_false_iff_ne, bne_iff_ne, bne_eq_false_iff_eq, Bool.not_eq_true', Bool.not_eq_false', Bool.and_eq_true, Bool.or_eq_true, Bool.and_eq_false_iff, Bool.or_eq_false_iff] at h7) <;> simp -dsimp [h7, h3, h4, h5, hlt]
      · exact fin (by simp [pSo, h7])
      · simp -dsimp [h3, h4, h5, hlt, h7, eSo, cSo, cT, eArs]
        refine call_of (heavy02_one b.sorts[i].dty) ?_
        simp -dsimp [h3, h4, h5, hlt, h7]
        (first | refine Ask_b ?_ ?_ | refine Cnd_b ?_ ?_) <;> intro h8 <;> (try simp only [decide_eq_true_eq, decide_eq_false_iff_not, beq_iff_eq, beq_eq_false_iff_ne, bne_iff_ne, bne_eq_false_iff_eq, Bool.not_eq_true', Bool.not_eq_false', Bool.and_eq_true, Bool.or_eq_true, Bool.and_eq_false_iff, Bool.or_eq_false_iff] at h8) <;> simp -dsimp [h8, h3, h4, h5, hlt, h7]
        · exact fin (by simp [pSo, h8])
        · simp -dsimp [h3, h4, h5, hlt, h7, h8, w1]
          simpa using any_snoc hlt h6 (by simp [pSo, h7, h8])
    · have e : i = b.sorts.length := by omega
      subst e
      rw [List.take_length] at h6
      simp -dsimp [h3, h4, h5]
      refine wp_upto b.cons.length (fun i st => st.s 1 = .ptr 1 1 0 ∧ st.h 1 = ⟨1, .box [.d (.sl 6 (b.sorts.map eSo)), .d (.sl 6 (b.cons.map eCo)), .d (.int .i64 b.elim)] false⟩ ∧ st.s 4 = .d (.int .i64 i) ∧ (b.cons.take i).any pCo = false) ?_ ?_
      · simp -dsimp [h3, h4, h5]
      · rintro i ⟨s, hp⟩ hi ⟨h3, h4, h5, h10⟩
        dsimp only at h3 h4 h5 h10
        rcases Nat.lt_or_ge i b.cons.length with hlt | hge
        · have w1 : IntKind.i64.wrap ((i : Int) + 1) = (i : Int) + 1 := wrap_id (by omega) (by omega)
          have fin : pCo b.cons[i] = true → heavy07 b = true := fun h => by simp only [heavy07, any_mem hlt h, Bool.or_true, Bool.true_or]
          simp -dsimp [h3, h4, h5, hlt, eCo, cCo, cT, eArs, eTs]
          refine call_of (heavyArgs_ok b.cons[i].args) ?_
          simp -dsimp [h3, h4, h5, hlt]
          (first | refine Ask_b ?_ ?_ | refine Cnd_b ?_ ?_) <;> intro h7 <;> (try simp only [decide_eq_true_eq, decide_eq_false_iff_not, beq_iff_eq, beq_eq_false_iff_ne, bne_iff_ne, bne_eq_false_iff_eq, Bool.not_eq_true', Bool.not_eq_false', Bool.and_eq_true, Bool.or_eq_true, Bool.and_eq_false_iff, Bool.or_eq_false_iff] at h7) <;> simp -dsimp [h7, h3, h4, h5, hlt]
          · exact fin (by simp [pCo, h7])
          · simp -dsimp [h3, h4, h5, hlt, h7, eCo, cCo, cT, eArs, eTs]
            refine call_of (heavy02_ok b.cons[i].idx) ?_
            simp -dsimp [h3, h4, h5, hlt, h7]
            (first | refine Ask_b ?_ ?_ | refine Cnd_b ?_ ?_) <;> intro h8 <;> (try simp only [decide_eq_true_eq, decide_eq_false_iff_not, beq_iff_eq, beq_eq_false_iff_ne, bne_iff_ne, bne_eq_false_iff_eq, Bool.not_eq_true', Bool.not_eq_false', Bool.and_eq_true, Bool.or_eq_true, Bool.and_eq_false_iff, Bool.or_eq_false_iff] at h8) <;> simp -dsimp [h8, h3, h4, h5, hlt, h7]
            · exact fin (by simp [pCo, h8])
            · simp -dsimp [h3, h4, h5, hlt, h7, h8, eCo, cCo, cT, eArs, eTs]
              refine call_of (heavy02_one b.cons[i].dec) ?_
              simp -dsimp [h3, h4, h5, hlt, h7, h8]
              (first | refine Ask_b ?_ ?_ | refine Cnd_b ?_ ?_) <;> intro h9 <;> (try simp only [decide_eq_true_eq, decide_eq_false_iff_not, beq_iff_eq, beq_eq_false_iff_ne, bne_iff_ne, bne_eq_false_iff_eq, Bool.not_eq_true', Bool.not_eq_false', Bool.and_eq_true, Bool.or_eq_true, Bool.and_eq_false_iff, Bool.or_eq_false_iff] at h9) <;> simp -dsimp [h9, h3, h4, h5, hlt, h7, h8]
              · exact fin (by simp [pCo, h9])
              · simp -dsimp [h3, h4, h5, hlt, h7, h8, h9, w1]
                simpa using any_snoc hlt h10 (by simp [pCo, h7, h8, h9])
        · have e : i = b.cons.length := by omega
          subst e
          rw [List.take_length] at h10
          simp -dsimp [h3, h4, h5, heavy07, h6, h10]
          exact ⟨by omega, by omega⟩
end Ev
end Go.Proofs.Ytafpjpolkjdohaa
