/- tele: twins, spines. -/
import Derived.Test.YtnkbhmafebngjaaR1
namespace Go.Proofs.Ytnkbhmafebngjaa
namespace Ev
open Go
set_option maxRecDepth 100000
set_option linter.unusedSimpArgs false
set_option linter.unusedVariables false
attribute [local simp ↓] wx_skip wx_region wx_seq wx_block wx_exit wx_ret wx_cond wx_loop wo_nil wo_run wo_ask wx_draw wt_nil wt_run_t wt_run_f wt_ask_t wt_ask_f rb_mv rb_nilrow rb_pick rb_alloc rb_box rb_load rb_store rb_nilck rb_bin rb_binb rb_un rb_conv rb_mkf rb_mks rb_slice rb_faddr rb_fld rb_iaddr rb_ext rb_len rb_app rb_mm rb_build rb_bslice run_callC upd_eq upd_ne
attribute [local simp] runB_some runB_none Tch_nil Tch_cons Chk_t Cnd_t Cnd_f Ask_tt Ask_ff Ask_tf Ask_ft Ask_skip act ev_t ev_c evs sks caps2 touch_call List.cons_append List.nil_append putS binI binB int_add int_sub int_mul int_quo int_rem int_or int_eql int_neq int_lss int_leq int_gtr int_geq shiftD Ex.then Ex.inBlock Ends resL resX allD toD_d toD_fsl sk_d sk_fsl none_ loadA cut wrapA wrapD avc_d avc_agg avc_fsl avc_rsl avc_ptr avc_eptr avc_clo dc_agg dc_int dc_bool dc_str dc_sl dc_nilp dc_rp dc_clo on_int on_bool on_str on_sl on_nilp on_rp on_clo on_fsl on_rsl on_ptr on_eptr on_cloA newE elemsA elemsS storeA put frz_nil deep callee resA initS touchOp fits compat rd wr key1 buildA partsD partsK idx frz_at Body.frz lk_hit lk_miss toD6_agg toD5_agg toD4_agg toD6_clo toD5_clo toD4_clo toD6_ptr toD5_ptr toD4_ptr sk6_agg sk5_agg sk4_agg sk6_clo sk5_clo sk4_clo sk6_ptr sk5_ptr sk4_ptr toD_rsl sk_rsl
attribute [local simp] allD_map_d sks_map_d tk tn tks

theorem ttwins_of (l : List T) (hl : l.length * 40 ≤ 140737488351232) (h : ∀ x ∈ l, Pure Try.prog n_term_Twin [.agg (cT x)] [.agg (cT x)]) : Pure Try.prog n_term_Twins [eTs l] [eTs l] := by
  refine p_term_Twins rfl fun hs => ?_
  simp -dsimp [x_term_Twins, eTs]
  by_cases hz : l = []
  · subst hz
    simp -dsimp
  simp -dsimp [hz]
  have r1 : (l.length : Int) * 40 ≤ (maxRoom : Int) := by simp only [maxRoom]; omega
  have r2 : l.length ≤ maxRoom := by simp only [maxRoom]; omega
  simp -dsimp [hz, r1, r2]
  refine wp_upto l.length (fun i st => st.s 0 = .d (.sl 3 (l.map eT)) ∧ st.s 3 = .rsl 10 1 ∧ st.s 12 = .d (.int .i64 l.length) ∧ st.s 13 = .d (.int .i64 i) ∧
    st.h 10 = ⟨1, .row 3 ((l.map eT).take i ++ List.replicate (l.length - i) (D.agg [.int .i64 0, .int .i64 0, .sl 3 []])) false⟩) ?_ ?_
  · simp -dsimp
  · rintro i ⟨s, hp⟩ hi ⟨g1, g2, g3, g4, g5⟩
    dsimp only at g1 g2 g3 g4 g5
    rcases Nat.lt_or_ge i l.length with hlt | hge
    · have w1 : IntKind.i64.wrap ((i : Int) + 1) = (i : Int) + 1 := wrap_id (by omega) (by omega)
      simp -dsimp [g1, g2, g3, g4, g5, hlt, cT]
      refine call_of (h l[i] (List.getElem_mem _)) ?_
      have q1 : (i : Int) < ((min i l.length : Nat) : Int) + ((l.length - i : Nat) : Int) := by omega
      have q2 : i < min i l.length + (l.length - i) := by omega
      have hle : (l.map eT).length = l.length := List.length_map ..
      have hfn := fill_next (l := l.map eT) (z := D.agg [.int .i64 0, .int .i64 0, .sl 3 []]) (i := i) (by rw [hle]; exact hlt)
      have hel : (l.map eT)[i]'(by rw [hle]; exact hlt) = .agg (cT l[i]) := by rw [List.getElem_map, eT_eq]
      rw [hel, hle] at hfn
      simp only [cT] at hfn
      simp -dsimp [g1, g2, g3, g4, g5, hlt, w1, q1, q2, cT, hfn]
    · have e : i = l.length := by omega
      subst e
      have ht : (l.map eT).take l.length = l.map eT := List.take_of_length_le (by rw [List.length_map]; exact Nat.le_refl _)
      rw [ht, Nat.sub_self, List.replicate_zero, List.append_nil] at g5
      simp -dsimp [g1, g2, g3, g4, g5]
theorem ttwin_ok (t : T) : okT t → Pure Try.prog n_term_Twin [.agg (cT t)] [.agg (cT t)] := by
  refine T.ind (p := fun t => okT t → Pure Try.prog n_term_Twin [.agg (cT t)] [.agg (cT t)]) ?_ t
  intro k n ks ih h
  obtain ⟨h1, h2⟩ := h.kids
  refine p_term_Twin rfl fun hs => ?_
  simp -dsimp [x_term_Twin, cT]
  refine call_of (ttwins_of ks h1 fun x hx => ih x hx (h2 x hx)) ?_
  simp -dsimp [eTs]
theorem ttwins_ok (l : List T) (h : okTs l) : Pure Try.prog n_term_Twins [eTs l] [eTs l] := ttwins_of l h.1 fun x hx => ttwin_ok x (h.2 x hx)

def twoB (t : T) (k : Int) : Bool := decide (t.kind = k) && decide (t.kids.length = 2)
theorem two_ok (t : T) (k : Int) : Pure Try.prog n_tele_two [.agg (cT t), .int .i64 k] [.bool (twoB t k)] := by
  refine p_tele_two rfl fun hs => ?_
  simp -dsimp [x_tele_two, cT, twoB]
  (first | refine Ask_b ?_ ?_ | refine Cnd_b ?_ ?_) <;> intro h1 <;> (try simp only [decide_eq_true_eq, decide_eq_false_iff_not, beq_iff_eq, beq_eq_false_iff_ne, bne_iff_ne, bne_eq_false_iff_eq, Bool.not_eq_true', Bool.not_eq_false', Bool.and_eq_true, Bool.or_eq_true, Bool.and_eq_false_iff, Bool.or_eq_false_iff] at h1) <;> simp -dsimp [h1]
  omega
theorem twoB_yes {k n : Int} {ks : List T} : twoB (.mk k n ks) 6 = true ↔ k = 6 ∧ ∃ a b, ks = [a, b] := by
  show (decide (k = 6) && decide (ks.length = 2)) = true ↔ _
  rw [Bool.and_eq_true, decide_eq_true_eq, decide_eq_true_eq]
  constructor
  · rintro ⟨h1, h2⟩
    match ks, h2 with
    | [a, b], _ => exact ⟨h1, a, b, rfl⟩
  · rintro ⟨h1, a, b, rfl⟩
    exact ⟨h1, rfl⟩

/-- The arguments of a spine, the last first; its head. -/
def spA : T → List T
  | .mk k _ ks => if k = 6 then match ks with
    | [a, b] => b :: spA a
    | _ => [] else []
def spH : T → T
  | .mk k n ks => if k = 6 then match ks with
    | [a, _] => spH a
    | _ => .mk k n ks else .mk k n ks
theorem sp_none {k n : Int} {ks : List T} (hc : ¬ (k = 6 ∧ ∃ a b, ks = [a, b])) : spA (.mk k n ks) = [] ∧ spH (.mk k n ks) = .mk k n ks := by
  match ks, hc with
  | [], _ => simp [spA, spH]
  | [_], _ => simp [spA, spH]
  | [a, b], hc =>
    have h1 : ¬ k = 6 := fun h1 => hc ⟨h1, a, b, rfl⟩
    simp [spA, spH, h1]
  | _ :: _ :: _ :: _, _ => simp [spA, spH]
theorem sp_two (n : Int) (a b : T) : spA (.mk 6 n [a, b]) = b :: spA a ∧ spH (.mk 6 n [a, b]) = spH a := by simp [spA, spH]
end Ev
end Go.Proofs.Ytnkbhmafebngjaa
