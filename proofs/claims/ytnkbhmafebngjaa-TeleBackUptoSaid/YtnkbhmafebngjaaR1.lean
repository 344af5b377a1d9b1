/- slices.Reverse on a row of one's own. -/
import Derived.Test.YtnkbhmafebngjaaR0
namespace Go.Proofs.Ytnkbhmafebngjaa
namespace Ev
open Go
set_option maxRecDepth 100000
set_option linter.unusedSimpArgs false
set_option linter.unusedVariables false
attribute [local simp ↓] wx_skip wx_region wx_seq wx_block wx_exit wx_ret wx_cond wx_loop wo_nil wo_run wo_ask wx_draw wt_nil wt_run_t wt_run_f wt_ask_t wt_ask_f rb_mv rb_nilrow rb_pick rb_alloc rb_box rb_load rb_store rb_nilck rb_bin rb_binb rb_un rb_conv rb_mkf rb_mks rb_slice rb_faddr rb_fld rb_iaddr rb_ext rb_len rb_app rb_mm rb_build rb_bslice run_callC upd_eq upd_ne
attribute [local simp] runB_some runB_none Tch_nil Tch_cons Chk_t Cnd_t Cnd_f Ask_tt Ask_ff Ask_tf Ask_ft Ask_skip act ev_t ev_c evs sks caps2 touch_call List.cons_append List.nil_append putS binI binB int_add int_sub int_mul int_quo int_rem int_or int_eql int_neq int_lss int_leq int_gtr int_geq shiftD Ex.then Ex.inBlock Ends resL resX allD toD_d toD_fsl sk_d sk_fsl none_ loadA cut wrapA wrapD avc_d avc_agg avc_fsl avc_rsl avc_ptr avc_eptr avc_clo dc_agg dc_int dc_bool dc_str dc_sl dc_nilp dc_rp dc_clo on_int on_bool on_str on_sl on_nilp on_rp on_clo on_fsl on_rsl on_ptr on_eptr on_cloA newE elemsA elemsS storeA put frz_nil deep callee resA initS touchOp fits compat rd wr key1 buildA partsD partsK idx frz_at Body.frz lk_hit lk_miss toD6_agg toD5_agg toD4_agg toD6_clo toD5_clo toD4_clo toD6_ptr toD5_ptr toD4_ptr sk6_agg sk5_agg sk4_agg sk6_clo sk5_clo sk4_clo sk6_ptr sk5_ptr sk4_ptr toD_rsl sk_rsl
attribute [local simp] allD_map_d sks_map_d initA EndsM

/-- After so many swaps. -/
def swp (xs : List T) : Nat → List T
  | 0 => xs
  | i + 1 => match (swp xs i)[i]?, (swp xs i)[xs.length - 1 - i]? with
    | some a, some b => ((swp xs i).set i b).set (xs.length - 1 - i) a
    | _, _ => swp xs i
theorem swp_len (xs : List T) : ∀ i, (swp xs i).length = xs.length
  | 0 => rfl
  | i + 1 => by
    rw [swp]
    split
    · rw [List.length_set, List.length_set, swp_len xs i]
    · exact swp_len xs i
theorem swp_get (xs : List T) : ∀ (i : Nat), 2 * i ≤ xs.length → ∀ (q : Nat) (hq : q < xs.length), (swp xs i)[q]? = if q < i ∨ xs.length - i ≤ q then xs[xs.length - 1 - q]? else xs[q]?
  | 0, _, q, hq => by
    rw [swp, if_neg (by omega)]
  | i + 1, h2, q, hq => by
    have ih := swp_get xs i (by omega)
    have h3 : i < (swp xs i).length := by rw [swp_len]; omega
    have h4 : xs.length - 1 - i < (swp xs i).length := by rw [swp_len]; omega
    have g1 : (swp xs i)[i]? = some (xs[i]'(by omega)) := by rw [ih i (by omega), if_neg (by omega), List.getElem?_eq_getElem (by omega)]
    have g2 : (swp xs i)[xs.length - 1 - i]? = some (xs[xs.length - 1 - i]'(by omega)) := by rw [ih (xs.length - 1 - i) (by omega), if_neg (by omega), List.getElem?_eq_getElem (by omega)]
    rw [swp, g1, g2]
    simp only
    rw [List.getElem?_set]
    by_cases c1 : xs.length - 1 - i = q
    · rw [if_pos c1, if_pos (by rw [List.length_set]; exact h4), if_pos (by omega), List.getElem?_eq_getElem (by omega)]
      congr 2
      omega
    · rw [if_neg c1, List.getElem?_set]
      by_cases c2 : i = q
      · subst c2
        rw [if_pos rfl, if_pos h3, if_pos (by omega), List.getElem?_eq_getElem (by omega)]
      · rw [if_neg c2, ih q hq]
        by_cases c3 : q < i ∨ xs.length - i ≤ q
        · rw [if_pos c3, if_pos (by omega)]
        · rw [if_neg c3, if_neg (by omega)]
theorem swp_rev (xs : List T) : swp xs (xs.length / 2) = xs.reverse := by
  apply List.ext_getElem?
  intro q
  rcases Nat.lt_or_ge q xs.length with hq | hq
  · rw [swp_get xs _ (by omega) q hq, List.getElem?_reverse hq]
    split
    · rfl
    · have : q = xs.length - 1 - q := by omega
      rw [← this]
  · rw [List.getElem?_eq_none (by rw [swp_len]; exact hq), List.getElem?_eq_none (by rw [List.length_reverse]; exact hq)]
def revH (k v : Nat) (xs : List T) : Nat → Ent := fun q => if q = k then ⟨v, .row 3 (xs.map eT) false⟩ else ⟨0, .dead⟩
theorem reverse_mut (k v : Nat) (xs : List T) (hl : xs.length ≤ 1000000000) : MutC Try.prog n_slices_Reverse_Term [.rsl k v] [k] (revH k v xs) [] (revH k v xs.reverse) := by
  refine mut_of hm Try.func100 c_slices_Reverse_Term rfl ?_ fun G h w vs hk hlen hr => ?_
  · intro q hq
    simp only [revH]
    split <;> trivial
  have e1 : h k = ⟨v, .row 3 (xs.map eT) false⟩ := by rw [hk k (by simp)]; simp [revH]
  have w0 : IntKind.i64.wrap ((xs.length : Int) - 1) = (xs.length : Int) - 1 := wrap_id (by omega) (by omega)
  simp -dsimp [x_slices_Reverse_Term, e1, w0]
  refine wp_upto (xs.length / 2) (fun i st => st.s 0 = .rsl k v ∧ st.h k = ⟨v, .row 3 ((swp xs i).map eT) false⟩ ∧ st.s 2 = .d (.int .i64 i) ∧ st.s 3 = .d (.int .i64 ((xs.length : Int) - 1 - i))) ?_ ?_
  · simp -dsimp [e1, swp]
  · rintro i ⟨s, hp⟩ hi ⟨g1, g2, g3, g4⟩
    dsimp only at g1 g2 g3 g4
    rcases Nat.lt_or_ge i (xs.length / 2) with hlt | hge
    · obtain ⟨m, hm⟩ : ∃ m : Nat, xs.length = m + 1 + i := ⟨xs.length - 1 - i, by omega⟩
      have hmi : (xs.length : Int) - 1 - i = (m : Int) := by omega
      have hmn : xs.length - 1 - i = m := by omega
      rw [hmi] at g4
      have him : i < m := by omega
      have w1 : IntKind.i64.wrap ((i : Int) + 1) = (i : Int) + 1 := wrap_id (by omega) (by omega)
      have w2 : IntKind.i64.wrap ((m : Int) - 1) = (xs.length : Int) - 1 - ((i : Int) + 1) := by rw [wrap_id (by omega) (by omega)]; omega
      have hsl := swp_len xs i
      have hi1 : i < (swp xs i).length := by omega
      have hm1 : m < (swp xs i).length := by omega
      have hnx : swp xs (i + 1) = ((swp xs i).set i (swp xs i)[m]).set m (swp xs i)[i] := by
        rw [swp, hmn, List.getElem?_eq_getElem hi1, List.getElem?_eq_getElem hm1]
      rw [hnx]
      generalize swp xs i = Y at g2 hsl hi1 hm1
      simp -dsimp [g1, g2, g3, g4, hi1, hm1, him, w1, w2, eT_eq, cT]
      exact hlt
    · have e : i = xs.length / 2 := by omega
      rw [e, swp_rev] at g2
      have c1 : ¬ (i : Int) < (xs.length : Int) - 1 - (i : Int) := by omega
      simp -dsimp [g1, g2, g3, g4, c1, revH]
end Ev
end Go.Proofs.Ytnkbhmafebngjaa
