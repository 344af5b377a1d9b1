/- Substitution: what subst.Inst comes to. -/
import Derived.Test.YtdobcpejfgpgoaaI4
namespace Go.Proofs.Ytdobcpejfgpgoaa
namespace Ev
open Go
set_option maxRecDepth 100000
set_option linter.unusedSimpArgs false
set_option linter.unusedVariables false
attribute [local simp ↓] wx_skip wx_region wx_seq wx_block wx_exit wx_ret wx_cond wx_loop wo_nil wo_run wo_ask wx_draw wt_nil wt_run_t wt_run_f wt_ask_t wt_ask_f rb_mv rb_nilrow rb_pick rb_alloc rb_box rb_load rb_store rb_nilck rb_bin rb_binb rb_un rb_conv rb_mkf rb_mks rb_slice rb_faddr rb_fld rb_iaddr rb_ext rb_len rb_app rb_mm rb_build rb_bslice run_callC upd_eq upd_ne
attribute [local simp] runB_some runB_none Tch_nil Tch_cons Chk_t Cnd_t Cnd_f Ask_tt Ask_ff Ask_tf Ask_ft Ask_skip act ev_t ev_c evs sks caps2 touch_call List.cons_append List.nil_append putS binI binB int_add int_sub int_mul int_quo int_rem int_or int_eql int_neq int_lss int_leq int_gtr int_geq shiftD Ex.then Ex.inBlock Ends resL resX allD toD_d toD_fsl sk_d sk_fsl none_ loadA cut wrapA wrapD avc_d avc_agg avc_fsl avc_rsl avc_ptr avc_eptr avc_clo dc_agg dc_int dc_bool dc_str dc_sl dc_nilp dc_rp dc_clo on_int on_bool on_str on_sl on_nilp on_rp on_clo on_fsl on_rsl on_ptr on_eptr on_cloA newE elemsA elemsS storeA put frz_nil deep callee resA initS touchOp fits compat rd wr key1 buildA partsD partsK idx frz_at Body.frz lk_hit lk_miss toD6_agg toD5_agg toD4_agg toD6_clo toD5_clo toD4_clo toD6_ptr toD5_ptr toD4_ptr sk6_agg sk5_agg sk4_agg sk6_clo sk5_clo sk4_clo sk6_ptr sk5_ptr sk4_ptr toD_rsl sk_rsl
attribute [local simp] allD_map_d sks_map_d tk tn tks

def zT : T := .mk 0 0 []
def instF (l : List T) (u n b : Int) : T :=
  if 0 ≤ whichT l.length u n b then match l[(whichT l.length u n b).toNat]? with
    | some a => movedT (w64 (u + b)) a
    | none => zT
  else .mk 1 (if u + b ≤ n then w64 (n - l.length) else n) []
theorem inst1_ok (l : List T) (u : Int) (sc : Bool) (sz dp : Int) (hu : 0 ≤ u ∧ u ≤ 65535) (hl : ∀ x ∈ l, formedM x = true ∧ nodes x ≤ 549755813888) (n b : Int) (hn : 0 ≤ n) (hn' : n ≤ 65535) (hb : 0 ≤ b) (hb' : b ≤ 1099511627776) :
    Pure Try.prog n_subst_Inst_1 [.int .i64 n, .int .i64 b, .rp [jobD (l.map agOf) u sc sz dp], .rp [.int .i64 u], .rp [eTs l]] [.agg (cT (instF l u n b))] := by
  refine p_subst_Inst_1 rfl fun hs => ?_
  have w1 : IntKind.i64.wrap (u + b) = u + b := wrap_id (by omega) (by omega)
  have w1' : w64 (u + b) = u + b := w1
  simp -dsimp [x_subst_Inst_1, eTs]
  have hw := which_ok (l.map agOf) u sc sz dp n b hu ⟨hb, hb'⟩ ⟨hn, hn'⟩
  rw [List.length_map] at hw
  refine call_of hw ?_
  generalize hW : whichT l.length u n b = W
  have hI : instF l u n b = if 0 ≤ W then match l[W.toNat]? with
    | some a => movedT (w64 (u + b)) a
    | none => zT
    else .mk 1 (if u + b ≤ n then w64 (n - l.length) else n) [] := by rw [instF, hW]
  simp -dsimp
  (first | refine Ask_b ?_ ?_ | refine Cnd_b ?_ ?_) <;> intro g1 <;> (try simp only [decide_eq_true_eq, decide_eq_false_iff_not, beq_iff_eq, beq_eq_false_iff_ne, bne_iff_ne, bne_eq_false_iff_eq, Bool.not_eq_true', Bool.not_eq_false', Bool.and_eq_true, Bool.or_eq_true, Bool.and_eq_false_iff, Bool.or_eq_false_iff] at g1) <;> simp -dsimp [g1]
  · have hlt : W.toNat < l.length := by
      rw [whichT] at hW
      split at hW <;> omega
    have hget : l[W.toNat]? = some l[W.toNat] := List.getElem?_eq_getElem hlt
    have hI2 : instF l u n b = movedT (w64 (u + b)) l[W.toNat] := by rw [hI, if_pos g1, hget]
    rw [hI2, w1']
    simp -dsimp [jobD, g1, hlt, w1, agOf, cAg, eAg, cT]
    obtain ⟨hf, hnn⟩ := hl l[W.toNat] (List.getElem_mem _)
    refine call_of (moved_ok l[W.toNat] (u + b) hf (by omega)) ?_
    simp -dsimp [cT]
  · have hI2 : instF l u n b = .mk 1 (if u + b ≤ n then w64 (n - l.length) else n) [] := by rw [hI, if_neg g1]
    rw [hI2]
    simp -dsimp [g1, w1]
    (first | refine Ask_b ?_ ?_ | refine Cnd_b ?_ ?_) <;> intro g2 <;> (try simp only [decide_eq_true_eq, decide_eq_false_iff_not, beq_iff_eq, beq_eq_false_iff_ne, bne_iff_ne, bne_eq_false_iff_eq, Bool.not_eq_true', Bool.not_eq_false', Bool.and_eq_true, Bool.or_eq_true, Bool.and_eq_false_iff, Bool.or_eq_false_iff] at g2) <;> simp -dsimp [g2, g1, w1]
    · refine call_of (v_ok _) ?_
      simp -dsimp [g2, cT, w64]
    · refine call_of (v_ok _) ?_
      simp -dsimp [g2, cT, w64]

/-- The error, and the term. -/
def instE (t : T) (l : List T) (u : Int) : Int :=
  if openE t l u = 0 then if (openSt t l u).sc then 6 else if 6000 < (openSt t l u).sz then 4 else if 200 < (openSt t l u).dp then 5 else 0 else openE t l u
def instT (t : T) (l : List T) (u : Int) : T := if instE t l u = 0 then mapT (instF l u) t 0 else zT
theorem openE_facts {t : T} {l : List T} {u : Int} (h : openE t l u = 0) : formedM t = true ∧ (∀ x ∈ l, formedM x = true) ∧ 0 ≤ u ∧ u ≤ 65535 := by
  rw [openE] at h
  by_cases h1 : checkM t = 0
  · rw [if_pos h1] at h
    by_cases h2 : argsE l = 0
    · rw [if_pos h2] at h
      refine ⟨formed_of h1, ?_, ?_⟩
      · clear h h1
        induction l with
        | nil => simp
        | cons x xs ih =>
          rw [argsE] at h2
          by_cases h3 : checkM x = 0
          · rw [if_pos h3] at h2
            intro y hy
            rcases List.mem_cons.1 hy with rfl | hy
            · exact formed_of h3
            · exact ih h2 y hy
          · rw [if_neg h3] at h2; exact absurd h2 h3
      · by_cases h3 : u < 0 ∨ 65535 < u
        · rw [if_pos h3] at h; cases h
        · omega
    · rw [if_neg h2] at h; exact absurd h h2
  · rw [if_neg h1] at h; exact absurd h h1
theorem inst_ok (t : T) (l : List T) (u : Int) (ht : nodes t ≤ 549755813888) (hl : ∀ x ∈ l, nodes x ≤ 549755813888) (hn : l.length ≤ 2097152) :
    Pure Try.prog n_subst_Inst [.agg (cT t), eTs l, .int .i64 u] [.agg (cT (instT t l u)), .int .i64 (instE t l u)] := by
  refine p_subst_Inst rfl fun hs => ?_
  simp -dsimp [x_subst_Inst, cT, eTs]
  refine call_of (open_ok t l u ht hl hn) ?_
  by_cases h1 : openE t l u = 0
  · have hR : openR t l u = jobD (l.map agOf) u (openSt t l u).sc (openSt t l u).sz (openSt t l u).dp := by rw [openR, if_pos h1]
    obtain ⟨f1, f2, f3⟩ := openE_facts h1
    have hE : instE t l u = if (openSt t l u).sc then 6 else if 6000 < (openSt t l u).sz then 4 else if 200 < (openSt t l u).dp then 5 else 0 := by rw [instE, if_pos h1]
    generalize openSt t l u = st at hR hE
    obtain ⟨sc, sz, dp⟩ := st
    have bad : instE t l u ≠ 0 → instT t l u = zT := fun h => by rw [instT, if_neg h]
    rw [hR, h1]
    cases sc with
    | true =>
      have hE1 : instE t l u = 6 := by rw [hE]; rfl
      have hT := bad (by omega)
      simp -dsimp [jobD, hE1, hT, zT, cT]
    | false =>
      simp -dsimp [jobD]
      (first | refine Ask_b ?_ ?_ | refine Cnd_b ?_ ?_) <;> intro h2 <;> (try simp only [decide_eq_true_eq, decide_eq_false_iff_not, beq_iff_eq, beq_eq_false_iff_ne, bne_iff_ne, bne_eq_false_iff_eq, Bool.not_eq_true', Bool.not_eq_false', Bool.and_eq_true, Bool.or_eq_true, Bool.and_eq_false_iff, Bool.or_eq_false_iff] at h2) <;> simp -dsimp [h2]
      · have hE1 : instE t l u = 4 := by rw [hE]; simp [h2]
        have hT := bad (by omega)
        simp -dsimp [hE1, hT, zT, cT]
      (first | refine Ask_b ?_ ?_ | refine Cnd_b ?_ ?_) <;> intro h3 <;> (try simp only [decide_eq_true_eq, decide_eq_false_iff_not, beq_iff_eq, beq_eq_false_iff_ne, bne_iff_ne, bne_eq_false_iff_eq, Bool.not_eq_true', Bool.not_eq_false', Bool.and_eq_true, Bool.or_eq_true, Bool.and_eq_false_iff, Bool.or_eq_false_iff] at h3) <;> simp -dsimp [h3, h2]
      · have hE1 : instE t l u = 5 := by rw [hE]; simp [h2, h3]
        have hT := bad (by omega)
        simp -dsimp [hE1, hT, zT, cT]
      have hE1 : instE t l u = 0 := by rw [hE]; simp [h2, h3]
      have hT : instT t l u = mapT (instF l u) t 0 := by rw [instT, if_pos hE1]
      rw [hE1, hT]
      have hmap := map_ok (instF l u) n_subst_Inst_1 [.rp [jobD (l.map agOf) u false sz dp], .rp [.int .i64 u], .rp [eTs l]] (fun n b a1 a2 a3 a4 => inst1_ok l u false sz dp f3 (fun x hx => ⟨f2 x hx, hl x hx⟩) n b a1 a2 a3 a4) t 0 f1 (by omega) (show (0 : Int) + nodes t ≤ 1099511627776 by omega)
      have hj : jobD (l.map agOf) u false sz dp = .rp [.sl 6 (l.map (eAg ∘ agOf)), .int .i64 u, .bool false, .int .i64 sz, .int .i64 dp] := by simp [jobD]
      rw [hj] at hmap
      refine call_of hmap ?_
      simp -dsimp [h2, h3, cT]
  · have hR : openR t l u = .nilp := by rw [openR, if_neg h1]
    have hE : instE t l u = openE t l u := by rw [instE, if_neg h1]
    have hT : instT t l u = zT := by rw [instT, hE, if_neg h1]
    rw [hR, hE, hT]
    simp -dsimp [h1, zT, cT]
theorem sizeOf_ok (t : T) (l : List T) (u : Int) (ht : nodes t ≤ 549755813888) (hl : ∀ x ∈ l, nodes x ≤ 549755813888) (hn : l.length ≤ 2097152) :
    Pure Try.prog n_subst_SizeOf [.agg (cT t), eTs l, .int .i64 u] [.int .i64 (if openE t l u = 0 then (openSt t l u).sz else 0)] := by
  refine p_subst_SizeOf rfl fun hs => ?_
  simp -dsimp [x_subst_SizeOf, cT, eTs]
  refine call_of (open_ok t l u ht hl hn) ?_
  by_cases h1 : openE t l u = 0
  · have hR : openR t l u = jobD (l.map agOf) u (openSt t l u).sc (openSt t l u).sz (openSt t l u).dp := by rw [openR, if_pos h1]
    rw [hR, h1, if_pos rfl]
    simp -dsimp [jobD]
  · have hR : openR t l u = .nilp := by rw [openR, if_neg h1]
    rw [hR, if_neg h1]
    simp -dsimp [h1]
end Ev
end Go.Proofs.Ytdobcpejfgpgoaa
