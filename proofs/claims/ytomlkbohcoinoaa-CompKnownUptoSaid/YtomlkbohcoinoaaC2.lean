/- comp: Elim, Decode. -/
import Derived.Test.YtomlkbohcoinoaaC1
namespace Go.Proofs.Ytomlkbohcoinoaa
namespace Ev
open Go
set_option maxRecDepth 100000
set_option linter.unusedSimpArgs false
set_option linter.unusedVariables false
attribute [local simp ↓] wx_skip wx_region wx_seq wx_block wx_exit wx_ret wx_cond wx_loop wo_nil wo_run wo_ask wx_draw wt_nil wt_run_t wt_run_f wt_ask_t wt_ask_f rb_mv rb_nilrow rb_pick rb_alloc rb_box rb_load rb_store rb_nilck rb_bin rb_binb rb_un rb_conv rb_mkf rb_mks rb_slice rb_faddr rb_fld rb_iaddr rb_ext rb_len rb_app rb_mm rb_build rb_bslice run_callC upd_eq upd_ne
attribute [local simp] runB_some runB_none Tch_nil Tch_cons Chk_t Cnd_t Cnd_f Ask_tt Ask_ff Ask_tf Ask_ft Ask_skip act ev_t ev_c evs sks caps2 touch_call List.cons_append List.nil_append putS binI binB int_add int_sub int_mul int_quo int_rem int_or int_eql int_neq int_lss int_leq int_gtr int_geq shiftD Ex.then Ex.inBlock Ends resL resX allD toD_d toD_fsl sk_d sk_fsl none_ loadA cut wrapA wrapD avc_d avc_agg avc_fsl avc_rsl avc_ptr avc_eptr avc_clo dc_agg dc_int dc_bool dc_str dc_sl dc_nilp dc_rp dc_clo on_int on_bool on_str on_sl on_nilp on_rp on_clo on_fsl on_rsl on_ptr on_eptr on_cloA newE elemsA elemsS storeA put frz_nil deep callee resA initS touchOp fits compat rd wr key1 buildA partsD partsK idx frz_at Body.frz lk_hit lk_miss toD6_agg toD5_agg toD4_agg toD6_clo toD5_clo toD4_clo toD6_ptr toD5_ptr toD4_ptr sk6_agg sk5_agg sk4_agg sk6_clo sk5_clo sk4_clo sk6_ptr sk5_ptr sk4_ptr toD_rsl sk_rsl resK EndsP EndsMP fitVs fitCs fitC keysV keysC keyC cellsA1 skVs skCs skC1 resO tupA valsV cellsV oneV rowsV rowsC RV.cells nk rowsH_one rowsH_two rowsH_none
section
attribute [local simp] allD_map_d sks_map_d tk tn tks initA EndsM one_sos one_cos one_ars one_ts
def firstE : List T → Int
  | [] => 0
  | t :: ts => if checkM t = 0 then firstE ts else checkM t
theorem firstE_append : ∀ l m : List T, firstE (l ++ m) = if firstE l = 0 then firstE m else firstE l
  | [], m => by simp [firstE]
  | t :: l, m => by
    simp only [List.cons_append, firstE, firstE_append l m]
    split <;> simp_all
theorem firstE_zero : ∀ {l : List T}, firstE l = 0 ↔ ∀ t ∈ l, checkM t = 0
  | [] => by simp [firstE]
  | t :: l => by
    simp only [firstE, List.mem_cons, forall_eq_or_imp]
    rw [← firstE_zero (l := l)]
    split <;> simp_all
theorem cright_ok (rows : List (List T)) (hn : ∀ r ∈ rows, r.length ≤ 1000000) (hr : rows.length ≤ 1000000) : Pure Try.prog n_comp_right [.sl 1 (rows.map eTs)] [.int .i64 (firstE rows.flatten)] := by
  refine p_comp_right rfl fun hs => ?_
  simp -dsimp [x_comp_right]
  refine wp_upto rows.length (fun i st => st.s 8 = .d (.sl 1 (rows.map eTs)) ∧ st.s 9 = .d (.int .i64 rows.length) ∧ st.s 10 = .d (.int .i64 i) ∧ firstE (rows.take i).flatten = 0) ?_ ?_
  · simp -dsimp [firstE]
  · rintro i ⟨s, hp⟩ hi ⟨g1, g2, g3, g4⟩
    dsimp only at g1 g2 g3
    rcases Nat.lt_or_ge i rows.length with hlt | hge
    · have w1 : IntKind.i64.wrap ((i : Int) + 1) = (i : Int) + 1 := wrap_id (by omega) (by omega)
      have hd : rows = rows.take i ++ rows[i] :: rows.drop (i + 1) := by rw [← List.drop_eq_getElem_cons hlt, List.take_append_drop]
      have ht : rows.take (i + 1) = rows.take i ++ [rows[i]] := by rw [List.take_add_one, List.getElem?_eq_getElem hlt]; rfl
      have hl := hn rows[i] (List.getElem_mem _)
      generalize hR : rows[i] = R at *
      simp -dsimp [g1, g2, g3, hlt, hR, eTs]
      refine wp_upto R.length (fun j st => st.s 8 = .d (.sl 1 (rows.map eTs)) ∧ st.s 9 = .d (.int .i64 rows.length) ∧ st.s 10 = .d (.int .i64 i) ∧ st.s 14 = .d (eTs R) ∧ st.s 15 = .d (.int .i64 R.length) ∧ st.s 16 = .d (.int .i64 j) ∧ firstE (R.take j) = 0) ?_ ?_
      · simp -dsimp [g1, g2, g3, eTs, firstE]
      · rintro j ⟨s, hp⟩ hj ⟨g1, g2, g3, g5, g6, g7, g8⟩
        dsimp only at g1 g2 g3 g5 g6 g7
        simp only [eTs] at g5
        rcases Nat.lt_or_ge j R.length with hlt2 | hge2
        · have w2 : IntKind.i64.wrap ((j : Int) + 1) = (j : Int) + 1 := wrap_id (by omega) (by omega)
          have hd2 : R = R.take j ++ R[j] :: R.drop (j + 1) := by rw [← List.drop_eq_getElem_cons hlt2, List.take_append_drop]
          have ht2 : R.take (j + 1) = R.take j ++ [R[j]] := by rw [List.take_add_one, List.getElem?_eq_getElem hlt2]; rfl
          have hC := check_ok R[j]
          simp only [cT] at hC
          generalize hX : R[j] = X at *
          simp -dsimp [g1, g2, g3, g5, g6, g7, hlt2, hX, cT]
          refine call_of hC ?_
          by_cases h0 : checkM X = 0
          · have hz : firstE (R.take (j + 1)) = 0 := by rw [ht2, firstE_append, if_pos g8, firstE, if_pos h0, firstE]
            simp -dsimp [g1, g2, g3, g5, g6, g7, hlt2, hX, h0, w2, hz, eTs]
          · have hz : firstE rows.flatten = checkM X := by
              rw [hd, List.flatten_append, firstE_append, if_pos g4, List.flatten_cons, firstE_append, hd2, firstE_append, if_pos g8, firstE, if_neg h0, if_neg h0]
            simp -dsimp [g1, g2, g3, g5, g6, g7, hlt2, hX, h0, hz]
        · have e : j = R.length := by omega
          subst e
          rw [List.take_length] at g8
          have hz : firstE (rows.take (i + 1)).flatten = 0 := by rw [ht, List.flatten_append, firstE_append, if_pos g4]; simpa using g8
          simp -dsimp [g1, g2, g3, g5, g6, g7, w1, hz, hlt]
    · have e : i = rows.length := by omega
      subst e
      rw [List.take_length] at g4
      simp -dsimp [g1, g2, g3, g4]
/-- Is nothing amiss with how many there are? -/
def elimB (b : Bl) (base c : Int) (co : Co) (mo me args : List T) : Prop := args.length = co.args.length ∧ mo.length = b.sorts.length ∧ me.length = b.cons.length ∧ 0 ≤ base ∧ base ≤ 65535
instance (b : Bl) (base c : Int) (co : Co) (mo me args : List T) : Decidable (elimB b base c co mo me args) := by unfold elimB; infer_instance
def elimE (b : Bl) (base c : Int) (mo me args : List T) : Int := if checkB b = 0 then
    if c < 0 then 1 else match b.cons[c.toNat]? with
    | some co => if elimB b base c co mo me args then if firstE (mo ++ (me ++ args)) = 0 then makeE b base co (me.getD c.toNat zT) mo me args else firstE (mo ++ (me ++ args)) else 1
    | none => 1
  else checkB b
def elimT (b : Bl) (base c : Int) (mo me args : List T) : T := if elimE b base c mo me args = 0 then match b.cons[c.toNat]? with
    | some co => makeT b base co (me.getD c.toNat zT) mo me args
    | none => zT else zT
theorem elim_ok (b : Bl) (fb : FineBl b) (ob : okBl b) (base c : Int) (mo me args : List T) (hmo : ∀ x ∈ mo, nodes x ≤ 9000) (lmo : mo.length ≤ 60) (hme : ∀ x ∈ me, nodes x ≤ 9000) (lme : me.length ≤ 60)
    (har : ∀ x ∈ args, nodes x ≤ 9000) (lar : args.length ≤ 60) (ome : ∀ x ∈ me, okT x) (oar : ∀ x ∈ args, okT x) :
    Pure Try.prog n_comp_Elim [eBl b, .int .i64 base, .int .i64 c, eTs mo, eTs me, eTs args] [.agg (cT (elimT b base c mo me args)), .int .i64 (elimE b base c mo me args)] := by
  refine p_comp_Elim rfl fun hs => ?_
  have hC := checkB_ok b
  have hcl := fb.c
  simp only [eBl, cBl] at hC
  simp -dsimp [x_comp_Elim, eBl, cBl, eTs]
  refine call_of hC ?_
  by_cases hz : checkB b = 0
  case neg =>
    have hE : elimE b base c mo me args = checkB b := by rw [elimE, if_neg hz]
    have hT : elimT b base c mo me args = zT := by rw [elimT, hE, if_neg hz]
    simp -dsimp [hz, hE, hT, zT, cT]
  simp -dsimp [hz]
  by_cases c0 : c < 0
  · have hE : elimE b base c mo me args = 1 := by rw [elimE, if_pos hz, if_pos c0]
    have hT : elimT b base c mo me args = zT := by rw [elimT, hE, if_neg (by omega)]
    simp -dsimp [hz, hE, hT, zT, cT, c0]
  cases hco : b.cons[c.toNat]? with
  | none =>
    have hge := List.getElem?_eq_none_iff.1 hco
    have c1 : (b.cons.length : Int) ≤ c := by omega
    have hE : elimE b base c mo me args = 1 := by rw [elimE, if_pos hz, if_neg c0, hco]
    have hT : elimT b base c mo me args = zT := by rw [elimT, hE, if_neg (by omega)]
    simp -dsimp [hz, hE, hT, zT, cT, c0, eCos, c1]
  | some co =>
    have hlt := (List.getElem?_eq_some_iff.1 hco).1
    have c1 : ¬ (b.cons.length : Int) ≤ c := by omega
    have c2 : 0 ≤ c := by omega
    have hE : elimE b base c mo me args = if elimB b base c co mo me args then if firstE (mo ++ (me ++ args)) = 0 then makeE b base co (me.getD c.toNat zT) mo me args else firstE (mo ++ (me ++ args)) else 1 := by rw [elimE, if_pos hz, if_neg c0, hco]
    have hT : elimT b base c mo me args = if elimE b base c mo me args = 0 then makeT b base co (me.getD c.toNat zT) mo me args else zT := by rw [elimT, hco]
    by_cases a1 : (args.length : Int) = co.args.length
    case neg =>
      have hN : ¬ elimB b base c co mo me args := fun h => by have := h.1; omega
      rw [if_neg hN] at hE
      rw [hE, if_neg (by omega)] at hT
      simp -dsimp [c0, c1, c2, eCos, eSos, hco, eCo, cCo, eArs, a1, hE, hT, zT, cT]
    by_cases a2 : (mo.length : Int) = b.sorts.length
    case neg =>
      have hN : ¬ elimB b base c co mo me args := fun h => by have := h.2.1; omega
      rw [if_neg hN] at hE
      rw [hE, if_neg (by omega)] at hT
      simp -dsimp [c0, c1, c2, eCos, eSos, hco, eCo, cCo, eArs, a1, a2, hE, hT, zT, cT]
    by_cases a3 : (me.length : Int) = b.cons.length
    case neg =>
      have hN : ¬ elimB b base c co mo me args := fun h => by have := h.2.2.1; omega
      rw [if_neg hN] at hE
      rw [hE, if_neg (by omega)] at hT
      simp -dsimp [c0, c1, c2, eCos, eSos, hco, eCo, cCo, eArs, a1, a2, a3, hE, hT, zT, cT]
    by_cases a4 : base < 0
    · have hN : ¬ elimB b base c co mo me args := fun h => by have := h.2.2.2.1; omega
      rw [if_neg hN] at hE
      rw [hE, if_neg (by omega)] at hT
      simp -dsimp [c0, c1, c2, eCos, eSos, hco, eCo, cCo, eArs, a1, a2, a3, a4, hE, hT, zT, cT]
    by_cases a5 : 65535 < base
    · have hN : ¬ elimB b base c co mo me args := fun h => by have := h.2.2.2.2; omega
      rw [if_neg hN] at hE
      rw [hE, if_neg (by omega)] at hT
      simp -dsimp [c0, c1, c2, eCos, eSos, hco, eCo, cCo, eArs, a1, a2, a3, a4, a5, hE, hT, zT, cT]
    have hY : elimB b base c co mo me args := ⟨by omega, by omega, by omega, by omega, by omega⟩
    rw [if_pos hY] at hE
    have hR := cright_ok [mo, me, args] (by simp; omega) (by simp)
    have hfl : [mo, me, args].flatten = mo ++ (me ++ args) := by simp
    rw [hfl] at hR
    simp only [List.map_cons, List.map_nil, eTs] at hR
    simp -dsimp [c0, c1, c2, eCos, eSos, hco, eCo, cCo, eArs, a1, a2, a3, a4, a5]
    refine call_of hR ?_
    by_cases h1 : firstE (mo ++ (me ++ args)) = 0
    · rw [if_pos h1] at hE
      rw [hE] at hT
      have hmlt : c.toNat < me.length := by omega
      have hm : me[c.toNat]? = some (me.getD c.toNat zT) := by rw [List.getD_eq_getElem?_getD, List.getElem?_eq_getElem hmlt]; rfl
      have hK := make_ok b fb ob base c.toNat co hco mo me args _ hm hmo lmo hme lme har (by omega) ome oar
      rw [show ((c.toNat : Nat) : Int) = c by omega] at hK
      have hM0 : elimT b base c mo me args = makeT b base co (me.getD c.toNat zT) mo me args := by
        rw [hT]
        split
        · rfl
        · rename_i hne; rw [makeT, if_neg hne]
      rw [hE, hM0]
      simp only [eBl, cBl, eTs, cT] at hK
      simp -dsimp [c0, c1, c2, eCos, eSos, hco, eCo, cCo, eArs, a1, a2, a3, a4, a5, h1]
      simp only [eCos, eSos, List.length_map] at hK ⊢
      refine call_of hK ?_
      simp -dsimp [cT]
    · rw [if_neg h1] at hE
      rw [hE, if_neg h1] at hT
      simp -dsimp [c0, c1, c2, eCos, eSos, hco, eCo, cCo, eArs, a1, a2, a3, a4, a5, h1, hE, hT, zT, cT]
def decodeE (b : Bl) (c : Int) (args : List T) : Int := if checkB b = 0 then
    if c < 0 then 1 else match b.cons[c.toNat]? with
    | some co => if args.length = co.args.length then match b.sorts[co.sort.toNat]? with
      | some so => if so.dec = true then if firstE args = 0 then instE co.dec args 0 else firstE args else 1
      | none => 1
      else 1
    | none => 1
  else checkB b
def decodeT (b : Bl) (c : Int) (args : List T) : T := if decodeE b c args = 0 then match b.cons[c.toNat]? with
    | some co => instT co.dec args 0
    | none => zT else zT
theorem con_sort {b : Bl} {c : Co} (h : conM b c = true) : 0 ≤ c.sort ∧ ∃ s, b.sorts[c.sort.toNat]? = some s := by
  rw [conM] at h
  split at h
  · cases h
  · split at h
    · split at h
      · cases h
      · rename_i s hs
        exact ⟨by omega, s, hs⟩
    · cases h
theorem decode_ok (b : Bl) (fb : FineBl b) (ob : okBl b) (c : Int) (args : List T) (har : ∀ x ∈ args, nodes x ≤ 9000) (lar : args.length ≤ 60) (oar : ∀ x ∈ args, okT x) :
    Pure Try.prog n_comp_Decode [eBl b, .int .i64 c, eTs args] [.agg (cT (decodeT b c args)), .int .i64 (decodeE b c args)] := by
  refine p_comp_Decode rfl fun hs => ?_
  have hC := checkB_ok b
  have hcl := fb.c
  simp only [eBl, cBl] at hC
  simp -dsimp [x_comp_Decode, eBl, cBl, eTs]
  refine call_of hC ?_
  by_cases hz : checkB b = 0
  case neg =>
    have hE : decodeE b c args = checkB b := by rw [decodeE, if_neg hz]
    have hT : decodeT b c args = zT := by rw [decodeT, hE, if_neg hz]
    simp -dsimp [hz, hE, hT, zT, cT]
  simp -dsimp [hz]
  by_cases c0 : c < 0
  · have hE : decodeE b c args = 1 := by rw [decodeE, if_pos hz, if_pos c0]
    have hT : decodeT b c args = zT := by rw [decodeT, hE, if_neg (by omega)]
    simp -dsimp [hz, hE, hT, zT, cT, c0]
  cases hco : b.cons[c.toNat]? with
  | none =>
    have hge := List.getElem?_eq_none_iff.1 hco
    have c1 : (b.cons.length : Int) ≤ c := by omega
    have hE : decodeE b c args = 1 := by rw [decodeE, if_pos hz, if_neg c0, hco]
    have hT : decodeT b c args = zT := by rw [decodeT, hE, if_neg (by omega)]
    simp -dsimp [hz, hE, hT, zT, cT, c0, eCos, c1]
  | some co =>
    have hlt := (List.getElem?_eq_some_iff.1 hco).1
    have c1 : ¬ (b.cons.length : Int) ≤ c := by omega
    have c2 : 0 ≤ c := by omega
    have hcm := List.mem_of_getElem? hco
    obtain ⟨k0, so, hso⟩ := con_sort (((checkB_zero b).1 hz).2.2.2.2.2 co hcm)
    have hE : decodeE b c args = if args.length = co.args.length then if so.dec = true then if firstE args = 0 then instE co.dec args 0 else firstE args else 1 else 1 := by
      rw [decodeE, if_pos hz, if_neg c0, hco]
      simp only [hso]
    have hT : decodeT b c args = if decodeE b c args = 0 then instT co.dec args 0 else zT := by rw [decodeT, hco]
    by_cases a1 : (args.length : Int) = co.args.length
    case neg =>
      rw [if_neg (by omega)] at hE
      rw [hE, if_neg (by omega)] at hT
      simp -dsimp [c0, c1, c2, eCos, eSos, hco, eCo, cCo, eArs, a1, hE, hT, zT, cT]
    rw [if_pos (by omega)] at hE
    cases hd : so.dec with
    | false =>
      rw [hd, if_neg (by simp)] at hE
      rw [hE, if_neg (by omega)] at hT
      simp -dsimp [c0, c1, c2, eCos, eSos, hco, eCo, cCo, eArs, a1, k0, hso, eSo, cSo, hd, hE, hT, zT, cT]
    | true =>
      rw [hd, if_pos rfl] at hE
      have hR := cright_ok [args] (by simp; omega) (by simp)
      have hfl : [args].flatten = args := by simp
      rw [hfl] at hR
      simp only [List.map_cons, List.map_nil, eTs] at hR
      simp -dsimp [c0, c1, c2, eCos, eSos, hco, eCo, cCo, eArs, a1, k0, hso, eSo, cSo, hd, cT]
      refine call_of hR ?_
      by_cases h1 : firstE args = 0
      · rw [if_pos h1] at hE
        have hI := inst_ok co.dec args 0 (by have := (fb.cons co hcm).dec; omega) (fun x hx => by have := har x hx; omega) (by omega)
        have hM : decodeT b c args = instT co.dec args 0 := by
          rw [hT, hE]
          split
          · rfl
          · rename_i hne; rw [instT, if_neg hne]
        rw [hE, hM]
        simp only [cT, eTs] at hI
        simp -dsimp [c0, c1, c2, eCos, eSos, hco, eCo, cCo, eArs, a1, k0, hso, eSo, cSo, hd, cT, h1]
        refine call_of hI ?_
        simp -dsimp [cT]
      · rw [if_neg h1] at hE
        rw [hE, if_neg h1] at hT
        simp -dsimp [c0, c1, c2, eCos, eSos, hco, eCo, cCo, eArs, a1, k0, hso, eSo, cSo, hd, cT, h1, hE, hT, zT]
end
end Ev
end Go.Proofs.Ytomlkbohcoinoaa
