/- What steps a walk, told to simp. -/
import Derived.Test.YtncmainjcffanaaGreatEC
namespace Go.Proofs.YtncmainjcffanaaGreat
namespace Ev
open Go
/-! short words for a function's code -/
abbrev xo (d : Nat) (x : XOp) : XOper := ⟨some d, x, none⟩
abbrev xn (x : XOp) : XOper := ⟨none, x, none⟩
abbrev xk (n : Int) : Opd := .c (.d (.int .i64 n))
/-- How a told bool is put into words. -/
theorem nrm : (∀ (p : Prop) [Decidable p], (decide p = true) = p) ∧ (∀ (p : Prop) [Decidable p], (decide p = false) = ¬p) ∧
    (∀ {α : Type} [BEq α] [LawfulBEq α] (a b : α), ((a == b) = true) = (a = b)) ∧ (∀ {α : Type} [BEq α] [LawfulBEq α] (a b : α), ((a == b) = false) = ¬(a = b)) ∧
    (∀ {α : Type} [BEq α] [LawfulBEq α] (a b : α), ((a != b) = true) = ¬(a = b)) ∧ (∀ {α : Type} [BEq α] [LawfulBEq α] (a b : α), ((a != b) = false) = (a = b)) ∧
    (∀ b : Bool, ((!b) = true) = (b = false)) ∧ (∀ b : Bool, ((!b) = false) = (b = true)) ∧ (∀ a b : Bool, ((a && b) = true) = (a = true ∧ b = true)) ∧ (∀ a b : Bool, ((a || b) = true) = (a = true ∨ b = true)) ∧
    (∀ a b : Bool, ((a && b) = false) = (a = false ∨ b = false)) ∧ (∀ a b : Bool, ((a || b) = false) = (a = false ∧ b = false)) := by
  refine ⟨fun p _ => by simp, fun p _ => by simp, fun a b => by simp, fun a b => by simp, fun a b => by simp, fun a b => by simp, ?_, ?_, ?_, ?_, ?_, ?_⟩ <;> decide
/-- A function by its contract on plain data. -/
abbrev FnP (P : Program) (n : FuncId) (x : XFn) : Prop := ∀ {ds rs : List D}, ds.length = x.np → ((∀ d ∈ ds, small 8 d) → wpX P x.code (Ends x.res rs) ⟨initS ds, none_⟩) → Pure P n ds rs
abbrev FnO (P : Program) (n : FuncId) (x : XFn) : Prop := ∀ {ds : List D} {rs : List RV}, ds.length = x.np → ((∀ d ∈ ds, small 8 d) → wpX P x.code (EndsP x.res rs) ⟨initS ds, none_⟩) → OwnC P n ds rs
theorem ps_of {P : Program} {f : FuncId} {fn : Func} {x : XFn} (hm : P.follows .mixedOrders = true) (hf : P.funcs[f]? = some fn) (hx : cfn P fn = some x) : FnP P f x := pure_small hm hf hx
theorem po_of {P : Program} {f : FuncId} {fn : Func} {x : XFn} (hm : P.follows .mixedOrders = true) (hf : P.funcs[f]? = some fn) (hx : cfn P fn = some x) : FnO P f x := own_small hm hf hx
attribute [simp ↓] wx_skip wx_region wx_seq wx_block wx_exit wx_ret wx_cond wx_loop wo_nil wo_run wo_ask wx_draw wt_nil wt_run_t wt_run_f wt_ask_t wt_ask_f rb_mv rb_nilrow rb_pick rb_alloc rb_box rb_load rb_store rb_nilck rb_bin rb_binb rb_un rb_conv rb_mkf rb_mks rb_slice rb_faddr rb_fld rb_iaddr rb_ext rb_len rb_app rb_mm rb_build rb_bslice rb1_store rb1_app rb1_bslice rb2_store rb2_app rb2_bslice run_callC upd_eq upd_ne
attribute [simp] runB_some runB_none Tch_nil Tch_cons Chk_t Cnd_t Cnd_f Ask_tt Ask_ff Ask_tf Ask_ft Ask_skip act ev_t ev_c evs sks caps2 touch_call List.cons_append List.nil_append putS binI binB int_add int_sub int_mul int_quo int_rem int_or int_eql int_neq int_lss int_leq int_gtr int_geq shiftD Ex.then Ex.inBlock Ends resL resX allD toD_d toD_n toD_fsl sk_d sk_n sk_fsl none_ loadA cut wrapA wrapD avc_d avc_n avc_agg avc_fsl avc_rsl avc_ptr avc_eptr avc_clo dc_agg dc_int dc_bool dc_str dc_sl dc_nilp dc_rp dc_clo on_int on_bool on_str on_sl on_n on_nilp on_rp on_clo on_fsl on_rsl on_ptr on_eptr on_cloA newE elemsA elemsS storeA put frz_nil deep callee resA initS touchOp fits compat rd wr key1 buildA partsD partsK idx frz_at Body.frz lk_hit lk_miss toD6_agg toD5_agg toD4_agg toD6_clo toD5_clo toD4_clo toD6_ptr toD5_ptr toD4_ptr sk6_agg sk5_agg sk4_agg sk6_clo sk5_clo sk4_clo sk6_ptr sk5_ptr sk4_ptr toD_rsl sk_rsl resK EndsP EndsMP fitVs fitCs fitC keysV keysC keyC cellsA1 skVs skCs skC1 resO tupA valsV cellsV oneV rowsV rowsC RV.cells nk rowsH_one rowsH_two rowsH_none resN newA newC AV.hi AV.hi1 D.bare D.bare1 AV.isE AV.hiY EndsN hiV hiC
end Ev
end Go.Proofs.YtncmainjcffanaaGreat
