/- posit's laws: constants that terms name; variables counted (the document's). -/
import Derived.Test.YthopdhnbflkabaaO4
namespace Go.Proofs.Ythopdhnbflkabaa
namespace Ev
open Go
set_option maxRecDepth 100000
set_option linter.unusedSimpArgs false
set_option linter.unusedVariables false
attribute [local simp ↓] wx_skip wx_region wx_seq wx_block wx_exit wx_ret wx_cond wx_loop wo_nil wo_run wo_ask wx_draw wt_nil wt_run_t wt_run_f wt_ask_t wt_ask_f rb_mv rb_nilrow rb_pick rb_alloc rb_box rb_load rb_store rb_nilck rb_bin rb_binb rb_un rb_conv rb_mkf rb_mks rb_slice rb_faddr rb_fld rb_iaddr rb_ext rb_len rb_app rb_mm rb_build rb_bslice run_callC upd_eq upd_ne
attribute [local simp] runB_some runB_none Tch_nil Tch_cons Chk_t Cnd_t Cnd_f Ask_tt Ask_ff Ask_tf Ask_ft Ask_skip act ev_t ev_c evs sks caps2 touch_call List.cons_append List.nil_append putS binI binB int_add int_sub int_mul int_quo int_rem int_or int_eql int_neq int_lss int_leq int_gtr int_geq shiftD Ex.then Ex.inBlock Ends resL resX allD toD_d toD_fsl sk_d sk_fsl none_ loadA cut wrapA wrapD avc_d avc_agg avc_fsl avc_rsl avc_ptr avc_eptr avc_clo dc_agg dc_int dc_bool dc_str dc_sl dc_nilp dc_rp dc_clo on_int on_bool on_str on_sl on_nilp on_rp on_clo on_fsl on_rsl on_ptr on_eptr on_cloA newE elemsA elemsS storeA put frz_nil deep callee resA initS touchOp fits compat rd wr key1 buildA partsD partsK idx frz_at Body.frz lk_hit lk_miss toD6_agg toD5_agg toD4_agg toD6_clo toD5_clo toD4_clo toD6_ptr toD5_ptr toD4_ptr sk6_agg sk5_agg sk4_agg sk6_clo sk5_clo sk4_clo sk6_ptr sk5_ptr sk4_ptr toD_rsl sk_rsl resK EndsP EndsMP fitVs fitCs fitC keysV keysC keyC cellsA1 skVs skCs skC1 resO tupA valsV cellsV oneV rowsV rowsC RV.cells nk rowsH_one rowsH_two rowsH_none
section
attribute [local simp] allD_map_d sks_map_d tk tn tks initA EndsM
/-- Where a number stands in a rising list. -/
def kI : List Int → Int → Nat
  | [], _ => 0
  | x :: xs, n => if x < n then kI xs n + 1 else 0
def joinL (l : List Int) (n : Int) : List Int := if l[kI l n]? = some n then l else l.take (kI l n) ++ n :: l.drop (kI l n)
theorem join_mem {l : List Int} {n x : Int} : x ∈ joinL l n ↔ x = n ∨ x ∈ l := by
  rw [joinL]
  split
  · rename_i h
    constructor
    · exact .inr
    · rintro (rfl | h')
      · exact List.mem_of_getElem? h
      · exact h'
  · have e : x ∈ l ↔ x ∈ l.take (kI l n) ∨ x ∈ l.drop (kI l n) := by rw [← List.mem_append, List.take_append_drop]
    rw [List.mem_append, List.mem_cons, e]
    constructor
    · rintro (h | h | h)
      · exact .inr (.inl h)
      · exact .inl h
      · exact .inr (.inr h)
    · rintro (h | h | h)
      · exact .inr (.inl h)
      · exact .inl h
      · exact .inr (.inr h)
mutual
def csT : T → List Int
  | .mk k n ks => csL (if k = 3 then joinL [] n else []) ks
def csL : List Int → List T → List Int
  | a, [] => a
  | a, x :: xs => csL ((csT x).foldl joinL a) xs
end
theorem fold_mem {c : Int} : ∀ (l a : List Int), c ∈ l.foldl joinL a ↔ c ∈ a ∨ c ∈ l
  | [], a => by simp
  | x :: xs, a => by
    rw [List.foldl_cons, fold_mem xs, join_mem, List.mem_cons]
    constructor
    · rintro ((h | h) | h)
      · exact .inr (.inl h)
      · exact .inl h
      · exact .inr (.inr h)
    · rintro (h | h | h)
      · exact .inl (.inr h)
      · exact .inl (.inl h)
      · exact .inr h
theorem cs_mem {c : Int} {k n : Int} {ks : List T} : c ∈ csT (.mk k n ks) ↔ (k = 3 ∧ c = n) ∨ ∃ x ∈ ks, c ∈ csT x := by
  rw [csT]
  have go : ∀ (l : List T) (a : List Int), c ∈ csL a l ↔ c ∈ a ∨ ∃ x ∈ l, c ∈ csT x := by
    intro l
    induction l with
    | nil => intro a; simp [csL]
    | cons x xs ihx =>
      intro a
      rw [csL, ihx, fold_mem]
      simp only [List.mem_cons, exists_eq_or_imp]
      constructor
      · rintro ((h | h) | h)
        · exact .inl h
        · exact .inr (.inl h)
        · exact .inr (.inr h)
      · rintro (h | h | h)
        · exact .inl (.inl h)
        · exact .inl (.inr h)
        · exact .inr h
  rw [go]
  by_cases hk : k = 3
  · rw [if_pos hk, join_mem]; simp [hk]
  · rw [if_neg hk]; simp [hk]
/-- A row's terms. -/
def arT (a : Ar) : List T := a.ty :: (a.dom ++ a.idx)
def arTs (l : List Ar) : List T := (l.map arT).flatten
def soT (s : So) : List T := s.dty :: arTs s.idx
def coT (c : Co) : List T := c.dec :: (c.idx ++ arTs c.args)
def blT (b : Bl) : List T := (b.sorts.map soT).flatten ++ (b.cons.map coT).flatten
def nmB (b : Bl) (c : Int) : Bool := (blT b).any fun t => (csT t).any (· == c)
end
end Ev
end Go.Proofs.Ythopdhnbflkabaa
