/- ShapeBases: what the law computes. -/
import Derived.Test.YtafpjpolkjdohaaS11
namespace Go.Proofs.Ytafpjpolkjdohaa
namespace Ev
open Go
set_option maxRecDepth 100000
set_option linter.unusedSimpArgs false
set_option linter.unusedVariables false
attribute [local simp ↓] wx_skip wx_region wx_seq wx_block wx_exit wx_ret wx_cond wx_loop wo_nil wo_run wo_ask wx_draw wt_nil wt_run_t wt_run_f wt_ask_t wt_ask_f rb_mv rb_nilrow rb_pick rb_alloc rb_box rb_load rb_store rb_nilck rb_bin rb_binb rb_un rb_conv rb_mkf rb_mks rb_slice rb_faddr rb_fld rb_iaddr rb_ext rb_len rb_app rb_mm rb_build rb_bslice run_callC upd_eq upd_ne
attribute [local simp] runB_some runB_none Tch_nil Tch_cons Chk_t Cnd_t Cnd_f Ask_tt Ask_ff Ask_tf Ask_ft Ask_skip act ev_t ev_c evs sks caps2 touch_call List.cons_append List.nil_append putS binI binB int_add int_sub int_mul int_quo int_rem int_or int_eql int_neq int_lss int_leq int_gtr int_geq shiftD Ex.then Ex.inBlock Ends resL resX allD toD_d toD_fsl sk_d sk_fsl none_ loadA cut wrapA wrapD avc_d avc_agg avc_fsl avc_rsl avc_ptr avc_eptr avc_clo dc_agg dc_int dc_bool dc_str dc_sl dc_nilp dc_rp dc_clo on_int on_bool on_str on_sl on_nilp on_rp on_clo on_fsl on_rsl on_ptr on_eptr on_cloA newE elemsA elemsS storeA put frz_nil deep callee resA initS touchOp fits compat rd wr key1 buildA partsD partsK idx frz_at Body.frz lk_hit lk_miss toD6_agg toD5_agg toD4_agg toD6_clo toD5_clo toD4_clo toD6_ptr toD5_ptr toD4_ptr sk6_agg sk5_agg sk4_agg sk6_clo sk5_clo sk4_clo sk6_ptr sk5_ptr sk4_ptr toD_rsl sk_rsl
attribute [local simp] allD_map_d sks_map_d

/-- Both none, or moved by as many. -/
def Mv (a c y : Int) : Prop := (a = -1 ∧ c = -1) ∨ (0 ≤ a ∧ a ≤ 100000 ∧ c = a + y)
def movesM (a c y : Int) : Bool := if a < 0 ∧ c < 0 then true else if 0 ≤ a then decide (c = w64 (a + y)) else false
theorem moves_ok (a c y : Int) : Pure Try.prog n_porismlaw07_moves [.int .i64 a, .int .i64 c, .int .i64 y] [.bool (movesM a c y)] := by
  refine p_porismlaw07_moves rfl fun hs => ?_
  simp -dsimp [x_porismlaw07_moves, movesM]
  (first | refine Ask_b ?_ ?_ | refine Cnd_b ?_ ?_) <;> intro h1 <;> (try simp only [decide_eq_true_eq, decide_eq_false_iff_not, beq_iff_eq, beq_eq_false_iff_ne, bne_iff_ne, bne_eq_false_iff_eq, Bool.not_eq_true', Bool.not_eq_false', Bool.and_eq_true, Bool.or_eq_true, Bool.and_eq_false_iff, Bool.or_eq_false_iff] at h1) <;> simp -dsimp [h1, w64]
  · (first | refine Ask_b ?_ ?_ | refine Cnd_b ?_ ?_) <;> intro h2 <;> (try simp only [decide_eq_true_eq, decide_eq_false_iff_not, beq_iff_eq, beq_eq_false_iff_ne, bne_iff_ne, bne_eq_false_iff_eq, Bool.not_eq_true', Bool.not_eq_false', Bool.and_eq_true, Bool.or_eq_true, Bool.and_eq_false_iff, Bool.or_eq_false_iff] at h2) <;> simp -dsimp [h2, h1, w64]
    (first | refine Ask_b ?_ ?_ | refine Cnd_b ?_ ?_) <;> intro h3 <;> (try simp only [decide_eq_true_eq, decide_eq_false_iff_not, beq_iff_eq, beq_eq_false_iff_ne, bne_iff_ne, bne_eq_false_iff_eq, Bool.not_eq_true', Bool.not_eq_false', Bool.and_eq_true, Bool.or_eq_true, Bool.and_eq_false_iff, Bool.or_eq_false_iff] at h3) <;> simp -dsimp [h3, h1, h2, w64]
    exact decide_eq_decide.2 Iff.rfl
  · (first | refine Ask_b ?_ ?_ | refine Cnd_b ?_ ?_) <;> intro h2 <;> (try simp only [decide_eq_true_eq, decide_eq_false_iff_not, beq_iff_eq, beq_eq_false_iff_ne, bne_iff_ne, bne_eq_false_iff_eq, Bool.not_eq_true', Bool.not_eq_false', Bool.and_eq_true, Bool.or_eq_true, Bool.and_eq_false_iff, Bool.or_eq_false_iff] at h2) <;> simp -dsimp [h2, h1, w64]
    exact decide_eq_decide.2 Iff.rfl
theorem moves_t {a c y : Int} (h : Mv a c y) (h0 : 0 ≤ y) (h1 : y ≤ 1000) : movesM a c y = true := by
  rcases h with ⟨rfl, rfl⟩ | ⟨h2, h3, rfl⟩
  · rfl
  · rw [movesM, if_neg (by omega), if_pos h2, w64_id (by omega) (by omega)]
    simp
theorem mv_former {b : Bl} (hf : Fit b) {B Y : Int} (h0 : 0 ≤ B) (h1 : B ≤ 2000) (h2 : 0 ≤ Y) (h3 : Y ≤ 2000) (k : Int) : Mv (former b B k) (former b (B + Y) k) Y := by
  have hs := hf.s
  rw [former_is hf h0 (by omega), former_is hf (by omega) (by omega)]
  simp only [Mv]
  split <;> omega
theorem mv_constructor {b : Bl} (hf : Fit b) {B Y : Int} (h0 : 0 ≤ B) (h1 : B ≤ 2000) (h2 : 0 ≤ Y) (h3 : Y ≤ 2000) (k : Int) : Mv (constructor_ b B k) (constructor_ b (B + Y) k) Y := by
  have hs := hf.s
  have hc := hf.c
  have hd := decs_le b.sorts
  rw [constructor_is hf h0 (by omega), constructor_is hf (by omega) (by omega)]
  simp only [Mv]
  split <;> omega
theorem mv_eliminator {b : Bl} (hf : Fit b) {B Y : Int} (h0 : 0 ≤ B) (h1 : B ≤ 2000) (h2 : 0 ≤ Y) (h3 : Y ≤ 2000) (k : Int) : Mv (eliminator b B k) (eliminator b (B + Y) k) Y := by
  have hs := hf.s
  have hc := hf.c
  have hd := decs_le b.sorts
  rw [eliminator_is hf h0 (by omega), eliminator_is hf (by omega) (by omega)]
  simp only [Mv]
  split <;> omega
theorem mv_decoder {b : Bl} (hf : Fit b) {B Y : Int} (h0 : 0 ≤ B) (h1 : B ≤ 2000) (h2 : 0 ≤ Y) (h3 : Y ≤ 2000) (k : Int) : Mv (decoder b B k) (decoder b (B + Y) k) Y := by
  have hs := hf.s
  have hd := decs_le (b.sorts.take k.toNat)
  rw [List.length_take] at hd
  rw [decoder_is hf h0 (by omega), decoder_is hf (by omega) (by omega)]
  simp only [Mv]
  split
  · split <;> omega
  · omega
theorem hit_mv {n y : Int} {e e' : En} (hm : e'.many = e.many) (hn : 0 ≤ n) (h : ∀ k, Mv (e.of k) (e'.of k) y) (hy : 0 ≤ y) : hit (n + y) e' = hit n e := by
  have : (fun k : Nat => e'.of k == n + y) = fun k : Nat => e.of k == n := by
    funext k
    rw [Bool.eq_iff_iff, beq_iff_eq, beq_iff_eq]
    rcases h k with ⟨h1, h2⟩ | ⟨h1, _, h2⟩ <;> omega
  rw [hit, hit, hm, this]
theorem of_mv {b : Bl} (hf : Fit b) {B Y n : Int} (h0 : 0 ≤ B) (h1 : B ≤ 2000) (h2 : 0 ≤ Y) (h3 : Y ≤ 2000) (hn : B ≤ n) (hn' : n ≤ 10000) : ofM b (B + Y) (n + Y) = ofM b B n := by
  have e1 : w64 (n + Y - (B + Y)) = w64 (n - B) := by congr 1; omega
  have hs : seek (n + Y) (tab b (B + Y)) = seek n (tab b B) := by
    simp only [seek, tab, List.findSome?_cons, List.findSome?_nil]
    rw [hit_mv (e := ⟨3, b.sorts.length, n_shape_Former, former b B⟩) (e' := ⟨3, b.sorts.length, n_shape_Former, former b (B + Y)⟩) rfl (by omega) (mv_former hf h0 h1 h2 h3) h2,
      hit_mv (e := ⟨4, b.sorts.length, n_shape_Decoder, decoder b B⟩) (e' := ⟨4, b.sorts.length, n_shape_Decoder, decoder b (B + Y)⟩) rfl (by omega) (mv_decoder hf h0 h1 h2 h3) h2,
      hit_mv (e := ⟨5, b.cons.length, n_shape_Constructor, constructor_ b B⟩) (e' := ⟨5, b.cons.length, n_shape_Constructor, constructor_ b (B + Y)⟩) rfl (by omega) (mv_constructor hf h0 h1 h2 h3) h2,
      hit_mv (e := ⟨6, b.sorts.length, n_shape_Eliminator, eliminator b B⟩) (e' := ⟨6, b.sorts.length, n_shape_Eliminator, eliminator b (B + Y)⟩) rfl (by omega) (mv_eliminator hf h0 h1 h2 h3) h2]
  rw [ofM, ofM, e1, hs]
  congr 1
  apply propext
  omega
theorem kind_of {b : Bl} (hf : Fit b) {B K : Int} (h0 : 0 ≤ B) (h1 : B ≤ 2000) (hk : 0 ≤ K) (hk' : K ≤ 10000) : ((ofM b B (B + K)).1 = 0) ↔ count b ≤ K := by
  constructor
  · intro h
    by_cases hc : count b ≤ K
    · exact hc
    · obtain ⟨e, he, k, _, _, h3⟩ := of_in hf h0 (by omega) (n := B + K) (by omega) (by omega)
      rw [h3] at h
      simp only [tab, List.mem_cons, List.not_mem_nil, or_false] at he
      rcases he with rfl | rfl | rfl | rfl <;> simp at h
  · intro h
    rw [of_out hf h0 ⟨by omega, by omega⟩ (by omega)]

theorem rem_le (n m : Int) (h : 0 < m) (h' : m ≤ 1000000) : 0 ≤ IntKind.i64.wrap ((IntKind.u64.wrap n).tmod m) ∧ IntKind.i64.wrap ((IntKind.u64.wrap n).tmod m) < m := by
  have h0 : 0 ≤ IntKind.u64.wrap n := by
    simp only [IntKind.wrap]
    exact Int.emod_nonneg _ (by decide)
  rw [Int.tmod_eq_emod_of_nonneg h0]
  have h1 : 0 ≤ IntKind.u64.wrap n % m := Int.emod_nonneg _ (by omega)
  have h2 : IntKind.u64.wrap n % m < m := Int.emod_lt_of_pos _ (by omega)
  rw [wrap_id (by omega) (by omega)]
  exact ⟨h1, h2⟩

theorem bases_ok (b : Bl) (base by_ k : Int) : Pure Try.prog n_porismlaw07_ShapeBases [eBl b, .int .i64 base, .int .i64 by_, .int .i64 k] [.bool true] := by
  refine p_porismlaw07_ShapeBases rfl fun hs => ?_
  simp -dsimp [x_porismlaw07_ShapeBases, eBl, cBl, eSos, eCos]
  refine call_of (heavy07_ok b) ?_
  simp -dsimp
  (first | refine Ask_b ?_ ?_ | refine Cnd_b ?_ ?_) <;> intro h1 <;> (try simp only [decide_eq_true_eq, decide_eq_false_iff_not, beq_iff_eq, beq_eq_false_iff_ne, bne_iff_ne, bne_eq_false_iff_eq, Bool.not_eq_true', Bool.not_eq_false', Bool.and_eq_true, Bool.or_eq_true, Bool.and_eq_false_iff, Bool.or_eq_false_iff] at h1) <;> simp -dsimp [h1]
  obtain ⟨hb0, hb1⟩ := rem_le base 1000 (by omega) (by omega)
  obtain ⟨hy0, hy1⟩ := rem_le by_ 1000 (by omega) (by omega)
  obtain ⟨hk0, hk1⟩ := rem_le k 30 (by omega) (by omega)
  generalize IntKind.i64.wrap ((IntKind.u64.wrap base).tmod 1000) = B at hb0 hb1 ⊢
  generalize IntKind.i64.wrap ((IntKind.u64.wrap by_).tmod 1000) = Y at hy0 hy1 ⊢
  generalize IntKind.i64.wrap ((IntKind.u64.wrap k).tmod 30) = K at hk0 hk1 ⊢
  have hf := fit_of h1
  have wBY : IntKind.i64.wrap (B + Y) = B + Y := wrap_id (by omega) (by omega)
  have wBK : IntKind.i64.wrap (B + K) = B + K := wrap_id (by omega) (by omega)
  have wBYK : IntKind.i64.wrap (B + Y + K) = B + Y + K := wrap_id (by omega) (by omega)
  have t_former := moves_t (mv_former hf hb0 (by omega) hy0 (by omega) K) hy0 (by omega)
  have t_decoder := moves_t (mv_decoder hf hb0 (by omega) hy0 (by omega) K) hy0 (by omega)
  have t_constructor := moves_t (mv_constructor hf hb0 (by omega) hy0 (by omega) K) hy0 (by omega)
  have t_eliminator := moves_t (mv_eliminator hf hb0 (by omega) hy0 (by omega) K) hy0 (by omega)
  refine call_of (former_ok b B K) ?_
  simp -dsimp [wBY, wBK, wBYK, t_former, t_decoder, t_constructor, t_eliminator]
  refine call_of (former_ok b (B + Y) K) ?_
  simp -dsimp [wBY, wBK, wBYK, t_former, t_decoder, t_constructor, t_eliminator]
  refine call_of (moves_ok _ _ _) ?_
  simp -dsimp [wBY, wBK, wBYK, t_former, t_decoder, t_constructor, t_eliminator]
  refine call_of (decoder_ok b B K) ?_
  simp -dsimp [wBY, wBK, wBYK, t_former, t_decoder, t_constructor, t_eliminator]
  refine call_of (decoder_ok b (B + Y) K) ?_
  simp -dsimp [wBY, wBK, wBYK, t_former, t_decoder, t_constructor, t_eliminator]
  refine call_of (moves_ok _ _ _) ?_
  simp -dsimp [wBY, wBK, wBYK, t_former, t_decoder, t_constructor, t_eliminator]
  refine call_of (constructor_ok b B K) ?_
  simp -dsimp [wBY, wBK, wBYK, t_former, t_decoder, t_constructor, t_eliminator]
  refine call_of (constructor_ok b (B + Y) K) ?_
  simp -dsimp [wBY, wBK, wBYK, t_former, t_decoder, t_constructor, t_eliminator]
  refine call_of (moves_ok _ _ _) ?_
  simp -dsimp [wBY, wBK, wBYK, t_former, t_decoder, t_constructor, t_eliminator]
  refine call_of (eliminator_ok b B K) ?_
  simp -dsimp [wBY, wBK, wBYK, t_former, t_decoder, t_constructor, t_eliminator]
  refine call_of (eliminator_ok b (B + Y) K) ?_
  simp -dsimp [wBY, wBK, wBYK, t_former, t_decoder, t_constructor, t_eliminator]
  refine call_of (moves_ok _ _ _) ?_
  simp -dsimp [wBY, wBK, wBYK, t_former, t_decoder, t_constructor, t_eliminator]
  refine call_of (of_ok b B (B + K)) ?_
  simp -dsimp [wBY, wBK, wBYK, t_former, t_decoder, t_constructor, t_eliminator]
  have e1 : B + Y + K = B + K + Y := by omega
  have ho := of_ok b (B + Y) (B + Y + K)
  rw [e1, of_mv hf hb0 (by omega) hy0 (by omega) (by omega) (by omega)] at ho
  rw [e1]
  refine call_of ho ?_
  simp -dsimp [wBY, wBK, wBYK, t_former, t_decoder, t_constructor, t_eliminator]
  refine call_of (count_ok b) ?_
  have hk2 := kind_of hf hb0 (by omega) hk0 (by omega)
  simp -dsimp [wBY, wBK, wBYK, t_former, t_decoder, t_constructor, t_eliminator, hk2]
  refine call_of wakes07_ok ?_
  simp -dsimp [wBY, wBK, wBYK, t_former, t_decoder, t_constructor, t_eliminator, hk2]
end Ev
end Go.Proofs.Ytafpjpolkjdohaa
