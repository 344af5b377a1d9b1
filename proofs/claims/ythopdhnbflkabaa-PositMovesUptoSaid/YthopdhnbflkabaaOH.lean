/- PositMoves: the block at its new base. -/
import Derived.Test.YthopdhnbflkabaaOG
namespace Go.Proofs.Ythopdhnbflkabaa
namespace Ev
open Go
set_option maxRecDepth 100000
set_option linter.unusedSimpArgs false
set_option linter.unusedVariables false
attribute [local simp ↓] wx_skip wx_region wx_seq wx_block wx_exit wx_ret wx_cond wx_loop wo_nil wo_run wo_ask wx_draw wt_nil wt_run_t wt_run_f wt_ask_t wt_ask_f rb_mv rb_nilrow rb_pick rb_alloc rb_box rb_load rb_store rb_nilck rb_bin rb_binb rb_un rb_conv rb_mkf rb_mks rb_slice rb_faddr rb_fld rb_iaddr rb_ext rb_len rb_app rb_mm rb_build rb_bslice run_callC upd_eq upd_ne
attribute [local simp] runB_some runB_none Tch_nil Tch_cons Chk_t Cnd_t Cnd_f Ask_tt Ask_ff Ask_tf Ask_ft Ask_skip act ev_t ev_c evs sks caps2 touch_call List.cons_append List.nil_append putS binI binB int_add int_sub int_mul int_quo int_rem int_or int_eql int_neq int_lss int_leq int_gtr int_geq shiftD Ex.then Ex.inBlock Ends resL resX allD toD_d toD_fsl sk_d sk_fsl none_ loadA cut wrapA wrapD avc_d avc_agg avc_fsl avc_rsl avc_ptr avc_eptr avc_clo dc_agg dc_int dc_bool dc_str dc_sl dc_nilp dc_rp dc_clo on_int on_bool on_str on_sl on_nilp on_rp on_clo on_fsl on_rsl on_ptr on_eptr on_cloA newE elemsA elemsS storeA put frz_nil deep callee resA initS touchOp fits compat rd wr key1 buildA partsD partsK idx frz_at Body.frz lk_hit lk_miss toD6_agg toD5_agg toD4_agg toD6_clo toD5_clo toD4_clo toD6_ptr toD5_ptr toD4_ptr sk6_agg sk5_agg sk4_agg sk6_clo sk5_clo sk4_clo sk6_ptr sk5_ptr sk4_ptr toD_rsl sk_rsl resK EndsP EndsMP fitVs fitCs fitC keysV keysC keyC cellsA1 skVs skCs skC1 resO tupA valsV cellsV oneV rowsV rowsC RV.cells nk rowsH_one rowsH_two rowsH_none
def mvF (b : Bl) (base by_ : Int) (c : Int) : Int := if (ofM b base c).1 ≠ 0 then c + by_ else c
theorem count_small8 {b : Bl} (hf : Fit b) : 0 ≤ count b ∧ count b ≤ 100 := by
  have := count_is hf
  have := hf.s
  have := hf.c
  have := decs_le b.sorts
  omega
theorem of_range {b : Bl} (hf : Fit b) {base : Int} (h0 : 0 ≤ base) (h1 : base ≤ 65535) (c : Int) (h : (ofM b base c).1 ≠ 0) : base ≤ c ∧ c < base + count b := by
  have hci := count_is hf
  have h2 := hf.s
  have h3 := hf.c
  have h4 := decs_le b.sorts
  rw [ofM] at h
  split at h
  · exact absurd rfl h
  rename_i hc
  cases hs : seek c (tab b base) with
  | none => rw [hs] at h; exact absurd rfl h
  | some q =>
    have hn : 0 ≤ c := by omega
    obtain ⟨e, he, k, hk, hn', rfl⟩ := seek_some hs
    simp only [tab, List.mem_cons, List.not_mem_nil, or_false] at he
    rcases he with rfl | rfl | rfl | rfl
    · have := former_at hf h0 h1 hn hn'; omega
    · have hn2 : decoder b base k = c := hn'
      obtain ⟨j, hj, _, hd, he⟩ := decoder_at hf h0 h1 hn hn2
      have := dec_in b.sorts hj hd
      omega
    · have := constructor_at hf h0 h1 hn hn'; omega
    · have := eliminator_at hf h0 h1 hn hn'; omega
theorem decs_mv (f : Int → Int) (l : List So) : decs (l.map (mvS f)) = decs l := by
  rw [decs, decs, List.filter_map, List.length_map]
  rfl
theorem mv_fit {b : Bl} (hf : Fit b) (f : Int → Int) : Fit (mvB f b) := ⟨by simpa [mvB] using hf.s, by simpa [mvB] using hf.c⟩
theorem mv_count {b : Bl} (hf : Fit b) (f : Int → Int) : count (mvB f b) = count b := by
  rw [count_is hf, count_is (mv_fit hf f)]
  simp only [mvB, List.length_map, decs_mv]
theorem of_none8 {b : Bl} (hf : Fit b) {base : Int} (h0 : 0 ≤ base) (h1 : base ≤ 65535) {c : Int} (h64 : n64 c) (h : (ofM b base c).1 = 0) : ofM b base c = (0, 0) := by
  by_cases hr : c < base ∨ base + count b ≤ c
  · exact of_out hf h0 h64 hr
  · obtain ⟨e, he, k, _, _, e3⟩ := of_in hf h0 h1 (n := c) (by omega) (by omega)
    rw [e3] at h
    exact absurd h (tab_kind he)
theorem mv_of {b : Bl} (hf : Fit b) {base by_ : Int} (h0 : 0 ≤ base) (h1 : base ≤ 500) (b0 : 0 ≤ by_) (b1 : by_ ≤ 500) {c : Int} (h64 : n64 c)
    (hn : base + by_ ≤ c → c < base + by_ + count b → c < base + count b) : Mv (mvF b base by_) b base (base + by_) c := by
  have hf' := mv_fit hf (mvF b base by_)
  have hcs := count_small8 hf
  have hci := count_is hf
  have h4 := decs_le b.sorts
  constructor
  rw [mvF]
  by_cases hz : (ofM b base c).1 = 0
  · rw [if_neg (by simpa using hz), of_none8 hf h0 (by omega) h64 hz]
    have hr : c < base ∨ base + count b ≤ c := by
      by_cases hr : c < base ∨ base + count b ≤ c
      · exact hr
      · obtain ⟨e, he, k, _, _, e3⟩ := of_in hf h0 (by omega) (n := c) (by omega) (by omega)
        rw [e3] at hz
        exact absurd hz (tab_kind he)
    exact of_out hf' (by omega) h64 (by rw [mv_count hf]; omega)
  · rw [if_pos hz]
    obtain ⟨r0, r1⟩ := of_range hf h0 (by omega) c hz
    obtain ⟨e, he, k, hk, hke, e3⟩ := of_in hf h0 (by omega) r0 r1
    rw [e3]
    have hl : (mvB (mvF b base by_) b).sorts.length = b.sorts.length := by simp [mvB]
    have hl2 : (mvB (mvF b base by_) b).cons.length = b.cons.length := by simp [mvB]
    have hl3 : decs (mvB (mvF b base by_) b).sorts = decs b.sorts := by simp only [mvB, decs_mv]
    simp only [tab, List.mem_cons, List.not_mem_nil, or_false] at he
    rcases he with rfl | rfl | rfl | rfl
    · have hk' : k < b.sorts.length := hk
      have := former_at hf h0 (by omega) (by omega) hke
      refine of_former hf' (by omega) (k := k) ?_
      rw [former_is hf' (by omega) (by omega), hl, if_pos (by omega)]
      omega
    · have hke2 : decoder b base k = c := hke
      obtain ⟨j, hj, hkj, hd, hce⟩ := decoder_at hf h0 (by omega) (by omega) hke2
      have hkj' : k = j := by omega
      subst hkj'
      refine of_decoder hf' (by omega) (k := k) ?_
      have hlt : k < (mvB (mvF b base by_) b).sorts.length := by omega
      have hsk : (mvB (mvF b base by_) b).sorts[k].dec = true := by simpa [mvB, mvS] using hd
      have htk : decs ((mvB (mvF b base by_) b).sorts.take k) = decs (b.sorts.take k) := by simp only [mvB, ← List.map_take, decs_mv]
      rw [decoder_is hf' (by omega) (by omega), dif_pos (by omega)]
      simp only [Int.toNat_natCast]
      rw [if_pos hsk, hl, htk]
      omega
    · have := constructor_at hf h0 (by omega) (by omega) hke
      refine of_constructor hf' (by omega) (k := k) ?_
      rw [constructor_is hf' (by omega) (by omega), hl, hl2, hl3, if_pos (by omega)]
      omega
    · have := eliminator_at hf h0 (by omega) (by omega) hke
      refine of_eliminator hf' (by omega) (k := k) ?_
      rw [eliminator_is hf' (by omega) (by omega), hl, hl2, hl3, if_pos (by omega)]
      omega
theorem mv_in {b : Bl} (hf : Fit b) {base by_ : Int} (h0 : 0 ≤ base) (h1 : base ≤ 500) (b0 : 0 ≤ by_) (b1 : by_ ≤ 500) (n : Int) : inB (mvF b base by_ n) 0 65535 = inB n 0 65535 := by
  rw [mvF]
  split
  · rename_i hz
    obtain ⟨r0, r1⟩ := of_range hf h0 (by omega) n hz
    have hcs := count_small8 hf
    rw [(inB_iff _ _ _).2 ⟨by omega, by omega⟩, (inB_iff _ _ _).2 ⟨by omega, by omega⟩]
  · rfl
theorem mv_lt {b : Bl} (hf : Fit b) {base by_ : Int} (h0 : 0 ≤ base) (h1 : base ≤ 500) (b0 : 0 ≤ by_) (b1 : by_ ≤ 500) (n : Int) : mvF b base by_ n < 65536 ↔ n < 65536 := by
  rw [mvF]
  split
  · rename_i hz
    obtain ⟨r0, r1⟩ := of_range hf h0 (by omega) n hz
    have hcs := count_small8 hf
    omega
  · rfl
theorem mv_n64 {b : Bl} (hf : Fit b) {base by_ : Int} (h0 : 0 ≤ base) (h1 : base ≤ 500) (b0 : 0 ≤ by_) (b1 : by_ ≤ 500) (n : Int) (h : n64 n) : n64 (mvF b base by_ n) := by
  rw [mvF]
  split
  · rename_i hz
    obtain ⟨r0, r1⟩ := of_range hf h0 (by omega) n hz
    have hcs := count_small8 hf
    exact ⟨by omega, by omega⟩
  · exact h
theorem mvA_ok {f : Int → Int} (hf : ∀ n, n64 n → n64 (f n)) {a : Ar} (o : okAr a) : okAr (mvA f a) :=
  ⟨rn_ok hf _ o.ty, ⟨by simpa [mvA] using o.dom.1, fun x hx => by obtain ⟨y, hy, rfl⟩ := List.mem_map.1 hx; exact rn_ok hf _ (o.dom.2 y hy)⟩, o.sort,
    ⟨by simpa [mvA] using o.idx.1, fun x hx => by obtain ⟨y, hy, rfl⟩ := List.mem_map.1 hx; exact rn_ok hf _ (o.idx.2 y hy)⟩⟩
theorem mvAs_ok {f : Int → Int} (hf : ∀ n, n64 n → n64 (f n)) {l : List Ar} (o : okArs l) : okArs (l.map (mvA f)) :=
  ⟨by simpa using o.1, fun x hx => by obtain ⟨y, hy, rfl⟩ := List.mem_map.1 hx; exact mvA_ok hf (o.2 y hy)⟩
theorem mvB_ok {f : Int → Int} (hf : ∀ n, n64 n → n64 (f n)) {b : Bl} (o : okBl b) : okBl (mvB f b) := by
  refine ⟨by simpa [mvB] using o.sortsL, fun x hx => ?_, by simpa [mvB] using o.consL, fun x hx => ?_, o.elim⟩
  · obtain ⟨y, hy, rfl⟩ := List.mem_map.1 hx
    have := o.sorts y hy
    exact ⟨mvAs_ok hf this.idx, this.level, rn_ok hf _ this.dty⟩
  · obtain ⟨y, hy, rfl⟩ := List.mem_map.1 hx
    have := o.cons y hy
    exact ⟨this.sort, mvAs_ok hf this.args, ⟨by simpa [mvC] using this.idx.1, fun z hz => by obtain ⟨w, hw, rfl⟩ := List.mem_map.1 hz; exact rn_ok hf _ (this.idx.2 w hw)⟩, rn_ok hf _ this.dec⟩
theorem mvAs_fine {f : Int → Int} {l : List Ar} (o : FineArs l) : FineArs (l.map (mvA f)) := by
  refine ⟨by simpa using o.1, fun x hx => ?_⟩
  obtain ⟨a, ha, rfl⟩ := List.mem_map.1 hx
  have := o.2 a ha
  exact ⟨by rw [show (mvA f a).ty = rnT f a.ty from rfl, rn_nodes]; exact this.ty, by simpa [mvA] using this.domL, by rw [show (mvA f a).dom = a.dom.map (rnT f) from rfl, rn_sum]; exact this.dom,
    by simpa [mvA] using this.idxL, by rw [show (mvA f a).idx = a.idx.map (rnT f) from rfl, rn_sum]; exact this.idx⟩
theorem mvB_fine {f : Int → Int} {b : Bl} (o : FineBl b) : FineBl (mvB f b) := by
  refine ⟨by simpa [mvB] using o.s, by simpa [mvB] using o.c, fun x hx => ?_, fun x hx => ?_⟩
  · obtain ⟨s, hs, rfl⟩ := List.mem_map.1 hx
    have := o.sorts s hs
    exact ⟨mvAs_fine this.idx, by rw [show (mvS f s).dty = rnT f s.dty from rfl, rn_nodes]; exact this.dty⟩
  · obtain ⟨c, hc, rfl⟩ := List.mem_map.1 hx
    have := o.cons c hc
    exact ⟨mvAs_fine this.args, by simpa [mvC] using this.idxL, by rw [show (mvC f c).idx = c.idx.map (rnT f) from rfl, rn_sum]; exact this.idx, by rw [show (mvC f c).dec = rnT f c.dec from rfl, rn_nodes]; exact this.dec⟩
theorem blT_ok {b : Bl} (ob : okBl b) : ∀ x ∈ blT b, okT x := by
  have har : ∀ l : List Ar, okArs l → ∀ x ∈ arTs l, okT x := fun l hl x hx => by
    simp only [arTs, List.mem_flatten, List.mem_map] at hx
    obtain ⟨_, ⟨a, ha, rfl⟩, hx⟩ := hx
    have fa := hl.2 a ha
    simp only [arT, List.mem_cons, List.mem_append] at hx
    rcases hx with rfl | hx | hx
    · exact fa.ty
    · exact fa.dom.2 _ hx
    · exact fa.idx.2 _ hx
  intro x hx
  simp only [blT, List.mem_append, List.mem_flatten, List.mem_map] at hx
  rcases hx with ⟨_, ⟨s, hs, rfl⟩, hx⟩ | ⟨_, ⟨k, hk, rfl⟩, hx⟩
  · simp only [soT, List.mem_cons] at hx
    rcases hx with rfl | hx
    · exact (ob.sorts s hs).dty
    · exact har _ (ob.sorts s hs).idx x hx
  · simp only [coT, List.mem_cons, List.mem_append] at hx
    rcases hx with rfl | hx | hx
    · exact (ob.cons k hk).dec
    · exact (ob.cons k hk).idx.2 _ hx
    · exact har _ (ob.cons k hk).args x hx
/-- What posit.Check tells of a block moved. -/
theorem mv_pos {b : Bl} (ob : okBl b) (hf : Fit b) {base by_ : Int} (h0 : 0 ≤ base) (h1 : base < 500) (b0 : 0 ≤ by_) (b1 : by_ < 500) {n : Nat}
    (hn : ∀ i : Nat, (i : Int) < count b → nmB b (base + by_ + i) = true → base + by_ + i < base + count b) : positE n (mvB (mvF b base by_) b) (base + by_) = positE n b base := by
  have hm : ∀ x ∈ blT b, ∀ c ∈ csT x, Mv (mvF b base by_) b base (base + by_) c := fun x hx c hc => by
    refine mv_of hf h0 (by omega) b0 (by omega) (cs_n64 x (blT_ok ob x hx) hc) fun g1 g2 => ?_
    have := hn (c - (base + by_)).toNat (by omega) (List.any_eq_true.2 ⟨x, hx, List.any_eq_true.2 ⟨c, hc, by simp; omega⟩⟩)
    omega
  rw [positE, positE, rn_check (mv_in hf h0 (by omega) b0 (by omega)) (mv_lt hf h0 (by omega) b0 (by omega)), rn_pos hm]
  by_cases hz : checkB b = 0
  · rw [if_pos hz, if_neg (by omega : ¬(base + by_ < 0 ∨ 65535 < base + by_)), if_pos hz, if_neg (by omega : ¬(base < 0 ∨ 65535 < base))]
  · rw [if_neg hz, if_neg hz]
end Ev
end Go.Proofs.Ythopdhnbflkabaa
