/- PositMoves: what is positive stays positive. -/
import Derived.Test.YthopdhnbflkabaaOF
namespace Go.Proofs.Ythopdhnbflkabaa
namespace Ev
open Go
set_option maxRecDepth 100000
set_option linter.unusedSimpArgs false
set_option linter.unusedVariables false
attribute [local simp ↓] wx_skip wx_region wx_seq wx_block wx_exit wx_ret wx_cond wx_loop wo_nil wo_run wo_ask wx_draw wt_nil wt_run_t wt_run_f wt_ask_t wt_ask_f rb_mv rb_nilrow rb_pick rb_alloc rb_box rb_load rb_store rb_nilck rb_bin rb_binb rb_un rb_conv rb_mkf rb_mks rb_slice rb_faddr rb_fld rb_iaddr rb_ext rb_len rb_app rb_mm rb_build rb_bslice run_callC upd_eq upd_ne
attribute [local simp] runB_some runB_none Tch_nil Tch_cons Chk_t Cnd_t Cnd_f Ask_tt Ask_ff Ask_tf Ask_ft Ask_skip act ev_t ev_c evs sks caps2 touch_call List.cons_append List.nil_append putS binI binB int_add int_sub int_mul int_quo int_rem int_or int_eql int_neq int_lss int_leq int_gtr int_geq shiftD Ex.then Ex.inBlock Ends resL resX allD toD_d toD_fsl sk_d sk_fsl none_ loadA cut wrapA wrapD avc_d avc_agg avc_fsl avc_rsl avc_ptr avc_eptr avc_clo dc_agg dc_int dc_bool dc_str dc_sl dc_nilp dc_rp dc_clo on_int on_bool on_str on_sl on_nilp on_rp on_clo on_fsl on_rsl on_ptr on_eptr on_cloA newE elemsA elemsS storeA put frz_nil deep callee resA initS touchOp fits compat rd wr key1 buildA partsD partsK idx frz_at Body.frz lk_hit lk_miss toD6_agg toD5_agg toD4_agg toD6_clo toD5_clo toD4_clo toD6_ptr toD5_ptr toD4_ptr sk6_agg sk5_agg sk4_agg sk6_clo sk5_clo sk4_clo sk6_ptr sk5_ptr sk4_ptr toD_rsl sk_rsl resK EndsP EndsMP fitVs fitCs fitC keysV keysC keyC cellsA1 skVs skCs skC1 resO tupA valsV cellsV oneV rowsV rowsC RV.cells nk rowsH_one rowsH_two rowsH_none
theorem all_rn' {cl cl' : T → Bool} {f : Int → Int} {l : List T} (key : ∀ x ∈ l, cl' (rnT f x) = cl x) : (l.map (rnT f)).all cl' = l.all cl := by
  rw [List.all_map, Bool.eq_iff_iff, List.all_eq_true, List.all_eq_true]
  constructor
  · intro h x hx; have := h x hx; simp only [Function.comp_apply] at this; rwa [key x hx] at this
  · intro h x hx; simp only [Function.comp_apply]; rw [key x hx]; exact h x hx
theorem rn_sp (f : Int → Int) (t : T) : spH (rnT f t) = rnT f (spH t) ∧ spA (rnT f t) = (spA t).map (rnT f) := by
  refine T.ind (p := fun t => spH (rnT f t) = rnT f (spH t) ∧ spA (rnT f t) = (spA t).map (rnT f)) ?_ t
  intro k n ks ih
  by_cases hc : k = 6 ∧ ∃ a b, ks = [a, b]
  · obtain ⟨rfl, a, b, rfl⟩ := hc
    obtain ⟨i1, i2⟩ := ih a (by simp)
    rw [rn_mk, List.map_cons, List.map_cons, List.map_nil, (sp_two _ _ _).1, (sp_two _ _ _).2, (sp_two _ _ _).1, (sp_two _ _ _).2, i1, i2]
    exact ⟨rfl, rfl⟩
  · have hc' : ¬(k = 6 ∧ ∃ a b, ks.map (rnT f) = [a, b]) := by
      rintro ⟨h, a, b, he⟩
      refine hc ⟨h, ?_⟩
      match ks, he with
      | [x, y], _ => exact ⟨x, y, rfl⟩
    rw [rn_mk, (sp_none hc').1, (sp_none hc').2, (sp_none hc).1, (sp_none hc).2, rn_mk]
    exact ⟨rfl, rfl⟩
theorem cs_sp {c : Int} (t : T) : (c ∈ csT (spH t) → c ∈ csT t) ∧ ∀ x ∈ spA t, c ∈ csT x → c ∈ csT t := by
  refine T.ind (p := fun t => (c ∈ csT (spH t) → c ∈ csT t) ∧ ∀ x ∈ spA t, c ∈ csT x → c ∈ csT t) ?_ t
  intro k n ks ih
  by_cases hc : k = 6 ∧ ∃ a b, ks = [a, b]
  · obtain ⟨rfl, a, b, rfl⟩ := hc
    obtain ⟨i1, i2⟩ := ih a (by simp)
    rw [(sp_two _ _ _).1, (sp_two _ _ _).2]
    refine ⟨fun h => cs_mem.2 (.inr ⟨a, by simp, i1 h⟩), fun x hx h => ?_⟩
    rcases List.mem_cons.1 hx with rfl | hx
    · exact cs_mem.2 (.inr ⟨_, by simp, h⟩)
    · exact cs_mem.2 (.inr ⟨a, by simp, i2 x hx h⟩)
  · rw [(sp_none hc).1, (sp_none hc).2]
    exact ⟨id, by simp⟩
theorem cs_kid {c : Int} {t x : T} (hx : x ∈ t.kids) (h : c ∈ csT x) : c ∈ csT t := by obtain ⟨k, n, ks⟩ := t; exact cs_mem.2 (.inr ⟨x, hx, h⟩)
theorem cs_self {t : T} (h : t.kind = 3) : t.num ∈ csT t := by obtain ⟨k, n, ks⟩ := t; exact cs_mem.2 (.inl ⟨h, rfl⟩)
/-- The block at its new base. -/
structure Mv (f : Int → Int) (b : Bl) (base base' : Int) (c : Int) : Prop where
  of : ofM (mvB f b) base' (f c) = ofM b base c
def plM (f : Int → Int) (base' : Int) (p : Pl) : Pl := ⟨mvB f p.b, base', p.args.map (mvA f), p.more⟩
theorem rn_guard (f : Int → Int) (base' : Int) (p : Pl) (t : T) : guardB (plM f base' p) (rnT f t) = guardB p t := by
  have hJ : guardJ (plM f base' p) (rnT f t) = guardJ p t := by
    rw [guardJ, guardJ, rn_kind]
    simp only [plM, List.length_map]
    by_cases h1 : t.kind = 1
    · rw [rn_num f (by omega)]
    · rw [if_neg (fun h => h1 h.1), if_neg (fun h => h1 h.1)]
  rw [guardB, guardB, hJ]
  cases guardJ p t with
  | none => rfl
  | some j =>
    simp only [plM, List.getElem?_map]
    cases p.args[j]? <;> rfl
theorem rn_guardN (f : Int → Int) (base' : Int) (p : Pl) (t : T) : guardN (plM f base' p) (rnT f t) = guardN p t := by
  have hJ : guardJ (plM f base' p) (rnT f t) = guardJ p t := by
    rw [guardJ, guardJ, rn_kind]
    simp only [plM, List.length_map]
    by_cases h1 : t.kind = 1
    · rw [rn_num f (by omega)]
    · rw [if_neg (fun h => h1 h.1), if_neg (fun h => h1 h.1)]
  rw [guardN, guardN, hJ]
theorem rn_dec {f : Int → Int} {base' : Int} {p : Pl} {t : T} {cl cl' : T → Bool} (hm : ∀ c ∈ csT t, Mv f p.b p.base base' c) (hcl : ∀ x, (∀ c ∈ csT x, c ∈ csT t) → cl' (rnT f x) = cl x) :
    decG cl' (plM f base' p) (rnT f t) = decG cl p t := by
  obtain ⟨s1, s2⟩ := rn_sp f t
  have hs := fun c => cs_sp (c := c) t
  rw [decG, decG, s1, s2, rn_kind]
  by_cases h3 : (spH t).kind = 3
  case neg => rw [if_neg h3, if_neg h3]
  rw [if_pos h3, if_pos h3, rn_num3 f h3]
  have hof := (hm _ ((hs _).1 (cs_self h3))).of
  have e1 : (plM f base' p).b = mvB f p.b := rfl
  have e2 : (plM f base' p).base = base' := rfl
  rw [e1, e2, hof]
  by_cases h4 : (ofM p.b p.base (spH t).num).1 = 4
  case neg => rw [if_neg h4, if_neg h4]
  rw [if_pos h4, if_pos h4]
  have e3 : (mvB f p.b).sorts[(ofM p.b p.base (spH t).num).2.toNat]? = (p.b.sorts[(ofM p.b p.base (spH t).num).2.toNat]?).map (mvS f) := by simp only [mvB, List.getElem?_map]
  rw [e3]
  cases p.b.sorts[(ofM p.b p.base (spH t).num).2.toNat]? with
  | none => rfl
  | some s =>
    simp only [Option.map_some, mvS, List.length_map]
    by_cases h5 : ((spA t).length : Int) = s.idx.length + 1
    case neg => rw [if_neg h5, if_neg h5]
    rw [if_pos h5, if_pos h5]
    have e4 : ((spA t).map (rnT f)).reverse.getLast? = ((spA t).reverse.getLast?).map (rnT f) := by rw [← List.map_reverse, List.getLast?_map]
    have e5 : ((spA t).map (rnT f)).reverse.dropLast.all cl' = (spA t).reverse.dropLast.all cl := by
      rw [← List.map_reverse, ← List.map_dropLast, List.all_map, Bool.eq_iff_iff, List.all_eq_true, List.all_eq_true]
      have key : ∀ x ∈ (spA t).reverse.dropLast, cl' (rnT f x) = cl x := fun x hx => hcl x fun c hc => (hs c).2 x (by simpa using List.dropLast_subset _ hx) hc
      constructor
      · intro h x hx; have := h x hx; simp only [Function.comp_apply] at this; rwa [key x hx] at this
      · intro h x hx; simp only [Function.comp_apply]; rw [key x hx]; exact h x hx
    rw [e4, e5]
    cases hz : (spA t).reverse.getLast? with
    | none => rfl
    | some z =>
      simp only [Option.map_some]
      have hzm : z ∈ spA t := by have := List.mem_of_getLast? hz; simpa using this
      obtain ⟨z1, z2⟩ := rn_sp f z
      have hzs := fun c => cs_sp (c := c) z
      have e6 : ((spA z).map (rnT f)).reverse.all cl' = (spA z).reverse.all cl := by
        rw [← List.map_reverse]
        exact all_rn' fun x hx => hcl x fun c hc => (hs c).2 z hzm ((hzs c).2 x (by simpa using hx) hc)
      rw [z1, z2, rn_guard, e6]
theorem rn_clean {f : Int → Int} {base' : Int} : ∀ (n : Nat) (p : Pl) (t : T), (∀ c ∈ csT t, Mv f p.b p.base base' c) → cleanF n (plM f base' p) (rnT f t) = cleanF n p t := by
  intro n
  induction n with
  | zero => intro p t _; rfl
  | succ n ih =>
    intro p t hm
    rw [cleanF, cleanF, rn_kind, rn_guard]
    by_cases h1 : t.kind = 1
    · rw [if_pos h1, if_pos h1]
    rw [if_neg h1, if_neg h1]
    by_cases h3 : t.kind = 3
    · rw [if_pos h3, if_pos h3, rn_num3 f h3]
      have hof := (hm _ (cs_self h3)).of
      have e1 : (plM f base' p).b = mvB f p.b := rfl
      have e2 : (plM f base' p).base = base' := rfl
      rw [e1, e2, hof]
    rw [if_neg h3, if_neg h3, rn_dec hm fun x hx => ih p x fun c hc => hm c (hx c hc), rn_kids, allI_map]
    congr 1
    refine allI_congr fun j hj => ?_
    rw [Nat.zero_add]
    exact ih (p.fwd (bindsM t.kind j)) _ fun c hc => hm c (cs_kid (List.getElem_mem hj) hc)
theorem rn_good {f : Int → Int} {base' : Int} : ∀ (n : Nat) (p : Pl) (t : T) (cons : Int), (∀ c ∈ csT t, Mv f p.b p.base base' c) → goodF n (plM f base' p) (rnT f t) cons = goodF n p t cons := by
  intro n
  induction n with
  | zero => intro p t cons _; rfl
  | succ n ih =>
    intro p t cons hm
    obtain ⟨s1, s2⟩ := rn_sp f t
    have hs := fun c => cs_sp (c := c) t
    have hx : ∀ x ∈ (spA t).reverse, ∀ c ∈ csT x, Mv f p.b p.base base' c := fun x hx c hc => hm c ((hs c).2 x (by simpa using hx) hc)
    have e1 : (plM f base' p).b = mvB f p.b := rfl
    have e2 : (plM f base' p).base = base' := rfl
    rw [goodF, goodF, goodG, goodG, s1, s2, rn_kind, rn_guard, rn_guardN, ← List.map_reverse]
    by_cases hg : guardB p (spH t) = true
    · rw [if_pos hg, if_pos hg]
      have e3 : (plM f base' p).args[(guardN p (spH t)).toNat]? = (p.args[(guardN p (spH t)).toNat]?).map (mvA f) := by simp only [plM, List.getElem?_map]
      rw [e3]
      cases p.args[(guardN p (spH t)).toNat]? with
      | none => rfl
      | some a =>
        simp only [Option.map_some, mvA, List.length_map]
        rw [all_rn' fun x hxx => rn_clean n p x (hx x hxx)]
    rw [if_neg hg, if_neg hg]
    by_cases h3 : (spH t).kind = 3
    case neg => rw [if_neg h3, if_neg h3]
    have hof := (hm _ ((hs _).1 (cs_self h3))).of
    rw [if_pos h3, if_pos h3, rn_num3 f h3, e1, e2, hof]
    by_cases h5 : (ofM p.b p.base (spH t).num).1 = 5
    case neg => rw [if_neg h5, if_neg h5]
    rw [if_pos h5, if_pos h5]
    by_cases h6 : (ofM p.b p.base (spH t).num).2 < cons
    case neg => rw [if_neg h6, if_neg h6]
    rw [if_pos h6, if_pos h6]
    have e3 : (mvB f p.b).cons[(ofM p.b p.base (spH t).num).2.toNat]? = (p.b.cons[(ofM p.b p.base (spH t).num).2.toNat]?).map (mvC f) := by simp only [mvB, List.getElem?_map]
    rw [e3]
    cases p.b.cons[(ofM p.b p.base (spH t).num).2.toNat]? with
    | none => rfl
    | some k =>
      simp only [Option.map_some, mvC, List.length_map]
      by_cases h7 : (spA t).reverse.length = k.args.length
      case neg => rw [if_neg h7, if_neg h7]
      rw [if_pos h7, if_pos h7, allI_map]
      refine allI_congr fun j hj => ?_
      rw [Nat.zero_add, List.getElem?_map]
      cases hj2 : (spA t).reverse[j]? with
      | none => rfl
      | some x =>
        simp only [Option.map_some]
        have hxx := hx x (List.mem_of_getElem? hj2)
        simp only [fitA, mvA, List.length_map]
        rw [rn_guard, rn_clean n p x hxx, ih p x cons hxx]
theorem rn_ind {f : Int → Int} {base' : Int} {n : Nat} {p : Pl} {so : So} {l : List T} {cons : Int} (hm : ∀ x ∈ l, ∀ c ∈ csT x, Mv f p.b p.base base' c) : indF n (plM f base' p) (mvS f so) (l.map (rnT f)) cons = indF n p so l cons := by
  rw [indF, indF]
  have e : (mvS f so).idx = so.idx.map (mvA f) := rfl
  rw [e, allI_map]
  refine allI_congr fun j hj => ?_
  rw [Nat.zero_add, List.getElem?_map]
  cases hj2 : l[j]? with
  | none => rfl
  | some x =>
    simp only [Option.map_some]
    have hxx := hm x (List.mem_of_getElem? hj2)
    simp only [mvA]
    rw [rn_good n p x cons hxx, rn_clean n p x hxx]; try rfl
theorem rn_rowF {f : Int → Int} {b : Bl} {base base' : Int} {n : Nat} {l : List Ar} {cons : Int} (hm : ∀ x ∈ arTs l, ∀ c ∈ csT x, Mv f b base base' c) : rowF n (mvB f b) base' (l.map (mvA f)) cons = rowF n b base l cons := by
  rw [rowF, rowF, allI_map]
  refine allI_congr fun i hi => ?_
  rw [Nat.zero_add]
  have hx : ∀ x ∈ arT l[i], ∀ c ∈ csT x, Mv f b base base' c := fun x hx => hm x (mem_arT (List.getElem_mem hi) hx)
  generalize l[i] = a at *
  have ep : ∀ more : Int, (⟨mvB f b, base', (l.map (mvA f)).take i, more⟩ : Pl) = plM f base' ⟨b, base, l.take i, more⟩ := fun more => by rw [plM, List.map_take]
  have e3 : (mvB f b).sorts[a.sort.toNat]? = (b.sorts[a.sort.toNat]?).map (mvS f) := by simp only [mvB, List.getElem?_map]
  rw [argF, argF]
  simp only [mvA, List.length_map, ep, e3]
  rw [allI_map, rn_clean n ⟨b, base, l.take i, 0⟩ a.ty (hx _ (by simp [arT]))]
  congr 1
  congr 1
  · exact allI_congr fun j hj => by
      rw [Nat.zero_add]
      exact rn_clean n ⟨b, base, l.take i, (j : Int)⟩ _ (hx _ (by simp [arT]))
  · cases b.sorts[a.sort.toNat]? with
    | none => rfl
    | some so =>
      simp only [Option.map_some]
      exact rn_ind fun x hxx => hx x (by simp [arT, hxx])
theorem rn_pos {f : Int → Int} {b : Bl} {base base' : Int} {n : Nat} (hm : ∀ x ∈ blT b, ∀ c ∈ csT x, Mv f b base base' c) : posF n (mvB f b) base' = posF n b base := by
  have hCs : ∀ s ∈ b.sorts, ∀ x ∈ soT s, ∀ c ∈ csT x, Mv f b base base' c := fun s hs x hx => hm x (by
    simp only [blT, List.mem_append, List.mem_flatten, List.mem_map]
    exact .inl ⟨_, ⟨s, hs, rfl⟩, hx⟩)
  have hCc : ∀ k ∈ b.cons, ∀ x ∈ coT k, ∀ c ∈ csT x, Mv f b base base' c := fun k hk x hx => hm x (by
    simp only [blT, List.mem_append, List.mem_flatten, List.mem_map]
    exact .inr ⟨_, ⟨k, hk, rfl⟩, hx⟩)
  have e1 : (mvB f b).sorts = b.sorts.map (mvS f) := rfl
  have e2 : (mvB f b).cons = b.cons.map (mvC f) := rfl
  rw [posF, posF, e1, e2, allI_map, allI_map]
  congr 1
  · refine allI_congr fun j hj => ?_
    have hs := hCs _ (List.getElem_mem hj)
    generalize b.sorts[j] = s at *
    rw [sortF, sortF]
    have ep : (⟨mvB f b, base', s.idx.map (mvA f), 0⟩ : Pl) = plM f base' ⟨b, base, s.idx, 0⟩ := rfl
    simp only [mvS, ep]
    rw [rn_rowF fun x hx => hs x (by simp [soT, hx]), rn_clean n ⟨b, base, s.idx, 0⟩ s.dty (hs _ (by simp [soT]))]
  · refine allI_congr fun j hj => ?_
    rw [Nat.zero_add]
    have hs := hCc _ (List.getElem_mem hj)
    generalize b.cons[j] = k at *
    have e3 : (mvB f b).sorts[k.sort.toNat]? = (b.sorts[k.sort.toNat]?).map (mvS f) := by simp only [mvB, List.getElem?_map]
    have ep : (⟨mvB f b, base', k.args.map (mvA f), 0⟩ : Pl) = plM f base' ⟨b, base, k.args, 0⟩ := rfl
    rw [conF, conF]
    simp only [mvC, e3, ep]
    rw [rn_rowF fun x hx => hs x (by simp [coT, hx])]
    cases b.sorts[k.sort.toNat]? with
    | none => rfl
    | some so =>
      simp only [Option.map_some]
      have h1 : indF n (plM f base' ⟨b, base, k.args, 0⟩) (mvS f so) (k.idx.map (rnT f)) j = indF n ⟨b, base, k.args, 0⟩ so k.idx j := rn_ind fun x hx => hs x (by simp [coT, hx])
      rw [h1, rn_clean n ⟨b, base, k.args, 0⟩ k.dec (hs _ (by simp [coT]))]
      rfl
end Ev
end Go.Proofs.Ythopdhnbflkabaa
