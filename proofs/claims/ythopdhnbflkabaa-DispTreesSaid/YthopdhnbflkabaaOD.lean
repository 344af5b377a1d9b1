/- PositPlain: a block that names none of its constants is positive. -/
import Derived.Test.YthopdhnbflkabaaO8
namespace Go.Proofs.Ythopdhnbflkabaa
namespace Ev
open Go
set_option maxRecDepth 100000
set_option linter.unusedSimpArgs false
set_option linter.unusedVariables false
attribute [local simp ↓] wx_skip wx_region wx_seq wx_block wx_exit wx_ret wx_cond wx_loop wo_nil wo_run wo_ask wx_draw wt_nil wt_run_t wt_run_f wt_ask_t wt_ask_f rb_mv rb_nilrow rb_pick rb_alloc rb_box rb_load rb_store rb_nilck rb_bin rb_binb rb_un rb_conv rb_mkf rb_mks rb_slice rb_faddr rb_fld rb_iaddr rb_ext rb_len rb_app rb_mm rb_build rb_bslice run_callC upd_eq upd_ne
attribute [local simp] runB_some runB_none Tch_nil Tch_cons Chk_t Cnd_t Cnd_f Ask_tt Ask_ff Ask_tf Ask_ft Ask_skip act ev_t ev_c evs sks caps2 touch_call List.cons_append List.nil_append putS binI binB int_add int_sub int_mul int_quo int_rem int_or int_eql int_neq int_lss int_leq int_gtr int_geq shiftD Ex.then Ex.inBlock Ends resL resX allD toD_d toD_fsl sk_d sk_fsl none_ loadA cut wrapA wrapD avc_d avc_agg avc_fsl avc_rsl avc_ptr avc_eptr avc_clo dc_agg dc_int dc_bool dc_str dc_sl dc_nilp dc_rp dc_clo on_int on_bool on_str on_sl on_nilp on_rp on_clo on_fsl on_rsl on_ptr on_eptr on_cloA newE elemsA elemsS storeA put frz_nil deep callee resA initS touchOp fits compat rd wr key1 buildA partsD partsK idx frz_at Body.frz lk_hit lk_miss toD6_agg toD5_agg toD4_agg toD6_clo toD5_clo toD4_clo toD6_ptr toD5_ptr toD4_ptr sk6_agg sk5_agg sk4_agg sk6_clo sk5_clo sk4_clo sk6_ptr sk5_ptr sk4_ptr toD_rsl sk_rsl resK EndsP EndsMP fitVs fitCs fitC keysV keysC keyC cellsA1 skVs skCs skC1 resO tupA valsV cellsV oneV rowsV rowsC RV.cells nk rowsH_one rowsH_two rowsH_none
theorem cnt_shift (t : T) : ∀ n b c : Int, cntT t n (b + c) = cntT t (n + c) b := by
  refine T.ind (p := fun t => ∀ n b c : Int, cntT t n (b + c) = cntT t (n + c) b) ?_ t
  intro k m ks ih n b c
  rw [cntT, cntT, show n + (b + c) = n + c + b by omega]
  generalize (if k = 1 ∧ m = n + c + b then (1 : Int) else 0) = a
  have go : ∀ (l : List T) (i : Nat) (a : Int), (∀ x ∈ l, x ∈ ks) → cntL k n (b + c) i a l = cntL k (n + c) b i a l := by
    intro l
    induction l with
    | nil => intro i a _; simp [cntL]
    | cons x xs ihx =>
      intro i a hm
      rw [cntL, cntL, show b + c + bindsM k i = b + bindsM k i + c by omega, ih x (hm x (by simp)), ihx (i + 1) _ fun z hz => hm z (by simp [hz])]
  exact go ks 0 a fun x hx => hx
def UnA (a : Ar) (m : Int) : Prop := cntT a.ty m 0 = 0 ∧ (∀ (j : Nat) (hj : j < a.dom.length), cntT a.dom[j] (m + j) 0 = 0) ∧ ∀ (j : Nat) (hj : j < a.idx.length), cntT a.idx[j] (m + a.dom.length) 0 = 0
def UnC (x : Co) (i : Nat) : Prop := (∀ (k : Nat) (hk : k < x.args.length), i < k → UnA x.args[k] ((k : Int) - 1 - i)) ∧ (∀ (j : Nat) (hj : j < x.idx.length), cntT x.idx[j] ((x.args.length : Int) - 1 - i) 0 = 0) ∧ cntT x.dec ((x.args.length : Int) - 1 - i) 0 = 0
open Classical in
theorem cntL_zero (k n b : Int) : ∀ (l : List T) (i : Nat) (a : Int), 0 ≤ a → cntL k n b i a l ≤ 0 → a = 0 ∧ ∀ (j : Nat) (hj : j < l.length), cntT l[j] n (b + bindsM k (i + j : Nat)) = 0
  | [], i, a, h0, h => by
    rw [cntL] at h
    exact ⟨by omega, fun j hj => by simp at hj⟩
  | x :: xs, i, a, h0, h => by
    rw [cntL] at h
    have hx := (cnt_le x n (b + bindsM k i)).1
    obtain ⟨h1, h2⟩ := cntL_zero k n b xs (i + 1) (a + cntT x n (b + bindsM k i)) (by omega) h
    refine ⟨by omega, fun j hj => ?_⟩
    match j with
    | 0 => simp only [List.getElem_cons_zero, Nat.add_zero]; omega
    | j + 1 =>
      have := h2 j (by simpa using hj)
      simp only [List.getElem_cons_succ]
      rw [show i + (j + 1) = i + 1 + j by omega]
      exact this
theorem cnt_kids {k m n b : Int} {ks : List T} (h : cntT (.mk k m ks) n b = 0) : ¬(k = 1 ∧ m = n + b) ∧ ∀ (j : Nat) (hj : j < ks.length), cntT ks[j] n (b + bindsM k j) = 0 := by
  rw [cntT] at h
  have h0 : (0 : Int) ≤ (if k = 1 ∧ m = n + b then 1 else 0) := by split <;> omega
  obtain ⟨h1, h2⟩ := cntL_zero k n b ks 0 _ h0 (Int.le_of_eq h)
  refine ⟨fun hc => ?_, fun j hj => ?_⟩
  · rw [if_pos hc] at h1; cases h1
  · have := h2 j hj
    rwa [Nat.zero_add] at this
theorem clean_plain : ∀ (n : Nat) (p : Pl) (t : T), 0 ≤ p.more → (∀ c ∈ csT t, (ofM p.b p.base c).1 = 0) → (∀ (j : Nat) (hj : j < p.args.length), p.args[j].rc = true → cntT t ((p.args.length : Int) - 1 - j) p.more = 0) → cleanF n p t = true := by
  intro n
  induction n with
  | zero => intro p t _ _ _; rfl
  | succ n ih =>
    intro p t h0 hc hv
    obtain ⟨k, m, ks⟩ := t
    have e : cleanF (n + 1) p (.mk k m ks) = if k = 1 then !guardB p (.mk k m ks) else if k = 3 then decide ((ofM p.b p.base m).1 = 0) else if k = 6 ∧ decG (cleanF n p) p (.mk k m ks) = true then true else allI (fun i x => cleanF n (p.fwd (bindsM k i)) x) 0 ks := rfl
    rw [e]
    by_cases h1 : k = 1
    · rw [if_pos h1, Bool.not_eq_true', Bool.eq_false_iff]
      intro hg
      rw [guardB] at hg
      split at hg
      · rename_i j hJ
        rw [guardJ] at hJ
        split at hJ
        · rename_i hh
          obtain ⟨_, hh1, hh2⟩ := hh
          simp only [tn] at hh1 hh2 hJ
          cases hJ
          split at hg
          · rename_i a ha
            have hlt := (List.getElem?_eq_some_iff.1 ha).1
            have hae := (List.getElem?_eq_some_iff.1 ha).2
            have := hv _ hlt (by rw [hae]; exact hg)
            exact (cnt_kids this).1 ⟨h1, by omega⟩
          · cases hg
        · cases hJ
      · cases hg
    rw [if_neg h1]
    by_cases h3 : k = 3
    · rw [if_pos h3, decide_eq_true_eq]
      exact hc m (cs_mem.2 (.inl ⟨h3, rfl⟩))
    rw [if_neg h3]
    by_cases h6 : k = 6 ∧ decG (cleanF n p) p (.mk k m ks) = true
    · rw [if_pos h6]
    rw [if_neg h6]
    refine (allI_iff _ _ _).2 fun j hj => ?_
    rw [Nat.zero_add]
    have hbl := binds_le k j
    refine ih (p.fwd (bindsM k j)) ks[j] (by simp only [Pl.fwd]; omega) (fun c hcc => hc c (cs_mem.2 (.inr ⟨_, List.getElem_mem hj, hcc⟩))) (fun q hq hr => ?_)
    exact (cnt_kids (hv q hq hr)).2 j hj
/-- No index of a sort is recursive. -/
theorem ind_plain {n : Nat} {p : Pl} {so : So} {l : List T} {cons : Int} (hs : ∀ a ∈ so.idx, a.rc = false) (hl : l.length = so.idx.length) (h : ∀ x ∈ l, cleanF n p x = true) : indF n p so l cons = true := by
  rw [indF]
  refine (allI_iff _ _ _).2 fun j hj => ?_
  rw [Nat.zero_add, List.getElem?_eq_getElem (by omega : j < l.length)]
  dsimp only
  rw [hs _ (List.getElem_mem hj), if_neg (by simp)]
  exact h _ (List.getElem_mem _)
theorem mem_arT {l : List Ar} {a : Ar} (ha : a ∈ l) {x : T} (hx : x ∈ arT a) : x ∈ arTs l := List.mem_flatten.2 ⟨_, List.mem_map.2 ⟨a, ha, rfl⟩, hx⟩
theorem row_plain {n : Nat} {b : Bl} {base : Int} {l : List Ar} {cons : Int} (hrow : ∀ (i : Nat) (hi : i < l.length), l[i].rc = true → ∃ so, b.sorts[l[i].sort.toNat]? = some so ∧ l[i].idx.length = so.idx.length)
    (hns : ∀ s ∈ b.sorts, ∀ a ∈ s.idx, a.rc = false) (hc : ∀ x ∈ arTs l, ∀ c ∈ csT x, (ofM b base c).1 = 0)
    (hu : ∀ (q : Nat) (hq : q < l.length), l[q].rc = true → ∀ (k : Nat) (hk : k < l.length), q < k → UnA l[k] ((k : Int) - 1 - q)) : rowF n b base l cons = true := by
  rw [rowF]
  refine (allI_iff _ _ _).2 fun i hi => ?_
  rw [Nat.zero_add]
  have hmem := List.getElem_mem hi
  have hcl : ∀ (x : T) (more : Int), x ∈ arT l[i] → 0 ≤ more → (∀ (q : Nat) (hq : q < i), l[q].rc = true → cntT x ((i : Int) - 1 - q) more = 0) → cleanF n ⟨b, base, l.take i, more⟩ x = true := fun x more hx h0 hv => by
    refine clean_plain n _ x h0 (hc x (mem_arT hmem hx)) (fun q hq hr => ?_)
    simp only [List.length_take] at hq ⊢
    simp only [List.getElem_take] at hr
    have := hv q (by omega) hr
    rw [Nat.min_eq_left (by omega)]
    exact this
  rw [argF]
  cases hr : l[i].rc with
  | false =>
    rw [if_neg (by simp)]
    exact hcl _ 0 (by simp [arT]) (by omega) fun q hq hqr => (hu q (by omega) hqr i hi hq).1
  | true =>
    rw [if_pos rfl]
    obtain ⟨so, hso, hlen⟩ := hrow i hi hr
    rw [hso]
    dsimp only
    rw [Bool.and_eq_true]
    refine ⟨(allI_iff _ _ _).2 fun j hj => ?_, ind_plain (hns so (List.mem_of_getElem? hso)) hlen fun x hx => ?_⟩
    · rw [Nat.zero_add]
      refine hcl _ (j : Int) (by simp [arT]) (by omega) fun q hq hqr => ?_
      have := (hu q (by omega) hqr i hi hq).2.1 j hj
      rw [← cnt_shift, Int.zero_add] at this
      exact this
    · refine hcl _ _ (by simp [arT, hx]) (by omega) fun q hq hqr => ?_
      obtain ⟨j, hj, rfl⟩ := List.mem_iff_getElem.1 hx
      have := (hu q (by omega) hqr i hi hq).2.2 j hj
      rw [← cnt_shift, Int.zero_add] at this
      exact this
theorem cs_n64 {c : Int} (t : T) : okT t → c ∈ csT t → n64 c := by
  refine T.ind (p := fun t => okT t → c ∈ csT t → n64 c) ?_ t
  intro k n ks ih ho hc
  rcases cs_mem.1 hc with ⟨_, rfl⟩ | ⟨x, hx, h⟩
  · exact ho.num64
  · exact ih x hx (ho.kids.2 x hx) h
theorem pos_plain {b : Bl} (ob : okBl b) (hf : Fit b) (hz : checkB b = 0) {base : Int} (h0 : 0 ≤ base) (h1 : base ≤ 1000) {n : Nat} (hn : ∀ i : Nat, (i : Int) < count b → nmB b (base + i) = false)
    (hns : ∀ s ∈ b.sorts, ∀ a ∈ s.idx, a.rc = false) (hu : ∀ x ∈ b.cons, ∀ (q : Nat) (hq : q < x.args.length), x.args[q].rc = true → UnC x q) : posF n b base = true := by
  obtain ⟨z1, z4, z8, zl, zs, zc⟩ := (checkB_zero b).1 hz
  have hT : ∀ x ∈ blT b, okT x := by
    have har : ∀ l : List Ar, okArs l → ∀ x ∈ arTs l, okT x := fun l hl x hx => by
      simp only [arTs, List.mem_flatten, List.mem_map] at hx
      obtain ⟨_, ⟨a, ha, rfl⟩, hx⟩ := hx
      have fa := hl.2 a ha
      simp only [arT, List.mem_cons, List.mem_append] at hx
      rcases hx with rfl | hx | hx
      · exact fa.ty
      · exact fa.dom.2 _ hx
      · exact fa.idx.2 _ hx
    intro x hx
    simp only [blT, List.mem_append, List.mem_flatten, List.mem_map] at hx
    rcases hx with ⟨_, ⟨s, hs, rfl⟩, hx⟩ | ⟨_, ⟨k, hk, rfl⟩, hx⟩
    · simp only [soT, List.mem_cons] at hx
      rcases hx with rfl | hx
      · exact (ob.sorts s hs).dty
      · exact har _ (ob.sorts s hs).idx x hx
    · simp only [coT, List.mem_cons, List.mem_append] at hx
      rcases hx with rfl | hx | hx
      · exact (ob.cons k hk).dec
      · exact (ob.cons k hk).idx.2 _ hx
      · exact har _ (ob.cons k hk).args x hx
  have hC : ∀ x ∈ blT b, ∀ c ∈ csT x, (ofM b base c).1 = 0 := fun x hx c hc => by
    have h64 := cs_n64 x (hT x hx) hc
    rw [of_out hf h0 h64]
    by_cases hh : c < base ∨ base + count b ≤ c
    · exact hh
    · exfalso
      have hi := hn (c - base).toNat (by omega)
      rw [show base + ((c - base).toNat : Int) = c by omega] at hi
      have := List.any_eq_false.1 hi x hx
      rw [Bool.not_eq_true] at this
      have := List.any_eq_false.1 this c hc
      simp at this
  have hCs : ∀ s ∈ b.sorts, ∀ x ∈ soT s, ∀ c ∈ csT x, (ofM b base c).1 = 0 := fun s hs x hx => hC x (by
    simp only [blT, List.mem_append, List.mem_flatten, List.mem_map]
    exact .inl ⟨_, ⟨s, hs, rfl⟩, hx⟩)
  have hCc : ∀ k ∈ b.cons, ∀ x ∈ coT k, ∀ c ∈ csT x, (ofM b base c).1 = 0 := fun k hk x hx => hC x (by
    simp only [blT, List.mem_append, List.mem_flatten, List.mem_map]
    exact .inr ⟨_, ⟨k, hk, rfl⟩, hx⟩)
  rw [posF, Bool.and_eq_true]
  refine ⟨(allI_iff _ _ _).2 fun j hj => ?_, (allI_iff _ _ _).2 fun j hj => ?_⟩
  · have hm := List.getElem_mem hj
    have hno := hns _ hm
    have hcs := hCs _ hm
    generalize b.sorts[j] = s at *
    rw [sortF, Bool.and_eq_true, Bool.or_eq_true]
    refine ⟨row_plain (fun i hi hr => ?_) hns (fun x hx => hcs x (by simp [soT, hx])) (fun q hq hr => ?_), .inr (clean_plain n _ _ (by simp) (hcs _ (by simp [soT])) fun q hq hr => ?_)⟩
    · rw [hno _ (List.getElem_mem hi)] at hr; cases hr
    · rw [hno _ (List.getElem_mem hq)] at hr; cases hr
    · simp only at hq hr
      rw [hno _ (List.getElem_mem hq)] at hr; cases hr
  · rw [Nat.zero_add]
    have hm := List.getElem_mem hj
    have hcc := hCc _ hm
    have hux := hu _ hm
    have oc := ob.cons _ hm
    obtain ⟨hrow, c0, so, hso, hil⟩ := con_parts (zc _ hm)
    generalize b.cons[j] = x at *
    have hclx : ∀ y ∈ coT x, (∀ (q : Nat) (hq : q < x.args.length), x.args[q].rc = true → cntT y ((x.args.length : Int) - 1 - q) 0 = 0) → cleanF n ⟨b, base, x.args, 0⟩ y = true := fun y hy hv =>
      clean_plain n _ y (by simp) (hcc y hy) hv
    rw [conF, hso]
    dsimp only
    rw [Bool.and_eq_true, Bool.and_eq_true, Bool.or_eq_true]
    refine ⟨row_plain (fun i hi hr => ?_) hns (fun y hy => hcc y (by simp [coT, hy])) (fun q hq hr => (hux q hq hr).1), ind_plain (hns so (List.mem_of_getElem? hso)) hil fun y hy => ?_, .inr (hclx _ (by simp [coT]) fun q hq hr => (hux q hq hr).2.2)⟩
    · rw [rowM] at hrow
      split at hrow
      · cases hrow
      have hA := (allI_iff _ _ _).1 hrow i hi
      rw [Nat.zero_add, argM, if_pos hr] at hA
      split at hA
      case isFalse => cases hA
      split at hA
      · cases hA
      split at hA
      · cases hA
      split at hA
      · cases hA
      rename_i so2 hso2
      split at hA
      case isFalse => cases hA
      rename_i hlen
      exact ⟨so2, hso2, by omega⟩
    · refine hclx y (by simp [coT, hy]) fun q hq hr => ?_
      obtain ⟨i, hi, rfl⟩ := List.mem_iff_getElem.1 hy
      exact (hux q hq hr).2.1 i hi
end Ev
end Go.Proofs.Ythopdhnbflkabaa
