/- posit: a block with its last constructors left out. -/
import Derived.Test.YthopdhnbflkabaaO4
namespace Go.Proofs.Ythopdhnbflkabaa
namespace Ev
open Go
set_option maxRecDepth 100000
set_option linter.unusedSimpArgs false
set_option linter.unusedVariables false
attribute [local simp ↓] wx_skip wx_region wx_seq wx_block wx_exit wx_ret wx_cond wx_loop wo_nil wo_run wo_ask wx_draw wt_nil wt_run_t wt_run_f wt_ask_t wt_ask_f rb_mv rb_nilrow rb_pick rb_alloc rb_box rb_load rb_store rb_nilck rb_bin rb_binb rb_un rb_conv rb_mkf rb_mks rb_slice rb_faddr rb_fld rb_iaddr rb_ext rb_len rb_app rb_mm rb_build rb_bslice run_callC upd_eq upd_ne
attribute [local simp] runB_some runB_none Tch_nil Tch_cons Chk_t Cnd_t Cnd_f Ask_tt Ask_ff Ask_tf Ask_ft Ask_skip act ev_t ev_c evs sks caps2 touch_call List.cons_append List.nil_append putS binI binB int_add int_sub int_mul int_quo int_rem int_or int_eql int_neq int_lss int_leq int_gtr int_geq shiftD Ex.then Ex.inBlock Ends resL resX allD toD_d toD_fsl sk_d sk_fsl none_ loadA cut wrapA wrapD avc_d avc_agg avc_fsl avc_rsl avc_ptr avc_eptr avc_clo dc_agg dc_int dc_bool dc_str dc_sl dc_nilp dc_rp dc_clo on_int on_bool on_str on_sl on_nilp on_rp on_clo on_fsl on_rsl on_ptr on_eptr on_cloA newE elemsA elemsS storeA put frz_nil deep callee resA initS touchOp fits compat rd wr key1 buildA partsD partsK idx frz_at Body.frz lk_hit lk_miss toD6_agg toD5_agg toD4_agg toD6_clo toD5_clo toD4_clo toD6_ptr toD5_ptr toD4_ptr sk6_agg sk5_agg sk4_agg sk6_clo sk5_clo sk4_clo sk6_ptr sk5_ptr sk4_ptr toD_rsl sk_rsl resK EndsP EndsMP fitVs fitCs fitC keysV keysC keyC cellsA1 skVs skCs skC1 resO tupA valsV cellsV oneV rowsV rowsC RV.cells nk rowsH_one rowsH_two rowsH_none
theorem allI_mono {α : Type} {p q : Nat → α → Bool} {l : List α} (h : ∀ (j : Nat) (hj : j < l.length), p j l[j] = true → q j l[j] = true) (hp : allI p 0 l = true) : allI q 0 l = true :=
  (allI_iff _ _ _).2 fun j hj => by
    have := (allI_iff _ _ _).1 hp j hj
    rw [Nat.zero_add] at this ⊢
    exact h j hj this
structure Few (b b' : Bl) (base : Int) (m : Int) : Prop where
  s : b'.sorts = b.sorts
  h0 : ∀ c, n64 c → (ofM b base c).1 = 0 → (ofM b' base c).1 = 0
  h4 : ∀ c, n64 c → (ofM b base c).1 = 4 → ofM b' base c = ofM b base c
  h5 : ∀ c, n64 c → (ofM b base c).1 = 5 → (ofM b base c).2 < m → ofM b' base c = ofM b base c
  c : ∀ j : Nat, (j : Int) < m → b'.cons[j]? = b.cons[j]?
theorem decG_few {b b' : Bl} {base m : Int} (F : Few b b' base m) {cl cl' : T → Bool} {args : List Ar} {more : Int} {t : T} (ot : okT t) (hcl : ∀ x, okT x → cl x = true → cl' x = true)
    (h : decG cl ⟨b, base, args, more⟩ t = true) : decG cl' ⟨b', base, args, more⟩ t = true := by
  obtain ⟨oH, oA⟩ := (spA_mem t).2 ot
  simp only [decG] at h ⊢
  by_cases h1 : (spH t).kind = 3
  case neg => rw [if_neg h1] at h; cases h
  rw [if_pos h1] at h ⊢
  by_cases h2 : (ofM b base (spH t).num).1 = 4
  case neg => rw [if_neg h2] at h; cases h
  rw [F.h4 _ oH.num64 h2, if_pos h2, F.s]
  rw [if_pos h2] at h
  cases hso : b.sorts[(ofM b base (spH t).num).2.toNat]? with
  | none => rw [hso] at h; cases h
  | some s =>
    rw [hso] at h
    dsimp only at h ⊢
    by_cases h3 : ((spA t).length : Int) = s.idx.length + 1
    case neg => rw [if_neg h3] at h; cases h
    rw [if_pos h3] at h ⊢
    cases hz : (spA t).reverse.getLast? with
    | none => rw [hz] at h; cases h
    | some z =>
      rw [hz] at h
      dsimp only at h ⊢
      simp only [Bool.and_eq_true, List.all_eq_true] at h ⊢
      obtain ⟨g1, g2, g3⟩ := h
      have oz : okT z := oA z (by have := List.mem_of_getLast? hz; simpa using this)
      exact ⟨g1, fun x hx => hcl x (oA x (by simpa using List.dropLast_subset _ hx)) (g2 x hx), fun x hx => hcl x (((spA_mem z).2 oz).2 x (by simpa using hx)) (g3 x hx)⟩
theorem clean_few {b b' : Bl} {base m : Int} (F : Few b b' base m) : ∀ (n : Nat) (args : List Ar) (more : Int) (t : T), okT t → cleanF n ⟨b, base, args, more⟩ t = true → cleanF n ⟨b', base, args, more⟩ t = true := by
  intro n
  induction n with
  | zero => intro args more t _ _; rfl
  | succ n ih =>
    intro args more t ot h
    rw [cleanF] at h ⊢
    by_cases h1 : t.kind = 1
    · rw [if_pos h1] at h ⊢; exact h
    rw [if_neg h1] at h ⊢
    by_cases h3 : t.kind = 3
    · rw [if_pos h3, decide_eq_true_eq] at h ⊢; exact F.h0 _ ot.num64 h
    rw [if_neg h3] at h ⊢
    by_cases h6 : t.kind = 6 ∧ decG (cleanF n ⟨b', base, args, more⟩) ⟨b', base, args, more⟩ t = true
    · rw [if_pos h6]
    rw [if_neg h6]
    by_cases h7 : t.kind = 6 ∧ decG (cleanF n ⟨b, base, args, more⟩) ⟨b, base, args, more⟩ t = true
    · exact absurd ⟨h7.1, decG_few F ot (fun x ox hx => ih args more x ox hx) h7.2⟩ h6
    rw [if_neg h7] at h
    exact allI_mono (fun j hj hx => ih args (more + bindsM t.kind j) _ (kid_ok ot (List.getElem_mem hj)) hx) h
theorem all_few {b b' : Bl} {base m : Int} (F : Few b b' base m) {n : Nat} {args : List Ar} {more : Int} {l : List T} (ol : ∀ x ∈ l, okT x) (h : l.all (cleanF n ⟨b, base, args, more⟩) = true) : l.all (cleanF n ⟨b', base, args, more⟩) = true := by
  simp only [List.all_eq_true] at h ⊢
  exact fun x hx => clean_few F n args more x (ol x hx) (h x hx)
theorem good_few {b b' : Bl} {base m : Int} (F : Few b b' base m) {cons : Int} (hc : cons ≤ m) : ∀ (n : Nat) (args : List Ar) (more : Int) (t : T), okT t → goodF n ⟨b, base, args, more⟩ t cons = true → goodF n ⟨b', base, args, more⟩ t cons = true := by
  intro n
  induction n with
  | zero => intro args more t _ _; rfl
  | succ n ih =>
    intro args more t ot h
    obtain ⟨oH, oA⟩ := (spA_mem t).2 ot
    have oR : ∀ x ∈ (spA t).reverse, okT x := fun x hx => oA x (by simpa using hx)
    rw [goodF] at h ⊢
    simp only [goodG] at h ⊢
    by_cases h1 : guardB ⟨b, base, args, more⟩ (spH t) = true
    · have h1' : guardB ⟨b', base, args, more⟩ (spH t) = true := h1
      have e : guardN ⟨b', base, args, more⟩ (spH t) = guardN ⟨b, base, args, more⟩ (spH t) := rfl
      rw [if_pos h1] at h
      rw [if_pos h1', e]
      cases ha : args[(guardN ⟨b, base, args, more⟩ (spH t)).toNat]? with
      | none => rw [ha] at h; cases h
      | some a =>
        rw [ha] at h
        dsimp only at h ⊢
        rw [Bool.and_eq_true] at h ⊢
        exact ⟨h.1, all_few F oR h.2⟩
    have h1' : ¬ guardB ⟨b', base, args, more⟩ (spH t) = true := h1
    rw [if_neg h1] at h
    rw [if_neg h1']
    by_cases h3 : (spH t).kind = 3
    case neg => rw [if_neg h3] at h; cases h
    rw [if_pos h3] at h ⊢
    by_cases h5 : (ofM b base (spH t).num).1 = 5
    case neg => rw [if_neg h5] at h; cases h
    rw [if_pos h5] at h
    by_cases h6 : (ofM b base (spH t).num).2 < cons
    case neg => rw [if_neg h6] at h; cases h
    rw [if_pos h6] at h
    obtain ⟨k0, _⟩ := of_kind (b := b) (base := base) (n := (spH t).num) (by omega)
    rw [F.h5 _ oH.num64 h5 (by omega), if_pos h5, if_pos h6, F.c _ (by omega)]
    cases hk : b.cons[(ofM b base (spH t).num).2.toNat]? with
    | none => rw [hk] at h; cases h
    | some k =>
      rw [hk] at h
      dsimp only at h ⊢
      by_cases h7 : (spA t).reverse.length = k.args.length
      case neg => rw [if_neg h7] at h; cases h
      rw [if_pos h7] at h ⊢
      refine allI_mono (fun j hj hx => ?_) h
      have hja : j < (spA t).reverse.length := by omega
      rw [List.getElem?_eq_getElem hja] at hx ⊢
      dsimp only at hx ⊢
      have ox := oR _ (List.getElem_mem hja)
      generalize (spA t).reverse[j] = x at *
      rw [fitA] at hx ⊢
      split at hx
      · rename_i hr
        rw [if_pos hr]
        split at hx
        · rename_i hd
          rw [if_pos hd]
          exact ih args more x ox hx
        · rename_i hd
          rw [if_neg hd]
          exact hx
      · rename_i hr
        rw [if_neg hr]
        exact clean_few F n args more x ox hx
theorem ind_few {b b' : Bl} {base m : Int} (F : Few b b' base m) {cons : Int} (hc : cons ≤ m) {n : Nat} {args : List Ar} {more : Int} {so : So} {l : List T} (ol : ∀ x ∈ l, okT x) (h : indF n ⟨b, base, args, more⟩ so l cons = true) :
    indF n ⟨b', base, args, more⟩ so l cons = true := by
  rw [indF] at h ⊢
  refine allI_mono (fun j hj hx => ?_) h
  cases hl : l[j]? with
  | none => rw [hl] at hx; cases hx
  | some x =>
    rw [hl] at hx
    dsimp only at hx ⊢
    have ox := ol x (List.mem_of_getElem? hl)
    split at hx
    · rename_i hr
      rw [if_pos hr]
      exact good_few F hc n args more x ox hx
    · rename_i hr
      rw [if_neg hr]
      exact clean_few F n args more x ox hx
theorem row_few {b b' : Bl} {base m : Int} (F : Few b b' base m) {cons : Int} (hc : cons ≤ m) {n : Nat} {l : List Ar} (ol : okArs l) (h : rowF n b base l cons = true) : rowF n b' base l cons = true := by
  rw [rowF] at h ⊢
  refine allI_mono (fun j hj hx => ?_) h
  have oa := ol.2 _ (List.getElem_mem hj)
  generalize l[j] = a at *
  rw [argF] at hx ⊢
  split at hx
  · rename_i hr
    rw [if_pos hr]
    rw [Bool.and_eq_true] at hx ⊢
    refine ⟨allI_mono (fun q hq hy => clean_few F n _ _ _ (oa.dom.2 _ (List.getElem_mem hq)) hy) hx.1, ?_⟩
    rw [F.s]
    have h2 := hx.2
    cases hs : b.sorts[a.sort.toNat]? with
    | none => rw [hs] at h2; cases h2
    | some so =>
      rw [hs] at h2
      dsimp only at h2 ⊢
      exact ind_few F hc oa.idx.2 h2
  · rename_i hr
    rw [if_neg hr]
    exact clean_few F n _ _ _ oa.ty hx
theorem of_four {b : Bl} {base n : Int} (h : (ofM b base n).1 = 4) : ∃ k : Nat, k < b.sorts.length ∧ decoder b base k = n ∧ ofM b base n = (4, (k : Int)) := by
  have h0 := h
  rw [ofM] at h
  split at h
  · cases h
  rename_i hc
  cases hs : seek n (tab b base) with
  | none => rw [hs] at h; cases h
  | some q =>
    obtain ⟨e, he, k, hk, hn, rfl⟩ := seek_some hs
    rw [hs] at h
    simp only [Option.getD_some] at h
    have e0 : ofM b base n = (e.kind, (k : Int)) := by rw [ofM, if_neg hc, hs]; rfl
    rw [h] at e0
    simp only [tab, List.mem_cons, List.not_mem_nil, or_false] at he
    rcases he with rfl | rfl | rfl | rfl
    · cases h
    · exact ⟨k, hk, hn, e0⟩
    · cases h
    · cases h
theorem of_five {b : Bl} {base n : Int} (h : (ofM b base n).1 = 5) : ∃ k : Nat, k < b.cons.length ∧ constructor_ b base k = n ∧ ofM b base n = (5, (k : Int)) := by
  have h0 := h
  rw [ofM] at h
  split at h
  · cases h
  rename_i hc
  cases hs : seek n (tab b base) with
  | none => rw [hs] at h; cases h
  | some q =>
    obtain ⟨e, he, k, hk, hn, rfl⟩ := seek_some hs
    rw [hs] at h
    simp only [Option.getD_some] at h
    have e0 : ofM b base n = (e.kind, (k : Int)) := by rw [ofM, if_neg hc, hs]; rfl
    rw [h] at e0
    simp only [tab, List.mem_cons, List.not_mem_nil, or_false] at he
    rcases he with rfl | rfl | rfl | rfl
    · cases h
    · cases h
    · exact ⟨k, hk, hn, e0⟩
    · cases h
theorem tab_kind {b : Bl} {base : Int} {e : En} (h : e ∈ tab b base) : e.kind ≠ 0 := by
  simp only [tab, List.mem_cons, List.not_mem_nil, or_false] at h
  rcases h with rfl | rfl | rfl | rfl
  · show (3 : Int) ≠ 0; decide
  · show (4 : Int) ≠ 0; decide
  · show (5 : Int) ≠ 0; decide
  · show (6 : Int) ≠ 0; decide
theorem few_few {b : Bl} (hf : Fit b) {base : Int} (h0 : 0 ≤ base) (h1 : base ≤ 65535) {m : Nat} (hm : m ≤ b.cons.length) : Few b (fewB b m) base m := by
  have hf' : Fit (fewB b m) := ⟨hf.s, by show (b.cons.take m).length ≤ 20; have := hf.c; rw [List.length_take]; omega⟩
  have hci := count_is hf
  have hci' := count_is hf'
  have hcl : (fewB b m).cons.length = m := by show (b.cons.take m).length = m; rw [List.length_take]; omega
  rw [hcl] at hci'
  simp only [fewB] at hci'
  refine ⟨rfl, fun c hc hz => ?_, fun c hc h4 => ?_, fun c hc h5 hlt => ?_, fun j hj => ?_⟩
  · have hr : c < base ∨ base + count b ≤ c := by
      by_cases hr : c < base ∨ base + count b ≤ c
      · exact hr
      · obtain ⟨e, he, k, _, _, e3⟩ := of_in hf h0 h1 (n := c) (by omega) (by omega)
        rw [e3] at hz
        exact absurd hz (tab_kind he)
    have hci2 : count (fewB b m) ≤ count b := by rw [show count (fewB b m) = _ from hci', hci]; omega
    rw [of_out hf' h0 hc (by omega)]
  · obtain ⟨k, k1, k2, k3⟩ := of_four h4
    rw [k3]
    have hn : 0 ≤ c := by
      rw [decoder_is hf h0 h1] at k2
      by_cases hcn : 0 ≤ c
      · exact hcn
      · exfalso
        have : (ofM b base c).1 = 0 := by rw [of_out hf h0 hc (.inl (by omega))]
        omega
    exact of_decoder hf' hn (k := k) k2
  · obtain ⟨k, k1, k2, k3⟩ := of_five h5
    rw [k3] at hlt ⊢
    have hkm : k < m := by simpa using hlt
    have hn : 0 ≤ c := by
      by_cases hcn : 0 ≤ c
      · exact hcn
      · exfalso
        have : (ofM b base c).1 = 0 := by rw [of_out hf h0 hc (.inl (by omega))]
        omega
    refine of_constructor hf' hn (k := k) ?_
    rw [constructor_is hf h0 h1, if_pos (by omega)] at k2
    rw [constructor_is hf' h0 h1, hcl, if_pos (by omega)]
    exact k2
  · show (b.cons.take m)[j]? = b.cons[j]?
    rw [List.getElem?_take, if_pos (by omega)]
theorem pos_few {b : Bl} (ob : okBl b) (hf : Fit b) {base : Int} (h0 : 0 ≤ base) (h1 : base ≤ 65535) {m : Nat} (hm : m ≤ b.cons.length) {n : Nat} (h : posF n b base = true) : posF n (fewB b m) base = true := by
  have F := few_few hf h0 h1 hm
  rw [posF, Bool.and_eq_true] at h ⊢
  refine ⟨allI_mono (fun j hj hx => ?_) h.1, (allI_iff _ _ _).2 fun j hj => ?_⟩
  · have os := ob.sorts _ (List.getElem_mem hj)
    rw [sortF, Bool.and_eq_true] at hx ⊢
    refine ⟨row_few F (by omega) os.idx hx.1, ?_⟩
    have h2 := hx.2
    rw [Bool.or_eq_true] at h2 ⊢
    rcases h2 with h2 | h2
    · exact .inl h2
    · exact .inr (clean_few F n _ _ _ os.dty h2)
  · rw [Nat.zero_add]
    have hjm : j < (b.cons.take m).length := hj
    rw [List.length_take] at hjm
    have hjc : j < b.cons.length := by omega
    have e : (fewB b m).cons[j] = b.cons[j] := by simp only [fewB, List.getElem_take]
    have hx := (allI_iff _ _ _).1 h.2 j hjc
    rw [Nat.zero_add] at hx
    have oc := ob.cons _ (List.getElem_mem hjc)
    rw [e]
    generalize b.cons[j] = c at *
    rw [conF, Bool.and_eq_true] at hx ⊢
    refine ⟨row_few F (by omega) oc.args hx.1, ?_⟩
    have h2 := hx.2
    have hs : (fewB b m).sorts = b.sorts := rfl
    rw [hs]
    cases hso : b.sorts[c.sort.toNat]? with
    | none => rw [hso] at h2; cases h2
    | some so =>
      rw [hso] at h2
      dsimp only at h2 ⊢
      rw [Bool.and_eq_true] at h2 ⊢
      refine ⟨ind_few F (by omega) oc.idx.2 h2.1, ?_⟩
      have h3 := h2.2
      rw [Bool.or_eq_true] at h3 ⊢
      rcases h3 with h3 | h3
      · exact .inl h3
      · exact .inr (clean_few F n _ _ _ oc.dec h3)
end Ev
end Go.Proofs.Ythopdhnbflkabaa
