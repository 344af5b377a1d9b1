/- PositMoves: constants moved. -/
import Derived.Test.YthopdhnbflkabaaOD
namespace Go.Proofs.Ythopdhnbflkabaa
namespace Ev
open Go
set_option maxRecDepth 100000
set_option linter.unusedSimpArgs false
set_option linter.unusedVariables false
attribute [local simp ↓] wx_skip wx_region wx_seq wx_block wx_exit wx_ret wx_cond wx_loop wo_nil wo_run wo_ask wx_draw wt_nil wt_run_t wt_run_f wt_ask_t wt_ask_f rb_mv rb_nilrow rb_pick rb_alloc rb_box rb_load rb_store rb_nilck rb_bin rb_binb rb_un rb_conv rb_mkf rb_mks rb_slice rb_faddr rb_fld rb_iaddr rb_ext rb_len rb_app rb_mm rb_build rb_bslice run_callC upd_eq upd_ne
attribute [local simp] runB_some runB_none Tch_nil Tch_cons Chk_t Cnd_t Cnd_f Ask_tt Ask_ff Ask_tf Ask_ft Ask_skip act ev_t ev_c evs sks caps2 touch_call List.cons_append List.nil_append putS binI binB int_add int_sub int_mul int_quo int_rem int_or int_eql int_neq int_lss int_leq int_gtr int_geq shiftD Ex.then Ex.inBlock Ends resL resX allD toD_d toD_fsl sk_d sk_fsl none_ loadA cut wrapA wrapD avc_d avc_agg avc_fsl avc_rsl avc_ptr avc_eptr avc_clo dc_agg dc_int dc_bool dc_str dc_sl dc_nilp dc_rp dc_clo on_int on_bool on_str on_sl on_nilp on_rp on_clo on_fsl on_rsl on_ptr on_eptr on_cloA newE elemsA elemsS storeA put frz_nil deep callee resA initS touchOp fits compat rd wr key1 buildA partsD partsK idx frz_at Body.frz lk_hit lk_miss toD6_agg toD5_agg toD4_agg toD6_clo toD5_clo toD4_clo toD6_ptr toD5_ptr toD4_ptr sk6_agg sk5_agg sk4_agg sk6_clo sk5_clo sk4_clo sk6_ptr sk5_ptr sk4_ptr toD_rsl sk_rsl resK EndsP EndsMP fitVs fitCs fitC keysV keysC keyC cellsA1 skVs skCs skC1 resO tupA valsV cellsV oneV rowsV rowsC RV.cells nk rowsH_one rowsH_two rowsH_none
mutual
def rnT (f : Int → Int) : T → T
  | .mk k n ks => .mk k (if k = 3 then f n else n) (rnL f ks)
def rnL (f : Int → Int) : List T → List T
  | [] => []
  | x :: xs => rnT f x :: rnL f xs
end
theorem rnL_is (f : Int → Int) : ∀ l : List T, rnL f l = l.map (rnT f)
  | [] => by rw [rnL]; rfl
  | x :: xs => by rw [rnL, rnL_is f xs]; rfl
theorem rn_mk (f : Int → Int) (k n : Int) (ks : List T) : rnT f (.mk k n ks) = .mk k (if k = 3 then f n else n) (ks.map (rnT f)) := by rw [rnT, rnL_is]
theorem rn_kind (f : Int → Int) (t : T) : (rnT f t).kind = t.kind := by obtain ⟨k, n, ks⟩ := t; rw [rn_mk]; rfl
theorem rn_kids (f : Int → Int) (t : T) : (rnT f t).kids = t.kids.map (rnT f) := by obtain ⟨k, n, ks⟩ := t; rw [rn_mk]; rfl
theorem rn_num3 (f : Int → Int) {t : T} (h : t.kind = 3) : (rnT f t).num = f t.num := by
  obtain ⟨k, n, ks⟩ := t
  have h' : k = 3 := h
  rw [rn_mk, if_pos h']; rfl
theorem rn_num (f : Int → Int) {t : T} (h : t.kind ≠ 3) : (rnT f t).num = t.num := by
  obtain ⟨k, n, ks⟩ := t
  have h' : k ≠ 3 := h
  rw [rn_mk, if_neg h']; rfl
theorem rn_nodes (f : Int → Int) (t : T) : nodes (rnT f t) = nodes t := by
  refine T.ind (p := fun t => nodes (rnT f t) = nodes t) ?_ t
  intro k n ks ih
  rw [rn_mk, nodes, nodes, List.map_map]
  congr 2
  exact List.map_congr_left fun x hx => ih x hx
theorem rn_sum (f : Int → Int) (l : List T) : ((l.map (rnT f)).map nodes).sum = (l.map nodes).sum := by
  rw [List.map_map]
  congr 1
  exact List.map_congr_left fun x _ => rn_nodes f x
theorem rn_ok {f : Int → Int} (hf : ∀ n, n64 n → n64 (f n)) (t : T) : okT t → okT (rnT f t) := by
  refine T.ind (p := fun t => okT t → okT (rnT f t)) ?_ t
  intro k n ks ih ho
  rw [rn_mk]
  cases ho with
  | mk _ _ _ hk hn hl h =>
    refine .mk k _ _ hk ?_ (by simpa using hl) fun x hx => ?_
    · split
      · exact hf n hn
      · exact hn
    · obtain ⟨y, hy, rfl⟩ := List.mem_map.1 hx
      exact ih y hy (h y hy)
theorem rn_none (f : Int → Int) (t : T) : noneM (rnT f t) = noneM t := by
  obtain ⟨k, n, ks⟩ := t
  have e : ∀ (n : Int) (ks : List T), noneM (.mk k n ks) = if k = 0 then if n = 0 then decide ((ks.length : Int) = 0) else false else false := fun _ _ => rfl
  rw [rn_mk, e, e, List.length_map]
  by_cases h : k = 0
  · rw [if_pos h, if_pos h, if_neg (by omega : ¬ k = 3)]
  · rw [if_neg h, if_neg h]
theorem rn_size (f : Int → Int) (t : T) : sizeM (rnT f t) = sizeM t := by
  refine T.ind (p := fun t => sizeM (rnT f t) = sizeM t) ?_ t
  intro k n ks ih
  have e : (ks.map (rnT f)).map sizeM = ks.map sizeM := by
    rw [List.map_map]; exact List.map_congr_left fun x hx => ih x hx
  rw [rn_mk, sizeM, sizeM, e]
theorem rn_depth (f : Int → Int) (t : T) : depthM (rnT f t) = depthM t := by
  refine T.ind (p := fun t => depthM (rnT f t) = depthM t) ?_ t
  intro k n ks ih
  have e : (ks.map (rnT f)).map depthM = ks.map depthM := by
    rw [List.map_map]; exact List.map_congr_left fun x hx => ih x hx
  rw [rn_mk, depthM, depthM, e]
theorem rn_formed {f : Int → Int} (hf : ∀ n, inB (f n) 0 65535 = inB n 0 65535) (t : T) : formedM (rnT f t) = formedM t := by
  refine T.ind (p := fun t => formedM (rnT f t) = formedM t) ?_ t
  intro k n ks ih
  have e : (ks.map (rnT f)).all formedM = ks.all formedM := by
    rw [List.all_map]
    rw [Bool.eq_iff_iff, List.all_eq_true, List.all_eq_true]
    constructor
    · intro h x hx; have := h x hx; simp only [Function.comp_apply] at this; rwa [ih x hx] at this
    · intro h x hx; simp only [Function.comp_apply]; rw [ih x hx]; exact h x hx
  rw [rn_mk, formedM_is, formedM_is, List.length_map, e]
  by_cases h3 : k = 3
  · subst h3
    have h0 : kidsM 3 = 0 := rfl
    simp only [h0, eq_self, if_true, hf]
  · rw [if_neg h3]
theorem rn_within {f : Int → Int} {c : Int} (hf : ∀ n, f n < c ↔ n < c) (t : T) : ∀ v : Int, withinM (rnT f t) v c = withinM t v c := by
  refine T.ind (p := fun t => ∀ v : Int, withinM (rnT f t) v c = withinM t v c) ?_ t
  intro k n ks ih v
  rw [rn_mk, withinM, withinM]
  by_cases h1 : k = 1
  · rw [if_pos h1, if_pos h1, if_neg (by omega : ¬ k = 3)]
  rw [if_neg h1, if_neg h1]
  by_cases h2 : k = 2
  · rw [if_pos h2, if_pos h2, if_neg (by omega : ¬ k = 3)]
  rw [if_neg h2, if_neg h2]
  by_cases h3 : k = 3
  · rw [if_pos h3, if_pos h3, if_pos h3, decide_eq_decide]; exact hf n
  rw [if_neg h3, if_neg h3]
  have go : ∀ (l : List T) (i : Nat), (∀ x ∈ l, x ∈ ks) → withinL k v c i (l.map (rnT f)) = withinL k v c i l := by
    intro l
    induction l with
    | nil => intro i _; rfl
    | cons x xs ihx =>
      intro i hm
      rw [List.map_cons, withinL, withinL, ih x (hm x (by simp)), ihx (i + 1) fun y hy => hm y (by simp [hy])]
  exact go ks 0 fun x hx => hx
theorem rn_in {f : Int → Int} (hf : ∀ n, inB (f n) 0 65535 = inB n 0 65535) (hc : ∀ n, f n < 65536 ↔ n < 65536) (t : T) (v : Int) : inM (rnT f t) v = inM t v := by
  have e : checkM (rnT f t) = checkM t := by rw [checkM, checkM, rn_size, rn_depth, rn_formed hf]
  rw [inM, inM, scopeM, scopeM, e, rn_within hc]
def mvA (f : Int → Int) (a : Ar) : Ar := ⟨a.rc, rnT f a.ty, a.dom.map (rnT f), a.sort, a.idx.map (rnT f)⟩
def mvS (f : Int → Int) (s : So) : So := ⟨s.idx.map (mvA f), s.level, s.dec, rnT f s.dty⟩
def mvC (f : Int → Int) (c : Co) : Co := ⟨c.sort, c.args.map (mvA f), c.idx.map (rnT f), rnT f c.dec⟩
def mvB (f : Int → Int) (b : Bl) : Bl := ⟨b.sorts.map (mvS f), b.cons.map (mvC f), b.elim⟩
theorem allI_map {α β : Type} (p : Nat → β → Bool) (g : α → β) : ∀ (l : List α) (i : Nat), allI p i (l.map g) = allI (fun i x => p i (g x)) i l
  | [], i => rfl
  | x :: xs, i => by rw [List.map_cons, allI, allI, allI_map p g xs]
theorem allI_congr {α : Type} {p q : Nat → α → Bool} : ∀ {l : List α} {i : Nat}, (∀ (j : Nat) (hj : j < l.length), p (i + j) l[j] = q (i + j) l[j]) → allI p i l = allI q i l
  | [], i, _ => rfl
  | x :: xs, i, h => by
    have h0 := h 0 (by simp)
    simp only [Nat.add_zero, List.getElem_cons_zero] at h0
    have h1 : allI p (i + 1) xs = allI q (i + 1) xs := allI_congr fun j hj => by
      have := h (j + 1) (by simpa using hj)
      simp only [List.getElem_cons_succ] at this
      rwa [show i + 1 + j = i + (j + 1) by omega]
    rw [allI, allI, h0, h1]
theorem rn_allM {f : Int → Int} (hf : ∀ n, inB (f n) 0 65535 = inB n 0 65535) (hc : ∀ n, f n < 65536 ↔ n < 65536) (l : List T) (v : Int) : allM (l.map (rnT f)) v = allM l v := by
  rw [allM, allM, List.any_map]
  congr 2
  funext t
  simp only [Function.comp_apply]
  rw [rn_in hf hc]
theorem rn_arg {f : Int → Int} (hf : ∀ n, inB (f n) 0 65535 = inB n 0 65535) (hc : ∀ n, f n < 65536 ↔ n < 65536) (b : Bl) (a : Ar) (i : Int) : argM (mvB f b) (mvA f a) i = argM b a i := by
  simp only [argM, mvA, mvB, List.length_map, rn_none, rn_in hf hc, rn_allM hf hc, List.getElem?_map]
  have e : domM i (a.dom.map (rnT f)) = domM i a.dom := by
    rw [domM, domM, allI_map]
    exact allI_congr fun j hj => by rw [rn_in hf hc]
  rw [e]
  cases b.sorts[a.sort.toNat]? with
  | none => rfl
  | some s => simp only [Option.map_some, mvS, List.length_map]; try rfl
theorem rn_row {f : Int → Int} (hf : ∀ n, inB (f n) 0 65535 = inB n 0 65535) (hc : ∀ n, f n < 65536 ↔ n < 65536) (b : Bl) (l : List Ar) : rowM (mvB f b) (l.map (mvA f)) = rowM b l := by
  rw [rowM, rowM, List.length_map, allI_map]
  congr 1
  exact allI_congr fun j hj => by rw [rn_arg hf hc]
theorem rn_maybe {f : Int → Int} (hf : ∀ n, inB (f n) 0 65535 = inB n 0 65535) (hc : ∀ n, f n < 65536 ↔ n < 65536) (is : Bool) (t : T) (v : Int) : maybeM is (rnT f t) v = maybeM is t v := by
  rw [maybeM, maybeM, rn_in hf hc, rn_none]
theorem rn_sort {f : Int → Int} (hf : ∀ n, inB (f n) 0 65535 = inB n 0 65535) (hc : ∀ n, f n < 65536 ↔ n < 65536) (b : Bl) (k : Nat) (s : So) : sortM (mvB f b) k (mvS f s) = sortM b k s := by
  have e : (s.idx.map (mvA f)).any (sortBad k (mvS f s)) = s.idx.any (sortBad k s) := by
    rw [List.any_map]
    congr 1
    funext a
    simp only [Function.comp_apply, sortBad, mvA, mvS, List.length_map]; try rfl
  simp only [sortM, mvS, rn_row hf hc, rn_maybe hf hc, List.length_map] at e ⊢
  rw [e]
theorem rn_con {f : Int → Int} (hf : ∀ n, inB (f n) 0 65535 = inB n 0 65535) (hc : ∀ n, f n < 65536 ↔ n < 65536) (b : Bl) (c : Co) : conM (mvB f b) (mvC f c) = conM b c := by
  have e : (mvB f b).sorts[c.sort.toNat]? = (b.sorts[c.sort.toNat]?).map (mvS f) := by simp only [mvB, List.getElem?_map]
  simp only [conM, mvC, rn_row hf hc, rn_maybe hf hc, rn_allM hf hc, List.length_map, e]
  cases b.sorts[c.sort.toNat]? with
  | none => rfl
  | some s => simp only [Option.map_some, mvS, List.length_map]; try rfl
theorem rn_check {f : Int → Int} (hf : ∀ n, inB (f n) 0 65535 = inB n 0 65535) (hc : ∀ n, f n < 65536 ↔ n < 65536) (b : Bl) : checkB (mvB f b) = checkB b := by
  have e1 : (mvB f b).sorts = b.sorts.map (mvS f) := rfl
  have e2 : (mvB f b).cons = b.cons.map (mvC f) := rfl
  have e3 : allI (fun k s => sortM (mvB f b) k s) 0 (b.sorts.map (mvS f)) = allI (fun k s => sortM b k s) 0 b.sorts := by
    rw [allI_map]
    exact allI_congr fun j hj => by rw [rn_sort hf hc]
  have e4 : ((b.cons.map (mvC f)).any fun c => !conM (mvB f b) c) = b.cons.any fun c => !conM b c := by
    rw [List.any_map]
    congr 1
    funext c
    simp only [Function.comp_apply, rn_con hf hc]
  rw [checkB, checkB, e1, e2, List.length_map, List.length_map, e3, e4]
  rfl
end Ev
end Go.Proofs.Ythopdhnbflkabaa
