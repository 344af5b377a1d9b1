/- InstKids. -/
import Derived.Test.YtdobcpejfgpgoaaI7
namespace Go.Proofs.Ytdobcpejfgpgoaa
namespace Ev
open Go
set_option maxRecDepth 100000
set_option linter.unusedSimpArgs false
set_option linter.unusedVariables false
attribute [local simp ↓] wx_skip wx_region wx_seq wx_block wx_exit wx_ret wx_cond wx_loop wo_nil wo_run wo_ask wx_draw wt_nil wt_run_t wt_run_f wt_ask_t wt_ask_f rb_mv rb_nilrow rb_pick rb_alloc rb_box rb_load rb_store rb_nilck rb_bin rb_binb rb_un rb_conv rb_mkf rb_mks rb_slice rb_faddr rb_fld rb_iaddr rb_ext rb_len rb_app rb_mm rb_build rb_bslice run_callC upd_eq upd_ne
attribute [local simp] runB_some runB_none Tch_nil Tch_cons Chk_t Cnd_t Cnd_f Ask_tt Ask_ff Ask_tf Ask_ft Ask_skip act ev_t ev_c evs sks caps2 touch_call List.cons_append List.nil_append putS binI binB int_add int_sub int_mul int_quo int_rem int_or int_eql int_neq int_lss int_leq int_gtr int_geq shiftD Ex.then Ex.inBlock Ends resL resX allD toD_d toD_fsl sk_d sk_fsl none_ loadA cut wrapA wrapD avc_d avc_agg avc_fsl avc_rsl avc_ptr avc_eptr avc_clo dc_agg dc_int dc_bool dc_str dc_sl dc_nilp dc_rp dc_clo on_int on_bool on_str on_sl on_nilp on_rp on_clo on_fsl on_rsl on_ptr on_eptr on_cloA newE elemsA elemsS storeA put frz_nil deep callee resA initS touchOp fits compat rd wr key1 buildA partsD partsK idx frz_at Body.frz lk_hit lk_miss toD6_agg toD5_agg toD4_agg toD6_clo toD5_clo toD4_clo toD6_ptr toD5_ptr toD4_ptr sk6_agg sk5_agg sk4_agg sk6_clo sk5_clo sk4_clo sk6_ptr sk5_ptr sk4_ptr toD_rsl sk_rsl
attribute [local simp] allD_map_d sks_map_d tk tn tks

theorem map_shift (f g : Int → Int → T) (c : Int) (h : ∀ n b, g n b = f n (b + c)) (t : T) : ∀ b, mapT g t b = mapT f t (b + c) := by
  refine T.ind (p := fun t => ∀ b, mapT g t b = mapT f t (b + c)) ?_ t
  intro k n ks ih b
  rw [mapT, mapT]
  by_cases h1 : k = 1
  · rw [if_pos h1, if_pos h1, h]
  · rw [if_neg h1, if_neg h1]
    congr 1
    have go : ∀ (xs : List T) (i : Nat), (∀ x ∈ xs, x ∈ ks) → mapL g k b i xs = mapL f k (b + c) i xs := by
      intro xs
      induction xs with
      | nil => intro i _; simp [mapL]
      | cons x xs ihx =>
        intro i hm
        rw [mapL, mapL, ih x (hm x (by simp)), ihx (i + 1) fun y hy => hm y (by simp [hy])]
        have e : b + bindsM k i + c = b + c + bindsM k i := by omega
        rw [e]
    exact go ks 0 fun x hx => hx
theorem which_shift (len : Nat) (u n b c : Int) : whichT len (u + c) n b = whichT len u n (b + c) := by
  have e : u + c + b = u + (b + c) := by omega
  rw [whichT, whichT, e]
theorem instF_shift (l : List T) (u c n b : Int) : instF l (u + c) n b = instF l u n (b + c) := by
  have e : u + c + b = u + (b + c) := by omega
  rw [instF, instF, which_shift, e]
theorem sc_shift (l : List T) (u c : Int) (t : T) : ∀ b, scI l (u + c) t b = scI l u t (b + c) := by
  refine T.ind (p := fun t => ∀ b, scI l (u + c) t b = scI l u t (b + c)) ?_ t
  intro k n ks ih b
  rw [scI, scI, which_shift]
  have e : u + c + b = u + (b + c) := by omega
  rw [e]
  by_cases h1 : k = 1
  · rw [if_pos h1, if_pos h1]
  · rw [if_neg h1, if_neg h1]
    have go : ∀ (xs : List T) (i : Nat), (∀ x ∈ xs, x ∈ ks) → scL l (u + c) k b i xs = scL l u k (b + c) i xs := by
      intro xs
      induction xs with
      | nil => intro i _; simp [scL]
      | cons x xs ihx =>
        intro i hm
        rw [scL, scL, ih x (hm x (by simp)), ihx (i + 1) fun y hy => hm y (by simp [hy])]
        have e : b + bindsM k i + c = b + c + bindsM k i := by omega
        rw [e]
    exact go ks 0 fun x hx => hx
theorem scL_at (l : List T) (u k b : Int) : ∀ (xs : List T) (i j : Nat) (h : j < xs.length), scL l u k b i xs = false → scI l u xs[j] (b + bindsM k (i + j : Nat)) = false
  | x :: xs, i, 0, h, hs => by
    rw [scL, Bool.or_eq_false_iff] at hs
    simpa using hs.1
  | x :: xs, i, j + 1, h, hs => by
    rw [scL, Bool.or_eq_false_iff] at hs
    have := scL_at l u k b xs (i + 1) j (by simpa using h) hs.2
    simp only [List.getElem_cons_succ]
    rw [show i + (j + 1) = i + 1 + j by omega]
    exact this
theorem instT_kind {t : T} {l : List T} {u : Int} {k n : Int} {ks : List T} (ht : t = .mk k n ks) (hk : k ≠ 1) (h : instE t l u = 0) : instT t l u = .mk k n (mapL (instF l u) k 0 0 ks) := by
  rw [inst_at h, ht, mapT, if_neg hk]
/-- Kid by Kid. -/
theorem inst_kid {k n : Int} {ks : List T} {l : List T} {u : Int} (hk : k ≠ 1) (ht : nodes (.mk k n ks) ≤ 1048576) (hl : ∀ x ∈ l, nodes x ≤ 1048576) (hu : u ≤ 60000) (h : instE (.mk k n ks) l u = 0) (i : Nat) (hi : i < ks.length) :
    instE ks[i] l (u + bindsM k i) = 0 ∧ instT ks[i] l (u + bindsM k i) = (mapL (instF l u) k 0 0 ks)[i]'(by rw [mapL_len]; exact hi) := by
  have hkn := nodes_kid (k := k) (n := n) (List.getElem_mem hi)
  obtain ⟨h1, h2, h3, h4⟩ := (inst_iff ht hl).1 h
  obtain ⟨o1, o2, o3⟩ := (openE_iff _ _ _).1 h1
  obtain ⟨c1, c2, c3⟩ := (check_iff ht).1 o1
  have hb := binds_le k i
  have hmap : mapT (instF l (u + bindsM k i)) ks[i] 0 = (mapL (instF l u) k 0 0 ks)[i]'(by rw [mapL_len]; exact hi) := by
    rw [map_shift (instF l u) (instF l (u + bindsM k i)) (bindsM k i) (instF_shift l u (bindsM k i)), mapL_get _ _ _ _ _ _ hi, Nat.zero_add]
  have hmem : mapT (instF l (u + bindsM k i)) ks[i] 0 ∈ mapL (instF l u) k 0 0 ks := by rw [hmap]; exact List.getElem_mem _
  have hE : instE ks[i] l (u + bindsM k i) = 0 := by
    rw [inst_iff (by omega) hl]
    refine ⟨(openE_iff _ _ _).2 ⟨(check_iff (by omega)).2 ⟨by omega, ?_, kids_formed c3 _ (List.getElem_mem hi)⟩, o2, by omega⟩, ?_, ?_, ?_⟩
    · rw [depthN] at c2
      have := dmax_mem (List.mem_map.2 ⟨_, List.getElem_mem hi, rfl⟩ : depthN ks[i] ∈ ks.map depthN)
      omega
    · rw [sc_shift]
      rw [scI, if_neg hk] at h2
      have := scL_at l u k 0 ks 0 i hi h2
      rwa [Nat.zero_add] at this
    · rw [mapT, if_neg hk] at h3
      have := nodes_kid (k := k) (n := n) hmem
      omega
    · rw [mapT, if_neg hk, depthN] at h4
      have := dmax_mem (List.mem_map.2 ⟨_, hmem, rfl⟩ : depthN _ ∈ (mapL (instF l u) k 0 0 ks).map depthN)
      omega
  exact ⟨hE, by rw [inst_at hE, hmap]⟩
end Ev
end Go.Proofs.Ytdobcpejfgpgoaa
