/- sig, in plain terms: what is told of a right block is formed, and closed. -/
import Derived.Test.YtncmainjcffanaaGreatH4
namespace Go.Proofs.YtncmainjcffanaaGreat
namespace Ev
open Go
set_option maxRecDepth 100000
set_option linter.unusedSimpArgs false
set_option linter.unusedVariables false
attribute [local simp] allD_map_d sks_map_d tk tn tks one_sos one_cos one_ars one_ts

theorem argM_plain {b : Bl} {a : Ar} {i : Int} (h : argM b a i = true) (hr : a.rc = false) : inM a.ty i = true := by
  rw [argM, hr] at h
  simp only [Bool.false_eq_true, if_false] at h
  split at h
  · assumption
  · cases h
theorem argM_plain0 {b : Bl} {a : Ar} {i : Int} (h : argM b a i = true) (hr : a.rc = false) (hf : FineAr a) : a.dom = [] ∧ a.idx = [] ∧ a.sort = 0 := by
  rw [argM, hr] at h
  simp only [Bool.false_eq_true, if_false] at h
  have h1 := hf.domL
  have h2 := hf.idxL
  split at h
  · split at h
    · rename_i hw
      rw [w64_id (by omega) (by omega)] at hw
      exact ⟨List.eq_nil_of_length_eq_zero (by omega), List.eq_nil_of_length_eq_zero (by omega), by simpa using h⟩
    · cases h
  · cases h
theorem argM_rec {b : Bl} {a : Ar} {i : Int} (h : argM b a i = true) (hr : a.rc = true) (h0 : 0 ≤ i) (h1 : i ≤ 1000) : noneM a.ty = true ∧ 0 ≤ a.sort ∧ a.sort < b.sorts.length ∧ a.dom.length ≤ 12 ∧
    (∃ s, b.sorts[a.sort.toNat]? = some s ∧ a.idx.length = s.idx.length) ∧ (∀ (j : Nat) (hj : j < a.dom.length), inM a.dom[j] (i + j) = true) ∧ ∀ x ∈ a.idx, inM x (i + a.dom.length) = true := by
  rw [argM, hr] at h
  simp only [if_true] at h
  split at h
  · rename_i hn
    split at h
    · cases h
    · rename_i hd
      split at h
      · cases h
      · rename_i hs
        split at h
        · cases h
        · rename_i s hs2
          split at h
          · rename_i hl
            rw [Bool.and_eq_true] at h
            have hlt := (List.getElem?_eq_some_iff.1 hs2).1
            refine ⟨hn, by omega, by omega, by omega, ⟨s, hs2, by omega⟩, fun j hj => ?_, fun x hx => ?_⟩
            · have := (allI_iff _ _ 0).1 h.1 j hj
              rw [Nat.zero_add, w64_id (by omega) (by omega)] at this
              exact this
            · have h2 := h.2
              rw [w64_id (by omega) (by omega), allM, Bool.not_eq_true', List.any_eq_false] at h2
              have := h2 x hx
              simpa using this
          · cases h
  · cases h
theorem in_facts {t : T} {v : Int} (h : inM t v = true) (h0 : 0 ≤ v) (h1 : v ≤ 60000) (hn : nodes t ≤ 1048576) : wiT t v 65536 = true ∧ formedM t = true ∧ checkM t = 0 := by
  obtain ⟨h2, h3⟩ := (scope_is2 h0 (by omega) (by omega)).1 h
  exact ⟨h3, formed_of h2, h2⟩
theorem fmT_is {b : Bl} (hf : Fit b) {base k : Int} (h0 : 0 ≤ base) (h1 : base ≤ 60000) (k0 : 0 ≤ k) (k1 : k < b.sorts.length) : fmT b base k = tC (base + k) := by
  have hs := hf.s
  have e : former b base k = base + k := by rw [former_is hf h0 (by omega), if_pos ⟨k0, k1⟩]
  rw [fmT, e]
  split
  · rfl
  · rw [show base + k = 0 by omega]
theorem tC_formed {n : Int} (h : 0 ≤ n ∧ n ≤ 65535) : formedM (tC n) = true := leaf_formed (.inr rfl) h
theorem tC_wi {n v c : Int} (h : n < c) : wiT (tC n) v c = true := by simp [tC, wiT, h]
theorem nest_formed4 (l : List T) (t : T) (hl : ∀ x ∈ l, formedM x = true) (ht : formedM t = true) : formedM (nestT 4 l t) = true := by
  induction l with
  | nil => exact ht
  | cons a l ih =>
    show formedM (.mk 4 0 [a, nestT 4 l t]) = true
    rw [formedM_is]
    have h0 : kidsM 4 = 2 := rfl
    rw [h0]
    simp [hl a (by simp), ih fun x hx => hl x (by simp [hx])]
theorem sum_mem' {l : List T} {x : T} (h : x ∈ l) : nodes x ≤ (l.map nodes).sum := sum_mem (List.mem_map.2 ⟨x, h, rfl⟩)
theorem argTy_right {b : Bl} (hf : Fit b) {base : Int} (h0 : 0 ≤ base) (h1 : base ≤ 60000) {a : Ar} (fa : FineAr a) {i : Nat} (hi : i ≤ 1000) (h : argM b a i = true) : wiT (argTy b base a) i 65536 = true ∧ formedM (argTy b base a) = true := by
  have hfs := hf.s
  rw [argTy]
  split
  · rename_i hr
    obtain ⟨_, s0, s1, d1, _, hd, hx⟩ := argM_rec h hr (by omega) (by omega)
    rw [fmT_is hf h0 h1 s0 s1]
    have hd' : ∀ (j : Nat) (hj : j < a.dom.length), wiT a.dom[j] (i + j) 65536 = true ∧ formedM a.dom[j] = true := fun j hj => by
      obtain ⟨q1, q2, _⟩ := in_facts (hd j hj) (by omega) (by omega) (by have := sum_mem' (List.getElem_mem hj); have := fa.dom; omega)
      exact ⟨q1, q2⟩
    have hx' : ∀ x ∈ a.idx, wiT x (i + a.dom.length) 65536 = true ∧ formedM x = true := fun x hm => by
      obtain ⟨q1, q2, _⟩ := in_facts (hx x hm) (by omega) (by omega) (by have := sum_mem' hm; have := fa.idx; omega)
      exact ⟨q1, q2⟩
    refine ⟨nest_wi (.inl rfl) _ _ _ (fun j hj => (hd' j hj).1) ?_, nest_formed4 _ _ (fun x hm => ?_) (sp_formed _ _ (tC_formed (by omega)) fun x hm => (hx' x hm).2)⟩
    · rw [sp_wi, tC_wi (by omega), Bool.true_and, List.all_eq_true]
      exact fun x hm => (hx' x hm).1
    · obtain ⟨j, hj, rfl⟩ := List.mem_iff_getElem.1 hm
      exact (hd' j hj).2
  · rename_i hr
    have hr' : a.rc = false := by cases h' : a.rc <;> simp_all
    obtain ⟨q1, q2, _⟩ := in_facts (argM_plain h hr') (by omega) (by omega) (by have := fa.ty; omega)
    exact ⟨q1, q2⟩
theorem argTy_nodes {b : Bl} {base : Int} {a : Ar} (fa : FineAr a) : nodes (argTy b base a) ≤ 20000 := by
  have h1 := fa.ty
  have h2 := fa.dom
  have h3 := fa.domL
  have h4 := fa.idx
  have h5 := fa.idxL
  rw [argTy]
  split
  · rw [nest_nodes, sp_nodes', fmT, tC, leaf_nodes]
    omega
  · omega
theorem sum_le {l : List T} {m : Nat} (h : ∀ x ∈ l, nodes x ≤ m) : (l.map nodes).sum ≤ l.length * m := by
  induction l with
  | nil => simp
  | cons x l ih =>
    have h1 := h x (by simp)
    have h2 := ih fun y hy => h y (by simp [hy])
    simp only [List.map_cons, List.sum_cons, List.length_cons, Nat.succ_mul]
    omega
theorem argTys_nodes {b : Bl} {base : Int} {l : List Ar} (fl : FineArs l) : ((l.map (argTy b base)).map nodes).sum ≤ 400000 := by
  have := sum_le (l := l.map (argTy b base)) (m := 20000) fun x hx => by
    obtain ⟨a, ha, rfl⟩ := List.mem_map.1 hx
    exact argTy_nodes (fl.2 a ha)
  rw [List.length_map] at this
  have h1 := fl.1
  have : l.length * 20000 ≤ 20 * 20000 := Nat.mul_le_mul_right _ h1
  omega
theorem rowM_at {b : Bl} {l : List Ar} (h : rowM b l = true) : l.length ≤ 12 ∧ ∀ (j : Nat) (hj : j < l.length), argM b l[j] j = true := by
  rw [rowM] at h
  split at h
  · cases h
  · refine ⟨by omega, fun j hj => ?_⟩
    have := (allI_iff _ _ 0).1 h j hj
    rwa [Nat.zero_add] at this
theorem row_right {b : Bl} (hf : Fit b) {base : Int} (h0 : 0 ≤ base) (h1 : base ≤ 60000) {l : List Ar} (fl : FineArs l) (h : rowM b l = true) :
    (∀ (j : Nat) (hj : j < (l.map (argTy b base)).length), wiT (l.map (argTy b base))[j] (0 + j) 65536 = true) ∧ ∀ x ∈ l.map (argTy b base), formedM x = true := by
  obtain ⟨hl, ha⟩ := rowM_at h
  have key : ∀ (j : Nat) (hj : j < l.length), wiT (argTy b base l[j]) j 65536 = true ∧ formedM (argTy b base l[j]) = true := fun j hj => argTy_right hf h0 h1 (fl.2 _ (List.getElem_mem hj)) (by omega) (ha j hj)
  refine ⟨fun j hj => ?_, fun x hx => ?_⟩
  · rw [List.getElem_map, Int.zero_add]
    exact (key j (by simpa using hj)).1
  · obtain ⟨a, hm, rfl⟩ := List.mem_map.1 hx
    obtain ⟨j, hj, rfl⟩ := List.mem_iff_getElem.1 hm
    exact (key j hj).2
theorem level_is {n : Int} (h : levelM n = true) : 0 ≤ n ∧ n ≤ 6 := by
  simp only [levelM, Bool.and_eq_true, decide_eq_true_eq] at h
  exact h
/-- A former's type. -/
theorem ft_right {b : Bl} (hf : Fit b) {base : Int} (h0 : 0 ≤ base) (h1 : base ≤ 60000) {s : So} (fs : FineSo s) (hr : rowM b s.idx = true) (hl : levelM s.level = true) :
    wiT (ftT b base s) 0 65536 = true ∧ formedM (ftT b base s) = true ∧ nodes (ftT b base s) ≤ 500000 := by
  obtain ⟨r1, r2⟩ := row_right hf h0 h1 fs.idx hr
  obtain ⟨l0, l1⟩ := level_is hl
  have hlen := fs.idx.1
  have hn := argTys_nodes (b := b) (base := base) fs.idx
  refine ⟨nest_wi (.inl rfl) _ _ 0 r1 (by simp [wiT]; omega), nest_formed4 _ _ r2 ?_, ?_⟩
  · simp [formedM_is, kidsM, (inB_iff s.level 0 65535).2 (by omega)]
  · rw [ftT, nest_nodes, leaf_nodes, List.length_map]
    omega
/-- A constructor's type. -/
theorem ct_right {b : Bl} (hf : Fit b) {base : Int} (h0 : 0 ≤ base) (h1 : base ≤ 60000) {c : Co} (fc : FineCo c) (hc : conM b c = true) :
    wiT (ctT b base c) 0 65536 = true ∧ formedM (ctT b base c) = true ∧ nodes (ctT b base c) ≤ 500000 ∧ 0 ≤ c.sort ∧ c.sort < b.sorts.length := by
  rw [conM] at hc
  split at hc
  · cases hc
  rename_i hs0
  split at hc
  · rename_i hr
    split at hc
    · cases hc
    · rename_i s hs
      split at hc
      · split at hc
        · rename_i hal
          have hlt := (List.getElem?_eq_some_iff.1 hs).1
          obtain ⟨r1, r2⟩ := row_right hf h0 h1 fc.args hr
          have hfs := hf.s
          have hlen := fc.args.1
          have hil := fc.idxL
          have hid := fc.idx
          have hn := argTys_nodes (b := b) (base := base) fc.args
          rw [allM, Bool.not_eq_true', List.any_eq_false] at hal
          have hx : ∀ x ∈ c.idx, wiT x (c.args.length) 65536 = true ∧ formedM x = true := fun x hm => by
            have h2 := hal x hm
            obtain ⟨q1, q2, _⟩ := in_facts (t := x) (v := c.args.length) (by simpa using h2) (by omega) (by omega) (by have := sum_mem' hm; omega)
            exact ⟨q1, q2⟩
          rw [ctT, fmT_is hf h0 h1 (by omega) (by omega)]
          refine ⟨nest_wi (.inl rfl) _ _ 0 r1 ?_, nest_formed4 _ _ r2 (sp_formed _ _ (tC_formed (by omega)) fun x hm => (hx x hm).2), ?_, by omega, by omega⟩
          · rw [sp_wi, tC_wi (by omega), Bool.true_and, List.all_eq_true]
            intro x hm
            rw [List.length_map, Int.zero_add]
            exact (hx x hm).1
          · rw [nest_nodes, sp_nodes', tC, leaf_nodes, List.length_map]
            omega
        · cases hc
      · cases hc
  · cases hc
/-- A decoder's type. -/
theorem dt_right {b : Bl} (hf : Fit b) {base : Int} (h0 : 0 ≤ base) (h1 : base ≤ 60000) {s : So} (fs : FineSo s) {k : Int} (k0 : 0 ≤ k) (k1 : k < b.sorts.length) (hr : rowM b s.idx = true) (hd : inM s.dty s.idx.length = true) (he : shiftE s.dty 1 0 = 0) :
    wiT (dtT b base k s) 0 65536 = true ∧ nodes (dtT b base k s) ≤ 500000 := by
  obtain ⟨r1, r2⟩ := row_right hf h0 h1 fs.idx hr
  have hlen := fs.idx.1
  have hty := fs.dty
  have hfs := hf.s
  have hn := argTys_nodes (b := b) (base := base) fs.idx
  obtain ⟨q1, q2, _⟩ := in_facts hd (by omega) (by omega) (by omega)
  obtain ⟨_, _, sn⟩ := shift_right (by omega) he
  have hsh : shiftT s.dty 1 0 = mapT (mv 1) s.dty 0 := by rw [shift_at he, sh_mv (by omega) (by omega) _ q2 _ (by omega) (by omega)]
  have hw := wi_moved (V := s.idx.length) (b := 1) q2 (by omega) (by omega) (by omega) (by omega) q1
  have hv : ∀ x ∈ varsN s.idx.length, wiT x s.idx.length 65536 = true := fun x hx => by
    obtain ⟨i, hi, rfl⟩ := varsN_mem hx
    simp [wiT, tV]
    omega
  have hvn : ((varsN s.idx.length).map nodes).sum ≤ 20 := by
    have := sum_le (l := varsN s.idx.length) (m := 1) fun x hx => by
      obtain ⟨i, hi, rfl⟩ := varsN_mem hx
      rw [tV, leaf_nodes]
      omega
    rw [varsN_len] at this
    omega
  rw [dtT, fmT_is hf h0 h1 k0 k1]
  refine ⟨nest_wi (.inl rfl) _ _ 0 r1 ?_, ?_⟩
  · rw [List.length_map, Int.zero_add, wiT]
    have b0 : bindsM 4 0 = 0 := rfl
    have b1 : bindsM 4 1 = 1 := rfl
    have e1 : wiT (spT (tC (base + k)) (varsN s.idx.length)) ((s.idx.length : Int) + bindsM 4 (0 : Nat)) 65536 = true := by
      rw [show bindsM 4 ((0 : Nat) : Int) = 0 from rfl, Int.add_zero, sp_wi, tC_wi (by omega), Bool.true_and, List.all_eq_true]
      exact hv
    have e2 : wiT (shiftT s.dty 1 0) ((s.idx.length : Int) + bindsM 4 ((0 + 1 : Nat) : Int)) 65536 = true := by
      rw [show bindsM 4 ((0 + 1 : Nat) : Int) = 1 from rfl, hsh]
      exact hw
    rw [if_neg (by decide), if_neg (by decide), if_neg (by decide)]
    simp only [wiL, e1, e2, Bool.and_true]
  · rw [nest_nodes, nodes2, sp_nodes', sn, tC, leaf_nodes, List.length_map, varsN_len]
    omega
end Ev
end Go.Proofs.YtncmainjcffanaaGreat
