/- sig, in plain terms: what is told of a right block is formed, and closed. -/
import Derived.Test.YtjebpfhffenbnaaGreatH4
namespace Go.Proofs.YtjebpfhffenbnaaGreat
namespace Ev
open Go
set_option maxRecDepth 100000
set_option linter.unusedSimpArgs false
set_option linter.unusedVariables false
attribute [local simp] allD_map_d sks_map_d tk tn tks one_sos one_cos one_ars one_ts

theorem argM_plain {b : Bl} {a : Ar} {i : Int} (h : argM b a i = true) (hr : a.rc = false) : inM a.ty i = true := by
  rw [argM, hr] at h
  simp only [Bool.false_eq_true, if_false] at h
  split at h
  · assumption
  · cases h
theorem argM_rec {b : Bl} {a : Ar} {i : Int} (h : argM b a i = true) (hr : a.rc = true) (h0 : 0 ≤ i) (h1 : i ≤ 1000) : noneM a.ty = true ∧ 0 ≤ a.sort ∧ a.sort < b.sorts.length ∧ a.dom.length ≤ 12 ∧
    (∃ s, b.sorts[a.sort.toNat]? = some s ∧ a.idx.length = s.idx.length) ∧ (∀ (j : Nat) (hj : j < a.dom.length), inM a.dom[j] (i + j) = true) ∧ ∀ x ∈ a.idx, inM x (i + a.dom.length) = true := by
  rw [argM, hr] at h
  simp only [if_true] at h
  split at h
  · rename_i hn
    split at h
    · cases h
    · rename_i hd
      split at h
      · cases h
      · rename_i hs
        split at h
        · cases h
        · rename_i s hs2
          split at h
          · rename_i hl
            rw [Bool.and_eq_true] at h
            have hlt := (List.getElem?_eq_some_iff.1 hs2).1
            refine ⟨hn, by omega, by omega, by omega, ⟨s, hs2, by omega⟩, fun j hj => ?_, fun x hx => ?_⟩
            · have := (allI_iff _ _ 0).1 h.1 j hj
              rw [Nat.zero_add, w64_id (by omega) (by omega)] at this
              exact this
            · have h2 := h.2
              rw [w64_id (by omega) (by omega), allM, Bool.not_eq_true', List.any_eq_false] at h2
              have := h2 x hx
              simpa using this
          · cases h
  · cases h
theorem in_facts {t : T} {v : Int} (h : inM t v = true) (h0 : 0 ≤ v) (h1 : v ≤ 60000) (hn : nodes t ≤ 1048576) : wiT t v 65536 = true ∧ formedM t = true ∧ checkM t = 0 := by
  obtain ⟨h2, h3⟩ := (scope_is2 h0 (by omega) (by omega)).1 h
  exact ⟨h3, formed_of h2, h2⟩
theorem fmT_is {b : Bl} (hf : Fit b) {base k : Int} (h0 : 0 ≤ base) (h1 : base ≤ 60000) (k0 : 0 ≤ k) (k1 : k < b.sorts.length) : fmT b base k = tC (base + k) := by
  have hs := hf.s
  have e : former b base k = base + k := by rw [former_is hf h0 (by omega), if_pos ⟨k0, k1⟩]
  rw [fmT, e]
  split
  · rfl
  · rw [show base + k = 0 by omega]
theorem tC_formed {n : Int} (h : 0 ≤ n ∧ n ≤ 65535) : formedM (tC n) = true := leaf_formed (.inr rfl) h
theorem tC_wi {n v c : Int} (h : n < c) : wiT (tC n) v c = true := by simp [tC, wiT, h]
theorem nest_formed4 (l : List T) (t : T) (hl : ∀ x ∈ l, formedM x = true) (ht : formedM t = true) : formedM (nestT 4 l t) = true := by
  induction l with
  | nil => exact ht
  | cons a l ih =>
    show formedM (.mk 4 0 [a, nestT 4 l t]) = true
    rw [formedM_is]
    have h0 : kidsM 4 = 2 := rfl
    rw [h0]
    simp [hl a (by simp), ih fun x hx => hl x (by simp [hx])]
theorem sum_mem' {l : List T} {x : T} (h : x ∈ l) : nodes x ≤ (l.map nodes).sum := sum_mem (List.mem_map.2 ⟨x, h, rfl⟩)
theorem argTy_right {b : Bl} (hf : Fit b) {base : Int} (h0 : 0 ≤ base) (h1 : base ≤ 60000) {a : Ar} (fa : FineAr a) {i : Nat} (hi : i ≤ 1000) (h : argM b a i = true) : wiT (argTy b base a) i 65536 = true ∧ formedM (argTy b base a) = true := by
  have hfs := hf.s
  rw [argTy]
  split
  · rename_i hr
    obtain ⟨_, s0, s1, d1, _, hd, hx⟩ := argM_rec h hr (by omega) (by omega)
    rw [fmT_is hf h0 h1 s0 s1]
    have hd' : ∀ (j : Nat) (hj : j < a.dom.length), wiT a.dom[j] (i + j) 65536 = true ∧ formedM a.dom[j] = true := fun j hj => by
      obtain ⟨q1, q2, _⟩ := in_facts (hd j hj) (by omega) (by omega) (by have := sum_mem' (List.getElem_mem hj); have := fa.dom; omega)
      exact ⟨q1, q2⟩
    have hx' : ∀ x ∈ a.idx, wiT x (i + a.dom.length) 65536 = true ∧ formedM x = true := fun x hm => by
      obtain ⟨q1, q2, _⟩ := in_facts (hx x hm) (by omega) (by omega) (by have := sum_mem' hm; have := fa.idx; omega)
      exact ⟨q1, q2⟩
    refine ⟨nest_wi (.inl rfl) _ _ _ (fun j hj => (hd' j hj).1) ?_, nest_formed4 _ _ (fun x hm => ?_) (sp_formed _ _ (tC_formed (by omega)) fun x hm => (hx' x hm).2)⟩
    · rw [sp_wi, tC_wi (by omega), Bool.true_and, List.all_eq_true]
      exact fun x hm => (hx' x hm).1
    · obtain ⟨j, hj, rfl⟩ := List.mem_iff_getElem.1 hm
      exact (hd' j hj).2
  · rename_i hr
    have hr' : a.rc = false := by cases h' : a.rc <;> simp_all
    obtain ⟨q1, q2, _⟩ := in_facts (argM_plain h hr') (by omega) (by omega) (by have := fa.ty; omega)
    exact ⟨q1, q2⟩
theorem argTy_nodes {b : Bl} {base : Int} {a : Ar} (fa : FineAr a) : nodes (argTy b base a) ≤ 20000 := by
  have h1 := fa.ty
  have h2 := fa.dom
  have h3 := fa.domL
  have h4 := fa.idx
  have h5 := fa.idxL
  rw [argTy]
  split
  · rw [nest_nodes, sp_nodes', fmT, tC, leaf_nodes]
    omega
  · omega
theorem rowM_at {b : Bl} {l : List Ar} (h : rowM b l = true) : l.length ≤ 12 ∧ ∀ (j : Nat) (hj : j < l.length), argM b l[j] j = true := by
  rw [rowM] at h
  split at h
  · cases h
  · refine ⟨by omega, fun j hj => ?_⟩
    have := (allI_iff _ _ 0).1 h j hj
    rwa [Nat.zero_add] at this
end Ev
end Go.Proofs.YtjebpfhffenbnaaGreat
