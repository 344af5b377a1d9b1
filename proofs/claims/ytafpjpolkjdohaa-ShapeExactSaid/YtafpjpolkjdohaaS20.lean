/- Which constant a number is: just one. -/
import Derived.Test.YtafpjpolkjdohaaS10
namespace Go.Proofs.Ytafpjpolkjdohaa
namespace Ev
open Go

theorem decs_mono (l : List So) {a c : Nat} (h : a ≤ c) : decs (l.take a) ≤ decs (l.take c) := by
  have h1 : (l.take a).Sublist (l.take c) := List.take_sublist_take_left h
  exact (h1.filter _).length_le
theorem dec_next (l : List So) {k : Nat} (hk : k < l.length) (hd : l[k].dec = true) : decs (l.take (k + 1)) = decs (l.take k) + 1 := by
  rw [decs_snoc l k l[k] (List.getElem?_eq_getElem hk), hd]
  rfl
theorem dec_one (l : List So) {k m : Nat} (hk : k < l.length) (hm : m < l.length) (hd : l[k].dec = true) (hd' : l[m].dec = true) (h : decs (l.take k) = decs (l.take m)) : k = m := by
  rcases Nat.lt_trichotomy k m with c | c | c
  · have := decs_mono l (show k + 1 ≤ m from c)
    rw [dec_next l hk hd] at this
    omega
  · exact c
  · have := decs_mono l (show m + 1 ≤ k from c)
    rw [dec_next l hm hd'] at this
    omega
theorem dec_in (l : List So) {k : Nat} (hk : k < l.length) (hd : l[k].dec = true) : decs (l.take k) + 1 ≤ decs l := by
  have := decs_mono l (show k + 1 ≤ l.length from hk)
  rw [dec_next l hk hd, List.take_length] at this
  exact this
theorem decoder_at {b : Bl} (hf : Fit b) {base : Int} (h0 : 0 ≤ base) (h1 : base ≤ 65535) {k n : Int} (hn : 0 ≤ n) (h : decoder b base k = n) :
    ∃ (j : Nat) (hj : j < b.sorts.length), k = j ∧ b.sorts[j].dec = true ∧ n = base + b.sorts.length + decs (b.sorts.take j) := by
  rw [decoder_is hf h0 h1] at h
  by_cases c : 0 ≤ k ∧ k < b.sorts.length
  · rw [dif_pos c] at h
    have hlt : k.toNat < b.sorts.length := by omega
    cases hd : b.sorts[k.toNat].dec with
    | true => rw [hd] at h; exact ⟨k.toNat, hlt, by omega, hd, by simpa using h.symm⟩
    | false => rw [hd] at h; simp at h; omega
  · rw [dif_neg c] at h; omega
theorem former_at {b : Bl} (hf : Fit b) {base : Int} (h0 : 0 ≤ base) (h1 : base ≤ 65535) {k n : Int} (hn : 0 ≤ n) (h : former b base k = n) : 0 ≤ k ∧ k < b.sorts.length ∧ n = base + k := by
  rw [former_is hf h0 h1] at h
  split at h <;> omega
theorem constructor_at {b : Bl} (hf : Fit b) {base : Int} (h0 : 0 ≤ base) (h1 : base ≤ 65535) {k n : Int} (hn : 0 ≤ n) (h : constructor_ b base k = n) : 0 ≤ k ∧ k < b.cons.length ∧ n = base + (b.sorts.length + decs b.sorts) + k := by
  rw [constructor_is hf h0 h1] at h
  split at h <;> omega
theorem eliminator_at {b : Bl} (hf : Fit b) {base : Int} (h0 : 0 ≤ base) (h1 : base ≤ 65535) {k n : Int} (hn : 0 ≤ n) (h : eliminator b base k = n) : 0 ≤ k ∧ k < b.sorts.length ∧ n = base + (b.sorts.length + decs b.sorts + b.cons.length) + k := by
  rw [eliminator_is hf h0 h1] at h
  split at h <;> omega
theorem off {b : Bl} {base : Int} (h : ¬(0 ≤ base ∧ base ≤ 65535)) (k : Int) : former b base k = -1 ∧ decoder b base k = -1 ∧ constructor_ b base k = -1 ∧ eliminator b base k = -1 := by
  refine ⟨?_, ?_, ?_, ?_⟩
  · rw [former, place, if_pos (by omega)]
  · rw [decoder]
    split
    · rfl
    · split
      · rfl
      · split
        · rw [place, if_pos (by omega)]
        · rfl
  · rw [constructor_, place, if_pos (by omega)]
  · rw [eliminator, place, if_pos (by omega)]
theorem of_at {b : Bl} (hf : Fit b) {base n : Int} (hn : 0 ≤ n) {e : En} (he : e ∈ tab b base) {k : Nat} (h : e.of k = n) : ofM b base n = (e.kind, (k : Int)) := by
  by_cases hb : 0 ≤ base ∧ base ≤ 65535
  · obtain ⟨h0, h1⟩ := hb
    have hs := hf.s
    have hc := hf.c
    have hd := decs_le b.sorts
    have hr : base ≤ n ∧ n < base + count b := by
      rw [count_is hf]
      simp only [tab, List.mem_cons, List.not_mem_nil, or_false] at he
      rcases he with rfl | rfl | rfl | rfl <;> simp only at h
      · have := former_at hf h0 h1 hn h; omega
      · obtain ⟨j, hj, _, hd1, hd2⟩ := decoder_at hf h0 h1 hn h
        have := dec_in b.sorts hj hd1
        omega
      · have := constructor_at hf h0 h1 hn h; omega
      · have := eliminator_at hf h0 h1 hn h; omega
    obtain ⟨e', he', k', _, g2, g3⟩ := of_in hf h0 h1 hr.1 hr.2
    rw [g3]
    simp only [tab, List.mem_cons, List.not_mem_nil, or_false] at he he'
    have D : ∀ {j : Nat} (hj : j < b.sorts.length), b.sorts[j].dec = true → decs (b.sorts.take j) + 1 ≤ decs b.sorts := fun hj hd1 => dec_in b.sorts hj hd1
    rcases he with rfl | rfl | rfl | rfl <;> rcases he' with rfl | rfl | rfl | rfl <;> simp only at h g2
    · have a1 := former_at hf h0 h1 hn h; have a2 := former_at hf h0 h1 hn g2
      have : k' = k := by omega
      subst this; rfl
    · have a1 := former_at hf h0 h1 hn h; obtain ⟨j, hj, _, hd1, hd2⟩ := decoder_at hf h0 h1 hn g2; omega
    · have a1 := former_at hf h0 h1 hn h; have a2 := constructor_at hf h0 h1 hn g2; omega
    · have a1 := former_at hf h0 h1 hn h; have a2 := eliminator_at hf h0 h1 hn g2; omega
    · obtain ⟨j, hj, _, hd1, hd2⟩ := decoder_at hf h0 h1 hn h; have a1 := former_at hf h0 h1 hn g2; omega
    · obtain ⟨j, hj, ej, hd1, hd2⟩ := decoder_at hf h0 h1 hn h; obtain ⟨i, hi, ei, he1, he2⟩ := decoder_at hf h0 h1 hn g2
      have : i = j := dec_one b.sorts hi hj he1 hd1 (by omega)
      have : k' = k := by omega
      subst this; rfl
    · obtain ⟨j, hj, _, hd1, hd2⟩ := decoder_at hf h0 h1 hn h; have a1 := constructor_at hf h0 h1 hn g2; have := D hj hd1; omega
    · obtain ⟨j, hj, _, hd1, hd2⟩ := decoder_at hf h0 h1 hn h; have a1 := eliminator_at hf h0 h1 hn g2; have := D hj hd1; omega
    · have a1 := constructor_at hf h0 h1 hn h; have a2 := former_at hf h0 h1 hn g2; omega
    · have a1 := constructor_at hf h0 h1 hn h; obtain ⟨j, hj, _, hd1, hd2⟩ := decoder_at hf h0 h1 hn g2; have := D hj hd1; omega
    · have a1 := constructor_at hf h0 h1 hn h; have a2 := constructor_at hf h0 h1 hn g2
      have : k' = k := by omega
      subst this; rfl
    · have a1 := constructor_at hf h0 h1 hn h; have a2 := eliminator_at hf h0 h1 hn g2; omega
    · have a1 := eliminator_at hf h0 h1 hn h; have a2 := former_at hf h0 h1 hn g2; omega
    · have a1 := eliminator_at hf h0 h1 hn h; obtain ⟨j, hj, _, hd1, hd2⟩ := decoder_at hf h0 h1 hn g2; have := D hj hd1; omega
    · have a1 := eliminator_at hf h0 h1 hn h; have a2 := constructor_at hf h0 h1 hn g2; omega
    · have a1 := eliminator_at hf h0 h1 hn h; have a2 := eliminator_at hf h0 h1 hn g2
      have : k' = k := by omega
      subst this; rfl
  · obtain ⟨o1, o2, o3, o4⟩ := off (b := b) hb (k : Int)
    simp only [tab, List.mem_cons, List.not_mem_nil, or_false] at he
    rcases he with rfl | rfl | rfl | rfl <;> simp only at h <;> omega
theorem of_former {b : Bl} (hf : Fit b) {base n : Int} (hn : 0 ≤ n) {k : Nat} (h : former b base k = n) : ofM b base n = (3, (k : Int)) := of_at hf hn (e := ⟨3, b.sorts.length, n_shape_Former, former b base⟩) (by simp [tab]) h
theorem of_decoder {b : Bl} (hf : Fit b) {base n : Int} (hn : 0 ≤ n) {k : Nat} (h : decoder b base k = n) : ofM b base n = (4, (k : Int)) := of_at hf hn (e := ⟨4, b.sorts.length, n_shape_Decoder, decoder b base⟩) (by simp [tab]) h
theorem of_constructor {b : Bl} (hf : Fit b) {base n : Int} (hn : 0 ≤ n) {k : Nat} (h : constructor_ b base k = n) : ofM b base n = (5, (k : Int)) := of_at hf hn (e := ⟨5, b.cons.length, n_shape_Constructor, constructor_ b base⟩) (by simp [tab]) h
theorem of_eliminator {b : Bl} (hf : Fit b) {base n : Int} (hn : 0 ≤ n) {k : Nat} (h : eliminator b base k = n) : ofM b base n = (6, (k : Int)) := of_at hf hn (e := ⟨6, b.sorts.length, n_shape_Eliminator, eliminator b base⟩) (by simp [tab]) h
/-- None of them. -/
theorem of_none {b : Bl} (hf : Fit b) {base n : Int} (hn : is64 n) (h : ∀ e ∈ tab b base, ∀ k : Nat, k < e.many → 0 ≤ n → e.of k ≠ n) : ofM b base n = (0, 0) := by
  by_cases hb : 0 ≤ base ∧ base ≤ 65535
  · by_cases hr : base ≤ n ∧ n < base + count b
    · obtain ⟨e, he, k, g1, g2, _⟩ := of_in hf hb.1 hb.2 hr.1 hr.2
      exact absurd g2 (h e he k g1 (by omega))
    · exact of_out hf hb.1 hn (by omega)
  · rw [ofM, if_pos (by omega)]
end Ev
end Go.Proofs.Ytafpjpolkjdohaa
