/- posit: a block with its last constructors left out. -/
import Derived.Test.YtjebpfhffenbnaaGreatO4
namespace Go.Proofs.YtjebpfhffenbnaaGreat
namespace Ev
open Go
set_option maxRecDepth 100000
set_option linter.unusedSimpArgs false
set_option linter.unusedVariables false
structure Few (b b' : Bl) (base : Int) (m : Int) : Prop where
  s : b'.sorts = b.sorts
  h0 : ∀ c, n64 c → (ofM b base c).1 = 0 → (ofM b' base c).1 = 0
  h4 : ∀ c, n64 c → (ofM b base c).1 = 4 → ofM b' base c = ofM b base c
  h5 : ∀ c, n64 c → (ofM b base c).1 = 5 → (ofM b base c).2 < m → ofM b' base c = ofM b base c
  c : ∀ j : Nat, (j : Int) < m → b'.cons[j]? = b.cons[j]?
theorem of_four {b : Bl} {base n : Int} (h : (ofM b base n).1 = 4) : ∃ k : Nat, k < b.sorts.length ∧ decoder b base k = n ∧ ofM b base n = (4, (k : Int)) := by
  have h0 := h
  rw [ofM] at h
  split at h
  · cases h
  rename_i hc
  cases hs : seek n (tab b base) with
  | none => rw [hs] at h; cases h
  | some q =>
    obtain ⟨e, he, k, hk, hn, rfl⟩ := seek_some hs
    rw [hs] at h
    simp only [Option.getD_some] at h
    have e0 : ofM b base n = (e.kind, (k : Int)) := by rw [ofM, if_neg hc, hs]; rfl
    rw [h] at e0
    simp only [tab, List.mem_cons, List.not_mem_nil, or_false] at he
    rcases he with rfl | rfl | rfl | rfl
    · cases h
    · exact ⟨k, hk, hn, e0⟩
    · cases h
    · cases h
theorem of_five {b : Bl} {base n : Int} (h : (ofM b base n).1 = 5) : ∃ k : Nat, k < b.cons.length ∧ constructor_ b base k = n ∧ ofM b base n = (5, (k : Int)) := by
  have h0 := h
  rw [ofM] at h
  split at h
  · cases h
  rename_i hc
  cases hs : seek n (tab b base) with
  | none => rw [hs] at h; cases h
  | some q =>
    obtain ⟨e, he, k, hk, hn, rfl⟩ := seek_some hs
    rw [hs] at h
    simp only [Option.getD_some] at h
    have e0 : ofM b base n = (e.kind, (k : Int)) := by rw [ofM, if_neg hc, hs]; rfl
    rw [h] at e0
    simp only [tab, List.mem_cons, List.not_mem_nil, or_false] at he
    rcases he with rfl | rfl | rfl | rfl
    · cases h
    · cases h
    · exact ⟨k, hk, hn, e0⟩
    · cases h
end Ev
end Go.Proofs.YtjebpfhffenbnaaGreat
