/- What stands behind the closure that slices.Backward hands back. -/
import Derived.Test.YtnkbhmafebngjaaB3
namespace Go.Proofs.Ytnkbhmafebngjaa
namespace Ev
open Go Go.RowKit
set_option linter.unusedVariables false
set_option linter.unusedSimpArgs false

theorem clo_inv {St : Nat → Nat} {w : World} {v : Value} {f : FuncId} {l : List T} (h : Rel St w v (.clo f [.rp [eTs l]])) : ∃ Bs o A cap, ∃ vs : Nat → Nat → Value, v = .func (.func f) #[] #[.pointer (some ⟨Bs, o, none⟩)] ∧ o < St Bs ∧
    w.cell? ⟨Bs, o, none⟩ = some (.slice A l.length cap) ∧ (0 < l.length → ∃ b off, A = some ⟨b, off, none⟩ ∧ off + l.length * 3 ≤ St b ∧ ∀ i j, i < l.length → j < 3 → w.cell? ⟨b, off + i * 3 + j, none⟩ = some (vs i j)) ∧
    ∀ i (h : i < l.length), Rel St w (.agg #[vs i 0, vs i 1, vs i 2]) (.agg (cT l[i])) := by
  cases h with
  | clo _ us _ hn hr =>
    have h0 := hr 0 _ rfl
    have hs : us = #[us.getD 0 undef] := by
      have hn1 : us.size = 1 := by simpa using hn
      apply Array.ext
      · simp [hn1]
      · intro i h1 h2
        have : i = 0 := by omega
        subst this
        simp [Array.getD, hn1]
    rw [hs]
    generalize us.getD 0 undef = u at h0
    cases h0 with
    | rp b off _ hb val hv h1 hr =>
      have hv0 := hv 0 _ rfl
      have hr0 := hr 0 _ rfl
      rw [Nat.add_zero] at hv0
      generalize val 0 = x at hv0 hr0
      simp only [eTs] at hr0
      have hll : (l.map eT).length = l.length := List.length_map ..
      generalize hm : l.map eT = ml at hr0 hll
      cases hr0 with
      | sl A cap _ b' off' _ hc hm' hs' ha val' hv' h1' hr' =>
        refine ⟨b, off, A, cap, val', rfl, by simp at hb; omega, by rw [hv0, hll], fun hp => ?_, fun i hi => ?_⟩
        · obtain ⟨e1, e2⟩ := ha (by omega)
          refine ⟨b', off', e1, by rw [← hll]; exact e2, fun i j hi hj => ?_⟩
          have hg : ml[i]? = some (eT l[i]) := by rw [← hm, List.getElem?_map, List.getElem?_eq_getElem hi]; rfl
          have hj2 : j < (eT l[i]).cells.length := by rw [eT_cells]; simpa [cT] using hj
          exact hv' i _ hg j _ (List.getElem?_eq_getElem hj2)
        · have hg : ml[i]? = some (eT l[i]) := by rw [← hm, List.getElem?_map, List.getElem?_eq_getElem hi]; rfl
          refine .agg _ _ (by simp [cT]) fun j c hj => ?_
          have hj1 : (eT l[i]).cells[j]? = some c := by rw [eT_cells]; exact hj
          have hlt := (List.getElem?_eq_some_iff.1 hj).1
          have hjl : j < 3 := by simpa [cT] using hlt
          have := hr' i _ hg j c hj1
          match j, hjl with
          | 0, _ => exact this
          | 1, _ => exact this
          | 2, _ => exact this
end Ev
end Go.Proofs.Ytnkbhmafebngjaa
