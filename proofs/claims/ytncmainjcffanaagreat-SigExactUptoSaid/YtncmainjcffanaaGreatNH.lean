/- SigExact: each of the three types is the document's. -/
import Derived.Test.YtncmainjcffanaaGreatNF
namespace Go.Proofs.YtncmainjcffanaaGreat
namespace Ev
open Go
set_option maxRecDepth 100000
set_option linter.unusedSimpArgs false
set_option linter.unusedVariables false
theorem mayE_if {b : Bl} (hz : checkB b = 0) (base k many : Int) : mayE b base k many = if (0 ≤ base ∧ base ≤ 65535) ∧ 0 ≤ k ∧ k < many then 0 else 1 := by
  rw [mayE, if_pos hz]
  split <;> split <;> first | rfl | omega
theorem sameFg_ok (b : Bl) (hfit : Fit b) (ob : okBl b) (fb : FineBl b) (hz : checkB b = 0) (base k : Int) : Pure Tryz.prog n_porismlaw10_same [.agg (cT (ftR b base k)), .int .i64 (ftE b base k), .bool (decide ((0 ≤ base ∧ base ≤ 65535) ∧ 0 ≤ k ∧ k < b.sorts.length)), eBl b, .int .i64 base, .int .i64 k, .int .i64 3] [.bool true] := by
  by_cases hJ : (0 ≤ base ∧ base ≤ 65535) ∧ 0 ≤ k ∧ k < b.sorts.length
  · have hm : mayE b base k b.sorts.length = 0 := by rw [mayE_if hz, if_pos hJ]
    have hget : b.sorts[k.toNat]? = some b.sorts[k.toNat] := List.getElem?_eq_getElem (by omega)
    have h := rformerType_ok b hfit ob fb base k hJ.2.1 _ hget
    have hE : ftE b base k = checkM (ftT b base b.sorts[k.toNat]) := by rw [ftE, if_pos hm, hget]
    have hR : ftR b base k = rightT (ftT b base b.sorts[k.toNat]) := by rw [ftR, rightT, hE, hget]
    rw [decide_eq_true hJ, hE, hR]
    exact sameF_ok b base k _ _ h
  · have hm : mayE b base k b.sorts.length = 1 := by rw [mayE_if hz, if_neg hJ]
    have hE : ftE b base k = 1 := by rw [ftE, hm]; simp
    have hR : ftR b base k = zT := by rw [ftR, hE]; simp
    rw [decide_eq_false hJ, hE, hR]
    exact sameNo_ok b base k 3
theorem sameCg_ok (b : Bl) (hfit : Fit b) (ob : okBl b) (fb : FineBl b) (hz : checkB b = 0) (base k : Int) (hcs : ∀ c ∈ b.cons, 0 ≤ c.sort ∧ c.sort < b.sorts.length) (kind : Int) (h3 : kind ≠ 3) (h4 : kind ≠ 4) : Pure Tryz.prog n_porismlaw10_same [.agg (cT (ctR b base k)), .int .i64 (ctE b base k), .bool (decide ((0 ≤ base ∧ base ≤ 65535) ∧ 0 ≤ k ∧ k < b.cons.length)), eBl b, .int .i64 base, .int .i64 k, .int .i64 kind] [.bool true] := by
  by_cases hJ : (0 ≤ base ∧ base ≤ 65535) ∧ 0 ≤ k ∧ k < b.cons.length
  · have hm : mayE b base k b.cons.length = 0 := by rw [mayE_if hz, if_pos hJ]
    have hget : b.cons[k.toNat]? = some b.cons[k.toNat] := List.getElem?_eq_getElem (by omega)
    have h := rconType_ok b hfit ob fb base k hJ.1 hJ.2.1 _ hget (hcs _ (List.getElem_mem _))
    have hE : ctE b base k = checkM (ctT b base b.cons[k.toNat]) := by rw [ctE, if_pos hm, hget]
    have hR : ctR b base k = rightT (ctT b base b.cons[k.toNat]) := by rw [ctR, rightT, hE, hget]
    rw [decide_eq_true hJ, hE, hR]
    exact sameC_ok b base k _ _ h kind h3 h4
  · have hm : mayE b base k b.cons.length = 1 := by rw [mayE_if hz, if_neg hJ]
    have hE : ctE b base k = 1 := by rw [ctE, hm]; simp
    have hR : ctR b base k = zT := by rw [ctR, hE]; simp
    rw [decide_eq_false hJ, hE, hR]
    exact sameNo_ok b base k kind
theorem sameDg_ok (b : Bl) (hfit : Fit b) (ob : okBl b) (fb : FineBl b) (hz : checkB b = 0) (base k : Int) (m : Bool) (hm0 : ¬ ((0 ≤ base ∧ base ≤ 65535) ∧ 0 ≤ k ∧ k < b.sorts.length) → m = false) (hm1 : ((0 ≤ base ∧ base ≤ 65535) ∧ 0 ≤ k ∧ k < b.sorts.length) → ∀ s, b.sorts[k.toNat]? = some s → m = s.dec) :
    Pure Tryz.prog n_porismlaw10_same [.agg (cT (dtR b base k)), .int .i64 (dtE b base k), .bool m, eBl b, .int .i64 base, .int .i64 k, .int .i64 4] [.bool true] := by
  by_cases hJ : (0 ≤ base ∧ base ≤ 65535) ∧ 0 ≤ k ∧ k < b.sorts.length
  · have hm : mayE b base k b.sorts.length = 0 := by rw [mayE_if hz, if_pos hJ]
    have hget : b.sorts[k.toNat]? = some b.sorts[k.toNat] := List.getElem?_eq_getElem (by omega)
    rw [hm1 hJ _ hget]
    generalize b.sorts[k.toNat] = s at *
    have hE : dtE b base k = if s.dec = true then if shiftE s.dty 1 0 = 0 then checkM (dtT b base k s) else shiftE s.dty 1 0 else 1 := by rw [dtE, if_pos hm, hget]
    cases hd : s.dec with
    | false =>
      rw [hd, if_neg (by simp)] at hE
      have hR : dtR b base k = zT := by rw [dtR, hE]; simp
      rw [hE, hR]
      exact sameNo_ok b base k 4
    | true =>
      rw [hd, if_pos rfl] at hE
      have h := rdecoderType_ok b hfit ob fb base k hJ.1 hJ.2 s hget
      by_cases he : shiftE s.dty 1 0 = 0
      · rw [if_pos he] at hE
        rw [if_pos he, if_pos he] at h
        have hR : dtR b base k = rightT (dtT b base k s) := by rw [dtR, rightT, hE, hget]
        rw [hE, hR]
        exact sameD_ok b base k _ _ h
      · rw [if_neg he] at hE
        rw [if_neg he, if_neg he] at h
        have hR : dtR b base k = zT := by rw [dtR, hE, if_neg he]
        rw [hE, hR]
        exact sameD_ok b base k _ _ h
  · have hm : mayE b base k b.sorts.length = 1 := by rw [mayE_if hz, if_neg hJ]
    have hE : dtE b base k = 1 := by rw [dtE, hm]; simp
    have hR : dtR b base k = zT := by rw [dtR, hE]; simp
    rw [hm0 hJ, hE, hR]
    exact sameNo_ok b base k 4
end Ev
end Go.Proofs.YtncmainjcffanaaGreat
