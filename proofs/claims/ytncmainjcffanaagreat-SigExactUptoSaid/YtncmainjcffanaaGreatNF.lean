/- SigExact: what it leans on. -/
import Derived.Test.YtncmainjcffanaaGreatNE
import Derived.Test.YtncmainjcffanaaGreatNA
namespace Go.Proofs.YtncmainjcffanaaGreat
namespace Ev
open Go
set_option maxRecDepth 100000
set_option linter.unusedSimpArgs false
set_option linter.unusedVariables false
attribute [local simp] allD_map_d sks_map_d tk tn tks initA EndsM one_sos one_cos one_ars one_ts
theorem noneZ_ok (m : Nat) (hm : m ≤ 10) : Pure Tryz.prog n_porismlaw10_none [eTs (List.replicate m zT)] [.bool true] := by
  refine p_porismlaw10_none rfl fun hs => ?_
  have hz := keepTerm_ok zT
  simp only [cT, zT, tk, tn, tks, List.map_nil] at hz
  simp -dsimp [x_porismlaw10_none, eTs]
  refine wp_upto m (fun i st => st.s 0 = .d (.sl 3 ((List.replicate m zT).map eT)) ∧ st.s 3 = .d (.int .i64 i)) ?_ ?_
  · simp -dsimp
  · rintro i ⟨s, hp⟩ hi ⟨g1, g2⟩
    dsimp only at g1 g2
    rcases Nat.lt_or_ge i m with hlt | hge
    · have w1 : IntKind.i64.wrap ((i : Int) + 1) = (i : Int) + 1 := wrap_id (by omega) (by omega)
      simp -dsimp [g1, g2, hlt, eT_eq, cT, zT]
      refine call_of hz ?_
      simp -dsimp [g1, g2, hlt, w1, eT_eq, cT, zT]
    · have e : i = m := by omega
      subst e
      simp -dsimp [g1, g2]
theorem sameNo_ok (b : Bl) (base k kind : Int) : Pure Tryz.prog n_porismlaw10_same [.agg (cT zT), .int .i64 1, .bool false, eBl b, .int .i64 base, .int .i64 k, .int .i64 kind] [.bool true] := by
  refine p_porismlaw10_same rfl fun hs => ?_
  have hz := noneZ_ok 1 (by omega)
  simp only [eTs, List.replicate_one, List.map_cons, List.map_nil, eT_eq, cT, zT, tk, tn, tks] at hz
  simp -dsimp [x_porismlaw10_same, cT, zT, eBl, cBl]
  refine call_of hz ?_
  simp -dsimp
theorem sameF_ok (b : Bl) (base k : Int) (R : T) (E : Int) (h : Pure Tryz.prog n_porismref07_FormerType [eBl b, .int .i64 base, .int .i64 k] [.agg (cT R), .int .i64 E]) : Pure Tryz.prog n_porismlaw10_same [.agg (cT R), .int .i64 E, .bool true, eBl b, .int .i64 base, .int .i64 k, .int .i64 3] [.bool true] := by
  refine p_porismlaw10_same rfl fun hs => ?_
  have hk := keepTerm_ok R
  simp only [eBl, cBl, cT] at h hk
  simp -dsimp [x_porismlaw10_same, cT, eBl, cBl]
  refine call_of h ?_
  simp -dsimp [cT]
  refine call_of hk ?_
  simp -dsimp
theorem sameD_ok (b : Bl) (base k : Int) (R : T) (E : Int) (h : Pure Tryz.prog n_porismref07_DecoderType [eBl b, .int .i64 base, .int .i64 k] [.agg (cT R), .int .i64 E]) : Pure Tryz.prog n_porismlaw10_same [.agg (cT R), .int .i64 E, .bool true, eBl b, .int .i64 base, .int .i64 k, .int .i64 4] [.bool true] := by
  refine p_porismlaw10_same rfl fun hs => ?_
  have hk := keepTerm_ok R
  simp only [eBl, cBl, cT] at h hk
  simp -dsimp [x_porismlaw10_same, cT, eBl, cBl]
  refine call_of h ?_
  simp -dsimp [cT]
  refine call_of hk ?_
  simp -dsimp
theorem sameC_ok (b : Bl) (base k : Int) (R : T) (E : Int) (h : Pure Tryz.prog n_porismref07_ConType [eBl b, .int .i64 base, .int .i64 k] [.agg (cT R), .int .i64 E]) (kind : Int) (h3 : kind ≠ 3) (h4 : kind ≠ 4) : Pure Tryz.prog n_porismlaw10_same [.agg (cT R), .int .i64 E, .bool true, eBl b, .int .i64 base, .int .i64 k, .int .i64 kind] [.bool true] := by
  refine p_porismlaw10_same rfl fun hs => ?_
  have hk := keepTerm_ok R
  simp only [eBl, cBl, cT] at h hk
  simp -dsimp [x_porismlaw10_same, cT, eBl, cBl, h3, h4]
  refine call_of h ?_
  simp -dsimp [cT]
  refine call_of hk ?_
  simp -dsimp
end Ev
end Go.Proofs.YtncmainjcffanaaGreat
