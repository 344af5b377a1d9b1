/- pack.Put, bytes compared. -/
import Derived.Test.YtjebpfhffenbnaaZC
namespace Go.Proofs.Ytjebpfhffenbnaa
namespace Ev
open Go
set_option maxRecDepth 100000
set_option linter.unusedSimpArgs false
set_option linter.unusedVariables false
attribute [local simp] allD_map_d sks_map_d tk tn tks initA EndsM
def putB (b : List Int) (t : T) : List Int := if checkM t = 0 then b ++ pk t else []
theorem put_ok (b : List Int) (t : T) (hb : b.length ≤ 100000000) (hn : nodes t ≤ 100000000) : Pure Try.prog n_pack_Put [eB b, .agg (cT t)] [eB (putB b t), .int .i64 (checkM t)] := by
  refine p_pack_Put rfl fun hs => ?_
  simp -dsimp [x_pack_Put, cT, eB]
  have hC := check_ok t
  simp only [cT] at hC
  refine call_of hC ?_
  simp -dsimp
  (first | refine Ask_b ?_ ?_ | refine Cnd_b ?_ ?_) <;> intro g1 <;> (try simp only [decide_eq_true_eq, decide_eq_false_iff_not, beq_iff_eq, beq_eq_false_iff_ne, bne_iff_ne, bne_eq_false_iff_eq, Bool.not_eq_true', Bool.not_eq_false', Bool.and_eq_true, Bool.or_eq_true, Bool.and_eq_false_iff, Bool.or_eq_false_iff] at g1) <;> simp -dsimp [g1]
  · simp -dsimp [putB, g1]
  have hCl := clone_ok b (by omega)
  simp only [eB] at hCl
  refine callO_of hCl (by simp [rowsV, rowsC, RV.cells]) ?_
  simp -dsimp
  have hA := agg_argO (pre := [.rsl 13 1]) (post := []) (add_ok t 13 1 b false (by omega) (by omega))
  simp only [cT, List.map_cons, List.map_nil, List.cons_append, List.nil_append] at hA
  refine callMO_of hA ?_ (by simp [rowsV, rowsC, RV.cells]) ?_
  · simp -dsimp [kH]
  · simp -dsimp [mergeK_cons, mergeK_nil, dH, putB, g1]
end Ev
end Go.Proofs.Ytjebpfhffenbnaa
