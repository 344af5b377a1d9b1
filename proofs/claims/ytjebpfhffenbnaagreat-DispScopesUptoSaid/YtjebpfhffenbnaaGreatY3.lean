/- DispPlain. -/
import Derived.Test.YtjebpfhffenbnaaGreatY2
import Derived.Test.YtjebpfhffenbnaaGreatH7
namespace Go.Proofs.YtjebpfhffenbnaaGreat
namespace Ev
open Go
set_option maxRecDepth 100000
set_option linter.unusedSimpArgs false
set_option linter.unusedVariables false
section
attribute [local simp] allD_map_d sks_map_d tk tn tks initA EndsM one_sos one_cos one_ars one_ts
/-- A method's parts. -/
def metB (b : Bl) (base c : Int) (x : Co) (so : So) : T := spT (lv x.sort (metV b base c x).fin) (inT (metV b base c x) 9000 so x.idx x.args.length 0 (metV b base c x).fin ++ [spT (tC (constructor_ b base c)) ((metV b base c x).pos.map fun p => lv p (metV b base c x).fin)])
structure MetOk (b : Bl) (base c : Int) (x : Co) (so : So) : Prop where
  oL : ∀ y ∈ tyL (metV b base c x) 9000 0 x.args, okT y
  lL : (tyL (metV b base c x) 9000 0 x.args).length ≤ 40
  oJ : ∀ y ∈ inT (metV b base c x) 9000 so x.idx x.args.length 0 (metV b base c x).fin ++ [spT (tC (constructor_ b base c)) ((metV b base c x).pos.map fun p => lv p (metV b base c x).fin)], okT y
  lJ : (inT (metV b base c x) 9000 so x.idx x.args.length 0 (metV b base c x).fin).length ≤ 40
  oH : okT (lv x.sort (metV b base c x).fin)
  oO : ∀ y ∈ (metV b base c x).pos.map (fun p => lv p (metV b base c x).fin), okT y
theorem met_at {b : Bl} {base c : Int} (hp : positE 9000 b base = 0) (k0 : 0 ≤ c) {S : Co} (hk : b.cons[c.toNat]? = some S) {so : So} (hso : b.sorts[S.sort.toNat]? = some so) : metE b base c = checkM (metT b base c S so) ∧ metR b base c = rightT (metT b base c S so) := by
  have hlt := (List.getElem?_eq_some_iff.1 hk).1
  have hm : mayP b base c b.cons.length = 0 := by rw [mayP, if_neg (by omega), hp]
  have ha : metA b base c = some (metT b base c S so) := by rw [metA, hk]; simp only [hso]
  have e : metE b base c = checkM (metT b base c S so) := by rw [metE, if_pos hm, ha]
  exact ⟨e, by rw [metR, rightT, e, ha]; rfl⟩
end
end Ev
end Go.Proofs.YtjebpfhffenbnaaGreat
