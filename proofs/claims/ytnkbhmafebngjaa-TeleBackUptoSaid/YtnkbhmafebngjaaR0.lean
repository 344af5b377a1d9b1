/- Terms: small things. -/
import Derived.Test.YtnkbhmafebngjaaS16
import Derived.Test.YtnkbhmafebngjaaS14
import Derived.Test.YtnkbhmafebngjaaS15
namespace Go.Proofs.Ytnkbhmafebngjaa
namespace Ev
open Go
set_option linter.unusedSimpArgs false
theorem tk (k n : Int) (ks : List T) : (T.mk k n ks).kind = k := rfl
theorem tn (k n : Int) (ks : List T) : (T.mk k n ks).num = n := rfl
theorem tks (k n : Int) (ks : List T) : (T.mk k n ks).kids = ks := rfl
theorem fill_next {l : List D} {z : D} {i : Nat} (h : i < l.length) : (l.take i ++ List.replicate (l.length - i) z).set i l[i] = l.take (i + 1) ++ List.replicate (l.length - (i + 1)) z := by
  have e : l.length - i = (l.length - (i + 1)) + 1 := by omega
  rw [e, List.replicate_succ, List.set_append_right _ _ (by simp; omega)]
  have e2 : i - (l.take i).length = 0 := by simp; omega
  have e3 : l.take (i + 1) = l.take i ++ [l[i]] := by rw [List.take_add_one, List.getElem?_eq_getElem h]; rfl
  rw [e2, List.set_cons_zero, e3, List.append_assoc]
  rfl
end Ev
end Go.Proofs.Ytnkbhmafebngjaa
