/- SigClosed. -/
import Derived.Test.YtjebpfhffenbnaaGreatH6
namespace Go.Proofs.YtjebpfhffenbnaaGreat
namespace Ev
open Go
set_option maxRecDepth 100000
set_option linter.unusedSimpArgs false
set_option linter.unusedVariables false
attribute [local simp] allD_map_d sks_map_d tk tn tks one_sos one_cos one_ars one_ts

theorem sp_kind (f : T) (l : List T) (h : f.kind ≠ 4) : (spT f l).kind ≠ 4 := by
  induction l generalizing f with
  | nil => exact h
  | cons a l ih => exact ih (.mk 6 0 [f, a]) (by show (6 : Int) ≠ 4; decide)
theorem sp_unspine (f : T) (l : List T) (h6 : f.kind ≠ 6) (hf : okT f) (hl : okTs l) (hb : l.length ≤ 1000) :
    OwnC Tryz.prog n_porismref01_Unspine [.agg (cT (spT f l))] [.agg [.d (.int .i64 f.kind), .d (.int .i64 f.num), .d (.sl 3 (f.kids.map eT))], .one (.row 3 (l.map eT) false)] := by
  have e := sp_back l f
  rw [(sp_head h6).1, (sp_head h6).2, List.append_nil] at e
  have h := runspine_own (spT f l) (sp_okT l f hf hl.2) (by rw [e.1]; simp; omega)
  rw [e.1, e.2, List.reverse_reverse] at h
  exact h
end Ev
end Go.Proofs.YtjebpfhffenbnaaGreat
