/- SigClosed. -/
import Derived.Test.YtjebpfhffenbnaaGreatH6
namespace Go.Proofs.YtjebpfhffenbnaaGreat
namespace Ev
open Go
set_option maxRecDepth 100000
set_option linter.unusedSimpArgs false
set_option linter.unusedVariables false
attribute [local simp] allD_map_d sks_map_d tk tn tks one_sos one_cos one_ars one_ts

theorem sp_kind (f : T) (l : List T) (h : f.kind ≠ 4) : (spT f l).kind ≠ 4 := by
  induction l generalizing f with
  | nil => exact h
  | cons a l ih => exact ih (.mk 6 0 [f, a]) (by show (6 : Int) ≠ 4; decide)
theorem okT_level {n : Int} (h : 0 ≤ n ∧ n ≤ 6) : okT (.mk 2 n []) := okT_leaf (by omega) (by omega)
/-- What comes of a former's type. -/
theorem ft_unpis {b : Bl} (ob : okBl b) (fb : FineBl b) (base : Int) {s : So} (hs : s ∈ b.sorts) (hl : levelM s.level = true) :
    Pure Tryz.prog n_porismref01_Unpis [.agg (cT (ftT b base s))] [eTs (s.idx.map (argTy b base)), .agg (cT (.mk 2 s.level []))] := by
  have hlen := (fb.sorts s hs).idx.1
  have e := pi_back (s.idx.map (argTy b base)) (.mk 2 s.level [])
  have e2 : piD (.mk 2 s.level []) = [] ∧ piB (.mk 2 s.level []) = .mk 2 s.level [] := pi_head (by show (2 : Int) ≠ 4; decide)
  rw [e2.1, e2.2, List.append_nil] at e
  have h := runpis_ok (ftT b base s) (by rw [ftT, e.1]; simp; omega) (by rw [ftT, e.2]; exact okT_level (level_is hl)) (by rw [ftT, e.1]; exact args_okTs b base (ob.sorts s hs).idx (fb.sorts s hs).idx)
  rw [show piD (ftT b base s) = s.idx.map (argTy b base) from e.1, show piB (ftT b base s) = .mk 2 s.level [] from e.2] at h
  exact h
theorem ct_unpis {b : Bl} (ob : okBl b) (fb : FineBl b) (base : Int) {c : Co} (hc : c ∈ b.cons) :
    Pure Tryz.prog n_porismref01_Unpis [.agg (cT (ctT b base c))] [eTs (c.args.map (argTy b base)), .agg (cT (spT (fmT b base c.sort) c.idx))] := by
  have hlen := (fb.cons c hc).args.1
  have e := pi_back (c.args.map (argTy b base)) (spT (fmT b base c.sort) c.idx)
  have e2 := pi_head (sp_kind (fmT b base c.sort) c.idx (by show (3 : Int) ≠ 4; decide))
  rw [e2.1, e2.2, List.append_nil] at e
  have h := runpis_ok (ctT b base c) (by rw [ctT, e.1]; simp; omega) (by rw [ctT, e.2]; exact sp_okT _ _ (fmT_ok _ _ _) (ob.cons c hc).idx.2) (by rw [ctT, e.1]; exact args_okTs b base (ob.cons c hc).args (fb.cons c hc).args)
  rw [show piD (ctT b base c) = c.args.map (argTy b base) from e.1, show piB (ctT b base c) = spT (fmT b base c.sort) c.idx from e.2] at h
  exact h
theorem sp_unspine (f : T) (l : List T) (h6 : f.kind ≠ 6) (hf : okT f) (hl : okTs l) (hb : l.length ≤ 1000) :
    OwnC Tryz.prog n_porismref01_Unspine [.agg (cT (spT f l))] [.agg [.d (.int .i64 f.kind), .d (.int .i64 f.num), .d (.sl 3 (f.kids.map eT))], .one (.row 3 (l.map eT) false)] := by
  have e := sp_back l f
  rw [(sp_head h6).1, (sp_head h6).2, List.append_nil] at e
  have h := runspine_own (spT f l) (sp_okT l f hf hl.2) (by rw [e.1]; simp; omega)
  rw [e.1, e.2, List.reverse_reverse] at h
  exact h
end Ev
end Go.Proofs.YtjebpfhffenbnaaGreat
