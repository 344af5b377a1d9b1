/- TeleExact: the walk. -/
import Derived.Test.YtncmainjcffanaaNA
import Derived.Test.YtncmainjcffanaaN3
import Derived.Test.YtncmainjcffanaaQ3
import Derived.Test.YtncmainjcffanaaRA
namespace Go.Proofs.Ytncmainjcffanaa
namespace Ev
open Go
set_option maxRecDepth 100000
set_option linter.unusedSimpArgs false
set_option linter.unusedVariables false
attribute [local simp] allD_map_d sks_map_d tk tn tks
theorem Snd.seqF {nwI : Nw} {P : Program} {fn : Func} {res : List XRes} {w0 : World} {x y : XCode} {st : S} (F : S → Prop) (h : ∀ K : S → Prop, (∀ st', F st' → K st') → wpX P x (Ex.then K (Ends res [.bool true])) st) (k : ∀ st', F st' → Snd P fn res w0 y st') : Snd P fn res w0 (.seq x y) st := .seq (h _ k)
theorem rlams_ok (l : List T) (t : T) (hl : l.length ≤ 100000000) (ht : okT t) (hol : okTs l) : Pure Try.prog n_porismref01_Lams [eTs l, .agg (cT t)] [.agg (cT (nestT 5 l t))] := by
  refine p_porismref01_Lams rfl fun hs => ?_
  have h := rwrap_ok 5 l t hl ht hol
  simp only [cT, eTs] at h
  simp -dsimp [x_porismref01_Lams, cT, eTs]
  refine call_of h ?_
  simp -dsimp [cT]
theorem runspine_ok (t : T) (ho : okT t) (hb : (spA t).length ≤ 1000000) : Pure Try.prog n_porismref01_Unspine [.agg (cT t)] [.agg (cT (spH t)), eTs (spA t).reverse] := by
  have h := (runspine_own t ho hb).pure
  simpa [cT, eTs, RV.data, RC.data] using h
theorem rvarsI_ok (n : Int) (hn : n ≤ 65536) (hn' : -100000 ≤ n) : Pure Try.prog n_porismref01_Vars [.int .i64 n] [eTs (varsT n)] := by
  by_cases h0 : n < 1
  · have e : varsT n = [] := by simp [varsT, h0]
    rw [e]
    refine p_porismref01_Vars rfl fun hs => ?_
    have w0 : IntKind.i64.wrap (n - 1) = n - 1 := wrap_id (by omega) (by omega)
    simp -dsimp [x_porismref01_Vars, w0]
    refine wp_upto 0 (fun i st => st.s 2 = .rsl 2 1 ∧ st.h 2 = ⟨1, .row 3 [] false⟩ ∧ st.s 0 = .d (.int .i64 n) ∧ st.s 4 = .d (.int .i64 (n - 1)) ∧ st.s 3 = .rsl 3 1 ∧ st.h 3 = ⟨1, .row 3 [] false⟩) ?_ ?_
    · simp -dsimp
    · rintro i ⟨s, hp⟩ hi ⟨g1, g2, g3, g4, g5, g6⟩
      dsimp only at g1 g2 g3 g4 g5 g6
      have q1 : ¬ (0 : Int) ≤ n - 1 := by omega
      have q2 : ¬ (1 : Int) ≤ n := by omega
      simp -dsimp [g1, g2, g3, g4, g5, g6, q1, q2, eTs]
  · have e : varsT n = varsN n.toNat := by simp [varsT, h0]; omega
    have := rvars_ok n.toNat (by omega)
    rw [e]
    rwa [Int.toNat_of_nonneg (by omega)] at this
theorem nunspine_is (t : T) (ho : okT t) (hn : nodes t ≤ 1000000) : PureN Try.prog n_tele_Unspine [.agg (cT t)] [.agg (cT (spH t)), eTs (spA t).reverse] := by
  obtain ⟨h1, h2, h3, h4⟩ := sp_parts t ho
  exact nunspine_ok t (by omega) h1 (okTs_of (by simp; omega) (by simpa using h2))
theorem nunpis_is (t : T) (ho : okT t) (hn : nodes t ≤ 1000000) : PureN Try.prog n_tele_Unpis [.agg (cT t)] [eTs (piD t), .agg (cT (piB t))] := by
  obtain ⟨h1, h2, h3, h4⟩ := pi_parts t ho
  exact nunpis_ok t (by omega) h1 (okTs_of (by omega) h2)
theorem runpis_is (t : T) (ho : okT t) (hn : nodes t ≤ 1000000) : Pure Try.prog n_porismref01_Unpis [.agg (cT t)] [eTs (piD t), .agg (cT (piB t))] := by
  obtain ⟨h1, h2, h3, h4⟩ := pi_parts t ho
  exact runpis_ok t (by omega) h1 (okTs_of (by omega) h2)
theorem runspine_is (t : T) (ho : okT t) (hn : nodes t ≤ 1000000) : Pure Try.prog n_porismref01_Unspine [.agg (cT t)] [.agg (cT (spH t)), eTs (spA t).reverse] := by
  obtain ⟨h1, h2, h3, h4⟩ := sp_parts t ho
  exact runspine_ok t ho (by omega)
/-- The data that stands from the start. -/
def TE (q : D → AV) (l : List T) (t : T) (r : Int) (st : S) : Prop := st.s 0 = q (.sl 3 (l.map eT)) ∧ st.s 2 = .d (.int .i64 r) ∧ st.s 4 = .ptr 4 1 0 ∧ st.h 4 = ⟨1, .box [.d (.int .i64 t.kind), .d (.int .i64 t.num), q (.sl 3 (t.kids.map eT))] false⟩
def TE2 (q : D → AV) (l : List T) (t : T) (st : S) : Prop := st.s 7 = q (.sl 3 (l.map eT)) ∧ st.s 8 = .ptr 8 1 0 ∧ st.h 8 = ⟨1, .box [.d (.int .i64 t.kind), .d (.int .i64 t.num), q (.sl 3 (t.kids.map eT))] false⟩
def TB (j : Nat) (q : D → AV) (t : T) (st : S) : Prop := st.s j = .ptr j 1 0 ∧ st.h j = ⟨1, .box [.d (.int .i64 t.kind), .d (.int .i64 t.num), q (.sl 3 (t.kids.map eT))] false⟩
def VZ (js : List Nat) (st : S) : Prop := ∀ j ∈ js, (st.h j).ver = 0
theorem teleExact_law (l : List T) (t : T) (n : Int) (hn : nodes t ≤ 1048576) (hsm : (l.map nodes).sum ≤ 1048576) (ho : okT t) (hl : okTs l) : Pure Try.prog n_porismlaw06_TeleExact [eTs l, .agg (cT t), .int .i64 n] [.bool true] := by
  refine law_of hm Try.func3 c_porismlaw06_TeleExact rfl fun w0 => ?_
  have hres : x_porismlaw06_TeleExact.res = [XRes.tmp 6] := rfl
  rw [hres]
  have hh := heavy02_ok [t]
  have hh2 := heavy02_ok l
  simp only [eTs, List.map_cons, List.map_nil, eT_eq, cT] at hh
  simp only [eTs] at hh2
  refine Snd.seqF (fun st => TE .d l t n st ∧ VZ [8, 9, 10, 11, 12, 15, 16, 19] st) (fun K hK => ?_) ?_
  · simp -dsimp [cT]
    refine hK _ ?_
    simp -dsimp [TE, VZ, eTs]
  rintro ⟨s, hp⟩ ⟨⟨g1, g2, g3, g4⟩, hv⟩
  dsimp only at g1 g2 g3 g4
  have hv' := hv
  simp only [VZ, List.mem_cons, List.not_mem_nil, or_false, forall_eq_or_imp, forall_eq] at hv'
  obtain ⟨v1, v2, v3, v4, v5, v6, v7, v8⟩ := hv'
  refine Snd.seqF (fun st => TE .d l t n st ∧ VZ [8, 9, 10, 11, 12, 15, 16, 19] st ∧ heavy02 [t] = false ∧ heavy02 l = false) (fun K hK => ?_) ?_
  · simp -dsimp [g1, g2, g3, g4]
    refine call_of hh ?_
    simp -dsimp [g1, g2, g3, g4]
    (first | refine Ask_b ?_ ?_ | refine Cnd_b ?_ ?_) <;> intro h1 <;> (try simp only [nrm] at h1) <;> simp -dsimp [h1, g1, g2, g3, g4]
    refine call_of hh2 ?_
    simp -dsimp [h1, g1, g2, g3, g4]
    (first | refine Ask_b ?_ ?_ | refine Cnd_b ?_ ?_) <;> intro h2 <;> (try simp only [nrm] at h2) <;> simp -dsimp [h2, h1, g1, g2, g3, g4]
    refine hK _ ?_
    simp -dsimp [TE, VZ, h1, h2, g1, g2, g3, g4, v1, v2, v3, v4, v5, v6, v7, v8]
  clear v1 v2 v3 v4 v5 v6 v7 v8 g1 g2 g3 g4 hv
  rintro ⟨s, hp⟩ ⟨⟨g1, g2, g3, g4⟩, hv, h1, h2⟩
  dsimp only at g1 g2 g3 g4
  obtain ⟨r, hr, hr1, hr2⟩ : ∃ r, n.tmod 2000 = r ∧ -2000 ≤ r ∧ r ≤ 2000 := by
    refine ⟨_, rfl, ?_⟩
    have a1 := Int.tmod_lt_of_pos n (show (0 : Int) < 2000 by omega)
    have a2 := Int.lt_tmod_of_pos n (show (0 : Int) < 2000 by omega)
    omega
  refine Snd.seqF (fun st => TE .d l t r st ∧ VZ [8, 9, 10, 11, 12, 15, 16, 19] st) (fun K hK => ?_) ?_
  · simp -dsimp [g1, g2, g3, g4, hr]
    refine hK _ ⟨?_, hv⟩
    simp -dsimp [TE, g1, g2, g3, g4]
  clear g1 g2 g3 g4 hv
  rintro ⟨s, hp⟩ ⟨⟨g1, g2, g3, g4⟩, hv⟩
  dsimp only at g1 g2 g3 g4
  have hv' := hv
  simp only [VZ, List.mem_cons, List.not_mem_nil, or_false, forall_eq_or_imp, forall_eq] at hv'
  obtain ⟨v1, v2, v3, v4, v5, v6, v7, v8⟩ := hv'
  have tw := twin_ok t ho
  have tws := twins_ok l hl
  simp only [cT, eTs] at tw tws
  refine Snd.seqF (fun st => TE .d l t r st ∧ TE2 .d l t st ∧ VZ [9, 10, 11, 12, 15, 16, 19] st) (fun K hK => ?_) ?_
  · simp -dsimp [g1, g2, g3, g4]
    refine call_of tws ?_
    simp -dsimp [g1, g2, g3, g4]
    refine call_of tw ?_
    simp -dsimp [g1, g2, g3, g4, v1]
    refine hK _ ?_
    simp -dsimp [TE, TE2, VZ, g1, g2, g3, g4, v1, v2, v3, v4, v5, v6, v7, v8]
  clear v1 v2 v3 v4 v5 v6 v7 v8 g1 g2 g3 g4 hv
  rintro ⟨s, hp⟩ ⟨⟨g1, g2, g3, g4⟩, ⟨g5, g6, g7⟩, hv⟩
  dsimp only at g1 g2 g3 g4 g5 g6 g7
  refine Snd.cut fun m => ?_
  have hF : TE (.n false) l t r (oldS ⟨s, hp⟩) ∧ TE2 (.n false) l t (oldS ⟨s, hp⟩) ∧ VZ [9, 10, 11, 12, 15, 16, 19] (oldS ⟨s, hp⟩) := by
    refine ⟨?_, ?_, fun j hj => hv j hj⟩
    · simp [TE, oldS, oldE, oldA, D.flat, g1, g2, g3, g4]
    · simp [TE2, oldS, oldE, oldA, D.flat, g5, g6, g7]
  revert hF
  generalize oldS ⟨s, hp⟩ = st
  clear g1 g2 g3 g4 g5 g6 g7 hv
  obtain ⟨s, hp⟩ := st
  rintro ⟨⟨g1, g2, g3, g4⟩, ⟨g5, g6, g7⟩, hv⟩
  dsimp only at g1 g2 g3 g4 g5 g6 g7
  have hv' := hv
  simp only [VZ, List.mem_cons, List.not_mem_nil, or_false, forall_eq_or_imp, forall_eq] at hv'
  obtain ⟨v2, v3, v4, v5, v6, v7, v8⟩ := hv'
  obtain ⟨t1, _, t3⟩ := heavy_no (l := [t]) (by simpa using hn) h1
  obtain ⟨l1, _, l3⟩ := heavy_no hsm h2
  simp only [List.map_cons, List.map_nil, List.sum_cons, List.sum_nil] at t3
  have nP := npis_ok l t (by omega) ho hl
  have nL := nlams_ok l t (by omega) ho hl
  have nS := nspine_ok t l (by omega) ho hl
  have rP := rpis_ok l t (by omega) ho hl
  have rL := rlams_ok l t (by omega) ho hl
  have rS := rspine_ok t l (by omega) ho hl
  generalize nestT 4 l t = P at nP rP
  generalize nestT 5 l t = L at nL rL
  generalize spT t l = Q at nS rS
  simp only [cT, eTs] at nP nL nS rP rL rS
  refine Snd.seqF (fun st => TE (.n false) l t r st ∧ TE2 (.n false) l t st ∧ (TB 9 (.n true) P st ∧ TB 10 (.n true) L st ∧ TB 11 (.n true) Q st) ∧ VZ [12, 15, 16, 19] st) (fun K hK => ?_) ?_
  · simp -dsimp [g1, g2, g3, g4, g5, g6, g7]
    refine callN_of nP ?_
    simp -dsimp [g1, g2, g3, g4, g5, g6, g7]
    refine callN_of nL ?_
    simp -dsimp [g1, g2, g3, g4, g5, g6, g7]
    refine callN_of nS ?_
    simp -dsimp [g1, g2, g3, g4, g5, g6, g7, v2, v3, v4]
    refine hK _ ?_
    simp -dsimp [TE, TE2, TB, VZ, g1, g2, g3, g4, g5, g6, g7, v2, v3, v4, v5, v6, v7, v8]
  clear g1 g2 g3 g4 g5 g6 g7 hv v2 v3 v4 v5 v6 v7 v8
  rintro ⟨s, hp⟩ ⟨⟨g1, g2, g3, g4⟩, ⟨g5, g6, g7⟩, ⟨⟨a1, a2⟩, ⟨a3, a4⟩, a5, a6⟩, hv⟩
  dsimp only at g1 g2 g3 g4 g5 g6 g7 a1 a2 a3 a4 a5 a6
  have hv' := hv
  simp only [VZ, List.mem_cons, List.not_mem_nil, or_false, forall_eq_or_imp, forall_eq] at hv'
  obtain ⟨v5, v6, v7, v8⟩ := hv'
  have nU := nunspine_is t ho (by omega)
  have nV := nunpis_is t ho (by omega)
  have rU := runspine_is t ho (by omega)
  have rV := runpis_is t ho (by omega)
  generalize spH t = H at nU rU
  generalize (spA t).reverse = A at nU rU
  generalize piD t = D at nV rV
  generalize piB t = B at nV rV
  simp only [cT, eTs] at nU rU nV rV
  refine Snd.seqF (fun st => TE (.n false) l t r st ∧ TE2 (.n false) l t st ∧ (TB 9 (.n true) P st ∧ TB 10 (.n true) L st ∧ TB 11 (.n true) Q st) ∧ (TB 12 (.n true) H st ∧ st.s 13 = .n true (.sl 3 (A.map eT))) ∧ VZ [15, 16, 19] st) (fun K hK => ?_) ?_
  · simp -dsimp [g1, g2, g3, g4, g5, g6, g7, a1, a2, a3, a4, a5, a6]
    refine callN_of nU ?_
    simp -dsimp [g1, g2, g3, g4, g5, g6, g7, a1, a2, a3, a4, a5, a6, v5]
    refine hK _ ?_
    simp -dsimp [TE, TE2, TB, VZ, g1, g2, g3, g4, g5, g6, g7, a1, a2, a3, a4, a5, a6, v5, v6, v7, v8]
  clear g1 g2 g3 g4 g5 g6 g7 a1 a2 a3 a4 a5 a6 hv v5 v6 v7 v8
  rintro ⟨s, hp⟩ ⟨⟨g1, g2, g3, g4⟩, ⟨g5, g6, g7⟩, ⟨⟨a1, a2⟩, ⟨a3, a4⟩, a5, a6⟩, ⟨⟨b1, b2⟩, b3⟩, hv⟩
  dsimp only at g1 g2 g3 g4 g5 g6 g7 a1 a2 a3 a4 a5 a6 b1 b2 b3
  have hv' := hv
  simp only [VZ, List.mem_cons, List.not_mem_nil, or_false, forall_eq_or_imp, forall_eq] at hv'
  obtain ⟨v6, v7, v8⟩ := hv'
  refine Snd.seqF (fun st => TE (.n false) l t r st ∧ TE2 (.n false) l t st ∧ (TB 9 (.n true) P st ∧ TB 10 (.n true) L st ∧ TB 11 (.n true) Q st) ∧ (TB 12 (.n true) H st ∧ st.s 13 = .n true (.sl 3 (A.map eT))) ∧ (TB 15 (.n true) B st ∧ st.s 14 = .n true (.sl 3 (D.map eT))) ∧ VZ [16, 19] st) (fun K hK => ?_) ?_
  · simp -dsimp [g1, g2, g3, g4, g5, g6, g7, a1, a2, a3, a4, a5, a6, b1, b2, b3]
    refine callN_of nV ?_
    simp -dsimp [g1, g2, g3, g4, g5, g6, g7, a1, a2, a3, a4, a5, a6, b1, b2, b3, v6]
    refine hK _ ?_
    simp -dsimp [TE, TE2, TB, VZ, g1, g2, g3, g4, g5, g6, g7, a1, a2, a3, a4, a5, a6, b1, b2, b3, v6, v7, v8]
  clear g1 g2 g3 g4 g5 g6 g7 a1 a2 a3 a4 a5 a6 b1 b2 b3 hv v6 v7 v8
  rintro ⟨s, hp⟩ ⟨⟨g1, g2, g3, g4⟩, ⟨g5, g6, g7⟩, ⟨⟨a1, a2⟩, ⟨a3, a4⟩, a5, a6⟩, ⟨⟨b1, b2⟩, b3⟩, ⟨⟨b4, b5⟩, b6⟩, hv⟩
  dsimp only at g1 g2 g3 g4 g5 g6 g7 a1 a2 a3 a4 a5 a6 b1 b2 b3 b4 b5 b6
  have hv' := hv
  simp only [VZ, List.mem_cons, List.not_mem_nil, or_false, forall_eq_or_imp, forall_eq] at hv'
  obtain ⟨v7, v8⟩ := hv'
  refine Snd.seqF (fun st => TE (.n false) l t r st ∧ TE2 (.n false) l t st ∧ (TB 9 (.n true) P st ∧ TB 10 (.n true) L st ∧ TB 11 (.n true) Q st) ∧ (TB 12 (.n true) H st ∧ st.s 13 = .n true (.sl 3 (A.map eT))) ∧ (TB 15 (.n true) B st ∧ st.s 14 = .n true (.sl 3 (D.map eT))) ∧ (TB 16 .d H st ∧ st.s 17 = .d (.sl 3 (A.map eT))) ∧ VZ [19] st) (fun K hK => ?_) ?_
  · simp -dsimp [g1, g2, g3, g4, g5, g6, g7, a1, a2, a3, a4, a5, a6, b1, b2, b3, b4, b5, b6]
    refine call_of rU ?_
    simp -dsimp [g1, g2, g3, g4, g5, g6, g7, a1, a2, a3, a4, a5, a6, b1, b2, b3, b4, b5, b6, v7]
    refine hK _ ?_
    simp -dsimp [TE, TE2, TB, VZ, g1, g2, g3, g4, g5, g6, g7, a1, a2, a3, a4, a5, a6, b1, b2, b3, b4, b5, b6, v7, v8]
  clear g1 g2 g3 g4 g5 g6 g7 a1 a2 a3 a4 a5 a6 b1 b2 b3 b4 b5 b6 hv v7 v8
  rintro ⟨s, hp⟩ ⟨⟨g1, g2, g3, g4⟩, ⟨g5, g6, g7⟩, ⟨⟨a1, a2⟩, ⟨a3, a4⟩, a5, a6⟩, ⟨⟨b1, b2⟩, b3⟩, ⟨⟨b4, b5⟩, b6⟩, ⟨⟨c1, c2⟩, c3⟩, hv⟩
  dsimp only at g1 g2 g3 g4 g5 g6 g7 a1 a2 a3 a4 a5 a6 b1 b2 b3 b4 b5 b6 c1 c2 c3
  have v8 : (hp 19).ver = 0 := hv 19 (by simp)
  refine Snd.seqF (fun st => TE (.n false) l t r st ∧ TE2 (.n false) l t st ∧ (TB 9 (.n true) P st ∧ TB 10 (.n true) L st ∧ TB 11 (.n true) Q st) ∧ (TB 12 (.n true) H st ∧ st.s 13 = .n true (.sl 3 (A.map eT))) ∧ (TB 15 (.n true) B st ∧ st.s 14 = .n true (.sl 3 (D.map eT))) ∧ (TB 16 .d H st ∧ st.s 17 = .d (.sl 3 (A.map eT))) ∧ (TB 19 .d B st ∧ st.s 18 = .d (.sl 3 (D.map eT)))) (fun K hK => ?_) ?_
  · simp -dsimp [g1, g2, g3, g4, g5, g6, g7, a1, a2, a3, a4, a5, a6, b1, b2, b3, b4, b5, b6, c1, c2, c3]
    refine call_of rV ?_
    simp -dsimp [g1, g2, g3, g4, g5, g6, g7, a1, a2, a3, a4, a5, a6, b1, b2, b3, b4, b5, b6, c1, c2, c3, v8]
    refine hK _ ?_
    simp -dsimp [TE, TE2, TB, VZ, g1, g2, g3, g4, g5, g6, g7, a1, a2, a3, a4, a5, a6, b1, b2, b3, b4, b5, b6, c1, c2, c3, v8]
  clear g1 g2 g3 g4 g5 g6 g7 a1 a2 a3 a4 a5 a6 b1 b2 b3 b4 b5 b6 c1 c2 c3 hv v8
  rintro ⟨s, hp⟩ ⟨⟨g1, g2, g3, g4⟩, ⟨g5, g6, g7⟩, ⟨⟨a1, a2⟩, ⟨a3, a4⟩, a5, a6⟩, ⟨⟨b1, b2⟩, b3⟩, ⟨⟨b4, b5⟩, b6⟩, ⟨⟨c1, c2⟩, c3⟩, ⟨c4, c5⟩, c6⟩
  dsimp only at g1 g2 g3 g4 g5 g6 g7 a1 a2 a3 a4 a5 a6 b1 b2 b3 b4 b5 b6 c1 c2 c3 c4 c5 c6
  have kP := keepTerm_ok P
  have kL := keepTerm_ok L
  have kQ := keepTerm_ok Q
  have kH := keepTerm_ok H
  have kB := keepTerm_ok B
  have kA := keepTerms_ok A
  have kD := keepTerms_ok D
  have kV := keepTerms_ok (varsT r)
  have tV := vars_ok r
  have rW := rvarsI_ok r (by omega) (by omega)
  simp only [cT, eTs] at kP kL kQ kH kB kA kD kV tV rW
  refine Snd.seqF (fun st => TE (.n false) l t r st ∧ TE2 (.n false) l t st ∧ (TB 9 (.n true) P st ∧ TB 10 (.n true) L st ∧ TB 11 (.n true) Q st) ∧ (TB 12 (.n true) H st ∧ st.s 13 = .n true (.sl 3 (A.map eT))) ∧ (TB 15 (.n true) B st ∧ st.s 14 = .n true (.sl 3 (D.map eT)))) (fun K hK => ?_) ?_
  · simp -dsimp [g1, g2, g3, g4, g5, g6, g7, a1, a2, a3, a4, a5, a6, b1, b2, b3, b4, b5, b6, c1, c2, c3, c4, c5, c6]
    refine call_of rP ?_
    simp -dsimp [g1, g2, g3, g4, g5, g6, g7, a1, a2, a3, a4, a5, a6, b1, b2, b3, b4, b5, b6, c1, c2, c3, c4, c5, c6]
    refine call_of kP ?_
    simp -dsimp [g1, g2, g3, g4, g5, g6, g7, a1, a2, a3, a4, a5, a6, b1, b2, b3, b4, b5, b6, c1, c2, c3, c4, c5, c6]
    refine call_of rL ?_
    simp -dsimp [g1, g2, g3, g4, g5, g6, g7, a1, a2, a3, a4, a5, a6, b1, b2, b3, b4, b5, b6, c1, c2, c3, c4, c5, c6]
    refine call_of kL ?_
    simp -dsimp [g1, g2, g3, g4, g5, g6, g7, a1, a2, a3, a4, a5, a6, b1, b2, b3, b4, b5, b6, c1, c2, c3, c4, c5, c6]
    refine call_of rS ?_
    simp -dsimp [g1, g2, g3, g4, g5, g6, g7, a1, a2, a3, a4, a5, a6, b1, b2, b3, b4, b5, b6, c1, c2, c3, c4, c5, c6]
    refine call_of kQ ?_
    simp -dsimp [g1, g2, g3, g4, g5, g6, g7, a1, a2, a3, a4, a5, a6, b1, b2, b3, b4, b5, b6, c1, c2, c3, c4, c5, c6]
    refine call_of kH ?_
    simp -dsimp [g1, g2, g3, g4, g5, g6, g7, a1, a2, a3, a4, a5, a6, b1, b2, b3, b4, b5, b6, c1, c2, c3, c4, c5, c6]
    refine call_of kA ?_
    simp -dsimp [g1, g2, g3, g4, g5, g6, g7, a1, a2, a3, a4, a5, a6, b1, b2, b3, b4, b5, b6, c1, c2, c3, c4, c5, c6]
    refine call_of kD ?_
    simp -dsimp [g1, g2, g3, g4, g5, g6, g7, a1, a2, a3, a4, a5, a6, b1, b2, b3, b4, b5, b6, c1, c2, c3, c4, c5, c6]
    refine call_of kB ?_
    simp -dsimp [g1, g2, g3, g4, g5, g6, g7, a1, a2, a3, a4, a5, a6, b1, b2, b3, b4, b5, b6, c1, c2, c3, c4, c5, c6]
    refine call_of tV ?_
    simp -dsimp [g1, g2, g3, g4, g5, g6, g7, a1, a2, a3, a4, a5, a6, b1, b2, b3, b4, b5, b6, c1, c2, c3, c4, c5, c6]
    refine call_of rW ?_
    simp -dsimp [g1, g2, g3, g4, g5, g6, g7, a1, a2, a3, a4, a5, a6, b1, b2, b3, b4, b5, b6, c1, c2, c3, c4, c5, c6]
    refine call_of kV ?_
    simp -dsimp [g1, g2, g3, g4, g5, g6, g7, a1, a2, a3, a4, a5, a6, b1, b2, b3, b4, b5, b6, c1, c2, c3, c4, c5, c6]
    refine hK _ ?_
    simp -dsimp [TE, TE2, TB, VZ, g1, g2, g3, g4, g5, g6, g7, a1, a2, a3, a4, a5, a6, b1, b2, b3, b4, b5, b6, c1, c2, c3]
  clear g1 g2 g3 g4 g5 g6 g7 a1 a2 a3 a4 a5 a6 b1 b2 b3 b4 b5 b6 c1 c2 c3 c4 c5 c6
  rintro ⟨s, hp⟩ ⟨⟨g1, g2, g3, g4⟩, ⟨g5, g6, g7⟩, ⟨⟨a1, a2⟩, ⟨a3, a4⟩, a5, a6⟩, ⟨⟨b1, b2⟩, b3⟩, ⟨b4, b5⟩, b6⟩
  dsimp only at g1 g2 g3 g4 g5 g6 g7 a1 a2 a3 a4 a5 a6 b1 b2 b3 b4 b5 b6
  refine Spd.enter 116 ?_
  refine Spd.term (by omega) (by omega) (by omega) a1 a2 ?_
  refine Spd.term (by omega) (by omega) (by omega) a3 a4 ?_
  refine Spd.term (by omega) (by omega) (by omega) a5 a6 ?_
  refine Spd.term (by omega) (by omega) (by omega) b1 b2 ?_
  refine Spd.terms (by omega) (by omega) (by omega) b3 ?_
  refine Spd.terms (by omega) (by omega) (by omega) b6 ?_
  refine Spd.term (by omega) (by omega) (by omega) b4 b5 ?_
  refine Spd.leave ?_
  have hF : TE .d l t r (aftS 116 ⟨s, hp⟩) ∧ TE2 .d l t (aftS 116 ⟨s, hp⟩) := by
    refine ⟨?_, ?_⟩
    · simp [TE, aftS, aftE, newA', Ev.D.flat, g1, g2, g3, g4]
    · simp [TE2, aftS, aftE, newA', Ev.D.flat, g5, g6, g7]
  revert hF
  generalize aftS 116 ⟨s, hp⟩ = st
  clear g1 g2 g3 g4 g5 g6 g7 a1 a2 a3 a4 a5 a6 b1 b2 b3 b4 b5 b6
  obtain ⟨s, hp⟩ := st
  rintro ⟨⟨g1, g2, g3, g4⟩, g5, g6, g7⟩
  dsimp only at g1 g2 g3 g4 g5 g6 g7
  refine Snd.last ?_
  have kl := keepTerms_ok l
  have kt := keepTerm_ok t
  simp only [cT, eTs] at kl kt
  simp -dsimp [g1, g2, g3, g4, g5, g6, g7]
  refine call_of kl ?_
  simp -dsimp [g1, g2, g3, g4, g5, g6, g7]
  refine call_of kt ?_
  simp -dsimp [g1, g2, g3, g4, g5, g6, g7]
  refine call_of wakes06_ok ?_
  simp -dsimp [g1, g2, g3, g4, g5, g6, g7]
end Ev
end Go.Proofs.Ytncmainjcffanaa
