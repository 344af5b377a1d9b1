/- SigExact: the walk. -/
import Derived.Test.YtncmainjcffanaaGreatNH
import Derived.Test.YtncmainjcffanaaGreatH6
namespace Go.Proofs.YtncmainjcffanaaGreat
namespace Ev
open Go
set_option maxRecDepth 100000
set_option linter.unusedSimpArgs false
set_option linter.unusedVariables false
attribute [local simp] allD_map_d sks_map_d tk tn tks one_sos one_cos one_ars one_ts
theorem Snd.seqF {nwI : Nw} {P : Program} {fn : Func} {res : List XRes} {w0 : World} {x y : XCode} {st : S} (F : S → Prop) (h : ∀ K : S → Prop, (∀ st', F st' → K st') → wpX P x (Ex.then K (Ends res [.bool true])) st) (k : ∀ st', F st' → Snd P fn res w0 y st') : Snd P fn res w0 (.seq x y) st := .seq (h _ k)
theorem arg_arg {x : D} (h : TypD Tryz.prog 30 x) : ∃ a : Ar, x = .agg (cAr a) ∧ okAr a := by
  obtain ⟨⟨n, h1⟩, h2⟩ := h
  obtain ⟨a, ha, hq⟩ := typ_arg h1
  exact ⟨a, by rw [agg_of (h2.trans is_arg), ha], hq⟩
def VZ (js : List Nat) (st : S) : Prop := ∀ j ∈ js, (st.h j).ver = 0
def oneA (a : Ar) : Bl := ⟨[], [⟨0, [a], [], zT⟩], 0⟩
/-- The numbers, the block, the argument. -/
def SB (q : D → AV) (b : Bl) (a : Ar) (base k : Int) (st : S) : Prop := st.s 1 = .d (.int .i64 base) ∧ st.s 2 = .d (.int .i64 k) ∧ st.s 4 = .ptr 4 1 0 ∧ st.h 4 = ⟨1, .box [q (eSos b.sorts), q (eCos b.cons), .d (.int .i64 b.elim)] false⟩ ∧
  st.s 7 = .ptr 7 1 0 ∧ st.h 7 = ⟨1, .box [.d (.bool a.rc), .d (.int .i64 a.ty.kind), .d (.int .i64 a.ty.num), q (.sl 3 (a.ty.kids.map eT)), q (eTs a.dom), .d (.int .i64 a.sort), q (eTs a.idx)] false⟩
def SI (q : D → AV) (b : Bl) (st : S) : Prop := st.s 9 = .ptr 9 1 0 ∧ st.h 9 = ⟨1, .box [q (eSos b.sorts), q (eCos b.cons), .d (.int .i64 b.elim)] false⟩
def SO (j e : Nat) (q : D → AV) (t : T) (n : Int) (st : S) : Prop := st.s j = .ptr j 1 0 ∧ st.h j = ⟨1, .box [.d (.int .i64 t.kind), .d (.int .i64 t.num), q (.sl 3 (t.kids.map eT))] false⟩ ∧ st.s e = .d (.int .i64 n)
theorem sigExact_law (b : Bl) (a : Ar) (ob : okBl b) (oa : okAr a) (hb : bulk (eBl b) ≤ 1048576) (hba : bulk (.agg (cAr a)) ≤ 1048575) (base k : Int) : Pure Tryz.prog n_porismlaw10_SigExact [eBl b, .int .i64 base, .int .i64 k, .agg (cAr a)] [.bool true] := by
  refine law_of hm Tryz.func3 c_porismlaw10_SigExact rfl fun w0 => ?_
  have hres : x_porismlaw10_SigExact.res = [XRes.tmp 8] := rfl
  rw [hres]
  have hh := heavy07_ok b
  have hh2 := heavy07_ok (oneA a)
  generalize hg : heavy07 (oneA a) = z at hh2
  simp only [eBl, cBl] at hh
  simp only [oneA, eBl, cBl, eSos, eCos, List.map_cons, List.map_nil, eCo, cCo, eArs, eAr, cAr, cT, zT, eTs, tk, tn, tks, List.cons_append, List.nil_append] at hh2
  refine Snd.seqF (fun st => SB .d b a base k st ∧ VZ [9, 10, 12, 14, 16] st) (fun K hK => ?_) ?_
  · simp -dsimp [eBl, cBl, cAr, cT]
    refine hK _ ?_
    simp -dsimp [SB, VZ, eBl, cBl, eTs]
  rintro ⟨s, hp⟩ ⟨⟨g1, g2, g3, g4, g5, g6⟩, hv⟩
  dsimp only at g1 g2 g3 g4 g5 g6
  refine Snd.seqF (fun st => SB .d b a base k st ∧ VZ [9, 10, 12, 14, 16] st ∧ heavy07 b = false ∧ z = false) (fun K hK => ?_) ?_
  · simp -dsimp [g1, g2, g3, g4, g5, g6]
    refine call_of hh ?_
    simp -dsimp [g1, g2, g3, g4, g5, g6]
    (first | refine Ask_b ?_ ?_ | refine Cnd_b ?_ ?_) <;> intro h1 <;> (try simp only [nrm] at h1) <;> simp -dsimp [h1, g1, g2, g3, g4, g5, g6]
    refine call_of hh2 ?_
    simp -dsimp [h1, g1, g2, g3, g4, g5, g6]
    (first | refine Ask_b ?_ ?_ | refine Cnd_b ?_ ?_) <;> intro h2 <;> (try simp only [nrm] at h2) <;> simp -dsimp [h2, h1, g1, g2, g3, g4, g5, g6]
    refine hK _ ?_
    have hv' := hv
    simp only [VZ, List.mem_cons, List.not_mem_nil, or_false, forall_eq_or_imp, forall_eq] at hv'
    obtain ⟨v1, v2, v3, v4, v5⟩ := hv'
    simp -dsimp [SB, VZ, h1, h2, g1, g2, g3, g4, g5, g6, v1, v2, v3, v4, v5]
  clear g1 g2 g3 g4 g5 g6 hv
  rintro ⟨s, hp⟩ ⟨⟨g1, g2, g3, g4, g5, g6⟩, hv, h1, h2⟩
  dsimp only at g1 g2 g3 g4 g5 g6
  have hf := fit_of h1
  have fb := fine_of hb h1
  have fa : FineAr a := by
    have hgf := hg.trans h2
    simp only [heavy07, oneA, Bool.or_eq_false_iff, List.any_cons, List.any_nil, pCo] at hgf
    exact (fine_ars (l := [a]) (by
      simp only [eArs, List.map_cons, List.map_nil, eAr, bulk, List.sum_cons, List.sum_nil] at hba ⊢
      omega) hgf.2.1.1.1).2 a (List.mem_singleton.2 rfl)
  have tw := twinBlock_ok b ob
  simp only [eBl, cBl] at tw
  refine Snd.seqF (fun st => SB .d b a base k st ∧ SI .d b st ∧ VZ [10, 12, 14, 16] st) (fun K hK => ?_) ?_
  · have hv' := hv
    simp only [VZ, List.mem_cons, List.not_mem_nil, or_false, forall_eq_or_imp, forall_eq] at hv'
    obtain ⟨v1, v2, v3, v4, v5⟩ := hv'
    simp -dsimp [g1, g2, g3, g4, g5, g6]
    refine call_of tw ?_
    simp -dsimp [g1, g2, g3, g4, g5, g6, v1]
    refine hK _ ?_
    simp -dsimp [SB, SI, VZ, g1, g2, g3, g4, g5, g6, v1, v2, v3, v4, v5]
  clear g1 g2 g3 g4 g5 g6 hv
  rintro ⟨s, hp⟩ ⟨⟨g1, g2, g3, g4, g5, g6⟩, ⟨g7, g8⟩, hv⟩
  dsimp only at g1 g2 g3 g4 g5 g6 g7 g8
  refine Snd.cut fun m => ?_
  have hF : SB (.n false) b a base k (oldS ⟨s, hp⟩) ∧ SI (.n false) b (oldS ⟨s, hp⟩) ∧ VZ [10, 12, 14, 16] (oldS ⟨s, hp⟩) := by
    refine ⟨?_, ?_, fun j hj => hv j hj⟩
    · simp [SB, oldS, oldE, oldA, Ev.D.flat, g1, g2, g3, g4, g5, g6, eSos, eCos, eTs]
    · simp [SI, oldS, oldE, oldA, Ev.D.flat, g7, g8, eSos, eCos]
  revert hF
  generalize oldS ⟨s, hp⟩ = st
  clear g1 g2 g3 g4 g5 g6 g7 g8 hv
  obtain ⟨s, hp⟩ := st
  rintro ⟨⟨g1, g2, g3, g4, g5, g6⟩, ⟨g7, g8⟩, hv⟩
  dsimp only at g1 g2 g3 g4 g5 g6 g7 g8
  have hv' := hv
  simp only [VZ, List.mem_cons, List.not_mem_nil, or_false, forall_eq_or_imp, forall_eq] at hv'
  obtain ⟨v2, v3, v4, v5⟩ := hv'
  have nF := nformerType_ok b ob fb base k
  simp only [cT, eBl, cBl, eSos, eCos] at nF
  refine Snd.seqF (fun st => SB (.n false) b a base k st ∧ SI (.n false) b st ∧ SO 10 11 (.n true) (ftR b base k) (ftE b base k) st ∧ VZ [12, 14, 16] st) (fun K hK => ?_) ?_
  · simp -dsimp [g1, g2, g3, g4, g5, g6, g7, g8, eSos, eCos]
    refine callN_of nF ?_
    simp -dsimp [g1, g2, g3, g4, g5, g6, g7, g8, v2]
    refine hK _ ?_
    simp -dsimp [SB, SI, SO, VZ, g1, g2, g3, g4, g5, g6, g7, g8, v2, v3, v4, v5]
  clear g1 g2 g3 g4 g5 g6 g7 g8 hv v2 v3 v4 v5 nF
  rintro ⟨s, hp⟩ ⟨⟨g1, g2, g3, g4, g5, g6⟩, ⟨g7, g8⟩, ⟨a1, a2, a3⟩, hv⟩
  dsimp only at g1 g2 g3 g4 g5 g6 g7 g8 a1 a2 a3
  have hv' := hv
  simp only [VZ, List.mem_cons, List.not_mem_nil, or_false, forall_eq_or_imp, forall_eq] at hv'
  obtain ⟨v3, v4, v5⟩ := hv'
  have nD := decoderType_ok b ob fb base k
  simp only [cT, eBl, cBl, eSos, eCos] at nD
  refine Snd.seqF (fun st => SB (.n false) b a base k st ∧ SI (.n false) b st ∧ SO 10 11 (.n true) (ftR b base k) (ftE b base k) st ∧ SO 12 13 .d (dtR b base k) (dtE b base k) st ∧ VZ [14, 16] st) (fun K hK => ?_) ?_
  · simp -dsimp [g1, g2, g3, g4, g5, g6, g7, g8, a1, a2, a3, eSos, eCos]
    refine call_of nD ?_
    simp -dsimp [g1, g2, g3, g4, g5, g6, g7, g8, a1, a2, a3, v3]
    refine hK _ ?_
    simp -dsimp [SB, SI, SO, VZ, g1, g2, g3, g4, g5, g6, g7, g8, a1, a2, a3, v3, v4, v5]
  clear g1 g2 g3 g4 g5 g6 g7 g8 a1 a2 a3 hv v3 v4 v5 nD
  rintro ⟨s, hp⟩ ⟨⟨g1, g2, g3, g4, g5, g6⟩, ⟨g7, g8⟩, ⟨a1, a2, a3⟩, ⟨b1, b2, b3⟩, hv⟩
  dsimp only at g1 g2 g3 g4 g5 g6 g7 g8 a1 a2 a3 b1 b2 b3
  have hv' := hv
  simp only [VZ, List.mem_cons, List.not_mem_nil, or_false, forall_eq_or_imp, forall_eq] at hv'
  obtain ⟨v4, v5⟩ := hv'
  have nC := nconType_ok b ob fb base k
  simp only [cT, eBl, cBl, eSos, eCos] at nC
  refine Snd.seqF (fun st => SB (.n false) b a base k st ∧ SI (.n false) b st ∧ SO 10 11 (.n true) (ftR b base k) (ftE b base k) st ∧ SO 12 13 .d (dtR b base k) (dtE b base k) st ∧ SO 14 15 (.n true) (ctR b base k) (ctE b base k) st ∧ VZ [16] st) (fun K hK => ?_) ?_
  · simp -dsimp [g1, g2, g3, g4, g5, g6, g7, g8, a1, a2, a3, b1, b2, b3, eSos, eCos]
    refine callN_of nC ?_
    simp -dsimp [g1, g2, g3, g4, g5, g6, g7, g8, a1, a2, a3, b1, b2, b3, v4]
    refine hK _ ?_
    simp -dsimp [SB, SI, SO, VZ, g1, g2, g3, g4, g5, g6, g7, g8, a1, a2, a3, b1, b2, b3, v4, v5]
  clear g1 g2 g3 g4 g5 g6 g7 g8 a1 a2 a3 b1 b2 b3 hv v4 v5 nC
  rintro ⟨s, hp⟩ ⟨⟨g1, g2, g3, g4, g5, g6⟩, ⟨g7, g8⟩, ⟨a1, a2, a3⟩, ⟨b1, b2, b3⟩, ⟨c1, c2, c3⟩, hv⟩
  dsimp only at g1 g2 g3 g4 g5 g6 g7 g8 a1 a2 a3 b1 b2 b3 c1 c2 c3
  have v5 : (hp 16).ver = 0 := hv 16 (by simp)
  have nA := argType_ok b base a oa fa
  have rA := rargType_ok b hf base a oa fa
  have kA := keepTerm_ok (argTy b base a)
  have kB := keepBlock_ok b
  generalize argTy b base a = A at nA rA kA
  simp only [cT, cAr, eTs, eBl, cBl, eSos, eCos, List.cons_append, List.nil_append] at nA rA kA kB
  refine Snd.seqF (fun st => SB (.n false) b a base k st ∧ SI (.n false) b st ∧ SO 10 11 (.n true) (ftR b base k) (ftE b base k) st ∧ SO 12 13 .d (dtR b base k) (dtE b base k) st ∧ SO 14 15 (.n true) (ctR b base k) (ctE b base k) st ∧ (st.s 16 = .ptr 16 1 0 ∧ st.h 16 = ⟨1, .box [.d (.int .i64 A.kind), .d (.int .i64 A.num), .d (.sl 3 (A.kids.map eT))] false⟩)) (fun K hK => ?_) ?_
  · simp -dsimp [g1, g2, g3, g4, g5, g6, g7, g8, a1, a2, a3, b1, b2, b3, c1, c2, c3, eSos, eCos, eTs]
    refine call_of nA ?_
    simp -dsimp [g1, g2, g3, g4, g5, g6, g7, g8, a1, a2, a3, b1, b2, b3, c1, c2, c3, v5]
    refine hK _ ?_
    simp -dsimp [SB, SI, SO, VZ, g1, g2, g3, g4, g5, g6, g7, g8, a1, a2, a3, b1, b2, b3, c1, c2, c3, v5]
  clear g1 g2 g3 g4 g5 g6 g7 g8 a1 a2 a3 b1 b2 b3 c1 c2 c3 hv v5 nA
  rintro ⟨s, hp⟩ ⟨⟨g1, g2, g3, g4, g5, g6⟩, ⟨g7, g8⟩, ⟨a1, a2, a3⟩, ⟨b1, b2, b3⟩, ⟨c1, c2, c3⟩, d1, d2⟩
  dsimp only at g1 g2 g3 g4 g5 g6 g7 g8 a1 a2 a3 b1 b2 b3 c1 c2 c3 d1 d2
  refine Snd.seqF (fun st => SB (.n false) b a base k st ∧ SI (.n false) b st ∧ SO 10 11 (.n true) (ftR b base k) (ftE b base k) st ∧ SO 12 13 .d (dtR b base k) (dtE b base k) st ∧ SO 14 15 (.n true) (ctR b base k) (ctE b base k) st) (fun K hK => ?_) ?_
  · simp -dsimp [g1, g2, g3, g4, g5, g6, g7, g8, a1, a2, a3, b1, b2, b3, c1, c2, c3, d1, d2, eSos, eCos, eTs]
    refine call_of kB ?_
    simp -dsimp [g1, g2, g3, g4, g5, g6, g7, g8, a1, a2, a3, b1, b2, b3, c1, c2, c3, d1, d2, eSos, eCos, eTs]
    refine call_of rA ?_
    simp -dsimp [g1, g2, g3, g4, g5, g6, g7, g8, a1, a2, a3, b1, b2, b3, c1, c2, c3, d1, d2, eSos, eCos, eTs]
    refine call_of kA ?_
    simp -dsimp [g1, g2, g3, g4, g5, g6, g7, g8, a1, a2, a3, b1, b2, b3, c1, c2, c3, d1, d2, eSos, eCos, eTs]
    refine hK _ ?_
    simp -dsimp [SB, SI, SO, g1, g2, g3, g4, g5, g6, g7, g8, a1, a2, a3, b1, b2, b3, c1, c2, c3, eSos, eCos, eTs]
  clear g1 g2 g3 g4 g5 g6 g7 g8 a1 a2 a3 b1 b2 b3 c1 c2 c3 d1 d2
  rintro ⟨s, hp⟩ ⟨⟨g1, g2, g3, g4, g5, g6⟩, ⟨g7, g8⟩, ⟨a1, a2, a3⟩, ⟨b1, b2, b3⟩, c1, c2, c3⟩
  dsimp only at g1 g2 g3 g4 g5 g6 g7 g8 a1 a2 a3 b1 b2 b3 c1 c2 c3
  have hSh := shape7_ok b
  simp only [eBl, cBl, eSos, eCos] at hSh
  have hN := noneZ_ok 3 (by omega)
  simp only [List.replicate, eTs, List.map_cons, List.map_nil, eT_eq, cT, zT, tk, tn, tks] at hN
  refine Snd.seqF (fun st => SB (.n false) b a base k st ∧ SI (.n false) b st ∧ SO 10 11 (.n true) (ftR b base k) (ftE b base k) st ∧ SO 12 13 .d (dtR b base k) (dtE b base k) st ∧ SO 14 15 (.n true) (ctR b base k) (ctE b base k) st ∧ shapeR b = true) (fun K hK => ?_) ?_
  · simp -dsimp [g1, g2, g3, g4, g5, g6, g7, g8, a1, a2, a3, b1, b2, b3, c1, c2, c3, eSos, eCos, eTs]
    refine call_of hSh ?_
    by_cases h3 : shapeR b = true
    · simp -dsimp [g1, g2, g3, g4, g5, g6, g7, g8, a1, a2, a3, b1, b2, b3, c1, c2, c3, h3]
      refine hK _ ?_
      simp -dsimp [SB, SI, SO, g1, g2, g3, g4, g5, g6, g7, g8, a1, a2, a3, b1, b2, b3, c1, c2, c3, h3, eSos, eCos, eTs]
    · have h3' : shapeR b = false := by simpa using h3
      have z := checkB_two b
      rw [h3'] at z
      simp only [Bool.false_eq_true, if_false] at z
      have m1 : ∀ many, mayE b base k many = 12 := fun many => by rw [mayE, z]; simp
      have e1 : ftE b base k = 12 := by rw [ftE, m1]; simp
      have e2 : dtE b base k = 12 := by rw [dtE, m1]; simp
      have e3 : ctE b base k = 12 := by rw [ctE, m1]; simp
      have r1 : ftR b base k = zT := by rw [ftR, e1]; simp
      have r2 : dtR b base k = zT := by rw [dtR, e2]; simp
      have r3 : ctR b base k = zT := by rw [ctR, e3]; simp
      rw [e1] at a3
      rw [e2] at b3
      rw [e3] at c3
      rw [r1] at a2
      rw [r2] at b2
      rw [r3] at c2
      simp only [zT, tk, tn, tks, List.map_nil] at a2 b2 c2
      simp -dsimp [g1, g2, g3, g4, g5, g6, g7, g8, a1, a2, a3, b1, b2, b3, c1, c2, c3, h3']
      refine call_of hN ?_
      simp -dsimp [g1, g2, g3, g4, g5, g6, g7, g8, a1, a2, a3, b1, b2, b3, c1, c2, c3, h3']
      refine call_of wakes10_ok ?_
      simp -dsimp [g1, g2, g3, g4, g5, g6, g7, g8, a1, a2, a3, b1, b2, b3, c1, c2, c3, h3']
  clear g1 g2 g3 g4 g5 g6 g7 g8 a1 a2 a3 b1 b2 b3 c1 c2 c3
  rintro ⟨s, hp⟩ ⟨⟨g1, g2, g3, g4, g5, g6⟩, ⟨g7, g8⟩, ⟨a1, a2, a3⟩, ⟨b1, b2, b3⟩, ⟨c1, c2, c3⟩, h3⟩
  dsimp only at g1 g2 g3 g4 g5 g6 g7 g8 a1 a2 a3 b1 b2 b3 c1 c2 c3
  refine Snd.seqF (fun st => SB (.n false) b a base k st ∧ SI (.n false) b st ∧ SO 10 11 (.n true) (ftR b base k) (ftE b base k) st ∧ SO 12 13 .d (dtR b base k) (dtE b base k) st ∧ SO 14 15 (.n true) (ctR b base k) (ctE b base k) st ∧ st.s 17 = .d (.bool (decide (0 ≤ base ∧ base ≤ 65535)))) (fun K hK => ?_) ?_
  · by_cases h4 : 0 ≤ base
    · by_cases h5 : base ≤ 65535
      · simp -dsimp [g1, g2, g3, g4, g5, g6, g7, g8, a1, a2, a3, b1, b2, b3, c1, c2, c3, h4, h5]
        refine hK _ ?_
        simp -dsimp [SB, SI, SO, g1, g2, g3, g4, g5, g6, g7, g8, a1, a2, a3, b1, b2, b3, c1, c2, c3, h4, h5, eSos, eCos, eTs]
      · simp -dsimp [g1, g2, g3, g4, g5, g6, g7, g8, a1, a2, a3, b1, b2, b3, c1, c2, c3, h4, h5]
        refine hK _ ?_
        simp -dsimp [SB, SI, SO, g1, g2, g3, g4, g5, g6, g7, g8, a1, a2, a3, b1, b2, b3, c1, c2, c3, h4, h5, eSos, eCos, eTs]
    · simp -dsimp [g1, g2, g3, g4, g5, g6, g7, g8, a1, a2, a3, b1, b2, b3, c1, c2, c3, h4]
      refine hK _ ?_
      simp -dsimp [SB, SI, SO, g1, g2, g3, g4, g5, g6, g7, g8, a1, a2, a3, b1, b2, b3, c1, c2, c3, h4, eSos, eCos, eTs]
  clear g1 g2 g3 g4 g5 g6 g7 g8 a1 a2 a3 b1 b2 b3 c1 c2 c3
  rintro ⟨s, hp⟩ ⟨⟨g1, g2, g3, g4, g5, g6⟩, ⟨g7, g8⟩, ⟨a1, a2, a3⟩, ⟨b1, b2, b3⟩, ⟨c1, c2, c3⟩, d1⟩
  dsimp only at g1 g2 g3 g4 g5 g6 g7 g8 a1 a2 a3 b1 b2 b3 c1 c2 c3 d1
  refine Snd.seqF (fun st => SB (.n false) b a base k st ∧ SI (.n false) b st ∧ SO 10 11 (.n true) (ftR b base k) (ftE b base k) st ∧ SO 12 13 .d (dtR b base k) (dtE b base k) st ∧ SO 14 15 (.n true) (ctR b base k) (ctE b base k) st ∧ st.s 17 = .d (.bool (decide (0 ≤ base ∧ base ≤ 65535))) ∧ st.s 18 = .d (.bool (decide ((0 ≤ base ∧ base ≤ 65535) ∧ 0 ≤ k ∧ k < b.sorts.length)))) (fun K hK => ?_) ?_
  · by_cases h4 : 0 ≤ base ∧ base ≤ 65535
    · by_cases h5 : 0 ≤ k
      · by_cases h6 : k < b.sorts.length
        · simp -dsimp [g1, g2, g3, g4, g5, g6, g7, g8, a1, a2, a3, b1, b2, b3, c1, c2, c3, d1, h4, h5, h6, eSos, eCos, eTs]
          refine hK _ ?_
          simp -dsimp [SB, SI, SO, g1, g2, g3, g4, g5, g6, g7, g8, a1, a2, a3, b1, b2, b3, c1, c2, c3, d1, h4, h5, h6, eSos, eCos, eTs]
        · simp -dsimp [g1, g2, g3, g4, g5, g6, g7, g8, a1, a2, a3, b1, b2, b3, c1, c2, c3, d1, h4, h5, h6, eSos, eCos, eTs]
          refine hK _ ?_
          simp -dsimp [SB, SI, SO, g1, g2, g3, g4, g5, g6, g7, g8, a1, a2, a3, b1, b2, b3, c1, c2, c3, d1, h4, h5, h6, eSos, eCos, eTs]
      · simp -dsimp [g1, g2, g3, g4, g5, g6, g7, g8, a1, a2, a3, b1, b2, b3, c1, c2, c3, d1, h4, h5, eSos, eCos, eTs]
        refine hK _ ?_
        simp -dsimp [SB, SI, SO, g1, g2, g3, g4, g5, g6, g7, g8, a1, a2, a3, b1, b2, b3, c1, c2, c3, d1, h4, h5, eSos, eCos, eTs]
    · simp -dsimp [g1, g2, g3, g4, g5, g6, g7, g8, a1, a2, a3, b1, b2, b3, c1, c2, c3, d1, h4, eSos, eCos, eTs]
      refine hK _ ?_
      simp -dsimp [SB, SI, SO, g1, g2, g3, g4, g5, g6, g7, g8, a1, a2, a3, b1, b2, b3, c1, c2, c3, d1, h4, eSos, eCos, eTs]
  clear g1 g2 g3 g4 g5 g6 g7 g8 a1 a2 a3 b1 b2 b3 c1 c2 c3 d1
  rintro ⟨s, hp⟩ ⟨⟨g1, g2, g3, g4, g5, g6⟩, ⟨g7, g8⟩, ⟨a1, a2, a3⟩, ⟨b1, b2, b3⟩, ⟨c1, c2, c3⟩, d1, d2⟩
  dsimp only at g1 g2 g3 g4 g5 g6 g7 g8 a1 a2 a3 b1 b2 b3 c1 c2 c3 d1 d2
  have hz : checkB b = 0 := shapeR_iff.1 h3
  obtain ⟨_, _, _, _, _, zc⟩ := (checkB_zero b).1 hz
  have hcs : ∀ c ∈ b.cons, 0 ≤ c.sort ∧ c.sort < b.sorts.length := fun c hc => by
    have h := zc c hc
    rw [conM] at h
    split at h
    · cases h
    · split at h
      · split at h
        · cases h
        · rename_i s' hs'
          have := (List.getElem?_eq_some_iff.1 hs').1
          omega
      · cases h
  have sF := sameFg_ok b hf ob fb hz base k
  have sC := sameCg_ok b hf ob fb hz base k hcs 5 (by omega) (by omega)
  have hfs := hf.s
  refine Snd.seqF (fun st => SB (.n false) b a base k st ∧ SI (.n false) b st ∧ SO 10 11 (.n true) (ftR b base k) (ftE b base k) st ∧ SO 12 13 .d (dtR b base k) (dtE b base k) st ∧ SO 14 15 (.n true) (ctR b base k) (ctE b base k) st) (fun K hK => ?_) ?_
  · by_cases hJ : (0 ≤ base ∧ base ≤ 65535) ∧ 0 ≤ k ∧ k < b.sorts.length
    · have hget : b.sorts[k.toNat]? = some b.sorts[k.toNat] := List.getElem?_eq_getElem (by omega)
      have sD := sameDg_ok b hf ob fb hz base k (b.sorts[k.toNat]'(by omega)).dec (fun h => (h hJ).elim) (fun _ s' h => by rw [hget] at h; cases h; rfl)
      rw [decide_eq_true hJ] at sF d2
      simp only [eBl, cBl, cT, eSos, eCos] at sF sC sD
      have w1 : IntKind.i64.wrap ((b.sorts.length : Int) - 1) = (b.sorts.length : Int) - 1 := wrap_id (by omega) (by omega)
      have q1 : ¬ (b.sorts.length : Int) - 1 < k := by omega
      have q2 : ¬ k < 0 := by omega
      have q3 := hJ.2.1
      have q4 := hJ.2.2
      simp -dsimp [g1, g2, g3, g4, g5, g6, g7, g8, a1, a2, a3, b1, b2, b3, c1, c2, c3, d1, d2, eSos, eCos, eTs]
      refine call_of sF ?_
      simp -dsimp [g1, g2, g3, g4, g5, g6, g7, g8, a1, a2, a3, b1, b2, b3, c1, c2, c3, d1, d2, eSos, eCos, eTs, w1, q1, q2, q3, q4, hget, eSo, cSo]
      refine call_of sD ?_
      rw [decide_eq_true hJ.1] at d1
      by_cases h7 : k < b.cons.length
      · rw [decide_eq_true ⟨hJ.1, hJ.2.1, h7⟩] at sC
        simp -dsimp [g1, g2, g3, g4, g5, g6, g7, g8, a1, a2, a3, b1, b2, b3, c1, c2, c3, d1, d2, eSos, eCos, eTs, q3, h7]
        refine call_of sC ?_
        simp -dsimp [g1, g2, g3, g4, g5, g6, g7, g8, a1, a2, a3, b1, b2, b3, c1, c2, c3, d1, d2, eSos, eCos, eTs, q3, h7]
        refine hK _ ?_
        simp -dsimp [SB, SI, SO, g1, g2, g3, g4, g5, g6, g7, g8, a1, a2, a3, b1, b2, b3, c1, c2, c3, d1, d2, eSos, eCos, eTs]
      · rw [decide_eq_false (fun h => h7 h.2.2)] at sC
        simp -dsimp [g1, g2, g3, g4, g5, g6, g7, g8, a1, a2, a3, b1, b2, b3, c1, c2, c3, d1, d2, eSos, eCos, eTs, q3, h7]
        refine call_of sC ?_
        simp -dsimp [g1, g2, g3, g4, g5, g6, g7, g8, a1, a2, a3, b1, b2, b3, c1, c2, c3, d1, d2, eSos, eCos, eTs, q3, h7]
        refine hK _ ?_
        simp -dsimp [SB, SI, SO, g1, g2, g3, g4, g5, g6, g7, g8, a1, a2, a3, b1, b2, b3, c1, c2, c3, d1, d2, eSos, eCos, eTs]
    · have sD := sameDg_ok b hf ob fb hz base k false (fun _ => rfl) (fun h => (hJ h).elim)
      rw [decide_eq_false hJ] at sF d2
      simp only [eBl, cBl, cT, eSos, eCos] at sF sC sD
      simp -dsimp [g1, g2, g3, g4, g5, g6, g7, g8, a1, a2, a3, b1, b2, b3, c1, c2, c3, d1, d2, eSos, eCos, eTs]
      refine call_of sF ?_
      simp -dsimp [g1, g2, g3, g4, g5, g6, g7, g8, a1, a2, a3, b1, b2, b3, c1, c2, c3, d1, d2, eSos, eCos, eTs]
      refine call_of sD ?_
      by_cases hI : 0 ≤ base ∧ base ≤ 65535
      · rw [decide_eq_true hI] at d1
        by_cases q3 : 0 ≤ k
        · by_cases h7 : k < b.cons.length
          · rw [decide_eq_true ⟨hI, q3, h7⟩] at sC
            simp -dsimp [g1, g2, g3, g4, g5, g6, g7, g8, a1, a2, a3, b1, b2, b3, c1, c2, c3, d1, d2, eSos, eCos, eTs, q3, h7]
            refine call_of sC ?_
            simp -dsimp [g1, g2, g3, g4, g5, g6, g7, g8, a1, a2, a3, b1, b2, b3, c1, c2, c3, d1, d2, eSos, eCos, eTs, q3, h7]
            refine hK _ ?_
            simp -dsimp [SB, SI, SO, g1, g2, g3, g4, g5, g6, g7, g8, a1, a2, a3, b1, b2, b3, c1, c2, c3, d1, d2, eSos, eCos, eTs]
          · rw [decide_eq_false (fun h => h7 h.2.2)] at sC
            simp -dsimp [g1, g2, g3, g4, g5, g6, g7, g8, a1, a2, a3, b1, b2, b3, c1, c2, c3, d1, d2, eSos, eCos, eTs, q3, h7]
            refine call_of sC ?_
            simp -dsimp [g1, g2, g3, g4, g5, g6, g7, g8, a1, a2, a3, b1, b2, b3, c1, c2, c3, d1, d2, eSos, eCos, eTs, q3, h7]
            refine hK _ ?_
            simp -dsimp [SB, SI, SO, g1, g2, g3, g4, g5, g6, g7, g8, a1, a2, a3, b1, b2, b3, c1, c2, c3, d1, d2, eSos, eCos, eTs]
        · rw [decide_eq_false (fun h => q3 h.2.1)] at sC
          simp -dsimp [g1, g2, g3, g4, g5, g6, g7, g8, a1, a2, a3, b1, b2, b3, c1, c2, c3, d1, d2, eSos, eCos, eTs, q3]
          refine call_of sC ?_
          simp -dsimp [g1, g2, g3, g4, g5, g6, g7, g8, a1, a2, a3, b1, b2, b3, c1, c2, c3, d1, d2, eSos, eCos, eTs, q3]
          refine hK _ ?_
          simp -dsimp [SB, SI, SO, g1, g2, g3, g4, g5, g6, g7, g8, a1, a2, a3, b1, b2, b3, c1, c2, c3, d1, d2, eSos, eCos, eTs]
      · rw [decide_eq_false hI] at d1; rw [decide_eq_false (fun h => hI h.1)] at sC
        simp -dsimp [g1, g2, g3, g4, g5, g6, g7, g8, a1, a2, a3, b1, b2, b3, c1, c2, c3, d1, d2, eSos, eCos, eTs, hI]
        refine call_of sC ?_
        simp -dsimp [g1, g2, g3, g4, g5, g6, g7, g8, a1, a2, a3, b1, b2, b3, c1, c2, c3, d1, d2, eSos, eCos, eTs, hI]
        refine hK _ ?_
        simp -dsimp [SB, SI, SO, g1, g2, g3, g4, g5, g6, g7, g8, a1, a2, a3, b1, b2, b3, c1, c2, c3, d1, d2, eSos, eCos, eTs]
  clear g1 g2 g3 g4 g5 g6 g7 g8 a1 a2 a3 b1 b2 b3 c1 c2 c3 d1 d2 sF sC
  rintro ⟨s, hp⟩ ⟨⟨g1, g2, g3, g4, g5, g6⟩, ⟨g7, g8⟩, ⟨a1, a2, a3⟩, ⟨b1, b2, b3⟩, c1, c2, c3⟩
  dsimp only at g1 g2 g3 g4 g5 g6 g7 g8 a1 a2 a3 b1 b2 b3 c1 c2 c3
  refine Spd.enter 163 ?_
  refine Spd.term (by omega) (by omega) (by omega) a1 a2 ?_
  refine Spd.term (by omega) (by omega) (by omega) c1 c2 ?_
  refine Spd.leave ?_
  have hF : SB .d b a base k (aftS 163 ⟨s, hp⟩) ∧ SI .d b (aftS 163 ⟨s, hp⟩) := by
    refine ⟨?_, ?_⟩
    · simp [SB, aftS, aftE, newA', Ev.D.flat, g1, g2, g3, g4, g5, g6, eSos, eCos, eTs]
    · simp [SI, aftS, aftE, newA', Ev.D.flat, g7, g8, eSos, eCos]
  revert hF
  generalize aftS 163 ⟨s, hp⟩ = st
  clear g1 g2 g3 g4 g5 g6 g7 g8 a1 a2 a3 b1 b2 b3 c1 c2 c3
  obtain ⟨s, hp⟩ := st
  rintro ⟨⟨g1, g2, g3, g4, g5, g6⟩, g7, g8⟩
  dsimp only at g1 g2 g3 g4 g5 g6 g7 g8
  refine Snd.last ?_
  simp -dsimp [g1, g2, g3, g4, g5, g6, g7, g8, eSos, eCos]
  refine call_of kB ?_
  simp -dsimp [g1, g2, g3, g4, g5, g6, g7, g8]
  refine call_of wakes10_ok ?_
  simp -dsimp [g1, g2, g3, g4, g5, g6, g7, g8]
end Ev
end Go.Proofs.YtncmainjcffanaaGreat
