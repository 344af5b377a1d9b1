/- DispPlain. -/
import Derived.Test.YtjebpfhffenbnaaGreatY3
namespace Go.Proofs.YtjebpfhffenbnaaGreat
namespace Ev
open Go
set_option maxRecDepth 100000
set_option linter.unusedSimpArgs false
set_option linter.unusedVariables false
section
attribute [local simp] allD_map_d sks_map_d tk tn tks initA EndsM one_sos one_cos one_ars one_ts
theorem mayE_in8 {b : Bl} (hz : checkB b = 0) {base k many : Int} (h0 : 0 ≤ base) (h1 : base ≤ 65535) (k0 : 0 ≤ k) (k1 : k < many) : mayE b base k many = 0 := by
  rw [mayE, if_pos hz, if_neg (by omega)]
set_option maxHeartbeats 8000000 in
theorem plain11_law (b : Bl) (ob : okBl b) (hb : bulk (eBl b) ≤ 1048576) (base c : Int) : Pure Tryz.prog n_porismlaw11_DispPlain [eBl b, .int .i64 base, .int .i64 c] [.bool true] := by
  refine p_porismlaw11_DispPlain rfl fun hs => ?_
  have hH := heavy07_ok b
  simp only [eBl, cBl] at hH
  simp -dsimp [x_porismlaw11_DispPlain, eBl, cBl]
  refine call_of hH ?_
  simp -dsimp
  (first | refine Ask_b ?_ ?_ | refine Cnd_b ?_ ?_) <;> intro h1 <;> (try simp only [decide_eq_true_eq, decide_eq_false_iff_not, beq_iff_eq, beq_eq_false_iff_ne, bne_iff_ne, bne_eq_false_iff_eq, Bool.not_eq_true', Bool.not_eq_false', Bool.and_eq_true, Bool.or_eq_true, Bool.and_eq_false_iff, Bool.or_eq_false_iff] at h1) <;> simp -dsimp [h1]
  have hf := fit_of h1
  have fb := fine_of hb h1
  have hfs := hf.s
  have hfc := hf.c
  by_cases hn0 : b.cons = []
  case pos => simp -dsimp [h1, hn0, eCos]
  have hn1 : 0 < b.cons.length := List.length_pos_iff.2 hn0
  have q2 : IntKind.u64.wrap (b.cons.length : Int) = (b.cons.length : Int) := u64_id (by omega) (by omega)
  have z2 : ¬((b.cons.length : Int) = 0) := by omega
  simp -dsimp [h1, q2, z2, hn0, eCos]
  obtain ⟨B0, B1⟩ := rem_le base 1000 (by omega) (by omega)
  generalize IntKind.i64.wrap ((IntKind.u64.wrap base).tmod 1000) = B at B0 B1 ⊢
  have hP := posit7_ok 9000 (by omega) (by omega) b ob fb hf B
  simp only [eBl, cBl, eCos] at hP
  refine call_of hP ?_
  by_cases hp : positE 9000 b B = 0
  case neg => simp -dsimp [hp]
  obtain ⟨hz, _, _, hpos⟩ := posE_zero8 hp
  obtain ⟨z1, z4, z8, zl, zs, zc⟩ := (checkB_zero b).1 hz
  simp -dsimp [hp, q2, z2, hn0]
  obtain ⟨K0, K1⟩ := rem_le c (b.cons.length : Int) (by omega) (by omega)
  generalize IntKind.i64.wrap ((IntKind.u64.wrap c).tmod (b.cons.length : Int)) = K at K0 K1 ⊢
  have hlt : K.toNat < b.cons.length := by omega
  have hget : b.cons[K.toNat]? = some b.cons[K.toNat] := List.getElem?_eq_getElem hlt
  have hcm := List.getElem_mem hlt
  have hcon := zc _ hcm
  obtain ⟨hrow, s0, so, hso, hil⟩ := con_parts hcon
  have oc := ob.cons _ hcm
  have fc := fb.cons _ hcm
  generalize hX : b.cons[K.toNat] = X at *
  have hslt := (List.getElem?_eq_some_iff.1 hso).1
  have hse := (List.getElem?_eq_some_iff.1 hso).2
  have hsm : so ∈ b.sorts := List.mem_of_getElem? hso
  have fs := fb.sorts _ hsm
  have os := ob.sorts _ hsm
  have hA1 := anyRec_ok X.args (by have := fc.args.1; omega)
  have hA2 := anyRec_ok so.idx (by have := fs.idx.1; omega)
  simp only [eArs] at hA1 hA2
  simp -dsimp [K0, hlt, hget, hX, eCo, cCo, cT, eArs, eTs]
  refine call_of hA1 ?_
  cases ha1 : X.args.any (·.rc) with
  | true =>
    simp -dsimp
    refine call_of wakes11_ok ?_
    simp -dsimp
  | false =>
  simp -dsimp [s0, hso, hslt, hse, eSos, eSo, cSo, cT, eArs]
  refine call_of hA2 ?_
  cases ha2 : so.idx.any (·.rc) with
  | true =>
    simp -dsimp
    refine call_of wakes11_ok ?_
    simp -dsimp
  | false =>
  have hnr1 : ∀ a ∈ X.args, a.rc = false := fun a ha => by have := List.any_eq_false.1 ha1 a ha; simpa using this
  have hnr2 : ∀ a ∈ so.idx, a.rc = false := fun a ha => by have := List.any_eq_false.1 ha2 a ha; simpa using this
  clear ha1 ha2 hA1 hA2
  -- what is told
  have hM := method_ok b ob fb hf B K (by omega)
  obtain ⟨m1, m2⟩ := met_at hp K0 (by rw [hget] : b.cons[K.toNat]? = some X) hso
  rw [m1, m2] at hM
  have hO := motive_ok b ob fb hf B X.sort (by omega)
  obtain ⟨o1, o2⟩ := mot_at hp s0 hso
  rw [o1, o2] at hO
  have hC := conType_ok b ob fb B K
  have eE : ctE b B K = checkM (ctT b B X) := by rw [ctE, if_pos (mayE_in8 hz B0 (by omega) K0 K1), hget]
  have eR : ctR b B K = rightT (ctT b B X) := by rw [ctR, rightT, eE, hget]
  rw [eE, eR] at hC
  have hF := formerType_ok b ob fb B X.sort
  have fE : ftE b B X.sort = checkM (ftT b B so) := by rw [ftE, if_pos (mayE_in8 hz B0 (by omega) s0 (by omega)), hso]
  have fR : ftR b B X.sort = rightT (ftT b B so) := by rw [ftR, rightT, fE, hso]
  rw [fE, fR] at hF
  have MO := metOk ob fb hf hp (by omega) K0 (by rw [hget] : b.cons[K.toNat]? = some X) hso
  have U1 := met_unpis MO
  have U2 := ct_unpis ob fb B (List.mem_of_getElem? hget)
  have U3 := mot_unpis ob fb hf hp (by omega) s0 hso
  have hsl : levelM so.level = true := by
    have := zs _ hslt
    rw [hse] at this
    exact ((sortM_true _ _ _).1 this).2.1
  have U4 := ft_unpis ob fb B hsm hsl
  -- the types are as they stand
  have row1 : ∀ a ∈ X.args, formedM (argTy b B a) = true := fun a ha => by
    obtain ⟨j, hj, rfl⟩ := List.mem_iff_getElem.1 ha
    have hr := rowM_at hrow
    exact (argTy_right hf B0 (by omega) (fc.args.2 _ ha) (by omega) (hr.2 j hj)).2
  have row2 : ∀ a ∈ so.idx, formedM (argTy b B a) = true := fun a ha => by
    obtain ⟨j, hj, rfl⟩ := List.mem_iff_getElem.1 ha
    have hsr := zs _ hslt
    rw [hse] at hsr
    have hr := rowM_at (sort_row hsr)
    exact (argTy_right hf B0 (by omega) (fs.idx.2 _ ha) (by omega) (hr.2 j hj)).2
  have t1 : tyL (metV b B K X) 9000 0 X.args = X.args.map (argTy b B) := ty_plain hnr1 row1 9000
  have t2 : tyL (vwOf b B so.idx X.sort) 9000 0 so.idx = so.idx.map (argTy b B) := ty_plain hnr2 row2 9000
  have t3 : motL b B X.sort so = so.idx.map (argTy b B) ++ [spT (tC (former b B X.sort)) ((posL X.sort so.idx).map fun p => lv p (finL X.sort so.idx))] := by rw [motL, t2]
  have hfin : (metV b B K X).fin = (b.sorts.length + K) + X.args.length := fin_plain X.args _ hnr1
  have t4 : inT (metV b B K X) 9000 so X.idx X.args.length 0 (metV b B K X).fin = X.idx := by
    rw [inT]
    refine shA_plain _ _ hnr2 hil fun x hx => ?_
    rw [hfin]
    have hnx : nodes x ≤ 9000 := Nat.le_trans (sum_mem (List.mem_map.2 ⟨_, hx, rfl⟩)) fc.idx
    have hal := fc.args.1
    exact put_id hnr1 (in_facts (con_idx hcon hx) (by omega) (by omega) (by omega)).2.1 X.args.length (Nat.le_refl _)
  have hmB : metB b B K X so = spT (lv X.sort (metV b B K X).fin) (X.idx ++ [spT (tC (constructor_ b B K)) ((metV b B K X).pos.map fun p => lv p (metV b B K X).fin)]) := by rw [metB, t4]
  have oJ := MO.oJ
  rw [t4] at oJ
  have hal := fc.args.1
  have hSl := fc.idxL
  have hsil := fs.idx.1
  have hUs := (sp_unspine (lv X.sort (metV b B K X).fin) (X.idx ++ [spT (tC (constructor_ b B K)) ((metV b B K X).pos.map fun p => lv p (metV b B K X).fin)]) (by show (1 : Int) ≠ 6; decide) MO.oH ⟨by rw [List.length_append, List.length_singleton]; omega, oJ⟩ (by rw [List.length_append, List.length_singleton]; omega)).pure
  rw [← hmB] at hUs
  rw [t1] at U1
  rw [t3] at U3
  generalize spT (tC (constructor_ b B K)) ((metV b B K X).pos.map fun p => lv p (metV b B K X).fin) = SP at *
  generalize lv X.sort (metV b B K X).fin = LV at *
  generalize spT (tC (former b B X.sort)) ((posL X.sort so.idx).map fun p => lv p (finL X.sort so.idx)) = SF at *
  have hk1 := keepTerms_ok (X.args.map (argTy b B))
  have hk2 := keepTerms_ok (so.idx.map (argTy b B))
  have hk3 := keepTerms_ok X.idx
  have hLen1 : (X.args.map (argTy b B)).length = X.args.length := by simp
  have hLen2 : (so.idx.map (argTy b B)).length = so.idx.length := by simp
  clear t1 t2 t3 t4 hmB row1 row2 MO oJ hfin m1 m2 o1 o2 eE eR fE fR
  generalize X.args.map (argTy b B) = TA at *
  generalize so.idx.map (argTy b B) = TI at *
  generalize metB b B K X so = MB at *
  generalize spT (fmT b B X.sort) X.idx = FX at *
  generalize metT b B K X so = MT at *
  generalize motT b B X.sort so = OT at *
  generalize ctT b B X = CT at *
  generalize ftT b B so = FT at *
  simp only [eBl, cBl, eSos, eCos, cT, eTs, tk, tn, tks, List.map_nil, List.map_append, List.map_cons, eT_eq, rightT, RV.data, RC.data] at hM hO hC hF U1 U2 U3 U4 hUs hk1 hk2 hk3
  simp -dsimp
  refine call_of hM ?_
  simp -dsimp
  refine call_of hC ?_
  simp -dsimp
  refine call_of hO ?_
  simp -dsimp
  refine call_of hF ?_
  by_cases c1 : checkM MT = 0
  case neg => simp -dsimp [c1]; refine call_of wakes11_ok ?_; simp -dsimp
  by_cases c2 : checkM CT = 0
  case neg => simp -dsimp [c1, c2]; refine call_of wakes11_ok ?_; simp -dsimp
  by_cases c3 : checkM OT = 0
  case neg => simp -dsimp [c1, c2, c3]; refine call_of wakes11_ok ?_; simp -dsimp
  by_cases c4 : checkM FT = 0
  case neg => simp -dsimp [c1, c2, c3, c4]; refine call_of wakes11_ok ?_; simp -dsimp
  simp -dsimp [c1, c2, c3, c4]
  refine call_of U1 ?_
  simp -dsimp [c1, c2, c3, c4]
  refine call_of U2 ?_
  simp -dsimp [c1, c2, c3, c4]
  refine call_of U3 ?_
  simp -dsimp [c1, c2, c3, c4]
  refine call_of U4 ?_
  simp -dsimp [c1, c2, c3, c4]
  refine call_of hUs ?_
  simp -dsimp
  refine call_of hk1 ?_
  have w1 : IntKind.i64.wrap ((TI.length : Int) + 1) = (TI.length : Int) + 1 := wrap_id (by omega) (by omega)
  have w2 : IntKind.i64.wrap ((X.idx.length : Int) + 1) = (X.idx.length : Int) + 1 := wrap_id (by omega) (by omega)
  have w3 : IntKind.i64.wrap ((X.idx.length : Int) + 1 - 1) = (X.idx.length : Int) := by rw [wrap_id (by omega) (by omega)]; omega
  have w4 : IntKind.i64.wrap (X.idx.length : Int) = (X.idx.length : Int) := wrap_id (by omega) (by omega)
  have hle1 : (TI.length : Int) ≤ (TI.length : Int) + 1 := by omega
  have hle2 : (X.idx.length : Int) ≤ (X.idx.length : Int) + 1 := by omega
  have htk1 : ∀ y : D, List.take TI.length (TI.map eT ++ [y]) = TI.map eT := fun y => List.take_left' (by simp)
  have htk2 : ∀ y : D, List.take X.idx.length (X.idx.map eT ++ [y]) = X.idx.map eT := fun y => List.take_left' (by simp)
  simp -dsimp [w1, hle1, htk1]
  refine call_of hk2 ?_
  simp -dsimp [K0, hlt, hget, hX, eCo, cCo, cT, eArs, eTs, w2, w3, w4, hle2, htk2]
  refine call_of hk3 ?_
  simp -dsimp
  refine call_of wakes11_ok ?_
  simp -dsimp
end
end Ev
end Go.Proofs.YtjebpfhffenbnaaGreat
