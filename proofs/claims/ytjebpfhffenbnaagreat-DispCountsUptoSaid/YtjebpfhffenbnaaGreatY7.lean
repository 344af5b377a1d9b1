/- DispCounts. -/
import Derived.Test.YtjebpfhffenbnaaGreatY6
import Derived.Test.YtjebpfhffenbnaaGreatY4
namespace Go.Proofs.YtjebpfhffenbnaaGreat
namespace Ev
open Go
set_option maxRecDepth 100000
set_option linter.unusedSimpArgs false
set_option linter.unusedVariables false
section
attribute [local simp] allD_map_d sks_map_d tk tn tks initA EndsM one_sos one_cos one_ars one_ts
theorem room8 {n : Nat} (h : n ≤ 40) : (n + 1) * 8 ≤ maxRoom := by simp only [maxRoom]; omega
theorem pos_add : ∀ (l : List Ar) (e : Int), posL e l = (posL 0 l).map (e + ·) := by
  intro l
  induction l with
  | nil => intro e; rfl
  | cons a l ih =>
    intro e
    rw [posL, posL, List.map_cons, ih, ih (if a.rc then 0 + 2 else 0 + 1), List.map_map, Int.add_zero]
    congr 1
    apply List.map_congr_left
    intro x _
    simp only [Function.comp_apply]
    split <;> omega
set_option maxHeartbeats 8000000 in
theorem counts11_law (b : Bl) (ob : okBl b) (hb : bulk (eBl b) ≤ 1048576) (base c : Int) : Pure Tryz.prog n_porismlaw11_DispCounts [eBl b, .int .i64 base, .int .i64 c] [.bool true] := by
  refine p_porismlaw11_DispCounts rfl fun hs => ?_
  have hH := heavy07_ok b
  simp only [eBl, cBl] at hH
  simp -dsimp [x_porismlaw11_DispCounts, eBl, cBl]
  refine call_of hH ?_
  simp -dsimp
  (first | refine Ask_b ?_ ?_ | refine Cnd_b ?_ ?_) <;> intro h1 <;> (try simp only [decide_eq_true_eq, decide_eq_false_iff_not, beq_iff_eq, beq_eq_false_iff_ne, bne_iff_ne, bne_eq_false_iff_eq, Bool.not_eq_true', Bool.not_eq_false', Bool.and_eq_true, Bool.or_eq_true, Bool.and_eq_false_iff, Bool.or_eq_false_iff] at h1) <;> simp -dsimp [h1]
  have hf := fit_of h1
  have fb := fine_of hb h1
  have hfs := hf.s
  have hfc := hf.c
  by_cases hn0 : b.cons = []
  case pos => simp -dsimp [h1, hn0, eCos]
  have hn1 : 0 < b.cons.length := List.length_pos_iff.2 hn0
  have q2 : IntKind.u64.wrap (b.cons.length : Int) = (b.cons.length : Int) := u64_id (by omega) (by omega)
  have z2 : ¬((b.cons.length : Int) = 0) := by omega
  simp -dsimp [h1, q2, z2, hn0, eCos]
  obtain ⟨B0, B1⟩ := rem_le base 1000 (by omega) (by omega)
  generalize IntKind.i64.wrap ((IntKind.u64.wrap base).tmod 1000) = B at B0 B1 ⊢
  have hP := posit7_ok 9000 (by omega) (by omega) b ob fb hf B
  simp only [eBl, cBl, eCos] at hP
  refine call_of hP ?_
  by_cases hp : positE 9000 b B = 0
  case neg => simp -dsimp [hp]
  obtain ⟨hz, _, _, hpos⟩ := posE_zero8 hp
  obtain ⟨z1, z4, z8, zl, zs, zc⟩ := (checkB_zero b).1 hz
  simp -dsimp [hp, q2, z2, hn0]
  obtain ⟨K0, K1⟩ := rem_le c (b.cons.length : Int) (by omega) (by omega)
  generalize IntKind.i64.wrap ((IntKind.u64.wrap c).tmod (b.cons.length : Int)) = K at K0 K1 ⊢
  have hlt : K.toNat < b.cons.length := by omega
  have hget : b.cons[K.toNat]? = some b.cons[K.toNat] := List.getElem?_eq_getElem hlt
  have hcm := List.getElem_mem hlt
  have hcon := zc _ hcm
  obtain ⟨hrow, s0, so, hso, hil⟩ := con_parts hcon
  have fc := fb.cons _ hcm
  generalize hX : b.cons[K.toNat] = X at *
  have hslt := (List.getElem?_eq_some_iff.1 hso).1
  have hal := fc.args.1
  have hM := method_ok b ob fb hf B K (by omega)
  obtain ⟨m1, m2⟩ := met_at hp K0 (by rw [hget] : b.cons[K.toNat]? = some X) hso
  rw [m1, m2] at hM
  have MO := metOk ob fb hf hp (by omega) K0 (by rw [hget] : b.cons[K.toNat]? = some X) hso
  have U1 := met_unpis MO
  obtain ⟨I1, I2⟩ := met_in8 fb hf hp (by omega) K0 (by rw [hget] : b.cons[K.toNat]? = some X) hso
  have hE := e045_8 I1.fm
  have hfin : (metV b B K X).fin = b.sorts.length + K + finL 0 X.args := fin_add X.args _
  have hpos' : (metV b B K X).pos = (posL 0 X.args).map ((b.sorts.length + K) + ·) := pos_add X.args _
  have hfl := fin_le X.args 0
  have hci := constructor_is hf B0 (by omega : B ≤ 65535) K
  rw [if_pos ⟨K0, K1⟩] at hci
  have hdl := decs_le b.sorts
  have hC7 := constructor7_ok b hf B K
  have lJ := MO.lJ
  have oJ := MO.oJ
  have oO := MO.oO
  have oC : okT (tC (constructor_ b B K)) := okT_leaf (by omega) (by omega)
  have hPl : ((metV b B K X).pos.map fun p => lv p (metV b B K X).fin).length = X.args.length := by rw [List.length_map, hpos', List.length_map, pos_len]
  have hUs := (sp_unspine (lv X.sort (metV b B K X).fin) (inT (metV b B K X) 9000 so X.idx X.args.length 0 (metV b B K X).fin ++ [spT (tC (constructor_ b B K)) ((metV b B K X).pos.map fun p => lv p (metV b B K X).fin)]) (by show (1 : Int) ≠ 6; decide) MO.oH ⟨by rw [List.length_append, List.length_singleton]; omega, oJ⟩ (by rw [List.length_append, List.length_singleton]; omega)).pure
  have hUg := (sp_unspine (tC (constructor_ b B K)) ((metV b B K X).pos.map fun p => lv p (metV b B K X).fin) (by show (3 : Int) ≠ 6; decide) oC ⟨by omega, oO⟩ (by omega)).pure
  rw [← show metB b B K X so = spT (lv X.sort (metV b B K X).fin) (inT (metV b B K X) 9000 so X.idx X.args.length 0 (metV b B K X).fin ++ [spT (tC (constructor_ b B K)) ((metV b B K X).pos.map fun p => lv p (metV b B K X).fin)]) from rfl] at hUs
  have hOWat : ∀ (i : Nat), i < X.args.length → ∃ q, (posL 0 X.args)[i]? = some q ∧ 0 ≤ q ∧ q ≤ 1000 ∧ ((metV b B K X).pos.map fun p => lv p (metV b B K X).fin)[i]? = some (.mk 1 (finL 0 X.args - 1 - q) []) := fun i hi => by
    have hi' : i < (posL 0 X.args).length := by rw [pos_len]; exact hi
    have hm := pos_mem X.args 0 _ (List.getElem_mem hi')
    refine ⟨_, List.getElem?_eq_getElem hi', by omega, by omega, ?_⟩
    rw [hpos', hfin, List.getElem?_map, List.getElem?_map, List.getElem?_eq_getElem hi']
    simp only [Option.map_some, lv]
    congr 2
    omega
  have hsl2 : X.sort ≤ 10 := by omega
  clear MO oJ oO m1 m2 hpos' I1
  generalize hOW : ((metV b B K X).pos.map fun p => lv p (metV b B K X).fin) = OW at *
  generalize hSP : spT (tC (constructor_ b B K)) OW = SP at *
  generalize inT (metV b B K X) 9000 so X.idx X.args.length 0 (metV b B K X).fin = J at *
  rw [show lv X.sort (metV b B K X).fin = .mk 1 ((metV b B K X).fin - 1 - X.sort) [] from rfl, hfin] at hUs
  generalize metB b B K X so = MB at *
  generalize metT b B K X so = MT at *
  generalize tyL (metV b B K X) 9000 0 X.args = L at *
  generalize hCN : constructor_ b B K = CN at *
  clear hfin
  simp only [rightT] at hM
  simp only [eBl, cBl, eCos, cT, eTs, tC, tk, tn, tks, List.map_nil, List.map_append, List.map_cons, eT_eq, RV.data, RC.data] at hM U1 hUs hUg hC7
  refine call_of hM ?_
  by_cases c1 : checkM MT = 0
  case neg =>
    rcases hE with hE | hE | hE
    · exact absurd hE c1
    · simp -dsimp [hE]
      refine call_of wakes11_ok ?_
      simp -dsimp
    · simp -dsimp [hE]
      refine call_of wakes11_ok ?_
      simp -dsimp
  rw [if_pos c1] at *
  simp -dsimp [c1]
  refine call_of U1 ?_
  simp -dsimp
  refine wp_upto X.args.length (fun i st => (st.s 1 = .d (.int .i64 B) ∧ st.s 2 = .d (.int .i64 K)) ∧ (st.s 3 = .ptr 3 1 0 ∧ st.h 3 = ⟨1, .box [.d (eSos b.sorts), .d (eCos b.cons), .d (.int .i64 b.elim)] false⟩) ∧ st.s 9 = .d (.sl 3 (L.map eT)) ∧ (st.s 10 = .ptr 10 1 0 ∧ st.h 10 = ⟨1, .box [.d (.int .i64 MB.kind), .d (.int .i64 MB.num), .d (.sl 3 (MB.kids.map eT))] false⟩) ∧
    st.s 11 = .d (.int .i64 (finL 0 (X.args.take i))) ∧ st.s 13 = .d (.int .i64 i) ∧ ∃ v, st.s 12 = .rsl 12 v ∧ st.h 12 = ⟨v, .row 1 ((posL 0 (X.args.take i)).map (.int .i64)) false⟩) ?_ ?_
  · simp -dsimp [eCos, finL, posL]
  · rintro i ⟨s, hq⟩ hi ⟨⟨g1, g2⟩, ⟨g3, k3⟩, g9, ⟨g10, k10⟩, g11, g13, v, g12, k12⟩
    dsimp only at g1 g2 g3 k3 g9 g10 k10 g11 g13 g12 k12
    simp only [eCos] at k3
    rcases Nat.lt_or_ge i X.args.length with hlt2 | hge
    · have w1 : IntKind.i64.wrap ((i : Int) + 1) = (i : Int) + 1 := wrap_id (by omega) (by omega)
      have hfi := fin_le (X.args.take i) 0
      rw [List.length_take] at hfi
      have hfs := fin_snoc X.args 0 i hlt2
      have hps := pos_snoc X.args 0 i hlt2
      have hpl := pos_len (X.args.take i) 0
      rw [List.length_take] at hpl
      rw [hfs, hps]
      generalize finL 0 (X.args.take i) = F at *
      generalize posL 0 (X.args.take i) = PP at *
      have w2 : IntKind.i64.wrap (F + 1) = F + 1 := wrap_id (by omega) (by omega)
      have w3 : IntKind.i64.wrap (F + 1 + 1) = F + 2 := by rw [wrap_id (by omega) (by omega)]; omega
      have hpl40 : PP.length ≤ 40 := by omega
      generalize hR : X.args[i] = R at *
      cases hr : R.rc with
      | true =>
        simp -dsimp [g1, g2, g3, k3, g9, g10, k10, g11, g13, g12, k12, K0, hlt, hget, hX, eCo, cCo, cT, eArs, hlt2, hR, eAr, cAr, hr, w1, w2, w3, room8 hpl40, eCos]
      | false =>
        simp -dsimp [g1, g2, g3, k3, g9, g10, k10, g11, g13, g12, k12, K0, hlt, hget, hX, eCo, cCo, cT, eArs, hlt2, hR, eAr, cAr, hr, w1, w2, w3, room8 hpl40, eCos]
    · have e : i = X.args.length := by omega
      subst e
      rw [List.take_length] at g11 k12
      have hpl := pos_len X.args 0
      generalize hF : finL 0 X.args = F at *
      generalize hPP : posL 0 X.args = PP at *
      have w1 : IntKind.i64.wrap (F + (b.sorts.length : Int)) = F + b.sorts.length := wrap_id (by omega) (by omega)
      have w2 : IntKind.i64.wrap (F + (b.sorts.length : Int) + K) = F + b.sorts.length + K := wrap_id (by omega) (by omega)
      have w3 : IntKind.i64.wrap (F + (b.sorts.length : Int) + K - 1) = F + b.sorts.length + K - 1 := wrap_id (by omega) (by omega)
      have w4 : IntKind.i64.wrap (F + (b.sorts.length : Int) + K - 1 - X.sort) = (b.sorts.length : Int) + K + F - 1 - X.sort := by rw [wrap_id (by omega) (by omega)]; omega
      have hLF : (L.length : Int) = F := I2
      simp -dsimp [g1, g2, g3, k3, g9, g10, k10, g11, g13, g12, k12, K0, hlt, hget, hX, eCo, cCo, cT, eArs]
      refine call_of hUs ?_
      have hJne : ¬ ((J.length : Int) + 1 = 0) := by omega
      simp -dsimp [g1, g2, g3, k3, g9, g10, k10, g11, g13, g12, k12, K0, hlt, hget, hX, eCo, cCo, cT, eArs, hLF, w1, w2, w3, w4, hJne, eSos]
      have v1 : IntKind.i64.wrap ((J.length : Int) + 1 - 1) = (J.length : Int) := by rw [wrap_id (by omega) (by omega)]; omega
      have v1' : IntKind.i64.wrap (J.length : Int) = (J.length : Int) := wrap_id (by omega) (by omega)
      have hJl : J.length < J.length + 1 := by omega
      simp -dsimp [v1, v1', hJl]
      refine call_of hUg ?_
      simp -dsimp [g1, g2, g3, k3, g9, g10, k10, g11, g13, g12, k12]
      refine call_of hC7 ?_
      have hlx : (OW.length : Int) = PP.length := by omega
      have hlx' : OW.length = PP.length := by omega
      simp -dsimp [g1, g2, g3, k3, g9, g10, k10, g11, g13, g12, k12, hlx, hlx']
      refine wp_upto OW.length (fun i st => st.s 11 = .d (.int .i64 F) ∧ (st.s 12 = .rsl 12 v ∧ st.h 12 = ⟨v, .row 1 (PP.map (.int .i64)) false⟩) ∧ st.s 17 = .d (.sl 3 (OW.map eT)) ∧ st.s 18 = .d (.int .i64 i)) ?_ ?_
      · simp -dsimp [g11, g12, k12]
        done
      · clear g1 g2 g3 k3 g9 g10 k10 g11 g13 g12 k12
        rintro i ⟨s, hq⟩ hi ⟨g11, ⟨g12, k12⟩, g17, g18⟩
        dsimp only at g11 g12 k12 g17 g18
        rcases Nat.lt_or_ge i OW.length with hlt2 | hge2
        · have w1 : IntKind.i64.wrap ((i : Int) + 1) = (i : Int) + 1 := wrap_id (by omega) (by omega)
          obtain ⟨q, hq1, q0, q1, hq2⟩ := hOWat i (by omega)
          have hltP : i < PP.length := by omega
          have hq1' := (List.getElem?_eq_some_iff.1 hq1).2
          have hq2' := (List.getElem?_eq_some_iff.1 hq2).2
          have w5 : IntKind.i64.wrap (F - 1) = F - 1 := wrap_id (by omega) (by omega)
          have w6 : IntKind.i64.wrap (F - 1 - q) = F - 1 - q := wrap_id (by omega) (by omega)
          simp -dsimp [g11, g12, k12, g17, g18, hlt2, hltP, hq1, hq2, hq1', hq2', eT_eq, cT, w1, w5, w6]
          done
        · have e : i = OW.length := by omega
          subst e
          simp -dsimp [g11, g12, k12, g17, g18]
          refine call_of wakes11_ok ?_
          simp -dsimp
end
end Ev
end Go.Proofs.YtjebpfhffenbnaaGreat
