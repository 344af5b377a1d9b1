/- disp: methods. -/
import Derived.Test.YtjebpfhffenbnaaGreatV4
namespace Go.Proofs.YtjebpfhffenbnaaGreat
namespace Ev
open Go
set_option maxRecDepth 100000
set_option linter.unusedSimpArgs false
set_option linter.unusedVariables false
section
attribute [local simp] allD_map_d sks_map_d tk tn tks initA EndsM one_sos one_cos one_ars one_ts
def metV (b : Bl) (base c : Int) (x : Co) : Vw := vwOf b base x.args (b.sorts.length + c)
/-- The method's type. -/
def metT (b : Bl) (base c : Int) (x : Co) (so : So) : T :=
  nestT 4 (tyL (metV b base c x) 9000 0 x.args) (spT (lv x.sort (metV b base c x).fin) (inT (metV b base c x) 9000 so x.idx x.args.length 0 (metV b base c x).fin ++ [spT (tC (constructor_ b base c)) ((metV b base c x).pos.map fun p => lv p (metV b base c x).fin)]))
def metA (b : Bl) (base c : Int) : Option T := match b.cons[c.toNat]? with
  | some x => match b.sorts[x.sort.toNat]? with
    | some so => some (metT b base c x so)
    | none => none
  | none => none
def metE (b : Bl) (base c : Int) : Int := if mayP b base c b.cons.length = 0 then (match metA b base c with | some t => checkM t | none => 1) else mayP b base c b.cons.length
def metR (b : Bl) (base c : Int) : T := if metE b base c = 0 then (metA b base c).getD zT else zT
theorem con_idx {b : Bl} {c : Co} (h : conM b c = true) {x : T} (hx : x ∈ c.idx) : inM x c.args.length = true := by
  rw [conM] at h
  split at h
  · cases h
  split at h
  case isFalse => cases h
  split at h
  · cases h
  split at h
  case isFalse => cases h
  split at h
  case isFalse => cases h
  rename_i hA
  rw [allM, Bool.not_eq_true', List.any_eq_false] at hA
  have := hA x hx
  simpa using this
set_option maxHeartbeats 2000000 in
theorem method_ok (b : Bl) (ob : okBl b) (fb : FineBl b) (hf : Fit b) (base c : Int) (b1 : base ≤ 60000) : Pure Tryz.prog n_disp_Method [eBl b, .int .i64 base, .int .i64 c] [.agg (cT (metR b base c)), .int .i64 (metE b base c)] := by
  have hM := may8_ok b ob fb base c b.cons.length
  by_cases hm : mayP b base c b.cons.length = 0
  case neg =>
    have e1 : metE b base c = mayP b base c b.cons.length := by rw [metE, if_neg hm]
    have e2 : metR b base c = zT := by rw [metR, if_neg (by rw [e1]; exact hm)]
    rw [e1, e2]
    generalize mayP b base c b.cons.length = E at *
    refine p_disp_Method rfl fun hs => ?_
    simp only [eBl, cBl] at hM
    simp -dsimp [x_disp_Method, eBl, cBl, eCos]
    simp only [eCos] at hM
    refine call_of hM ?_
    simp -dsimp [hm, zT, cT]
  obtain ⟨hp, k0, k1⟩ := mayP_zero hm
  obtain ⟨hz, b0, _, hpos⟩ := posE_zero8 hp
  obtain ⟨z1, z4, z8, zl, zs, zc⟩ := (checkB_zero b).1 hz
  have hlt : c.toNat < b.cons.length := by omega
  have hget : b.cons[c.toNat]? = some b.cons[c.toNat] := List.getElem?_eq_getElem hlt
  obtain ⟨hsg, so, hso, hig⟩ := con_good hpos hget
  have os := ob.cons _ (List.getElem_mem hlt)
  have fs := fb.cons _ (List.getElem_mem hlt)
  obtain ⟨hrow, s0, so2, hso2, hil2⟩ := con_parts (zc _ (List.getElem_mem hlt))
  have hcon := zc _ (List.getElem_mem hlt)
  have hao : metA b base c = some (metT b base c b.cons[c.toNat] so) := by rw [metA, hget]; simp only [hso]
  generalize hS : b.cons[c.toNat] = S at *
  rw [hso] at hso2
  cases hso2
  rw [show ((c.toNat : Nat) : Int) = c by omega] at hsg hig
  have hT := ty_ok hz fb hf b0 b1 os.args fs.args hrow hsg (e := b.sorts.length + c) (by omega) (by omega)
  have hv := hT.vw
  have hfl := fin_le S.args (b.sorts.length + c)
  have hal := fs.args.1
  have hsl := (List.getElem?_eq_some_iff.1 hso).1
  obtain ⟨hOwn, oOwn⟩ := own8_ok (vwOf b base S.args (b.sorts.length + c)) hv (finL (b.sorts.length + c) S.args) (by omega) (by omega)
  have e3 : (vwOf b base S.args (b.sorts.length + c)).pos = posL (b.sorts.length + c) S.args := rfl
  rw [e3] at hOwn oOwn
  have hSh := show_ok b base (b.sorts.length + c) S.args hal (by omega) (by omega)
  have hxf : ∀ x ∈ S.idx, formedM x = true ∧ okT x ∧ nodes x ≤ 9000 := fun x hx => by
    have hnx : nodes x ≤ 9000 := Nat.le_trans (sum_mem (List.mem_map.2 ⟨_, hx, rfl⟩)) fs.idx
    have hin : inM x S.args.length = true := con_idx hcon hx
    exact ⟨(in_facts hin (by omega) (by omega) (by omega)).2.1, os.idx.2 _ hx, hnx⟩
  have hig' : indF 9000 (plV (vwOf b base S.args (b.sorts.length + c)) S.args.length 0) so S.idx c = true := by
    have e : plV (vwOf b base S.args (b.sorts.length + c)) S.args.length 0 = ⟨b, base, S.args, 0⟩ := by simp only [plV, vwOf, List.take_length]
    rw [e]; exact hig
  have hI := indices8_ok (vwOf b base S.args (b.sorts.length + c)) hv 9000 (by omega) S.sort so s0 hso S.idx hil2 S.args.length (Nat.le_refl _) 0 (finL (b.sorts.length + c) S.args) (by omega) (by omega) (by omega) (by omega) c hxf hig'
  have hF := constructor_ok b base c
  have hfi := constructor_is hf b0 (by omega : base ≤ 65535) c
  rw [if_pos ⟨k0, k1⟩] at hfi
  have hdl := decs_le b.sorts
  have hC := tc_ok (constructor_ b base c)
  have oC : okT (tC (constructor_ b base c)) := okT_leaf (by omega) (by omega)
  have hSp := spine_ok (tC (constructor_ b base c)) ((posL (b.sorts.length + c) S.args).map fun p => lv p (finL (b.sorts.length + c) S.args)) (by rw [List.length_map, pos_len]; omega) oC ⟨by rw [List.length_map, pos_len]; omega, oOwn⟩
  have oSp := sp_okT _ _ oC oOwn
  have hL := level_ok8 S.sort (finL (b.sorts.length + c) S.args) (by omega) (by omega) (by omega) (by omega)
  have oL := lv_okT (l := S.sort) (vars := finL (b.sorts.length + c) S.args) (by omega) (by omega) (by omega) (by omega)
  obtain ⟨hI1, hI2, hI3⟩ := hI
  have eT' : metT b base c S so = nestT 4 (tyL (vwOf b base S.args (b.sorts.length + c)) 9000 0 S.args) (spT (lv S.sort (finL (b.sorts.length + c) S.args)) (inT (vwOf b base S.args (b.sorts.length + c)) 9000 so S.idx S.args.length 0 (finL (b.sorts.length + c) S.args) ++ [spT (tC (constructor_ b base c)) ((posL (b.sorts.length + c) S.args).map fun p => lv p (finL (b.sorts.length + c) S.args))])) := rfl
  have e1 : metE b base c = checkM (metT b base c S so) := by rw [metE, if_pos hm, hao]
  have e2 : metR b base c = rightT (metT b base c S so) := by rw [metR, rightT, e1, hao]; rfl
  rw [e1, e2]
  rw [eT']
  clear e1 e2 eT'
  rw [hm] at hM
  generalize spT (tC (constructor_ b base c)) ((posL (b.sorts.length + c) S.args).map fun p => lv p (finL (b.sorts.length + c) S.args)) = SP at *
  generalize inT (vwOf b base S.args (b.sorts.length + c)) 9000 so S.idx S.args.length 0 (finL (b.sorts.length + c) S.args) = J at *
  generalize lv S.sort (finL (b.sorts.length + c) S.args) = L2 at *
  have oJ : ∀ y ∈ J ++ [SP], okT y := fun y hy => by
    rcases List.mem_append.1 hy with hy | hy
    · exact hI2 y hy
    · rw [List.mem_singleton] at hy; subst hy; exact oSp
  have hS2 := spine_ok L2 (J ++ [SP]) (by rw [List.length_append, List.length_singleton]; omega) oL ⟨by rw [List.length_append, List.length_singleton]; omega, oJ⟩
  have oS2 := sp_okT (J ++ [SP]) _ oL oJ
  generalize spT L2 (J ++ [SP]) = S2 at *
  have hD := done8_ok (vwOf b base S.args (b.sorts.length + c)) 9000 (by omega) (by omega) c hT _ oS2
  have e0 : (vwOf b base S.args (b.sorts.length + c)).args = S.args := rfl
  rw [e0] at hD
  clear hT hv oOwn oC oSp hrow hsg os fs oJ oS2 hig hig' hxf hcon
  have w1 : IntKind.i64.wrap ((b.sorts.length : Int) + c) = b.sorts.length + c := wrap_id (by omega) (by omega)
  have e4 : cVw (vwOf b base S.args (b.sorts.length + c)) = cBl b ++ [.int .i64 base, eArs S.args, .sl 1 ((posL (b.sorts.length + c) S.args).map (.int .i64)), .int .i64 (finL (b.sorts.length + c) S.args)] := rfl
  have e5 : cVw ⟨b, base, S.args, posL (b.sorts.length + c) S.args, finL (b.sorts.length + c) S.args⟩ = cBl b ++ [.int .i64 base, eArs S.args, .sl 1 ((posL (b.sorts.length + c) S.args).map (.int .i64)), .int .i64 (finL (b.sorts.length + c) S.args)] := rfl
  rw [e4] at hOwn hD hI1
  rw [e5] at hSh
  generalize nestT 4 (tyL (vwOf b base S.args (b.sorts.length + c)) 9000 0 S.args) S2 = MT at *
  generalize checkM MT = CE at *
  generalize rightT MT = RT at *
  generalize ((posL (b.sorts.length + c) S.args).map fun p => lv p (finL (b.sorts.length + c) S.args)) = OW at *
  generalize constructor_ b base c = FO at *
  refine p_disp_Method rfl fun hs => ?_
  simp only [eBl, cBl, eCos, cT, eTs, eArs, tC, tk, tn, tks, List.map_nil, List.map_cons, List.map_append, eT_eq, List.cons_append, List.nil_append] at hM hOwn hSh hF hC hSp hL hS2 hD hI1
  simp -dsimp [x_disp_Method, eBl, cBl, eCos]
  refine call_of hM ?_
  simp -dsimp [k0, hlt, hS, hget, eCo, cCo, cT, eArs, eTs, w1, eSos]
  simp only [eSos] at hSh hF hI1 hD hOwn
  refine call_of hSh ?_
  simp -dsimp
  refine callO_of hI1 (by simp [rowsV, rowsC, RV.cells]) ?_
  simp -dsimp
  refine call_of hF ?_
  simp -dsimp
  refine call_of hC ?_
  simp -dsimp
  refine call_of hOwn ?_
  simp -dsimp
  refine call_of hSp ?_
  simp -dsimp [cT, room41 hI3 trivial]
  refine call_of hL ?_
  simp -dsimp [cT]
  refine call_of hS2 ?_
  simp -dsimp [cT]
  refine call_of hD ?_
  simp -dsimp [cT]
end
end Ev
end Go.Proofs.YtjebpfhffenbnaaGreat
