/- DispPlain. -/
import Derived.Test.YtjebpfhffenbnaaGreatY2
import Derived.Test.YtjebpfhffenbnaaGreatH7
namespace Go.Proofs.YtjebpfhffenbnaaGreat
namespace Ev
open Go
set_option maxRecDepth 100000
set_option linter.unusedSimpArgs false
set_option linter.unusedVariables false
section
attribute [local simp] allD_map_d sks_map_d tk tn tks initA EndsM one_sos one_cos one_ars one_ts
/-- A method's parts. -/
def metB (b : Bl) (base c : Int) (x : Co) (so : So) : T := spT (lv x.sort (metV b base c x).fin) (inT (metV b base c x) 9000 so x.idx x.args.length 0 (metV b base c x).fin ++ [spT (tC (constructor_ b base c)) ((metV b base c x).pos.map fun p => lv p (metV b base c x).fin)])
structure MetOk (b : Bl) (base c : Int) (x : Co) (so : So) : Prop where
  oL : ∀ y ∈ tyL (metV b base c x) 9000 0 x.args, okT y
  lL : (tyL (metV b base c x) 9000 0 x.args).length ≤ 40
  oJ : ∀ y ∈ inT (metV b base c x) 9000 so x.idx x.args.length 0 (metV b base c x).fin ++ [spT (tC (constructor_ b base c)) ((metV b base c x).pos.map fun p => lv p (metV b base c x).fin)], okT y
  lJ : (inT (metV b base c x) 9000 so x.idx x.args.length 0 (metV b base c x).fin).length ≤ 40
  oH : okT (lv x.sort (metV b base c x).fin)
  oO : ∀ y ∈ (metV b base c x).pos.map (fun p => lv p (metV b base c x).fin), okT y
theorem metOk {b : Bl} (ob : okBl b) (fb : FineBl b) (hf : Fit b) {base c : Int} (hp : positE 9000 b base = 0) (b1 : base ≤ 60000) (k0 : 0 ≤ c) {S : Co} (hk : b.cons[c.toNat]? = some S) {so : So} (hso : b.sorts[S.sort.toNat]? = some so) : MetOk b base c S so := by
  obtain ⟨hz, b0, _, hpos⟩ := posE_zero8 hp
  obtain ⟨z1, z4, z8, zl, zs, zc⟩ := (checkB_zero b).1 hz
  obtain ⟨hlt, hS⟩ := List.getElem?_eq_some_iff.1 hk
  obtain ⟨hsg, so1, hso1, hig⟩ := con_good hpos hk
  have os := ob.cons _ (List.getElem_mem hlt)
  have fs := fb.cons _ (List.getElem_mem hlt)
  have hcon := zc _ (List.getElem_mem hlt)
  rw [hS] at os fs hcon
  obtain ⟨hrow, s0, so2, hso2, hil2⟩ := con_parts hcon
  rw [hso] at hso1 hso2
  cases hso1
  cases hso2
  rw [show ((c.toNat : Nat) : Int) = c by omega] at hsg hig
  have hT := ty_ok hz fb hf b0 b1 os.args fs.args hrow hsg (e := b.sorts.length + c) (by omega) (by omega)
  have hv := hT.vw
  have hfl := fin_le S.args (b.sorts.length + c)
  have hal := fs.args.1
  have hsl := (List.getElem?_eq_some_iff.1 hso).1
  obtain ⟨_, oOwn⟩ := own8_ok (vwOf b base S.args (b.sorts.length + c)) hv (finL (b.sorts.length + c) S.args) (by omega) (by omega)
  have hxf : ∀ x ∈ S.idx, formedM x = true ∧ okT x ∧ nodes x ≤ 9000 := fun x hx => by
    have hnx : nodes x ≤ 9000 := Nat.le_trans (sum_mem (List.mem_map.2 ⟨_, hx, rfl⟩)) fs.idx
    have hin : inM x S.args.length = true := con_idx hcon hx
    exact ⟨(in_facts hin (by omega) (by omega) (by omega)).2.1, os.idx.2 _ hx, hnx⟩
  have hig' : indF 9000 (plV (vwOf b base S.args (b.sorts.length + c)) S.args.length 0) so S.idx c = true := by
    have e : plV (vwOf b base S.args (b.sorts.length + c)) S.args.length 0 = ⟨b, base, S.args, 0⟩ := by simp only [plV, vwOf, List.take_length]
    rw [e]; exact hig
  obtain ⟨hI1, hI2, hI3⟩ := indices8_ok (vwOf b base S.args (b.sorts.length + c)) hv 9000 (by omega) S.sort so s0 hso S.idx hil2 S.args.length (Nat.le_refl _) 0 (finL (b.sorts.length + c) S.args) (by omega) (by omega) (by omega) (by omega) c hxf hig'
  have hfi := constructor_is hf b0 (by omega : base ≤ 65535) c
  rw [if_pos ⟨k0, by omega⟩] at hfi
  have hdl := decs_le b.sorts
  have oC : okT (tC (constructor_ b base c)) := okT_leaf (by omega) (by omega)
  have oSp := sp_okT _ _ oC oOwn
  obtain ⟨_, h2, h3⟩ := types8_ok (vwOf b base S.args (b.sorts.length + c)) 9000 (by omega) (by omega) c hT
  refine ⟨h2, h3, fun y hy => ?_, hI3, lv_okT (by omega) (by omega) (by show _ ≤ finL _ _; omega) (by show finL _ _ ≤ _; omega), oOwn⟩
  rcases List.mem_append.1 hy with hy | hy
  · exact hI2 y hy
  · rw [List.mem_singleton] at hy
    subst hy
    exact oSp
theorem met_at {b : Bl} {base c : Int} (hp : positE 9000 b base = 0) (k0 : 0 ≤ c) {S : Co} (hk : b.cons[c.toNat]? = some S) {so : So} (hso : b.sorts[S.sort.toNat]? = some so) : metE b base c = checkM (metT b base c S so) ∧ metR b base c = rightT (metT b base c S so) := by
  have hlt := (List.getElem?_eq_some_iff.1 hk).1
  have hm : mayP b base c b.cons.length = 0 := by rw [mayP, if_neg (by omega), hp]
  have ha : metA b base c = some (metT b base c S so) := by rw [metA, hk]; simp only [hso]
  have e : metE b base c = checkM (metT b base c S so) := by rw [metE, if_pos hm, ha]
  exact ⟨e, by rw [metR, rightT, e, ha]; rfl⟩
theorem met_unpis {b : Bl} {base c : Int} {S : Co} {so : So} (M : MetOk b base c S so) :
    Pure Tryz.prog n_porismref01_Unpis [.agg (cT (metT b base c S so))] [eTs (tyL (metV b base c S) 9000 0 S.args), .agg (cT (metB b base c S so))] := by
  have hk : (metB b base c S so).kind ≠ 4 := sp_kind _ _ (by show (1 : Int) ≠ 4; decide)
  have e := pi_back (tyL (metV b base c S) 9000 0 S.args) (metB b base c S so)
  have e2 := pi_head hk
  rw [e2.1, e2.2, List.append_nil] at e
  have e3 : metT b base c S so = nestT 4 (tyL (metV b base c S) 9000 0 S.args) (metB b base c S so) := rfl
  rw [← e3] at e
  have oB : okT (metB b base c S so) := sp_okT _ _ M.oH M.oJ
  have h := runpis_ok (metT b base c S so) (by rw [e.1]; have := M.lL; omega) (by rw [e.2]; exact oB) (by rw [e.1]; exact ⟨by have := M.lL; omega, M.oL⟩)
  rw [e.1, e.2] at h
  exact h
end
end Ev
end Go.Proofs.YtjebpfhffenbnaaGreat
