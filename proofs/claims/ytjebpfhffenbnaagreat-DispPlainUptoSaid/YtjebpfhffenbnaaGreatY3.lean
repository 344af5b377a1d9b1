/- DispPlain. -/
import Derived.Test.YtjebpfhffenbnaaGreatY2
import Derived.Test.YtjebpfhffenbnaaGreatH7
namespace Go.Proofs.YtjebpfhffenbnaaGreat
namespace Ev
open Go
set_option maxRecDepth 100000
set_option linter.unusedSimpArgs false
set_option linter.unusedVariables false
section
attribute [local simp] allD_map_d sks_map_d tk tn tks initA EndsM one_sos one_cos one_ars one_ts
theorem map_id8 {f : Int → Int → T} (h : ∀ n b : Int, 0 ≤ b → f n b = .mk 1 n []) (t : T) : ∀ b : Int, 0 ≤ b → formedM t = true → mapT f t b = t := by
  refine T.ind (p := fun t => ∀ b : Int, 0 ≤ b → formedM t = true → mapT f t b = t) ?_ t
  intro k n ks ih b hb ft
  rw [mapT]
  by_cases h1 : k = 1
  · rw [if_pos h1, h n b hb]
    subst h1
    rw [var_leaf rfl ft]
  · rw [if_neg h1]
    congr 1
    apply List.ext_getElem (by rw [mapL_len])
    intro j h2 h3
    have hbl := binds_le k (0 + j : Nat)
    rw [mapL_get f k b ks 0 j h3]
    exact ih _ (List.getElem_mem h3) _ (by omega) (kids_formed ft _ (List.getElem_mem h3))
theorem fin_plain : ∀ (l : List Ar) (e : Int), (∀ a ∈ l, a.rc = false) → finL e l = e + l.length
  | [], e, _ => by simp [finL]
  | a :: l, e, h => by
    rw [finL, h a (by simp), fin_plain l _ fun x hx => h x (by simp [hx])]
    simp only [Bool.false_eq_true, if_false, List.length_cons]
    omega
theorem pos_plain8 {l : List Ar} (e : Int) (h : ∀ a ∈ l, a.rc = false) (i : Nat) (hi : i < l.length) : (posL e l)[i]? = some (e + i) := by
  have hi' : i < (posL e l).length := by rw [pos_len]; exact hi
  rw [List.getElem?_eq_getElem hi', pos_at, fin_plain _ _ fun a ha => h a (List.mem_of_mem_take ha), List.length_take]
  congr 2
  omega
theorem put_id {b : Bl} {base e : Int} {l : List Ar} (h : ∀ a ∈ l, a.rc = false) {t : T} (ft : formedM t = true) (i : Nat) (hi : i ≤ l.length) : putT (vwOf b base l e) t i 0 (e + i) = t := by
  refine map_id8 (fun n c hc => ?_) t 0 (by omega) ft
  rw [putF]
  split
  · rfl
  · have hj : i - 1 - (n - (0 + c)).toNat < l.length := by omega
    have := pos_plain8 (e := e) h _ hj
    rw [show (vwOf b base l e).pos = posL e l from rfl, this, Option.getD_some]
    congr 1
    omega
theorem ty_plain {b : Bl} {base e : Int} {l : List Ar} (h : ∀ a ∈ l, a.rc = false) (hf : ∀ a ∈ l, formedM (argTy b base a) = true) (n : Nat) : tyL (vwOf b base l e) n 0 l = l.map (argTy b base) := by
  have go : ∀ j, j ≤ l.length → tyL (vwOf b base l e) n 0 (l.take j) = (l.take j).map (argTy b base) := by
    intro j
    induction j with
    | zero => intro _; rfl
    | succ j ih =>
      intro hj
      have hlt : j < l.length := by omega
      rw [tyL_snoc _ _ _ _ _ hlt, ih (by omega), take_snoc (List.getElem?_eq_getElem hlt), List.map_append, Nat.zero_add]
      have hm := List.getElem_mem hlt
      rw [show (vwOf b base l e).pos = posL e l from rfl, pos_plain8 e h j hlt, Option.getD_some, tyA, h _ hm]
      simp only [Bool.false_eq_true, if_false, List.map_cons, List.map_nil]
      rw [show (vwOf b base l e).b = b from rfl, show (vwOf b base l e).base = base from rfl, put_id h (hf _ hm) j (by omega)]
  have := go l.length (Nat.le_refl _)
  rwa [List.take_length] at this
theorem shA_plain {pt sh : T → T} : ∀ (ar : List Ar) (xs : List T), (∀ a ∈ ar, a.rc = false) → xs.length = ar.length → (∀ x ∈ xs, pt x = x) → shA pt sh ar xs = xs
  | [], [], _, _, _ => rfl
  | a :: ar, x :: xs, h, hl, hp => by
    rw [shA, h a (by simp), hp x (by simp), shA_plain ar xs (fun y hy => h y (by simp [hy])) (by simpa using hl) fun y hy => hp y (by simp [hy])]
    rfl
theorem anyRec_ok (l : List Ar) (hl : l.length ≤ 1000000) : Pure Tryz.prog n_porismlaw11_anyRec [eArs l] [.bool (l.any (·.rc))] := by
  refine p_porismlaw11_anyRec rfl fun hs => ?_
  generalize hV : l.any (·.rc) = V
  simp -dsimp [x_porismlaw11_anyRec, eArs]
  refine wp_upto l.length (fun i st => st.s 0 = .d (eArs l) ∧ st.s 3 = .d (.int .i64 i) ∧ ∀ (j : Nat) (hj : j < l.length), j < i → l[j].rc = false) ?_ ?_
  · simp -dsimp [eArs]
  · rintro i ⟨s, hp⟩ hi ⟨g0, g3, g⟩
    dsimp only at g0 g3
    simp only [eArs] at g0
    rcases Nat.lt_or_ge i l.length with hlt | hge
    · have w1 : IntKind.i64.wrap ((i : Int) + 1) = (i : Int) + 1 := wrap_id (by omega) (by omega)
      have hm := List.getElem_mem hlt
      have hnx : l[i].rc = false → ∀ (j : Nat) (hj : j < l.length), j < i + 1 → l[j].rc = false := fun h j hj hji => by
        rcases Nat.lt_or_ge j i with h' | h'
        · exact g j hj h'
        · have : j = i := by omega
          subst this
          exact h
      have hbad : l[i].rc = true → V = true := fun h => by rw [← hV]; exact List.any_eq_true.2 ⟨_, hm, h⟩
      generalize hR : l[i] = R at *
      cases hr : R.rc with
      | true =>
        have hv := hbad hr
        simp -dsimp [g0, g3, hlt, hR, hr, eAr, cAr, cT, hv]
      | false =>
        have hnx' := hnx hr
        simp -dsimp [g0, g3, hlt, hR, hr, eAr, cAr, cT, w1, eArs]
        exact hnx'
    · have e : i = l.length := by omega
      subst e
      have hv : V = false := by
        rw [← hV, List.any_eq_false]
        intro a ha
        obtain ⟨j, hj, rfl⟩ := List.mem_iff_getElem.1 ha
        rw [g j hj hj]; simp
      simp -dsimp [g0, g3, hv]
/-- A method's parts. -/
def metB (b : Bl) (base c : Int) (x : Co) (so : So) : T := spT (lv x.sort (metV b base c x).fin) (inT (metV b base c x) 9000 so x.idx x.args.length 0 (metV b base c x).fin ++ [spT (tC (constructor_ b base c)) ((metV b base c x).pos.map fun p => lv p (metV b base c x).fin)])
structure MetOk (b : Bl) (base c : Int) (x : Co) (so : So) : Prop where
  oL : ∀ y ∈ tyL (metV b base c x) 9000 0 x.args, okT y
  lL : (tyL (metV b base c x) 9000 0 x.args).length ≤ 40
  oJ : ∀ y ∈ inT (metV b base c x) 9000 so x.idx x.args.length 0 (metV b base c x).fin ++ [spT (tC (constructor_ b base c)) ((metV b base c x).pos.map fun p => lv p (metV b base c x).fin)], okT y
  lJ : (inT (metV b base c x) 9000 so x.idx x.args.length 0 (metV b base c x).fin).length ≤ 40
  oH : okT (lv x.sort (metV b base c x).fin)
  oO : ∀ y ∈ (metV b base c x).pos.map (fun p => lv p (metV b base c x).fin), okT y
theorem metOk {b : Bl} (ob : okBl b) (fb : FineBl b) (hf : Fit b) {base c : Int} (hp : positE 9000 b base = 0) (b1 : base ≤ 60000) (k0 : 0 ≤ c) {S : Co} (hk : b.cons[c.toNat]? = some S) {so : So} (hso : b.sorts[S.sort.toNat]? = some so) : MetOk b base c S so := by
  obtain ⟨hz, b0, _, hpos⟩ := posE_zero8 hp
  obtain ⟨z1, z4, z8, zl, zs, zc⟩ := (checkB_zero b).1 hz
  obtain ⟨hlt, hS⟩ := List.getElem?_eq_some_iff.1 hk
  obtain ⟨hsg, so1, hso1, hig⟩ := con_good hpos hk
  have os := ob.cons _ (List.getElem_mem hlt)
  have fs := fb.cons _ (List.getElem_mem hlt)
  have hcon := zc _ (List.getElem_mem hlt)
  rw [hS] at os fs hcon
  obtain ⟨hrow, s0, so2, hso2, hil2⟩ := con_parts hcon
  rw [hso] at hso1 hso2
  cases hso1
  cases hso2
  rw [show ((c.toNat : Nat) : Int) = c by omega] at hsg hig
  have hT := ty_ok hz fb hf b0 b1 os.args fs.args hrow hsg (e := b.sorts.length + c) (by omega) (by omega)
  have hv := hT.vw
  have hfl := fin_le S.args (b.sorts.length + c)
  have hal := fs.args.1
  have hsl := (List.getElem?_eq_some_iff.1 hso).1
  obtain ⟨_, oOwn⟩ := own8_ok (vwOf b base S.args (b.sorts.length + c)) hv (finL (b.sorts.length + c) S.args) (by omega) (by omega)
  have hxf : ∀ x ∈ S.idx, formedM x = true ∧ okT x ∧ nodes x ≤ 9000 := fun x hx => by
    have hnx : nodes x ≤ 9000 := Nat.le_trans (sum_mem (List.mem_map.2 ⟨_, hx, rfl⟩)) fs.idx
    have hin : inM x S.args.length = true := con_idx hcon hx
    exact ⟨(in_facts hin (by omega) (by omega) (by omega)).2.1, os.idx.2 _ hx, hnx⟩
  have hig' : indF 9000 (plV (vwOf b base S.args (b.sorts.length + c)) S.args.length 0) so S.idx c = true := by
    have e : plV (vwOf b base S.args (b.sorts.length + c)) S.args.length 0 = ⟨b, base, S.args, 0⟩ := by simp only [plV, vwOf, List.take_length]
    rw [e]; exact hig
  obtain ⟨hI1, hI2, hI3⟩ := indices8_ok (vwOf b base S.args (b.sorts.length + c)) hv 9000 (by omega) S.sort so s0 hso S.idx hil2 S.args.length (Nat.le_refl _) 0 (finL (b.sorts.length + c) S.args) (by omega) (by omega) (by omega) (by omega) c hxf hig'
  have hfi := constructor_is hf b0 (by omega : base ≤ 65535) c
  rw [if_pos ⟨k0, by omega⟩] at hfi
  have hdl := decs_le b.sorts
  have oC : okT (tC (constructor_ b base c)) := okT_leaf (by omega) (by omega)
  have oSp := sp_okT _ _ oC oOwn
  obtain ⟨_, h2, h3⟩ := types8_ok (vwOf b base S.args (b.sorts.length + c)) 9000 (by omega) (by omega) c hT
  refine ⟨h2, h3, fun y hy => ?_, hI3, lv_okT (by omega) (by omega) (by show _ ≤ finL _ _; omega) (by show finL _ _ ≤ _; omega), oOwn⟩
  rcases List.mem_append.1 hy with hy | hy
  · exact hI2 y hy
  · rw [List.mem_singleton] at hy
    subst hy
    exact oSp
theorem met_at {b : Bl} {base c : Int} (hp : positE 9000 b base = 0) (k0 : 0 ≤ c) {S : Co} (hk : b.cons[c.toNat]? = some S) {so : So} (hso : b.sorts[S.sort.toNat]? = some so) : metE b base c = checkM (metT b base c S so) ∧ metR b base c = rightT (metT b base c S so) := by
  have hlt := (List.getElem?_eq_some_iff.1 hk).1
  have hm : mayP b base c b.cons.length = 0 := by rw [mayP, if_neg (by omega), hp]
  have ha : metA b base c = some (metT b base c S so) := by rw [metA, hk]; simp only [hso]
  have e : metE b base c = checkM (metT b base c S so) := by rw [metE, if_pos hm, ha]
  exact ⟨e, by rw [metR, rightT, e, ha]; rfl⟩
theorem met_unpis {b : Bl} {base c : Int} {S : Co} {so : So} (M : MetOk b base c S so) :
    Pure Tryz.prog n_porismref01_Unpis [.agg (cT (metT b base c S so))] [eTs (tyL (metV b base c S) 9000 0 S.args), .agg (cT (metB b base c S so))] := by
  have hk : (metB b base c S so).kind ≠ 4 := sp_kind _ _ (by show (1 : Int) ≠ 4; decide)
  have e := pi_back (tyL (metV b base c S) 9000 0 S.args) (metB b base c S so)
  have e2 := pi_head hk
  rw [e2.1, e2.2, List.append_nil] at e
  have e3 : metT b base c S so = nestT 4 (tyL (metV b base c S) 9000 0 S.args) (metB b base c S so) := rfl
  rw [← e3] at e
  have oB : okT (metB b base c S so) := sp_okT _ _ M.oH M.oJ
  have h := runpis_ok (metT b base c S so) (by rw [e.1]; have := M.lL; omega) (by rw [e.2]; exact oB) (by rw [e.1]; exact ⟨by have := M.lL; omega, M.oL⟩)
  rw [e.1, e.2] at h
  exact h
end
end Ev
end Go.Proofs.YtjebpfhffenbnaaGreat
