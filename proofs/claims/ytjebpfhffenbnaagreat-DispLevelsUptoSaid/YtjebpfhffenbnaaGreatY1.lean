/- DispLevels: what hangs on the eliminators' level. -/
import Derived.Test.YtjebpfhffenbnaaGreatV6
import Derived.Test.YtjebpfhffenbnaaGreatW5
namespace Go.Proofs.YtjebpfhffenbnaaGreat
namespace Ev
open Go
set_option maxRecDepth 100000
set_option linter.unusedSimpArgs false
set_option linter.unusedVariables false
def lvB (b : Bl) (e : Int) : Bl := ⟨b.sorts, b.cons, e⟩
theorem lv_few (b : Bl) (e base : Int) (m : Int) : Few b (lvB b e) base m := ⟨rfl, fun _ _ h => h, fun _ _ _ => rfl, fun _ _ _ _ => rfl, fun _ _ => rfl⟩
theorem lv_pos {b : Bl} (ob : okBl b) (e : Int) {base : Int} {n : Nat} (h : posF n b base = true) : posF n (lvB b e) base = true := by
  have F := lv_few b e base b.cons.length
  rw [posF, Bool.and_eq_true] at h ⊢
  refine ⟨allI_mono (fun j hj hx => ?_) h.1, (allI_iff _ _ _).2 fun j hj => ?_⟩
  · have os := ob.sorts _ (List.getElem_mem hj)
    rw [sortF, Bool.and_eq_true] at hx ⊢
    refine ⟨row_few F (by omega) os.idx hx.1, ?_⟩
    have h2 := hx.2
    rw [Bool.or_eq_true] at h2 ⊢
    rcases h2 with h2 | h2
    · exact .inl h2
    · exact .inr (clean_few F n _ _ _ os.dty h2)
  · rw [Nat.zero_add]
    have hjc : j < b.cons.length := hj
    have hx := (allI_iff _ _ _).1 h.2 j hjc
    rw [Nat.zero_add] at hx
    have oc := ob.cons _ (List.getElem_mem hjc)
    show conF n (lvB b e) base j b.cons[j] = true
    generalize b.cons[j] = c at *
    rw [conF, Bool.and_eq_true] at hx ⊢
    refine ⟨row_few F (by omega) oc.args hx.1, ?_⟩
    have h2 := hx.2
    have hs : (lvB b e).sorts = b.sorts := rfl
    rw [hs]
    cases hso : b.sorts[c.sort.toNat]? with
    | none => rw [hso] at h2; cases h2
    | some so =>
      rw [hso] at h2
      dsimp only at h2 ⊢
      rw [Bool.and_eq_true] at h2 ⊢
      refine ⟨ind_few F (by omega) oc.idx.2 h2.1, ?_⟩
      have h3 := h2.2
      rw [Bool.or_eq_true] at h3 ⊢
      rcases h3 with h3 | h3
      · exact .inl h3
      · exact .inr (clean_few F n _ _ _ oc.dec h3)
theorem rowM_sorts (b b' : Bl) (hs : b'.sorts = b.sorts) (l : List Ar) : rowM b' l = rowM b l := by
  rw [rowM, rowM]
  congr 1
  simp only [argM, hs]
theorem lv_check {b : Bl} {e : Int} (he : 0 ≤ e ∧ e ≤ 6) (hz : checkB b = 0) : checkB (lvB b e) = 0 := by
  obtain ⟨z1, z4, z8, zl, zs, zc⟩ := (checkB_zero b).1 hz
  refine (checkB_zero _).2 ⟨z1, z4, z8, by rw [show (lvB b e).elim = e from rfl, levelM]; simp; omega, fun j hj => ?_, fun c hc => ?_⟩
  · have := zs j hj
    rw [sortM, rowM_sorts b (lvB b e) rfl]
    rw [sortM] at this
    exact this
  · have := zc c hc
    rw [conM, rowM_sorts b (lvB b e) rfl]
    rw [conM] at this
    exact this
theorem lv_posit {b : Bl} (ob : okBl b) {e : Int} (he : 0 ≤ e ∧ e ≤ 6) {base : Int} (h : positE 9000 b base = 0) : positE 9000 (lvB b e) base = 0 := by
  obtain ⟨hz, b0, b1, hp⟩ := posE_zero8 h
  rw [positE, if_pos (lv_check he hz), if_neg (by omega), lv_pos ob e hp]
  rfl
def lvV (v : Vw) (e : Int) : Vw := ⟨lvB v.b e, v.base, v.args, v.pos, v.fin⟩
theorem lv_shT (v : Vw) (e : Int) (first : Nat) (more vars : Int) : ∀ (n : Nat) (t : T), shT (lvV v e) first more vars n t = shT v first more vars n t := by
  intro n
  induction n with
  | zero => intro t; rfl
  | succ n ih =>
    intro t
    have hf : shT (lvV v e) first more vars n = shT v first more vars n := funext ih
    rw [shT, shT, hf]
    rfl
theorem lv_inT (v : Vw) (e : Int) (n : Nat) (so : So) (l : List T) (first : Nat) (more vars : Int) : inT (lvV v e) n so l first more vars = inT v n so l first more vars := by
  have hf : shT (lvV v e) first more vars n = shT v first more vars n := funext (lv_shT v e first more vars n)
  rw [inT, inT, hf]
  rfl
theorem lv_dmP (v : Vw) (e : Int) (first : Nat) (vars : Int) : ∀ (l : List T) (j : Nat), dmP (lvV v e) first vars j l = dmP v first vars j l
  | [], _ => rfl
  | d :: ds, j => by rw [dmP, dmP, lv_dmP v e first vars ds]; rfl
theorem lv_tyA (v : Vw) (e : Int) (n i : Nat) (p : Int) (a : Ar) : tyA (lvV v e) n i p a = tyA v n i p a := by
  rw [tyA, tyA, lv_dmP]
  have h1 : putT (lvV v e) (argTy (lvV v e).b (lvV v e).base a) i 0 p = putT v (argTy v.b v.base a) i 0 p := rfl
  have h2 : (lvV v e).b.sorts = v.b.sorts := rfl
  rw [h1, h2]
  cases v.b.sorts[a.sort.toNat]? with
  | none => rfl
  | some so => simp only [lv_inT]
theorem lv_tyL (v : Vw) (e : Int) (n : Nat) : ∀ (l : List Ar) (i : Nat), tyL (lvV v e) n i l = tyL v n i l
  | [], _ => rfl
  | a :: l, i => by rw [tyL, tyL, lv_tyA, lv_tyL v e n l]; rfl
theorem lv_metT (b : Bl) (e base c : Int) (x : Co) (so : So) : metT (lvB b e) base c x so = metT b base c x so := by
  have h : metV (lvB b e) base c x = lvV (metV b base c x) e := rfl
  rw [metT, metT, h, lv_tyL, lv_inT]
  rfl
theorem lv_metA (b : Bl) (e base c : Int) : metA (lvB b e) base c = metA b base c := by
  have h1 : (lvB b e).cons = b.cons := rfl
  have h2 : (lvB b e).sorts = b.sorts := rfl
  rw [metA, metA, h1]
  cases b.cons[c.toNat]? with
  | none => rfl
  | some x =>
    simp only
    rw [h2]
    cases b.sorts[x.sort.toNat]? with
    | none => rfl
    | some so => simp only [lv_metT]
theorem lv_met {b : Bl} (ob : okBl b) {e : Int} (he : 0 ≤ e ∧ e ≤ 6) {base c : Int} (h : positE 9000 b base = 0) : metE (lvB b e) base c = metE b base c ∧ metR (lvB b e) base c = metR b base c := by
  have hm : mayP (lvB b e) base c (lvB b e).cons.length = mayP b base c b.cons.length := by
    rw [mayP, mayP, lv_posit ob he h, h]; rfl
  have he' : metE (lvB b e) base c = metE b base c := by rw [metE, metE, hm, lv_metA]
  exact ⟨he', by rw [metR, metR, he', lv_metA]⟩
/-- A motive's parts. -/
def motL (b : Bl) (base k : Int) (so : So) : List T := tyL (vwOf b base so.idx k) 9000 0 so.idx ++ [spT (tC (former b base k)) ((posL k so.idx).map fun p => lv p (finL k so.idx))]
theorem nest_snoc (l : List T) (a t : T) : nestT 4 l (.mk 4 0 [a, t]) = nestT 4 (l ++ [a]) t := by
  induction l with
  | nil => rfl
  | cons x xs ih => rw [List.cons_append]; show T.mk 4 0 [x, nestT 4 xs _] = T.mk 4 0 [x, nestT 4 (xs ++ [a]) t]; rw [ih]
theorem mot_is (b : Bl) (base k : Int) (so : So) : motT b base k so = nestT 4 (motL b base k so) (.mk 2 b.elim []) := by rw [motT, nest_snoc, motL]
theorem lv_motL (b : Bl) (e base k : Int) (so : So) : motL (lvB b e) base k so = motL b base k so := by
  have h : vwOf (lvB b e) base so.idx k = lvV (vwOf b base so.idx k) e := rfl
  rw [motL, motL, h, lv_tyL]
  rfl
end Ev
end Go.Proofs.YtjebpfhffenbnaaGreat
