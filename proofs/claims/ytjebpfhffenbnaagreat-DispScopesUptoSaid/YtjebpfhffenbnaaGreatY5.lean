/- disp: scopes. -/
import Derived.Test.YtjebpfhffenbnaaGreatY3
namespace Go.Proofs.YtjebpfhffenbnaaGreat
namespace Ev
open Go
set_option maxRecDepth 100000
set_option linter.unusedSimpArgs false
set_option linter.unusedVariables false
/-- Right, in so many variables. -/
structure In8 (t : T) (V : Int) : Prop where
  wi : wiT t V 65536 = true
  fm : formedM t = true
theorem map_in8 {f : Int → Int → T} {v w C : Int} (hC : C ≤ 4194304) (hv : ∀ n b : Int, 0 ≤ n → n ≤ 65535 → 0 ≤ b → b ≤ C → n < v + b → In8 (f n b) (w + b)) (t : T) : ∀ b : Int, formedM t = true → 0 ≤ b → b + nodes t ≤ C → wiT t (v + b) 65536 = true → In8 (mapT f t b) (w + b) := by
  refine T.ind (p := fun t => ∀ b : Int, formedM t = true → 0 ≤ b → b + nodes t ≤ C → wiT t (v + b) 65536 = true → In8 (mapT f t b) (w + b)) ?_ t
  intro k n ks ih b hfm h0 hb hw
  rw [mapT]
  by_cases h1 : k = 1
  · have hn := var_formed h1 hfm
    rw [wiT, if_pos h1] at hw
    rw [if_pos h1]
    exact hv n b hn.1 hn.2 h0 (by omega) (by simpa using hw)
  · rw [if_neg h1]
    by_cases h2 : k = 2
    · subst h2
      rw [wiT, if_neg (by decide), if_pos rfl] at hw
      have hks : ks = [] := by
        have := hfm
        rw [formedM_is] at this
        split at this
        · rename_i hl
          exact List.length_eq_zero_iff.1 (by have h0 : kidsM 2 = 0 := rfl; omega)
        · cases this
      subst hks
      refine ⟨by rw [mapL, wiT, if_neg (by decide), if_pos rfl]; exact hw, by rw [mapL]; exact hfm⟩
    by_cases h3 : k = 3
    · subst h3
      rw [wiT, if_neg (by decide), if_neg (by decide), if_pos rfl] at hw
      have hks : ks = [] := by
        have := hfm
        rw [formedM_is] at this
        split at this
        · rename_i hl
          exact List.length_eq_zero_iff.1 (by have h0 : kidsM 3 = 0 := rfl; omega)
        · cases this
      subst hks
      refine ⟨by rw [mapL, wiT, if_neg (by decide), if_neg (by decide), if_pos rfl]; exact hw, by rw [mapL]; exact hfm⟩
    rw [wiT, if_neg h1, if_neg h2, if_neg h3, wiL_at] at hw
    have key : ∀ (j : Nat) (hj : j < ks.length), In8 (mapT f ks[j] (b + bindsM k (0 + j : Nat))) (w + (b + bindsM k (0 + j : Nat))) := fun j hj => by
      have hxn := nodes_kid (k := k) (n := n) (List.getElem_mem hj)
      have hbl := binds_le k (0 + j : Nat)
      have := hw j hj
      rw [show v + b + bindsM k (0 + j : Nat) = v + (b + bindsM k (0 + j : Nat)) by omega] at this
      exact ih ks[j] (List.getElem_mem _) _ (kids_formed hfm _ (List.getElem_mem _)) (by omega) (by omega) this
    refine ⟨?_, formed_node h1 hfm fun j hj => by have := (key j hj).fm; rwa [Nat.zero_add] at this⟩
    rw [wiT, if_neg h1, if_neg h2, if_neg h3, wiL_at]
    intro j hj
    rw [mapL_len] at hj
    rw [mapL_get _ _ _ _ _ _ hj, show w + b + bindsM k (0 + j : Nat) = w + (b + bindsM k (0 + j : Nat)) by omega]
    exact (key j hj).wi
theorem lv_in8 {l vars : Int} (h0 : 0 ≤ l) (h1 : l < vars) (h2 : vars ≤ 60000) : In8 (lv l vars) vars := ⟨wi_var (by omega), var_is_formed ⟨by omega, by omega⟩⟩
theorem sp_in8 {f : T} {l : List T} {V : Int} (hf : In8 f V) (hl : ∀ x ∈ l, In8 x V) : In8 (spT f l) V :=
  ⟨by rw [sp_wi, Bool.and_eq_true, List.all_eq_true]; exact ⟨hf.wi, fun x hx => (hl x hx).wi⟩, sp_formed _ _ hf.fm fun x hx => (hl x hx).fm⟩
theorem nest_in8 {l : List T} {t : T} {V : Int} (hl : ∀ (i : Nat) (h : i < l.length), In8 l[i] (V + i)) (ht : In8 t (V + l.length)) : In8 (nestT 4 l t) V :=
  ⟨nest_wi (.inl rfl) l t V (fun i h => (hl i h).wi) ht.wi, nest_formed4 l t (fun x hx => by obtain ⟨i, hi, rfl⟩ := List.mem_iff_getElem.1 hx; exact (hl i hi).fm) ht.fm⟩
theorem put_in8 {v : Vw} {t : T} {first : Nat} {more vars : Int} (hpos : ∀ j : Nat, j < first → ∃ q, v.pos[j]? = some q ∧ 0 ≤ q ∧ q < vars) (h0 : 0 ≤ more) (h1 : more ≤ 1000) (h2 : 0 ≤ vars) (h3 : vars ≤ 1000) (ft : formedM t = true) (hn : nodes t ≤ 30000) (hw : wiT t (first + more) 65536 = true) :
    In8 (putT v t first more vars) (vars + more) := by
  have := map_in8 (f := putF v.pos first more vars) (v := first + more) (w := vars + more) (C := 30000) (by omega) (fun n b n0 n1 b0 b1 hnb => by
    rw [putF]
    split
    · rename_i hc
      exact ⟨wi_var (by omega), var_is_formed ⟨n0, by omega⟩⟩
    · rename_i hc
      obtain ⟨q, hq, q0, q1⟩ := hpos (first - 1 - (n - (more + b)).toNat) (by omega)
      rw [hq, Option.getD_some]
      exact ⟨wi_var (by omega), var_is_formed ⟨by omega, by omega⟩⟩) t 0 ft (by omega) (by omega) (by rw [Int.add_zero]; exact hw)
  rw [Int.add_zero] at this
  exact this
theorem sp_wi2 (t : T) (V : Int) : wiT t V 65536 = true → wiT (spH t) V 65536 = true ∧ ∀ x ∈ spA t, wiT x V 65536 = true := by
  refine T.ind (p := fun t => wiT t V 65536 = true → wiT (spH t) V 65536 = true ∧ ∀ x ∈ spA t, wiT x V 65536 = true) ?_ t
  intro k n ks ih hw
  by_cases hc : k = 6 ∧ ∃ a b, ks = [a, b]
  · obtain ⟨rfl, a, b, rfl⟩ := hc
    rw [wiT, if_neg (by decide), if_neg (by decide), if_neg (by decide)] at hw
    simp only [wiL, Bool.and_eq_true] at hw
    have b0 : bindsM 6 ((0 : Nat) : Int) = 0 := rfl
    have b1 : bindsM 6 ((0 + 1 : Nat) : Int) = 0 := rfl
    rw [b0, b1, Int.add_zero] at hw
    obtain ⟨i1, i2⟩ := ih a (by simp) hw.1
    rw [(sp_two n a b).1, (sp_two n a b).2]
    refine ⟨i1, fun x hx => ?_⟩
    rcases List.mem_cons.1 hx with rfl | hx
    · exact hw.2.1
    · exact i2 x hx
  · rw [(sp_none hc).1, (sp_none hc).2]
    exact ⟨hw, by simp⟩
/-- What scopes ask of a view. -/
structure Sc8 (v : Vw) (first : Nat) (vars cons : Int) : Prop where
  pos : ∀ j : Nat, j < first → ∃ q, v.pos[j]? = some q ∧ 0 ≤ q ∧ q < vars
  rc : ∀ (j : Nat) a q, j < first → v.args[j]? = some a → a.rc = true → v.pos[j]? = some q → q + 1 < vars
  top : ∀ c : Nat, (c : Int) < cons → (v.b.sorts.length : Int) + c < vars
theorem sh_in8 {v : Vw} {first : Nat} {more vars cons : Int} (S : Sc8 v first vars cons) (hfi : first ≤ v.args.length) (h0 : 0 ≤ more) (h1 : more ≤ 1000) (h2 : 0 ≤ vars) (h3 : vars ≤ 1000) : ∀ (n : Nat) (t : T), formedM t = true → nodes t ≤ n → nodes t ≤ 30000 → wiT t (first + more) 65536 = true →
    (guardB (plV v first more) (spH t) = true ∨ goodF n (plV v first more) t cons = true) → In8 (shT v first more vars n t) (vars + more) := by
  intro n
  induction n with
  | zero => intro t _ h; have := nodes_pos t; omega
  | succ n ih =>
    intro t ft hn hn3 hw hg
    have m1 := (spA_mem t).1
    obtain ⟨fH, fA⟩ := sp_formed2 t ft
    obtain ⟨wH, wA⟩ := sp_wi2 t _ hw
    have hm : ∀ x ∈ (spA t).reverse, nodes x < nodes t ∧ formedM x = true ∧ wiT x (first + more) 65536 = true := fun x hx => ⟨m1 x (by simpa using hx), fA x (by simpa using hx), wA x (by simpa using hx)⟩
    have hput : ∀ x ∈ (spA t).reverse, In8 (putT v x first more vars) (vars + more) := fun x hx => by
      obtain ⟨x1, x2, x3⟩ := hm x hx
      exact put_in8 S.pos h0 h1 h2 h3 x2 (by omega) x3
    by_cases hb : guardB (plV v first more) (spH t) = true
    · obtain ⟨_, j, hj, hjl⟩ := guardB_j hb
      have hjf : j < first := by simp only [plV, List.length_take] at hjl; omega
      obtain ⟨q, hq, q0, q1⟩ := S.pos j hjf
      have hrc : q + 1 < vars := by
        have hb' := hb
        rw [guardB] at hb'
        cases hJ : guardJ (plV v first more) (spH t) with
        | none => rw [hJ] at hb'; cases hb'
        | some j' =>
          rw [hJ] at hb'
          have hje : j' = j := by
            rw [guardN, hJ] at hj
            simp only at hj
            omega
          subst hje
          simp only at hb'
          cases ha : (plV v first more).args[j']? with
          | none => rw [ha] at hb'; cases hb'
          | some a =>
            rw [ha] at hb'
            have ha' : v.args[j']? = some a := by
              simp only [plV, List.getElem?_take] at ha
              rwa [if_pos hjf] at ha
            exact S.rc j' a q hjf ha' hb' hq
      have e : shT v first more vars (n + 1) t = spT (lv (q + 1) (vars + more)) ((spA t).reverse.map fun x => putT v x first more vars) := by
        rw [shT, if_pos hb, hj, Int.toNat_natCast, hq]; rfl
      rw [e]
      refine sp_in8 (lv_in8 (by omega) (by omega) (by omega)) fun y hy => ?_
      obtain ⟨x, hx, rfl⟩ := List.mem_map.1 hy
      exact hput x hx
    · have hgood := hg.resolve_left hb
      rw [goodF] at hgood
      simp only [goodG] at hgood
      rw [if_neg hb] at hgood
      by_cases k3 : (spH t).kind = 3
      case neg => rw [if_neg k3] at hgood; cases hgood
      rw [if_pos k3] at hgood
      have eb : (plV v first more).b = v.b := rfl
      have ebase : (plV v first more).base = v.base := rfl
      rw [eb, ebase] at hgood
      by_cases k5 : (ofM v.b v.base (spH t).num).1 = 5
      case neg => rw [if_neg k5] at hgood; cases hgood
      rw [if_pos k5] at hgood
      by_cases k6 : (ofM v.b v.base (spH t).num).2 < cons
      case neg => rw [if_neg k6] at hgood; cases hgood
      rw [if_pos k6] at hgood
      obtain ⟨c, c1, c2, c3⟩ := of_five k5
      have hgc : v.b.cons[c]? = some v.b.cons[c] := List.getElem?_eq_getElem c1
      have e : shT v first more vars (n + 1) t = spT (lv (v.b.sorts.length + c) (vars + more)) (shA (fun x => putT v x first more vars) (shT v first more vars n) v.b.cons[c].args (spA t).reverse) := by
        rw [shT, if_neg hb, c3]
        simp only [Int.toNat_natCast, hgc]
      rw [c3] at hgood k6
      simp only [Int.toNat_natCast, hgc] at hgood
      by_cases k7 : (spA t).reverse.length = v.b.cons[c].args.length
      case neg => rw [if_neg k7] at hgood; cases hgood
      rw [if_pos k7] at hgood
      have k6' : (c : Int) < cons := k6
      have htop := S.top c k6'
      rw [e]
      refine sp_in8 (lv_in8 (by omega) (by omega) (by omega)) (shA_mem _ _ fun i h h' => ?_)
      refine ⟨hput _ (List.getElem_mem h'), fun hr => ?_⟩
      obtain ⟨x1, x2, x3⟩ := hm _ (List.getElem_mem h')
      refine ih _ x2 (by omega) (by omega) x3 ?_
      have hA := (allI_iff _ _ _).1 hgood i h
      rw [Nat.zero_add, List.getElem?_eq_getElem h'] at hA
      simp only [fitA, hr, if_true] at hA
      split at hA
      · exact .inr hA
      · have hk := (guardB_j hA).1
        refine .inl ?_
        have : spH (spA t).reverse[i] = (spA t).reverse[i] := by
          generalize (spA t).reverse[i] = x at hk
          obtain ⟨k, m, ks⟩ := x
          have hk' : k = 1 := hk
          exact (sp_none (fun h => by omega)).2
        rw [this]
        exact hA
theorem in_in8 {v : Vw} {first : Nat} {more vars cons : Int} (S : Sc8 v first vars cons) (hfi : first ≤ v.args.length) (h0 : 0 ≤ more) (h1 : more ≤ 1000) (h2 : 0 ≤ vars) (h3 : vars ≤ 1000) (n : Nat) (so : So) (l : List T) (hll : l.length = so.idx.length)
    (hl : ∀ x ∈ l, formedM x = true ∧ nodes x ≤ n ∧ nodes x ≤ 30000 ∧ wiT x (first + more) 65536 = true) (hg : indF n (plV v first more) so l cons = true) : ∀ y ∈ inT v n so l first more vars, In8 y (vars + more) := by
  refine shA_mem _ _ fun i h h' => ?_
  obtain ⟨x1, x2, x3, x4⟩ := hl _ (List.getElem_mem h')
  refine ⟨put_in8 S.pos h0 h1 h2 h3 x1 x3 x4, fun hr => ?_⟩
  refine sh_in8 S hfi h0 h1 h2 h3 n _ x1 x2 x3 x4 (.inr ?_)
  rw [indF] at hg
  have hA := (allI_iff _ _ _).1 hg i h
  rw [Nat.zero_add, List.getElem?_eq_getElem h'] at hA
  simpa only [hr, if_true] using hA
end Ev
end Go.Proofs.YtjebpfhffenbnaaGreat
