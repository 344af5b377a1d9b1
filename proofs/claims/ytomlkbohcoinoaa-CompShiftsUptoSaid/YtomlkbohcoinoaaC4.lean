/- comp: what is computed is in scope. -/
import Derived.Test.YtomlkbohcoinoaaC3
namespace Go.Proofs.Ytomlkbohcoinoaa
namespace Ev
open Go
set_option maxRecDepth 100000
set_option linter.unusedSimpArgs false
set_option linter.unusedVariables false
theorem wi_mono {c : Int} (t : T) : ∀ v w : Int, v ≤ w → wiT t v c = true → wiT t w c = true := by
  refine T.ind (p := fun t => ∀ v w : Int, v ≤ w → wiT t v c = true → wiT t w c = true) ?_ t
  intro k n ks ih v w hvw h
  rw [wiT] at h ⊢
  by_cases h1 : k = 1
  · rw [if_pos h1] at h ⊢
    simp only [decide_eq_true_eq] at h ⊢
    omega
  rw [if_neg h1] at h ⊢
  by_cases h2 : k = 2
  · rw [if_pos h2] at h ⊢; exact h
  rw [if_neg h2] at h ⊢
  by_cases h3 : k = 3
  · rw [if_pos h3] at h ⊢; exact h
  rw [if_neg h3] at h ⊢
  have go : ∀ (xs : List T) (i : Nat), (∀ x ∈ xs, x ∈ ks) → wiL k v c i xs = true → wiL k w c i xs = true := by
    intro xs
    induction xs with
    | nil => intro i _ _; rw [wiL]
    | cons x xs ihx =>
      intro i hm hw
      rw [wiL, Bool.and_eq_true] at hw ⊢
      exact ⟨ih x (hm x (by simp)) _ _ (by omega) hw.1, ihx _ (fun y hy => hm y (by simp [hy])) hw.2⟩
  exact go ks 0 (fun x hx => hx) h
theorem sc_falseU (l : List T) (u : Int) (hl : ∀ x ∈ l, freeT x 0 ≤ 10000) (t : T) : ∀ b : Int, 0 ≤ b → u + b + nodes t ≤ 50000 → scI l u t b = false := by
  refine T.ind (p := fun t => ∀ b : Int, 0 ≤ b → u + b + nodes t ≤ 50000 → scI l u t b = false) ?_ t
  intro k n ks ih b h0 hb
  rw [scI]
  by_cases h1 : k = 1
  · rw [if_pos h1]
    split
    · rename_i a ha
      have hmem : a ∈ l := by
        split at ha
        · exact List.mem_of_getElem? ha
        · cases ha
      have := hl a hmem
      rw [overB, Bool.and_eq_false_iff]
      right
      rw [decide_eq_false_iff_not]
      omega
    · rfl
  · rw [if_neg h1]
    have go : ∀ (xs : List T) (i : Nat), (∀ x ∈ xs, x ∈ ks) → scL l u k b i xs = false := by
      intro xs
      induction xs with
      | nil => intro i _; rw [scL]
      | cons x xs ihx =>
        intro i hm
        have hx := hm x (by simp)
        have hxn := nodes_kid (k := k) (n := n) hx
        have hbl := binds_le k i
        rw [scL, ih x hx _ (by omega) (by omega), ihx (i + 1) fun y hy => hm y (by simp [hy])]
        rfl
    exact go ks 0 fun x hx => hx
theorem wi_moved' {a : T} {V b : Int} (hf : formedM a = true) (hn : nodes a ≤ 1048576) (hb : 0 ≤ b) (hb' : b ≤ 8388608) (hV : 0 ≤ V) (h : wiT a V 65536 = true) : wiT (mapT (mv b) a 0) (V + b) 65536 = true := by
  have := wi_map (mv b) 65536 V (V + b) (fun n c h1 h2 h3 h4 h5 => ?_) a 0 hf (by omega) (by omega) (by rw [Int.add_zero]; exact h)
  · rw [Int.add_zero] at this; exact this
  · by_cases c1 : n < c
    · rw [mv_lo c1]; exact wi_var (by omega)
    · have e : mv b n c = .mk 1 (n + b) [] := by rw [mv, if_pos (by omega), w64_id (by omega) (by omega)]
      rw [e]; exact wi_var (by omega)
theorem inst_scopeU {t : T} {l : List T} {V u : Int} (hV : 0 ≤ V) (hV' : V ≤ 65536) (hu : 0 ≤ u) (hu' : u ≤ 65536) (ht : nodes t ≤ 1048576) (ft : formedM t = true) (hl : ∀ x ∈ l, formedM x = true ∧ nodes x ≤ 1048576 ∧ wiT x V 65536 = true) (hn : l.length ≤ 65536)
    (hw : wiT t (V + u + l.length) 65536 = true) : wiT (mapT (instF l u) t 0) (V + u) 65536 = true := by
  have := wi_map (instF l u) 65536 (V + u + l.length) (V + u) (fun n b h1 h2 h3 h4 h5 => ?_) t 0 ft (by omega) (by omega) (by rw [Int.add_zero]; exact hw)
  · rw [Int.add_zero] at this; exact this
  · rw [instF]
    by_cases hW : 0 ≤ whichT l.length u n b
    · have hlt : (whichT l.length u n b).toNat < l.length := by
        have h6 := hW
        rw [whichT] at h6 ⊢
        split at h6
        · omega
        · rename_i h7
          rw [if_neg h7]
          omega
      generalize (whichT l.length u n b).toNat = m at hlt
      rw [if_pos hW, List.getElem?_eq_getElem hlt]
      obtain ⟨a1, a2, a3⟩ := hl l[m] (List.getElem_mem _)
      show wiT (movedT (w64 (u + b)) l[m]) (V + u + b) 65536 = true
      rw [w64_id (by omega) (by omega), moved_is]
      have := wi_moved' (b := u + b) a1 a2 (by omega) (by omega) hV a3
      rw [← Int.add_assoc] at this
      exact this
    · rw [if_neg hW]
      have h6 := hW
      rw [whichT] at h6
      by_cases c : u + b ≤ n
      · rw [if_pos c]
        have : (l.length : Int) ≤ n - (u + b) := by
          split at h6
          · rename_i h7; omega
          · omega
        rw [w64_id (by omega) (by omega)]
        exact wi_var (by omega)
      · rw [if_neg c]
        exact wi_var (by omega)
theorem inst_no6 {t : T} {l : List T} {u : Int} (h : openE t l u = 0) (ht : nodes t ≤ 1048576) (hl : ∀ x ∈ l, nodes x ≤ 1048576) (hs : scI l u t 0 = false) : instE t l u = 0 ∨ instE t l u = 4 ∨ instE t l u = 5 := by
  rw [instE, if_pos h, openSt_is h ht hl]
  simp only [hs, Bool.false_eq_true, if_false]
  split
  · omega
  · split <;> omega
theorem wi_shB {y : Int} (t : T) : ∀ v b : Int, formedM t = true → 0 ≤ b → v + b + nodes t + y ≤ 65535 → wiT t (v + b) 65536 = true → shB 0 y t b = true := by
  refine T.ind (p := fun t => ∀ v b : Int, formedM t = true → 0 ≤ b → v + b + nodes t + y ≤ 65535 → wiT t (v + b) 65536 = true → shB 0 y t b = true) ?_ t
  intro k n ks ih v b hfm hb hs hw
  rw [wiT] at hw
  rw [shB]
  by_cases h1 : k = 1
  · rw [if_pos h1] at hw ⊢
    simp only [decide_eq_true_eq, Bool.or_eq_true] at hw ⊢
    omega
  rw [if_neg h1] at hw ⊢
  rw [shBL_at]
  intro j hj
  have hbl := binds_le k j
  have hkn := nodes_kid (k := k) (n := n) (List.getElem_mem hj)
  have hfk := kids_formed hfm _ (List.getElem_mem hj)
  by_cases h23 : k = 2 ∨ k = 3
  · rw [formedM_is] at hfm
    have h0 : kidsM k = 0 := by rcases h23 with rfl | rfl <;> rfl
    rw [h0] at hfm
    split at hfm
    · rename_i hl; simp at hl; subst hl; simp at hj
    · cases hfm
  · rw [if_neg (by omega), if_neg (by omega), wiL_at] at hw
    have := hw j hj
    rw [Nat.zero_add] at this ⊢
    exact ih ks[j] (List.getElem_mem _) v _ hfk (by omega) (by omega) (by rw [← Int.add_assoc]; exact this)
theorem shift_wi {t : T} {v y : Int} (hc : checkM t = 0) (hn : nodes t ≤ 9000) (hv : 0 ≤ v ∧ v ≤ 1000) (hy : 0 ≤ y ∧ y ≤ 1000) (hw : wiT t v 65536 = true) : shiftE t y 0 = 0 ∧ wiT (shiftT t y 0) (v + y) 65536 = true := by
  have hf := formed_of hc
  have hB := wi_shB (y := y) t v 0 hf (by omega) (by omega) (by rw [Int.add_zero]; exact hw)
  have hE : shiftE t y 0 = 0 := shift_iff.2 ⟨hc, by omega, by omega, hB⟩
  refine ⟨hE, ?_⟩
  rw [shift_at hE, sh_mv (by omega) (by omega) t hf 0 (by omega) (by omega)]
  exact wi_moved' hf (by omega) (by omega) (by omega) (by omega) hw
/-- Put in, where all is right and in scope. -/
theorem inst_wi {t : T} {l : List T} {V u : Int} (hV : 0 ≤ V ∧ V ≤ 100) (hu : 0 ≤ u ∧ u ≤ 100) (ht : checkM t = 0) (hn : nodes t ≤ 9000) (hl : ∀ x ∈ l, checkM x = 0 ∧ nodes x ≤ 9000 ∧ wiT x V 65536 = true) (hln : l.length ≤ 100) (hw : wiT t (u + l.length) 65536 = true) :
    (instE t l u = 0 ∨ instE t l u = 4 ∨ instE t l u = 5) ∧ (instE t l u = 0 → wiT (instT t l u) (V + u) 65536 = true) := by
  have hf := formed_of ht
  have hO : openE t l u = 0 := (openE_iff t l u).2 ⟨ht, fun x hx => (hl x hx).1, by omega, by omega⟩
  have hfr : ∀ x ∈ l, freeT x 0 ≤ 10000 := fun x hx => by
    obtain ⟨a1, a2, a3⟩ := hl x hx
    have := wi_free 65536 x V 0 (formed_of a1) (by omega) (by omega) a3
    omega
  have hS := sc_falseU l u hfr t 0 (by omega) (by omega)
  have hl' : ∀ x ∈ l, nodes x ≤ 1048576 := fun x hx => by have := (hl x hx).2.1; omega
  refine ⟨inst_no6 hO (by omega) hl' hS, fun h0 => ?_⟩
  rw [inst_at h0]
  exact inst_scopeU (by omega) (by omega) (by omega) (by omega) (by omega) hf (fun x hx => ⟨formed_of (hl x hx).1, hl' x hx, (hl x hx).2.2⟩) (by omega) (wi_mono t _ _ (by omega) hw)
theorem errs_mem (e : Int) : ∀ l : List Int, errs e l = e ∨ errs e l ∈ l := by
  intro l
  induction l generalizing e with
  | nil => exact .inl rfl
  | cons x l ih =>
    have h : errs e (x :: l) = errs (fst2 e x) l := rfl
    rw [h]
    rcases ih (fst2 e x) with h1 | h1
    · rw [h1, fst2]
      split
      · exact .inr (by simp)
      · exact .inl rfl
    · exact .inr (List.mem_cons_of_mem _ h1)
theorem errs_ne {e : Int} (h : e ≠ 0) : ∀ l : List Int, errs e l = e
  | [] => rfl
  | x :: l => by
    show errs (fst2 e x) l = e
    rw [fst2, if_neg h]
    exact errs_ne h l
theorem errs_zero : ∀ l : List Int, errs 0 l = 0 ↔ ∀ x ∈ l, x = 0
  | [] => by simp [errs]
  | x :: l => by
    have h : errs 0 (x :: l) = errs x l := rfl
    rw [h, List.forall_mem_cons]
    by_cases hx : x = 0
    · subst hx; simp [errs_zero l]
    · rw [errs_ne hx]; simp [hx]
/-- What fits an eliminator's inner call. -/
structure Right (V : Int) (l : List T) : Prop where
  c : ∀ x ∈ l, checkM x = 0
  n : ∀ x ∈ l, nodes x ≤ 9000
  w : ∀ x ∈ l, wiT x V 65536 = true
theorem Right.take {V : Int} {l : List T} (h : Right V l) (i : Nat) : Right V (l.take i) := ⟨fun x hx => h.c x (List.mem_of_mem_take hx), fun x hx => h.n x (List.mem_of_mem_take hx), fun x hx => h.w x (List.mem_of_mem_take hx)⟩
/-- A recursive argument that stands at the place i: its domains, its indices are in scope. -/
structure RecAt (b : Bl) (a : Ar) (i : Nat) : Prop where
  dl : a.dom.length ≤ 12
  sort : 0 ≤ a.sort ∧ a.sort < b.sorts.length
  dom : ∀ (j : Nat) (hj : j < a.dom.length), checkM a.dom[j] = 0 ∧ wiT a.dom[j] (i + j) 65536 = true
  idx : ∀ x ∈ a.idx, checkM x = 0 ∧ wiT x (i + a.dom.length) 65536 = true
theorem rec_at {b : Bl} {a : Ar} {i : Nat} (fa : FineAr a) (hi : i ≤ 20) (hr : a.rc = true) (h : argM b a i = true) : RecAt b a i := by
  have hdn : ∀ x ∈ a.dom, nodes x ≤ 9000 := fun x hx => Nat.le_trans (sum_mem (List.mem_map.2 ⟨x, hx, rfl⟩)) fa.dom
  have hin : ∀ x ∈ a.idx, nodes x ≤ 9000 := fun x hx => Nat.le_trans (sum_mem (List.mem_map.2 ⟨x, hx, rfl⟩)) fa.idx
  rw [argM, if_pos hr] at h
  split at h
  case isFalse => cases h
  split at h
  case isTrue => cases h
  rename_i h1
  split at h
  case isTrue => cases h
  rename_i h2
  split at h
  case h_1 => cases h
  rename_i s hs
  split at h
  case isFalse => cases h
  rw [Bool.and_eq_true] at h
  obtain ⟨h3, h4⟩ := h
  have hlt := (List.getElem?_eq_some_iff.1 hs).1
  refine ⟨by omega, by omega, fun j hj => ?_, fun x hx => ?_⟩
  · rw [domM, allI_iff] at h3
    have := h3 j hj
    rw [w64_id (by omega) (by omega)] at this
    have := (scope_is (by omega) (by omega) (by have := hdn _ (List.getElem_mem hj); omega)).1 this
    simpa using this
  · rw [allM] at h4
    simp only [Bool.not_eq_true', List.any_eq_false, Bool.not_eq_true, Bool.not_eq_false'] at h4
    have := h4 x hx
    rw [w64_id (by omega) (by omega)] at this
    exact (scope_is (by omega) (by omega) (by have := hin x hx; omega)).1 (by simpa [inM] using this)
def e045 (e : Int) : Prop := e = 0 ∨ e = 4 ∨ e = 5
theorem errs_045 {l : List Int} (h : ∀ x ∈ l, e045 x) : e045 (errs 0 l) := by
  rcases errs_mem 0 l with h1 | h1
  · rw [h1]; exact .inl rfl
  · exact h _ h1
theorem inner_wi {b : Bl} {base : Int} (hf : Fit b) (h0 : 0 ≤ base) (h1 : base ≤ 60000) {a : Ar} (fa : FineAr a) {mo me ahead : List T} {t : T} {V : Int} (hV : 0 ≤ V ∧ V ≤ 100) (hr : RecAt b a ahead.length) (hal : ahead.length ≤ 20)
    (rmo : Right V mo) (rme : Right V me) (rah : Right V ahead) (rt : Right V [t]) :
    e045 (errs 0 (innerE a mo me ahead t)) ∧ (errs 0 (innerE a mo me ahead t) = 0 → wiT (innerT b base a mo me ahead t) V 65536 = true) := by
  have hdn : ∀ x ∈ a.dom, nodes x ≤ 9000 := fun x hx => Nat.le_trans (sum_mem (List.mem_map.2 ⟨x, hx, rfl⟩)) fa.dom
  have hin : ∀ x ∈ a.idx, nodes x ≤ 9000 := fun x hx => Nat.le_trans (sum_mem (List.mem_map.2 ⟨x, hx, rfl⟩)) fa.idx
  have hdl := hr.dl
  have hal' : ∀ x ∈ ahead, checkM x = 0 ∧ nodes x ≤ 9000 ∧ wiT x V 65536 = true := fun x hx => ⟨rah.c x hx, rah.n x hx, rah.w x hx⟩
  have hD : ∀ (j : Nat) (hj : j < a.dom.length), (instE a.dom[j] ahead j = 0 ∨ instE a.dom[j] ahead j = 4 ∨ instE a.dom[j] ahead j = 5) ∧ (instE a.dom[j] ahead j = 0 → wiT (instT a.dom[j] ahead j) (V + j) 65536 = true) := fun j hj => by
    obtain ⟨c1, c2⟩ := hr.dom j hj
    exact inst_wi hV (by omega) c1 (hdn _ (List.getElem_mem _)) hal' (by omega) (by rw [Int.add_comm]; exact c2)
  have hI : ∀ x ∈ a.idx, (instE x ahead a.dom.length = 0 ∨ instE x ahead a.dom.length = 4 ∨ instE x ahead a.dom.length = 5) ∧ (instE x ahead a.dom.length = 0 → wiT (instT x ahead a.dom.length) (V + a.dom.length) 65536 = true) := fun x hx => by
    obtain ⟨c1, c2⟩ := hr.idx x hx
    exact inst_wi hV (by omega) c1 (hin x hx) hal' (by omega) (by rw [Int.add_comm]; exact c2)
  have hU : ∀ {l : List T}, Right V l → ∀ x ∈ l, shiftE x a.dom.length 0 = 0 ∧ wiT (shiftT x a.dom.length 0) (V + a.dom.length) 65536 = true := fun h x hx => shift_wi (h.c x hx) (h.n x hx) (by omega) (by omega) (h.w x hx)
  obtain ⟨t1, t2⟩ := hU rt t (by simp)
  refine ⟨errs_045 fun x hx => ?_, fun hz => ?_⟩
  · simp only [innerE, List.mem_append, List.mem_singleton] at hx
    rcases hx with (((hx | hx) | hx) | hx) | rfl
    · obtain ⟨j, hj, rfl⟩ := List.mem_mapIdx.1 hx
      exact (hD j hj).1
    · obtain ⟨y, hy, rfl⟩ := List.mem_map.1 hx
      exact .inl (hU rmo y hy).1
    · obtain ⟨y, hy, rfl⟩ := List.mem_map.1 hx
      exact .inl (hU rme y hy).1
    · obtain ⟨y, hy, rfl⟩ := List.mem_map.1 hx
      exact (hI y hy).1
    · exact .inl t1
  · rw [errs_zero] at hz
    have hl : (domsT ahead a.dom).length = a.dom.length := by simp [domsT]
    refine nest_wi (.inr rfl) _ _ V (fun j hj => ?_) ?_
    · rw [hl] at hj
      have hm : instE a.dom[j] ahead j = 0 := hz _ (by
        simp only [innerE, List.mem_append]
        exact .inl (.inl (.inl (.inl (List.mem_mapIdx.2 ⟨j, hj, rfl⟩)))))
      have := (hD j hj).2 hm
      simpa [domsT] using this
    · rw [hl, sp_wi, Bool.and_eq_true, List.all_eq_true]
      refine ⟨?_, fun x hx => ?_⟩
      · have hs := hr.sort
        have hs1 := hf.s
        have hs2 := hf.c
        have hs3 := decs_le b.sorts
        rw [eliminator_is hf h0 (by omega), if_pos ⟨hs.1, hs.2⟩, tC, wiT, if_neg (by omega), if_neg (by omega), if_pos rfl, decide_eq_true_eq]
        omega
      · simp only [List.mem_append, List.mem_singleton] at hx
        rcases hx with ((hx | hx) | hx) | rfl
        · obtain ⟨y, hy, rfl⟩ := List.mem_map.1 hx
          exact (hU rmo y hy).2
        · obtain ⟨y, hy, rfl⟩ := List.mem_map.1 hx
          exact (hU rme y hy).2
        · obtain ⟨y, hy, rfl⟩ := List.mem_map.1 hx
          refine (hI y hy).2 (hz _ ?_)
          simp only [innerE, List.mem_append]
          exact .inl (.inr (List.mem_map.2 ⟨y, hy, rfl⟩))
        · rw [sp_wi, Bool.and_eq_true, List.all_eq_true]
          refine ⟨t2, fun x hx => ?_⟩
          obtain ⟨q, hq, rfl⟩ := varsN_mem hx
          exact wi_var (by omega)
theorem inner_nodes {b : Bl} {base : Int} {a : Ar} (fa : FineAr a) {mo me ahead : List T} {t : T} (hmo : ∀ x ∈ mo, nodes x ≤ 9000) (lmo : mo.length ≤ 60) (hme : ∀ x ∈ me, nodes x ≤ 9000) (lme : me.length ≤ 60) (hah : ∀ x ∈ ahead, nodes x ≤ 9000) (ht : nodes t ≤ 9000) : nodes (innerT b base a mo me ahead t) ≤ 3000000 := by
  have hdn : ∀ x ∈ a.dom, nodes x ≤ 9000 := fun x hx => Nat.le_trans (sum_mem (List.mem_map.2 ⟨x, hx, rfl⟩)) fa.dom
  have hin : ∀ x ∈ a.idx, nodes x ≤ 9000 := fun x hx => Nat.le_trans (sum_mem (List.mem_map.2 ⟨x, hx, rfl⟩)) fa.idx
  have hdl := fa.domL
  have hil := fa.idxL
  have hah' : ∀ x ∈ ahead, nodes x ≤ 1048576 := fun x hx => by have := hah x hx; omega
  have nI : ∀ (x : T) (u : Int), nodes x ≤ 9000 → nodes (instT x ahead u) ≤ 9000 := fun x u hx => by
    by_cases h : instE x ahead u = 0
    · have := (inst_right (by omega) hah' h).2.1; omega
    · rw [instT, if_neg h, zT, leaf_nodes]; omega
  have nS : ∀ (x : T) (u : Int), nodes x ≤ 9000 → nodes (shiftT x u 0) ≤ 9000 := fun x u hx => by
    by_cases h : shiftE x u 0 = 0
    · have := (shift_right (by omega) h).2.2; omega
    · rw [shiftT, if_neg h, zT, leaf_nodes]; omega
  have sums : ∀ (l : List T) (m : Nat), (∀ x ∈ l, nodes x ≤ m) → (l.map nodes).sum ≤ m * l.length := by
    intro l m
    induction l with
    | nil => simp
    | cons x l ih =>
      intro h
      have h1 := h x (by simp)
      have h2 := ih fun y hy => h y (by simp [hy])
      simp only [List.map_cons, List.sum_cons, List.length_cons]
      rw [Nat.mul_succ]
      omega
  have hv : (varsN a.dom.length).length = a.dom.length := varsN_len _
  have sv := sums (varsN a.dom.length) 1 (fun x hx => by obtain ⟨q, _, rfl⟩ := varsN_mem hx; rw [tV, leaf_nodes]; omega)
  have s1 := sums (domsT ahead a.dom) 9000 (fun x hx => by obtain ⟨j, hj, rfl⟩ := List.mem_mapIdx.1 hx; exact nI _ _ (hdn _ (List.getElem_mem _)))
  have s2 := sums (upsT mo a.dom.length) 9000 (fun x hx => by obtain ⟨y, hy, rfl⟩ := List.mem_map.1 hx; exact nS _ _ (hmo y hy))
  have s3 := sums (upsT me a.dom.length) 9000 (fun x hx => by obtain ⟨y, hy, rfl⟩ := List.mem_map.1 hx; exact nS _ _ (hme y hy))
  have s4 := sums (instsT ahead a.idx a.dom.length) 9000 (fun x hx => by obtain ⟨y, hy, rfl⟩ := List.mem_map.1 hx; exact nI _ _ (hin y hy))
  have s5 := nS t a.dom.length ht
  have l1 : (domsT ahead a.dom).length = a.dom.length := by simp [domsT]
  have l2 : (upsT mo a.dom.length).length = mo.length := by simp [upsT]
  have l3 : (upsT me a.dom.length).length = me.length := by simp [upsT]
  have l4 : (instsT ahead a.idx a.dom.length).length = a.idx.length := by simp [instsT]
  rw [innerT, nest_nodes, sp_nodes', tC, leaf_nodes]
  simp only [List.map_append, List.sum_append, List.map_cons, List.map_nil, List.sum_cons, List.sum_nil, List.length_append, List.length_cons, List.length_nil, sp_nodes', hv, l1, l2, l3, l4]
  rw [l1] at s1
  rw [l2] at s2
  rw [l3] at s3
  rw [l4] at s4
  rw [hv] at sv
  omega
theorem nest_formed5 (l : List T) (t : T) (hl : ∀ x ∈ l, formedM x = true) (ht : formedM t = true) : formedM (nestT 5 l t) = true := by
  induction l with
  | nil => exact ht
  | cons a l ih =>
    show formedM (.mk 5 0 [a, nestT 5 l t]) = true
    rw [formedM_is]
    have h0 : kidsM 5 = 2 := rfl
    rw [h0]
    simp [hl a (by simp), ih fun x hx => hl x (by simp [hx])]
theorem inner_formed {b : Bl} {base : Int} (hf : Fit b) (h0 : 0 ≤ base) (h1 : base ≤ 60000) {a : Ar} (fa : FineAr a) {mo me ahead : List T} {t : T} (hs : 0 ≤ a.sort ∧ a.sort < b.sorts.length)
    (hmo : ∀ x ∈ mo, nodes x ≤ 9000) (hme : ∀ x ∈ me, nodes x ≤ 9000) (hah : ∀ x ∈ ahead, nodes x ≤ 9000) (ht : nodes t ≤ 9000) (hz : errs 0 (innerE a mo me ahead t) = 0) : formedM (innerT b base a mo me ahead t) = true := by
  have hdn : ∀ x ∈ a.dom, nodes x ≤ 9000 := fun x hx => Nat.le_trans (sum_mem (List.mem_map.2 ⟨x, hx, rfl⟩)) fa.dom
  have hin : ∀ x ∈ a.idx, nodes x ≤ 9000 := fun x hx => Nat.le_trans (sum_mem (List.mem_map.2 ⟨x, hx, rfl⟩)) fa.idx
  have hdl := fa.domL
  have hah' : ∀ x ∈ ahead, nodes x ≤ 1048576 := fun x hx => by have := hah x hx; omega
  rw [errs_zero] at hz
  have hU : ∀ (x : T), nodes x ≤ 9000 → shiftE x a.dom.length 0 = 0 → formedM (shiftT x a.dom.length 0) = true := fun x hx h => (shift_right (by omega) h).2.1
  refine nest_formed5 _ _ (fun x hx => ?_) (sp_formed _ _ ?_ fun x hx => ?_)
  · obtain ⟨j, hj, rfl⟩ := List.mem_mapIdx.1 hx
    exact (inst_right (by have := hdn _ (List.getElem_mem hj); omega) hah' (hz _ (by simp only [innerE, List.mem_append]; exact .inl (.inl (.inl (.inl (List.mem_mapIdx.2 ⟨j, hj, rfl⟩))))))).2.2
  · have hs1 := hf.s
    have hs2 := hf.c
    have hs3 := decs_le b.sorts
    rw [eliminator_is hf h0 (by omega), if_pos ⟨hs.1, hs.2⟩]
    exact tC_formed ⟨by omega, by omega⟩
  · simp only [List.mem_append, List.mem_singleton] at hx
    rcases hx with ((hx | hx) | hx) | rfl
    · obtain ⟨y, hy, rfl⟩ := List.mem_map.1 hx
      exact hU y (hmo y hy) (hz _ (by simp only [innerE, List.mem_append]; exact .inl (.inl (.inl (.inr (List.mem_map.2 ⟨y, hy, rfl⟩))))))
    · obtain ⟨y, hy, rfl⟩ := List.mem_map.1 hx
      exact hU y (hme y hy) (hz _ (by simp only [innerE, List.mem_append]; exact .inl (.inl (.inr (List.mem_map.2 ⟨y, hy, rfl⟩)))))
    · obtain ⟨y, hy, rfl⟩ := List.mem_map.1 hx
      exact (inst_right (by have := hin y hy; omega) hah' (hz _ (by simp only [innerE, List.mem_append]; exact .inl (.inr (List.mem_map.2 ⟨y, hy, rfl⟩))))).2.2
    · refine sp_formed _ _ (hU t ht (hz _ (by simp [innerE]))) fun x hx => ?_
      obtain ⟨q, hq, rfl⟩ := varsN_mem hx
      exact leaf_formed (.inl rfl) ⟨by omega, by omega⟩
def recs (l : List Ar) : Nat := (l.filter (·.rc)).length
theorem recs_le (l : List Ar) : recs l ≤ l.length := List.length_filter_le _ _
theorem recs_snoc (l : List Ar) (i : Nat) (x : Ar) (h : l[i]? = some x) : recs (l.take (i + 1)) = recs (l.take i) + if x.rc then 1 else 0 := by
  simp only [recs, List.take_add_one, h]
  cases hd : x.rc <;> simp [hd]
theorem mkL_wi {b : Bl} {base : Int} (hf : Fit b) (h0 : 0 ≤ base) (h1 : base ≤ 60000) {ars : List Ar} (fas : ∀ a ∈ ars, FineAr a) {mo me args : List T} {V : Int} (hV : 0 ≤ V ∧ V ≤ 100) (hlen : args.length = ars.length) (h12 : ars.length ≤ 12) (hargs : ∀ (i : Nat) (hi : i < ars.length), argM b ars[i] i = true)
    (rmo : Right V mo) (lmo : mo.length ≤ 60) (rme : Right V me) (lme : me.length ≤ 60) (rar : Right V args) (n : Nat) (hn : n ≤ ars.length) :
    e045 (mkL b base ars mo me args n).1 ∧ ((mkL b base ars mo me args n).1 = 0 → (∀ x ∈ (mkL b base ars mo me args n).2, wiT x V 65536 = true ∧ nodes x ≤ 3000000 ∧ formedM x = true) ∧ (mkL b base ars mo me args n).2.length = n + recs (ars.take n)) := by
  induction n with
  | zero => exact ⟨.inl rfl, fun _ => ⟨by simp [mkL], by simp [mkL, recs]⟩⟩
  | succ n ih =>
    obtain ⟨ih1, ih2⟩ := ih (by omega)
    have hlt : n < ars.length := by omega
    have hlt2 : n < args.length := by omega
    have ha := List.getElem?_eq_getElem hlt
    have ht := List.getElem?_eq_getElem hlt2
    have htm := List.getElem_mem hlt2
    have hs := recs_snoc ars n ars[n] ha
    have fa := fas _ (List.getElem_mem hlt)
    have hA := hargs n hlt
    have htl : (args.take n).length = n := by rw [List.length_take]; omega
    have rt : Right V [args[n]] := ⟨fun x hx => by simp at hx; subst hx; exact rar.c _ htm, fun x hx => by simp at hx; subst hx; exact rar.n _ htm, fun x hx => by simp at hx; subst hx; exact rar.w _ htm⟩
    have hnx : ∀ x ∈ [args[n]], wiT x V 65536 = true ∧ nodes x ≤ 3000000 ∧ formedM x = true := fun x hx => ⟨rt.w x hx, by have := rt.n x hx; omega, formed_of (rt.c x hx)⟩
    rw [mkL_next ha ht]
    by_cases hr : ars[n].rc = true
    · rw [hr, if_pos rfl] at hs
      by_cases hz : (mkL b base ars mo me args n).1 = 0
      · rw [if_pos ⟨hr, hz⟩]
        obtain ⟨c1, c2⟩ := ih2 hz
        have hR := rec_at fa (by omega) hr hA
        obtain ⟨d1, d2⟩ := inner_wi (base := base) (ahead := args.take n) hf h0 h1 fa hV (by rw [htl]; exact hR) (by omega) rmo rme (rar.take n) rt
        refine ⟨d1, fun h => ⟨fun x hx => ?_, ?_⟩⟩
        · simp only [List.mem_append, List.mem_cons, List.not_mem_nil, or_false] at hx
          rcases hx with hx | rfl | rfl
          · exact c1 x hx
          · exact hnx _ (by simp)
          · exact ⟨d2 h, inner_nodes fa rmo.n lmo rme.n lme (rar.take n).n (rt.n _ (by simp)), inner_formed hf h0 h1 fa hR.sort rmo.n rme.n (rar.take n).n (rt.n _ (by simp)) h⟩
        · rw [List.length_append, c2, hs]
          simp
          omega
      · rw [if_neg (fun h => hz h.2)]
        exact ⟨ih1, fun h => (hz h).elim⟩
    · rw [if_neg (by simpa using hr)] at hs
      rw [if_neg (fun h => hr h.1)]
      refine ⟨ih1, fun h => ?_⟩
      obtain ⟨c1, c2⟩ := ih2 h
      refine ⟨fun x hx => ?_, ?_⟩
      · rw [List.mem_append] at hx
        rcases hx with hx | hx
        · exact c1 x hx
        · exact hnx x hx
      · rw [List.length_append, c2, hs]
        simp
        omega
theorem con_args {b : Bl} {c : Co} (h : conM b c = true) : c.args.length ≤ 12 ∧ ∀ (i : Nat) (hi : i < c.args.length), argM b c.args[i] i = true := by
  rw [conM] at h
  split at h
  · cases h
  split at h
  case isFalse => cases h
  rename_i h1
  rw [rowM] at h1
  split at h1
  · cases h1
  rename_i h2
  rw [allI_iff] at h1
  exact ⟨by omega, fun i hi => by have := h1 i hi; simpa using this⟩
/-- What an eliminator computes, of what is in scope. -/
theorem elim_wi {b : Bl} (fb : FineBl b) (hf : Fit b) (hz : checkB b = 0) {base k : Int} (h0 : 0 ≤ base) (h1 : base ≤ 60000) (hk : 0 ≤ k) {co : Co} (hco : b.cons[k.toNat]? = some co) {mo me args : List T} {V : Int} (hV : 0 ≤ V ∧ V ≤ 100)
    (lmo : mo.length = b.sorts.length) (lme : me.length = b.cons.length) (lar : args.length = co.args.length) (rmo : Right V mo) (rme : Right V me) (rar : Right V args) :
    e045 (elimE b base k mo me args) ∧ (elimE b base k mo me args = 0 → ∃ L : List T, elimT b base k mo me args = spT (me.getD k.toNat zT) L ∧ L.length = args.length + recs co.args ∧ (∀ x ∈ L, okT x) ∧ checkM (spT (me.getD k.toNat zT) L) = 0 ∧ nodes (spT (me.getD k.toNat zT) L) ≤ 400000000 ∧ wiT (spT (me.getD k.toNat zT) L) V 65536 = true) := by
  have hcm := List.mem_of_getElem? hco
  have fco := fb.cons co hcm
  obtain ⟨z1, z4, z8, zl, zs, zc⟩ := (checkB_zero b).1 hz
  obtain ⟨h12, hargs⟩ := con_args (zc co hcm)
  have hB : elimB b base k co mo me args := ⟨lar, lmo, lme, h0, by omega⟩
  have hF : firstE (mo ++ (me ++ args)) = 0 := firstE_zero.2 fun t ht => by
    simp only [List.mem_append] at ht
    rcases ht with ht | ht | ht
    · exact rmo.c t ht
    · exact rme.c t ht
    · exact rar.c t ht
  have hE : elimE b base k mo me args = makeE b base co (me.getD k.toNat zT) mo me args := by rw [elimE, if_pos hz, if_neg (by omega), hco]; simp only [if_pos hB, if_pos hF]
  have hlt := (List.getElem?_eq_some_iff.1 hco).1
  have hkl : k.toNat < me.length := by omega
  have hmg : me.getD k.toNat zT = me[k.toNat] := by rw [List.getD_eq_getElem?_getD, List.getElem?_eq_getElem hkl]; rfl
  rw [hmg] at hE ⊢
  have hmm := List.getElem_mem hkl
  generalize me[k.toNat] = m at *
  obtain ⟨m1, m2⟩ := mkL_wi (base := base) hf h0 h1 fco.args.2 hV lar h12 hargs rmo (by omega) rme (by omega) rar co.args.length (Nat.le_refl _)
  rw [List.take_length] at m2
  generalize hL : mkL b base co.args mo me args co.args.length = L at *
  have hM : makeE b base co m mo me args = if L.1 = 0 then checkM (spT m L.2) else L.1 := by rw [makeE, hL]
  by_cases hl : L.1 = 0
  · rw [if_pos hl] at hM
    obtain ⟨c1, c2⟩ := m2 hl
    have hfm := sp_formed L.2 m (formed_of (rme.c m hmm)) fun x hx => (c1 x hx).2.2
    have hrl := recs_le co.args
    have hn : nodes (spT m L.2) ≤ 400000000 := by
      have sums : ∀ l : List T, (∀ x ∈ l, nodes x ≤ 3000000) → (l.map nodes).sum ≤ 3000000 * l.length := by
        intro l
        induction l with
        | nil => simp
        | cons x l ih =>
          intro h
          have h1 := h x (by simp)
          have h2 := ih fun y hy => h y (by simp [hy])
          simp only [List.map_cons, List.sum_cons, List.length_cons]
          omega
      have := sums L.2 fun x hx => (c1 x hx).2.1
      have := rme.n m hmm
      rw [sp_nodes']
      omega
    have h45 : e045 (checkM (spT m L.2)) := by
      by_cases hc : checkM (spT m L.2) = 0
      · exact .inl hc
      · rw [checkM] at hc ⊢
        split
        · exact .inr (.inl rfl)
        · split
          · exact .inr (.inr rfl)
          · rename_i a1 a2
            rw [if_neg a1, if_neg a2, if_pos hfm] at hc
            exact absurd rfl hc
    rw [hE, hM]
    refine ⟨h45, fun hc => ⟨L.2, ?_, by rw [c2, lar], fun x hx => okT_of_formed (c1 x hx).2.2, hc, hn, ?_⟩⟩
    · have hEz : elimE b base k mo me args = 0 := by rw [hE, hM]; exact hc
      obtain ⟨_, _, co', hco', _, _, _, hT, _⟩ := elimE_zero hEz
      rw [hco] at hco'
      cases hco'
      rw [hT, hmg, hL]
    · rw [sp_wi, Bool.and_eq_true, List.all_eq_true]
      exact ⟨rme.w m hmm, fun x hx => (c1 x hx).1⟩
  · rw [if_neg hl] at hM
    rw [hE, hM]
    exact ⟨m1, fun h => (hl h).elim⟩
theorem spA_le (t : T) : (spA t).length ≤ nodes t := by
  refine T.ind (p := fun t => (spA t).length ≤ nodes t) ?_ t
  intro k n ks ih
  by_cases hc : k = 6 ∧ ∃ a b, ks = [a, b]
  · obtain ⟨rfl, a, b, rfl⟩ := hc
    rw [(sp_two n a b).1, List.length_cons, nodes2]
    have := ih a (by simp)
    omega
  · rw [(sp_none hc).1]
    simp
end Ev
end Go.Proofs.Ytomlkbohcoinoaa
