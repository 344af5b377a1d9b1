/- DispScopes. -/
import Derived.Test.YtjebpfhffenbnaaGreatY7
namespace Go.Proofs.YtjebpfhffenbnaaGreat
namespace Ev
open Go
set_option maxRecDepth 100000
set_option linter.unusedSimpArgs false
set_option linter.unusedVariables false
section
theorem put_nodes (v : Vw) {t : T} (ft : formedM t = true) (first : Nat) (more vars : Int) : nodes (putT v t first more vars) = nodes t :=
  same_nodes _ (fun n b => by rw [putF]; split <;> exact leaf_nodes _ _) t ft 0
theorem sp_sum {t : T} (ft : formedM t = true) : ((spA t).map nodes).sum + (spA t).length + nodes (spH t) = nodes t := by
  have h := (sp_again t ft).1
  have h2 := sp_nodes' (spA t).reverse (spH t)
  rw [h, List.length_reverse, List.map_reverse, List.sum_reverse] at h2
  omega
theorem shA_sum {pt sh : T → T} {K : Nat} : ∀ (ar : List Ar) (xs : List T), (∀ x ∈ xs, nodes (pt x) = nodes x) → (∀ (i : Nat) (h : i < ar.length) (h' : i < xs.length), ar[i].rc = true → nodes (sh xs[i]) ≤ K * nodes xs[i]) →
    ((shA pt sh ar xs).map nodes).sum + (shA pt sh ar xs).length ≤ (K + 2) * ((xs.map nodes).sum + xs.length)
  | [], xs, _, _ => by simp [shA]
  | a :: ar, [], _, _ => by simp [shA]
  | a :: ar, x :: xs, hp, hs => by
    have ih := shA_sum ar xs (fun y hy => hp y (by simp [hy])) fun i h h' hr => by
      have := hs (i + 1) (by simpa using h) (by simpa using h') (by simpa using hr)
      simpa only [List.getElem_cons_succ] using this
    have h0 := hp x (by simp)
    have e1 : (K + 2) * (((x :: xs).map nodes).sum + (x :: xs).length) = (K + 2) * (nodes x + 1) + (K + 2) * ((xs.map nodes).sum + xs.length) := by
      rw [← Nat.mul_add]; simp only [List.map_cons, List.sum_cons, List.length_cons]; congr 1; omega
    have e2 : (K + 2) * (nodes x + 1) = K * nodes x + K + 2 * nodes x + 2 := by
      rw [Nat.add_mul, Nat.mul_succ]; omega
    rw [e1, e2, shA]
    cases hr : a.rc with
    | true =>
      have h1 := hs 0 (by simp) (by simp) (by simpa using hr)
      simp only [List.getElem_cons_zero] at h1
      simp only [if_true, List.map_cons, List.sum_cons, List.length_cons]
      omega
    | false =>
      simp only [Bool.false_eq_true, if_false, List.map_cons, List.sum_cons, List.length_cons]
      omega
theorem sh_nodes8 (v : Vw) (first : Nat) (more vars : Int) : ∀ (n : Nat) (t : T), formedM t = true → nodes t ≤ n → nodes (shT v first more vars n t) ≤ (2 * n) * nodes t := by
  intro n
  induction n with
  | zero => intro t _ h; have := nodes_pos t; omega
  | succ n ih =>
    intro t ft hn
    have m1 := (spA_mem t).1
    obtain ⟨fH, fA⟩ := sp_formed2 t ft
    have hs := sp_sum ft
    have hHp := nodes_pos (spH t)
    have hm : ∀ x ∈ (spA t).reverse, nodes x < nodes t ∧ formedM x = true := fun x hx => ⟨m1 x (by simpa using hx), fA x (by simpa using hx)⟩
    have hrs : ((spA t).reverse.map nodes).sum = ((spA t).map nodes).sum := by rw [List.map_reverse, List.sum_reverse]
    have e0 : 2 * (n + 1) * nodes t = 2 * n * nodes t + 2 * nodes t := by
      rw [show 2 * (n + 1) = 2 * n + 2 by omega, Nat.add_mul]
    rw [shT]
    split
    · rw [sp_nodes', List.map_map, List.length_map, List.length_reverse]
      have : ((spA t).reverse.map (nodes ∘ fun x => putT v x first more vars)).sum = ((spA t).map nodes).sum := by
        rw [← hrs]
        congr 1
        exact List.map_congr_left fun x hx => put_nodes v (hm x hx).2 first more vars
      rw [this, show nodes (lv _ _) = 1 from leaf_nodes _ _, e0]
      omega
    · rw [sp_nodes', show nodes (lv _ _) = 1 from leaf_nodes _ _, e0]
      split
      · rename_i c hc
        have h1 := shA_sum (pt := fun x => putT v x first more vars) (sh := shT v first more vars n) (K := 2 * n) c.args (spA t).reverse (fun x hx => put_nodes v (hm x hx).2 first more vars) fun i h h' hr => by
          obtain ⟨x1, x2⟩ := hm _ (List.getElem_mem h')
          exact ih _ x2 (by omega)
        rw [hrs, List.length_reverse] at h1
        have h2 : (2 * n + 2) * (((spA t).map nodes).sum + (spA t).length) ≤ (2 * n + 2) * (nodes t - 1) := Nat.mul_le_mul_left _ (by omega)
        have h3 : (2 * n + 2) * (nodes t - 1) + (2 * n + 2) = (2 * n + 2) * nodes t := by
          rw [← Nat.mul_succ]; congr 1; omega
        have h4 : (2 * n + 2) * nodes t = 2 * n * nodes t + 2 * nodes t := by rw [Nat.add_mul]
        omega
      · simp only [List.map_nil, List.sum_nil, List.length_nil]
        omega
theorem in_nodes8 (v : Vw) (so : So) {l : List T} (hl : ∀ x ∈ l, formedM x = true ∧ nodes x ≤ 9000) (hs : (l.map nodes).sum ≤ 9000) (hn : l.length ≤ 60) (first : Nat) (more vars : Int) : ((inT v 9000 so l first more vars).map nodes).sum + (inT v 9000 so l first more vars).length ≤ 200000000 := by
  have h1 := shA_sum (pt := fun x => putT v x first more vars) (sh := shT v first more vars 9000) (K := 2 * 9000) so.idx l (fun x hx => put_nodes v (hl x hx).1 first more vars) fun i h h' hr => by
    obtain ⟨x1, x2⟩ := hl _ (List.getElem_mem h')
    exact sh_nodes8 v first more vars 9000 _ x1 x2
  rw [inT]
  omega
theorem dmP_sum (v : Vw) (first : Nat) (vars : Int) : ∀ (l : List T) (j : Nat), (∀ x ∈ l, formedM x = true) → ((dmP v first vars j l).map nodes).sum = (l.map nodes).sum
  | [], _, _ => rfl
  | d :: ds, j, h => by
    rw [dmP, List.map_cons, List.map_cons, List.sum_cons, List.sum_cons, put_nodes v (h d (by simp)), dmP_sum v first vars ds (j + 1) fun x hx => h x (by simp [hx])]
theorem leaf_sum {α : Type} (f : α → T) (h : ∀ x, nodes (f x) = 1) : ∀ l : List α, ((l.map f).map nodes).sum = l.length
  | [] => rfl
  | x :: xs => by rw [List.map_cons, List.map_cons, List.sum_cons, h x, leaf_sum f h xs, List.length_cons]; omega
theorem tyA_nodes {b : Bl} {base e cons : Int} {l : List Ar} (R : Row8 b base l e cons) (i : Nat) (hi : i < l.length) (p : Int) : ((tyA (vwOf b base l e) 9000 i p l[i]).map nodes).sum + (tyA (vwOf b base l e) 9000 i p l[i]).length ≤ 300000000 := by
  obtain ⟨hr1, hr2⟩ := rowM_at R.row
  have fa := R.fine.2 _ (List.getElem_mem hi)
  have hA := argTy_right R.fit R.b0 R.b1 fa (by omega) (hr2 i hi)
  have hAn := argTy_nodes (b := b) (base := base) fa
  rw [tyA, List.map_cons, List.sum_cons, List.length_cons, show (vwOf b base l e).b = b from rfl, show (vwOf b base l e).base = base from rfl, put_nodes _ hA.2]
  cases hr : l[i].rc with
  | false => simp only [Bool.false_eq_true, if_false, List.map_nil, List.sum_nil, List.length_nil]; omega
  | true =>
    obtain ⟨_, s0, s1, d1, ⟨so, hso, hil⟩, hd, hx⟩ := argM_rec (hr2 i hi) hr (by omega) (by omega)
    have hxs : ∀ x ∈ l[i].idx, formedM x = true ∧ nodes x ≤ 9000 := fun x hxm => by
      have hnx : nodes x ≤ 9000 := Nat.le_trans (sum_mem (List.mem_map.2 ⟨_, hxm, rfl⟩)) fa.idx
      exact ⟨(in_facts (hx x hxm) (by omega) (by omega) (by omega)).2.1, hnx⟩
    have hds : ∀ x ∈ l[i].dom, formedM x = true := fun x hxm => by
      obtain ⟨j, hj, rfl⟩ := List.mem_iff_getElem.1 hxm
      have hnx : nodes l[i].dom[j] ≤ 9000 := Nat.le_trans (sum_mem (List.mem_map.2 ⟨_, List.getElem_mem hj, rfl⟩)) fa.dom
      exact (in_facts (hd j hj) (by omega) (by omega) (by omega)).2.1
    have hI := in_nodes8 (vwOf b base l e) so hxs fa.idx fa.idxL i l[i].dom.length (p + 1)
    have hdom := fa.dom
    have hV : ((varsN l[i].dom.length).map nodes).sum = l[i].dom.length := by
      have := leaf_sum (fun (j : Nat) => tV ((l[i].dom.length : Int) - 1 - (j : Int))) (fun j => leaf_nodes _ _) (List.range l[i].dom.length)
      rwa [List.length_range] at this
    have hVl := varsN_len l[i].dom.length
    simp only [if_true, List.map_cons, List.map_nil, List.sum_cons, List.sum_nil, List.length_cons, List.length_nil, hso]
    rw [nest_nodes, dmP_sum _ _ _ _ _ hds, dmP_len, sp_nodes', List.map_append, List.sum_append, List.length_append, List.map_cons, List.map_nil, List.sum_cons, List.sum_nil, sp_nodes', hV, hVl,
      show nodes (lv _ _) = 1 from leaf_nodes _ _, show nodes (lv _ _) = 1 from leaf_nodes _ _, List.length_singleton]
    omega
theorem ty_nodes8 {b : Bl} {base e cons : Int} {l : List Ar} (R : Row8 b base l e cons) : ((tyL (vwOf b base l e) 9000 0 l).map nodes).sum + (tyL (vwOf b base l e) 9000 0 l).length ≤ 300000000 * l.length := by
  have go : ∀ j, j ≤ l.length → ((tyL (vwOf b base l e) 9000 0 (l.take j)).map nodes).sum + (tyL (vwOf b base l e) 9000 0 (l.take j)).length ≤ 300000000 * j := by
    intro j
    induction j with
    | zero => intro _; simp [tyL]
    | succ j ih =>
      intro hj
      have hlt : j < l.length := by omega
      have h1 := tyA_nodes R j hlt (((vwOf b base l e).pos[0 + j]?).getD 0)
      have h2 := ih (by omega)
      rw [tyL_snoc _ _ _ _ _ hlt, List.map_append, List.sum_append, List.length_append]
      rw [show 0 + j = j by omega] at h1 ⊢
      omega
  have := go l.length (Nat.le_refl _)
  rwa [List.take_length] at this
end
end Ev
end Go.Proofs.YtjebpfhffenbnaaGreat
