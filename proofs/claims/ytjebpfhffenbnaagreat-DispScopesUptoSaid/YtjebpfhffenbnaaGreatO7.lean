/- posit's laws: known blocks; wakes. -/
import Derived.Test.YtjebpfhffenbnaaGreatO5
namespace Go.Proofs.YtjebpfhffenbnaaGreat
namespace Ev
open Go
set_option maxRecDepth 100000
set_option linter.unusedSimpArgs false
set_option linter.unusedVariables false
def n64B (n : Int) : Bool := decide (-9223372036854775808 ≤ n) && decide (n < 9223372036854775808)
theorem n64_of {n : Int} (h : n64B n = true) : n64 n := by
  rw [n64B, Bool.and_eq_true, decide_eq_true_eq, decide_eq_true_eq] at h
  exact h
mutual
def okTB : T → Bool
  | .mk k n ks => n64B k && (n64B n && (decide (ks.length * 40 ≤ 140737488351232) && okLB ks))
def okLB : List T → Bool
  | [] => true
  | x :: xs => okTB x && okLB xs
end
theorem okL_of {xs : List T} (hx : ∀ x ∈ xs, okTB x = true → okT x) (h : okLB xs = true) : ∀ x ∈ xs, okT x := by
  induction xs with
  | nil => intro x hx'; simp at hx'
  | cons y ys ih =>
    rw [okLB, Bool.and_eq_true] at h
    intro x hm
    rcases List.mem_cons.1 hm with rfl | hm
    · exact hx _ (by simp) h.1
    · exact ih (fun z hz => hx z (by simp [hz])) h.2 x hm
theorem okT_of (t : T) : okTB t = true → okT t := by
  refine T.ind (p := fun t => okTB t = true → okT t) ?_ t
  intro k n ks ih h
  rw [okTB] at h
  simp only [Bool.and_eq_true, decide_eq_true_eq] at h
  exact .mk k n ks (n64_of h.1) (n64_of h.2.1) h.2.2.1 (okL_of ih h.2.2.2)
def okTsB (l : List T) : Bool := decide (l.length * 40 ≤ 140737488351232) && okLB l
theorem okTsB_of {l : List T} (h : okTsB l = true) : okTs l := by
  rw [okTsB, Bool.and_eq_true, decide_eq_true_eq] at h
  exact ⟨h.1, okL_of (fun x _ => okT_of x) h.2⟩
def okArB (a : Ar) : Bool := okTB a.ty && (okTsB a.dom && (n64B a.sort && okTsB a.idx))
def okArsB (l : List Ar) : Bool := decide (l.length * 104 ≤ 140737488351232) && l.all okArB
theorem okArs_of {l : List Ar} (h : okArsB l = true) : okArs l := by
  rw [okArsB, Bool.and_eq_true, decide_eq_true_eq, List.all_eq_true] at h
  refine ⟨h.1, fun a ha => ?_⟩
  have := h.2 a ha
  simp only [okArB, Bool.and_eq_true] at this
  exact ⟨okT_of _ this.1, okTsB_of this.2.1, n64_of this.2.2.1, okTsB_of this.2.2.2⟩
def okBlB (b : Bl) : Bool := decide (b.sorts.length * 80 ≤ 140737488351232) && (b.sorts.all (fun s => okArsB s.idx && (n64B s.level && okTB s.dty)) && (decide (b.cons.length * 96 ≤ 140737488351232) &&
  (b.cons.all (fun c => n64B c.sort && (okArsB c.args && (okTsB c.idx && okTB c.dec))) && n64B b.elim)))
theorem okBl_of {b : Bl} (h : okBlB b = true) : okBl b := by
  simp only [okBlB, Bool.and_eq_true, decide_eq_true_eq, List.all_eq_true] at h
  obtain ⟨h1, h2, h3, h4, h5⟩ := h
  exact ⟨h1, fun s hs => ⟨okArs_of (h2 s hs).1, n64_of (h2 s hs).2.1, okT_of _ (h2 s hs).2.2⟩, h3, fun c hc => ⟨n64_of (h4 c hc).1, okArs_of (h4 c hc).2.1, okTsB_of (h4 c hc).2.2.1, okT_of _ (h4 c hc).2.2.2⟩, n64_of h5⟩
mutual
def nodB : T → Nat
  | .mk _ _ ks => 1 + nodLB ks
def nodLB : List T → Nat
  | [] => 0
  | x :: xs => nodB x + nodLB xs
end
theorem nodLB_of {xs : List T} (h : ∀ x ∈ xs, nodB x = nodes x) : nodLB xs = (xs.map nodes).sum := by
  induction xs with
  | nil => rfl
  | cons y ys ih => rw [nodLB, h y (by simp), ih fun z hz => h z (by simp [hz]), List.map_cons, List.sum_cons]
theorem nodB_is (t : T) : nodB t = nodes t := by
  refine T.ind (p := fun t => nodB t = nodes t) ?_ t
  intro k n ks ih
  rw [nodB, nodes, nodLB_of ih, Nat.add_comm]
theorem nodLB_is (l : List T) : nodLB l = (l.map nodes).sum := nodLB_of fun x _ => nodB_is x
def fineArsB (l : List Ar) : Bool := decide (l.length ≤ 20) && l.all fun a => decide (nodB a.ty ≤ 9000) && (decide (a.dom.length ≤ 60) && (decide (nodLB a.dom ≤ 9000) && (decide (a.idx.length ≤ 60) && decide (nodLB a.idx ≤ 9000))))
theorem fineArs_of {l : List Ar} (h : fineArsB l = true) : FineArs l := by
  simp only [fineArsB, nodB_is, nodLB_is, Bool.and_eq_true, decide_eq_true_eq, List.all_eq_true] at h
  exact ⟨h.1, fun a ha => ⟨(h.2 a ha).1, (h.2 a ha).2.1, (h.2 a ha).2.2.1, (h.2 a ha).2.2.2.1, (h.2 a ha).2.2.2.2⟩⟩
def fineBlB (b : Bl) : Bool := decide (b.sorts.length ≤ 10) && (decide (b.cons.length ≤ 20) && ((b.sorts.all fun s => fineArsB s.idx && decide (nodB s.dty ≤ 9000)) &&
  b.cons.all fun c => fineArsB c.args && (decide (c.idx.length ≤ 60) && (decide (nodLB c.idx ≤ 9000) && decide (nodB c.dec ≤ 9000)))))
theorem fineBl_of {b : Bl} (h : fineBlB b = true) : FineBl b := by
  simp only [fineBlB, nodB_is, nodLB_is, Bool.and_eq_true, decide_eq_true_eq, List.all_eq_true] at h
  obtain ⟨h1, h2, h3, h4⟩ := h
  exact ⟨h1, h2, fun s hs => ⟨fineArs_of (h3 s hs).1, (h3 s hs).2⟩, fun c hc => ⟨fineArs_of (h4 c hc).1, (h4 c hc).2.1, (h4 c hc).2.2.1, (h4 c hc).2.2.2⟩⟩
mutual
def formC : T → Bool
  | .mk k n ks => if (ks.length : Int) = kidsM k then if kidsM k = 0 then inB n 0 65535 && formLC ks else if n = 0 then formLC ks else false else false
def formLC : List T → Bool
  | [] => true
  | x :: xs => formC x && formLC xs
end
theorem formLC_of {xs : List T} (h : ∀ x ∈ xs, formC x = formedM x) : formLC xs = xs.all formedM := by
  induction xs with
  | nil => rfl
  | cons y ys ih => rw [formLC, h y (by simp), ih fun z hz => h z (by simp [hz]), List.all_cons]
theorem formC_is (t : T) : formC t = formedM t := by
  refine T.ind (p := fun t => formC t = formedM t) ?_ t
  intro k n ks ih
  rw [formC, formedM_is, formLC_of ih]
/-- A small term in so many variables. -/
def inC (t : T) (v : Nat) : Bool := decide (v ≤ 65536) && (decide (nodB t ≤ 200) && (formC t && wiT t v 65536))
theorem inC_of {t : T} {v : Nat} (h : inC t v = true) : inM t v = true := by
  simp only [inC, Bool.and_eq_true, decide_eq_true_eq, nodB_is, formC_is] at h
  obtain ⟨h1, h2, h3, h4⟩ := h
  have hd := depth_le t
  exact (scope_is (by omega) (by omega) (by omega)).2 ⟨(check_iff (by omega)).2 ⟨by omega, by omega, h3⟩, h4⟩
def domC : Nat → List T → Bool
  | _, [] => true
  | i, x :: xs => inC x i && domC (i + 1) xs
theorem domC_at : ∀ (l : List T) (i : Nat), domC i l = true → ∀ (j : Nat) (hj : j < l.length), inC l[j] (i + j) = true
  | x :: xs, i, h, 0, _ => by rw [domC, Bool.and_eq_true] at h; exact h.1
  | x :: xs, i, h, j + 1, hj => by
    rw [domC, Bool.and_eq_true] at h
    have := domC_at xs (i + 1) h.2 j (by simpa using hj)
    rw [show i + (j + 1) = i + 1 + j by omega]
    exact this
def argC (b : Bl) (a : Ar) (i : Nat) : Bool :=
  if a.rc then noneM a.ty && (decide (a.dom.length ≤ 12) && (decide (0 ≤ a.sort) && match b.sorts[a.sort.toNat]? with
    | none => false
    | some s => decide (a.idx.length = s.idx.length) && (domC i a.dom && a.idx.all fun t => inC t (i + a.dom.length))))
  else inC a.ty i && (decide (a.dom = []) && (decide (a.idx = []) && decide (a.sort = 0)))
theorem allM_of {l : List T} {v : Nat} (h : l.all (fun t => inC t v) = true) : allM l v = true := by
  rw [allM, Bool.not_eq_true', List.any_eq_false]
  intro x hx
  have := inC_of (List.all_eq_true.1 h x hx)
  simp [this]
theorem argC_of {b : Bl} {a : Ar} {i : Nat} (hi : i ≤ 12) (h : argC b a i = true) : argM b a i = true := by
  rw [argC] at h
  rw [argM]
  split at h
  · rename_i hr
    simp only [Bool.and_eq_true, decide_eq_true_eq] at h
    obtain ⟨h1, h2, h3, h4⟩ := h
    rw [if_pos hr, if_pos h1, if_neg (by omega), if_neg (by omega)]
    split at h4
    · cases h4
    · rename_i s hs
      simp only [Bool.and_eq_true, decide_eq_true_eq] at h4
      obtain ⟨h5, h6, h7⟩ := h4
      rw [hs]
      dsimp only
      rw [if_pos (by omega), Bool.and_eq_true]
      refine ⟨(allI_iff _ _ _).2 fun j hj => ?_, ?_⟩
      · rw [Nat.zero_add, w64_id (by omega) (by omega), show (i : Int) + (j : Int) = ((i + j : Nat) : Int) by omega]
        exact inC_of (domC_at _ _ h6 j hj)
      · rw [w64_id (by omega) (by omega), show (i : Int) + (a.dom.length : Int) = ((i + a.dom.length : Nat) : Int) by omega]
        exact allM_of h7
  · rename_i hr
    simp only [Bool.and_eq_true, decide_eq_true_eq] at h
    obtain ⟨h1, h2, h3, h4⟩ := h
    rw [if_neg hr, if_pos (inC_of h1), h2, h3]
    simp [h4, w64]
    rfl
def argsC (b : Bl) : Nat → List Ar → Bool
  | _, [] => true
  | i, x :: xs => argC b x i && argsC b (i + 1) xs
theorem argsC_at {b : Bl} : ∀ (l : List Ar) (i : Nat), argsC b i l = true → ∀ (j : Nat) (hj : j < l.length), argC b l[j] (i + j) = true
  | x :: xs, i, h, 0, _ => by rw [argsC, Bool.and_eq_true] at h; exact h.1
  | x :: xs, i, h, j + 1, hj => by
    rw [argsC, Bool.and_eq_true] at h
    have := argsC_at xs (i + 1) h.2 j (by simpa using hj)
    rw [show i + (j + 1) = i + 1 + j by omega]
    exact this
def rowC (b : Bl) (l : List Ar) : Bool := decide (l.length ≤ 12) && argsC b 0 l
theorem rowC_of {b : Bl} {l : List Ar} (h : rowC b l = true) : rowM b l = true := by
  rw [rowC, Bool.and_eq_true, decide_eq_true_eq] at h
  rw [rowM, if_neg (by omega)]
  refine (allI_iff _ _ _).2 fun j hj => ?_
  have := argsC_at _ _ h.2 j hj
  rw [Nat.zero_add] at this ⊢
  exact argC_of (by omega) this
def maybeC (is : Bool) (t : T) (v : Nat) : Bool := if is then inC t v else noneM t
theorem maybeC_of {is : Bool} {t : T} {v : Nat} (h : maybeC is t v = true) : maybeM is t v = true := by
  rw [maybeC] at h
  rw [maybeM]
  split at h
  · rename_i h1
    rw [if_pos h1]; exact inC_of h
  · rename_i h1
    rw [if_neg h1]; exact h
def sortsC (b : Bl) : Nat → List So → Bool
  | _, [] => true
  | k, s :: l => (rowC b s.idx && (levelM s.level && (maybeC s.dec s.dty s.idx.length && !s.idx.any (sortBad k s)))) && sortsC b (k + 1) l
theorem sortsC_at {b : Bl} : ∀ (l : List So) (k : Nat), sortsC b k l = true → ∀ (j : Nat) (hj : j < l.length), sortM b (k + j) l[j] = true
  | x :: xs, k, h, 0, _ => by
    simp only [sortsC, Bool.and_eq_true, Bool.not_eq_true'] at h
    obtain ⟨⟨h1, h2, h3, h4⟩, _⟩ := h
    refine (sortM_true _ _ _).2 ⟨rowC_of h1, h2, maybeC_of h3, fun a ha => ?_⟩
    have := List.any_eq_false.1 h4 a ha
    simpa using this
  | x :: xs, k, h, j + 1, hj => by
    rw [sortsC, Bool.and_eq_true] at h
    have := sortsC_at xs (k + 1) h.2 j (by simpa using hj)
    rw [show k + (j + 1) = k + 1 + j by omega]
    exact this
def conC (b : Bl) (c : Co) : Bool := decide (0 ≤ c.sort) && (rowC b c.args && match b.sorts[c.sort.toNat]? with
  | none => false
  | some s => decide (c.idx.length = s.idx.length) && (c.idx.all (fun t => inC t c.args.length) && maybeC s.dec c.dec c.args.length))
theorem conC_of {b : Bl} {c : Co} (h : conC b c = true) : conM b c = true := by
  simp only [conC, Bool.and_eq_true, decide_eq_true_eq] at h
  obtain ⟨h1, h2, h3⟩ := h
  rw [conM, if_neg (by omega), if_pos (rowC_of h2)]
  split at h3
  · cases h3
  · rename_i s hs
    simp only [Bool.and_eq_true, decide_eq_true_eq] at h3
    rw [hs]
    dsimp only
    rw [if_pos (by omega), if_pos (allM_of h3.2.1)]
    exact maybeC_of h3.2.2
def shapeC (b : Bl) : Bool := decide (1 ≤ b.sorts.length) && (decide (b.sorts.length ≤ 4) && (decide (b.cons.length ≤ 8) && (levelM b.elim && (sortsC b 0 b.sorts && b.cons.all (conC b)))))
theorem shapeC_of {b : Bl} (h : shapeC b = true) : checkB b = 0 := by
  simp only [shapeC, Bool.and_eq_true, decide_eq_true_eq, List.all_eq_true] at h
  obtain ⟨h1, h2, h3, h4, h5, h6⟩ := h
  exact (checkB_zero b).2 ⟨h1, h2, h3, h4, fun j hj => by have := sortsC_at _ _ h5 j hj; rwa [Nat.zero_add] at this, fun c hc => conC_of (h6 c hc)⟩
/-- What posit.Check tells of a known right block. -/
def knownB (b : Bl) (base : Int) (good : Bool) : Bool := okBlB b && (fineBlB b && (shapeC b && (decide (0 ≤ base) && (decide (base ≤ 65535) && (posF 9000 b base == good)))))
end Ev
end Go.Proofs.YtjebpfhffenbnaaGreat
