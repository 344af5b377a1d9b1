/- What comes in by type: numbers, terms, and how long their rows may be. -/
import Derived.Test.YtnkbhmafebngjaaS0
import Derived.Test.YtnkbhmafebngjaaE18
namespace Go.Proofs.Ytnkbhmafebngjaa
namespace Ev
open Go
set_option maxRecDepth 100000

theorem c_term : Try.prog.cellsOf 24 = 3 := by kernel_rfl
theorem c_terms : Try.prog.cellsOf 22 = 1 := by kernel_rfl
theorem c_int : Try.prog.cellsOf 3 = 1 := by kernel_rfl
theorem c_bool : Try.prog.cellsOf 4 = 1 := by kernel_rfl
theorem y_term : Try.prog.bytesOf 24 = 40 := by kernel_rfl

def n64 (n : Int) : Prop := -9223372036854775808 ≤ n ∧ n < 9223372036854775808
/-- As terms come in. -/
inductive okT : T → Prop
  | mk (k n : Int) (ks : List T) (hk : n64 k) (hn : n64 n) (hl : ks.length * 40 ≤ 140737488351232) (h : ∀ x ∈ ks, okT x) : okT (.mk k n ks)
def okTs (l : List T) : Prop := l.length * 40 ≤ 140737488351232 ∧ ∀ x ∈ l, okT x
theorem okT.kids {k n : Int} {ks : List T} (h : okT (.mk k n ks)) : okTs ks := by
  cases h with
  | mk _ _ _ _ _ hl h => exact ⟨hl, h⟩
theorem map_of {α : Type} {f : α → D} {q : α → Prop} : ∀ {xs : List D}, (∀ x ∈ xs, ∃ a, q a ∧ x = f a) → ∃ l : List α, xs = l.map f ∧ ∀ a ∈ l, q a
  | [], _ => ⟨[], rfl, by simp⟩
  | x :: xs, h => by
    obtain ⟨a, ha, rfl⟩ := h x (List.mem_cons_self ..)
    obtain ⟨l, rfl, hl⟩ := map_of (xs := xs) fun y hy => h y (List.mem_cons_of_mem _ hy)
    exact ⟨a :: l, rfl, by simpa using ⟨ha, hl⟩⟩
theorem agg_of : ∀ {x : D}, x.isAgg = true → x = .agg x.cells := by
  intro x h
  cases x <;> first | rfl | cases h
theorem len3 {xs : List D} (h : xs.length = 3) : ∃ a b c, xs = [a, b, c] := by
  match xs, h with
  | [a, b, c], _ => exact ⟨a, b, c, rfl⟩
theorem wf64 {i : Int} (hw : (Lit.int .i64 i).wf = true) : n64 i := by
  obtain ⟨u, v⟩ : IntKind.i64.min ≤ i ∧ i ≤ IntKind.i64.max := by simpa [Lit.wf] using hw
  have e1 : IntKind.i64.min = -9223372036854775808 := by decide
  have e2 : IntKind.i64.max = 9223372036854775807 := by decide
  exact ⟨by omega, by omega⟩
theorem typ_int {n : Nat} {cs : List D} (h : typ Try.prog n 3 cs) : ∃ i, cs = [.int .i64 i] ∧ n64 i := by
  cases n with
  | zero => exact h.elim
  | succ n =>
    simp only [typ, Try.underlying3] at h
    obtain ⟨i, hi, hw⟩ := h
    exact ⟨i, hi, wf64 hw⟩
theorem typ_bool {n : Nat} {cs : List D} (h : typ Try.prog n 4 cs) : ∃ b, cs = [.bool b] := by
  cases n with
  | zero => exact h.elim
  | succ n => simp only [typ, Try.underlying4] at h; exact h
theorem is_term : isStructB Try.prog 24 = true := by simp only [isStructB, Try.underlying24]

theorem typ_slice {e t : TypeId} {k y : Nat} {n : Nat} {cs : List D} (hu : Try.prog.underlying t = some (.slice e)) (hc : Try.prog.cellsOf e = k) (hy : Try.prog.bytesOf e = y) (hs : isStructB Try.prog e = true) (h : typ Try.prog n t cs) :
    ∃ (m : Nat) (xs : List D), n = m + 1 ∧ cs = [.sl k xs] ∧ xs.length * y ≤ 140737488351232 ∧ ∀ x ∈ xs, typ Try.prog m e x.cells ∧ x = .agg x.cells := by
  cases n with
  | zero => exact h.elim
  | succ n =>
    simp only [typ, hu] at h
    obtain ⟨xs, rfl, _, hl, hx⟩ := h
    exact ⟨n, xs, rfl, by rw [hc], by rw [hy] at hl; exact hl, fun x hxx => ⟨(hx x hxx).1, agg_of (by rw [(hx x hxx).2, hs])⟩⟩

theorem typ_term (n : Nat) : ∀ {cs : List D}, typ Try.prog n 24 cs → ∃ t : T, cs = cT t ∧ okT t := by
  induction n using Nat.strongRecOn with
  | ind n ih =>
    intro cs h
    cases n with
    | zero => exact h.elim
    | succ n =>
    simp only [typ, Try.underlying24, c_term, c_int, c_terms, List.forall_mem_cons] at h
    obtain ⟨hl, h1, h2, h3, _⟩ := h
    obtain ⟨a, b, c, rfl⟩ := len3 hl
    obtain ⟨i, hi, wi⟩ := typ_int h1
    obtain ⟨j, hj, wj⟩ := typ_int h2
    obtain ⟨m, xs, rfl, hc, hb, hx⟩ := typ_slice Try.underlying22 c_term y_term is_term h3
    simp at hi hj hc
    subst hi hj hc
    obtain ⟨ks, rfl, hks⟩ : ∃ l : List T, xs = l.map eT ∧ ∀ a ∈ l, okT a := map_of fun x hxx => by
      obtain ⟨h4, h5⟩ := hx x hxx
      obtain ⟨t, ht, hq⟩ := ih m (by omega) h4
      exact ⟨t, hq, by rw [h5, ht, eT_eq]⟩
    exact ⟨.mk i j ks, rfl, .mk i j ks wi wj (by simpa using hb) hks⟩
theorem typ_terms {n : Nat} {cs : List D} (h : typ Try.prog n 22 cs) : ∃ l : List T, cs = [eTs l] ∧ okTs l := by
  obtain ⟨m, xs, rfl, hc, hb, hx⟩ := typ_slice Try.underlying22 c_term y_term is_term h
  obtain ⟨ks, rfl, hks⟩ : ∃ l : List T, xs = l.map eT ∧ ∀ a ∈ l, okT a := map_of fun x hxx => by
    obtain ⟨h4, h5⟩ := hx x hxx
    obtain ⟨t, ht, hq⟩ := typ_term m h4
    exact ⟨t, hq, by rw [h5, ht, eT_eq]⟩
  exact ⟨ks, hc, by simpa using hb, hks⟩
/-- An argument of each type. -/
theorem not_agg {x : D} (h : x.isAgg = false) : x.cells = [x] := by
  cases x <;> first | rfl | cases h
theorem arg_int {x : D} (h : TypD Try.prog 3 x) : ∃ i, x = .int .i64 i ∧ n64 i := by
  obtain ⟨⟨n, h1⟩, h2⟩ := h
  obtain ⟨i, hi, hw⟩ := typ_int h1
  have h3 : isStructB Try.prog 3 = false := by simp only [isStructB, Try.underlying3]
  rw [not_agg (h2.trans h3)] at hi
  exact ⟨i, by simpa using hi, hw⟩
theorem arg_term {x : D} (h : TypD Try.prog 24 x) : ∃ t : T, x = .agg (cT t) ∧ okT t := by
  obtain ⟨⟨n, h1⟩, h2⟩ := h
  obtain ⟨b, hb, hq⟩ := typ_term n h1
  exact ⟨b, by rw [agg_of (h2.trans is_term), hb], hq⟩
theorem arg_terms {x : D} (h : TypD Try.prog 22 x) : ∃ l : List T, x = eTs l ∧ okTs l := by
  obtain ⟨⟨n, h1⟩, h2⟩ := h
  obtain ⟨l, hl, hq⟩ := typ_terms h1
  have h3 : isStructB Try.prog 22 = false := by simp only [isStructB, Try.underlying22]
  rw [not_agg (h2.trans h3)] at hl
  exact ⟨l, by simpa using hl, hq⟩
end Ev
end Go.Proofs.Ytnkbhmafebngjaa
