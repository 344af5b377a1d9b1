/- What comes in by type: terms, arguments, sorts, constructors, blocks, and how long their rows may be. -/
import Derived.Test.YtafpjpolkjdohaaS0
import Derived.Test.YtafpjpolkjdohaaE18
namespace Go.Proofs.Ytafpjpolkjdohaa
namespace Ev
open Go
set_option maxRecDepth 100000

theorem c_term : Try.prog.cellsOf 24 = 3 := by kernel_rfl
theorem c_terms : Try.prog.cellsOf 22 = 1 := by kernel_rfl
theorem c_arg : Try.prog.cellsOf 63 = 7 := by kernel_rfl
theorem c_args : Try.prog.cellsOf 57 = 1 := by kernel_rfl
theorem c_sort : Try.prog.cellsOf 59 = 6 := by kernel_rfl
theorem c_con : Try.prog.cellsOf 61 = 6 := by kernel_rfl
theorem c_sorts : Try.prog.cellsOf 51 = 1 := by kernel_rfl
theorem c_cons : Try.prog.cellsOf 52 = 1 := by kernel_rfl
theorem c_block : Try.prog.cellsOf 54 = 3 := by kernel_rfl
theorem c_int : Try.prog.cellsOf 3 = 1 := by kernel_rfl
theorem c_bool : Try.prog.cellsOf 4 = 1 := by kernel_rfl
theorem y_term : Try.prog.bytesOf 24 = 40 := by kernel_rfl
theorem y_arg : Try.prog.bytesOf 63 = 104 := by kernel_rfl
theorem y_sort : Try.prog.bytesOf 59 = 80 := by kernel_rfl
theorem y_con : Try.prog.bytesOf 61 = 96 := by kernel_rfl

def n64 (n : Int) : Prop := -9223372036854775808 ≤ n ∧ n < 9223372036854775808
/-- As terms come in. -/
inductive okT : T → Prop
  | mk (k n : Int) (ks : List T) (hk : n64 k) (hn : n64 n) (hl : ks.length * 40 ≤ 140737488351232) (h : ∀ x ∈ ks, okT x) : okT (.mk k n ks)
def okTs (l : List T) : Prop := l.length * 40 ≤ 140737488351232 ∧ ∀ x ∈ l, okT x
theorem okT.kids {k n : Int} {ks : List T} (h : okT (.mk k n ks)) : okTs ks := by
  cases h with
  | mk _ _ _ _ _ hl h => exact ⟨hl, h⟩
structure okAr (a : Ar) : Prop where
  ty : okT a.ty
  dom : okTs a.dom
  sort : n64 a.sort
  idx : okTs a.idx
def okArs (l : List Ar) : Prop := l.length * 104 ≤ 140737488351232 ∧ ∀ x ∈ l, okAr x
structure okSo (s : So) : Prop where
  idx : okArs s.idx
  level : n64 s.level
  dty : okT s.dty
structure okCo (c : Co) : Prop where
  sort : n64 c.sort
  args : okArs c.args
  idx : okTs c.idx
  dec : okT c.dec
structure okBl (b : Bl) : Prop where
  sortsL : b.sorts.length * 80 ≤ 140737488351232
  sorts : ∀ x ∈ b.sorts, okSo x
  consL : b.cons.length * 96 ≤ 140737488351232
  cons : ∀ x ∈ b.cons, okCo x
  elim : n64 b.elim

theorem map_of {α : Type} {f : α → D} {q : α → Prop} : ∀ {xs : List D}, (∀ x ∈ xs, ∃ a, q a ∧ x = f a) → ∃ l : List α, xs = l.map f ∧ ∀ a ∈ l, q a
  | [], _ => ⟨[], rfl, by simp⟩
  | x :: xs, h => by
    obtain ⟨a, ha, rfl⟩ := h x (List.mem_cons_self ..)
    obtain ⟨l, rfl, hl⟩ := map_of (xs := xs) fun y hy => h y (List.mem_cons_of_mem _ hy)
    exact ⟨a :: l, rfl, by simpa using ⟨ha, hl⟩⟩
theorem agg_of : ∀ {x : D}, x.isAgg = true → x = .agg x.cells := by
  intro x h
  cases x <;> first | rfl | cases h
theorem len3 {xs : List D} (h : xs.length = 3) : ∃ a b c, xs = [a, b, c] := by
  match xs, h with
  | [a, b, c], _ => exact ⟨a, b, c, rfl⟩
theorem len6 {xs : List D} (h : xs.length = 6) : ∃ a b c d e f, xs = [a, b, c, d, e, f] := by
  match xs, h with
  | [a, b, c, d, e, f], _ => exact ⟨a, b, c, d, e, f, rfl⟩
theorem len7 {xs : List D} (h : xs.length = 7) : ∃ a b c d e f g, xs = [a, b, c, d, e, f, g] := by
  match xs, h with
  | [a, b, c, d, e, f, g], _ => exact ⟨a, b, c, d, e, f, g, rfl⟩

theorem wf64 {i : Int} (hw : (Lit.int .i64 i).wf = true) : n64 i := by
  obtain ⟨u, v⟩ : IntKind.i64.min ≤ i ∧ i ≤ IntKind.i64.max := by simpa [Lit.wf] using hw
  have e1 : IntKind.i64.min = -9223372036854775808 := by decide
  have e2 : IntKind.i64.max = 9223372036854775807 := by decide
  exact ⟨by omega, by omega⟩
theorem typ_int {n : Nat} {cs : List D} (h : typ Try.prog n 3 cs) : ∃ i, cs = [.int .i64 i] ∧ n64 i := by
  cases n with
  | zero => exact h.elim
  | succ n =>
    simp only [typ, Try.underlying3] at h
    obtain ⟨i, hi, hw⟩ := h
    exact ⟨i, hi, wf64 hw⟩
theorem typ_bool {n : Nat} {cs : List D} (h : typ Try.prog n 4 cs) : ∃ b, cs = [.bool b] := by
  cases n with
  | zero => exact h.elim
  | succ n => simp only [typ, Try.underlying4] at h; exact h
theorem is_term : isStructB Try.prog 24 = true := by simp only [isStructB, Try.underlying24]
theorem is_arg : isStructB Try.prog 63 = true := by simp only [isStructB, Try.underlying63]
theorem is_sort : isStructB Try.prog 59 = true := by simp only [isStructB, Try.underlying59]
theorem is_con : isStructB Try.prog 61 = true := by simp only [isStructB, Try.underlying61]
theorem is_block : isStructB Try.prog 54 = true := by simp only [isStructB, Try.underlying54]

theorem typ_slice {e t : TypeId} {k y : Nat} {n : Nat} {cs : List D} (hu : Try.prog.underlying t = some (.slice e)) (hc : Try.prog.cellsOf e = k) (hy : Try.prog.bytesOf e = y) (hs : isStructB Try.prog e = true) (h : typ Try.prog n t cs) :
    ∃ (m : Nat) (xs : List D), n = m + 1 ∧ cs = [.sl k xs] ∧ xs.length * y ≤ 140737488351232 ∧ ∀ x ∈ xs, typ Try.prog m e x.cells ∧ x = .agg x.cells := by
  cases n with
  | zero => exact h.elim
  | succ n =>
    simp only [typ, hu] at h
    obtain ⟨xs, rfl, _, hl, hx⟩ := h
    exact ⟨n, xs, rfl, by rw [hc], by rw [hy] at hl; exact hl, fun x hxx => ⟨(hx x hxx).1, agg_of (by rw [(hx x hxx).2, hs])⟩⟩

theorem typ_term (n : Nat) : ∀ {cs : List D}, typ Try.prog n 24 cs → ∃ t : T, cs = cT t ∧ okT t := by
  induction n using Nat.strongRecOn with
  | ind n ih =>
    intro cs h
    cases n with
    | zero => exact h.elim
    | succ n =>
    simp only [typ, Try.underlying24, c_term, c_int, c_terms, List.forall_mem_cons] at h
    obtain ⟨hl, h1, h2, h3, _⟩ := h
    obtain ⟨a, b, c, rfl⟩ := len3 hl
    obtain ⟨i, hi, wi⟩ := typ_int h1
    obtain ⟨j, hj, wj⟩ := typ_int h2
    obtain ⟨m, xs, rfl, hc, hb, hx⟩ := typ_slice Try.underlying22 c_term y_term is_term h3
    simp at hi hj hc
    subst hi hj hc
    obtain ⟨ks, rfl, hks⟩ : ∃ l : List T, xs = l.map eT ∧ ∀ a ∈ l, okT a := map_of fun x hxx => by
      obtain ⟨h4, h5⟩ := hx x hxx
      obtain ⟨t, ht, hq⟩ := ih m (by omega) h4
      exact ⟨t, hq, by rw [h5, ht, eT_eq]⟩
    exact ⟨.mk i j ks, rfl, .mk i j ks wi wj (by simpa using hb) hks⟩
theorem typ_terms {n : Nat} {cs : List D} (h : typ Try.prog n 22 cs) : ∃ l : List T, cs = [eTs l] ∧ okTs l := by
  obtain ⟨m, xs, rfl, hc, hb, hx⟩ := typ_slice Try.underlying22 c_term y_term is_term h
  obtain ⟨ks, rfl, hks⟩ : ∃ l : List T, xs = l.map eT ∧ ∀ a ∈ l, okT a := map_of fun x hxx => by
    obtain ⟨h4, h5⟩ := hx x hxx
    obtain ⟨t, ht, hq⟩ := typ_term m h4
    exact ⟨t, hq, by rw [h5, ht, eT_eq]⟩
  exact ⟨ks, hc, by simpa using hb, hks⟩
theorem typ_arg {n : Nat} {cs : List D} (h : typ Try.prog n 63 cs) : ∃ a : Ar, cs = cAr a ∧ okAr a := by
  cases n with
  | zero => exact h.elim
  | succ n =>
    simp only [typ, Try.underlying63, c_arg, c_int, c_bool, c_term, c_terms, List.forall_mem_cons] at h
    obtain ⟨hl, h1, h2, h3, h4, h5, _⟩ := h
    obtain ⟨a, b, c, d, e, f, g, rfl⟩ := len7 hl
    obtain ⟨r, hr⟩ := typ_bool h1
    obtain ⟨t, ht, q1⟩ := typ_term _ h2
    obtain ⟨ds, hd, q2⟩ := typ_terms h3
    obtain ⟨i, hi, q3⟩ := typ_int h4
    obtain ⟨js, hj, q4⟩ := typ_terms h5
    simp at hr ht hd hi hj
    refine ⟨⟨r, t, ds, i, js⟩, ?_, ⟨q1, q2, q3, q4⟩⟩
    simp [cAr, ← ht, hr, hd, hi, hj]
theorem typ_args {n : Nat} {cs : List D} (h : typ Try.prog n 57 cs) : ∃ l : List Ar, cs = [eArs l] ∧ okArs l := by
  obtain ⟨m, xs, rfl, hc, hb, hx⟩ := typ_slice Try.underlying57 c_arg y_arg is_arg h
  obtain ⟨ks, rfl, hks⟩ : ∃ l : List Ar, xs = l.map eAr ∧ ∀ a ∈ l, okAr a := map_of fun x hxx => by
    obtain ⟨h4, h5⟩ := hx x hxx
    obtain ⟨t, ht, hq⟩ := typ_arg h4
    exact ⟨t, hq, by rw [h5, ht]; rfl⟩
  exact ⟨ks, hc, by simpa using hb, hks⟩
theorem typ_sort {n : Nat} {cs : List D} (h : typ Try.prog n 59 cs) : ∃ a : So, cs = cSo a ∧ okSo a := by
  cases n with
  | zero => exact h.elim
  | succ n =>
    simp only [typ, Try.underlying59, c_sort, c_int, c_bool, c_term, c_args, List.forall_mem_cons] at h
    obtain ⟨hl, h1, h2, h3, h4, _⟩ := h
    obtain ⟨a, b, c, d, e, f, rfl⟩ := len6 hl
    obtain ⟨l, hq, q1⟩ := typ_args h1
    obtain ⟨i, hi, q2⟩ := typ_int h2
    obtain ⟨r, hr⟩ := typ_bool h3
    obtain ⟨t, ht, q3⟩ := typ_term _ h4
    simp at hr ht hi hq
    refine ⟨⟨l, i, r, t⟩, ?_, ⟨q1, q2, q3⟩⟩
    simp [cSo, ← ht, hr, hi, hq]
theorem typ_con {n : Nat} {cs : List D} (h : typ Try.prog n 61 cs) : ∃ a : Co, cs = cCo a ∧ okCo a := by
  cases n with
  | zero => exact h.elim
  | succ n =>
    simp only [typ, Try.underlying61, c_con, c_int, c_args, c_term, c_terms, List.forall_mem_cons] at h
    obtain ⟨hl, h1, h2, h3, h4, _⟩ := h
    obtain ⟨a, b, c, d, e, f, rfl⟩ := len6 hl
    obtain ⟨i, hi, q1⟩ := typ_int h1
    obtain ⟨l, hq, q2⟩ := typ_args h2
    obtain ⟨js, hj, q3⟩ := typ_terms h3
    obtain ⟨t, ht, q4⟩ := typ_term _ h4
    simp at ht hi hq hj
    refine ⟨⟨i, l, js, t⟩, ?_, ⟨q1, q2, q3, q4⟩⟩
    simp [cCo, ← ht, hi, hq, hj]
theorem typ_block {n : Nat} {cs : List D} (h : typ Try.prog n 54 cs) : ∃ b : Bl, cs = cBl b ∧ okBl b := by
  cases n with
  | zero => exact h.elim
  | succ n =>
    simp only [typ, Try.underlying54, c_block, c_int, c_sorts, c_cons, List.forall_mem_cons] at h
    obtain ⟨hl, h1, h2, h3, _⟩ := h
    obtain ⟨a, b, c, rfl⟩ := len3 hl
    obtain ⟨m, xs, rfl, hc, hb, hx⟩ := typ_slice Try.underlying51 c_sort y_sort is_sort h1
    obtain ⟨m', ys, _, hd, hb', hy⟩ := typ_slice Try.underlying52 c_con y_con is_con h2
    obtain ⟨i, hi, q1⟩ := typ_int h3
    obtain ⟨ss, rfl, q2⟩ : ∃ l : List So, xs = l.map eSo ∧ ∀ a ∈ l, okSo a := map_of fun x hxx => by
      obtain ⟨h4, h5⟩ := hx x hxx
      obtain ⟨t, ht, hq⟩ := typ_sort h4
      exact ⟨t, hq, by rw [h5, ht]; rfl⟩
    obtain ⟨ks, rfl, q3⟩ : ∃ l : List Co, ys = l.map eCo ∧ ∀ a ∈ l, okCo a := map_of fun x hxx => by
      obtain ⟨h4, h5⟩ := hy x hxx
      obtain ⟨t, ht, hq⟩ := typ_con h4
      exact ⟨t, hq, by rw [h5, ht]; rfl⟩
    simp at hc hd hi
    refine ⟨⟨ss, ks, i⟩, ?_, ⟨by simpa using hb, q2, by simpa using hb', q3, q1⟩⟩
    simp [cBl, hc, hd, hi, eSos, eCos]

/-- An argument of each type. -/
theorem not_agg {x : D} (h : x.isAgg = false) : x.cells = [x] := by
  cases x <;> first | rfl | cases h
theorem arg_int {x : D} (h : TypD Try.prog 3 x) : ∃ i, x = .int .i64 i ∧ n64 i := by
  obtain ⟨⟨n, h1⟩, h2⟩ := h
  obtain ⟨i, hi, hw⟩ := typ_int h1
  have h3 : isStructB Try.prog 3 = false := by simp only [isStructB, Try.underlying3]
  rw [not_agg (h2.trans h3)] at hi
  exact ⟨i, by simpa using hi, hw⟩
theorem arg_block {x : D} (h : TypD Try.prog 54 x) : ∃ b : Bl, x = eBl b ∧ okBl b := by
  obtain ⟨⟨n, h1⟩, h2⟩ := h
  obtain ⟨b, hb, hq⟩ := typ_block h1
  exact ⟨b, by rw [agg_of (h2.trans is_block), hb]; rfl, hq⟩
theorem arg_term {x : D} (h : TypD Try.prog 24 x) : ∃ t : T, x = .agg (cT t) ∧ okT t := by
  obtain ⟨⟨n, h1⟩, h2⟩ := h
  obtain ⟨b, hb, hq⟩ := typ_term n h1
  exact ⟨b, by rw [agg_of (h2.trans is_term), hb], hq⟩
theorem arg_terms {x : D} (h : TypD Try.prog 22 x) : ∃ l : List T, x = eTs l ∧ okTs l := by
  obtain ⟨⟨n, h1⟩, h2⟩ := h
  obtain ⟨l, hl, hq⟩ := typ_terms h1
  have h3 : isStructB Try.prog 22 = false := by simp only [isStructB, Try.underlying22]
  rw [not_agg (h2.trans h3)] at hl
  exact ⟨l, by simpa using hl, hq⟩
end Ev
end Go.Proofs.Ytafpjpolkjdohaa
