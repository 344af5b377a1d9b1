/- New boxes and rows; what is written. -/
import Derived.Test.YtnkbhmafebngjaaE6
import Derived.Laws.CopyRow
import Derived.Laws.AppendOwn
import Derived.Laws.MakeOwn
namespace Go.Proofs.Ytnkbhmafebngjaa
namespace Ev
open Go
set_option linter.unusedVariables false
set_option linter.unusedSimpArgs false

theorem cell_lt {w : World} {b j : Nat} {v : Value} (h : w.cell? ⟨b, j, none⟩ = some v) : b < w.heap.size := World.block_lt_of_cell? w _ h

/-- A key is given anew, its thing at a place that no other key owns: what is asked of the new state. -/
theorem step_new {G : GS} {h : Nat → Ent} {w : World} (i : Inv G h w) (k : Nat) (body : Body) (hd : Hd) (St' : Nat → Nat) (w' : World)
    (hos : w'.os = w.os) (htape : w'.tape = w.tape) (hout : w'.output = w.output) (hsize : w.heap.size ≤ w'.heap.size) (hblock : ∀ b, b < w.heap.size → w'.heap[b]? = w.heap[b]?)
    (hst : ∀ b, b < w.heap.size → St' b = G.St b) (hst' : ∀ b, 0 < St' b → b < w'.heap.size)
    (hent : Ext G h w ⟨St', upd G.hd k hd⟩ (newE h k body) w' → EntOK ⟨St', upd G.hd k hd⟩ (newE h k body) w' k body)
    (hown : ∀ b, Owns ⟨St', upd G.hd k hd⟩ k b body → w.heap.size ≤ b) :
    Step G h w ⟨St', upd G.hd k hd⟩ (newE h k body) w' := by
  have hk : (newE h k body k).body = body := by simp [newE, upd]
  have hother : ∀ q, q ≠ k → newE h k body q = h q ∧ upd G.hd k hd q = G.hd q := fun q hq => by simp [newE, upd, hq]
  have hext : Ext G h w ⟨St', upd G.hd k hd⟩ (newE h k body) w' := by
    refine ⟨⟨fun b => ?_, fun b j hj => ?_⟩, fun q => ?_, fun q hq => ?_⟩
    · show G.St b ≤ St' b
      rcases Nat.lt_or_ge b w.heap.size with hb | hb
      · rw [hst b hb]; exact Nat.le_refl _
      · have : ¬ 0 < G.St b := fun hp => by have := i.st b hp; omega
        omega
    · have hb := i.st b (by omega)
      exact World.cell?_of_block (w := w) (a := ⟨b, j, none⟩) (hblock b hb)
    · by_cases hqk : q = k
      · subst hqk; simp [newE, upd]
      · rw [(hother q hqk).1]; exact Nat.le_refl _
    · by_cases hqk : q = k
      · subst hqk; simp [newE, upd] at hq
      · exact ⟨(hother q hqk).2, by rw [(hother q hqk).1]; exact Body.like_refl _⟩
  have hOw : ∀ q b, q ≠ k → (Owns ⟨St', upd G.hd k hd⟩ q b (newE h k body q).body ↔ Owns G q b (h q).body) := by
    intro q b hq
    obtain ⟨h1, h2⟩ := hother q hq
    rw [h1]
    cases (h q).body <;> simp only [Owns, h2]
  refine ⟨⟨hst', fun q => ?_, fun q q' b h1 h2 => ?_⟩, hext, ⟨hos, htape, hout, hsize, fun b hb _ => ⟨hblock b hb, hst b hb⟩⟩, fun q b ho => ?_⟩
  · by_cases hq : q = k
    · subst hq; rw [hk]; exact hent hext
    · obtain ⟨h1, h2⟩ := hother q hq
      rw [h1]
      have he := i.ent q
      cases hb : (h q).body with
      | dead => trivial
      | box cs fz =>
        rw [hb] at he
        obtain ⟨b, arr, el, hA, hheap, hsz, hrel, hs⟩ := he
        have hlt := (Array.getElem?_eq_some_iff.1 hheap).1
        exact ⟨b, arr, el, by show (upd G.hd k hd q).A = _; rw [h2]; exact hA, (hblock b hlt).trans hheap, hsz, fun j c hj => ⟨(hrel j c hj).1.ext hext, (hrel j c hj).2⟩, (hst b hlt).trans hs⟩
      | row sz xs fz =>
        rw [hb] at he
        cases fz with
        | true =>
          refine ⟨?_, ?_⟩
          · show Rel St' w' (.slice (upd G.hd k hd q).A _ (upd G.hd k hd q).cap) _
            rw [h2]
            exact he.1.keeps hext.keeps
          · show (upd G.hd k hd q).cap = _ ∨ _
            rw [h2]
            rcases he.2 with hc | ⟨b, arr, el, hA, hheap, h0, hsz, hs⟩
            · exact .inl hc
            · have hlt := (Array.getElem?_eq_some_iff.1 hheap).1
              exact .inr ⟨b, arr, el, by show (upd G.hd k hd q).A = _; rw [h2]; exact hA, (hblock b hlt).trans hheap, h0, by show _ = (upd G.hd k hd q).cap * _; rw [h2]; exact hsz, (hst b hlt).trans hs⟩
        | false =>
          rcases he with ⟨z1, z2, z3⟩ | ⟨b, arr, el, hA, hheap, hsz, hcap, hm, hcs, hrel, hs⟩
          · exact .inl ⟨by show (upd G.hd k hd q).A = _; rw [h2]; exact z1, by show (upd G.hd k hd q).cap = _; rw [h2]; exact z2, z3⟩
          have hlt := (Array.getElem?_eq_some_iff.1 hheap).1
          exact .inr ⟨b, arr, el, by show (upd G.hd k hd q).A = _; rw [h2]; exact hA, (hblock b hlt).trans hheap, by show _ = (upd G.hd k hd q).cap * _; rw [h2]; exact hsz, by show (upd G.hd k hd q).cap = _ ∨ _ ∧ _ ≤ (upd G.hd k hd q).cap; rw [h2]; exact hcap, hm, hcs, fun p x hp j c hj => ⟨(hrel p x hp j c hj).1.keeps hext.keeps, (hrel p x hp j c hj).2⟩, (hst b hlt).trans hs⟩
  · by_cases hq : q = k
    · by_cases hq' : q' = k
      · rw [hq, hq']
      · subst hq
        rw [hk] at h1
        have := hown b h1
        have := owns_lt i ((hOw q' b hq').1 h2)
        omega
    · by_cases hq' : q' = k
      · subst hq'
        rw [hk] at h2
        have := hown b h2
        have := owns_lt i ((hOw q b hq).1 h1)
        omega
      · exact i.apart q q' b ((hOw q b hq).1 h1) ((hOw q' b hq').1 h2)
  · by_cases hq : q = k
    · subst hq; rw [hk] at ho; exact .inr (hown b ho)
    · exact .inl ⟨q, (hOw q b hq).1 ho⟩

/-- A new box. -/
theorem step_box {G : GS} {h : Nat → Ent} {w : World} (i : Inv G h w) (k : Nat) (cs : List AV) (arr : Array Value) (el : TypeId) (hsz : arr.size = cs.length)
    (hrel : ∀ (j : Nat) c, cs[j]? = some c → ARel G h w (arr.getD j undef) c ∧ (arr.getD j undef).oneCell' = true) :
    ∃ G', Step G h w G' (newE h k (.box cs false)) (w.alloc (.cells arr el)) ∧ ARel G' (newE h k (.box cs false)) (w.alloc (.cells arr el)) (.pointer (some ⟨w.heap.size, 0, none⟩)) (.ptr k ((h k).ver + 1) 0) := by
  have hz : G.St w.heap.size = 0 := by
    rcases Nat.eq_zero_or_pos (G.St w.heap.size) with h0 | h0
    · exact h0
    · have := i.st _ h0; omega
  refine ⟨⟨G.St, upd G.hd k ⟨some ⟨w.heap.size, 0, none⟩, 0⟩⟩, step_new i k (.box cs false) ⟨some ⟨w.heap.size, 0, none⟩, 0⟩ G.St _ rfl rfl rfl (by simp) (fun b hb => heap_alloc_old w _ b hb) (fun _ _ => rfl) (fun b hb => by have := i.st b hb; simp; omega) (fun hext => ?_) (fun b ho => ?_), ?_⟩
  · refine ⟨w.heap.size, arr, el, by simp [upd], heap_alloc_new w _, hsz, fun j c hj => ⟨(hrel j c hj).1.ext hext, (hrel j c hj).2⟩, by simpa using hz⟩
  · have ho' : (upd G.hd k ⟨some ⟨w.heap.size, 0, none⟩, 0⟩ k).A = some ⟨b, 0, none⟩ := ho
    simp [upd] at ho'
    omega
  · refine .ptr _ _ _ _ rfl (by simp [newE, upd]) fun _ cs' fz' hb' => ⟨w.heap.size, by simp [upd], rfl⟩

section
variable {P : Program} {G : GS} {h : Nat → Ent} {w : World} {a : Act} {s : Nat → AV} {o : Oper}

theorem zip_at {α β : Type} {as : List α} {bs : List β} (hl : as.length = bs.length) {j : Nat} {p : α × β} (hj : (as.zip bs)[j]? = some p) : as[j]? = some p.1 ∧ bs[j]? = some p.2 := by
  rw [List.getElem?_zip_eq_some] at hj
  exact hj

theorem zcells_ok {t : TypeId} {cs : List AV} (hz : zcells P t = some cs) : ∃ z : Value, (P.info? t).bind (·.zero) = some z ∧ z.cells.size = cs.length ∧ (∀ (j : Nat) c, cs[j]? = some c → ARel G h w (z.cells.getD j undef) c) ∧ (∀ (j : Nat) c, cs[j]? = some c → (z.cells.getD j undef).oneCell' = true) := by
  unfold zcells at hz
  split at hz
  · rename_i z hzz
    simp only [] at hz
    split at hz
    · rename_i hl
      simp only [Option.some.injEq] at hz
      subst hz
      refine ⟨z, hzz, by have := hl.1; simp at this; simp [this], fun j c hj => ?_, fun j c hj => ?_⟩
      · simp only [List.getElem?_map] at hj
        cases hp : (z.cells.toList.zip (ctypes P 8 t))[j]? with
        | none => simp [hp] at hj
        | some p =>
          simp only [hp, Option.map_some, Option.some.injEq] at hj
          subst hj
          obtain ⟨h1, h2⟩ := zip_at hl.1 hp
          rw [Array.getElem?_toList] at h1
          have : z.cells.getD j undef = p.1 := by simp [Array.getD_eq_getD_getElem?, h1]
          rw [this]
          exact cav_ok P G h w p.2 p.1
      · have hlt : j < z.cells.size := by
          have := (List.getElem?_eq_some_iff.1 hj).1
          simp at this
          omega
        have h3 := hl.2
        rw [Array.all_eq_true] at h3
        simp only [Array.getD, hlt, dif_pos]
        exact h3 j hlt
    · cases hz
  · cases hz

theorem did_alloc (i : Inv G h w) (sl : Slots G h w a s) (e : TypeId) {cs : List AV} (hz : zcells P e = some cs) {av : AV} {h' : Nat → Ent} (dst : Option Nat) (hact : act dst ⟨s, h⟩ (.alloc cs) = some (av, h')) (ho : o.op = .alloc e) :
    Did P G h w ((execOp a.eval o).run P w) av h' := by
  simp only [act] at hact
  cases dst with
  | none => simp at hact
  | some k =>
    simp only [Option.bind_some, Option.some.injEq, Prod.mk.injEq] at hact
    obtain ⟨rfl, rfl⟩ := hact
    obtain ⟨z, hzz, hsz, hrel, hone⟩ := zcells_ok (G := G) (h := h) (w := w) hz
    obtain ⟨G', hs, hr⟩ := step_box i k cs z.cells e hsz (fun j c hj => ⟨hrel j c hj, hone j c hj⟩)
    refine ⟨_, _, G', .inl ?_, hs, hr⟩
    cases hi : P.info? e with
    | none => simp [hi] at hzz
    | some inf =>
      simp only [hi, Option.bind_some] at hzz
      simp [execOp, ho, Instr.alloc, zeroValue, typeInfo, program, hi, hzz, newVar, newRow, newObj, Sem.run, Sem.run_bind, Sem.run_pure]

theorem ARel.one_ok {v : Value} {x : AV} (r : ARel G h w v x) (h1 : x.one = true) : v.oneCell' = true := by
  cases r with
  | d v y hr => cases hr <;> first | rfl | simp [AV.one] at h1
  | fsl => rfl
  | rsl _ _ _ h => exact h
  | ptr _ _ _ _ h => exact h
  | eptr _ _ _ _ _ _ h => exact h
  | clo => rfl
  | agg => simp [AV.one] at h1
  | tup => simp [AV.one] at h1
  | skip => simp [AV.one] at h1
  | junk => simp [AV.one] at h1

theorem cells_one {v : Value} (h1 : v.oneCell' = true) : v.cells = #[v] := by
  cases v <;> first | rfl | simp [Value.oneCell'] at h1

/-- The cells of a value. -/
theorem ARel.cells_ok {v : Value} {x : AV} (r : ARel G h w v x) (h1 : x.cells.all AV.one = true) : v.cells.size = x.cells.length ∧ ∀ (j : Nat) c, x.cells[j]? = some c → ARel G h w (v.cells.getD j undef) c ∧ (v.cells.getD j undef).oneCell' = true := by
  have hall : ∀ (j : Nat) c, x.cells[j]? = some c → c.one = true := fun j c hj => by
    rw [List.all_eq_true] at h1
    exact h1 c (List.mem_of_getElem? hj)
  have lone : x.cells = [x] → x.one = true → v.cells.size = x.cells.length ∧ ∀ (j : Nat) c, x.cells[j]? = some c → ARel G h w (v.cells.getD j undef) c ∧ (v.cells.getD j undef).oneCell' = true := by
    intro hx ho
    have hv := r.one_ok ho
    rw [hx, cells_one hv]
    refine ⟨rfl, fun j c hj => ?_⟩
    cases j with
    | zero =>
      simp only [List.getElem?_cons_zero, Option.some.injEq] at hj
      subst hj
      exact ⟨r, hv⟩
    | succ j => simp at hj
  cases x with
  | d y =>
    cases y with
    | agg cs =>
      have hr := r.d_inv
      cases hr with
      | agg vs _ hn hr =>
        refine ⟨by simp [Value.cells, AV.cells, D.cells, hn], fun j c hj => ?_⟩
        have ho := hall j c hj
        simp only [AV.cells, D.cells, List.getElem?_map] at hj
        cases hc : cs[j]? with
        | none => simp [hc] at hj
        | some q =>
          simp only [hc, Option.map_some, Option.some.injEq] at hj
          subst hj
          have : ARel G h w (vs.getD j undef) (.d q) := .d _ _ (hr j q hc)
          exact ⟨this, this.one_ok ho⟩
    | junk => simp [AV.cells, D.cells, AV.one] at h1
    | _ => exact lone rfl rfl
  | agg cs =>
    cases r with
    | agg vs _ hn hr => exact ⟨hn, fun j c hj => ⟨hr j c hj, (hr j c hj).one_ok (hall j c hj)⟩⟩
  | tup => simp [AV.cells, AV.one] at h1
  | skip => simp [AV.cells, AV.one] at h1
  | junk => simp [AV.cells, AV.one] at h1
  | _ => exact lone rfl rfl

theorem did_box (i : Inv G h w) (sl : Slots G h w a s) (e : TypeId) (x : Operand) {av : AV} {h' : Nat → Ent} (dst : Option Nat) (hact : act dst ⟨s, h⟩ (.box (copd P e x)) = some (av, h')) (ho : o.op = .box e x) :
    Did P G h w ((execOp a.eval o).run P w) av h' := by
  simp only [act] at hact
  cases dst with
  | none => simp at hact
  | some k =>
    simp only [Option.bind_some] at hact
    split at hact
    · rename_i h1
      simp only [Option.some.injEq, Prod.mk.injEq] at hact
      obtain ⟨rfl, rfl⟩ := hact
      obtain ⟨hsz, hrel⟩ := (copd_ok P sl e x).cells_ok h1
      obtain ⟨G', hs, hr⟩ := step_box i k _ (a.eval x).cells e hsz hrel
      exact ⟨_, _, G', .inl (by simp [execOp, ho, Instr.box, newVar, newRow, newObj, Sem.run, Sem.run_bind, Sem.run_pure]), hs, hr⟩
    · cases hact

theorem did_nilrow (i : Inv G h w) (t : TypeId) {sz : Nat} {av : AV} {h' : Nat → Ent} (dst : Option Nat) (hact : act dst ⟨s, h⟩ (.nilrow sz) = some (av, h')) (ho : o.op = .assign (.const (.slice none 0 0))) :
    Did P G h w ((execOp a.eval o).run P w) av h' := by
  simp only [act] at hact
  cases dst with
  | none => simp at hact
  | some k =>
    simp only [Option.bind_some, Option.some.injEq, Prod.mk.injEq] at hact
    obtain ⟨rfl, rfl⟩ := hact
    refine ⟨.slice none 0 0, w, ⟨G.St, upd G.hd k ⟨none, 0⟩⟩, .inl (by simp [execOp, ho, Act.eval, Sem.run_pure]), step_new i k _ _ _ _ rfl rfl rfl (Nat.le_refl _) (fun _ _ => rfl) (fun _ _ => rfl) i.st (fun _ => .inl ⟨by simp [upd], by simp [upd], rfl⟩) (fun b hb => ?_), ?_⟩
    · have := hb.1
      simp [upd] at this
    · refine .rsl _ _ _ rfl (by simp [newE, upd]) fun _ sz' xs' fz' hb => ?_
      have hb' : (newE h k (.row sz [] false) k).body = .row sz' xs' fz' := hb
      simp only [newE, upd, if_true, Body.row.injEq] at hb'
      simp [upd, ← hb'.2.1]

/-- A slice that the call makes: a row that may still be written. -/
theorem step_row {G : GS} {h : Nat → Ent} {w : World} (i : Inv G h w) (k sz : Nat) (xs : List D) (arr : Array Value) (el : TypeId) (hsz : arr.size = xs.length * sz) (hm : xs.length ≤ 9223372036854775807) (hcs : ∀ x ∈ xs, x.cells.length = sz)
    (hrel : ∀ (p : Nat) x, xs[p]? = some x → ∀ (j : Nat) c, x.cells[j]? = some c → Rel G.St w (arr.getD (p * sz + j) undef) c ∧ (arr.getD (p * sz + j) undef).oneCell' = true) :
    ∃ G', Step G h w G' (newE h k (.row sz xs false)) (w.alloc (.cells arr el)) ∧ ARel G' (newE h k (.row sz xs false)) (w.alloc (.cells arr el)) (.slice (some ⟨w.heap.size, 0, none⟩) xs.length xs.length) (.rsl k ((h k).ver + 1)) := by
  have hz : G.St w.heap.size = 0 := by
    rcases Nat.eq_zero_or_pos (G.St w.heap.size) with h0 | h0
    · exact h0
    · have := i.st _ h0; omega
  refine ⟨⟨G.St, upd G.hd k ⟨some ⟨w.heap.size, 0, none⟩, xs.length⟩⟩, step_new i k (.row sz xs false) ⟨some ⟨w.heap.size, 0, none⟩, xs.length⟩ G.St _ rfl rfl rfl (by simp) (fun b hb => heap_alloc_old w _ b hb) (fun _ _ => rfl) (fun b hb => by have := i.st b hb; simp; omega) (fun hext => ?_) (fun b ho => ?_), ?_⟩
  · refine .inr ⟨w.heap.size, arr, el, by simp [upd], heap_alloc_new w _, by simp only [upd, if_true]; exact hsz, .inl (by simp [upd]), hm, hcs, fun p x hp j c hj => ⟨(hrel p x hp j c hj).1.keeps hext.keeps, (hrel p x hp j c hj).2⟩, hz⟩
  · have ho' : (upd G.hd k ⟨some ⟨w.heap.size, 0, none⟩, xs.length⟩ k).A = some ⟨b, 0, none⟩ := ho.1
    simp [upd] at ho'
    omega
  · refine .rsl _ _ _ rfl (by simp [newE, upd]) fun _ sz' xs' fz' hb => ?_
    have hb' : (newE h k (.row sz xs false) k).body = .row sz' xs' fz' := hb
    simp only [newE, upd, if_true, Body.row.injEq] at hb'
    simp [upd, ← hb'.2.1]

theorem mapM_data {cs : List AV} {ds : List D} (hd : cs.mapM AV.data = some ds) : cs.length = ds.length ∧ ∀ (j : Nat) c, cs[j]? = some c → ∃ d, ds[j]? = some d ∧ c.data = some d := by
  induction cs generalizing ds with
  | nil => simp at hd; subst hd; simp
  | cons c cs ih =>
    rw [List.mapM_cons] at hd
    cases hc : c.data with
    | none => simp [hc] at hd
    | some d =>
      cases hr : cs.mapM AV.data with
      | none => simp [hc, hr] at hd
      | some r =>
        simp [hc, hr] at hd
        subst hd
        obtain ⟨h1, h2⟩ := ih hr
        refine ⟨by simp [h1], fun j e hj => ?_⟩
        cases j with
        | zero => simp at hj; subst hj; exact ⟨d, rfl, hc⟩
        | succ j => simpa using h2 j e (by simpa using hj)

theorem ARel.data_ok {v : Value} {x : AV} {d : D} (r : ARel G h w v x) (hd : x.data = some d) : Rel G.St w v d := by
  cases x with
  | d y => simp [AV.data] at hd; subst hd; exact r.d_inv
  | fsl z xs => simp [AV.data] at hd; subst hd; cases r with | fsl A n _ _ hr => exact hr
  | _ => simp [AV.data] at hd

theorem cells_lone (d : D) (hd : ∀ cs, d = .agg cs → False) : d.cells = [d] := by
  cases d with
  | agg cs => exact (hd cs rfl).elim
  | _ => rfl

theorem mkD_cells {g : Bool} {ds : List D} {d : D} (hm : mkD g ds = some d) : d.cells = ds := by
  unfold mkD at hm
  cases g with
  | true =>
    simp only [if_true, Option.some.injEq] at hm
    subst hm
    rfl
  | false =>
    simp only [Bool.false_eq_true, if_false] at hm
    split at hm
    · split at hm
      · cases hm
      · rename_i d' hd
        simp only [Option.some.injEq] at hm
        subst hm
        exact cells_lone _ hd
    · cases hm

/-- The zero value of a type as data. -/
theorem zdata_ok {t : TypeId} {d : D} {n : Nat} (hz : zdata P t = some d) (hn : sz? P t = some n) :
    ∃ z : Value, (P.info? t).bind (·.zero) = some z ∧ z.cells.size = n ∧ d.cells.length = n ∧ (∀ (j : Nat) c, d.cells[j]? = some c → Rel G.St w (z.cells.getD j undef) c ∧ (z.cells.getD j undef).oneCell' = true) := by
  unfold zdata at hz
  cases hg : ag? P t with
  | none => simp [hg] at hz
  | some g =>
    cases hc : zcells P t with
    | none => simp [hg, hc] at hz
    | some cs =>
      cases hm : cs.mapM AV.data with
      | none => simp [hg, hc, hm] at hz
      | some ds =>
        simp only [hg, hc, hm, Option.bind_some, hn] at hz
        split at hz
        · rename_i hl
          simp only [Option.some.injEq] at hl
          obtain ⟨z, hzz, hsz, hrel, hone⟩ := zcells_ok (G := G) (h := none_) (w := w) hc
          obtain ⟨h1, h2⟩ := mapM_data hm
          have hcs := mkD_cells hz
          refine ⟨z, hzz, by omega, by rw [hcs]; omega, fun j c hj => ?_⟩
          rw [hcs] at hj
          have hlt : j < cs.length := by have := (List.getElem?_eq_some_iff.1 hj).1; omega
          obtain ⟨d', hd', hdd⟩ := h2 j _ (List.getElem?_eq_getElem hlt)
          rw [hd'] at hj
          cases hj
          exact ⟨(hrel j _ (List.getElem?_eq_getElem hlt)).data_ok hdd, hone j _ (List.getElem?_eq_getElem hlt)⟩
        · cases hz

theorem modcells {z : Value} {n m p j : Nat} (hz : z.cells.size = m) (hm : 0 < m) (hj : j < m) (hp : p < n) :
    ((Array.range (n * m)).map (z.cells[· % z.cells.size]!)).getD (p * m + j) undef = z.cells.getD j undef := by
  have hlt : p * m + j < n * m := by
    have : p * m + m ≤ n * m := by rw [← Nat.succ_mul]; exact Nat.mul_le_mul_right _ hp
    omega
  have hmod : (p * m + j) % m = j := by rw [Nat.mul_comm, Nat.mul_add_mod, Nat.mod_eq_of_lt hj]
  simp [Array.getD, hlt, hz, hmod, hj]

theorem did_mks (i : Inv G h w) (sl : Slots G h w a s) (t e : TypeId) (x : Operand) {z : D} {n bytes : Nat} (ht : P.underlying t = some (.slice e)) (hz : zdata P e = some z) (hn : sz? P e = some n) (hb : byt? P e = some bytes) (hn0 : 0 < n) (hb0 : 0 < bytes)
    {av : AV} {h' : Nat → Ent} (dst : Option Nat) (hact : act dst ⟨s, h⟩ (.mks z n bytes (copd P 0 x)) = some (av, h')) (ho : o.op = .makeSlice t x x) : Did P G h w ((execOp a.eval o).run P w) av h' := by
  have h1 := copd_ok P sl 0 x
  simp only [act] at hact
  cases dst with
  | none => simp at hact
  | some k =>
    simp only [Option.bind_some] at hact
    split at hact
    · rename_i m hx
      rw [hx] at h1
      have h2 := h1.of_int
      split at hact
      · rename_i hc
        obtain ⟨hm0, hmb, hmr⟩ := hc
        simp only [Option.some.injEq, Prod.mk.injEq] at hact
        obtain ⟨rfl, rfl⟩ := hact
        obtain ⟨q, rfl⟩ := Int.eq_ofNat_of_zero_le hm0
        obtain ⟨zv, hzv, hzs, hzl, hzr⟩ := zdata_ok (G := G) (w := w) hz hn
        simp only [maxRoom] at hmb hmr
        cases hi : P.info? e with
        | none => simp [hi] at hzv
        | some inf =>
          simp only [hi, Option.bind_some] at hzv
          simp only [byt?, hi, Option.map_some, Option.some.injEq] at hb
          simp only [sz?, hi, Option.map_some, Option.some.injEq] at hn
          let arr : Array Value := (Array.range (q * n)).map (zv.cells[· % zv.cells.size]!)
          obtain ⟨G', hs, hr⟩ := step_row i k n (List.replicate q z) arr e (by simp [arr]) (by simp; omega) (fun y hy => by rw [List.eq_of_mem_replicate hy]; exact hzl) (fun p y hp j c hj => by
            have hpl := (List.getElem?_eq_some_iff.1 hp).1
            simp at hpl
            have hy : y = z := List.eq_of_mem_replicate (List.mem_of_getElem? hp)
            subst hy
            have hjl := (List.getElem?_eq_some_iff.1 hj).1
            have e1 := modcells (n := q) (p := p) hzs hn0 (show j < n by omega) hpl
            simp only [arr]
            rw [e1]
            exact hzr j c hj)
          simp only [List.length_replicate] at hr
          refine ⟨_, _, G', .inl ?_, by simpa using hs, by simpa using hr⟩
          have hmul : (inf.bytes : Int) * (q : Int) ≤ 281474976710656 := by
            rw [hb]
            have : (bytes : Int) * (q : Int) = (q : Int) * (bytes : Int) := Int.mul_comm _ _
            omega
          have hrun := run_make (P := P) w t e inf zv ht hi hzv .i64 .i64 q q (by omega) (Int.le_refl _) hmul (by omega)
          simp only [Int.toNat_natCast, hn, madeCells] at hrun
          simp [execOp, ho, h2, hrun, arr, Sem.run_bind, Sem.run_pure]
      · cases hact
    · cases hact

/-! ### stores -/
theorem run_storeVar {t : TypeId} {n : Nat} (hn : sz? P t = some n) (b off : Nat) (el : TypeId) (arr : Array Value) (hheap : w.heap[b]? = some (.cells arr el (0, 0))) (v : Value) (hv : v.cells.size = n) (hle : off + n ≤ arr.size) (hone : ∀ u ∈ v.cells.toList, u.oneCell' = true) :
    (storeVar t ⟨b, off, none⟩ v).run P w = .ok () (w.setRow b (arr.toList.take off ++ v.cells.toList ++ arr.toList.drop (off + n)).toArray) := by
  have h := run_storeCells_at P b off el v.cells.toList 0 arr w hheap (by simp; omega) hone
  simp only [Nat.add_zero] at h
  have hl : v.cells.toList.length = n := by simp [hv]
  rw [hl] at h
  simp [storeVar, Sem.run_bind, run_sizeOf hn, hv, h]

theorem setRow_cell {b : Nat} {arr cs : Array Value} {el : TypeId} (hheap : w.heap[b]? = some (.cells arr el (0, 0))) (b' j : Nat) (hne : b' ≠ b) : (w.setRow b cs).cell? ⟨b', j, none⟩ = w.cell? ⟨b', j, none⟩ :=
  World.cell?_of_block (w := w) (a := ⟨b', j, none⟩) (setRow_other w b b' cs hne)

theorem put_get {α : Type} (off : Nat) (new cs : List α) (hle : off + new.length ≤ cs.length) (j : Nat) :
    (put off new cs)[j]? = if off ≤ j ∧ j < off + new.length then new[j - off]? else cs[j]? := by
  unfold put
  simp only [List.getElem?_append, List.length_take, List.length_append, List.getElem?_drop, List.getElem?_take]
  by_cases h1 : j < off
  · have : j < min off cs.length := by omega
    simp [this, h1, show ¬ off ≤ j by omega, show j < min off cs.length + new.length by omega]
  · by_cases h2 : j < off + new.length
    · simp [show ¬ j < min off cs.length by omega, show j < min off cs.length + new.length by omega, show off ≤ j by omega, h2, show min off cs.length = off by omega]
      intro h; omega
    · simp [show ¬ j < min off cs.length by omega, show ¬ j < min off cs.length + new.length by omega, show ¬ (off ≤ j ∧ j < off + new.length) by omega]
      congr 1
      omega

/-- One thing's memory is written, its place stays: what is asked of the new state. -/
theorem step_write {G : GS} {h : Nat → Ent} {w : World} (i : Inv G h w) (k b : Nat) (body : Body) (cs : Array Value) {arr : Array Value} {el : TypeId} (hheap : w.heap[b]? = some (.cells arr el (0, 0))) (ho : Owns G k b (h k).body) (hst : G.St b = 0)
    (hlike : (h k).body.like body) (hsame : ∀ b', Owns G k b' body → Owns G k b' (h k).body)
    (hent : Ext G h w G (upd h k ⟨(h k).ver, body⟩) (w.setRow b cs) → EntOK G (upd h k ⟨(h k).ver, body⟩) (w.setRow b cs) k body) :
    Step G h w G (upd h k ⟨(h k).ver, body⟩) (w.setRow b cs) := by
  have hk : (upd h k ⟨(h k).ver, body⟩ k).body = body := by simp [upd]
  have hother : ∀ q, q ≠ k → upd h k ⟨(h k).ver, body⟩ q = h q := fun q hq => by simp [upd, hq]
  have hcell : ∀ b' j, b' ≠ b → (w.setRow b cs).cell? ⟨b', j, none⟩ = w.cell? ⟨b', j, none⟩ := fun b' j hne => setRow_cell hheap b' j hne
  have hext : Ext G h w G (upd h k ⟨(h k).ver, body⟩) (w.setRow b cs) := by
    refine ⟨⟨fun _ => Nat.le_refl _, fun b' j hj => hcell b' j fun e => ?_⟩, fun q => ?_, fun q hq => ⟨rfl, ?_⟩⟩
    · subst e; omega
    · by_cases hqk : q = k
      · subst hqk; simp [upd]
      · rw [hother q hqk]; exact Nat.le_refl _
    · by_cases hqk : q = k
      · subst hqk; rw [hk]; exact hlike
      · rw [hother q hqk]; exact Body.like_refl _
  have hOw : ∀ q b', Owns G q b' (upd h k ⟨(h k).ver, body⟩ q).body → Owns G q b' (h q).body := by
    intro q b' hq
    by_cases hqk : q = k
    · subst hqk; rw [hk] at hq; exact hsame b' hq
    · rw [hother q hqk] at hq; exact hq
  refine ⟨⟨fun b' hb => by have := i.st b' hb; simpa using this, fun q => ?_, fun q q' b' h1 h2 => i.apart q q' b' (hOw q b' h1) (hOw q' b' h2)⟩, hext, ⟨rfl, rfl, rfl, by simp, fun b' _ hn => ⟨setRow_other w b b' cs fun e => hn k (e ▸ ho), rfl⟩⟩, fun q b' hq => .inl ⟨q, hOw q b' hq⟩⟩
  by_cases hqk : q = k
  · subst hqk; rw [hk]; exact hent hext
  · rw [hother q hqk]
    have he := i.ent q
    have hne : ∀ b', Owns G q b' (h q).body → b' ≠ b := fun b' hq e => hqk (i.apart q k b (e ▸ hq) ho)
    cases hb : (h q).body with
    | dead => trivial
    | box ds fz =>
      rw [hb] at he
      obtain ⟨b', arr', el', hA, hh, hsz, hrel, hs⟩ := he
      have hn := hne b' (by rw [hb]; exact hA)
      exact ⟨b', arr', el', hA, (setRow_other w b b' cs hn).trans hh, hsz, fun j c hj => ⟨(hrel j c hj).1.ext hext, (hrel j c hj).2⟩, hs⟩
    | row sz xs fz =>
      rw [hb] at he
      cases fz with
      | true =>
        refine ⟨he.1.keeps hext.keeps, ?_⟩
        by_cases hc : (G.hd q).cap = xs.length
        · exact .inl hc
        · rcases he.2 with hc' | ⟨b', arr', el', hA, hh, h0, hsz, hs⟩
          · exact absurd hc' hc
          · have hn := hne b' (by rw [hb]; exact ⟨hA, fun _ => hc⟩)
            exact .inr ⟨b', arr', el', hA, (setRow_other w b b' cs hn).trans hh, h0, hsz, hs⟩
      | false =>
        rcases he with ⟨z1, z2, z3⟩ | ⟨b', arr', el', hA, hh, hsz, hcap, hm, hcs, hrel, hs⟩
        · exact .inl ⟨z1, z2, z3⟩
        have hn := hne b' (by rw [hb]; exact ⟨hA, fun hf => by cases hf⟩)
        exact .inr ⟨b', arr', el', hA, (setRow_other w b b' cs hn).trans hh, hsz, hcap, hm, hcs, fun p x hp j c hj => ⟨(hrel p x hp j c hj).1.keeps hext.keeps, (hrel p x hp j c hj).2⟩, hs⟩

/-- The cells of a value that is told as data. -/
theorem toD_cells {St : Nat → Nat} {n : Nat} {v : Value} {x : AV} {y : D} (r : ARel G h w v x) (hone : x.cells.all AV.one = true) (hy : toD h n x = some y) (hr : Rel St w v y) :
    v.cells.size = y.cells.length ∧ ∀ (j : Nat) c, y.cells[j]? = some c → Rel St w (v.cells.getD j undef) c ∧ (v.cells.getD j undef).oneCell' = true := by
  obtain ⟨hsz, hc⟩ := r.cells_ok hone
  cases hyk : y with
  | agg cs =>
    subst hyk
    cases hr with
    | agg vs _ hn hr =>
      refine ⟨hn, fun j c hj => ⟨hr j c hj, ?_⟩⟩
      have hlt : j < x.cells.length := by
        have h1 := (List.getElem?_eq_some_iff.1 hj).1
        have h2 : vs.size = x.cells.length := hsz
        simp only [D.cells] at h1
        omega
      exact (hc j _ (List.getElem?_eq_getElem hlt)).2
  | _ =>
    have hna : ∀ cs, y = .agg cs → False := fun cs e => by rw [hyk] at e; cases e
    rw [← hyk, cells_lone y hna]
    have hx1 : x.cells = [x] := by
      cases x with
      | d z => rw [toD_d] at hy; cases hy; simp [AV.cells, cells_lone y hna]
      | agg cs =>
        cases n with
        | zero => simp [toD] at hy
        | succ n =>
          simp only [toD, Option.map_eq_some_iff] at hy
          obtain ⟨ds, _, he⟩ := hy
          exact (hna ds he.symm).elim
      | _ => rfl
    rw [hx1] at hc hsz
    have hv1 : v.oneCell' = true := r.one_ok (by rw [hx1] at hone; simpa using hone)
    refine ⟨by rw [cells_one hv1]; rfl, fun j c hj => ?_⟩
    cases j with
    | zero =>
      simp only [List.getElem?_cons_zero, Option.some.injEq] at hj
      subst hj
      rw [cells_one hv1]
      exact ⟨hr, hv1⟩
    | succ j => simp at hj

theorem upd_self {h : Nat → Ent} {k v : Nat} {b : Body} (hv : v = (h k).ver) : upd h k ⟨v, b⟩ = upd h k ⟨(h k).ver, b⟩ := by rw [hv]

theorem did_store (i : Inv G h w) (sl : Slots G h w a s) (t : TypeId) (ad x : Operand) {n : Nat} (hn : sz? P t = some n) {av : AV} {h' : Nat → Ent} (dst : Option Nat) (hact : act dst ⟨s, h⟩ (.store n (copd P 0 ad) (copd P t x)) = some (av, h'))
    (ho : o.op = .store t ad x) : Did P G h w ((execOp a.eval o).run P w) av h' := by
  have h1 := copd_ok P sl 0 ad
  have h2 := copd_ok P sl t x
  simp only [act] at hact
  cases hs : storeA h n ((copd P 0 ad).ev s) ((copd P t x).ev s) with
  | none => simp [hs] at hact
  | some r =>
    simp only [hs, Option.map_some, Option.some.injEq, Prod.mk.injEq] at hact
    obtain ⟨rfl, rfl⟩ := hact
    unfold storeA at hs
    split at hs
    · -- into a box
      rename_i k v off hx
      rw [hx] at h1
      split at hs
      · rename_i hver
        split at hs
        · rename_i cs hb
          split at hs
          · rename_i hc
            obtain ⟨hxl, hle, hone⟩ := hc
            simp only [Option.some.injEq] at hs
            subst hs
            obtain ⟨hsz, hrel⟩ := h2.cells_ok hone
            have he := i.ent k
            rw [hb] at he
            obtain ⟨b, arr, el, hA, hheap, hasz, harel, hst⟩ := he
            simp only [Bool.false_eq_true, if_false] at hst
            generalize hp : a.eval ad = u at h1
            cases h1 with
            | ptr _ _ _ _ hone_ hle' hv =>
              obtain ⟨b', hA', hv'⟩ := hv hver cs false hb
              rw [hA] at hA'
              simp only [Option.some.injEq, Addr.mk.injEq, and_true] at hA'
              subst hA'
              subst hv'
              have hsz' : (a.eval x).cells.size = n := by omega
              have hrun := run_storeVar (w := w) hn b off el arr hheap (a.eval x) hsz' (by omega) (fun u hu => by
                obtain ⟨j, hj⟩ := List.getElem?_of_mem hu
                rw [Array.getElem?_toList] at hj
                have hlt := (Array.getElem?_eq_some_iff.1 hj).1
                have := (hrel j _ (List.getElem?_eq_getElem (by omega))).2
                simpa [Array.getD_eq_getD_getElem?, hj] using this)
              rw [upd_self hver]
              have hex : (execOp a.eval o).run P w = .ok .skip (w.setRow b (arr.toList.take off ++ (a.eval x).cells.toList ++ arr.toList.drop (off + n)).toArray) := by
                generalize w.setRow b (arr.toList.take off ++ (a.eval x).cells.toList ++ arr.toList.drop (off + n)).toArray = W at hrun ⊢
                simp [execOp, ho, hp, Instr.storeAt, Instr.sureAddr, hrun, Sem.run_bind, Sem.run_pure]
              refine ⟨undef, _, G, .inr ⟨hex, rfl⟩, step_write i k b (.box (put off ((copd P t x).ev s).cells cs) false) _ hheap (by rw [hb]; exact hA) hst (by rw [hb]; trivial) (fun b' hb' => by rw [hb]; exact hb') (fun hext => ?_), .skip⟩
              have hplen : (put off ((copd P t x).ev s).cells cs).length = cs.length := by simp [put]; omega
              refine ⟨b, _, el, hA, setRow_heap w b arr _ el _ hheap, by simp [hplen]; omega, fun j c hj => ?_, by simpa using hst⟩
              rw [put_get _ _ _ (by omega)] at hj
              have hgetD : ∀ q, (arr.toList.take off ++ (a.eval x).cells.toList ++ arr.toList.drop (off + n)).toArray.getD q undef = if off ≤ q ∧ q < off + n then (a.eval x).cells.getD (q - off) undef else arr.getD q undef := by
                intro q
                have := put_get off (a.eval x).cells.toList arr.toList (by simp; omega) q
                have hl : (a.eval x).cells.toList.length = n := by simp [hsz']
                unfold put at this
                rw [hl] at this
                simp only [Array.getD_eq_getD_getElem?, List.getElem?_toArray, this]
                split
                · rw [Array.getElem?_toList]
                · rw [Array.getElem?_toList]
              rw [hgetD]
              rw [hxl] at hj
              split at hj
              · rename_i hc
                rw [if_pos hc]
                exact ⟨(hrel _ c hj).1.ext hext, (hrel _ c hj).2⟩
              · rename_i hc
                rw [if_neg hc]
                exact ⟨(harel _ c hj).1.ext hext, (harel _ c hj).2⟩
          · cases hs
        · cases hs
      · cases hs
    · -- into an element of an own row
      rename_i k v sz p off hx
      rw [hx] at h1
      split at hs
      · rename_i hver
        split at hs
        · rename_i sz' xs hb
          split at hs
          · rename_i y hy
            split at hs
            · rename_i hc
              obtain ⟨rfl, rfl, rfl, hyl, hone, hp, hks⟩ := hc
              simp only [Option.some.injEq] at hs
              subst hs
              -- what is stored is told as data first
              have hfs := frz_step i (sk h deep ((copd P t x).ev s))
              have hyr := toD_ok i (sk h deep ((copd P t x).ev s)) deep h2 hy (fun _ hq => hq)
              obtain ⟨hvs, hvr⟩ := toD_cells h2 hone hy hyr
              have h1' := h1.ext hfs.ext
              have hbk : (frz h (sk h deep ((copd P t x).ev s)) k) = h k := by simp [frz, hks]
              have he := hfs.inv.ent k
              rw [hbk, hb] at he
              rcases he with ⟨_, _, z3⟩ | ⟨b, arr, el, hA, hheap, hasz, hcap, hm, hcs, harel, hst⟩
              · subst z3; simp at hp
              generalize hpp : a.eval ad = u at h1'
              cases h1' with
              | eptr _ _ _ _ _ _ hone_ hle' hv =>
                obtain ⟨_, b', hA', hv'⟩ := hv (by rw [hbk]; exact hver) _ _ (by rw [hbk]; exact hb)
                rw [hA] at hA'
                simp only [Option.some.injEq, Addr.mk.injEq, and_true] at hA'
                subst hA'
                subst hv'
                rw [Nat.add_zero] at hpp
                have hle0 : p * n + n ≤ xs.length * n := by rw [← Nat.succ_mul]; exact Nat.mul_le_mul_right _ hp
                have hcl : xs.length * n ≤ arr.size := by
                  rw [hasz]
                  refine Nat.mul_le_mul_right _ ?_
                  show xs.length ≤ (G.hd k).cap
                  have hcap' : (G.hd k).cap = xs.length ∨ (0 < n ∧ xs.length ≤ (G.hd k).cap) := hcap
                  rcases hcap' with h | h <;> omega
                have hle : p * n + n ≤ arr.size := by omega
                have hsz' : (a.eval x).cells.size = n := by omega
                have hrun := run_storeVar (w := w) hn b (p * n) el arr hheap (a.eval x) hsz' (by omega) (fun u hu => by
                  obtain ⟨j, hj⟩ := List.getElem?_of_mem hu
                  rw [Array.getElem?_toList] at hj
                  have hlt := (Array.getElem?_eq_some_iff.1 hj).1
                  have := (hvr j _ (List.getElem?_eq_getElem (by omega))).2
                  simpa [Array.getD_eq_getD_getElem?, hj] using this)
                have hex : (execOp a.eval o).run P w = .ok .skip (w.setRow b (arr.toList.take (p * n) ++ (a.eval x).cells.toList ++ arr.toList.drop (p * n + n)).toArray) := by
                  generalize w.setRow b (arr.toList.take (p * n) ++ (a.eval x).cells.toList ++ arr.toList.drop (p * n + n)).toArray = W at hrun ⊢
                  simp [execOp, ho, hpp, Instr.storeAt, Instr.sureAddr, hrun, Sem.run_bind, Sem.run_pure]
                have hvk : v = (frz h (sk h deep ((copd P t x).ev s)) k).ver := by rw [hbk]; exact hver
                rw [upd_self hvk]
                refine ⟨undef, _, _, .inr ⟨hex, rfl⟩, hfs.trans (step_write hfs.inv k b (.row n (xs.set p y) false) _ hheap (by rw [hbk, hb]; exact ⟨hA, fun hf => by cases hf⟩) hst (by rw [hbk, hb]; simp [Body.like]) (fun b' hb' => by rw [hbk, hb]; exact ⟨hb'.1, fun hf => by cases hf⟩) (fun hext => ?_)), .skip⟩
                refine .inr ⟨b, _, el, hA, setRow_heap w b arr _ el _ hheap, by simp only [List.size_toArray, List.length_append, List.length_take, List.length_drop, Array.length_toList]; rw [← hasz]; omega, by simpa using hcap, by simpa using hm, fun q hq => ?_, fun q yy hq j c hj => ?_, hst⟩
                · rcases List.mem_or_eq_of_mem_set hq with hq | hq
                  · exact hcs q hq
                  · subst hq; exact hyl
                · have hgetD : ∀ q, (arr.toList.take (p * n) ++ (a.eval x).cells.toList ++ arr.toList.drop (p * n + n)).toArray.getD q undef = if p * n ≤ q ∧ q < p * n + n then (a.eval x).cells.getD (q - p * n) undef else arr.getD q undef := by
                    intro q
                    have := put_get (p * n) (a.eval x).cells.toList arr.toList (by simp; omega) q
                    have hl : (a.eval x).cells.toList.length = n := by simp [hsz']
                    unfold put at this
                    rw [hl] at this
                    simp only [Array.getD_eq_getD_getElem?, List.getElem?_toArray, this]
                    split
                    · rw [Array.getElem?_toList]
                    · rw [Array.getElem?_toList]
                  rw [hgetD]
                  rw [List.getElem?_set] at hq
                  split at hq
                  · rename_i hpq
                    subst hpq
                    first | (rw [if_pos hp] at hq; cases hq) | cases hq
                    have hjl := (List.getElem?_eq_some_iff.1 hj).1
                    rw [if_pos ⟨by omega, by omega⟩, show p * n + j - p * n = j by omega]
                    exact ⟨(hvr j c hj).1.keeps hext.keeps, (hvr j c hj).2⟩
                  · rename_i hpq
                    have hql := (List.getElem?_eq_some_iff.1 hq).1
                    have hjl := (cells_at hcs hq hj).2.1
                    have hne : ¬ (p * n ≤ q * n + j ∧ q * n + j < p * n + n) := by
                      rcases Nat.lt_or_gt_of_ne hpq with hlt | hlt
                      · have : p * n + n ≤ q * n := by rw [← Nat.succ_mul]; exact Nat.mul_le_mul_right _ hlt
                        omega
                      · have : q * n + n ≤ p * n := by rw [← Nat.succ_mul]; exact Nat.mul_le_mul_right _ hlt
                        omega
                    rw [if_neg hne]
                    exact ⟨(harel q yy hq j c hj).1.keeps hext.keeps, (harel q yy hq j c hj).2⟩
            · cases hs
          · cases hs
        · cases hs
      · cases hs
    · cases hs

end
end Ev
end Go.Proofs.Ytnkbhmafebngjaa
