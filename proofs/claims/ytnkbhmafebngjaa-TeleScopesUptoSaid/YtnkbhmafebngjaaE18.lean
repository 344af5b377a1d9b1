/- From a law of plain data to the row's walk, whatever the parameters. -/
import Derived.Test.YtnkbhmafebngjaaE17
import Derived.Deep.CondSized
namespace Go.Proofs.Ytnkbhmafebngjaa
namespace Ev
open Go Go.ChangeShapes Go.WideShapes Go.ChangeAt Go.RowKit
set_option linter.unusedVariables false

/-- One argument as data. -/
def TypD (P : Program) (t : TypeId) (x : D) : Prop := (∃ n, typ P n t x.cells) ∧ x.isAgg = isStructB P t

def TypAll (P : Program) : List TypeId → List D → Prop
  | [], [] => True
  | t :: ts, d :: ds => TypD P t d ∧ TypAll P ts ds
  | _, _ => False

theorem getD_size_zero (vs : List Value) : (#[] : Array Value).getD 0 undef = undef := rfl

theorem arg_in {H : Type} {enc : TypeId × Value → H} {P : Program} {W : World} {spare : Nat → Bool} {held : Bool} {base : Nat} {ts : List TypeId} (hc : closedB P ts = true) {t : TypeId} (ht : t ∈ ts) {v : Value} {d : DataW H} {ps : List MemPlace}
    (hv : Value.okWide P W .any base t v) (hd : DataW.Trod enc P W 0 spare held t v d ps) (hlt : Light P t d) : ∃ x, TypD P t x ∧ Rel (St0 W) W v x ∧ bulk x ≤ Rows.uptoBulk d := by
  obtain ⟨fuel, hf⟩ := hd
  obtain ⟨ds, h1, h2, hbk⟩ := trod_typ hc fuel t _ _ ht hf hlt
  have one : ∀ (c : D), ds = [c] → c.isAgg = isStructB P t → c.isAgg = false → v.cells = #[v] → ∃ x, TypD P t x ∧ Rel (St0 W) W v x ∧ bulk x ≤ Rows.uptoBulk d := by
    rintro c rfl hs hn hcv
    refine ⟨c, ⟨⟨fuel, ?_⟩, hs⟩, ?_, by simpa [bulkL] using hbk⟩
    · cases c <;> first | exact h1 | simp [D.isAgg] at hn
    · have := (h2.2 0 c (by simp)).1
      rw [hcv] at this
      exact this
  cases fuel with
  | zero => exact h1.elim
  | succ n =>
    have h1' := h1
    simp only [typ] at h1
    split at h1
    · rename_i hu
      obtain ⟨b, rfl⟩ := h1
      obtain ⟨b', rfl⟩ := okWide_bool hu hv
      exact one (.bool b) rfl (by simp [D.isAgg, isStructB, hu]) rfl rfl
    · rename_i k hu
      obtain ⟨i, rfl, _⟩ := h1
      obtain ⟨b', rfl⟩ := okWide_int hu hv
      exact one (.int k i) rfl (by simp [D.isAgg, isStructB, hu]) rfl rfl
    · rename_i hu
      obtain ⟨s, rfl, _⟩ := h1
      obtain ⟨b', rfl⟩ := okWide_string hu hv
      exact one (.str s) rfl (by simp [D.isAgg, isStructB, hu]) rfl rfl
    · rename_i e hu
      obtain ⟨xs, rfl, _⟩ := h1
      obtain ⟨A, l, c, rfl⟩ := okWide_slice hu hv
      exact one (.sl _ xs) rfl (by simp [D.isAgg, isStructB, hu]) rfl rfl
    · rename_i fs hu
      obtain ⟨cs, rfl, hcs⟩ := okWide_struct hu hv
      refine ⟨.agg ds, ⟨⟨n + 1, h1'⟩, by simp [D.isAgg, isStructB, hu]⟩, ?_, by simpa [bulk, bulkL] using hbk⟩
      refine .agg cs ds (by rw [h2.1]; simp [Value.cells]) fun j c hj => ?_
      have := (h2.2 j c hj).1
      simpa [Value.cells, List.getD_eq_getElem?_getD, Array.getD_eq_getD_getElem?] using this
    · exact h1.elim

theorem args_in {H : Type} {enc : TypeId × Value → H} {P : Program} {W : World} {base : Nat} {ts : List TypeId} (hc : closedB P ts = true) (hl : laidOutB P = true) :
    ∀ (ps : List TypeId) (vs : List Value) (ds : List (DataW H)) (q : List MemPlace), (∀ t ∈ ps, t ∈ ts ∧ P.readableRec t = true ∧ t < P.types.size) →
      (∀ (j : Nat) t v, ps[j]? = some t → vs[j]? = some v → Value.okWide P W .any base t v) → DataW.TrodAll enc P W 0 (fun _ => true) true ps vs ds q → (∀ (j : Nat) t d, ps[j]? = some t → ds[j]? = some d → Light P t d) →
      (∃ xs, TypAll P ps xs ∧ RelL (St0 W) W vs xs ∧ bulkL xs ≤ Rows.uptoBulkAll ds) ∧ ds.length = ps.length ∧
        ∀ W', Below W.heap.size W W' → ∃ q', DataW.TrodAll enc P W' 0 (fun b => decide (b < W.heap.size)) true ps vs ds q' := by
  intro ps
  induction ps with
  | nil =>
    intro vs ds q _ _ h _
    cases vs <;> cases ds <;> simp only [DataW.TrodAll] at h <;> try exact h.elim
    exact ⟨⟨[], trivial, ⟨rfl, fun j d hj => by simp at hj⟩, by simp [bulkL]⟩, rfl, fun W' _ => ⟨[], trodAll_mk0⟩⟩
  | cons t ps ih =>
    intro vs ds q hts hval h hlw
    cases vs <;> cases ds <;> simp only [DataW.TrodAll] at h <;> try exact h.elim
    rename_i v vs d ds
    obtain ⟨p, q', h0, h1, rfl⟩ := h
    obtain ⟨⟨xs, tx, rx, bx⟩, hlen, hback⟩ := ih vs ds q' (fun t ht => hts t (by simp [ht])) (fun j t v hj hv => hval (j + 1) t v (by simpa using hj) (by simpa using hv)) h1 (fun j t d hj hd => hlw (j + 1) t d (by simpa using hj) (by simpa using hd))
    obtain ⟨a1, a2, a3⟩ := hts t (by simp)
    obtain ⟨x, tx0, rx0, bx0⟩ := arg_in hc a1 (hval 0 t v rfl rfl) h0 (hlw 0 t d rfl rfl)
    refine ⟨⟨x :: xs, ⟨tx0, tx⟩, ⟨by simp [rx.1], fun j y hj => ?_⟩, by simp only [bulkL, List.map_cons, List.sum_cons, Rows.uptoBulkAll] at bx ⊢; omega⟩, by simp [hlen], fun W' hb => ?_⟩
    · cases j with
      | zero => simp at hj; subst hj; simpa using rx0
      | succ j => simp at hj; simpa using rx.2 j y hj
    · obtain ⟨q2, hq⟩ := hback W' hb
      have lt : ∀ x ∈ p, x.block < W.heap.size := by obtain ⟨m, hm⟩ := h0; exact DataW.trod_lt m _ _ _ hm
      exact ⟨_, trodAll_cons_mk (Below.trod hl a2 a3 h0 hb lt) hq⟩

theorem St0_pos {W : World} (b : Nat) (h : 0 < St0 W b) : b < W.heap.size := by
  apply Decidable.byContradiction
  intro hn
  have : W.heap[b]? = none := by simp; omega
  simp [St0, this] at h

/-- THE ROW'S WALK, out of the law told on plain data. -/
theorem row_of {H : Type} {enc : TypeId × Value → H} {C : Checked} {os : Os} {f : FuncId} {fn : Func} {s : ChangeSpec} {conds : List PathCond} (ts : List TypeId) (rt : TypeId)
    (own : ownKnob C.prog.godebug = none) (started : os.Started) (noInit : C.prog.inits.idxOf? f = none) (hfn : C.prog.funcs[f]? = some fn)
    (witness : ∃ (w : World) (tape : Tape) (i : Input), w.os = os ∧ (w.forCall tape i).Shaped C.prog ∧ i.vars = [] ∧ Input.okWide C.prog (w.forCall tape i) .any w.heap.size f i ∧
      s.pre6 enc C.prog fn conds false (w.forCall tape i).memory i.args ∧ ({} : Assume).holds C.prog (lone (Frame.enter C.prog f i.args .normal) [] (w.forCall tape i)))
    (hvars : s.vars = []) (hl : laidOutB C.prog = true) (hc : closedB C.prog ts = true)
    (hts : fn.params.toList.all (fun t => ts.contains t && C.prog.readableRec t && decide (t < C.prog.types.size)) = true)
    (hres : fn.resultTypes = #[rt]) (hrt : C.prog.underlying rt = some .bool)
    (hspec : ∀ ds : List (DataW H), ds.length = fn.params.toList.length → s.fn H ds = { results := [.lit (.bool true)], args := ds })
    (law : ∀ xs, TypAll C.prog fn.params.toList xs → Pure C.prog f xs [.bool true]) :
    ReturnsInHanded {} C os f .any (s.pre6 enc C.prog fn conds false) (s.post enc C.prog fn false true false false) := by
  refine returnsInHanded_of_change_sized own started noInit hfn witness ?_
  intro W base args ds gs before hval hW _ hszW _
  have hW' := hW
  obtain ⟨p, q, hA, hV, rfl, hfz, hnd⟩ := hW
  rw [hvars] at hV
  obtain ⟨rfl, rfl⟩ := trodVars_none hV
  obtain ⟨⟨xs, tx, rx, _⟩, hlen, hback⟩ := args_in (ts := ts) hc hl fn.params.toList args.toList ds p (fun t ht => by
      have := List.all_eq_true.1 hts t ht
      simp only [Bool.and_eq_true, decide_eq_true_eq] at this
      exact ⟨contains_mem this.1.1, this.1.2, this.2⟩) (fun j t v hj hv => hval j t v (by simpa using hj) (by simpa using hv)) hA (fun j t d hj hd => light_each hszW j t d (by rw [List.getElem?_append_left (List.getElem?_eq_some_iff.1 hj).1]; exact hj) (by rw [List.getElem?_append_left (List.getElem?_eq_some_iff.1 hd).1]; exact hd))
  have hp := (law xs tx).2 (St0 W) W args.toList St0_pos rx
  refine hp.mono ?_
  rintro e W' ⟨St', us, rfl, hus, hbel, _⟩
  obtain ⟨q', hq'⟩ := hback W' hbel
  have hu : us = [.bool true] := by
    obtain ⟨h1, h2⟩ := hus
    match us, h1 with
    | [u], _ =>
      have := h2 0 (.bool true) rfl
      simp at this
      cases this
      rfl
  subst hu
  have e0 : ds ++ [] = ds := by simp
  refine ⟨_, rfl, ds, [], p ++ [], [], q', [], hW', ?_, ?_, ?_, hbel.frame _, fun h => by cases h⟩
  · rw [e0, hspec ds hlen, hres]
    exact trodAll_mk1 (shut_bool hrt _)
  · rw [e0, hspec ds hlen]
    exact hq'
  · rw [e0, hspec ds hlen, hvars]
    rfl


/-- THE ROW'S WALK of the second form: of what is of bulk at most so much. -/
theorem row_upto {H : Type} {enc : TypeId × Value → H} {C : Checked} {os : Os} {f : FuncId} {fn : Func} {s0 : ChangeSpec} {F : Stop.Interp} {conds : List PathCond} (ts : List TypeId) (rt : TypeId)
    (own : ownKnob C.prog.godebug = none) (started : os.Started) (noInit : C.prog.inits.idxOf? f = none) (hfn : C.prog.funcs[f]? = some fn)
    (witness : ∃ (w : World) (tape : Tape) (i : Input), w.os = os ∧ (w.forCall tape i).Shaped C.prog ∧ i.vars = [] ∧ Input.okWide C.prog (w.forCall tape i) .any w.heap.size f i ∧
      (Rows.OpenSpec.upto s0).pre6 enc C.prog fn conds false (w.forCall tape i).memory i.args ∧ ({} : Assume).holds C.prog (lone (Frame.enter C.prog f i.args .normal) [] (w.forCall tape i)))
    (hvars : s0.vars = []) (hl : laidOutB C.prog = true) (hc : closedB C.prog ts = true)
    (hts : fn.params.toList.all (fun t => ts.contains t && C.prog.readableRec t && decide (t < C.prog.types.size)) = true)
    (hres : fn.resultTypes = #[rt]) (hrt : C.prog.underlying rt = some .bool)
    (hspec : ∀ ds : List (DataW H), ds.length = fn.params.toList.length → s0.fn H ds = { results := [.lit (.bool true)], args := ds })
    (law : ∀ xs, TypAll C.prog fn.params.toList xs → bulkL xs ≤ 1048576 → Pure C.prog f xs [.bool true]) :
    ReturnsInHanded {} C os f .any ((Rows.OpenSpec.upto s0).pre6 enc C.prog fn conds false) (((Rows.OpenSpec.upto s0).at F).post enc C.prog fn false true false false) := by
  refine returnsInHanded_of_cond_sized (s := Rows.OpenSpec.upto s0) (k := Rows.uptoSmall) rfl own started noInit hfn witness ?_
  intro W base args ds gs before hval hW _ hk hszW _
  have hW' := hW
  obtain ⟨p, q, hA, hV, rfl, hfz, hnd⟩ := hW
  have hvars' : (Rows.OpenSpec.upto s0).vars = [] := hvars
  rw [hvars'] at hV
  obtain ⟨rfl, rfl⟩ := trodVars_none hV
  obtain ⟨⟨xs, tx, rx, bx⟩, hlen, hback⟩ := args_in (ts := ts) hc hl fn.params.toList args.toList ds p (fun t ht => by
      have := List.all_eq_true.1 hts t ht
      simp only [Bool.and_eq_true, decide_eq_true_eq] at this
      exact ⟨contains_mem this.1.1, this.1.2, this.2⟩) (fun j t v hj hv => hval j t v (by simpa using hj) (by simpa using hv)) hA (fun j t d hj hd => light_each hszW j t d (by rw [List.getElem?_append_left (List.getElem?_eq_some_iff.1 hj).1]; exact hj) (by rw [List.getElem?_append_left (List.getElem?_eq_some_iff.1 hd).1]; exact hd))
  have hk' : Rows.uptoBulkAll ds ≤ 1048576 := by
    have := of_decide_eq_true hk
    simpa using this
  have hp := (law xs tx (Nat.le_trans bx hk')).2 (St0 W) W args.toList St0_pos rx
  refine hp.mono ?_
  rintro e W' ⟨St', us, rfl, hus, hbel, _⟩
  obtain ⟨q', hq'⟩ := hback W' hbel
  have hu : us = [.bool true] := by
    obtain ⟨h1, h2⟩ := hus
    match us, h1 with
    | [u], _ =>
      have := h2 0 (.bool true) rfl
      simp at this
      cases this
      rfl
  subst hu
  have e0 : ds ++ [] = ds := by simp
  refine ⟨_, rfl, ds, [], p ++ [], [], q', [], hW', ?_, ?_, ?_, hbel.frame _, fun h => by cases h⟩
  · rw [e0]
    show DataW.TrodAll _ _ _ _ _ _ _ _ (s0.fn H ds).results _
    rw [hspec ds hlen, hres]
    exact trodAll_mk1 (shut_bool hrt _)
  · rw [e0]
    show DataW.TrodAll _ _ _ _ _ _ _ _ (s0.fn H ds).args _
    rw [hspec ds hlen]
    exact hq'
  · have hv2 : ((Rows.OpenSpec.upto s0).at F).vars = [] := hvars
    have hf2 : ((Rows.OpenSpec.upto s0).at F).fn H ds = { results := [.lit (.bool true)], args := ds } := hspec ds hlen
    rw [e0, hf2, hv2]
    rfl

end Ev
end Go.Proofs.Ytnkbhmafebngjaa
