/- A piece of code that spoils a term, a row of terms: what the machine does. -/
import Derived.Test.YtncmainjcffanaaGreatN6
namespace Go.Proofs.YtncmainjcffanaaGreat
namespace Ev
open Go
set_option maxRecDepth 100000
set_option linter.unusedSimpArgs false
set_option linter.unusedVariables false
section
variable {P : Program}
theorem cop_call {o : Oper} {f : Opd} {args : List Opd} (hcop : cop P o = some (.call f args)) :
    ∃ (c : Call) (f' : Operand) (al : List Operand) (ts : List TypeId), o.op = .call c ∧ c.callee = .value f' ∧ c.args.toList = al ∧ al.length = ts.length ∧ f = copd P 0 f' ∧ args = (al.zip ts).map fun p => copd P p.2 p.1 := by
  unfold cop at hcop
  split at hcop
  case h_21 c ho =>
    obtain ⟨cal, as_, ts⟩ := c
    simp only at hcop
    split at hcop
    · obtain ⟨e, he, hh⟩ := map_some hcop; cases hh
    · split at hcop
      · obtain ⟨e, he, hcop⟩ := bind_some hcop
        obtain ⟨sz, hn, hcop⟩ := bind_some hcop
        obtain ⟨b, hb, hcop⟩ := bind_some hcop
        split at hcop
        · cases hcop
        · cases hcop
      · cases hcop
    · cases hcop
    · cases hcop
    · rename_i f'
      split at hcop
      · rename_i hl
        cases hcop
        exact ⟨_, f', as_.toList, ts.toList, ho, rfl, rfl, hl, rfl, rfl⟩
      · cases hcop
    · cases hcop
  all_goals first
    | (cases hcop; done)
    | (obtain ⟨_, _, hcop⟩ := bind_some hcop; obtain ⟨_, _, hcop⟩ := bind_some hcop; obtain ⟨_, _, hcop⟩ := bind_some hcop; split at hcop <;> cases hcop; done)
    | (obtain ⟨_, _, hcop⟩ := bind_some hcop; obtain ⟨_, _, hcop⟩ := map_some hcop; cases hcop; done)
    | (obtain ⟨_, _, hcop⟩ := map_some hcop; cases hcop; done)
    | (split at hcop <;> first
        | (cases hcop; done)
        | (obtain ⟨_, _, hcop⟩ := map_some hcop; cases hcop; done)
        | (split at hcop <;> first
            | (cases hcop; done)
            | (obtain ⟨_, _, hcop⟩ := bind_some hcop; obtain ⟨_, _, hcop⟩ := map_some hcop; cases hcop; done)
            | (obtain ⟨_, _, hcop⟩ := bind_some hcop; obtain ⟨_, _, hcop⟩ := bind_some hcop; obtain ⟨_, _, hcop⟩ := bind_some hcop; obtain ⟨_, _, hcop⟩ := bind_some hcop; split at hcop <;> cases hcop; done))
        | (obtain ⟨_, _, hcop⟩ := bind_some hcop; obtain ⟨_, _, hcop⟩ := bind_some hcop; split at hcop <;> cases hcop; done)
        | (obtain ⟨_, _, hcop⟩ := bind_some hcop; obtain ⟨_, _, hcop⟩ := bind_some hcop; obtain ⟨_, _, hcop⟩ := map_some hcop; cases hcop; done))
theorem cop_load {o : Oper} {n : Nat} {g : Bool} {j : Nat} (hcop : cop P o = some (.load n g (.t j))) : ∃ t, o.op = .load t (.tmp j) ∧ sz? P t = some n ∧ ag? P t = some g := by
  unfold cop at hcop
  split at hcop
  case h_6 t x ho =>
    obtain ⟨n', hn, hcop⟩ := bind_some hcop
    obtain ⟨g', hg, hcop⟩ := map_some hcop
    cases x <;> cases hcop
    exact ⟨t, ho, hn, hg⟩
  all_goals first
    | (cases hcop; done)
    | (obtain ⟨_, _, hcop⟩ := bind_some hcop; obtain ⟨_, _, hcop⟩ := bind_some hcop; obtain ⟨_, _, hcop⟩ := bind_some hcop; split at hcop <;> cases hcop; done)
    | (obtain ⟨_, _, hcop⟩ := bind_some hcop; obtain ⟨_, _, hcop⟩ := map_some hcop; cases hcop; done)
    | (obtain ⟨_, _, hcop⟩ := map_some hcop; cases hcop; done)
    | (split at hcop <;> first
        | (cases hcop; done)
        | (obtain ⟨_, _, hcop⟩ := map_some hcop; cases hcop; done)
        | (obtain ⟨_, _, hcop⟩ := bind_some hcop; obtain ⟨_, _, hcop⟩ := map_some hcop; cases hcop; done)
        | (split at hcop <;> first
            | (cases hcop; done)
            | (obtain ⟨_, _, hcop⟩ := map_some hcop; cases hcop; done)
            | (obtain ⟨_, _, hcop⟩ := bind_some hcop; obtain ⟨_, _, hcop⟩ := map_some hcop; cases hcop; done)
            | (obtain ⟨_, _, hcop⟩ := bind_some hcop; obtain ⟨_, _, hcop⟩ := bind_some hcop; obtain ⟨_, _, hcop⟩ := bind_some hcop; obtain ⟨_, _, hcop⟩ := bind_some hcop; split at hcop <;> cases hcop; done)
            | (obtain ⟨_, _, hcop⟩ := bind_some hcop; obtain ⟨_, _, hcop⟩ := bind_some hcop; obtain ⟨_, _, hcop⟩ := bind_some hcop; split at hcop <;> cases hcop; done)
            | (split at hcop <;> cases hcop; done))
        | (obtain ⟨_, _, hcop⟩ := bind_some hcop; obtain ⟨_, _, hcop⟩ := bind_some hcop; split at hcop <;> cases hcop; done)
        | (obtain ⟨_, _, hcop⟩ := bind_some hcop; obtain ⟨_, _, hcop⟩ := bind_some hcop; obtain ⟨_, _, hcop⟩ := map_some hcop; cases hcop; done))
theorem cop_mv {o : Oper} {j : Nat} (hcop : cop P o = some (.mv (.t j))) : o.op = .move (.tmp j) ∨ o.op = .assign (.tmp j) := by
  unfold cop at hcop
  split at hcop
  case h_1 x ho => cases x <;> cases hcop; exact .inl ho
  case h_2 x ho =>
    split at hcop
    · obtain ⟨_, _, hcop⟩ := map_some hcop; cases hcop
    · cases x <;> cases hcop; exact .inr ho
  all_goals first
    | (cases hcop; done)
    | (obtain ⟨_, _, hcop⟩ := bind_some hcop; obtain ⟨_, _, hcop⟩ := bind_some hcop; obtain ⟨_, _, hcop⟩ := bind_some hcop; split at hcop <;> cases hcop; done)
    | (obtain ⟨_, _, hcop⟩ := bind_some hcop; obtain ⟨_, _, hcop⟩ := map_some hcop; cases hcop; done)
    | (obtain ⟨_, _, hcop⟩ := map_some hcop; cases hcop; done)
    | (split at hcop <;> first
        | (cases hcop; done)
        | (obtain ⟨_, _, hcop⟩ := map_some hcop; cases hcop; done)
        | (obtain ⟨_, _, hcop⟩ := bind_some hcop; obtain ⟨_, _, hcop⟩ := map_some hcop; cases hcop; done)
        | (split at hcop <;> first
            | (cases hcop; done)
            | (obtain ⟨_, _, hcop⟩ := map_some hcop; cases hcop; done)
            | (obtain ⟨_, _, hcop⟩ := bind_some hcop; obtain ⟨_, _, hcop⟩ := map_some hcop; cases hcop; done)
            | (obtain ⟨_, _, hcop⟩ := bind_some hcop; obtain ⟨_, _, hcop⟩ := bind_some hcop; obtain ⟨_, _, hcop⟩ := bind_some hcop; obtain ⟨_, _, hcop⟩ := bind_some hcop; split at hcop <;> cases hcop; done)
            | (obtain ⟨_, _, hcop⟩ := bind_some hcop; obtain ⟨_, _, hcop⟩ := bind_some hcop; obtain ⟨_, _, hcop⟩ := bind_some hcop; split at hcop <;> cases hcop; done)
            | (split at hcop <;> cases hcop; done))
        | (obtain ⟨_, _, hcop⟩ := bind_some hcop; obtain ⟨_, _, hcop⟩ := bind_some hcop; split at hcop <;> cases hcop; done)
        | (obtain ⟨_, _, hcop⟩ := bind_some hcop; obtain ⟨_, _, hcop⟩ := bind_some hcop; obtain ⟨_, _, hcop⟩ := map_some hcop; cases hcop; done))

theorem exec_call {o : Oper} {g e1 : Nat} (hcop : cop P o = some (.call (.c (.d (.clo g []))) [.t e1])) (hent : Enters P g) (a : Act) (w : World) : (execOp a.eval o).run P w = .ok (.enter g #[a.tmps.getD e1 undef]) w := by
  obtain ⟨c, f', al, ts, ho, hcc, hal, hl, hf, hargs⟩ := cop_call hcop
  have sl : @Slots i0 ⟨fun _ => 0, fun _ => ⟨none, 0⟩⟩ none_ w a (fun _ => AV.junk) := fun i => .junk _
  have hfr := @copd_ok i0 P _ _ _ _ _ sl 0 f'
  rw [← hf] at hfr
  obtain ⟨vs, hfe, hvs⟩ : ∃ vs : Array Value, a.eval f' = .func (.func g) #[] vs ∧ vs.size = 0 := by
    generalize a.eval f' = v at hfr
    have := hfr.d_inv
    cases this with
    | clo _ vs _ hn hr => exact ⟨vs, rfl, by simpa using hn⟩
  obtain ⟨x, t, rfl, rfl, hx⟩ : ∃ x t, al = [x] ∧ ts = [t] ∧ copd P t x = .t e1 := by
    match al, ts, hl, hargs with
    | [x], [t], _, h => exact ⟨x, t, rfl, rfl, by simpa using h.symm⟩
    | [], [], _, h => simp at h
    | _ :: _ :: _, _ :: _ :: _, _, h => simp at h
  have hxe : x = .tmp e1 := by
    cases x <;> simp [copd] at hx
    rw [hx]
  subst hxe
  have hargs' : c.args.map a.eval ++ vs = #[a.tmps.getD e1 undef] := by
    apply Array.ext'
    have : vs.toList = [] := by simpa using hvs
    simp [hal, this, Act.eval]
  simp only [execOp, ho, resolve, hcc, Deferred.ofValue, hfe, Sem.run_bind, Sem.run_pure, Result.andThen_ok, invoke, Array.empty_append]
  rw [hargs']
  exact callFunc_run hent _
theorem exec_load {o : Oper} {t : TypeId} {j : Nat} (ho : o.op = .load t (.tmp j)) {a : Act} {w : World} {ad : Addr} {v : Value} (hu : a.tmps.getD j undef = .pointer (some ad)) (hrun : (loadVar t ad).run P w = .ok v w) : (execOp a.eval o).run P w = .ok (.value v) w := by
  have hu' : a.eval (.tmp j) = .pointer (some ad) := hu
  simp [execOp, ho, Instr.loadAt, hu', Instr.sureAddr, Sem.run_bind, Sem.run_pure, hrun]
theorem exec_mv {o : Oper} {j : Nat} (ho : o.op = .move (.tmp j) ∨ o.op = .assign (.tmp j)) (a : Act) (w : World) : (execOp a.eval o).run P w = .ok (.value (a.tmps.getD j undef)) w := by
  have e : a.eval (.tmp j) = a.tmps.getD j undef := rfl
  rcases ho with ho | ho
  · simp [execOp, ho, Sem.run_bind, Sem.run_pure, e]
  · simp [execOp, ho, Sem.run_bind, Sem.run_pure, e]
theorem put_other {a : Act} {d i : Nat} {v : Value} (h : i ≠ d) : (a.put (some d) v).tmps.getD i undef = a.tmps.getD i undef := by
  simp only [Act.put, Array.getD_eq_getD_getElem?, Array.getElem?_setIfInBounds]
  rw [if_neg (Ne.symm h)]
theorem copers2 {ops : Array Oper} {n : Nat} {l : List Oper} {x y : XOper} (h : copers P ops n l = some [x, y]) : ∃ o1 o2, l = [o1, o2] ∧ coper P ops n o1 = some x ∧ coper P ops n o2 = some y := by
  obtain ⟨hlen, hget⟩ := copers_get h
  obtain ⟨o1, o2, rfl⟩ : ∃ o1 o2, l = [o1, o2] := by
    cases l with
    | nil => simp at hlen
    | cons o1 l => cases l with
      | nil => simp at hlen
      | cons o2 l => cases l with
        | nil => exact ⟨o1, o2, rfl⟩
        | cons => simp at hlen
  obtain ⟨x', hx, hx'⟩ := hget 0 o1 rfl
  obtain ⟨y', hy, hy'⟩ := hget 1 o2 rfl
  simp only [List.getElem?_cons_zero, List.getElem?_cons_succ, Option.some.injEq] at hx hy
  subst hx
  subst hy
  exact ⟨o1, o2, rfl, hx', hy'⟩
theorem ccode_region {n : Nat} {c : Code} {xs : List XOper} (hc : ccode P n c = some (.region xs none)) : ∃ id ops, c = .region id ops false ∧ copers P ops n ops.toList = some xs := by
  unfold ccode at hc
  split at hc
  case h_2 id ops dr =>
    split at hc
    · rename_i ys hys
      cases dr with
      | true =>
        simp only [if_true] at hc
        obtain ⟨ds, _, hh⟩ := map_some hc
        cases hh
      | false =>
        simp only [Bool.false_eq_true, if_false, Option.some.injEq, XCode.region.injEq, and_true] at hc
        subst hc
        exact ⟨id, ops, rfl, hys⟩
    · cases hc
  all_goals first
    | (cases hc; done)
    | (split at hc <;> cases hc; done)
    | (obtain ⟨_, _, hc⟩ := map_some hc; cases hc; done)
theorem ccode_seq {n : Nat} {c : Code} {x y : XCode} (hc : ccode P n c = some (.seq x y)) : ∃ a b, c = .seq a b ∧ ccode P n a = some x ∧ ccode P n b = some y := by
  unfold ccode at hc
  split at hc
  case h_3 a b =>
    split at hc
    · rename_i xa xb ha hb
      simp only [Option.some.injEq, XCode.seq.injEq] at hc
      obtain ⟨rfl, rfl⟩ := hc
      exact ⟨a, b, rfl, ha, hb⟩
    · cases hc
  all_goals first
    | (cases hc; done)
    | (split at hc <;> cases hc; done)
    | (split at hc <;> first | (cases hc; done) | (split at hc <;> first | (cases hc; done) | (obtain ⟨_, _, hc⟩ := map_some hc; cases hc; done)))
    | (obtain ⟨_, _, hc⟩ := map_some hc; cases hc; done)
/-- Two operations, the second a call on what the first tells. -/
theorem reg2 {n : Nat} {c : Code} {e1 e2 f : Nat} {x1 : XOp} (hc : ccode P n c = some (.region [⟨some e1, x1, none⟩, ⟨some e2, .call (.c (.d (.clo f []))) [.t e1], none⟩] none)) (hent : Enters P f) {a : Act} {w : World} (hsz : a.tmps.size = n) {R : World → Prop}
    (hv : ∀ o, cop P o = some x1 → ∃ v, (execOp a.eval o).run P w = .ok (.value v) w ∧ Calls P f #[v] w fun e w' => e = .returned (.tuple #[]) ∧ R w') :
    c.wp P (fun e a' w' => e = .normal ∧ a'.defers = a.defers ∧ a'.tmps.size = n ∧ (∀ i, i ≠ e1 → i ≠ e2 → a'.tmps.getD i undef = a.tmps.getD i undef) ∧ R w') a w := by
  obtain ⟨id, ops, rfl, hxs⟩ := ccode_region hc
  have sl : ∀ (a : Act) (w : World), @Slots i0 ⟨fun _ => 0, fun _ => ⟨none, 0⟩⟩ none_ w a (fun _ => AV.junk) := fun a w i => .junk _
  refine wp_region ?_
  rw [List.range_eq_range', ← Array.length_toList]
  generalize hl : ops.toList = l at hxs
  obtain ⟨o1, o2, rfl, h1, h2⟩ := copers2 hxs
  have g0 : ops[0]? = some o1 := by rw [← Array.getElem?_toList, hl]; rfl
  have g1 : ops[1]? = some o2 := by rw [← Array.getElem?_toList, hl]; rfl
  obtain ⟨p1, p2, p3, _⟩ := coper_parts h1
  obtain ⟨q1, q2, q3, _⟩ := coper_parts h2
  simp only at p1 p2 q1 q2
  simp only [List.length_cons, List.length_nil, List.range'_succ, List.range'_zero, wpOps, g0, g1, Nat.zero_add]
  rw [@wants_ok i0 P _ _ _ _ _ _ _ _ _ h1 (sl a w) true rfl]
  simp only [if_true]
  refine .inl ?_
  unfold Oper.wp
  obtain ⟨v, hv, hcalls⟩ := hv o1 p2
  rw [hv, Oper.upon_value]
  rw [@wants_ok i0 P _ _ _ _ _ _ _ _ _ h2 (sl _ w) true rfl]
  simp only [if_true]
  refine .inl ?_
  have he : e1 < a.tmps.size := by
    rw [← p1] at p3
    simpa [hsz] using p3
  have hev : (a.put o1.dst v).tmps.getD e1 undef = v := by
    rw [← p1, put_getD he, if_pos rfl]
  rw [exec_call q2 hent, hev, Oper.upon_enter]
  refine hcalls.mono ?_
  rintro e w' ⟨rfl, hR⟩
  refine ⟨trivial, ?_, ?_, fun i h1 h2 => ?_, hR⟩
  · rw [put_defers, put_defers]
  · rw [put_size, put_size]; exact hsz
  · rw [← q1, put_other h2, ← p1, put_other h1]
end
end Ev
end Go.Proofs.YtncmainjcffanaaGreat
