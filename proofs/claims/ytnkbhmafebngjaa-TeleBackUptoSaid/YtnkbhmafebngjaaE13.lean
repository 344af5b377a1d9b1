/- A region that draws its order: whatever the order, it comes to what the order of the text comes to. -/
import Derived.Test.YtnkbhmafebngjaaE12
namespace Go.Proofs.Ytnkbhmafebngjaa
namespace Ev
open Go
set_option linter.unusedVariables false
set_option linter.unusedSimpArgs false

theorem wants_local {o : XOper} {s s2 : Nat → AV} (hs : ∀ i ∈ looks o, s2 i = s i) : wants o s2 = wants o s := by
  unfold wants
  cases hg : o.guard with
  | none => rfl
  | some p =>
    obtain ⟨j, b⟩ := p
    have := hs j (by simp [looks, hg])
    simp only [this]

theorem stepX_local {P : Program} {o : XOper} {st st' st2 : S} (hs : ∀ i ∈ looks o, st2.s i = st.s i) (hh : ∀ k b, (k, b) ∈ touch o st → st2.h k = st.h k) (hx : stepX P o st st') :
    ∃ v, st'.s = putS st.s o.dst v ∧ (∀ k, (k, true) ∉ touch o st → st'.h k = st.h k) ∧ stepX P o st2 ⟨putS st2.s o.dst v, merge (touch o st) st'.h st2.h⟩ := by
  have hw := wants_local (o := o) (s := st.s) (s2 := st2.s) hs
  have hso : ∀ i ∈ looksOp o.op, st2.s i = st.s i := fun i hi => hs i (by simp only [looks, List.mem_append]; exact .inr hi)
  unfold stepX at hx ⊢
  rw [hw]
  cases hwt : wants o st.s with
  | none => rw [hwt] at hx; exact hx.elim
  | some b =>
    rw [hwt] at hx
    cases b with
    | false =>
      simp only at hx ⊢
      subst hx
      have ht : touch o st = [] := by simp [touch, hwt]
      refine ⟨.skip, rfl, fun k _ => rfl, ?_⟩
      rw [ht, merge_nil _ _ (by simp)]
    | true =>
      simp only at hx ⊢
      have ht : touch o st = touchOp o.dst st o.op := by simp [touch, hwt]
      rw [ht] at hh ⊢
      unfold runX at hx ⊢
      cases hop : o.op with
      | call f args =>
        rw [hop] at hx hso hh
        simp only at hx ⊢
        obtain ⟨g, caps, rs, hh', hcal, hcx, he⟩ := hx
        have e1 := opd_local (x := f) fun i hi => hso i (by simp [looksOp, hi])
        have e2 := opds_local args fun i hi => hso i (by simp only [looksOp, List.mem_append]; exact .inr hi)
        have htk : touchOp o.dst st (.call f args) = wr ((args.map (·.ev st.s) ++ caps).flatMap (sk st.h deep)) := by
          simp [touchOp, hcal]
        rw [htk] at hh ⊢
        have hk : ∀ k ∈ (args.map (·.ev st.s) ++ caps).flatMap (sk st.h deep), st2.h k = st.h k := fun k hk => hh k true (by rw [mem_wr]; exact hk)
        have hsk := skl_local (h2 := st2.h) (args.map (·.ev st.s) ++ caps) hk
        subst he
        rcases hcx with ⟨ds, hds, hp, rfl⟩ | ⟨h0, h1, hp, hk0, rfl⟩ | ⟨ds, hds, hp, hflat, rfl⟩
        · refine ⟨resA rs, rfl, fun k hk => ?_, g, caps, rs, _, by rw [e1]; exact hcal, .inl ⟨ds, by rw [e2, hsk.1]; exact hds, hp, rfl⟩, ?_⟩
          · rw [mem_wr] at hk
            simp only [frz_at]
            rw [if_neg hk]
          · rw [e2, hsk.2, merge_frz (h := st.h) (h' := st.h) hk]
        · refine ⟨resA rs, rfl, fun k hk => ?_, g, caps, rs, _, by rw [e1]; exact hcal, .inr (.inl ⟨h0, h1, by rw [e2, hsk.2]; exact hp, fun k hm => by rw [e2, hsk.2] at hm; rw [hk k hm]; exact hk0 k hm, rfl⟩), ?_⟩
          · rw [mem_wr] at hk
            simp only [mergeK]
            rw [if_neg hk]
          · rw [e2, hsk.2]
            congr 1
            funext q
            simp only [mergeK, merge, mem_wr]
            split <;> rfl
        · refine ⟨resA rs, rfl, fun k hk => rfl, g, caps, rs, _, by rw [e1]; exact hcal, .inr (.inr ⟨ds, by rw [e2, hsk.1]; exact hds, hp, hflat, rfl⟩), ?_⟩
          congr 1
          funext q
          simp only [merge, mem_wr]
          split
          · rename_i hq; exact hk q hq
          · rfl
      | _ =>
        rw [hop] at hx hso hh
        simp only at hx ⊢
        obtain ⟨av, h', hact, he⟩ := hx
        obtain ⟨h1, h2⟩ := act_local o.dst st st2 _ hso hh hact
        subst he
        exact ⟨av, rfl, h2, av, _, h1, rfl⟩

def compat (a b : List (Nat × Bool)) : Bool := a.all fun p => b.all fun q => p.1 != q.1 || (!p.2 && !q.2)

/-- A region that draws its order, told in the text's order: what may go in either order has to do with unlike boxes and rows, or only reads. -/
def wpT (P : Program) : List XOper → List (Bool × List Nat) → Nat → List (Nat × List (Nat × Bool)) → S → (S → Prop) → Prop
  | [], _, _, _, st, K => K st
  | o :: os, ds, i, acc, st, K =>
    ((match ds.head? with | some d => d.2 | none => []).all fun a => match acc.lookup a with | some t => compat t (touch o st) | none => false) = true ∧
    (match wants o st.s with
      | some true => runX P o st fun st' => wpT P os ds.tail (i + 1) (if (match ds.head? with | some d => d.1 | none => false) then (i, touch o st) :: acc else acc) st' K
      | some false => wpT P os ds.tail (i + 1) (if (match ds.head? with | some d => d.1 | none => false) then (i, touch o st) :: acc else acc) ⟨putS st.s o.dst .skip, st.h⟩ K
      | none => False)

theorem runX_exists {P : Program} {o : XOper} {st : S} {K : S → Prop} (h : runX P o st K) : ∃ st', runX P o st (· = st') ∧ K st' := by
  unfold runX at h ⊢
  cases hop : o.op with
  | call f args =>
    rw [hop] at h
    obtain ⟨g, caps, rs, h', h1, h2, h4⟩ := h
    exact ⟨_, ⟨g, caps, rs, h', h1, h2, rfl⟩, h4⟩
  | _ =>
    rw [hop] at h
    obtain ⟨av, h', h1, h2⟩ := h
    exact ⟨_, ⟨av, h', h1, rfl⟩, h2⟩

theorem wpT_trace {P : Program} {ops : List XOper} {ds : List (Bool × List Nat)} {K : S → Prop} : ∀ (os : List XOper) (ds' : List (Bool × List Nat)) (i : Nat) (acc : List (Nat × List (Nat × Bool))) (sts0 : Nat → S), ops.drop i = os → ds.drop i = ds' →
    (∀ j, j < i → ∀ o, ops[j]? = some o → stepX P o (sts0 j) (sts0 (j + 1))) → (∀ a t, acc.lookup a = some t → a < i ∧ ∃ o, ops[a]? = some o ∧ t = touch o (sts0 a)) →
    (∀ j, j < i → ∀ o, ops[j]? = some o → ∀ d, ds[j]? = some d → ∀ a ∈ d.2, a < j ∧ ∃ o', ops[a]? = some o' ∧ compat (touch o' (sts0 a)) (touch o (sts0 j)) = true) →
    wpT P os ds' i acc (sts0 i) K → i ≤ ops.length →
    ∃ sts : Nat → S, sts 0 = sts0 0 ∧ (∀ (j : Nat) o, ops[j]? = some o → stepX P o (sts j) (sts (j + 1))) ∧ K (sts ops.length) ∧
      (∀ (j : Nat) o, ops[j]? = some o → ∀ d, ds[j]? = some d → ∀ a ∈ d.2, a < j ∧ ∃ o', ops[a]? = some o' ∧ compat (touch o' (sts a)) (touch o (sts j)) = true)
  | [], ds', i, acc, sts0, ho, hd, h1, h2, h3, hw, hi => by
    have hi' : i = ops.length := by
      have := congrArg List.length ho
      simp at this
      omega
    subst hi'
    refine ⟨sts0, rfl, fun j o hj => ?_, hw, fun j o hj => ?_⟩
    · exact h1 j (List.getElem?_eq_some_iff.1 hj).1 o hj
    · exact h3 j (List.getElem?_eq_some_iff.1 hj).1 o hj
  | o :: os, ds', i, acc, sts0, ho, hd, h1, h2, h3, hw, hi => by
    have hoi : ops[i]? = some o := by
      have : (ops.drop i)[0]? = some o := by rw [ho]; rfl
      simpa using this
    have hlt : i < ops.length := (List.getElem?_eq_some_iff.1 hoi).1
    have hdi : ds'.head? = ds[i]? := by rw [← hd]; simp
    obtain ⟨hc, hw⟩ := hw
    -- the state behind
    have key : ∀ st' acc', stepX P o (sts0 i) st' → (∀ a t, acc'.lookup a = some t → (a < i ∧ ∃ o', ops[a]? = some o' ∧ t = touch o' (sts0 a)) ∨ (a = i ∧ t = touch o (sts0 i))) → wpT P os ds'.tail (i + 1) acc' st' K →
        ∃ sts : Nat → S, sts 0 = sts0 0 ∧ (∀ (j : Nat) o, ops[j]? = some o → stepX P o (sts j) (sts (j + 1))) ∧ K (sts ops.length) ∧
          (∀ (j : Nat) o, ops[j]? = some o → ∀ d, ds[j]? = some d → ∀ a ∈ d.2, a < j ∧ ∃ o', ops[a]? = some o' ∧ compat (touch o' (sts a)) (touch o (sts j)) = true) := by
      intro st' acc' hst hacc hwp
      let sts1 : Nat → S := fun m => if m ≤ i then sts0 m else st'
      have e0 : ∀ m, m ≤ i → sts1 m = sts0 m := fun m hm => if_pos hm
      have e1 : sts1 (i + 1) = st' := if_neg (by omega)
      have := wpT_trace (P := P) (ops := ops) (ds := ds) (K := K) os ds'.tail (i + 1) acc' sts1 (by rw [← List.tail_drop, ho]; rfl) (by rw [← List.tail_drop, hd])
        (fun j hj o' ho' => by
          by_cases hji : j = i
          · subst hji
            rw [hoi] at ho'
            cases ho'
            rw [e0 j (Nat.le_refl _), e1]
            exact hst
          · rw [e0 j (by omega), e0 (j + 1) (by omega)]
            exact h1 j (by omega) o' ho')
        (fun a t ha => by
          rcases hacc a t ha with ⟨hlt', o', ho', ht⟩ | ⟨rfl, ht⟩
          · exact ⟨by omega, o', ho', by rw [e0 a (by omega)]; exact ht⟩
          · exact ⟨by omega, o, hoi, by rw [e0 a (Nat.le_refl _)]; exact ht⟩)
        (fun j hj o' ho' d hdj a ha => by
          by_cases hji : j = i
          · subst hji
            rw [hoi] at ho'
            cases ho'
            rw [hdi, hdj] at hc
            simp only [List.all_eq_true] at hc
            have := hc a ha
            split at this
            · rename_i t ht
              obtain ⟨hlt', o', ho', rfl⟩ := h2 a t ht
              refine ⟨hlt', o', ho', ?_⟩
              rw [e0 a (by omega), e0 j (Nat.le_refl _)]
              exact this
            · cases this
          · obtain ⟨hlt', o'', ho'', hcc⟩ := h3 j (by omega) o' ho' d hdj a ha
            refine ⟨hlt', o'', ho'', ?_⟩
            rw [e0 a (by omega), e0 j (by omega)]
            exact hcc)
        (by rw [e1]; exact hwp) (by omega)
      obtain ⟨sts, hs0, hs1, hs2, hs3⟩ := this
      exact ⟨sts, by rw [hs0]; exact e0 0 (Nat.zero_le _), hs1, hs2, hs3⟩
    have haccs : ∀ (bb : Bool) a t, (if bb = true then (i, touch o (sts0 i)) :: acc else acc).lookup a = some t → (a < i ∧ ∃ o', ops[a]? = some o' ∧ t = touch o' (sts0 a)) ∨ (a = i ∧ t = touch o (sts0 i)) := by
      intro bb a t ha
      split at ha
      · rw [List.lookup_cons] at ha
        by_cases hai : a = i
        · subst hai
          rw [show (a == a) = true by simp] at ha
          exact .inr ⟨rfl, (Option.some.inj ha).symm⟩
        · rw [show (a == i) = false by simpa using hai] at ha
          exact .inl (h2 a t ha)
      · exact .inl (h2 a t ha)
    cases hwt : wants o (sts0 i).s with
    | none => rw [hwt] at hw; exact hw.elim
    | some b =>
      rw [hwt] at hw
      cases b with
      | true =>
        obtain ⟨st', hr, hwp⟩ := runX_exists hw
        exact key st' _ (by unfold stepX; rw [hwt]; exact hr) (haccs _) hwp
      | false => exact key _ _ (by unfold stepX; rw [hwt]) (haccs _) hw

/-! ### writes, in the text's order and in another -/
section
variable {V : Type}

/-- What a place holds where those of the first m operations that have gone have written it. -/
def ov (gone : Nat → Bool) (f : Nat → Option V) (base : V) : Nat → V
  | 0 => base
  | m + 1 => if gone m then (f m).getD (ov gone f base m) else ov gone f base m

theorem ov_read {gone : Nat → Bool} {f : Nat → Option V} {base : V} {n j : Nat} (hj : j ≤ n) (h1 : ∀ i, i < j → f i ≠ none → gone i = true) (h2 : ∀ i, j ≤ i → i < n → f i ≠ none → gone i = false) : ov gone f base n = ov (fun _ => true) f base j := by
  have e1 : ∀ m, m ≤ j → ov gone f base m = ov (fun _ => true) f base m := by
    intro m
    induction m with
    | zero => intro _; rfl
    | succ m ih =>
      intro hm
      simp only [ov, if_true, ih (by omega)]
      cases hf : f m with
      | none => simp
      | some v => rw [h1 m (by omega) (by simp [hf])]; rfl
  have e2 : ∀ d, j + d ≤ n → ov gone f base (j + d) = ov gone f base j := by
    intro d
    induction d with
    | zero => intro _; rfl
    | succ d ih =>
      intro hd
      show (if gone (j + d) then (f (j + d)).getD (ov gone f base (j + d)) else ov gone f base (j + d)) = _
      rw [ih (by omega)]
      cases hf : f (j + d) with
      | none => simp
      | some v => rw [h2 (j + d) (by omega) (by omega) (by simp [hf])]; rfl
  have := e2 (n - j) (by omega)
  rw [show j + (n - j) = n by omega] at this
  rw [this, e1 j (Nat.le_refl _)]

theorem ov_write {gone gone' : Nat → Bool} {f : Nat → Option V} {base : V} {n j : Nat} (hj : j < n) (hg : gone j = false) (hg' : ∀ i, gone' i = if i = j then true else gone i) (h2 : ∀ i, j < i → i < n → f i ≠ none → f j ≠ none → gone i = false) :
    ov gone' f base n = (f j).getD (ov gone f base n) := by
  have e1 : ∀ m, m ≤ j → ov gone' f base m = ov gone f base m := by
    intro m
    induction m with
    | zero => intro _; rfl
    | succ m ih =>
      intro hm
      simp only [ov, ih (by omega), hg' m, show m ≠ j by omega, if_false]
  have e2 : ∀ d, j + 1 + d ≤ n → ov gone' f base (j + 1 + d) = (f j).getD (ov gone f base (j + 1 + d)) := by
    intro d
    induction d with
    | zero =>
      intro _
      show (if gone' j then (f j).getD (ov gone' f base j) else ov gone' f base j) = (f j).getD (if gone j then (f j).getD (ov gone f base j) else ov gone f base j)
      rw [hg' j, hg, e1 j (Nat.le_refl _)]
      simp
    | succ d ih =>
      intro hd
      show (if gone' (j + 1 + d) then (f (j + 1 + d)).getD (ov gone' f base (j + 1 + d)) else ov gone' f base (j + 1 + d)) = (f j).getD (if gone (j + 1 + d) then (f (j + 1 + d)).getD (ov gone f base (j + 1 + d)) else ov gone f base (j + 1 + d))
      have hn : ¬ j + 1 + d = j := by omega
      rw [ih (by omega), hg' _, if_neg hn]
      cases hfj : f j with
      | none => rfl
      | some u =>
        cases hf : f (j + 1 + d) with
        | none => simp
        | some v => rw [h2 (j + 1 + d) (by omega) (by omega) (by simp [hf]) (by simp [hfj])]; simp
  have := e2 (n - (j + 1)) (by omega)
  rw [show j + 1 + (n - (j + 1)) = n by omega] at this
  exact this
end

/-! ### what must have gone before -/
inductive Reach (l : List Oper) : Nat → Nat → Prop
  | edge (i : Nat) (o : Oper) (j : Nat) (hi : l[i]? = some o) (hj : j ∈ afters o) : Reach l i j
  | step (i : Nat) (o : Oper) (j k : Nat) (hi : l[i]? = some o) (hj : j ∈ afters o) (hr : Reach l j k) : Reach l i k

theorem fold_bits (acc : List Nat) : ∀ (js : List Nat) (s : Nat) (k : Nat), (js.foldl (fun s j => s ||| 2 ^ j ||| acc.getD j 0) s).testBit k = true → s.testBit k = true ∨ ∃ j ∈ js, j = k ∨ (acc.getD j 0).testBit k = true
  | [], s, k, h => .inl h
  | j :: js, s, k, h => by
    rcases fold_bits acc js _ k h with h | ⟨j', hj', h⟩
    · simp only [Nat.testBit_or, Bool.or_eq_true, Nat.testBit_two_pow, decide_eq_true_eq] at h
      rcases h with (h | h) | h
      · exact .inl h
      · exact .inr ⟨j, by simp, .inl h⟩
      · exact .inr ⟨j, by simp, .inr h⟩
    · exact .inr ⟨j', by simp [hj'], h⟩

theorem befs_reach {l : List Oper} : ∀ (os : List Oper) (acc : List Nat), l.drop acc.length = os → (∀ i k, i < acc.length → (acc.getD i 0).testBit k = true → Reach l i k) → ∀ i k, ((befs os acc).getD i 0).testBit k = true → Reach l i k
  | [], acc, ho, hacc, i, k, h => by
    simp only [befs] at h
    by_cases hi : i < acc.length
    · exact hacc i k hi h
    · simp [List.getD_eq_getElem?_getD, List.getElem?_eq_none (Nat.le_of_not_lt hi)] at h
  | o :: os, acc, ho, hacc, i, k, h => by
    simp only [befs] at h
    refine befs_reach os _ ?_ ?_ i k h
    · simp only [List.length_append, List.length_cons, List.length_nil, Nat.zero_add]
      rw [← List.tail_drop, ho]
      rfl
    · intro i k hi hb
      simp only [List.length_append, List.length_cons, List.length_nil, Nat.zero_add] at hi
      by_cases hlt : i < acc.length
      · refine hacc i k hlt ?_
        simpa [List.getD_eq_getElem?_getD, List.getElem?_append_left hlt] using hb
      · have hie : i = acc.length := by omega
        subst hie
        have hoi : l[acc.length]? = some o := by
          have : (l.drop acc.length)[0]? = some o := by rw [ho]; rfl
          simpa using this
        have hb' : ((afters o).foldl (fun s j => s ||| 2 ^ j ||| acc.getD j 0) 0).testBit k = true := by
          simpa [List.getD_eq_getElem?_getD] using hb
        rcases fold_bits acc (afters o) 0 k hb' with h0 | ⟨j, hj, h0⟩
        · simp at h0
        · rcases h0 with rfl | h0
          · exact .edge _ o j hoi hj
          · by_cases hjl : j < acc.length
            · exact .step _ o j k hoi hj (hacc j k hjl h0)
            · simp [List.getD_eq_getElem?_getD, List.getElem?_eq_none (Nat.le_of_not_lt hjl)] at h0

theorem reach_gone {l : List Oper} {gone : Nat → Bool} (hd : ∀ i o, l[i]? = some o → gone i = true → ∀ j ∈ afters o, gone j = true) {i k : Nat} (hr : Reach l i k) (hi : gone i = true) : gone k = true := by
  induction hr with
  | edge i o j ho hj => exact hd i o ho hi j hj
  | step i o j k ho hj _ ih => exact ih (hd i o ho hi j hj)

theorem reach_ready {l : List Oper} {gone : Nat → Bool} (hd : ∀ i o, l[i]? = some o → gone i = true → ∀ j ∈ afters o, gone j = true) {i k : Nat} {o : Oper} (hi : l[i]? = some o) (ha : ∀ j ∈ afters o, gone j = true) (hr : Reach l i k) : gone k = true := by
  cases hr with
  | edge _ o' _ ho hj => rw [hi] at ho; cases ho; exact ha _ hj
  | step _ o' j _ ho hj hr => rw [hi] at ho; cases ho; exact reach_gone hd hr (ha j hj)

end Ev
end Go.Proofs.Ytnkbhmafebngjaa
