/- Regions at the machine. -/
import Derived.Test.YtnkbhmafebngjaaE13
namespace Go.Proofs.Ytnkbhmafebngjaa
namespace Ev
open Go
set_option linter.unusedVariables false
set_option linter.unusedSimpArgs false

theorem copers_get {P : Program} {ops : Array Oper} {n : Nat} : ∀ {l : List Oper} {xs : List XOper}, copers P ops n l = some xs → l.length = xs.length ∧ ∀ (i : Nat) o, l[i]? = some o → ∃ x, xs[i]? = some x ∧ coper P ops n o = some x
  | [], xs, h => by simp [copers] at h; subst h; simp
  | o :: l, xs, h => by
    simp only [copers] at h
    split at h
    · rename_i x ys hx hys
      cases h
      obtain ⟨h1, h2⟩ := copers_get hys
      refine ⟨by simp [h1], fun i o' hi => ?_⟩
      cases i with
      | zero => simp at hi; subst hi; exact ⟨x, rfl, hx⟩
      | succ i => simpa using h2 i o' (by simpa using hi)
    · cases h

section
variable {P : Program} {G : GS} {w : World} {a : Act}

theorem Fr.drew {n : Nat} {st : S} (fr : Fr n G st a w) : Fr n G st a { w with drawn := w.drawn + 1 } ∧ Step G st.h w G st.h { w with drawn := w.drawn + 1 } := by
  have hb : RowKit.Below w.heap.size w { w with drawn := w.drawn + 1 } := ⟨rfl, rfl, rfl, Nat.le_refl _, fun _ _ => rfl⟩
  have hs := step_call fr.inv (St' := G.St) hb (fun _ _ => rfl) fr.inv.st
  exact ⟨⟨hs.inv, fr.slots.ext hs.ext, fr.size⟩, hs⟩

/-- A region in the text's order. -/
theorem list_ok {ops : Array Oper} {n : Nat} {K : S → Prop} {Q : Exit → Act → World → Prop} : ∀ (l : List Oper) (xs : List XOper) (k : Nat) {G : GS} {st : S} {a : Act} {w : World}, copers P ops n l = some xs → (∀ j, l[j]? = ops[k + j]?) → Fr n G st a w → wpO P xs st K →
    (∀ a' w' G' st', Fr n G' st' a' w' → Step G st.h w G' st'.h w' → a'.defers = a.defers → K st' → Q .normal a' w') → wpOps P ops Q (List.range' k l.length) a w
  | [], xs, k, G, st, a, w, hc, hl, fr, hw, hQ => by
    simp [copers] at hc
    subst hc
    simp only [List.length_nil, List.range'_zero, wpOps]
    exact hQ a w G st fr (.refl fr.inv) rfl hw
  | o :: l, xs, k, G, st, a, w, hc, hl, fr, hw, hQ => by
    simp only [copers] at hc
    split at hc
    · rename_i x ys hx hys
      cases hc
      have h0 : ops[k]? = some o := by simpa using (hl 0).symm
      have hl' : ∀ j, l[j]? = ops[k + 1 + j]? := fun j => by have := hl (j + 1); simpa [Nat.add_assoc, Nat.add_comm 1 j] using this
      simp only [List.length_cons, List.range'_succ, wpOps, h0]
      simp only [wpO] at hw
      cases hwt : wants x st.s with
      | none => rw [hwt] at hw; exact hw.elim
      | some b =>
        rw [hwt] at hw
        have hwo := wants_ok hx fr.slots hwt
        rw [hwo]
        cases b with
        | true =>
          simp only [if_true]
          refine .inl (Oper.wp_mono ?_ (runX_ok hx fr hw))
          rintro a' w' ⟨G', st', fr', hs, hd, hK⟩
          exact list_ok l ys (k + 1) hys hl' fr' hK fun a'' w'' G'' st'' fr'' hs' hd' hK' => hQ a'' w'' G'' st'' fr'' (hs.trans hs') (hd'.trans hd) hK'
        | false =>
          simp only [Bool.false_eq_true, if_false]
          obtain ⟨hd1, _, hd2, _⟩ := coper_parts hx
          refine list_ok l ys (k + 1) (G := G) (st := ⟨putS st.s x.dst .skip, st.h⟩) hys hl' ⟨fr.inv, ?_, by rw [put_size]; exact fr.size⟩ hw fun a'' w'' G'' st'' fr'' hs' hd' hK' => hQ a'' w'' G'' st'' fr'' hs' (hd'.trans put_defers) hK'
          rw [hd1]
          exact fr.slots.put .skip fr.size hd2
    · cases hc

theorem apartX_spec {x y : XOper} (h : apartX x y = true) : (∀ d, x.dst = some d → d ∉ looks y) ∧ (∀ d, x.dst = some d → y.dst ≠ some d) ∧ (∀ d, y.dst = some d → d ∉ looks x) := by
  refine ⟨fun d hd => ?_, fun d hd => ?_, fun d hd => ?_⟩ <;> simp [apartX, hd] at h
  · exact h.1.1
  · exact h.1.2
  · exact h.2

theorem still_touch {o : XOper} {st : S} (h : still o.op = true) : touch o st = [] := by
  unfold touch
  split
  · cases hop : o.op <;> first | rfl | (rw [hop] at h; simp [still] at h)
  · rfl

theorem pairs_spec {l : List Oper} {xs : List XOper} {ds : List (Bool × List Nat)} (hp : pairs l xs = some ds) : l.length = xs.length ∧ (∀ (i : Nat) o, l[i]? = some o → ∀ j ∈ afters o, j < i) ∧
    (∀ i j, i < j → j < xs.length → loose (befs l []) i j = true → ∃ a b, xs[i]? = some a ∧ xs[j]? = some b ∧ apartX a b = true ∧ (still a.op = true ∨ still b.op = true ∨ ∃ d, ds[j]? = some d ∧ i ∈ d.2)) := by
  unfold pairs at hp
  simp only at hp
  split at hp
  · rename_i hc
    obtain ⟨h1, h2, h3⟩ := hc
    cases hp
    refine ⟨h1, fun i o hi j hj => ?_, fun i j hij hj hlo => ?_⟩
    · rw [List.all_eq_true] at h3
      have := h3 (o, i) (by rw [List.mem_iff_getElem?]; exact ⟨i, by simp [List.getElem?_zipIdx, hi]⟩)
      rw [List.all_eq_true] at this
      simpa using this j hj
    · rw [List.all_eq_true] at h2
      have := h2 j (List.mem_range.2 hj)
      rw [List.all_eq_true] at this
      have := this i (List.mem_range.2 hij)
      simp only [hlo, Bool.not_true, Bool.false_or] at this
      split at this
      · rename_i a b ha hb
        refine ⟨a, b, ha, hb, this, ?_⟩
        cases hsa : still a.op with
        | true => exact .inl rfl
        | false =>
          cases hsb : still b.op with
          | true => exact .inr (.inl rfl)
          | false =>
            refine .inr (.inr ?_)
            simp only [List.getElem?_map, List.getElem?_range hj, Option.map_some, Option.some.injEq, exists_eq_left']
            simp only [List.getD_eq_getElem?_getD, List.getElem?_map, List.getElem?_range hj, Option.map_some, Option.getD_some, List.mem_filter, List.mem_range]
            refine ⟨hij, ?_⟩
            simp [hlo, ha, hb, hsa, hsb]
      · cases this
  · cases hp

theorem compat_spec {a b : List (Nat × Bool)} (h : compat a b = true) {k : Nat} {x y : Bool} (ha : (k, x) ∈ a) (hb : (k, y) ∈ b) : x = false ∧ y = false := by
  unfold compat at h
  rw [List.all_eq_true] at h
  have := h _ ha
  rw [List.all_eq_true] at this
  have := this _ hb
  simp at this
  exact this

/-- A region that draws its order. -/
theorem draw_ok {ops : Array Oper} {n id : Nat} {K : S → Prop} {Q : Exit → Act → World → Prop} {xs : List XOper} {ds : List (Bool × List Nat)} {st : S} (hm : P.follows .mixedOrders = true) (hc : copers P ops n ops.toList = some xs) (hp : pairs ops.toList xs = some ds)
    (fr : Fr n G st a w) (hw : wpT P xs ds 0 [] st K) (hQ : ∀ a' w' G' st', Fr n G' st' a' w' → Step G st.h w G' st'.h w' → a'.defers = a.defers → K st' → Q .normal a' w') : (Code.region id ops true).wp P Q a w := by
  obtain ⟨sts, hs0, hs1, hs2, hs3⟩ := wpT_trace (ops := xs) (ds := ds) xs ds 0 [] (fun _ => st) rfl rfl (fun j hj => by omega) (fun a t h => by simp at h) (fun j hj => by omega) hw (Nat.zero_le _)
  obtain ⟨hlen, hget⟩ := copers_get hc
  obtain ⟨hl1, haft, hloose⟩ := pairs_spec hp
  have hN : ops.size = xs.length := by rw [← hlen]; simp
  subst hs0
  -- what each operation writes
  let fs : Nat → Nat → Option AV := fun t i => match xs[i]? with | some o => (if o.dst = some t then some ((sts (i + 1)).s t) else none) | none => none
  let fh : Nat → Nat → Option Ent := fun k i => match xs[i]? with | some o => (if (k, true) ∈ touch o (sts i) then some ((sts (i + 1)).h k) else none) | none => none
  have hloc : ∀ i o, xs[i]? = some o → ∃ v, (sts (i + 1)).s = putS (sts i).s o.dst v ∧ ∀ k, (k, true) ∉ touch o (sts i) → (sts (i + 1)).h k = (sts i).h k := by
    intro i o ho
    obtain ⟨v, h1, h2, _⟩ := stepX_local (st2 := sts i) (fun _ _ => rfl) (fun _ _ _ => rfl) (hs1 i o ho)
    exact ⟨v, h1, h2⟩
  have hTs : ∀ t j, j ≤ xs.length → ov (fun _ => true) (fs t) ((sts 0).s t) j = (sts j).s t := by
    intro t j
    induction j with
    | zero => intro _; rfl
    | succ j ih =>
      intro hj
      have ho := List.getElem?_eq_getElem (l := xs) (i := j) (by omega)
      obtain ⟨v, h1, _⟩ := hloc j _ ho
      simp only [ov, if_true, ih (by omega), fs, ho]
      by_cases hd : xs[j].dst = some t
      · simp [hd]
      · simp only [hd, if_false, Option.getD_none, h1]
        cases hdd : xs[j].dst with
        | none => rfl
        | some d =>
          have : t ≠ d := fun e => hd (by rw [hdd, e])
          simp [putS, upd, this]
  have hTh : ∀ k j, j ≤ xs.length → ov (fun _ => true) (fh k) ((sts 0).h k) j = (sts j).h k := by
    intro k j
    induction j with
    | zero => intro _; rfl
    | succ j ih =>
      intro hj
      have ho := List.getElem?_eq_getElem (l := xs) (i := j) (by omega)
      obtain ⟨v, _, h2⟩ := hloc j _ ho
      simp only [ov, if_true, ih (by omega), fh, ho]
      by_cases hd : (k, true) ∈ touch xs[j] (sts j)
      · simp [hd]
      · simp only [hd, if_false, Option.getD_none]
        exact (h2 k hd).symm
  let C : (Nat → Bool) → S := fun gone => ⟨fun t => ov gone (fs t) ((sts 0).s t) xs.length, fun k => ov gone (fh k) ((sts 0).h k) xs.length⟩
  -- what may not go in either order
  have hord : ∀ (gone : Nat → Bool), (∀ (i : Nat) o, ops.toList[i]? = some o → gone i = true → ∀ j ∈ afters o, gone j = true) → ∀ i j, i < j → j < xs.length → loose (befs ops.toList []) i j = false → (gone j = true → gone i = true) ∧ (∀ o, ops.toList[j]? = some o → (∀ q ∈ afters o, gone q = true) → gone i = true) := by
    intro gone hd i j hij hj hlo
    have hr : Reach ops.toList j i := by
      refine befs_reach ops.toList [] rfl (fun _ _ h => by simp at h) j i ?_
      simpa [loose] using hlo
    exact ⟨fun h => reach_gone hd hr h, fun o ho ha => reach_ready hd ho ha hr⟩
  have hconf : ∀ i j (x y : XOper), i < j → j < xs.length → xs[i]? = some x → xs[j]? = some y → loose (befs ops.toList []) i j = true → apartX x y = true ∧ compat (touch x (sts i)) (touch y (sts j)) = true := by
    intro i j x y hij hj hx hy hlo
    obtain ⟨x', y', hx', hy', hap, hst⟩ := hloose i j hij hj hlo
    rw [hx] at hx'
    rw [hy] at hy'
    cases hx'
    cases hy'
    refine ⟨hap, ?_⟩
    rcases hst with h | h | ⟨d, hd, hi⟩
    · rw [still_touch h]; rfl
    · rw [still_touch h]
      unfold compat
      rw [List.all_eq_true]
      intro _ _
      rfl
    · obtain ⟨_, o', ho', hcc⟩ := hs3 j y hy d hd i hi
      rw [hx] at ho'
      cases ho'
      exact hcc
  have stepC : ∀ (gone : Nat → Bool) (j : Nat) (o : Oper) (x : XOper), (∀ (i : Nat) o, ops.toList[i]? = some o → gone i = true → ∀ j ∈ afters o, gone j = true) → gone j = false → ops.toList[j]? = some o → (∀ q ∈ afters o, gone q = true) → xs[j]? = some x →
      ∀ gone', (∀ i, gone' i = if i = j then true else gone i) → stepX P x (C gone) (C gone') := by
    intro gone j o x hd hgj ho ha hx gone' hg'
    have hj : j < xs.length := (List.getElem?_eq_some_iff.1 hx).1
    -- the places and keys that operation j has to do with hold what they held in the text's order
    have hS : ∀ t ∈ looks x, (C gone).s t = (sts j).s t := by
      intro t ht
      show ov gone (fs t) _ _ = _
      rw [ov_read (j := j) (by omega), hTs t j (by omega)]
      · intro i hi hf
        have hoi := List.getElem?_eq_getElem (l := xs) (i := i) (by omega)
        have hdst : xs[i].dst = some t := by
          simp only [fs, hoi] at hf
          by_cases hh : xs[i].dst = some t
          · exact hh
          · simp [hh] at hf
        cases hlo : loose (befs ops.toList []) i j with
        | false => exact (hord gone hd i j hi hj hlo).2 o ho ha
        | true => exact absurd ht ((apartX_spec (hconf i j _ _ hi hj hoi hx hlo).1).1 t hdst)
      · intro i hi hin hf
        by_cases hij : i = j
        · subst hij; exact hgj
        · have hoi := List.getElem?_eq_getElem (l := xs) (i := i) (by omega)
          have hdst : xs[i].dst = some t := by
            simp only [fs, hoi] at hf
            by_cases hh : xs[i].dst = some t
            · exact hh
            · simp [hh] at hf
          cases hlo : loose (befs ops.toList []) j i with
          | false =>
            cases hgi : gone i with
            | false => rfl
            | true => rw [(hord gone hd j i (by omega) hin hlo).1 hgi] at hgj; cases hgj
          | true => exact absurd ht ((apartX_spec (hconf j i _ _ (by omega) hin hx hoi hlo).1).2.2 t hdst)
    have hH : ∀ k b, (k, b) ∈ touch x (sts j) → (C gone).h k = (sts j).h k := by
      intro k b hk
      show ov gone (fh k) _ _ = _
      rw [ov_read (j := j) (by omega), hTh k j (by omega)]
      · intro i hi hf
        have hoi := List.getElem?_eq_getElem (l := xs) (i := i) (by omega)
        have hmem : (k, true) ∈ touch xs[i] (sts i) := by
          simp only [fh, hoi] at hf
          by_cases hh : (k, true) ∈ touch xs[i] (sts i)
          · exact hh
          · simp [hh] at hf
        cases hlo : loose (befs ops.toList []) i j with
        | false => exact (hord gone hd i j hi hj hlo).2 o ho ha
        | true => exact absurd (compat_spec (hconf i j _ _ hi hj hoi hx hlo).2 hmem hk).1 (by simp)
      · intro i hi hin hf
        by_cases hij : i = j
        · subst hij; exact hgj
        · have hoi := List.getElem?_eq_getElem (l := xs) (i := i) (by omega)
          have hmem : (k, true) ∈ touch xs[i] (sts i) := by
            simp only [fh, hoi] at hf
            by_cases hh : (k, true) ∈ touch xs[i] (sts i)
            · exact hh
            · simp [hh] at hf
          cases hlo : loose (befs ops.toList []) j i with
          | false =>
            cases hgi : gone i with
            | false => rfl
            | true => rw [(hord gone hd j i (by omega) hin hlo).1 hgi] at hgj; cases hgj
          | true => exact absurd (compat_spec (hconf j i _ _ (by omega) hin hx hoi hlo).2 hk hmem).2 (by simp)
    obtain ⟨v, h1, h2, h3⟩ := stepX_local (st2 := C gone) hS hH (hs1 j x hx)
    have e : (⟨putS (C gone).s x.dst v, merge (touch x (sts j)) (sts (j + 1)).h (C gone).h⟩ : S) = C gone' := by
      have es : putS (C gone).s x.dst v = (C gone').s := by
        funext t
        show _ = ov gone' (fs t) _ _
        rw [ov_write (j := j) hj hgj hg' (fun i hi hin hf hfj => ?_)]
        · show _ = (fs t j).getD ((C gone).s t)
          simp only [fs, hx]
          cases hdd : x.dst with
          | none => simp [putS]
          | some d =>
            by_cases htd : t = d
            · subst htd
              simp [putS, upd, h1, hdd]
            · simp [putS, upd, htd, Ne.symm htd]
        · have hoi := List.getElem?_eq_getElem (l := xs) (i := i) (by omega)
          have hdi : xs[i].dst = some t := by
            simp only [fs, hoi] at hf
            by_cases hh : xs[i].dst = some t
            · exact hh
            · simp [hh] at hf
          have hdj : x.dst = some t := by
            simp only [fs, hx] at hfj
            by_cases hh : x.dst = some t
            · exact hh
            · simp [hh] at hfj
          cases hlo : loose (befs ops.toList []) j i with
          | false =>
            cases hgi : gone i with
            | false => rfl
            | true => rw [(hord gone hd j i hi hin hlo).1 hgi] at hgj; cases hgj
          | true => exact absurd hdi ((apartX_spec (hconf j i _ _ hi hin hx hoi hlo).1).2.1 t hdj)
      have eh : merge (touch x (sts j)) (sts (j + 1)).h (C gone).h = (C gone').h := by
        funext k
        show _ = ov gone' (fh k) _ _
        rw [ov_write (j := j) hj hgj hg' (fun i hi hin hf hfj => ?_)]
        · show _ = (fh k j).getD ((C gone).h k)
          simp only [fh, hx, merge]
          split <;> rfl
        · have hoi := List.getElem?_eq_getElem (l := xs) (i := i) (by omega)
          have hdi : (k, true) ∈ touch xs[i] (sts i) := by
            simp only [fh, hoi] at hf
            by_cases hh : (k, true) ∈ touch xs[i] (sts i)
            · exact hh
            · simp [hh] at hf
          have hdj : (k, true) ∈ touch x (sts j) := by
            simp only [fh, hx] at hfj
            by_cases hh : (k, true) ∈ touch x (sts j)
            · exact hh
            · simp [hh] at hfj
          cases hlo : loose (befs ops.toList []) j i with
          | false =>
            cases hgi : gone i with
            | false => rfl
            | true => rw [(hord gone hd j i hi hin hlo).1 hgi] at hgj; cases hgj
          | true => exact absurd (compat_spec (hconf j i _ _ hi hin hx hoi hlo).2 hdj hdi).1 (by simp)
      rw [es, eh]
    rw [← e]
    exact h3
  have hend : ∀ gone : Nat → Bool, (∀ i, i < xs.length → gone i = true) → C gone = sts xs.length := by
    intro gone hg
    have h1 : (C gone).s = (sts xs.length).s := by
      funext t
      show ov gone (fs t) _ _ = _
      rw [ov_read (j := xs.length) (Nat.le_refl _) (fun i hi _ => hg i hi) (fun i h1 h2 => by omega), hTs t _ (Nat.le_refl _)]
    have h2 : (C gone).h = (sts xs.length).h := by
      funext k
      show ov gone (fh k) _ _ = _
      rw [ov_read (j := xs.length) (Nat.le_refl _) (fun i hi _ => hg i hi) (fun i h1 h2 => by omega), hTh k _ (Nat.le_refl _)]
    calc C gone = ⟨(C gone).s, (C gone).h⟩ := rfl
      _ = ⟨(sts xs.length).s, (sts xs.length).h⟩ := by rw [h1, h2]
      _ = sts xs.length := rfl
  have hbegin : C (fun _ => false) = sts 0 := by
    have h1 : ∀ (V : Type) (f : Nat → Option V) (b : V) m, ov (fun _ => false) f b m = b := by
      intro V f b m
      induction m with
      | zero => rfl
      | succ m ih => simp [ov, ih]
    show (⟨_, _⟩ : S) = _
    simp only [h1]
  -- at the machine
  obtain ⟨frd, hsd⟩ := fr.drew
  refine wp_region_any hm ?_
  have ready_spec : ∀ (listed : Array Bool) j, j ∈ Region.ready .any ops listed → j < xs.length ∧ listed.getD j true = false ∧ ∃ o, ops.toList[j]? = some o ∧ ∀ q ∈ afters o, listed.getD q false = true := by
    intro listed j hj
    simp only [Region.ready, List.mem_filter, List.mem_range, Bool.and_eq_true, Bool.not_eq_true'] at hj
    obtain ⟨h1, h2, h3⟩ := hj
    refine ⟨by omega, h2, ops[j], by simp [h1], fun q hq => ?_⟩
    simp only [Array.getElem?_eq_getElem h1, Option.map_some, Option.getD_some, Array.all_eq_true_iff_forall_mem, Bool.or_eq_true, Bool.not_eq_true'] at h3
    simp only [afters, List.mem_filterMap] at hq
    obtain ⟨e, he, hee⟩ := hq
    split at hee
    · rename_i hb
      cases hee
      rcases h3 e (Array.mem_toList_iff.1 he) with h | h
      · rw [hb] at h; cases h
      · exact h
    · cases hee
  have all_ready : ∀ (listed : Array Bool), listed.size = xs.length → Region.ready .any ops listed = [] → ∀ i, i < xs.length → listed.getD i false = true := by
    intro listed hsz hr i
    induction i using Nat.strongRecOn with
    | _ i ih =>
      intro hi
      cases hg : listed.getD i false with
      | true => rfl
      | false =>
        have hio : i < ops.size := by omega
        have hmem : i ∈ Region.ready .any ops listed := by
          simp only [Region.ready, List.mem_filter, List.mem_range, Bool.and_eq_true, Bool.not_eq_true']
          refine ⟨hio, ?_, ?_⟩
          · simp only [Array.getD, hsz, hi, dif_pos] at hg ⊢
            exact hg
          · simp only [Array.getElem?_eq_getElem hio, Option.map_some, Option.getD_some, Array.all_eq_true_iff_forall_mem, Bool.or_eq_true, Bool.not_eq_true']
            intro e he
            cases hb : Region.binds .any e with
            | false => exact .inl rfl
            | true =>
              refine .inr (ih e.on ?_ ?_)
              · exact haft i ops[i] (by simp [hio]) e.on (by simp only [afters, List.mem_filterMap]; exact ⟨e, Array.mem_toList_iff.2 he, by simp [hb]⟩)
              · have := haft i ops[i] (by simp [hio]) e.on (by simp only [afters, List.mem_filterMap]; exact ⟨e, Array.mem_toList_iff.2 he, by simp [hb]⟩)
                omega
        rw [hr] at hmem
        cases hmem
  have count : ∀ (fuel : Nat) (listed : Array Bool) (a' : Act) (w' : World) (G' : GS), listed.size = xs.length → ((List.range xs.length).filter fun i => !listed.getD i false).length ≤ fuel →
      (∀ (i : Nat) o, ops.toList[i]? = some o → listed.getD i false = true → ∀ j ∈ afters o, listed.getD j false = true) → Fr n G' (C fun i => listed.getD i false) a' w' → Step G (sts 0).h w G' (C fun i => listed.getD i false).h w' → a'.defers = a.defers →
      wpAny P .any ops Q fuel listed a' w' := by
    intro fuel
    have fin : ∀ (listed : Array Bool) (a' : Act) (w' : World) (G' : GS), (∀ i, i < xs.length → listed.getD i false = true) → Fr n G' (C fun i => listed.getD i false) a' w' → Step G (sts 0).h w G' (C fun i => listed.getD i false).h w' → a'.defers = a.defers → Q .normal a' w' := by
      intro listed a' w' G' hall fr' hs' hd'
      have he := hend _ hall
      rw [he] at fr' hs'
      exact hQ a' w' G' _ fr' hs' hd' hs2
    induction fuel with
    | zero =>
      intro listed a' w' G' hsz hcnt hdc fr' hs' hd'
      have hall : ∀ i, i < xs.length → listed.getD i false = true := by
        intro i hi
        cases hg : listed.getD i false with
        | true => rfl
        | false =>
          have : i ∈ (List.range xs.length).filter fun i => !listed.getD i false := by simp [hi]; simpa using hg
          have := List.length_pos_of_mem this
          omega
      refine ⟨?_, fin listed a' w' G' hall fr' hs' hd'⟩
      refine List.eq_nil_iff_forall_not_mem.2 fun j hj => ?_
      obtain ⟨hj1, hj2, _⟩ := ready_spec listed j hj
      have := hall j hj1
      simp only [Array.getD, hsz, hj1, dif_pos] at this hj2
      rw [this] at hj2
      cases hj2
    | succ fuel ih =>
      intro listed a' w' G' hsz hcnt hdc fr' hs' hd'
      refine ⟨fun hr => fin listed a' w' G' (all_ready listed hsz hr) fr' hs' hd', fun j hj => ?_⟩
      obtain ⟨hj1, hj2, o, ho, ha⟩ := ready_spec listed j hj
      obtain ⟨x, hx, hcx⟩ := hget j o ho
      have hgj : listed.getD j false = false := by
        simp only [Array.getD, hsz, hj1, dif_pos] at hj2 ⊢
        exact hj2
      have hg' : ∀ i, (listed.setIfInBounds j true).getD i false = if i = j then true else listed.getD i false := by
        intro i
        simp only [Array.getD_eq_getD_getElem?, Array.getElem?_setIfInBounds]
        by_cases hij : i = j
        · subst hij; simp [hsz, hj1]
        · simp [hij, Ne.symm hij]
      have hst := stepC (fun i => listed.getD i false) j o x hdc hgj ho ha hx _ hg'
      have hdc' : ∀ (i : Nat) o, ops.toList[i]? = some o → (listed.setIfInBounds j true).getD i false = true → ∀ q ∈ afters o, (listed.setIfInBounds j true).getD q false = true := by
        intro i o' ho' hi q hq
        rw [hg'] at hi ⊢
        split
        · rfl
        · split at hi
          · rename_i hij
            subst hij
            rw [ho] at ho'
            cases ho'
            exact ha q hq
          · exact hdc i o' ho' hi q hq
      have hcnt' : ((List.range xs.length).filter fun i => !(listed.setIfInBounds j true).getD i false).length ≤ fuel := by
        have hsub : ((List.range xs.length).filter fun i => !(listed.setIfInBounds j true).getD i false) = ((List.range xs.length).filter fun i => !listed.getD i false).filter fun i => i != j := by
          rw [List.filter_filter]
          congr 1
          funext i
          rw [hg']
          by_cases hij : i = j
          · simp [hij]
          · simp [hij]
        have hmem : j ∈ (List.range xs.length).filter fun i => !listed.getD i false := by
          simp only [List.mem_filter, List.mem_range, hj1, true_and, Bool.not_eq_true']
          exact hgj
        have : (((List.range xs.length).filter fun i => !listed.getD i false).filter fun i => i != j).length < ((List.range xs.length).filter fun i => !listed.getD i false).length := by
          apply List.length_filter_lt_length_iff_exists.2
          exact ⟨j, hmem, by simp⟩
        rw [hsub]
        omega
      have hoj : ops[j]? = some o := by rw [Array.getElem?_toList] at ho; exact ho
      unfold wpOp
      simp only [hoj]
      unfold stepX at hst
      cases hwt : wants x (C fun i => listed.getD i false).s with
      | none => rw [hwt] at hst; exact hst.elim
      | some b =>
        rw [hwt] at hst
        have hwo := wants_ok hcx fr'.slots hwt
        rw [hwo]
        cases b with
        | true =>
          simp only [if_true]
          refine .inl (Oper.wp_mono ?_ (runX_ok hcx fr' hst))
          rintro a'' w'' ⟨G'', st'', fr'', hs'', hd'', he⟩
          subst he
          exact ih (listed.setIfInBounds j true) a'' w'' G'' (by simpa using hsz) hcnt' hdc' fr'' (hs'.trans hs'') (hd''.trans hd')
        | false =>
          simp only [Bool.false_eq_true, if_false]
          obtain ⟨hd1, _, hd2, _⟩ := coper_parts hcx
          simp only at hst
          refine ih (listed.setIfInBounds j true) _ w' G' (by simpa using hsz) hcnt' hdc' ?_ ?_ (put_defers.trans hd')
          · rw [hst]
            refine ⟨fr'.inv, ?_, by rw [put_size]; exact fr'.size⟩
            rw [hd1]
            exact fr'.slots.put .skip fr'.size hd2
          · rw [hst]
            exact hs'
  have hrep : (fun i => (Array.replicate ops.size false).getD i false) = fun _ => false := by
    funext i
    simp only [Array.getD_eq_getD_getElem?, Array.getElem?_replicate]
    split <;> rfl
  refine count ops.size (Array.replicate ops.size false) a _ G (by simp [hN]) ?_ ?_ ?_ ?_ rfl
  · rw [hN]
    have := List.length_filter_le (fun i => !(Array.replicate xs.length false).getD i false) (List.range xs.length)
    simpa using this
  · intro i o ho hi
    have := congrFun hrep i
    rw [this] at hi
    cases hi
  · rw [hrep, hbegin]; exact frd
  · rw [hrep, hbegin]; exact hsd

end
end Ev
end Go.Proofs.Ytnkbhmafebngjaa
