/- posit: a block with its last constructors left out. -/
import Derived.Test.YtjebpfhffenbnaaGreatO4
namespace Go.Proofs.YtjebpfhffenbnaaGreat
namespace Ev
open Go
set_option maxRecDepth 100000
set_option linter.unusedSimpArgs false
set_option linter.unusedVariables false
theorem allI_mono {α : Type} {p q : Nat → α → Bool} {l : List α} (h : ∀ (j : Nat) (hj : j < l.length), p j l[j] = true → q j l[j] = true) (hp : allI p 0 l = true) : allI q 0 l = true :=
  (allI_iff _ _ _).2 fun j hj => by
    have := (allI_iff _ _ _).1 hp j hj
    rw [Nat.zero_add] at this ⊢
    exact h j hj this
structure Few (b b' : Bl) (base : Int) (m : Int) : Prop where
  s : b'.sorts = b.sorts
  h0 : ∀ c, n64 c → (ofM b base c).1 = 0 → (ofM b' base c).1 = 0
  h4 : ∀ c, n64 c → (ofM b base c).1 = 4 → ofM b' base c = ofM b base c
  h5 : ∀ c, n64 c → (ofM b base c).1 = 5 → (ofM b base c).2 < m → ofM b' base c = ofM b base c
  c : ∀ j : Nat, (j : Int) < m → b'.cons[j]? = b.cons[j]?
theorem decG_few {b b' : Bl} {base m : Int} (F : Few b b' base m) {cl cl' : T → Bool} {args : List Ar} {more : Int} {t : T} (ot : okT t) (hcl : ∀ x, okT x → cl x = true → cl' x = true)
    (h : decG cl ⟨b, base, args, more⟩ t = true) : decG cl' ⟨b', base, args, more⟩ t = true := by
  obtain ⟨oH, oA⟩ := (spA_mem t).2 ot
  simp only [decG] at h ⊢
  by_cases h1 : (spH t).kind = 3
  case neg => rw [if_neg h1] at h; cases h
  rw [if_pos h1] at h ⊢
  by_cases h2 : (ofM b base (spH t).num).1 = 4
  case neg => rw [if_neg h2] at h; cases h
  rw [F.h4 _ oH.num64 h2, if_pos h2, F.s]
  rw [if_pos h2] at h
  cases hso : b.sorts[(ofM b base (spH t).num).2.toNat]? with
  | none => rw [hso] at h; cases h
  | some s =>
    rw [hso] at h
    dsimp only at h ⊢
    by_cases h3 : ((spA t).length : Int) = s.idx.length + 1
    case neg => rw [if_neg h3] at h; cases h
    rw [if_pos h3] at h ⊢
    cases hz : (spA t).reverse.getLast? with
    | none => rw [hz] at h; cases h
    | some z =>
      rw [hz] at h
      dsimp only at h ⊢
      simp only [Bool.and_eq_true, List.all_eq_true] at h ⊢
      obtain ⟨g1, g2, g3⟩ := h
      have oz : okT z := oA z (by have := List.mem_of_getLast? hz; simpa using this)
      exact ⟨g1, fun x hx => hcl x (oA x (by simpa using List.dropLast_subset _ hx)) (g2 x hx), fun x hx => hcl x (((spA_mem z).2 oz).2 x (by simpa using hx)) (g3 x hx)⟩
theorem clean_few {b b' : Bl} {base m : Int} (F : Few b b' base m) : ∀ (n : Nat) (args : List Ar) (more : Int) (t : T), okT t → cleanF n ⟨b, base, args, more⟩ t = true → cleanF n ⟨b', base, args, more⟩ t = true := by
  intro n
  induction n with
  | zero => intro args more t _ _; rfl
  | succ n ih =>
    intro args more t ot h
    rw [cleanF] at h ⊢
    by_cases h1 : t.kind = 1
    · rw [if_pos h1] at h ⊢; exact h
    rw [if_neg h1] at h ⊢
    by_cases h3 : t.kind = 3
    · rw [if_pos h3, decide_eq_true_eq] at h ⊢; exact F.h0 _ ot.num64 h
    rw [if_neg h3] at h ⊢
    by_cases h6 : t.kind = 6 ∧ decG (cleanF n ⟨b', base, args, more⟩) ⟨b', base, args, more⟩ t = true
    · rw [if_pos h6]
    rw [if_neg h6]
    by_cases h7 : t.kind = 6 ∧ decG (cleanF n ⟨b, base, args, more⟩) ⟨b, base, args, more⟩ t = true
    · exact absurd ⟨h7.1, decG_few F ot (fun x ox hx => ih args more x ox hx) h7.2⟩ h6
    rw [if_neg h7] at h
    exact allI_mono (fun j hj hx => ih args (more + bindsM t.kind j) _ (kid_ok ot (List.getElem_mem hj)) hx) h
theorem all_few {b b' : Bl} {base m : Int} (F : Few b b' base m) {n : Nat} {args : List Ar} {more : Int} {l : List T} (ol : ∀ x ∈ l, okT x) (h : l.all (cleanF n ⟨b, base, args, more⟩) = true) : l.all (cleanF n ⟨b', base, args, more⟩) = true := by
  simp only [List.all_eq_true] at h ⊢
  exact fun x hx => clean_few F n args more x (ol x hx) (h x hx)
theorem good_few {b b' : Bl} {base m : Int} (F : Few b b' base m) {cons : Int} (hc : cons ≤ m) : ∀ (n : Nat) (args : List Ar) (more : Int) (t : T), okT t → goodF n ⟨b, base, args, more⟩ t cons = true → goodF n ⟨b', base, args, more⟩ t cons = true := by
  intro n
  induction n with
  | zero => intro args more t _ _; rfl
  | succ n ih =>
    intro args more t ot h
    obtain ⟨oH, oA⟩ := (spA_mem t).2 ot
    have oR : ∀ x ∈ (spA t).reverse, okT x := fun x hx => oA x (by simpa using hx)
    rw [goodF] at h ⊢
    simp only [goodG] at h ⊢
    by_cases h1 : guardB ⟨b, base, args, more⟩ (spH t) = true
    · have h1' : guardB ⟨b', base, args, more⟩ (spH t) = true := h1
      have e : guardN ⟨b', base, args, more⟩ (spH t) = guardN ⟨b, base, args, more⟩ (spH t) := rfl
      rw [if_pos h1] at h
      rw [if_pos h1', e]
      cases ha : args[(guardN ⟨b, base, args, more⟩ (spH t)).toNat]? with
      | none => rw [ha] at h; cases h
      | some a =>
        rw [ha] at h
        dsimp only at h ⊢
        rw [Bool.and_eq_true] at h ⊢
        exact ⟨h.1, all_few F oR h.2⟩
    have h1' : ¬ guardB ⟨b', base, args, more⟩ (spH t) = true := h1
    rw [if_neg h1] at h
    rw [if_neg h1']
    by_cases h3 : (spH t).kind = 3
    case neg => rw [if_neg h3] at h; cases h
    rw [if_pos h3] at h ⊢
    by_cases h5 : (ofM b base (spH t).num).1 = 5
    case neg => rw [if_neg h5] at h; cases h
    rw [if_pos h5] at h
    by_cases h6 : (ofM b base (spH t).num).2 < cons
    case neg => rw [if_neg h6] at h; cases h
    rw [if_pos h6] at h
    obtain ⟨k0, _⟩ := of_kind (b := b) (base := base) (n := (spH t).num) (by omega)
    rw [F.h5 _ oH.num64 h5 (by omega), if_pos h5, if_pos h6, F.c _ (by omega)]
    cases hk : b.cons[(ofM b base (spH t).num).2.toNat]? with
    | none => rw [hk] at h; cases h
    | some k =>
      rw [hk] at h
      dsimp only at h ⊢
      by_cases h7 : (spA t).reverse.length = k.args.length
      case neg => rw [if_neg h7] at h; cases h
      rw [if_pos h7] at h ⊢
      refine allI_mono (fun j hj hx => ?_) h
      have hja : j < (spA t).reverse.length := by omega
      rw [List.getElem?_eq_getElem hja] at hx ⊢
      dsimp only at hx ⊢
      have ox := oR _ (List.getElem_mem hja)
      generalize (spA t).reverse[j] = x at *
      rw [fitA] at hx ⊢
      split at hx
      · rename_i hr
        rw [if_pos hr]
        split at hx
        · rename_i hd
          rw [if_pos hd]
          exact ih args more x ox hx
        · rename_i hd
          rw [if_neg hd]
          exact hx
      · rename_i hr
        rw [if_neg hr]
        exact clean_few F n args more x ox hx
theorem ind_few {b b' : Bl} {base m : Int} (F : Few b b' base m) {cons : Int} (hc : cons ≤ m) {n : Nat} {args : List Ar} {more : Int} {so : So} {l : List T} (ol : ∀ x ∈ l, okT x) (h : indF n ⟨b, base, args, more⟩ so l cons = true) :
    indF n ⟨b', base, args, more⟩ so l cons = true := by
  rw [indF] at h ⊢
  refine allI_mono (fun j hj hx => ?_) h
  cases hl : l[j]? with
  | none => rw [hl] at hx; cases hx
  | some x =>
    rw [hl] at hx
    dsimp only at hx ⊢
    have ox := ol x (List.mem_of_getElem? hl)
    split at hx
    · rename_i hr
      rw [if_pos hr]
      exact good_few F hc n args more x ox hx
    · rename_i hr
      rw [if_neg hr]
      exact clean_few F n args more x ox hx
theorem row_few {b b' : Bl} {base m : Int} (F : Few b b' base m) {cons : Int} (hc : cons ≤ m) {n : Nat} {l : List Ar} (ol : okArs l) (h : rowF n b base l cons = true) : rowF n b' base l cons = true := by
  rw [rowF] at h ⊢
  refine allI_mono (fun j hj hx => ?_) h
  have oa := ol.2 _ (List.getElem_mem hj)
  generalize l[j] = a at *
  rw [argF] at hx ⊢
  split at hx
  · rename_i hr
    rw [if_pos hr]
    rw [Bool.and_eq_true] at hx ⊢
    refine ⟨allI_mono (fun q hq hy => clean_few F n _ _ _ (oa.dom.2 _ (List.getElem_mem hq)) hy) hx.1, ?_⟩
    rw [F.s]
    have h2 := hx.2
    cases hs : b.sorts[a.sort.toNat]? with
    | none => rw [hs] at h2; cases h2
    | some so =>
      rw [hs] at h2
      dsimp only at h2 ⊢
      exact ind_few F hc oa.idx.2 h2
  · rename_i hr
    rw [if_neg hr]
    exact clean_few F n _ _ _ oa.ty hx
theorem of_four {b : Bl} {base n : Int} (h : (ofM b base n).1 = 4) : ∃ k : Nat, k < b.sorts.length ∧ decoder b base k = n ∧ ofM b base n = (4, (k : Int)) := by
  have h0 := h
  rw [ofM] at h
  split at h
  · cases h
  rename_i hc
  cases hs : seek n (tab b base) with
  | none => rw [hs] at h; cases h
  | some q =>
    obtain ⟨e, he, k, hk, hn, rfl⟩ := seek_some hs
    rw [hs] at h
    simp only [Option.getD_some] at h
    have e0 : ofM b base n = (e.kind, (k : Int)) := by rw [ofM, if_neg hc, hs]; rfl
    rw [h] at e0
    simp only [tab, List.mem_cons, List.not_mem_nil, or_false] at he
    rcases he with rfl | rfl | rfl | rfl
    · cases h
    · exact ⟨k, hk, hn, e0⟩
    · cases h
    · cases h
theorem of_five {b : Bl} {base n : Int} (h : (ofM b base n).1 = 5) : ∃ k : Nat, k < b.cons.length ∧ constructor_ b base k = n ∧ ofM b base n = (5, (k : Int)) := by
  have h0 := h
  rw [ofM] at h
  split at h
  · cases h
  rename_i hc
  cases hs : seek n (tab b base) with
  | none => rw [hs] at h; cases h
  | some q =>
    obtain ⟨e, he, k, hk, hn, rfl⟩ := seek_some hs
    rw [hs] at h
    simp only [Option.getD_some] at h
    have e0 : ofM b base n = (e.kind, (k : Int)) := by rw [ofM, if_neg hc, hs]; rfl
    rw [h] at e0
    simp only [tab, List.mem_cons, List.not_mem_nil, or_false] at he
    rcases he with rfl | rfl | rfl | rfl
    · cases h
    · cases h
    · exact ⟨k, hk, hn, e0⟩
    · cases h
end Ev
end Go.Proofs.YtjebpfhffenbnaaGreat
