/- Several texts in one. -/
import Derived.Test.YtdhfkbdhdgaccaaGreatBB
set_option maxRecDepth 100000
set_option linter.unusedSimpArgs false
set_option linter.unusedVariables false
/- TeleAgain. -/
namespace Go.Proofs.YtdhfkbdhdgaccaaGreat
namespace Ev
open Go
attribute [local simp] zae zaf tk tn tks
theorem zzd {k n : Int} {ks : List T} (hk : zdy k = 2) (h : zab (.mk k n ks) = true) : n = 0 ∧ ∃ a b, ks = [a, b] ∧ zab a = true ∧ zab b = true := by
  rw [zaz, hk] at h
  split at h
  · rename_i hl
    rw [if_neg (by omega)] at h
    split at h
    · rename_i h0
      match ks, hl with
      | [a, b], _ =>
        simp only [List.all_cons, List.all_nil, Bool.and_true, Bool.and_eq_true] at h
        exact ⟨h0, a, b, rfl, h⟩
      | [], hl => simp at hl
      | [_], hl => simp at hl
      | _ :: _ :: _ :: _, hl => simp at hl; omega
    · cases h
  · cases h
theorem zM0 (t : T) : zab t = true → spT (spH t) (spA t).reverse = t ∧ (spH t).kind ≠ 6 := by
  refine T.ind (p := fun t => zab t = true → spT (spH t) (spA t).reverse = t ∧ (spH t).kind ≠ 6) ?_ t
  intro k n ks ih hf
  by_cases hc : k = 6 ∧ ∃ a b, ks = [a, b]
  · obtain ⟨rfl, a, b, rfl⟩ := hc
    obtain ⟨rfl, a', b', e, hfa, hfb⟩ := zzd rfl hf
    cases e
    obtain ⟨h1, h2⟩ := ih a (by simp) hfa
    rw [(zey 0 a b).1, (zey 0 a b).2, List.reverse_cons, spT, List.foldl_append]
    refine ⟨?_, h2⟩
    rw [spT] at h1
    rw [h1]
    rfl
  · rw [(zdv hc).1, (zdv hc).2]
    refine ⟨rfl, fun h6 => hc ?_⟩
    have h6 : k = 6 := h6
    subst h6
    obtain ⟨_, a, b, e, _⟩ := zzd rfl hf
    exact ⟨rfl, a, b, e⟩
theorem zRs {l : List T} (hl : l.length ≤ 1000000) (h : ∀ x ∈ l, okT x) : okTs l := ⟨by omega, h⟩
end Ev
end Go.Proofs.YtdhfkbdhdgaccaaGreat
/- TeleScopes. -/
namespace Go.Proofs.YtdhfkbdhdgaccaaGreat
namespace Ev
open Go
attribute [local simp] zae zaf tk tn tks
theorem zpp {t : T} (h : zac t ≤ 1099511627776) : zaw t = 0 ↔ zac t ≤ 6000 ∧ za5 t ≤ 200 ∧ zab t = true := by
  rw [zaw, zAl _ h, zva _ h]
  by_cases h1 : (6000 : Int) < zac t
  · rw [if_pos h1]
    constructor
    · intro h; cases h
    · omega
  · rw [if_neg h1]
    by_cases h2 : (200 : Int) < za5 t
    · rw [if_pos h2]
      constructor
      · intro h; cases h
      · omega
    · rw [if_neg h2]
      cases zab t
      · simp
      · simp; omega
theorem zK0 {t : T} {v : Int} (h0 : 0 ≤ v) (h1 : v ≤ 65536) (hn : zac t ≤ 4000000) : zlr t v 65536 = true ↔ zaw t = 0 ∧ wiT t v 65536 = true := by
  rw [zlr, if_neg (by omega), if_neg (by omega), if_neg (show ¬65536 < v by omega), zB1 65536 t v h0 (by omega)]
  by_cases h : zaw t = 0
  · rw [if_pos h]; simp [h]
  · rw [if_neg h]; simp [h]
theorem zAh (l : List T) : (l.map zac).sum ≤ bulk (eTs l) := by
  have go : ∀ l : List T, (l.map zac).sum ≤ (l.map (bulk ∘ eT)).sum := by
    intro l
    induction l with
    | nil => simp
    | cons x xs ih =>
      have := zyh x
      simp only [List.map_cons, List.sum_cons, Function.comp] at ih ⊢
      omega
  have := go l
  simp only [eTs, bulk, List.map_map]
  omega
theorem zlh (k : Int) (l : List T) (t : T) : zac (zbu k l t) = (l.map zac).sum + l.length + zac t := by
  induction l with
  | nil => simp [zbu]
  | cons a l ih =>
    show zac (.mk k 0 [a, zbu k l t]) = _
    rw [zyw, ih, List.map_cons, List.sum_cons, List.length_cons]
    omega
theorem zDv {k c : Int} (hk : k = 4 ∨ k = 5) : ∀ (l : List T) (t : T) (v : Int), (∀ (i : Nat) (h : i < l.length), wiT l[i] (v + i) c = true) → wiT t (v + l.length) c = true → wiT (zbu k l t) v c = true
  | [], t, v, _, h => by simpa [zbu] using h
  | a :: l, t, v, h1, h2 => by
    show wiT (.mk k 0 [a, zbu k l t]) v c = true
    have b0 : zai k 0 = 0 := by rcases hk with rfl | rfl <;> rfl
    have b1 : zai k 1 = 1 := by rcases hk with rfl | rfl <;> rfl
    have ha := h1 0 (by simp)
    have hr := zDv hk l t (v + 1) (fun i hi => by
      have := h1 (i + 1) (by simpa using hi)
      simp only [List.getElem_cons_succ] at this
      rw [← this]
      congr 1
      omega) (by
      rw [List.length_cons] at h2
      rw [← h2]
      congr 1
      omega)
    simp only [List.getElem_cons_zero] at ha
    have ha' : wiT a v c = true := by rw [← ha]; congr 1; omega
    rw [wiT, if_neg (by omega), if_neg (by omega), if_neg (by omega)]
    simp only [wiL, Bool.and_true, Bool.and_eq_true]
    refine ⟨?_, ?_⟩
    · show wiT a (v + zai k 0) c = true
      rw [b0]
      simpa using ha'
    · show wiT (zbu k l t) (v + zai k 1) c = true
      rw [b1]
      exact hr
end Ev
end Go.Proofs.YtdhfkbdhdgaccaaGreat
/- TeleBack. -/
namespace Go.Proofs.YtdhfkbdhdgaccaaGreat
namespace Ev
open Go
attribute [local simp] zae zaf tk tn tks
theorem zPn (l : List T) (t : T) : piD (zbu 4 l t) = l ++ piD t ∧ piB (zbu 4 l t) = piB t := by
  induction l with
  | nil => simp [zbu]
  | cons a l ih =>
    show piD (.mk 4 0 [a, zbu 4 l t]) = _ ∧ piB (.mk 4 0 [a, zbu 4 l t]) = _
    rw [(zF2 _ _ _).1, (zF2 _ _ _).2, ih.1, ih.2]
    simp
theorem zP4 {t : T} (h : t.kind ≠ 4) : piD t = [] ∧ piB t = t := by
  obtain ⟨k, n, ks⟩ := t
  exact zK1 fun hc => h hc.1
theorem zkj : ∀ (l : List T) (t : T), okT t → (∀ x ∈ l, okT x) → okT (spT t l)
  | [], t, ht, _ => ht
  | a :: l, t, ht, h => zkj l (.mk 6 0 [t, a]) (zSi ht (h a (by simp)) (by omega)) fun x hx => h x (by simp [hx])
theorem zS2 {k n : Int} {a b : T} (hk : 0 ≤ k ∧ k ≤ 100000) (ha : okT a) (hb : okT b) (hn : 0 ≤ n ∧ n ≤ 100000) : okT (.mk k n [a, b]) :=
  .mk k n [a, b] (by simp only [n64]; omega) (by simp only [n64]; omega) (by simp) (by intro x hx; simp at hx; rcases hx with rfl | rfl <;> assumption)
theorem zzm {k : Int} (hk : 0 ≤ k ∧ k ≤ 100000) (t : T) (ht : okT t) : ∀ l : List T, (∀ x ∈ l, okT x) → okT (zbu k l t)
  | [], _ => ht
  | a :: l, h => zS2 hk (h a (by simp)) (zzm hk t ht l fun x hx => h x (by simp [hx])) (by omega)
theorem zd4 (l : List T) : ∀ t : T, zac (spT t l) = (l.map zac).sum + l.length + zac t := by
  induction l with
  | nil => intro t; simp [spT]
  | cons a l ih =>
    intro t
    have h := ih (.mk 6 0 [t, a])
    show zac (spT (.mk 6 0 [t, a]) l) = _
    rw [h, zyw, List.map_cons, List.sum_cons, List.length_cons]
    omega
theorem zvm {l : List T} (hb : (l.map zac).sum ≤ 1048576) (h : zfj l = false) : l.length ≤ 60 ∧ (∀ x ∈ l, za5 x ≤ 300) ∧ (l.map zac).sum ≤ 9000 := by
  have hm : ∀ x ∈ l, zac x ≤ (l.map zac).sum := fun x hx => zcg (List.mem_map.2 ⟨x, hx, rfl⟩)
  rw [zfj, Bool.or_eq_false_iff, Bool.or_eq_false_iff] at h
  obtain ⟨⟨h1, h2⟩, h3⟩ := h
  rw [zxl l 0 (by omega) (by omega) fun x hx => zAl x (by have := hm x hx; omega)] at h3
  refine ⟨by simp at h1; omega, fun x hx => ?_, by simp at h3; omega⟩
  have := List.any_eq_false.1 h2 x hx
  rw [zva x (by have := hm x hx; omega)] at this
  simp at this
  omega
end Ev
end Go.Proofs.YtdhfkbdhdgaccaaGreat
/- TeleParts. -/
namespace Go.Proofs.YtdhfkbdhdgaccaaGreat
namespace Ev
open Go
attribute [local simp] zae zaf tk tn tks
end Ev
end Go.Proofs.YtdhfkbdhdgaccaaGreat
