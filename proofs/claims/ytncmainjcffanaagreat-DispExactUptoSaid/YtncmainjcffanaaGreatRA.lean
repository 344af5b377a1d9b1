/- Several texts in one. -/
import Derived.Test.YtncmainjcffanaaGreatBB
set_option maxRecDepth 100000
set_option linter.unusedSimpArgs false
set_option linter.unusedVariables false
/- TeleAgain. -/
namespace Go.Proofs.YtncmainjcffanaaGreat
namespace Ev
open Go
attribute [local simp] zac zag tk tn tks
end Ev
end Go.Proofs.YtncmainjcffanaaGreat
/- TeleScopes. -/
namespace Go.Proofs.YtncmainjcffanaaGreat
namespace Ev
open Go
attribute [local simp] zac zag tk tn tks
theorem zKu {t : T} {v : Int} (h0 : 0 ≤ v) (h1 : v ≤ 65536) (hn : zai t ≤ 4000000) : zmp t v 65536 = true ↔ zbp t = 0 ∧ wiT t v 65536 = true := by
  rw [zmp, if_neg (by omega), if_neg (by omega), if_neg (show ¬65536 < v by omega), zCx 65536 t v h0 (by omega)]
  by_cases h : zbp t = 0
  · rw [if_pos h]; simp [h]
  · rw [if_neg h]; simp [h]
theorem zA8 (l : List T) : (l.map zai).sum ≤ bulk (eTs l) := by
  have go : ∀ l : List T, (l.map zai).sum ≤ (l.map (bulk ∘ eT)).sum := by
    intro l
    induction l with
    | nil => simp
    | cons x xs ih =>
      have := zzf x
      simp only [List.map_cons, List.sum_cons, Function.comp] at ih ⊢
      omega
  have := go l
  simp only [eTs, bulk, List.map_map]
  omega
theorem zHh (k : Int) (l : List T) (t : T) : zai (zcm k l t) = (l.map zai).sum + l.length + zai t := by
  induction l with
  | nil => simp [zcm]
  | cons a l ih =>
    show zai (.mk k 0 [a, zcm k l t]) = _
    rw [zzu, ih, List.map_cons, List.sum_cons, List.length_cons]
    omega
theorem zJx {k c : Int} (hk : k = 4 ∨ k = 5) : ∀ (l : List T) (t : T) (v : Int), (∀ (i : Nat) (h : i < l.length), wiT l[i] (v + i) c = true) → wiT t (v + l.length) c = true → wiT (zcm k l t) v c = true
  | [], t, v, _, h => by simpa [zcm] using h
  | a :: l, t, v, h1, h2 => by
    show wiT (.mk k 0 [a, zcm k l t]) v c = true
    have b0 : zan k 0 = 0 := by rcases hk with rfl | rfl <;> rfl
    have b1 : zan k 1 = 1 := by rcases hk with rfl | rfl <;> rfl
    have ha := h1 0 (by simp)
    have hr := zJx hk l t (v + 1) (fun i hi => by
      have := h1 (i + 1) (by simpa using hi)
      simp only [List.getElem_cons_succ] at this
      rw [← this]
      congr 1
      omega) (by
      rw [List.length_cons] at h2
      rw [← h2]
      congr 1
      omega)
    simp only [List.getElem_cons_zero] at ha
    have ha' : wiT a v c = true := by rw [← ha]; congr 1; omega
    rw [wiT, if_neg (by omega), if_neg (by omega), if_neg (by omega)]
    simp only [wiL, Bool.and_true, Bool.and_eq_true]
    refine ⟨?_, ?_⟩
    · show wiT a (v + zan k 0) c = true
      rw [b0]
      simpa using ha'
    · show wiT (zcm k l t) (v + zan k 1) c = true
      rw [b1]
      exact hr
end Ev
end Go.Proofs.YtncmainjcffanaaGreat
/- TeleBack. -/
namespace Go.Proofs.YtncmainjcffanaaGreat
namespace Ev
open Go
attribute [local simp] zac zag tk tn tks
theorem zew : ∀ (l : List T) (t : T), okT t → (∀ x ∈ l, okT x) → okT (spT t l)
  | [], t, ht, _ => ht
  | a :: l, t, ht, h => zew l (.mk 6 0 [t, a]) (zPf ht (h a (by simp)) (by omega)) fun x hx => h x (by simp [hx])
theorem zNg {k n : Int} {a b : T} (hk : 0 ≤ k ∧ k ≤ 100000) (ha : okT a) (hb : okT b) (hn : 0 ≤ n ∧ n ≤ 100000) : okT (.mk k n [a, b]) :=
  .mk k n [a, b] (by simp only [n64]; omega) (by simp only [n64]; omega) (by simp) (by intro x hx; simp at hx; rcases hx with rfl | rfl <;> assumption)
theorem zwx {k : Int} (hk : 0 ≤ k ∧ k ≤ 100000) (t : T) (ht : okT t) : ∀ l : List T, (∀ x ∈ l, okT x) → okT (zcm k l t)
  | [], _ => ht
  | a :: l, h => zNg hk (h a (by simp)) (zwx hk t ht l fun x hx => h x (by simp [hx])) (by omega)
theorem zKw (l : List T) : ∀ t : T, zai (spT t l) = (l.map zai).sum + l.length + zai t := by
  induction l with
  | nil => intro t; simp [spT]
  | cons a l ih =>
    intro t
    have h := ih (.mk 6 0 [t, a])
    show zai (spT (.mk 6 0 [t, a]) l) = _
    rw [h, zzu, List.map_cons, List.sum_cons, List.length_cons]
    omega
theorem zwk {l : List T} (hb : (l.map zai).sum ≤ 1048576) (h : zfy l = false) : l.length ≤ 60 ∧ (∀ x ∈ l, zle x ≤ 300) ∧ (l.map zai).sum ≤ 9000 := by
  have hm : ∀ x ∈ l, zai x ≤ (l.map zai).sum := fun x hx => ze6 (List.mem_map.2 ⟨x, hx, rfl⟩)
  rw [zfy, Bool.or_eq_false_iff, Bool.or_eq_false_iff] at h
  obtain ⟨⟨h1, h2⟩, h3⟩ := h
  rw [zxy l 0 (by omega) (by omega) fun x hx => zI0 x (by have := hm x hx; omega)] at h3
  refine ⟨by simp at h1; omega, fun x hx => ?_, by simp at h3; omega⟩
  have := List.any_eq_false.1 h2 x hx
  rw [zGk x (by have := hm x hx; omega)] at this
  simp at this
  omega
end Ev
end Go.Proofs.YtncmainjcffanaaGreat
/- TeleParts. -/
namespace Go.Proofs.YtncmainjcffanaaGreat
namespace Ev
open Go
attribute [local simp] zac zag tk tn tks
end Ev
end Go.Proofs.YtncmainjcffanaaGreat
