/- Several texts in one. -/
import Derived.Test.YtncmainjcffanaaGreatBB
set_option maxRecDepth 100000
set_option linter.unusedSimpArgs false
set_option linter.unusedVariables false
open Bool renaming or_eq_false_iff→ycx
/- TeleAgain. -/
namespace Go.Proofs.YtncmainjcffanaaGreat
namespace Ev
open Go
attribute [local simp] zaf zai tk tn tks
end Ev
end Go.Proofs.YtncmainjcffanaaGreat
/- TeleScopes. -/
namespace Go.Proofs.YtncmainjcffanaaGreat
namespace Ev
open Go
attribute [local simp] zaf zai tk tn tks
theorem zu2 {t:T} (h:zac t≤1099511627776):zam t=0 ↔ zac t≤6000∧za7 t≤200∧zab t=true:=by
  rw [zam,ztw _ h,zqq _ h]
  by_cases h1:(6000:Int)<zac t
  · rw [if_pos h1]
    constructor
    · intro h; cases h
    · omega
  · rw [if_neg h1]
    by_cases h2:(200:Int)<za7 t
    · rw [if_pos h2]
      constructor
      · intro h; cases h
      · omega
    · rw [if_neg h2]
      cases zab t
      · simp
      · simp; omega
theorem zm6 (l:List T):(l.map zac).sum≤bulk (eTs l):=by
  have go:∀ l:List T,(l.map zac).sum≤(l.map (bulk ∘ eT)).sum:=by
    intro l
    induction l with
    | nil=>simp
    | cons x xs ih =>
      have:=zm1 x
      simp only [List.map_cons,List.sum_cons,Function.comp] at ih ⊢
      omega
  have:=go l
  simp only [eTs,bulk,List.map_map]
  omega
end Ev
end Go.Proofs.YtncmainjcffanaaGreat
/- TeleBack. -/
namespace Go.Proofs.YtncmainjcffanaaGreat
namespace Ev
open Go
attribute [local simp] zaf zai tk tn tks
theorem zr1:∀ (l:List T) (t:T),okT t→(∀ x ∈ l,okT x)→okT (spT t l)
  | [],t,ht,_=>ht
  | a :: l,t,ht,h=>zr1 l (.mk 6 0 [t,a]) (zLc ht (h a (by simp)) (by omega)) fun x hx=>h x (by simp [hx])
theorem okT_k {k n:Int} {a b:T} (hk:0≤k∧k≤100000) (ha:okT a) (hb:okT b) (hn:0≤n∧n≤100000):okT (.mk k n [a,b]) :=
  .mk k n [a,b] (by simp only [n64]; omega) (by simp only [n64]; omega) (by simp) (by intro x hx; simp at hx; rcases hx with rfl | rfl <;> assumption)
theorem zBb {k:Int} (hk:0≤k∧k≤100000) (t:T) (ht:okT t):∀ l:List T,(∀ x ∈ l,okT x)→okT (zku k l t)
  | [],_=>ht
  | a :: l,h=>okT_k hk (h a (by simp)) (zBb hk t ht l fun x hx=>h x (by simp [hx])) (by omega)
theorem zk1 {l:List T} (hb:(l.map zac).sum≤1048576) (h:zc8 l=false):l.length≤60∧(∀ x ∈ l,za7 x≤300)∧(l.map zac).sum≤9000:=by
  have hm:∀ x ∈ l,zac x≤(l.map zac).sum:=fun x hx=>zf4 (List.mem_map.2 ⟨x,hx,rfl⟩)
  rw [zc8,ycx,ycx] at h
  obtain ⟨⟨h1,h2⟩,h3⟩:=h
  rw [zs7 l 0 (by omega) (by omega) fun x hx=>ztw x (by have:=hm x hx; omega)] at h3
  refine ⟨by simp at h1; omega,fun x hx=>?_,by simp at h3; omega⟩
  have:=List.any_eq_false.1 h2 x hx
  rw [zqq x (by have:=hm x hx; omega)] at this
  simp at this
  omega
end Ev
end Go.Proofs.YtncmainjcffanaaGreat
/- TeleParts. -/
namespace Go.Proofs.YtncmainjcffanaaGreat
namespace Ev
open Go
attribute [local simp] zaf zai tk tn tks
end Ev
end Go.Proofs.YtncmainjcffanaaGreat
