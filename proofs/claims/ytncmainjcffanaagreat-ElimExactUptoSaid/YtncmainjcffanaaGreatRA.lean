/- Several texts in one. -/
import Derived.Test.YtncmainjcffanaaGreatBB
set_option maxRecDepth 100000
set_option linter.unusedSimpArgs false
set_option linter.unusedVariables false
open List renaming length_cons→yaS,map_cons→yaV,sum_cons→ybZ
open Bool renaming or_eq_false_iff→ycx
/- TeleAgain. -/
namespace Go.Proofs.YtncmainjcffanaaGreat
namespace Ev
open Go
attribute [local simp] zaf zag tk tn tks
theorem zVp {l:List T} (hl:l.length≤1000000) (h:∀ x ∈ l,okT x):okTs l:=⟨by omega,h⟩
end Ev
end Go.Proofs.YtncmainjcffanaaGreat
/- TeleScopes. -/
namespace Go.Proofs.YtncmainjcffanaaGreat
namespace Ev
open Go
attribute [local simp] zaf zag tk tn tks
theorem zNf {t:T} {v:Int} (h0:0≤v) (h1:v≤65536) (hn:zae t≤4000000):zni t v 65536=true ↔ za0 t=0∧wiT t v 65536=true:=by
  rw [zni,if_neg (by omega),if_neg (by omega),if_neg (show ¬65536<v by omega),zGx 65536 t v h0 (by omega)]
  by_cases h:za0 t=0
  · rw [if_pos h]; simp [h]
  · rw [if_neg h]; simp [h]
theorem zC0 (l:List T):(l.map zae).sum≤bulk (eTs l):=by
  have go:∀ l:List T,(l.map zae).sum≤(l.map (bulk ∘ eT)).sum:=by
    intro l
    induction l with
    | nil=>simp
    | cons x xs ih =>
      have:=zCa x
      simp only [yaV,ybZ,Function.comp] at ih ⊢
      omega
  have:=go l
  simp only [eTs,bulk,List.map_map]
  omega
theorem zLt (k:Int) (l:List T) (t:T):zae (zcq k l t)=(l.map zae).sum+l.length+zae t:=by
  induction l with
  | nil=>simp [zcq]
  | cons a l ih =>
    show zae (.mk k 0 [a,zcq k l t])=_
    rw [zCg,ih,yaV,ybZ,yaS]
    omega
theorem zNw {k c:Int} (hk:k=4∨k=5):∀ (l:List T) (t:T) (v:Int),(∀ (i:Nat) (h:i<l.length),wiT l[i] (v+i) c=true)→wiT t (v+l.length) c=true→wiT (zcq k l t) v c=true
  | [],t,v,_,h=>by simpa [zcq] using h
  | a :: l,t,v,h1,h2=>by
    show wiT (.mk k 0 [a,zcq k l t]) v c=true
    have b0:zak k 0=0:=by rcases hk with rfl | rfl <;> rfl
    have b1:zak k 1=1:=by rcases hk with rfl | rfl <;> rfl
    have ha:=h1 0 (by simp)
    have hr:=zNw hk l t (v+1) (fun i hi=>by
      have:=h1 (i+1) (by simpa using hi)
      simp only [List.getElem_cons_succ] at this
      rw [← this]
      congr 1
      omega) (by
      rw [yaS] at h2
      rw [← h2]
      congr 1
      omega)
    simp only [List.getElem_cons_zero] at ha
    have ha':wiT a v c=true:=by rw [← ha]; congr 1; omega
    rw [wiT,if_neg (by omega),if_neg (by omega),if_neg (by omega)]
    simp only [wiL,Bool.and_true,Bool.and_eq_true]
    refine ⟨?_,?_⟩
    · show wiT a (v+zak k 0) c=true
      rw [b0]
      simpa using ha'
    · show wiT (zcq k l t) (v+zak k 1) c=true
      rw [b1]
      exact hr
end Ev
end Go.Proofs.YtncmainjcffanaaGreat
/- TeleBack. -/
namespace Go.Proofs.YtncmainjcffanaaGreat
namespace Ev
open Go
attribute [local simp] zaf zag tk tn tks
theorem zUv (l:List T) (t:T):piD (zcq 4 l t)=l ++ piD t∧piB (zcq 4 l t)=piB t:=by
  induction l with
  | nil=>simp [zcq]
  | cons a l ih =>
    show piD (.mk 4 0 [a,zcq 4 l t])=_∧piB (.mk 4 0 [a,zcq 4 l t])=_
    rw [(zJm _ _ _).1,(zJm _ _ _).2,ih.1,ih.2]
    simp
theorem zTw {t:T} (h:t.kind ≠ 4):piD t=[]∧piB t=t:=by
  obtain ⟨k,n,ks⟩:=t
  exact zMu fun hc=>h hc.1
theorem zez:∀ (l:List T) (t:T),okT t→(∀ x ∈ l,okT x)→okT (spT t l)
  | [],t,ht,_=>ht
  | a :: l,t,ht,h=>zez l (.mk 6 0 [t,a]) (zV4 ht (h a (by simp)) (by omega)) fun x hx=>h x (by simp [hx])
theorem zUb {k n:Int} {a b:T} (hk:0≤k∧k≤100000) (ha:okT a) (hb:okT b) (hn:0≤n∧n≤100000):okT (.mk k n [a,b]) :=
  .mk k n [a,b] (by simp only [n64]; omega) (by simp only [n64]; omega) (by simp) (by intro x hx; simp at hx; rcases hx with rfl | rfl <;> assumption)
theorem zyr {k:Int} (hk:0≤k∧k≤100000) (t:T) (ht:okT t):∀ l:List T,(∀ x ∈ l,okT x)→okT (zcq k l t)
  | [],_=>ht
  | a :: l,h=>zUb hk (h a (by simp)) (zyr hk t ht l fun x hx=>h x (by simp [hx])) (by omega)
theorem zNv (l:List T):∀ t:T,zae (spT t l)=(l.map zae).sum+l.length+zae t:=by
  induction l with
  | nil=>intro t; simp [spT]
  | cons a l ih =>
    intro t
    have h:=ih (.mk 6 0 [t,a])
    show zae (spT (.mk 6 0 [t,a]) l)=_
    rw [h,zCg,yaV,ybZ,yaS]
    omega
theorem zyq {l:List T} (hb:(l.map zae).sum≤1048576) (h:zga l=false):l.length≤60∧(∀ x ∈ l,zbx x≤300)∧(l.map zae).sum≤9000:=by
  have hm:∀ x ∈ l,zae x≤(l.map zae).sum:=fun x hx=>zdn (List.mem_map.2 ⟨x,hx,rfl⟩)
  rw [zga,ycx,ycx] at h
  obtain ⟨⟨h1,h2⟩,h3⟩:=h
  rw [zzu l 0 (by omega) (by omega) fun x hx=>zIy x (by have:=hm x hx; omega)] at h3
  refine ⟨by simp at h1; omega,fun x hx=>?_,by simp at h3; omega⟩
  have:=List.any_eq_false.1 h2 x hx
  rw [zEn x (by have:=hm x hx; omega)] at this
  simp at this
  omega
end Ev
end Go.Proofs.YtncmainjcffanaaGreat
/- TeleParts. -/
namespace Go.Proofs.YtncmainjcffanaaGreat
namespace Ev
open Go
attribute [local simp] zaf zag tk tn tks
theorem zL8 (l:List T) (h:okTs l):OwnC Tryz.prog zbd [eTs l] [.one (.row 3 (l.map eT) false)]:=by
  refine zu9 rfl fun hs=>?_
  have hl:=h.1
  simp -dsimp [zef,eTs]
  refine zah l.length (fun i st=>st.s 0 = .d (.sl 3 (l.map eT))∧st.s 4 = .d (.int .i64 i) ∧ ∃ v,st.s 3 = .rsl 3 v∧st.h 3=⟨v,.row 3 ((l.map eT).take i) false⟩) ?_ ?_
  · simp -dsimp
  · rintro i ⟨s,hp⟩ hi ⟨g1,g2,v,g3,g4⟩
    dsimp only at g1 g2 g3 g4
    rcases Nat.lt_or_ge i l.length with hlt | hge
    · have w1:IntKind.i64.wrap ((i:Int)+1)=(i:Int)+1:=zab (by omega) (by omega)
      simp -dsimp [g1,g2,g3,g4,hlt,cT]
      refine zaa (zir l[i] (h.2 _ (List.getElem_mem _))) ?_
      have hr:(min i l.length+1)*40≤zad:=by simp only [zad]; omega
      have hn:=zkk eT cT za4 l i hlt
      simp only [cT] at hn
      simp -dsimp [g1,g2,g3,g4,hlt,cT,hr,hn,w1]
    · have e:i=l.length:=by omega
      subst e
      simp -dsimp [g1,g2,g3,g4]
      exact List.take_of_length_le (by simp)
end Ev
end Go.Proofs.YtncmainjcffanaaGreat
