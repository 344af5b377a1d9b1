/- Several texts in one. -/
import Derived.Test.YtncmainjcffanaaGreatX
import Derived.Test.YtncmainjcffanaaGreatEE
set_option maxRecDepth 100000
set_option linter.unusedSimpArgs false
set_option linter.unusedVariables false
/- Terms, arguments, sorts, constructors, blocks as data. -/
namespace Go.Proofs.YtncmainjcffanaaGreat
namespace Ev
open Go
inductive T where
  | mk (kind num : Int) (kids : List T)
def T.kind : T → Int | .mk k _ _ => k
def T.num : T → Int | .mk _ n _ => n
def T.kids : T → List T | .mk _ _ ks => ks
def eT : T → D
  | .mk k n ks => .agg [.int .i64 k, .int .i64 n, .sl 3 (ks.map eT)]
def cT (t : T) : List D := [.int .i64 t.kind, .int .i64 t.num, .sl 3 (t.kids.map eT)]
theorem zbq (t : T) : eT t = .agg (cT t) := by cases t; rw [eT]; rfl
@[simp] theorem zp4 (t : T) : (eT t).cells = cT t := by rw [zbq]; rfl
def eTs (l : List T) : D := .sl 3 (l.map eT)
theorem T.ind {p : T → Prop} (h : ∀ k n ks, (∀ x ∈ ks, p x) → p (.mk k n ks)) : ∀ t, p t
  | .mk k n ks => h k n ks fun x _ => T.ind h x
structure Ar where
  rc : Bool
  ty : T
  dom : List T
  sort : Int
  idx : List T
def cAr (a : Ar) : List D := .bool a.rc :: cT a.ty ++ [eTs a.dom, .int .i64 a.sort, eTs a.idx]
def eAr (a : Ar) : D := .agg (cAr a)
def eArs (l : List Ar) : D := .sl 7 (l.map eAr)
structure So where
  idx : List Ar
  level : Int
  dec : Bool
  dty : T
def cSo (s : So) : List D := [eArs s.idx, .int .i64 s.level, .bool s.dec] ++ cT s.dty
def eSo (s : So) : D := .agg (cSo s)
def eSos (l : List So) : D := .sl 6 (l.map eSo)
structure Co where
  sort : Int
  args : List Ar
  idx : List T
  dec : T
def cCo (c : Co) : List D := [.int .i64 c.sort, eArs c.args, eTs c.idx] ++ cT c.dec
def eCo (c : Co) : D := .agg (cCo c)
def eCos (l : List Co) : D := .sl 6 (l.map eCo)
structure Bl where
  sorts : List So
  cons : List Co
  elim : Int
def cBl (b : Bl) : List D := [eSos b.sorts, eCos b.cons, .int .i64 b.elim]
def eBl (b : Bl) : D := .agg (cBl b)
def w64 (n : Int) : Int := IntKind.i64.wrap n
end Ev
end Go.Proofs.YtncmainjcffanaaGreat
/- Sizes and depths of terms; what is played. -/
namespace Go.Proofs.YtncmainjcffanaaGreat
namespace Ev
open Go
def zhn : T → Int
  | .mk _ _ ks => (ks.map zhn).foldl (fun a s => w64 (a + s)) 1
def mx (a b : Int) : Int := if a < b then b else a
def zd7 : T → Int
  | .mk _ _ ks => w64 ((ks.map zd7).foldl mx 0 + 1)
theorem zja {t : T} (h : ∀ d ∈ [D.agg (cT t)], small 8 d) : t.kids.length ≤ 9223372036854775807 := by
  have := h (D.agg (cT t)) (by simp)
  simp -dsimp [cT, small] at this
  exact this.1
theorem zdd {α : Type} {l : List α} {i : Nat} {x : α} (h : l[i]? = some x) : l.take (i + 1) = l.take i ++ [x] := by simp -dsimp [List.take_add_one, h]
theorem zqc {α β : Type} (f : β → α → β) (b : β) (l : List α) (i : Nat) (x : α) (h : l[i]? = some x) : (l.take (i + 1)).foldl f b = f ((l.take i).foldl f b) x := by
  rw [zdd h, List.foldl_append]; rfl
theorem zJb (t : T) : Pure Tryz.prog zcp [.agg (cT t)] [.int .i64 (zhn t)] := by
  refine T.ind (p := fun t => Pure Tryz.prog zcp [.agg (cT t)] [.int .i64 (zhn t)]) ?_ t
  intro k n ks ih
  refine ztg rfl fun hs => ?_
  have hl := zja hs
  simp -dsimp [T.kids] at hl
  simp -dsimp [zh2, cT, T.kind, T.num, T.kids]
  refine zaj ks.length (fun i st => st.s 1 = .ptr 1 1 0 ∧ st.h 1 = ⟨1, .box [.d (.int .i64 k), .d (.int .i64 n), .d (.sl 3 (ks.map eT))] false⟩ ∧ st.s 4 = .d (.int .i64 i) ∧ st.s 3 = .d (.int .i64 (((ks.map zhn).take i).foldl (fun a s => w64 (a + s)) 1))) ?_ ?_
  · simp
  · rintro i ⟨s, hp⟩ hi ⟨h1, h2, h3, h4⟩
    dsimp only at h1 h2 h3 h4
    rcases Nat.lt_or_ge i ks.length with hlt | hge
    · have w1 : IntKind.i64.wrap ((i : Int) + 1) = (i : Int) + 1 := zab (by omega) (by omega)
      simp -dsimp [h1, h2, h3, h4, hlt, cT]
      refine zaa (ih ks[i] (List.getElem_mem _)) ?_
      have hf := zqc (fun a s => w64 (a + s)) 1 (ks.map zhn) i (zhn ks[i]) (by simp [hlt])
      simp -dsimp [h1, h2, h3, h4, hlt, w1, hf]
      rfl
    · have e : i = ks.length := by omega
      subst e
      have ht : (ks.map zhn).take ks.length = ks.map zhn := List.take_of_length_le (by simp)
      simp -dsimp [h1, h2, h3, h4, zhn, ht]
theorem zFz (l : List Int) (i : Nat) (x : Int) (h : l[i]? = some x) : (l.take (i + 1)).foldl mx 0 = mx ((l.take i).foldl mx 0) x := zqc _ _ _ _ _ h
theorem zFp (t : T) : Pure Tryz.prog zca [.agg (cT t)] [.int .i64 (zd7 t)] := by
  refine T.ind (p := fun t => Pure Tryz.prog zca [.agg (cT t)] [.int .i64 (zd7 t)]) ?_ t
  intro k n ks ih
  refine zr2 rfl fun hs => ?_
  have hl := zja hs
  simp [T.kids] at hl
  simp -dsimp [zg0, cT, T.kind, T.num, T.kids]
  refine zaj ks.length (fun i st => st.s 1 = .ptr 1 1 0 ∧ st.h 1 = ⟨1, .box [.d (.int .i64 k), .d (.int .i64 n), .d (.sl 3 (ks.map eT))] false⟩ ∧ st.s 4 = .d (.int .i64 i) ∧ st.s 3 = .d (.int .i64 (((ks.map zd7).take i).foldl mx 0))) ?_ ?_
  · simp -dsimp
  · rintro i ⟨s, hp⟩ hi ⟨h1, h2, h3, h4⟩
    dsimp only at h1 h2 h3 h4
    rcases Nat.lt_or_ge i ks.length with hlt | hge
    · have w1 : IntKind.i64.wrap ((i : Int) + 1) = (i : Int) + 1 := zab (by omega) (by omega)
      simp -dsimp [h1, h2, h3, h4, hlt, cT]
      refine zaa (ih ks[i] (List.getElem_mem _)) ?_
      have hf := zFz (ks.map zd7) i (zd7 ks[i]) (by simp [hlt])
      simp -dsimp [h1, h2, h3, h4, hlt, w1, hf]
      rfl
    · have e : i = ks.length := by omega
      subst e
      have ht : (ks.map zd7).take ks.length = ks.map zd7 := List.take_of_length_le (by simp)
      simp -dsimp [h1, h2, h3, h4, zd7, ht]
      rfl
def zfy (l : List T) : Bool := decide ((60 : Int) < (l.length : Int)) || l.any (fun t => decide (300 < zd7 t)) || decide (9000 < (l.map zhn).foldl (fun a s => w64 (a + s)) 0)
theorem zp5 (l : List T) : Pure Tryz.prog zbc [eTs l] [.bool (zfy l)] := by
  refine zrh rfl fun hs => ?_
  simp -dsimp [zhg, eTs]
  (first | refine zal ?_ ?_ | refine zam ?_ ?_) <;> intro h1 <;> (try simp only [nrm] at h1) <;> simp -dsimp [h1, zfy]
  have hl : l.length ≤ 60 := by omega
  refine zaj l.length (fun i st => st.s 0 = .d (.sl 3 (l.map eT)) ∧ st.s 4 = .d (.int .i64 i) ∧ st.s 3 = .d (.int .i64 (((l.map zhn).take i).foldl (fun a s => w64 (a + s)) 0)) ∧ (l.take i).any (fun t => decide (300 < zd7 t)) = false) ?_ ?_
  · simp -dsimp
  · rintro i ⟨s, hp⟩ hi ⟨h2, h3, h4, h5⟩
    dsimp only at h2 h3 h4 h5
    rcases Nat.lt_or_ge i l.length with hlt | hge
    · have w1 : IntKind.i64.wrap ((i : Int) + 1) = (i : Int) + 1 := zab (by omega) (by omega)
      simp -dsimp [h2, h3, h4, hlt, cT]
      refine zaa (zFp l[i]) ?_
      simp -dsimp [h2, h3, h4, hlt]
      (first | refine zal ?_ ?_ | refine zam ?_ ?_) <;> intro h6 <;> (try simp only [nrm] at h6) <;> simp -dsimp [h6, zfy]
      · exact .inl (.inr ⟨l[i], List.getElem_mem _, h6⟩)
      · simp -dsimp [h2, h3, h4, hlt, h6, cT]
        refine zaa (zJb l[i]) ?_
        have hf := zqc (fun a s => w64 (a + s)) 0 (l.map zhn) i (zhn l[i]) (by simp [hlt])
        have h7 : (l.take (i + 1)).any (fun t => decide (300 < zd7 t)) = false := by
          rw [zdd (List.getElem?_eq_getElem hlt), List.any_append, h5]
          simp [h6]
        simp -dsimp [h2, h3, h4, hlt, w1, hf]
        exact ⟨rfl, by simpa using h7⟩
    · have e : i = l.length := by omega
      subst e
      have ht : (l.map zhn).take l.length = l.map zhn := List.take_of_length_le (by simp)
      simp -dsimp [h2, h3, h4, zfy, ht]
      rintro (h | ⟨x, hx, h⟩)
      · exact absurd h h1
      · rw [List.take_length] at h5
        have := List.any_eq_false.1 h5 x hx
        simp at this
        omega
end Ev
end Go.Proofs.YtncmainjcffanaaGreat
/- Kinds. -/
namespace Go.Proofs.YtncmainjcffanaaGreat
namespace Ev
open Go
theorem zac (h : Nat → Ent) (n : Nat) (cs : List D) : allD (toD h n) (cs.map .d) = some cs := by
  induction cs with
  | nil => rfl
  | cons c cs ih => simp only [List.map_cons, allD, zz6, ih]
theorem zag (h : Nat → Ent) (cs : List D) : sks h (cs.map .d) = [] := by
  induction cs with
  | nil => rfl
  | cons c cs ih => simp only [List.map_cons, sks, sk_d, ih, List.nil_append]
def isM (k : Int) : Bool := decide (1 ≤ k) && decide (k ≤ 13)
theorem is_ok (k : Int) : Pure Tryz.prog zxk [.int .i64 k] [.bool (isM k)] := by
  refine zLv rfl fun hs => ?_
  simp -dsimp [zyt]
  (first | refine zal ?_ ?_ | refine zam ?_ ?_) <;> intro h1 <;> (try simp only [nrm] at h1) <;> simp -dsimp [h1, isM]
def zho (k : Int) : Int :=
  if k = 1 then 0 else if k = 2 then 0 else if k = 3 then 0 else if k = 9 then 1 else if k = 10 then 1 else if k = 8 then 3 else if k = 11 then 3 else if k = 13 then 3 else if isM k then 2 else -1
theorem zPm (k : Int) : Pure Tryz.prog zr0 [.int .i64 k] [.int .i64 (zho k)] := by
  refine zEo rfl fun hs => ?_
  simp -dsimp [zq4]
  (first | refine zal ?_ ?_ | refine zam ?_ ?_) <;> intro h1 <;> (try simp only [nrm] at h1) <;> simp -dsimp [h1, zho]
  (first | refine zal ?_ ?_ | refine zam ?_ ?_) <;> intro h2 <;> (try simp only [nrm] at h2) <;> simp -dsimp [h2, zho, h1]
  (first | refine zal ?_ ?_ | refine zam ?_ ?_) <;> intro h3 <;> (try simp only [nrm] at h3) <;> simp -dsimp [h3, zho, h1, h2]
  (first | refine zal ?_ ?_ | refine zam ?_ ?_) <;> intro h4 <;> (try simp only [nrm] at h4) <;> simp -dsimp [h4, zho, h1, h2, h3]
  (first | refine zal ?_ ?_ | refine zam ?_ ?_) <;> intro h5 <;> (try simp only [nrm] at h5) <;> simp -dsimp [h5, zho, h1, h2, h3, h4]
  (first | refine zal ?_ ?_ | refine zam ?_ ?_) <;> intro h6 <;> (try simp only [nrm] at h6) <;> simp -dsimp [h6, zho, h1, h2, h3, h4, h5]
  (first | refine zal ?_ ?_ | refine zam ?_ ?_) <;> intro h7 <;> (try simp only [nrm] at h7) <;> simp -dsimp [h7, zho, h1, h2, h3, h4, h5, h6]
  (first | refine zal ?_ ?_ | refine zam ?_ ?_) <;> intro h8 <;> (try simp only [nrm] at h8) <;> simp -dsimp [h8, zho, h1, h2, h3, h4, h5, h6, h7]
  refine zaa (is_ok k) ?_
  simp -dsimp
  (first | refine zal ?_ ?_ | refine zam ?_ ?_) <;> intro h9 <;> (try simp only [nrm] at h9) <;> simp -dsimp [h9, zho, h1, h2, h3, h4, h5, h6, h7, h8]
def idxI (n : Int) (l : List Int) : Int := match l.findIdx? (fun x => n == x) with
  | some i => i
  | none => -1
theorem zDb (l : List Int) (n : Int) : Pure Tryz.prog zie [.sl 1 (l.map (.int .i64)), .int .i64 n] [.int .i64 (idxI n l)] := by
  refine zs0 rfl fun hs => ?_
  have hl := hs (.sl 1 (l.map (.int .i64))) (by simp)
  simp [small] at hl
  simp -dsimp [zh6]
  refine zaj l.length (fun i st => st.s 0 = .d (.sl 1 (l.map (.int .i64))) ∧ st.s 1 = .d (.int .i64 n) ∧ st.s 7 = .d (.int .i64 l.length) ∧ st.s 8 = .d (.int .i64 i) ∧ ∀ x ∈ l.take i, (n == x) = false) ?_ ?_
  · simp -dsimp
  · rintro i ⟨s, hp⟩ hi ⟨h1, h2, h3, h4, h5⟩
    dsimp only at h1 h2 h3 h4 h5
    rcases Nat.lt_or_ge i l.length with hlt | hge
    · have w1 : IntKind.i64.wrap ((i : Int) + 1) = (i : Int) + 1 := zab (by omega) (by omega)
      simp -dsimp [h1, h2, h3, h4, hlt]
      (first | refine zal ?_ ?_ | refine zam ?_ ?_) <;> intro h6 <;> (try simp only [nrm] at h6) <;> simp -dsimp [h6, h1, h2, h3, h4, hlt, w1]
      · have : l.findIdx? (fun x => n == x) = some i := by
          rw [List.findIdx?_eq_some_iff_getElem]
          refine ⟨hlt, by simpa using h6, fun j hj => ?_⟩
          have := h5 l[j] (by rw [List.mem_take_iff_getElem]; exact ⟨j, by omega, rfl⟩)
          simpa using this
        rw [← h6]
        simp only [idxI, this]
      · intro x hx
        rw [zdd (List.getElem?_eq_getElem hlt), List.mem_append] at hx
        rcases hx with hx | hx
        · simpa using h5 x hx
        · simp at hx; subst hx; exact h6
    · have e : i = l.length := by omega
      subst e
      rw [List.take_length] at h5
      have : l.findIdx? (fun x => n == x) = none := by
        rw [List.findIdx?_eq_none_iff]; exact h5
      simp -dsimp [h1, h2, h3, h4, idxI, this]
theorem zyp (l : List Int) (n : Int) : Pure Tryz.prog zfv [.sl 1 (l.map (.int .i64)), .int .i64 n] [.bool (decide (0 ≤ idxI n l))] := by
  refine zo0 rfl fun hs => ?_
  simp -dsimp [zfu]
  refine zaa (zDb l n) ?_
  simp -dsimp
def zan (k i : Int) : Int := if i = 1 ∧ (k = 4 ∨ k = 5 ∨ k = 7) then 1 else 0
theorem zwp (k i : Int) : Pure Tryz.prog zjx [.int .i64 k, .int .i64 i] [.int .i64 (zan k i)] := by
  refine zDt rfl fun hs => ?_
  simp -dsimp [zox]
  (first | refine zal ?_ ?_ | refine zam ?_ ?_) <;> intro h1 <;> (try simp only [nrm] at h1) <;> simp -dsimp [h1, zan]
  refine zaa (zyp [4, 5, 7] k) ?_
  have hc : decide (0 ≤ idxI k [4, 5, 7]) = decide (k = 4 ∨ k = 5 ∨ k = 7) := by
    simp only [idxI, List.findIdx?_cons, List.findIdx?_nil]
    by_cases h4 : k = 4
    · simp [h4]
    · by_cases h5 : k = 5
      · simp [h5]
      · by_cases h7 : k = 7 <;> simp [h4, h5, h7]
  rw [hc]
  simp -dsimp [h1]
  (first | refine zal ?_ ?_ | refine zam ?_ ?_) <;> intro h2 <;> (try simp only [nrm] at h2) <;> simp -dsimp [h2, zan, h1]
end Ev
end Go.Proofs.YtncmainjcffanaaGreat
/- slices.IndexFunc, slices.ContainsFunc; what a right term is. -/
namespace Go.Proofs.YtncmainjcffanaaGreat
namespace Ev
open Go
attribute [local simp] zac zag
@[simp] theorem zSv (a : Ar) : (eAr a).cells = cAr a := rfl
@[simp] theorem zTv (a : So) : (eSo a).cells = cSo a := rfl
@[simp] theorem zUj (a : Co) : (eCo a).cells = cCo a := rfl
def idxF {α : Type} (l : List α) (p : α → Bool) : Int := match l.findIdx? p with
  | some i => i
  | none => -1
theorem zFm {α : Type} (l : List α) (p : α → Bool) : decide (0 ≤ idxF l p) = l.any p := by
  cases h : l.findIdx? p with
  | none =>
    have h1 := List.findIdx?_eq_none_iff.1 h
    have h2 : l.any p = false := by rw [List.any_eq_false]; intro x hx; simp [h1 x hx]
    have h3 : idxF l p = -1 := by simp only [idxF, h]
    rw [h2, h3]; rfl
  | some i =>
    obtain ⟨hi, hp, _⟩ := List.findIdx?_eq_some_iff_getElem.1 h
    have h2 : l.any p = true := List.any_eq_true.2 ⟨_, List.getElem_mem hi, hp⟩
    have h3 : idxF l p = (i : Int) := by simp only [idxF, h]
    rw [h2, h3]; simp
theorem zy3 (l : List T) (g : FuncId) (caps : List D) (p : T → Bool) (hp : ∀ x ∈ l, Pure Tryz.prog g (.agg (cT x) :: caps) [.bool (p x)]) :
    Pure Tryz.prog zel [.sl 3 (l.map eT), .clo g caps] [.int .i64 (idxF l p)] := by
  refine znn rfl fun hs => ?_
  have hl := hs (.sl 3 (l.map eT)) (by simp)
  simp [small] at hl
  replace hl := hl.1
  simp -dsimp [zer]
  refine zaj l.length (fun i st => st.s 0 = .d (.sl 3 (l.map eT)) ∧ st.s 1 = .d (.clo g caps) ∧ st.s 7 = .d (.int .i64 l.length) ∧ st.s 8 = .d (.int .i64 i) ∧ ∀ x ∈ l.take i, p x = false) ?_ ?_
  · simp -dsimp
  · rintro i ⟨s, hp'⟩ hi ⟨h1, h2, h3, h4, h5⟩
    dsimp only at h1 h2 h3 h4 h5
    rcases Nat.lt_or_ge i l.length with hlt | hge
    · have w1 : IntKind.i64.wrap ((i : Int) + 1) = (i : Int) + 1 := zab (by omega) (by omega)
      have hc : (cT l[i]).length = 3 := rfl
      simp -dsimp [h1, h2, h3, h4, hlt, hc]
      have ht : (cT l[i]).take 3 = cT l[i] := List.take_of_length_le (by omega)
      refine zaa (by rw [ht]; exact hp l[i] (List.getElem_mem _)) ?_
      simp -dsimp [h1, h2, h3, h4, hlt]
      (first | refine zal ?_ ?_ | refine zam ?_ ?_) <;> intro h6 <;> (try simp only [nrm] at h6) <;> simp -dsimp [h6, h1, h2, h3, h4, hlt, w1]
      · have : l.findIdx? p = some i := by
          rw [List.findIdx?_eq_some_iff_getElem]
          refine ⟨hlt, h6, fun j hj => ?_⟩
          have := h5 l[j] (by rw [List.mem_take_iff_getElem]; exact ⟨j, by omega, rfl⟩)
          simpa using this
        simp only [idxF, this]
      · intro x hx
        rw [zdd (List.getElem?_eq_getElem hlt), List.mem_append] at hx
        rcases hx with hx | hx
        · simpa using h5 x hx
        · simp at hx; subst hx; exact h6
    · have e : i = l.length := by omega
      subst e
      rw [List.take_length] at h5
      have : l.findIdx? p = none := by
        rw [List.findIdx?_eq_none_iff]; exact h5
      simp -dsimp [h1, h2, h3, h4, idxF, this]
theorem zf7 (l : List T) (g : FuncId) (caps : List D) (p : T → Bool) (hp : ∀ x ∈ l, Pure Tryz.prog g (.agg (cT x) :: caps) [.bool (p x)]) :
    Pure Tryz.prog zbm [.sl 3 (l.map eT), .clo g caps] [.bool (l.any p)] := by
  refine zln rfl fun hs => ?_
  simp -dsimp [zdh]
  refine zaa (zy3 l g caps p hp) ?_
  simp -dsimp [zFm]
end Ev
end Go.Proofs.YtncmainjcffanaaGreat
/- term: sizes, right terms, scopes. -/
namespace Go.Proofs.YtncmainjcffanaaGreat
namespace Ev
open Go
attribute [local simp] zac zag
theorem zL5 (t : T) : Pure Tryz.prog zk5 [.agg (cT t)] [.int .i64 (zhn t)] := by
  refine T.ind (p := fun t => Pure Tryz.prog zk5 [.agg (cT t)] [.int .i64 (zhn t)]) ?_ t
  intro k n ks ih
  refine zD8 rfl fun hs => ?_
  have hl := zja hs
  simp [T.kids] at hl
  simp -dsimp [zre, cT, T.kind, T.num, T.kids]
  refine zaj ks.length (fun i st => st.s 7 = .d (.sl 3 (ks.map eT)) ∧ st.s 8 = .d (.int .i64 ks.length) ∧ st.s 9 = .d (.int .i64 i) ∧ st.s 3 = .d (.int .i64 (((ks.map zhn).take i).foldl (fun a s => w64 (a + s)) 1))) ?_ ?_
  · simp -dsimp
  · rintro i ⟨s, hp⟩ hi ⟨h1, h2, h3, h4⟩
    dsimp only at h1 h2 h3 h4
    rcases Nat.lt_or_ge i ks.length with hlt | hge
    · have w1 : IntKind.i64.wrap ((i : Int) + 1) = (i : Int) + 1 := zab (by omega) (by omega)
      simp -dsimp [h1, h2, h3, h4, hlt, cT]
      refine zaa (ih ks[i] (List.getElem_mem _)) ?_
      have hf := zqc (fun a s => w64 (a + s)) 1 (ks.map zhn) i (zhn ks[i]) (by simp [hlt])
      simp -dsimp [h1, h2, h3, h4, hlt, w1, hf]
      rfl
    · have e : i = ks.length := by omega
      subst e
      have ht : (ks.map zhn).take ks.length = ks.map zhn := List.take_of_length_le (by simp)
      simp -dsimp [h1, h2, h3, h4, zhn, ht]
theorem zJr (t : T) : Pure Tryz.prog zju [.agg (cT t)] [.int .i64 (zd7 t)] := by
  refine T.ind (p := fun t => Pure Tryz.prog zju [.agg (cT t)] [.int .i64 (zd7 t)]) ?_ t
  intro k n ks ih
  refine zDv rfl fun hs => ?_
  have hl := zja hs
  simp [T.kids] at hl
  simp -dsimp [zpr, cT, T.kind, T.num, T.kids]
  refine zaj ks.length (fun i st => st.s 7 = .d (.sl 3 (ks.map eT)) ∧ st.s 8 = .d (.int .i64 ks.length) ∧ st.s 9 = .d (.int .i64 i) ∧ st.s 3 = .d (.int .i64 (((ks.map zd7).take i).foldl mx 0))) ?_ ?_
  · simp -dsimp
  · rintro i ⟨s, hp⟩ hi ⟨h1, h2, h3, h4⟩
    dsimp only at h1 h2 h3 h4
    rcases Nat.lt_or_ge i ks.length with hlt | hge
    · have w1 : IntKind.i64.wrap ((i : Int) + 1) = (i : Int) + 1 := zab (by omega) (by omega)
      simp -dsimp [h1, h2, h3, h4, hlt, cT]
      refine zaa (ih ks[i] (List.getElem_mem _)) ?_
      have hf := zFz (ks.map zd7) i (zd7 ks[i]) (by simp [hlt])
      simp -dsimp [h1, h2, h3, h4, hlt, w1, hf]
      rfl
    · have e : i = ks.length := by omega
      subst e
      have ht : (ks.map zd7).take ks.length = ks.map zd7 := List.take_of_length_le (by simp)
      simp -dsimp [h1, h2, h3, h4, zd7, ht]
      rfl
def zaf : T → Bool
  | .mk k n ks => if zho k < 0 then false else if (ks.length : Int) = zho k then if n < 0 then false else if 65535 < n then false else if 0 < zho k ∧ n ≠ 0 then false else (ks.map zaf).all id else false
theorem zzx (t : T) (h : Pure Tryz.prog zgf [.agg (cT t)] [.bool (zaf t)]) : Pure Tryz.prog zff [.agg (cT t)] [.bool (!zaf t)] := by
  refine zxw rfl fun hs => ?_
  simp -dsimp [zkv, cT]
  refine zaa h ?_
  simp -dsimp
theorem zK7 (t : T) : Pure Tryz.prog zgf [.agg (cT t)] [.bool (zaf t)] := by
  refine T.ind (p := fun t => Pure Tryz.prog zgf [.agg (cT t)] [.bool (zaf t)]) ?_ t
  intro k n ks ih
  refine zAs rfl fun hs => ?_
  simp -dsimp [zm9, cT, T.kind, T.num, T.kids]
  refine zaa (zPm k) ?_
  simp -dsimp
  (first | refine zal ?_ ?_ | refine zam ?_ ?_) <;> intro h1 <;> (try simp only [nrm] at h1) <;> simp -dsimp [h1, zaf]
  (first | refine zal ?_ ?_ | refine zam ?_ ?_) <;> intro h2 <;> (try simp only [nrm] at h2) <;> simp -dsimp [h2, zaf, h1]
  (first | refine zal ?_ ?_ | refine zam ?_ ?_) <;> intro h3 <;> (try simp only [nrm] at h3) <;> simp -dsimp [h3, zaf, h1, h2]
  (first | refine zal ?_ ?_ | refine zam ?_ ?_) <;> intro h4 <;> (try simp only [nrm] at h4) <;> simp -dsimp [h4, zaf, h1, h2, h3]
  (first | refine zal ?_ ?_ | refine zam ?_ ?_) <;> intro h5 <;> (try simp only [nrm] at h5) <;> simp -dsimp [h5, zaf, h1, h2, h3, h4]
  · (first | refine zal ?_ ?_ | refine zam ?_ ?_) <;> intro h6 <;> (try simp only [nrm] at h6) <;> simp -dsimp [h6, zaf, h1, h2, h3, h4, h5]
    refine zaa (zf7 ks zff [] (fun t => !zaf t) (fun x hx => zzx x (ih x hx))) ?_
    have hf : zaf (.mk k 0 ks) = !(ks.any fun t => !zaf t) := by
      rw [zaf, if_neg h1, if_pos h2]
      simp [List.all_eq_not_any_not, Function.comp_def]
    subst h6
    simp -dsimp [hf]
  · refine zaa (zf7 ks zff [] (fun t => !zaf t) (fun x hx => zzx x (ih x hx))) ?_
    have hf : zaf (.mk k n ks) = !(ks.any fun t => !zaf t) := by
      rw [zaf, if_neg h1, if_pos h2, if_neg h3, if_neg h4, if_neg (fun h => h5 h.1)]
      simp [List.all_eq_not_any_not, Function.comp_def]
    simp -dsimp [hf]
def zbp (t : T) : Int := if 6000 < zhn t then 4 else if 200 < zd7 t then 5 else if zaf t then 0 else 1
theorem zA6 (t : T) : Pure Tryz.prog zlr [.agg (cT t)] [.int .i64 (zbp t)] := by
  refine zCs rfl fun hs => ?_
  simp -dsimp [zo8, cT]
  refine zaa (zL5 t) ?_
  simp -dsimp
  (first | refine zal ?_ ?_ | refine zam ?_ ?_) <;> intro h1 <;> (try simp only [nrm] at h1) <;> simp -dsimp [h1, zbp]
  refine zaa (zJr t) ?_
  simp -dsimp
  (first | refine zal ?_ ?_ | refine zam ?_ ?_) <;> intro h2 <;> (try simp only [nrm] at h2) <;> simp -dsimp [h2, zbp, h1]
  refine zaa (zK7 t) ?_
  simp -dsimp
  (first | refine zal ?_ ?_ | refine zam ?_ ?_) <;> intro h3 <;> (try simp only [nrm] at h3) <;> simp -dsimp [h3, zbp, h1, h2]
mutual
def zcr : T → Int → Int → Bool
  | .mk k n ks, v, c => if k = 1 then decide (n < v) else if k = 2 then decide (n ≤ 6) else if k = 3 then decide (n < c) else zhx k v c 0 ks
def zhx (k v c : Int) : Nat → List T → Bool
  | _, [] => true
  | i, x :: xs => zcr x (w64 (v + zan k i)) c && zhx k v c (i + 1) xs
end
theorem zk6 (k v c : Int) : ∀ (l : List T) (i : Nat), zhx k v c i l = true ↔ ∀ (j : Nat) (hj : j < l.length), zcr l[j] (w64 (v + zan k (i + j : Nat))) c = true
  | [], i => by simp [zhx]
  | x :: xs, i => by
    rw [zhx, Bool.and_eq_true, zk6 k v c xs (i + 1)]
    constructor
    · rintro ⟨h1, h2⟩ j hj
      cases j with
      | zero => simpa using h1
      | succ j =>
        have := h2 j (by simpa using hj)
        have e : i + 1 + j = i + (j + 1) := by omega
        rw [e] at this
        simpa using this
    · intro h
      refine ⟨h 0 (by simp), fun j hj => ?_⟩
      have := h (j + 1) (by simpa using hj)
      have e : i + 1 + j = i + (j + 1) := by omega
      rw [e]
      simpa using this
theorem zKn (t : T) : ∀ v c : Int, Pure Tryz.prog zik [.agg (cT t), .int .i64 v, .int .i64 c] [.bool (zcr t v c)] := by
  refine T.ind (p := fun t => ∀ v c : Int, Pure Tryz.prog zik [.agg (cT t), .int .i64 v, .int .i64 c] [.bool (zcr t v c)]) ?_ t
  intro k n ks ih v c
  refine zA9 rfl fun hs => ?_
  have hl := zja (t := .mk k n ks) (fun d hd => hs d (by simp at hd; simp [hd]))
  simp [T.kids] at hl
  simp -dsimp [zmx, cT, T.kind, T.num, T.kids]
  (first | refine zal ?_ ?_ | refine zam ?_ ?_) <;> intro h1 <;> (try simp only [nrm] at h1) <;> simp -dsimp [h1, zcr]
  (first | refine zal ?_ ?_ | refine zam ?_ ?_) <;> intro h2 <;> (try simp only [nrm] at h2) <;> simp -dsimp [h2, zcr, h1]
  (first | refine zal ?_ ?_ | refine zam ?_ ?_) <;> intro h3 <;> (try simp only [nrm] at h3) <;> simp -dsimp [h3, zcr, h1, h2]
  have hw : zcr (.mk k n ks) v c = zhx k v c 0 ks := by rw [zcr, if_neg h1, if_neg h2, if_neg h3]
  rw [hw]
  refine zaj ks.length (fun i st => st.s 3 = .ptr 3 1 0 ∧ st.h 3 = ⟨1, .box [.d (.int .i64 k), .d (.int .i64 n), .d (.sl 3 (ks.map eT))] false⟩ ∧ st.s 1 = .d (.int .i64 v) ∧ st.s 2 = .d (.int .i64 c) ∧
    st.s 29 = .d (.sl 3 (ks.map eT)) ∧ st.s 30 = .d (.int .i64 ks.length) ∧ st.s 31 = .d (.int .i64 i) ∧ ∀ (j : Nat) (hj : j < ks.length), j < i → zcr ks[j] (w64 (v + zan k j)) c = true) ?_ ?_
  · simp -dsimp
  · rintro i ⟨s, hp⟩ hi ⟨g1, g2, g3, g4, g5, g6, g7, g8⟩
    dsimp only at g1 g2 g3 g4 g5 g6 g7
    rcases Nat.lt_or_ge i ks.length with hlt | hge
    · have w1 : IntKind.i64.wrap ((i : Int) + 1) = (i : Int) + 1 := zab (by omega) (by omega)
      simp -dsimp [g1, g2, g3, g4, g5, g6, g7, hlt, cT]
      refine zaa (zwp k i) ?_
      simp -dsimp [g1, g2, g3, g4, g5, g6, g7, hlt]
      refine zaa (ih ks[i] (List.getElem_mem _) (w64 (v + zan k i)) c) ?_
      simp -dsimp [g1, g2, g3, g4, g5, g6, g7, hlt]
      (first | refine zal ?_ ?_ | refine zam ?_ ?_) <;> intro h4 <;> (try simp only [nrm] at h4) <;> simp -dsimp [h4, g1, g2, g3, g4, g5, g6, g7, hlt, w1]
      · cases hw : zhx k v c 0 ks with
        | false => rfl
        | true =>
          have := (zk6 k v c ks 0).1 hw i hlt
          rw [Nat.zero_add, h4] at this
          cases this
      · intro j hj hji
        rcases Nat.lt_or_ge j i with h | h
        · exact g8 j hj h
        · have : j = i := by omega
          subst this
          exact h4
    · have e : i = ks.length := by omega
      subst e
      have : zhx k v c 0 ks = true := (zk6 k v c ks 0).2 fun j hj => by simpa using g8 j hj hj
      simp -dsimp [g1, g2, g3, g4, g5, g6, g7, this]
def zmp (t : T) (v c : Int) : Bool := if v < 0 then false else if c < 0 then false else if zbp t = 0 then zcr t (if 65536 < v then 65536 else v) c else false
theorem zOh (t : T) (v c : Int) : Pure Tryz.prog zoy [.agg (cT t), .int .i64 v, .int .i64 c] [.bool (zmp t v c)] := by
  refine zCn rfl fun hs => ?_
  simp -dsimp [zpk, cT]
  (first | refine zal ?_ ?_ | refine zam ?_ ?_) <;> intro h1 <;> (try simp only [nrm] at h1) <;> simp -dsimp [h1, zmp]
  · (first | refine zal ?_ ?_ | refine zam ?_ ?_) <;> intro h2 <;> (try simp only [nrm] at h2) <;> simp -dsimp [h2, zmp, h1]
    · refine zaa (zA6 t) ?_
      simp -dsimp [h1, h2]
      (first | refine zal ?_ ?_ | refine zam ?_ ?_) <;> intro h3 <;> (try simp only [nrm] at h3) <;> simp -dsimp [h3, zmp, h1, h2]
      · refine zaa (zKn t _ _) ?_
        have hS : zmp t v c = zcr t (if 65536 < v then 65536 else v) c := by rw [zmp, if_neg (by omega), if_neg (by omega), if_pos h3]
        rw [hS]
        simp -dsimp [h3]
end Ev
end Go.Proofs.YtncmainjcffanaaGreat
/- What comes in by type: numbers, terms, and how long their rows may be. -/
namespace Go.Proofs.YtncmainjcffanaaGreat
namespace Ev
open Go
theorem zzk : Tryz.prog.cellsOf 28 = 3 := by kernel_rfl
theorem zFd : Tryz.prog.cellsOf 26 = 1 := by kernel_rfl
theorem zJn : Tryz.prog.cellsOf 3 = 1 := by kernel_rfl
theorem zOr : Tryz.prog.cellsOf 4 = 1 := by kernel_rfl
theorem zOv : Tryz.prog.bytesOf 28 = 40 := by kernel_rfl
def n64 (n : Int) : Prop := -9223372036854775808 ≤ n ∧ n < 9223372036854775808
inductive okT : T → Prop
  | mk (k n : Int) (ks : List T) (hk : n64 k) (hn : n64 n) (hl : ks.length * 40 ≤ 140737488351232) (h : ∀ x ∈ ks, okT x) : okT (.mk k n ks)
def okTs (l : List T) : Prop := l.length * 40 ≤ 140737488351232 ∧ ∀ x ∈ l, okT x
theorem okT.kids {k n : Int} {ks : List T} (h : okT (.mk k n ks)) : okTs ks := by
  cases h with
  | mk _ _ _ _ _ hl h => exact ⟨hl, h⟩
theorem zzw {α : Type} {f : α → D} {q : α → Prop} : ∀ {xs : List D}, (∀ x ∈ xs, ∃ a, q a ∧ x = f a) → ∃ l : List α, xs = l.map f ∧ ∀ a ∈ l, q a
  | [], _ => ⟨[], rfl, by simp⟩
  | x :: xs, h => by
    obtain ⟨a, ha, rfl⟩ := h x (List.mem_cons_self ..)
    obtain ⟨l, rfl, hl⟩ := zzw (xs := xs) fun y hy => h y (List.mem_cons_of_mem _ hy)
    exact ⟨a :: l, rfl, by simpa using ⟨ha, hl⟩⟩
theorem zOq : ∀ {x : D}, x.isAgg = true → x = .agg x.cells := by
  intro x h
  cases x <;> first | rfl | cases h
theorem len3 {xs : List D} (h : xs.length = 3) : ∃ a b c, xs = [a, b, c] := by
  match xs, h with
  | [a, b, c], _ => exact ⟨a, b, c, rfl⟩
theorem wf64 {i : Int} (hw : (Lit.int .i64 i).wf = true) : n64 i := by
  obtain ⟨u, v⟩ : IntKind.i64.min ≤ i ∧ i ≤ IntKind.i64.max := by simpa [Lit.wf] using hw
  have e1 : IntKind.i64.min = -9223372036854775808 := by decide
  have e2 : IntKind.i64.max = 9223372036854775807 := by decide
  exact ⟨by omega, by omega⟩
theorem zrf {n : Nat} {cs : List D} (h : typ Tryz.prog n 3 cs) : ∃ i, cs = [.int .i64 i] ∧ n64 i := by
  cases n with
  | zero => exact h.elim
  | succ n =>
    simp only [typ, Tryz.underlying3] at h
    obtain ⟨i, hi, hw⟩ := h
    exact ⟨i, hi, wf64 hw⟩
theorem zGz {n : Nat} {cs : List D} (h : typ Tryz.prog n 4 cs) : ∃ b, cs = [.bool b] := by
  cases n with
  | zero => exact h.elim
  | succ n => simp only [typ, Tryz.underlying4] at h; exact h
theorem zJ8 : zbd Tryz.prog 28 = true := by simp only [zbd, Tryz.underlying28]
theorem zo2 {e t : TypeId} {k y : Nat} {n : Nat} {cs : List D} (hu : Tryz.prog.underlying t = some (.slice e)) (hc : Tryz.prog.cellsOf e = k) (hy : Tryz.prog.bytesOf e = y) (hs : zbd Tryz.prog e = true) (h : typ Tryz.prog n t cs) :
    ∃ (m : Nat) (xs : List D), n = m + 1 ∧ cs = [.sl k xs] ∧ xs.length * y ≤ 140737488351232 ∧ ∀ x ∈ xs, typ Tryz.prog m e x.cells ∧ x = .agg x.cells := by
  cases n with
  | zero => exact h.elim
  | succ n =>
    simp only [typ, hu] at h
    obtain ⟨xs, rfl, _, hl, hx⟩ := h
    exact ⟨n, xs, rfl, by rw [hc], by rw [hy] at hl; exact hl, fun x hxx => ⟨(hx x hxx).1, zOq (by rw [(hx x hxx).2, hs])⟩⟩
theorem zwn (n : Nat) : ∀ {cs : List D}, typ Tryz.prog n 28 cs → ∃ t : T, cs = cT t ∧ okT t := by
  induction n using Nat.strongRecOn with
  | ind n ih =>
    intro cs h
    cases n with
    | zero => exact h.elim
    | succ n =>
    simp only [typ, Tryz.underlying28, zzk, zJn, zFd, List.forall_mem_cons] at h
    obtain ⟨hl, h1, h2, h3, _⟩ := h
    obtain ⟨a, b, c, rfl⟩ := len3 hl
    obtain ⟨i, hi, wi⟩ := zrf h1
    obtain ⟨j, hj, wj⟩ := zrf h2
    obtain ⟨m, xs, rfl, hc, hb, hx⟩ := zo2 Tryz.underlying26 zzk zOv zJ8 h3
    simp at hi hj hc
    subst hi hj hc
    obtain ⟨ks, rfl, hks⟩ : ∃ l : List T, xs = l.map eT ∧ ∀ a ∈ l, okT a := zzw fun x hxx => by
      obtain ⟨h4, h5⟩ := hx x hxx
      obtain ⟨t, ht, hq⟩ := ih m (by omega) h4
      exact ⟨t, hq, by rw [h5, ht, zbq]⟩
    exact ⟨.mk i j ks, rfl, .mk i j ks wi wj (by simpa using hb) hks⟩
theorem zyc {n : Nat} {cs : List D} (h : typ Tryz.prog n 26 cs) : ∃ l : List T, cs = [eTs l] ∧ okTs l := by
  obtain ⟨m, xs, rfl, hc, hb, hx⟩ := zo2 Tryz.underlying26 zzk zOv zJ8 h
  obtain ⟨ks, rfl, hks⟩ : ∃ l : List T, xs = l.map eT ∧ ∀ a ∈ l, okT a := zzw fun x hxx => by
    obtain ⟨h4, h5⟩ := hx x hxx
    obtain ⟨t, ht, hq⟩ := zwn m h4
    exact ⟨t, hq, by rw [h5, ht, zbq]⟩
  exact ⟨ks, hc, by simpa using hb, hks⟩
theorem zQe {x : D} (h : x.isAgg = false) : x.cells = [x] := by
  cases x <;> first | rfl | cases h
theorem zIw {x : D} (h : TypD Tryz.prog 3 x) : ∃ i, x = .int .i64 i ∧ n64 i := by
  obtain ⟨⟨n, h1⟩, h2⟩ := h
  obtain ⟨i, hi, hw⟩ := zrf h1
  have h3 : zbd Tryz.prog 3 = false := by simp only [zbd, Tryz.underlying3]
  rw [zQe (h2.trans h3)] at hi
  exact ⟨i, by simpa using hi, hw⟩
end Ev
end Go.Proofs.YtncmainjcffanaaGreat
/- Twins are what they are twins of. -/
namespace Go.Proofs.YtncmainjcffanaaGreat
namespace Ev
open Go
attribute [local simp] zac zag
theorem zmt {α : Type} (f : α → D) (g : α → List D) (hg : ∀ a, f a = .agg (g a)) (l : List α) (i : Nat) (h : i < l.length) : (l.map f).take i ++ [.agg (g l[i])] = (l.map f).take (i + 1) := by
  rw [List.take_add_one, List.getElem?_eq_getElem (by simpa using h)]
  simp [hg]
theorem zF0 (l : List T) (hl : l.length * 40 ≤ 140737488351232) (h : ∀ x ∈ l, Pure Tryz.prog zas [.agg (cT x)] [.agg (cT x)]) : Pure Tryz.prog zb3 [eTs l] [eTs l] := by
  refine ztf rfl fun hs => ?_
  simp -dsimp [ziq, eTs]
  refine zaj l.length (fun i st => st.s 0 = .d (.sl 3 (l.map eT)) ∧ st.s 4 = .d (.int .i64 i) ∧ ∃ v, st.s 3 = .rsl 3 v ∧ st.h 3 = ⟨v, .row 3 ((l.map eT).take i) false⟩) ?_ ?_
  · simp -dsimp
  · rintro i ⟨s, hp⟩ hi ⟨g1, g2, v, g3, g4⟩
    dsimp only at g1 g2 g3 g4
    rcases Nat.lt_or_ge i l.length with hlt | hge
    · have w1 : IntKind.i64.wrap ((i : Int) + 1) = (i : Int) + 1 := zab (by omega) (by omega)
      simp -dsimp [g1, g2, g3, g4, hlt, cT]
      refine zaa (h l[i] (List.getElem_mem _)) ?_
      have hr : (min i l.length + 1) * 40 ≤ zah := by simp only [zah]; omega
      have hn := zmt eT cT zbq l i hlt
      simp only [cT] at hn
      simp -dsimp [g1, g2, g3, g4, hlt, cT, hr, hn, w1]
    · have e : i = l.length := by omega
      subst e
      simp -dsimp [g1, g2, g3, g4]
      exact List.take_of_length_le (by simp)
theorem zk4 (t : T) : okT t → Pure Tryz.prog zas [.agg (cT t)] [.agg (cT t)] := by
  refine T.ind (p := fun t => okT t → Pure Tryz.prog zas [.agg (cT t)] [.agg (cT t)]) ?_ t
  intro k n ks ih h
  obtain ⟨h1, h2⟩ := h.kids
  refine zuz rfl fun hs => ?_
  simp -dsimp [zi6, cT, T.kind, T.num, T.kids]
  refine zaa (zF0 ks h1 fun x hx => ih x hx (h2 x hx)) ?_
  simp -dsimp [eTs]
theorem zAl (l : List T) (h : okTs l) : Pure Tryz.prog zb3 [eTs l] [eTs l] := zF0 l h.1 fun x hx => zk4 x (h.2 x hx)
end Ev
end Go.Proofs.YtncmainjcffanaaGreat
/- What is compared with itself is alike. -/
namespace Go.Proofs.YtncmainjcffanaaGreat
namespace Ev
open Go
attribute [local simp] zac zag
theorem zvs (l : List T) (h : ∀ x ∈ l, Pure Tryz.prog zat [.agg (cT x), .agg (cT x)] [.bool true]) : Pure Tryz.prog zb2 [eTs l, eTs l] [.bool true] := by
  refine ztt rfl fun hs => ?_
  have hl := hs (eTs l) (by simp)
  simp [eTs, small] at hl
  replace hl := hl.1
  simp -dsimp [zil, eTs]
  refine zaj l.length (fun i st => st.s 0 = .d (.sl 3 (l.map eT)) ∧ st.s 1 = .d (.sl 3 (l.map eT)) ∧ st.s 5 = .d (.int .i64 i)) ?_ ?_
  · simp -dsimp
  · rintro i ⟨s, hp⟩ hi ⟨g1, g2, g3⟩
    dsimp only at g1 g2 g3
    rcases Nat.lt_or_ge i l.length with hlt | hge
    · have w1 : IntKind.i64.wrap ((i : Int) + 1) = (i : Int) + 1 := zab (by omega) (by omega)
      simp -dsimp [g1, g2, g3, hlt, cT, eAr, cAr, eTs]
      refine zaa (h l[i] (List.getElem_mem _)) ?_
      simp -dsimp [g1, g2, g3, hlt, w1]
    · have e : i = l.length := by omega
      subst e
      simp -dsimp [g1, g2, g3]
theorem zdz (t : T) : Pure Tryz.prog zat [.agg (cT t), .agg (cT t)] [.bool true] := by
  refine T.ind (p := fun t => Pure Tryz.prog zat [.agg (cT t), .agg (cT t)] [.bool true]) ?_ t
  intro k n ks ih
  refine zvf rfl fun hs => ?_
  simp -dsimp [zjd, cT, T.kind, T.num, T.kids]
  refine zaa (zvs ks ih) ?_
  simp -dsimp
theorem zon (l : List T) : Pure Tryz.prog zb2 [eTs l, eTs l] [.bool true] := zvs l fun x _ => zdz x
end Ev
end Go.Proofs.YtncmainjcffanaaGreat
/- The document's answers: right terms, scopes. -/
namespace Go.Proofs.YtncmainjcffanaaGreat
namespace Ev
open Go
attribute [local simp] zac zag
def inB (n lo hi : Int) : Bool := decide (lo ≤ n) && decide (n ≤ hi)
theorem zf0 (n lo hi : Int) : inB n lo hi = true ↔ lo ≤ n ∧ n ≤ hi := by simp [inB]
theorem zh1 (n lo hi : Int) : inB n lo hi = false ↔ ¬(lo ≤ n ∧ n ≤ hi) := by rw [← zf0]; simp
theorem zS9 (n lo hi : Int) : Pure Tryz.prog zj2 [.int .i64 n, .int .i64 lo, .int .i64 hi] [.bool (inB n lo hi)] := by
  refine zvz rfl fun hs => ?_
  simp -dsimp [zj4, inB]
  (first | refine zal ?_ ?_ | refine zam ?_ ?_) <;> intro h1 <;> (try simp only [nrm] at h1) <;> simp -dsimp [h1]
theorem zOj (k : Int) : Pure Tryz.prog zib [.int .i64 k] [.int .i64 (zho k)] := by
  refine zsr rfl fun hs => ?_
  have e : zho k = if k = 1 then 0 else if k = 2 then 0 else if k = 3 then 0 else if k = 9 then 1 else if k = 10 then 1 else if k = 4 then 2 else if k = 5 then 2 else if k = 6 then 2 else if k = 7 then 2 else if k = 12 then 2 else if k = 8 then 3 else if k = 11 then 3 else if k = 13 then 3 else -1 := by
    simp only [zho, isM, Bool.and_eq_true, decide_eq_true_eq]
    repeat' split
    all_goals omega
  rw [e]
  simp -dsimp [zhz]
  (first | refine zal ?_ ?_ | refine zam ?_ ?_) <;> intro h1 <;> (try simp only [nrm] at h1) <;> simp -dsimp [h1]
  (first | refine zal ?_ ?_ | refine zam ?_ ?_) <;> intro h2 <;> (try simp only [nrm] at h2) <;> simp -dsimp [h2, h1]
  (first | refine zal ?_ ?_ | refine zam ?_ ?_) <;> intro h3 <;> (try simp only [nrm] at h3) <;> simp -dsimp [h3, h1, h2]
  (first | refine zal ?_ ?_ | refine zam ?_ ?_) <;> intro h4 <;> (try simp only [nrm] at h4) <;> simp -dsimp [h4, h1, h2, h3]
  (first | refine zal ?_ ?_ | refine zam ?_ ?_) <;> intro h5 <;> (try simp only [nrm] at h5) <;> simp -dsimp [h5, h1, h2, h3, h4]
  (first | refine zal ?_ ?_ | refine zam ?_ ?_) <;> intro h6 <;> (try simp only [nrm] at h6) <;> simp -dsimp [h6, h1, h2, h3, h4, h5]
  (first | refine zal ?_ ?_ | refine zam ?_ ?_) <;> intro h7 <;> (try simp only [nrm] at h7) <;> simp -dsimp [h7, h1, h2, h3, h4, h5, h6]
  (first | refine zal ?_ ?_ | refine zam ?_ ?_) <;> intro h8 <;> (try simp only [nrm] at h8) <;> simp -dsimp [h8, h1, h2, h3, h4, h5, h6, h7]
  (first | refine zal ?_ ?_ | refine zam ?_ ?_) <;> intro h9 <;> (try simp only [nrm] at h9) <;> simp -dsimp [h9, h1, h2, h3, h4, h5, h6, h7, h8]
  (first | refine zal ?_ ?_ | refine zam ?_ ?_) <;> intro h10 <;> (try simp only [nrm] at h10) <;> simp -dsimp [h10, h1, h2, h3, h4, h5, h6, h7, h8, h9]
  (first | refine zal ?_ ?_ | refine zam ?_ ?_) <;> intro h11 <;> (try simp only [nrm] at h11) <;> simp -dsimp [h11, h1, h2, h3, h4, h5, h6, h7, h8, h9, h10]
  (first | refine zal ?_ ?_ | refine zam ?_ ?_) <;> intro h12 <;> (try simp only [nrm] at h12) <;> simp -dsimp [h12, h1, h2, h3, h4, h5, h6, h7, h8, h9, h10, h11]
  (first | refine zal ?_ ?_ | refine zam ?_ ?_) <;> intro h13 <;> (try simp only [nrm] at h13) <;> simp -dsimp [h13, h1, h2, h3, h4, h5, h6, h7, h8, h9, h10, h11, h12]
theorem zt1 (k i : Int) : Pure Tryz.prog zbu [.int .i64 k, .int .i64 i] [.int .i64 (zan k i)] := by
  refine zsb rfl fun hs => ?_
  simp -dsimp [zgy]
  (first | refine zal ?_ ?_ | refine zam ?_ ?_) <;> intro h1 <;> (try simp only [nrm] at h1) <;> simp -dsimp [h1, zan]
  (first | refine zal ?_ ?_ | refine zam ?_ ?_) <;> intro g1 <;> (try simp only [nrm] at g1) <;> simp -dsimp [g1, zan, h1]
  (first | refine zal ?_ ?_ | refine zam ?_ ?_) <;> intro g2 <;> (try simp only [nrm] at g2) <;> simp -dsimp [g2, zan, h1, g1]
  (first | refine zal ?_ ?_ | refine zam ?_ ?_) <;> intro g3 <;> (try simp only [nrm] at g3) <;> simp -dsimp [g3, zan, h1, g1, g2]
theorem zcb (k n : Int) (ks : List T) : zaf (.mk k n ks) = if (ks.length : Int) = zho k then if zho k = 0 then inB n 0 65535 && ks.all zaf else if n = 0 then ks.all zaf else false else false := by
  rw [zaf]
  have ha : (ks.map zaf).all id = ks.all zaf := by rw [List.all_map]; rfl
  rw [ha]
  by_cases h1 : (ks.length : Int) = zho k
  · rw [if_neg (by omega), if_pos h1, if_pos h1]
    by_cases h0 : zho k = 0
    · rw [if_pos h0]
      by_cases h2 : n < 0
      · rw [if_pos h2, (zh1 n 0 65535).2 (by omega)]; rfl
      · rw [if_neg h2]
        by_cases h3 : 65535 < n
        · rw [if_pos h3, (zh1 n 0 65535).2 (by omega)]; rfl
        · rw [if_neg h3, if_neg (by omega), (zf0 n 0 65535).2 (by omega)]; rfl
    · rw [if_neg h0]
      by_cases h2 : n = 0
      · rw [if_neg (by omega), if_neg (by omega), if_neg (by omega), if_pos h2]
      · rw [if_neg h2]
        by_cases h3 : n < 0
        · rw [if_pos h3]
        · rw [if_neg h3]
          by_cases h4 : 65535 < n
          · rw [if_pos h4]
          · rw [if_neg h4, if_pos ⟨by omega, h2⟩]
  · rw [if_neg h1, if_neg h1]
    split <;> rfl
theorem zwi {α : Type} {p : α → Bool} {l : List α} (h : ∀ (j : Nat) (hj : j < l.length), j < l.length → p l[j] = true) : l.all p = true := by
  rw [List.all_eq_true]
  intro x hx
  obtain ⟨j, hj, rfl⟩ := List.mem_iff_getElem.1 hx
  exact h j hj hj
theorem zJ1 {α : Type} {p : α → Bool} {l : List α} {i : Nat} (hi : i < l.length) (h : p l[i] = false) : l.all p = false := by
  cases hq : l.all p with
  | false => rfl
  | true =>
    have := List.all_eq_true.1 hq l[i] (List.getElem_mem _)
    rw [h] at this
    cases this
theorem zpm {α : Type} {p : α → Bool} {l : List α} {i : Nat} (hi : i < l.length) (h : ∀ (j : Nat) (hj : j < l.length), j < i → p l[j] = true) (hx : p l[i] = true) :
    ∀ (j : Nat) (hj : j < l.length), j < i + 1 → p l[j] = true := by
  intro j hj hji
  rcases Nat.lt_or_ge j i with h' | h'
  · exact h j hj h'
  · have : j = i := by omega
    subst this
    exact hx
theorem zHb (t : T) : Pure Tryz.prog zcs [.agg (cT t)] [.bool (zaf t)] := by
  refine T.ind (p := fun t => Pure Tryz.prog zcs [.agg (cT t)] [.bool (zaf t)]) ?_ t
  intro k n ks ih
  refine zqt rfl fun hs => ?_
  have hl := zja hs
  simp [T.kids] at hl
  simp -dsimp [zgm, cT, T.kind, T.num, T.kids]
  refine zaa (zOj k) ?_
  simp -dsimp
  (first | refine zal ?_ ?_ | refine zam ?_ ?_) <;> intro h1 <;> (try simp only [nrm] at h1) <;> simp -dsimp [h1, zcb]
  (first | refine zal ?_ ?_ | refine zam ?_ ?_) <;> intro h2 <;> (try simp only [nrm] at h2) <;> simp -dsimp [h2, zcb, h1]
  · refine zaa (zS9 n 0 65535) ?_
    simp -dsimp [h1, h2]
    (first | refine zal ?_ ?_ | refine zam ?_ ?_) <;> intro h3 <;> (try simp only [nrm] at h3) <;> simp -dsimp [h3, zcb, h1, h2]
    have hR : zaf (.mk k n ks) = ks.all zaf := by rw [zcb, if_pos h1, if_pos h2, h3]; rfl
    rw [hR]
    refine zaj ks.length (fun i st => st.s 1 = .ptr 1 1 0 ∧ st.h 1 = ⟨1, .box [.d (.int .i64 k), .d (.int .i64 n), .d (.sl 3 (ks.map eT))] false⟩ ∧ st.s 3 = .d (.int .i64 i) ∧ ∀ (j : Nat) (hj : j < ks.length), j < i → zaf ks[j] = true) ?_ ?_
    · simp -dsimp
    · rintro i ⟨s, hp⟩ hi ⟨g1, g2, g3, g4⟩
      dsimp only at g1 g2 g3
      rcases Nat.lt_or_ge i ks.length with hlt | hge
      · have w1 : IntKind.i64.wrap ((i : Int) + 1) = (i : Int) + 1 := zab (by omega) (by omega)
        simp -dsimp [g1, g2, g3, hlt, cT]
        refine zaa (ih ks[i] (List.getElem_mem _)) ?_
        simp -dsimp [g1, g2, g3, hlt]
        (first | refine zal ?_ ?_ | refine zam ?_ ?_) <;> intro h6 <;> (try simp only [nrm] at h6) <;> simp -dsimp [h6, g1, g2, g3, hlt, w1]
        · have := zJ1 (p := zaf) hlt h6
          simpa using this
        · exact zpm hlt g4 h6
      · have e : i = ks.length := by omega
        subst e
        have hA := zwi (p := zaf) g4
        simp -dsimp [g1, g2, g3, hA]
  · (first | refine zal ?_ ?_ | refine zam ?_ ?_) <;> intro h3 <;> (try simp only [nrm] at h3) <;> simp -dsimp [h3, zcb, h1, h2]
    · (first | refine zal ?_ ?_ | refine zam ?_ ?_) <;> intro h4 <;> (try simp only [nrm] at h4) <;> simp -dsimp [h4, zcb, h1, h2, h3]
      subst h4
      have hR : zaf (.mk k 0 ks) = ks.all zaf := by rw [zcb, if_pos h1, if_neg h2, if_pos rfl]
      rw [hR]
      refine zaj ks.length (fun i st => st.s 1 = .ptr 1 1 0 ∧ st.h 1 = ⟨1, .box [.d (.int .i64 k), .d (.int .i64 0), .d (.sl 3 (ks.map eT))] false⟩ ∧ st.s 3 = .d (.int .i64 i) ∧ ∀ (j : Nat) (hj : j < ks.length), j < i → zaf ks[j] = true) ?_ ?_
      · simp -dsimp
      · rintro i ⟨s, hp⟩ hi ⟨g1, g2, g3, g4⟩
        dsimp only at g1 g2 g3
        rcases Nat.lt_or_ge i ks.length with hlt | hge
        · have w1 : IntKind.i64.wrap ((i : Int) + 1) = (i : Int) + 1 := zab (by omega) (by omega)
          simp -dsimp [g1, g2, g3, hlt, cT]
          refine zaa (ih ks[i] (List.getElem_mem _)) ?_
          simp -dsimp [g1, g2, g3, hlt]
          (first | refine zal ?_ ?_ | refine zam ?_ ?_) <;> intro h6 <;> (try simp only [nrm] at h6) <;> simp -dsimp [h6, g1, g2, g3, hlt, w1]
          · have := zJ1 (p := zaf) hlt h6
            simpa using this
          · exact zpm hlt g4 h6
        · have e : i = ks.length := by omega
          subst e
          have hA := zwi (p := zaf) g4
          simp -dsimp [g1, g2, g3, hA]
    · omega
theorem zCo (t : T) : Pure Tryz.prog zep [.agg (cT t)] [.int .i64 (zbp t)] := by
  refine zrs rfl fun hs => ?_
  simp -dsimp [zg9, cT]
  refine zaa (zJb t) ?_
  simp -dsimp
  (first | refine zal ?_ ?_ | refine zam ?_ ?_) <;> intro h1 <;> (try simp only [nrm] at h1) <;> simp -dsimp [h1, zbp]
  refine zaa (zFp t) ?_
  simp -dsimp
  (first | refine zal ?_ ?_ | refine zam ?_ ?_) <;> intro h2 <;> (try simp only [nrm] at h2) <;> simp -dsimp [h2, zbp, h1]
  refine zaa (zHb t) ?_
  simp -dsimp
  (first | refine zal ?_ ?_ | refine zam ?_ ?_) <;> intro h3 <;> (try simp only [nrm] at h3) <;> simp -dsimp [h3, zbp, h1, h2]
end Ev
end Go.Proofs.YtncmainjcffanaaGreat
/- Terms: small things. -/
namespace Go.Proofs.YtncmainjcffanaaGreat
namespace Ev
open Go
theorem tk (k n : Int) (ks : List T) : (T.mk k n ks).kind = k := rfl
theorem tn (k n : Int) (ks : List T) : (T.mk k n ks).num = n := rfl
theorem tks (k n : Int) (ks : List T) : (T.mk k n ks).kids = ks := rfl
theorem zs3 {l : List D} {z : D} {i : Nat} (h : i < l.length) : (l.take i ++ List.replicate (l.length - i) z).set i l[i] = l.take (i + 1) ++ List.replicate (l.length - (i + 1)) z := by
  have e : l.length - i = (l.length - (i + 1)) + 1 := by omega
  rw [e, List.replicate_succ, List.set_append_right _ _ (by simp; omega)]
  have e2 : i - (l.take i).length = 0 := by simp; omega
  have e3 : l.take (i + 1) = l.take i ++ [l[i]] := by rw [List.take_add_one, List.getElem?_eq_getElem h]; rfl
  rw [e2, List.set_cons_zero, e3, List.append_assoc]
  rfl
end Ev
end Go.Proofs.YtncmainjcffanaaGreat
/- Terms, in plain numbers: zai, depths, right terms, scopes. -/
namespace Go.Proofs.YtncmainjcffanaaGreat
namespace Ev
open Go
attribute [local simp] tk tn tks
def zai : T → Nat | .mk _ _ ks => (ks.map zai).sum + 1
theorem ze6 {l : List Nat} {x : Nat} (h : x ∈ l) : x ≤ l.sum := by
  induction l with
  | nil => cases h
  | cons y l ih =>
    rw [List.sum_cons]
    rcases List.mem_cons.1 h with rfl | h
    · omega
    · have := ih h; omega
theorem zfo {k n : Int} {ks : List T} {x : T} (h : x ∈ ks) : zai x + 1 ≤ zai (.mk k n ks) := by
  rw [zai]
  have := ze6 (List.mem_map.2 ⟨x, h, rfl⟩ : zai x ∈ ks.map zai)
  omega
theorem zgg (k i : Int) : 0 ≤ zan k i ∧ zan k i ≤ 1 := by
  rw [zan]
  split <;> omega
inductive Slim : T → Prop
  | mk (k n : Int) (ks : List T) (hl : ks.length ≤ 1000) (h : ∀ x ∈ ks, Slim x) : Slim (.mk k n ks)
theorem Slim.kids {k n : Int} {ks : List T} (h : Slim (.mk k n ks)) : ks.length ≤ 1000 ∧ ∀ x ∈ ks, Slim x := by
  cases h with
  | mk _ _ _ h1 h2 => exact ⟨h1, h2⟩
theorem zNe (k : Int) : zho k ≤ 3 := by
  rw [zho]
  repeat' split
  all_goals omega
theorem zf4 {k n : Int} {ks : List T} (h1 : k = 1) (hfm : zaf (.mk k n ks) = true) : 0 ≤ n ∧ n ≤ 65535 := by
  rw [zcb, h1] at hfm
  have h0 : zho 1 = 0 := rfl
  rw [h0] at hfm
  split at hfm
  · simp only [if_true, Bool.and_eq_true] at hfm
    exact (zf0 _ _ _).1 hfm.1
  · cases hfm
theorem zdt {k n : Int} {ks : List T} (hfm : zaf (.mk k n ks) = true) : ∀ x ∈ ks, zaf x = true := by
  rw [zcb] at hfm
  refine List.all_eq_true.1 ?_
  split at hfm
  · split at hfm
    · rw [Bool.and_eq_true] at hfm; exact hfm.2
    · split at hfm
      · exact hfm
      · cases hfm
  · cases hfm
theorem zLy (t : T) : zaf t = true → Slim t := by
  refine T.ind (p := fun t => zaf t = true → Slim t) ?_ t
  intro k n ks ih h
  rw [zcb] at h
  have hk := zNe k
  by_cases h1 : (ks.length : Int) = zho k
  · rw [if_pos h1] at h
    have ha : ks.all zaf = true := by
      by_cases h2 : zho k = 0
      · rw [if_pos h2, Bool.and_eq_true] at h; exact h.2
      · rw [if_neg h2] at h
        by_cases h3 : n = 0
        · rw [if_pos h3] at h; exact h
        · rw [if_neg h3] at h; cases h
    exact .mk k n ks (by omega) fun x hx => ih x hx (List.all_eq_true.1 ha x hx)
  · rw [if_neg h1] at h; cases h
theorem zJd {t : T} (h : zbp t = 0) : zaf t = true := by
  rw [zbp] at h
  split at h
  · simp at h
  · split at h
    · simp at h
    · split at h
      · assumption
      · simp at h
theorem zev {n : Int} (h1 : -9223372036854775808 ≤ n) (h2 : n < 9223372036854775808) : w64 n = n := zab h1 (by omega)
def dmax (l : List Nat) : Nat := l.foldr max 0
def zle : T → Nat | .mk _ _ ks => dmax (ks.map zle) + 1
theorem zTm (a b : Int) : mx a b = max a b := by rw [mx]; split <;> omega
theorem zxy : ∀ (l : List T) (a : Int), 0 ≤ a → a + (l.map zai).sum ≤ 1099511627776 → (∀ x ∈ l, zhn x = zai x) → (l.map zhn).foldl (fun a s => w64 (a + s)) a = a + (l.map zai).sum
  | [], a, _, _, _ => by simp
  | x :: xs, a, h0, hb, h => by
    have hx := h x (by simp)
    simp only [List.map_cons, List.foldl_cons, List.sum_cons] at hb ⊢
    rw [hx, zev (by omega) (by omega), zxy xs (a + zai x) (by omega) (by omega) fun y hy => h y (by simp [hy])]
    omega
theorem zI0 (t : T) : zai t ≤ 1099511627776 → zhn t = zai t := by
  refine T.ind (p := fun t => zai t ≤ 1099511627776 → zhn t = zai t) ?_ t
  intro k n ks ih hb
  have hk : ∀ x ∈ ks, zhn x = zai x := fun x hx => ih x hx (by have := zfo (k := k) (n := n) hx; omega)
  rw [zai] at hb
  rw [zhn, zxy ks 1 (by omega) (by omega) hk, zai]
  omega
theorem zPa {l : List Nat} {m : Nat} (h : ∀ x ∈ l, x ≤ m) : dmax l ≤ m := by
  induction l with
  | nil => simp [dmax]
  | cons y l ih =>
    have h1 := h y (by simp)
    have h2 := ih fun x hx => h x (by simp [hx])
    simp only [dmax, List.foldr_cons] at h2 ⊢
    omega
theorem zAn (t : T) : zle t ≤ zai t := by
  refine T.ind (p := fun t => zle t ≤ zai t) ?_ t
  intro k n ks ih
  rw [zle, zai]
  have : dmax (ks.map zle) ≤ (ks.map zai).sum := zPa fun x hx => by
    obtain ⟨y, hy, rfl⟩ := List.mem_map.1 hx
    have := ze6 (List.mem_map.2 ⟨y, hy, rfl⟩ : zai y ∈ ks.map zai)
    have := ih y hy
    omega
  omega
theorem zzd : ∀ (l : List T) (a : Int), 0 ≤ a → (∀ x ∈ l, zd7 x = zle x) → (l.map zd7).foldl mx a = max a (dmax (l.map zle))
  | [], a, h0, _ => by simp [dmax]; omega
  | x :: xs, a, h0, h => by
    have hx := h x (by simp)
    simp only [List.map_cons, List.foldl_cons, dmax, List.foldr_cons]
    rw [hx, zTm, zzd xs _ (by omega) fun y hy => h y (by simp [hy])]
    simp only [dmax]
    omega
theorem zGk (t : T) : zai t ≤ 1099511627776 → zd7 t = zle t := by
  refine T.ind (p := fun t => zai t ≤ 1099511627776 → zd7 t = zle t) ?_ t
  intro k n ks ih hb
  have hk : ∀ x ∈ ks, zd7 x = zle x := fun x hx => ih x hx (by have := zfo (k := k) (n := n) hx; omega)
  have hd := zAn (.mk k n ks)
  rw [zle] at hd
  rw [zd7, zzd ks 0 (by omega) hk, zle, zev (by omega) (by omega)]
  omega
theorem zzv (k n : Int) : zai (.mk k n []) = 1 := by rw [zai]; rfl
theorem zta {k n : Int} {ks : List T} (h1 : k = 1) (hfm : zaf (.mk k n ks) = true) : ks = [] := by
  rw [zcb, h1] at hfm
  have h0 : zho 1 = 0 := rfl
  rw [h0] at hfm
  split at hfm
  · exact List.length_eq_zero_iff.1 (by omega)
  · cases hfm
theorem zDk {t : T} (h : zai t ≤ 1048576) : zbp t = 0 ↔ zai t ≤ 6000 ∧ zle t ≤ 200 ∧ zaf t = true := by
  rw [zbp, zI0 _ (by omega), zGk _ (by omega)]
  by_cases h1 : (6000 : Int) < zai t
  · rw [if_pos h1]
    constructor
    · intro h; cases h
    · omega
  · rw [if_neg h1]
    by_cases h2 : (200 : Int) < zle t
    · rw [if_pos h2]
      constructor
      · intro h; cases h
      · omega
    · rw [if_neg h2]
      cases zaf t
      · simp
      · simp; omega
theorem zzu (k n : Int) (a b : T) : zai (.mk k n [a, b]) = zai a + zai b + 1 := by rw [zai]; simp
theorem zzf (t : T) : zai t ≤ bulk (eT t) := by
  refine T.ind (p := fun t => zai t ≤ bulk (eT t)) ?_ t
  intro k n ks ih
  rw [zai, zbq]
  simp only [cT, tks, bulk, List.map_cons, List.map_nil, List.sum_cons, List.sum_nil, List.map_map]
  have : ∀ l : List T, (∀ x ∈ l, zai x ≤ bulk (eT x)) → (l.map zai).sum ≤ (l.map (bulk ∘ eT)).sum := by
    intro l
    induction l with
    | nil => intro _; simp
    | cons x xs ihx =>
      intro h
      have h1 := h x (by simp)
      have h2 := ihx fun y hy => h y (by simp [hy])
      simp only [List.map_cons, List.sum_cons, Function.comp] at h2 ⊢
      omega
  have := this ks ih
  omega
theorem zw3 (t : T) : zai t ≤ bulk (.agg (cT t)) := by rw [← zbq]; exact zzf t
mutual
def wiT : T → Int → Int → Bool
  | .mk k n ks, v, c => if k = 1 then decide (n < v) else if k = 2 then decide (n ≤ 6) else if k = 3 then decide (n < c) else wiL k v c 0 ks
def wiL (k v c : Int) : Nat → List T → Bool
  | _, [] => true
  | i, x :: xs => wiT x (v + zan k i) c && wiL k v c (i + 1) xs
end
theorem zCx (c : Int) (t : T) : ∀ v : Int, 0 ≤ v → v + zai t ≤ 4194304 → zcr t v c = wiT t v c := by
  refine T.ind (p := fun t => ∀ v : Int, 0 ≤ v → v + zai t ≤ 4194304 → zcr t v c = wiT t v c) ?_ t
  intro k n ks ih v h0 hb
  rw [zcr, wiT]
  split
  · rfl
  split
  · rfl
  split
  · rfl
  have go : ∀ (l : List T) (i : Nat), (∀ x ∈ l, x ∈ ks) → zhx k v c i l = wiL k v c i l := by
    intro l
    induction l with
    | nil => intro i _; rw [zhx, wiL]
    | cons x xs ihx =>
      intro i hm
      have hx := hm x (by simp)
      have hxn := zfo (k := k) (n := n) hx
      have hbl := zgg k i
      rw [zhx, wiL, zev (by omega) (by omega), ih x hx _ (by omega) (by omega), ihx (i + 1) fun y hy => hm y (by simp [hy])]
  exact go ks 0 fun x hx => hx
theorem zOo (k v c : Int) : ∀ (l : List T) (i : Nat), wiL k v c i l = true ↔ ∀ (j : Nat) (hj : j < l.length), wiT l[j] (v + zan k (i + j : Nat)) c = true
  | [], i => by simp [wiL]
  | x :: xs, i => by
    rw [wiL, Bool.and_eq_true, zOo k v c xs (i + 1)]
    constructor
    · rintro ⟨h1, h2⟩ j hj
      cases j with
      | zero => simpa using h1
      | succ j =>
        have := h2 j (by simpa using hj)
        rw [show i + 1 + j = i + (j + 1) by omega] at this
        simpa using this
    · intro h
      refine ⟨h 0 (Nat.succ_pos _), fun j hj => ?_⟩
      have := h (j + 1) (by simpa using hj)
      rw [show i + (j + 1) = i + 1 + j by omega] at this
      simpa using this
theorem zNx {t : T} {v : Int} (h0 : 0 ≤ v) (h1 : v ≤ 65536) (hn : zai t ≤ 1048576) : zmp t v 65536 = true ↔ zbp t = 0 ∧ wiT t v 65536 = true := by
  rw [zmp, if_neg (by omega), if_neg (by omega), if_neg (show ¬65536 < v by omega), zCx 65536 t v h0 (by omega)]
  by_cases h : zbp t = 0
  · rw [if_pos h]; simp [h]
  · rw [if_neg h]; simp [h]
end Ev
end Go.Proofs.YtncmainjcffanaaGreat
/- slices.Reverse on a row of one's own. -/
namespace Go.Proofs.YtncmainjcffanaaGreat
namespace Ev
open Go
attribute [local simp] zac zag zc4 zdf
def swp (xs : List T) : Nat → List T
  | 0 => xs
  | i + 1 => match (swp xs i)[i]?, (swp xs i)[xs.length - 1 - i]? with
    | some a, some b => ((swp xs i).set i b).set (xs.length - 1 - i) a
    | _, _ => swp xs i
theorem zus (xs : List T) : ∀ i, (swp xs i).length = xs.length
  | 0 => rfl
  | i + 1 => by
    rw [swp]
    split
    · rw [List.length_set, List.length_set, zus xs i]
    · exact zus xs i
theorem zKa (xs : List T) : ∀ (i : Nat), 2 * i ≤ xs.length → ∀ (q : Nat) (hq : q < xs.length), (swp xs i)[q]? = if q < i ∨ xs.length - i ≤ q then xs[xs.length - 1 - q]? else xs[q]?
  | 0, _, q, hq => by
    rw [swp, if_neg (by omega)]
  | i + 1, h2, q, hq => by
    have ih := zKa xs i (by omega)
    have h3 : i < (swp xs i).length := by rw [zus]; omega
    have h4 : xs.length - 1 - i < (swp xs i).length := by rw [zus]; omega
    have g1 : (swp xs i)[i]? = some (xs[i]'(by omega)) := by rw [ih i (by omega), if_neg (by omega), List.getElem?_eq_getElem (by omega)]
    have g2 : (swp xs i)[xs.length - 1 - i]? = some (xs[xs.length - 1 - i]'(by omega)) := by rw [ih (xs.length - 1 - i) (by omega), if_neg (by omega), List.getElem?_eq_getElem (by omega)]
    rw [swp, g1, g2]
    simp only
    rw [List.getElem?_set]
    by_cases c1 : xs.length - 1 - i = q
    · rw [if_pos c1, if_pos (by rw [List.length_set]; exact h4), if_pos (by omega), List.getElem?_eq_getElem (by omega)]
      congr 2
      omega
    · rw [if_neg c1, List.getElem?_set]
      by_cases c2 : i = q
      · subst c2
        rw [if_pos rfl, if_pos h3, if_pos (by omega), List.getElem?_eq_getElem (by omega)]
      · rw [if_neg c2, ih q hq]
        by_cases c3 : q < i ∨ xs.length - i ≤ q
        · rw [if_pos c3, if_pos (by omega)]
        · rw [if_neg c3, if_neg (by omega)]
theorem zR4 (xs : List T) : swp xs (xs.length / 2) = xs.reverse := by
  apply List.ext_getElem?
  intro q
  rcases Nat.lt_or_ge q xs.length with hq | hq
  · rw [zKa xs _ (by omega) q hq, List.getElem?_reverse hq]
    split
    · rfl
    · have : q = xs.length - 1 - q := by omega
      rw [← this]
  · rw [List.getElem?_eq_none (by rw [zus]; exact hq), List.getElem?_eq_none (by rw [List.length_reverse]; exact hq)]
def revH (k v : Nat) (xs : List T) : Nat → Ent := fun q => if q = k then ⟨v, .row 3 (xs.map eT) false⟩ else ⟨0, .dead⟩
theorem zFb (k v : Nat) (xs : List T) (hl : xs.length ≤ 1000000000) : MutC Tryz.prog zjq [.rsl k v] [k] (revH k v xs) [] (revH k v xs.reverse) := by
  refine zS0 hm Tryz.func208 zpg rfl ?_ fun G h w vs hk hlen hr => ?_
  · intro q hq
    simp only [revH]
    split <;> trivial
  have e1 : h k = ⟨v, .row 3 (xs.map eT) false⟩ := by rw [hk k (by simp)]; simp [revH]
  have w0 : IntKind.i64.wrap ((xs.length : Int) - 1) = (xs.length : Int) - 1 := zab (by omega) (by omega)
  simp -dsimp [zjt, e1, w0]
  refine zaj (xs.length / 2) (fun i st => st.s 0 = .rsl k v ∧ st.h k = ⟨v, .row 3 ((swp xs i).map eT) false⟩ ∧ st.s 2 = .d (.int .i64 i) ∧ st.s 3 = .d (.int .i64 ((xs.length : Int) - 1 - i))) ?_ ?_
  · simp -dsimp [e1, swp]
  · rintro i ⟨s, hp⟩ hi ⟨g1, g2, g3, g4⟩
    dsimp only at g1 g2 g3 g4
    rcases Nat.lt_or_ge i (xs.length / 2) with hlt | hge
    · obtain ⟨m, hm⟩ : ∃ m : Nat, xs.length = m + 1 + i := ⟨xs.length - 1 - i, by omega⟩
      have hmi : (xs.length : Int) - 1 - i = (m : Int) := by omega
      have hmn : xs.length - 1 - i = m := by omega
      rw [hmi] at g4
      have him : i < m := by omega
      have w1 : IntKind.i64.wrap ((i : Int) + 1) = (i : Int) + 1 := zab (by omega) (by omega)
      have w2 : IntKind.i64.wrap ((m : Int) - 1) = (xs.length : Int) - 1 - ((i : Int) + 1) := by rw [zab (by omega) (by omega)]; omega
      have hsl := zus xs i
      have hi1 : i < (swp xs i).length := by omega
      have hm1 : m < (swp xs i).length := by omega
      have hnx : swp xs (i + 1) = ((swp xs i).set i (swp xs i)[m]).set m (swp xs i)[i] := by
        rw [swp, hmn, List.getElem?_eq_getElem hi1, List.getElem?_eq_getElem hm1]
      rw [hnx]
      generalize swp xs i = Y at g2 hsl hi1 hm1
      simp -dsimp [g1, g2, g3, g4, hi1, hm1, him, w1, w2, zbq, cT]
      exact hlt
    · have e : i = xs.length / 2 := by omega
      rw [e, zR4] at g2
      have c1 : ¬ (i : Int) < (xs.length : Int) - 1 - (i : Int) := by omega
      simp -dsimp [g1, g2, g3, g4, c1, revH]
end Ev
end Go.Proofs.YtncmainjcffanaaGreat
/- tele: twins, spines. -/
namespace Go.Proofs.YtncmainjcffanaaGreat
namespace Ev
open Go
attribute [local simp] zac zag tk tn tks
theorem zKm (l : List T) (hl : l.length * 40 ≤ 140737488351232) (h : ∀ x ∈ l, Pure Tryz.prog zc8 [.agg (cT x)] [.agg (cT x)]) : Pure Tryz.prog zlt [eTs l] [eTs l] := by
  refine zC0 rfl fun hs => ?_
  simp -dsimp [zlw, eTs]
  by_cases hz : l = []
  · subst hz
    simp -dsimp
  simp -dsimp [hz]
  have r1 : (l.length : Int) * 40 ≤ (zah : Int) := by simp only [zah]; omega
  have r2 : l.length ≤ zah := by simp only [zah]; omega
  simp -dsimp [hz, r1, r2]
  refine zaj l.length (fun i st => st.s 0 = .d (.sl 3 (l.map eT)) ∧ st.s 3 = .rsl 10 1 ∧ st.s 12 = .d (.int .i64 l.length) ∧ st.s 13 = .d (.int .i64 i) ∧
    st.h 10 = ⟨1, .row 3 ((l.map eT).take i ++ List.replicate (l.length - i) (D.agg [.int .i64 0, .int .i64 0, .sl 3 []])) false⟩) ?_ ?_
  · simp -dsimp
  · rintro i ⟨s, hp⟩ hi ⟨g1, g2, g3, g4, g5⟩
    dsimp only at g1 g2 g3 g4 g5
    rcases Nat.lt_or_ge i l.length with hlt | hge
    · have w1 : IntKind.i64.wrap ((i : Int) + 1) = (i : Int) + 1 := zab (by omega) (by omega)
      simp -dsimp [g1, g2, g3, g4, g5, hlt, cT]
      refine zaa (h l[i] (List.getElem_mem _)) ?_
      have q1 : (i : Int) < ((min i l.length : Nat) : Int) + ((l.length - i : Nat) : Int) := by omega
      have q2 : i < min i l.length + (l.length - i) := by omega
      have hle : (l.map eT).length = l.length := List.length_map ..
      have hfn := zs3 (l := l.map eT) (z := D.agg [.int .i64 0, .int .i64 0, .sl 3 []]) (i := i) (by rw [hle]; exact hlt)
      have hel : (l.map eT)[i]'(by rw [hle]; exact hlt) = .agg (cT l[i]) := by rw [List.getElem_map, zbq]
      rw [hel, hle] at hfn
      simp only [cT] at hfn
      simp -dsimp [g1, g2, g3, g4, g5, hlt, w1, q1, q2, cT, hfn]
    · have e : i = l.length := by omega
      subst e
      have ht : (l.map eT).take l.length = l.map eT := List.take_of_length_le (by rw [List.length_map]; exact Nat.le_refl _)
      rw [ht, Nat.sub_self, List.replicate_zero, List.append_nil] at g5
      simp -dsimp [g1, g2, g3, g4, g5]
theorem zqa (t : T) : okT t → Pure Tryz.prog zc8 [.agg (cT t)] [.agg (cT t)] := by
  refine T.ind (p := fun t => okT t → Pure Tryz.prog zc8 [.agg (cT t)] [.agg (cT t)]) ?_ t
  intro k n ks ih h
  obtain ⟨h1, h2⟩ := h.kids
  refine zE0 rfl fun hs => ?_
  simp -dsimp [znv, cT]
  refine zaa (zKm ks h1 fun x hx => ih x hx (h2 x hx)) ?_
  simp -dsimp [eTs]
def twoB (t : T) (k : Int) : Bool := decide (t.kind = k) && decide (t.kids.length = 2)
theorem zUd (t : T) (k : Int) : Pure Tryz.prog zug [.agg (cT t), .int .i64 k] [.bool (twoB t k)] := by
  refine zIk rfl fun hs => ?_
  simp -dsimp [zuk, cT, twoB]
  (first | refine zal ?_ ?_ | refine zam ?_ ?_) <;> intro h1 <;> (try simp only [nrm] at h1) <;> simp -dsimp [h1]
  omega
theorem zGv {k n : Int} {ks : List T} : twoB (.mk k n ks) 6 = true ↔ k = 6 ∧ ∃ a b, ks = [a, b] := by
  show (decide (k = 6) && decide (ks.length = 2)) = true ↔ _
  rw [Bool.and_eq_true, decide_eq_true_eq, decide_eq_true_eq]
  constructor
  · rintro ⟨h1, h2⟩
    match ks, h2 with
    | [a, b], _ => exact ⟨h1, a, b, rfl⟩
  · rintro ⟨h1, a, b, rfl⟩
    exact ⟨h1, rfl⟩
def spA : T → List T
  | .mk k _ ks => if k = 6 then match ks with
    | [a, b] => b :: spA a
    | _ => [] else []
def spH : T → T
  | .mk k n ks => if k = 6 then match ks with
    | [a, _] => spH a
    | _ => .mk k n ks else .mk k n ks
theorem zgo {k n : Int} {ks : List T} (hc : ¬ (k = 6 ∧ ∃ a b, ks = [a, b])) : spA (.mk k n ks) = [] ∧ spH (.mk k n ks) = .mk k n ks := by
  match ks, hc with
  | [], _ => simp [spA, spH]
  | [_], _ => simp [spA, spH]
  | [a, b], hc =>
    have h1 : ¬ k = 6 := fun h1 => hc ⟨h1, a, b, rfl⟩
    simp [spA, spH, h1]
  | _ :: _ :: _ :: _, _ => simp [spA, spH]
theorem ziv (n : Int) (a b : T) : spA (.mk 6 n [a, b]) = b :: spA a ∧ spH (.mk 6 n [a, b]) = spH a := by simp [spA, spH]
end Ev
end Go.Proofs.YtncmainjcffanaaGreat
/- tele: spines taken apart. -/
namespace Go.Proofs.YtncmainjcffanaaGreat
namespace Ev
open Go
attribute [local simp] zac zag tk tn tks
theorem zww (t : T) (hb : (spA t).length ≤ 1000000) : Pure Tryz.prog zhm [.agg (cT t)] [.agg (cT (spH t)), eTs (spA t).reverse] := by
  refine zDh rfl fun hs => ?_
  simp -dsimp [zor, cT]
  refine zaj (spA t).length (fun i st => st.s 2 = .ptr 2 1 0 ∧ st.h 2 = ⟨1, .box [.d (.int .i64 0), .d (.int .i64 0), .fsl 3 []] false⟩ ∧ st.s 1 = .ptr 1 1 0 ∧ ∃ (cur : T) (L : List T),
    st.h 1 = ⟨1, .box [.d (.int .i64 cur.kind), .d (.int .i64 cur.num), .d (.sl 3 (cur.kids.map eT))] false⟩ ∧ L ++ spA cur = spA t ∧ L.length = i ∧ spH cur = spH t ∧
    st.s 4 = .rsl 4 (1 + i) ∧ st.h 4 = ⟨1 + i, .row 3 (L.map eT) false⟩) ?_ ?_
  · simp -dsimp
    exact ⟨t, ⟨rfl, rfl, rfl⟩, [], by simp⟩
  · rintro i ⟨s, hp⟩ hi ⟨g1, g2, g3, cur, L, g4, g5, g6, g7, g8, g9⟩
    dsimp only at g1 g2 g3 g4 g8 g9
    have htw := zUd cur 6
    obtain ⟨k, n, ks⟩ := cur
    simp only [cT, tk, tn, tks] at htw g4
    have hL : L.length ≤ (spA t).length := by rw [← g5, List.length_append]; omega
    by_cases hc : k = 6 ∧ ∃ a b, ks = [a, b]
    · have hd := zGv (n := n) |>.2 hc
      rw [hd] at htw
      obtain ⟨rfl, a, b, rfl⟩ := hc
      rw [(ziv n a b).1] at g5
      rw [(ziv n a b).2] at g7
      have hlt : i < (spA t).length := by rw [← g5, List.length_append, List.length_cons]; omega
      simp -dsimp [g1, g2, g3, g4, g8, g9]
      refine zaa htw ?_
      have hr : (L.length + 1) * 40 ≤ zah := by simp only [zah]; omega
      simp -dsimp [g1, g2, g3, g4, g8, g9, hr, zbq, cT]
      exact ⟨hlt, a, ⟨rfl, rfl, rfl⟩, L ++ [b], by simp [g5], by simp [g6], g7, by omega, by simp [zbq, cT]⟩
    · have hd : twoB (.mk k n ks) 6 = false := by
        cases h : twoB (.mk k n ks) 6 with
        | false => rfl
        | true => exact absurd (zGv.1 h) hc
      have e1 := zgo (n := n) hc
      rw [e1.1, List.append_nil] at g5
      rw [e1.2] at g7
      subst g5
      rw [hd] at htw
      simp -dsimp [g1, g2, g3, g4, g8, g9]
      refine zaa htw ?_
      simp -dsimp [g1, g2, g3, g4, g8, g9]
      refine zN5 (zFb 4 (1 + i) (spA t) (by omega)) ?_ ?_
      · simp [revH, g9]
      simp -dsimp [zE3, zG1, revH, g1, g2, g3, g4, g8, g9, ← g7]
      simp [eTs, List.map_reverse]
def spT (f : T) (l : List T) : T := l.foldl (fun o a => .mk 6 0 [o, a]) f
theorem zM9 (n : Int) : Pure Tryz.prog zc6 [.int .i64 n] [.agg (cT (.mk 3 n []))] := by
  refine zx4 rfl fun hs => ?_
  simp -dsimp [zkx, cT]
theorem zRi (n : Int) : Pure Tryz.prog zeh [.int .i64 n] [.agg (cT (.mk 1 n []))] := by
  refine zyf rfl fun hs => ?_
  simp -dsimp [zk8, cT]
theorem zSj (n : Int) : Pure Tryz.prog zfz [.int .i64 n] [.agg (cT (.mk 2 n []))] := by
  refine zw1 rfl fun hs => ?_
  simp -dsimp [zlj, cT]
theorem v_ok (n : Int) : Pure Tryz.prog zpz [.int .i64 n] [.agg (cT (.mk 1 n []))] := by
  refine zN2 rfl fun hs => ?_
  simp -dsimp [zAd, cT]
theorem zt7 (k : Int) (l : List T) : Pure Tryz.prog zno [.int .i64 k, .sl 3 (l.map eT)] [.agg [.int .i64 k, .int .i64 0, .sl 3 (l.map eT)]] := by
  refine zEw rfl fun hs => ?_
  simp -dsimp [zq0, cT]
theorem zkk (f : T) (l : List T) (hl : l.length ≤ 100000000) (hf : okT f) (ho : okTs l) : Pure Tryz.prog zcl [.agg (cT f), eTs l] [.agg (cT (spT f l))] := by
  refine zCu rfl fun hs => ?_
  simp -dsimp [zlq, cT, eTs]
  refine zaa (zqa f hf) ?_
  simp -dsimp [cT]
  refine zaj l.length (fun i st => st.s 4 = .ptr 4 1 0 ∧ st.h 4 = ⟨1, .box [.d (.int .i64 0), .d (.int .i64 0), .fsl 3 []] false⟩ ∧ st.s 10 = .d (.sl 3 (l.map eT)) ∧ st.s 11 = .d (.int .i64 l.length) ∧ st.s 12 = .d (.int .i64 i) ∧
    st.s 5 = .ptr 5 1 0 ∧ ∃ cs, st.h 5 = ⟨1, .box [.d (.int .i64 (spT f (l.take i)).kind), .d (.int .i64 (spT f (l.take i)).num), cs] false⟩ ∧ (cs = .d (.sl 3 ((spT f (l.take i)).kids.map eT)) ∨ cs = .fsl 3 ((spT f (l.take i)).kids.map eT))) ?_ ?_
  · simp -dsimp [spT]
  · rintro i ⟨s, hp⟩ hi ⟨g1, g2, g3, g4, g5, g6, cs, g7, g8⟩
    dsimp only at g1 g2 g3 g4 g5 g6 g7
    rcases Nat.lt_or_ge i l.length with hlt | hge
    · have w1 : IntKind.i64.wrap ((i : Int) + 1) = (i : Int) + 1 := zab (by omega) (by omega)
      have hnx : spT f (l.take (i + 1)) = .mk 6 0 [spT f (l.take i), l[i]] := by
        have e : l.take (i + 1) = l.take i ++ [l[i]] := by rw [List.take_add_one, List.getElem?_eq_getElem hlt]; rfl
        rw [spT, e, List.foldl_append]
        rfl
      rw [hnx]
      generalize spT f (l.take i) = Y at g7 g8
      have hnode := zt7 6 [Y, l[i]]
      simp only [List.map_cons, List.map_nil, zbq, cT] at hnode
      rcases g8 with rfl | rfl
      · simp -dsimp [g1, g2, g3, g4, g5, g6, g7, hlt, cT]
        refine zaa (zqa l[i] (ho.2 _ (List.getElem_mem _))) ?_
        simp -dsimp [g1, g2, g3, g4, g5, g6, g7, hlt, cT]
        refine zaa hnode ?_
        simp -dsimp [g1, g2, g3, g4, g5, g6, g7, hlt, w1, zbq, cT]
      · simp -dsimp [g1, g2, g3, g4, g5, g6, g7, hlt, cT]
        refine zaa (zqa l[i] (ho.2 _ (List.getElem_mem _))) ?_
        simp -dsimp [g1, g2, g3, g4, g5, g6, g7, hlt, cT]
        refine zaa hnode ?_
        simp -dsimp [g1, g2, g3, g4, g5, g6, g7, hlt, w1, zbq, cT]
    · have e : i = l.length := by omega
      subst e
      rw [List.take_length] at g7 g8
      rcases g8 with rfl | rfl
      · simp -dsimp [g1, g2, g3, g4, g5, g6, g7]
      · simp -dsimp [g1, g2, g3, g4, g5, g6, g7]
end Ev
end Go.Proofs.YtncmainjcffanaaGreat
/- tele: variables; TeleVars. -/
namespace Go.Proofs.YtncmainjcffanaaGreat
namespace Ev
open Go
attribute [local simp] zac zag tk tn tks
def tV (n : Int) : T := .mk 1 n []
def zgs (n : Nat) : List T := (List.range n).map fun (i : Nat) => tV ((n : Int) - 1 - (i : Int))
theorem zs8 (n : Nat) : (zgs n).length = n := by simp [zgs]
theorem zD1 (n i : Nat) (h : i < (zgs n).length) : (zgs n)[i] = tV ((n : Int) - 1 - i) := by simp [zgs]
def zAv (n : Int) : List T := if n < 1 ∨ 65536 < n then [] else zgs n.toNat
theorem zQa (n : Int) : Pure Tryz.prog zr1 [.int .i64 n] [eTs (zAv n)] := by
  refine zEy rfl fun hs => ?_
  simp -dsimp [zrb]
  (first | refine zal ?_ ?_ | refine zam ?_ ?_) <;> intro h1 <;> (try simp only [nrm] at h1) <;> simp -dsimp [h1]
  · have : zAv n = [] := by rw [zAv, if_pos (.inl h1)]
    simp -dsimp [this, eTs]
  (first | refine zal ?_ ?_ | refine zam ?_ ?_) <;> intro h2 <;> (try simp only [nrm] at h2) <;> simp -dsimp [h2, h1]
  · have : zAv n = [] := by rw [zAv, if_pos (.inr h2)]
    simp -dsimp [this, eTs]
  obtain ⟨m, rfl⟩ := Int.eq_ofNat_of_zero_le (show 0 ≤ n by omega)
  have hV : zAv (m : Int) = zgs m := by rw [zAv, if_neg (by omega)]; rfl
  rw [hV]
  have r1 : (m : Int) * 40 ≤ (zah : Int) := by simp only [zah]; omega
  have r2 : m ≤ zah := by simp only [zah]; omega
  have hvl := zs8 m
  simp -dsimp [h1, h2, r1, r2]
  refine zaj m (fun i st => st.s 0 = .d (.int .i64 m) ∧ st.s 3 = .rsl 12 1 ∧ st.s 14 = .d (.int .i64 m) ∧ st.s 15 = .d (.int .i64 i) ∧
    st.h 12 = ⟨1, .row 3 (((zgs m).map eT).take i ++ List.replicate (m - i) (D.agg [.int .i64 0, .int .i64 0, .sl 3 []])) false⟩) ?_ ?_
  · simp -dsimp
  · rintro i ⟨s, hp⟩ hi ⟨g1, g2, g3, g4, g5⟩
    dsimp only at g1 g2 g3 g4 g5
    rcases Nat.lt_or_ge i m with hlt | hge
    · have w0 : IntKind.i64.wrap ((m : Int) - 1) = (m : Int) - 1 := zab (by omega) (by omega)
      have w1 : IntKind.i64.wrap ((i : Int) + 1) = (i : Int) + 1 := zab (by omega) (by omega)
      have w2 : IntKind.i64.wrap ((m : Int) - 1 - i) = (m : Int) - 1 - i := zab (by omega) (by omega)
      simp -dsimp [g1, g2, g3, g4, g5, hlt, w0, w2]
      refine zaa (v_ok _) ?_
      have q1 : (i : Int) < ((min i m : Nat) : Int) + ((m - i : Nat) : Int) := by omega
      have q2 : i < min i m + (m - i) := by omega
      have hle : ((zgs m).map eT).length = m := by rw [List.length_map, hvl]
      have hfn := zs3 (l := (zgs m).map eT) (z := D.agg [.int .i64 0, .int .i64 0, .sl 3 []]) (i := i) (by rw [hle]; exact hlt)
      have hel : ((zgs m).map eT)[i]'(by rw [hle]; exact hlt) = .agg [.int .i64 1, .int .i64 ((m : Int) - 1 - i), .sl 3 []] := by
        rw [List.getElem_map, zD1, zbq]; simp [cT, tV]
      rw [hel, hle] at hfn
      simp -dsimp [g1, g2, g3, g4, g5, hlt, w0, w1, w2, q1, q2, hvl, cT, hfn]
    · have e : i = m := by omega
      subst e
      have ht : ((zgs i).map eT).take i = (zgs i).map eT := List.take_of_length_le (by rw [List.length_map, hvl]; exact Nat.le_refl _)
      rw [ht, Nat.sub_self, List.replicate_zero, List.append_nil] at g5
      simp -dsimp [g1, g2, g3, g4, g5, eTs]
theorem zkf {k n : Int} (hk : 0 ≤ k ∧ k ≤ 100000) (hn : 0 ≤ n ∧ n ≤ 100000) : okT (.mk k n []) := .mk k n [] (by simp only [n64]; omega) (by simp only [n64]; omega) (by simp) (by simp)
theorem zPf {n : Int} {a b : T} (ha : okT a) (hb : okT b) (hn : 0 ≤ n ∧ n ≤ 100000) : okT (.mk 6 n [a, b]) :=
  .mk 6 n [a, b] (by simp only [n64]; omega) (by simp only [n64]; omega) (by simp) (by intro x hx; simp at hx; rcases hx with rfl | rfl <;> assumption)
end Ev
end Go.Proofs.YtncmainjcffanaaGreat
