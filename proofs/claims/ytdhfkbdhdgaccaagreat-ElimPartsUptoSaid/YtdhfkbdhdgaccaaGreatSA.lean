/- Several texts in one. -/
import Derived.Test.YtdhfkbdhdgaccaaGreatX
import Derived.Test.YtdhfkbdhdgaccaaGreatEE
/- Terms, arguments, sorts, constructors, blocks as data. -/
namespace Go.Proofs.YtdhfkbdhdgaccaaGreat
namespace Ev
open Go

inductive T where
  | mk (kind num : Int) (kids : List T)
def T.kind : T → Int | .mk k _ _ => k
def T.num : T → Int | .mk _ n _ => n
def T.kids : T → List T | .mk _ _ ks => ks

def eT : T → D
  | .mk k n ks => .agg [.int .i64 k, .int .i64 n, .sl 3 (ks.map eT)]
def cT (t : T) : List D := [.int .i64 t.kind, .int .i64 t.num, .sl 3 (t.kids.map eT)]
theorem zcc (t : T) : eT t = .agg (cT t) := by cases t; rw [eT]; rfl
@[simp] theorem zr4 (t : T) : (eT t).cells = cT t := by rw [zcc]; rfl
def eTs (l : List T) : D := .sl 3 (l.map eT)

theorem T.ind {p : T → Prop} (h : ∀ k n ks, (∀ x ∈ ks, p x) → p (.mk k n ks)) : ∀ t, p t
  | .mk k n ks => h k n ks fun x _ => T.ind h x

structure Ar where
  rc : Bool
  ty : T
  dom : List T
  sort : Int
  idx : List T
def cAr (a : Ar) : List D := .bool a.rc :: cT a.ty ++ [eTs a.dom, .int .i64 a.sort, eTs a.idx]
def eAr (a : Ar) : D := .agg (cAr a)
def eArs (l : List Ar) : D := .sl 7 (l.map eAr)

structure So where
  idx : List Ar
  level : Int
  dec : Bool
  dty : T
def cSo (s : So) : List D := [eArs s.idx, .int .i64 s.level, .bool s.dec] ++ cT s.dty
def eSo (s : So) : D := .agg (cSo s)
def eSos (l : List So) : D := .sl 6 (l.map eSo)

structure Co where
  sort : Int
  args : List Ar
  idx : List T
  dec : T
def cCo (c : Co) : List D := [.int .i64 c.sort, eArs c.args, eTs c.idx] ++ cT c.dec
def eCo (c : Co) : D := .agg (cCo c)
def eCos (l : List Co) : D := .sl 6 (l.map eCo)

structure Bl where
  sorts : List So
  cons : List Co
  elim : Int
def cBl (b : Bl) : List D := [eSos b.sorts, eCos b.cons, .int .i64 b.elim]
def eBl (b : Bl) : D := .agg (cBl b)

def w64 (n : Int) : Int := IntKind.i64.wrap n
end Ev
end Go.Proofs.YtdhfkbdhdgaccaaGreat
/- Sizes and depths of terms; what is played. -/
namespace Go.Proofs.YtdhfkbdhdgaccaaGreat
namespace Ev
open Go
set_option maxRecDepth 100000
set_option linter.unusedSimpArgs false
set_option linter.unusedVariables false

def zfu : T → Int
  | .mk _ _ ks => (ks.map zfu).foldl (fun a s => w64 (a + s)) 1
def mx (a b : Int) : Int := if a < b then b else a
def zdd : T → Int
  | .mk _ _ ks => w64 ((ks.map zdd).foldl mx 0 + 1)
theorem zgn {t : T} (h : ∀ d ∈ [D.agg (cT t)], small 8 d) : t.kids.length ≤ 9223372036854775807 := by
  have := h (D.agg (cT t)) (by simp)
  simp -dsimp [cT, small] at this
  exact this.1

theorem zdb {α : Type} {l : List α} {i : Nat} {x : α} (h : l[i]? = some x) : l.take (i + 1) = l.take i ++ [x] := by simp -dsimp [List.take_add_one, h]

theorem zo6 {α β : Type} (f : β → α → β) (b : β) (l : List α) (i : Nat) (x : α) (h : l[i]? = some x) : (l.take (i + 1)).foldl f b = f ((l.take i).foldl f b) x := by
  rw [zdb h, List.foldl_append]; rfl

theorem zJo (t : T) : Pure Tryz.prog zcl [.agg (cT t)] [.int .i64 (zfu t)] := by
  refine T.ind (p := fun t => Pure Tryz.prog zcl [.agg (cT t)] [.int .i64 (zfu t)]) ?_ t
  intro k n ks ih
  refine zsh rfl fun hs => ?_
  have hl := zgn hs
  simp -dsimp [T.kids] at hl
  simp -dsimp [zha, cT, T.kind, T.num, T.kids]
  refine zam ks.length (fun i st => st.s 1 = .ptr 1 1 0 ∧ st.h 1 = ⟨1, .box [.d (.int .i64 k), .d (.int .i64 n), .d (.sl 3 (ks.map eT))] false⟩ ∧ st.s 4 = .d (.int .i64 i) ∧ st.s 3 = .d (.int .i64 (((ks.map zfu).take i).foldl (fun a s => w64 (a + s)) 1))) ?_ ?_
  · simp
  · rintro i ⟨s, hp⟩ hi ⟨h1, h2, h3, h4⟩
    dsimp only at h1 h2 h3 h4
    rcases Nat.lt_or_ge i ks.length with hlt | hge
    · have w1 : IntKind.i64.wrap ((i : Int) + 1) = (i : Int) + 1 := zad (by omega) (by omega)
      simp -dsimp [h1, h2, h3, h4, hlt, cT]
      refine zaa (ih ks[i] (List.getElem_mem _)) ?_
      have hf := zo6 (fun a s => w64 (a + s)) 1 (ks.map zfu) i (zfu ks[i]) (by simp [hlt])
      simp -dsimp [h1, h2, h3, h4, hlt, w1, hf]
      rfl
    · have e : i = ks.length := by omega
      subst e
      have ht : (ks.map zfu).take ks.length = ks.map zfu := List.take_of_length_le (by simp)
      simp -dsimp [h1, h2, h3, h4, zfu, ht]

theorem zE6 (l : List Int) (i : Nat) (x : Int) (h : l[i]? = some x) : (l.take (i + 1)).foldl mx 0 = mx ((l.take i).foldl mx 0) x := zo6 _ _ _ _ _ h

theorem zEs (t : T) : Pure Tryz.prog zcb [.agg (cT t)] [.int .i64 (zdd t)] := by
  refine T.ind (p := fun t => Pure Tryz.prog zcb [.agg (cT t)] [.int .i64 (zdd t)]) ?_ t
  intro k n ks ih
  refine zqq rfl fun hs => ?_
  have hl := zgn hs
  simp [T.kids] at hl
  simp -dsimp [zgf, cT, T.kind, T.num, T.kids]
  refine zam ks.length (fun i st => st.s 1 = .ptr 1 1 0 ∧ st.h 1 = ⟨1, .box [.d (.int .i64 k), .d (.int .i64 n), .d (.sl 3 (ks.map eT))] false⟩ ∧ st.s 4 = .d (.int .i64 i) ∧ st.s 3 = .d (.int .i64 (((ks.map zdd).take i).foldl mx 0))) ?_ ?_
  · simp -dsimp
  · rintro i ⟨s, hp⟩ hi ⟨h1, h2, h3, h4⟩
    dsimp only at h1 h2 h3 h4
    rcases Nat.lt_or_ge i ks.length with hlt | hge
    · have w1 : IntKind.i64.wrap ((i : Int) + 1) = (i : Int) + 1 := zad (by omega) (by omega)
      simp -dsimp [h1, h2, h3, h4, hlt, cT]
      refine zaa (ih ks[i] (List.getElem_mem _)) ?_
      have hf := zE6 (ks.map zdd) i (zdd ks[i]) (by simp [hlt])
      simp -dsimp [h1, h2, h3, h4, hlt, w1, hf]
      rfl
    · have e : i = ks.length := by omega
      subst e
      have ht : (ks.map zdd).take ks.length = ks.map zdd := List.take_of_length_le (by simp)
      simp -dsimp [h1, h2, h3, h4, zdd, ht]
      rfl

def zes (l : List T) : Bool := decide ((60 : Int) < (l.length : Int)) || l.any (fun t => decide (300 < zdd t)) || decide (9000 < (l.map zfu).foldl (fun a s => w64 (a + s)) 0)
theorem zov (l : List T) : Pure Tryz.prog za8 [eTs l] [.bool (zes l)] := by
  refine zpu rfl fun hs => ?_
  simp -dsimp [zgj, eTs]
  (first | refine zak ?_ ?_ | refine zaj ?_ ?_) <;> intro h1 <;> (try simp only [nrm] at h1) <;> simp -dsimp [h1, zes]
  have hl : l.length ≤ 60 := by omega
  refine zam l.length (fun i st => st.s 0 = .d (.sl 3 (l.map eT)) ∧ st.s 4 = .d (.int .i64 i) ∧ st.s 3 = .d (.int .i64 (((l.map zfu).take i).foldl (fun a s => w64 (a + s)) 0)) ∧ (l.take i).any (fun t => decide (300 < zdd t)) = false) ?_ ?_
  · simp -dsimp
  · rintro i ⟨s, hp⟩ hi ⟨h2, h3, h4, h5⟩
    dsimp only at h2 h3 h4 h5
    rcases Nat.lt_or_ge i l.length with hlt | hge
    · have w1 : IntKind.i64.wrap ((i : Int) + 1) = (i : Int) + 1 := zad (by omega) (by omega)
      simp -dsimp [h2, h3, h4, hlt, cT]
      refine zaa (zEs l[i]) ?_
      simp -dsimp [h2, h3, h4, hlt]
      (first | refine zak ?_ ?_ | refine zaj ?_ ?_) <;> intro h6 <;> (try simp only [nrm] at h6) <;> simp -dsimp [h6, zes]
      · exact .inl (.inr ⟨l[i], List.getElem_mem _, h6⟩)
      · simp -dsimp [h2, h3, h4, hlt, h6, cT]
        refine zaa (zJo l[i]) ?_
        have hf := zo6 (fun a s => w64 (a + s)) 0 (l.map zfu) i (zfu l[i]) (by simp [hlt])
        have h7 : (l.take (i + 1)).any (fun t => decide (300 < zdd t)) = false := by
          rw [zdb (List.getElem?_eq_getElem hlt), List.any_append, h5]
          simp [h6]
        simp -dsimp [h2, h3, h4, hlt, w1, hf]
        exact ⟨rfl, by simpa using h7⟩
    · have e : i = l.length := by omega
      subst e
      have ht : (l.map zfu).take l.length = l.map zfu := List.take_of_length_le (by simp)
      simp -dsimp [h2, h3, h4, zes, ht]
      rintro (h | ⟨x, hx, h⟩)
      · exact absurd h h1
      · rw [List.take_length] at h5
        have := List.any_eq_false.1 h5 x hx
        simp at this
        omega
end Ev
end Go.Proofs.YtdhfkbdhdgaccaaGreat
/- Kinds. -/
namespace Go.Proofs.YtdhfkbdhdgaccaaGreat
namespace Ev
open Go
set_option maxRecDepth 100000
set_option linter.unusedSimpArgs false
set_option linter.unusedVariables false

theorem zae (h : Nat → Ent) (n : Nat) (cs : List D) : allD (toD h n) (cs.map .d) = some cs := by
  induction cs with
  | nil => rfl
  | cons c cs ih => simp only [List.map_cons, allD, zJp, ih]
theorem zaf (h : Nat → Ent) (cs : List D) : sks h (cs.map .d) = [] := by
  induction cs with
  | nil => rfl
  | cons c cs ih => simp only [List.map_cons, sks, sk_d, ih, List.nil_append]

def isM (k : Int) : Bool := decide (1 ≤ k) && decide (k ≤ 13)
theorem is_ok (k : Int) : Pure Tryz.prog zv1 [.int .i64 k] [.bool (isM k)] := by
  refine zI3 rfl fun hs => ?_
  simp -dsimp [zwb]
  (first | refine zak ?_ ?_ | refine zaj ?_ ?_) <;> intro h1 <;> (try simp only [nrm] at h1) <;> simp -dsimp [h1, isM]

def zds (k : Int) : Int :=
  if k = 1 then 0 else if k = 2 then 0 else if k = 3 then 0 else if k = 9 then 1 else if k = 10 then 1 else if k = 8 then 3 else if k = 11 then 3 else if k = 13 then 3 else if isM k then 2 else -1
theorem zQ6 (k : Int) : Pure Tryz.prog zpz [.int .i64 k] [.int .i64 (zds k)] := by
  refine zDq rfl fun hs => ?_
  simp -dsimp [zqh]
  (first | refine zak ?_ ?_ | refine zaj ?_ ?_) <;> intro h1 <;> (try simp only [nrm] at h1) <;> simp -dsimp [h1, zds]
  (first | refine zak ?_ ?_ | refine zaj ?_ ?_) <;> intro h2 <;> (try simp only [nrm] at h2) <;> simp -dsimp [h2, zds, h1]
  (first | refine zak ?_ ?_ | refine zaj ?_ ?_) <;> intro h3 <;> (try simp only [nrm] at h3) <;> simp -dsimp [h3, zds, h1, h2]
  (first | refine zak ?_ ?_ | refine zaj ?_ ?_) <;> intro h4 <;> (try simp only [nrm] at h4) <;> simp -dsimp [h4, zds, h1, h2, h3]
  (first | refine zak ?_ ?_ | refine zaj ?_ ?_) <;> intro h5 <;> (try simp only [nrm] at h5) <;> simp -dsimp [h5, zds, h1, h2, h3, h4]
  (first | refine zak ?_ ?_ | refine zaj ?_ ?_) <;> intro h6 <;> (try simp only [nrm] at h6) <;> simp -dsimp [h6, zds, h1, h2, h3, h4, h5]
  (first | refine zak ?_ ?_ | refine zaj ?_ ?_) <;> intro h7 <;> (try simp only [nrm] at h7) <;> simp -dsimp [h7, zds, h1, h2, h3, h4, h5, h6]
  (first | refine zak ?_ ?_ | refine zaj ?_ ?_) <;> intro h8 <;> (try simp only [nrm] at h8) <;> simp -dsimp [h8, zds, h1, h2, h3, h4, h5, h6, h7]
  refine zaa (is_ok k) ?_
  simp -dsimp
  (first | refine zak ?_ ?_ | refine zaj ?_ ?_) <;> intro h9 <;> (try simp only [nrm] at h9) <;> simp -dsimp [h9, zds, h1, h2, h3, h4, h5, h6, h7, h8]

def idxI (n : Int) (l : List Int) : Int := match l.findIdx? (fun x => n == x) with
  | some i => i
  | none => -1
theorem zBi (l : List Int) (n : Int) : Pure Tryz.prog zhi [.sl 1 (l.map (.int .i64)), .int .i64 n] [.int .i64 (idxI n l)] := by
  refine zrq rfl fun hs => ?_
  have hl := hs (.sl 1 (l.map (.int .i64))) (by simp)
  simp [small] at hl
  simp -dsimp [zgy]
  refine zam l.length (fun i st => st.s 0 = .d (.sl 1 (l.map (.int .i64))) ∧ st.s 1 = .d (.int .i64 n) ∧ st.s 7 = .d (.int .i64 l.length) ∧ st.s 8 = .d (.int .i64 i) ∧ ∀ x ∈ l.take i, (n == x) = false) ?_ ?_
  · simp -dsimp
  · rintro i ⟨s, hp⟩ hi ⟨h1, h2, h3, h4, h5⟩
    dsimp only at h1 h2 h3 h4 h5
    rcases Nat.lt_or_ge i l.length with hlt | hge
    · have w1 : IntKind.i64.wrap ((i : Int) + 1) = (i : Int) + 1 := zad (by omega) (by omega)
      simp -dsimp [h1, h2, h3, h4, hlt]
      (first | refine zak ?_ ?_ | refine zaj ?_ ?_) <;> intro h6 <;> (try simp only [nrm] at h6) <;> simp -dsimp [h6, h1, h2, h3, h4, hlt, w1]
      · have : l.findIdx? (fun x => n == x) = some i := by
          rw [List.findIdx?_eq_some_iff_getElem]
          refine ⟨hlt, by simpa using h6, fun j hj => ?_⟩
          have := h5 l[j] (by rw [List.mem_take_iff_getElem]; exact ⟨j, by omega, rfl⟩)
          simpa using this
        rw [← h6]
        simp only [idxI, this]
      · intro x hx
        rw [zdb (List.getElem?_eq_getElem hlt), List.mem_append] at hx
        rcases hx with hx | hx
        · simpa using h5 x hx
        · simp at hx; subst hx; exact h6
    · have e : i = l.length := by omega
      subst e
      rw [List.take_length] at h5
      have : l.findIdx? (fun x => n == x) = none := by
        rw [List.findIdx?_eq_none_iff]; exact h5
      simp -dsimp [h1, h2, h3, h4, idxI, this]

theorem zxc (l : List Int) (n : Int) : Pure Tryz.prog zeu [.sl 1 (l.map (.int .i64)), .int .i64 n] [.bool (decide (0 ≤ idxI n l))] := by
  refine zn9 rfl fun hs => ?_
  simp -dsimp [ze1]
  refine zaa (zBi l n) ?_
  simp -dsimp

def zai (k i : Int) : Int := if i = 1 ∧ (k = 4 ∨ k = 5 ∨ k = 7) then 1 else 0
theorem zmk (k i : Int) : Pure Tryz.prog ze7 [.int .i64 k, .int .i64 i] [.int .i64 (zai k i)] := by
  refine zBz rfl fun hs => ?_
  simp -dsimp [zok]
  (first | refine zak ?_ ?_ | refine zaj ?_ ?_) <;> intro h1 <;> (try simp only [nrm] at h1) <;> simp -dsimp [h1, zai]
  refine zaa (zxc [4, 5, 7] k) ?_
  have hc : decide (0 ≤ idxI k [4, 5, 7]) = decide (k = 4 ∨ k = 5 ∨ k = 7) := by
    simp only [idxI, List.findIdx?_cons, List.findIdx?_nil]
    by_cases h4 : k = 4
    · simp [h4]
    · by_cases h5 : k = 5
      · simp [h5]
      · by_cases h7 : k = 7 <;> simp [h4, h5, h7]
  rw [hc]
  simp -dsimp [h1]
  (first | refine zak ?_ ?_ | refine zaj ?_ ?_) <;> intro h2 <;> (try simp only [nrm] at h2) <;> simp -dsimp [h2, zai, h1]
end Ev
end Go.Proofs.YtdhfkbdhdgaccaaGreat
/- slices.IndexFunc, slices.ContainsFunc; what a right term is. -/
namespace Go.Proofs.YtdhfkbdhdgaccaaGreat
namespace Ev
open Go
set_option maxRecDepth 100000
set_option linter.unusedSimpArgs false
set_option linter.unusedVariables false
attribute [local simp] zae zaf

@[simp] theorem zS4 (a : Ar) : (eAr a).cells = cAr a := rfl
@[simp] theorem zR2 (a : So) : (eSo a).cells = cSo a := rfl
@[simp] theorem zRw (a : Co) : (eCo a).cells = cCo a := rfl

def idxF {α : Type} (l : List α) (p : α → Bool) : Int := match l.findIdx? p with
  | some i => i
  | none => -1
theorem zDw {α : Type} (l : List α) (p : α → Bool) : decide (0 ≤ idxF l p) = l.any p := by
  cases h : l.findIdx? p with
  | none =>
    have h1 := List.findIdx?_eq_none_iff.1 h
    have h2 : l.any p = false := by rw [List.any_eq_false]; intro x hx; simp [h1 x hx]
    have h3 : idxF l p = -1 := by simp only [idxF, h]
    rw [h2, h3]; rfl
  | some i =>
    obtain ⟨hi, hp, _⟩ := List.findIdx?_eq_some_iff_getElem.1 h
    have h2 : l.any p = true := List.any_eq_true.2 ⟨_, List.getElem_mem hi, hp⟩
    have h3 : idxF l p = (i : Int) := by simp only [idxF, h]
    rw [h2, h3]; simp

theorem zxi (l : List T) (g : FuncId) (caps : List D) (p : T → Bool) (hp : ∀ x ∈ l, Pure Tryz.prog g (.agg (cT x) :: caps) [.bool (p x)]) :
    Pure Tryz.prog zd4 [.sl 3 (l.map eT), .clo g caps] [.int .i64 (idxF l p)] := by
  refine zl2 rfl fun hs => ?_
  have hl := hs (.sl 3 (l.map eT)) (by simp)
  simp [small] at hl
  replace hl := hl.1
  simp -dsimp [zd9]
  refine zam l.length (fun i st => st.s 0 = .d (.sl 3 (l.map eT)) ∧ st.s 1 = .d (.clo g caps) ∧ st.s 7 = .d (.int .i64 l.length) ∧ st.s 8 = .d (.int .i64 i) ∧ ∀ x ∈ l.take i, p x = false) ?_ ?_
  · simp -dsimp
  · rintro i ⟨s, hp'⟩ hi ⟨h1, h2, h3, h4, h5⟩
    dsimp only at h1 h2 h3 h4 h5
    rcases Nat.lt_or_ge i l.length with hlt | hge
    · have w1 : IntKind.i64.wrap ((i : Int) + 1) = (i : Int) + 1 := zad (by omega) (by omega)
      have hc : (cT l[i]).length = 3 := rfl
      simp -dsimp [h1, h2, h3, h4, hlt, hc]
      have ht : (cT l[i]).take 3 = cT l[i] := List.take_of_length_le (by omega)
      refine zaa (by rw [ht]; exact hp l[i] (List.getElem_mem _)) ?_
      simp -dsimp [h1, h2, h3, h4, hlt]
      (first | refine zak ?_ ?_ | refine zaj ?_ ?_) <;> intro h6 <;> (try simp only [nrm] at h6) <;> simp -dsimp [h6, h1, h2, h3, h4, hlt, w1]
      · have : l.findIdx? p = some i := by
          rw [List.findIdx?_eq_some_iff_getElem]
          refine ⟨hlt, h6, fun j hj => ?_⟩
          have := h5 l[j] (by rw [List.mem_take_iff_getElem]; exact ⟨j, by omega, rfl⟩)
          simpa using this
        simp only [idxF, this]
      · intro x hx
        rw [zdb (List.getElem?_eq_getElem hlt), List.mem_append] at hx
        rcases hx with hx | hx
        · simpa using h5 x hx
        · simp at hx; subst hx; exact h6
    · have e : i = l.length := by omega
      subst e
      rw [List.take_length] at h5
      have : l.findIdx? p = none := by
        rw [List.findIdx?_eq_none_iff]; exact h5
      simp -dsimp [h1, h2, h3, h4, idxF, this]

theorem zfd (l : List T) (g : FuncId) (caps : List D) (p : T → Bool) (hp : ∀ x ∈ l, Pure Tryz.prog g (.agg (cT x) :: caps) [.bool (p x)]) :
    Pure Tryz.prog zbl [.sl 3 (l.map eT), .clo g caps] [.bool (l.any p)] := by
  refine zkl rfl fun hs => ?_
  simp -dsimp [zc8]
  refine zaa (zxi l g caps p hp) ?_
  simp -dsimp [zDw]

end Ev
end Go.Proofs.YtdhfkbdhdgaccaaGreat
/- term: sizes, right terms, scopes. -/
namespace Go.Proofs.YtdhfkbdhdgaccaaGreat
namespace Ev
open Go
set_option maxRecDepth 100000
set_option linter.unusedSimpArgs false
set_option linter.unusedVariables false
attribute [local simp] zae zaf

theorem zFu (t : T) : Pure Tryz.prog zhy [.agg (cT t)] [.int .i64 (zfu t)] := by
  refine T.ind (p := fun t => Pure Tryz.prog zhy [.agg (cT t)] [.int .i64 (zfu t)]) ?_ t
  intro k n ks ih
  refine zD0 rfl fun hs => ?_
  have hl := zgn hs
  simp [T.kids] at hl
  simp -dsimp [zq5, cT, T.kind, T.num, T.kids]
  refine zam ks.length (fun i st => st.s 7 = .d (.sl 3 (ks.map eT)) ∧ st.s 8 = .d (.int .i64 ks.length) ∧ st.s 9 = .d (.int .i64 i) ∧ st.s 3 = .d (.int .i64 (((ks.map zfu).take i).foldl (fun a s => w64 (a + s)) 1))) ?_ ?_
  · simp -dsimp
  · rintro i ⟨s, hp⟩ hi ⟨h1, h2, h3, h4⟩
    dsimp only at h1 h2 h3 h4
    rcases Nat.lt_or_ge i ks.length with hlt | hge
    · have w1 : IntKind.i64.wrap ((i : Int) + 1) = (i : Int) + 1 := zad (by omega) (by omega)
      simp -dsimp [h1, h2, h3, h4, hlt, cT]
      refine zaa (ih ks[i] (List.getElem_mem _)) ?_
      have hf := zo6 (fun a s => w64 (a + s)) 1 (ks.map zfu) i (zfu ks[i]) (by simp [hlt])
      simp -dsimp [h1, h2, h3, h4, hlt, w1, hf]
      rfl
    · have e : i = ks.length := by omega
      subst e
      have ht : (ks.map zfu).take ks.length = ks.map zfu := List.take_of_length_le (by simp)
      simp -dsimp [h1, h2, h3, h4, zfu, ht]

theorem zA0 (t : T) : Pure Tryz.prog zgp [.agg (cT t)] [.int .i64 (zdd t)] := by
  refine T.ind (p := fun t => Pure Tryz.prog zgp [.agg (cT t)] [.int .i64 (zdd t)]) ?_ t
  intro k n ks ih
  refine zAw rfl fun hs => ?_
  have hl := zgn hs
  simp [T.kids] at hl
  simp -dsimp [znb, cT, T.kind, T.num, T.kids]
  refine zam ks.length (fun i st => st.s 7 = .d (.sl 3 (ks.map eT)) ∧ st.s 8 = .d (.int .i64 ks.length) ∧ st.s 9 = .d (.int .i64 i) ∧ st.s 3 = .d (.int .i64 (((ks.map zdd).take i).foldl mx 0))) ?_ ?_
  · simp -dsimp
  · rintro i ⟨s, hp⟩ hi ⟨h1, h2, h3, h4⟩
    dsimp only at h1 h2 h3 h4
    rcases Nat.lt_or_ge i ks.length with hlt | hge
    · have w1 : IntKind.i64.wrap ((i : Int) + 1) = (i : Int) + 1 := zad (by omega) (by omega)
      simp -dsimp [h1, h2, h3, h4, hlt, cT]
      refine zaa (ih ks[i] (List.getElem_mem _)) ?_
      have hf := zE6 (ks.map zdd) i (zdd ks[i]) (by simp [hlt])
      simp -dsimp [h1, h2, h3, h4, hlt, w1, hf]
      rfl
    · have e : i = ks.length := by omega
      subst e
      have ht : (ks.map zdd).take ks.length = ks.map zdd := List.take_of_length_le (by simp)
      simp -dsimp [h1, h2, h3, h4, zdd, ht]
      rfl

def zab : T → Bool
  | .mk k n ks => if zds k < 0 then false else if (ks.length : Int) = zds k then if n < 0 then false else if 65535 < n then false else if 0 < zds k ∧ n ≠ 0 then false else (ks.map zab).all id else false

theorem zx7 (t : T) (h : Pure Tryz.prog zfc [.agg (cT t)] [.bool (zab t)]) : Pure Tryz.prog ze5 [.agg (cT t)] [.bool (!zab t)] := by
  refine zv0 rfl fun hs => ?_
  simp -dsimp [zj4, cT]
  refine zaa h ?_
  simp -dsimp

theorem zIn (t : T) : Pure Tryz.prog zfc [.agg (cT t)] [.bool (zab t)] := by
  refine T.ind (p := fun t => Pure Tryz.prog zfc [.agg (cT t)] [.bool (zab t)]) ?_ t
  intro k n ks ih
  refine zzg rfl fun hs => ?_
  simp -dsimp [zl8, cT, T.kind, T.num, T.kids]
  refine zaa (zQ6 k) ?_
  simp -dsimp
  (first | refine zak ?_ ?_ | refine zaj ?_ ?_) <;> intro h1 <;> (try simp only [nrm] at h1) <;> simp -dsimp [h1, zab]
  (first | refine zak ?_ ?_ | refine zaj ?_ ?_) <;> intro h2 <;> (try simp only [nrm] at h2) <;> simp -dsimp [h2, zab, h1]
  (first | refine zak ?_ ?_ | refine zaj ?_ ?_) <;> intro h3 <;> (try simp only [nrm] at h3) <;> simp -dsimp [h3, zab, h1, h2]
  (first | refine zak ?_ ?_ | refine zaj ?_ ?_) <;> intro h4 <;> (try simp only [nrm] at h4) <;> simp -dsimp [h4, zab, h1, h2, h3]
  (first | refine zak ?_ ?_ | refine zaj ?_ ?_) <;> intro h5 <;> (try simp only [nrm] at h5) <;> simp -dsimp [h5, zab, h1, h2, h3, h4]
  · (first | refine zak ?_ ?_ | refine zaj ?_ ?_) <;> intro h6 <;> (try simp only [nrm] at h6) <;> simp -dsimp [h6, zab, h1, h2, h3, h4, h5]
    refine zaa (zfd ks ze5 [] (fun t => !zab t) (fun x hx => zx7 x (ih x hx))) ?_
    have hf : zab (.mk k 0 ks) = !(ks.any fun t => !zab t) := by
      rw [zab, if_neg h1, if_pos h2]
      simp [List.all_eq_not_any_not, Function.comp_def]
    subst h6
    simp -dsimp [hf]
  · refine zaa (zfd ks ze5 [] (fun t => !zab t) (fun x hx => zx7 x (ih x hx))) ?_
    have hf : zab (.mk k n ks) = !(ks.any fun t => !zab t) := by
      rw [zab, if_neg h1, if_pos h2, if_neg h3, if_neg h4, if_neg (fun h => h5 h.1)]
      simp [List.all_eq_not_any_not, Function.comp_def]
    simp -dsimp [hf]

def zau (t : T) : Int := if 6000 < zfu t then 4 else if 200 < zdd t then 5 else if zab t then 0 else 1
theorem zra (t : T) : Pure Tryz.prog ze2 [.agg (cT t)] [.int .i64 (zau t)] := by
  refine zA8 rfl fun hs => ?_
  simp -dsimp [zn8, cT]
  refine zaa (zFu t) ?_
  simp -dsimp
  (first | refine zak ?_ ?_ | refine zaj ?_ ?_) <;> intro h1 <;> (try simp only [nrm] at h1) <;> simp -dsimp [h1, zau]
  refine zaa (zA0 t) ?_
  simp -dsimp
  (first | refine zak ?_ ?_ | refine zaj ?_ ?_) <;> intro h2 <;> (try simp only [nrm] at h2) <;> simp -dsimp [h2, zau, h1]
  refine zaa (zIn t) ?_
  simp -dsimp
  (first | refine zak ?_ ?_ | refine zaj ?_ ?_) <;> intro h3 <;> (try simp only [nrm] at h3) <;> simp -dsimp [h3, zau, h1, h2]

mutual
def zcm : T → Int → Int → Bool
  | .mk k n ks, v, c => if k = 1 then decide (n < v) else if k = 2 then decide (n ≤ 6) else if k = 3 then decide (n < c) else zgu k v c 0 ks
def zgu (k v c : Int) : Nat → List T → Bool
  | _, [] => true
  | i, x :: xs => zcm x (w64 (v + zai k i)) c && zgu k v c (i + 1) xs
end
theorem zjw (k v c : Int) : ∀ (l : List T) (i : Nat), zgu k v c i l = true ↔ ∀ (j : Nat) (hj : j < l.length), zcm l[j] (w64 (v + zai k (i + j : Nat))) c = true
  | [], i => by simp [zgu]
  | x :: xs, i => by
    rw [zgu, Bool.and_eq_true, zjw k v c xs (i + 1)]
    constructor
    · rintro ⟨h1, h2⟩ j hj
      cases j with
      | zero => simpa using h1
      | succ j =>
        have := h2 j (by simpa using hj)
        have e : i + 1 + j = i + (j + 1) := by omega
        rw [e] at this
        simpa using this
    · intro h
      refine ⟨h 0 (by simp), fun j hj => ?_⟩
      have := h (j + 1) (by simpa using hj)
      have e : i + 1 + j = i + (j + 1) := by omega
      rw [e]
      simpa using this

theorem zKp (t : T) : ∀ v c : Int, Pure Tryz.prog zhk [.agg (cT t), .int .i64 v, .int .i64 c] [.bool (zcm t v c)] := by
  refine T.ind (p := fun t => ∀ v c : Int, Pure Tryz.prog zhk [.agg (cT t), .int .i64 v, .int .i64 c] [.bool (zcm t v c)]) ?_ t
  intro k n ks ih v c
  refine zAg rfl fun hs => ?_
  have hl := zgn (t := .mk k n ks) (fun d hd => hs d (by simp at hd; simp [hd]))
  simp [T.kids] at hl
  simp -dsimp [zlx, cT, T.kind, T.num, T.kids]
  (first | refine zak ?_ ?_ | refine zaj ?_ ?_) <;> intro h1 <;> (try simp only [nrm] at h1) <;> simp -dsimp [h1, zcm]
  (first | refine zak ?_ ?_ | refine zaj ?_ ?_) <;> intro h2 <;> (try simp only [nrm] at h2) <;> simp -dsimp [h2, zcm, h1]
  (first | refine zak ?_ ?_ | refine zaj ?_ ?_) <;> intro h3 <;> (try simp only [nrm] at h3) <;> simp -dsimp [h3, zcm, h1, h2]
  have hw : zcm (.mk k n ks) v c = zgu k v c 0 ks := by rw [zcm, if_neg h1, if_neg h2, if_neg h3]
  rw [hw]
  refine zam ks.length (fun i st => st.s 3 = .ptr 3 1 0 ∧ st.h 3 = ⟨1, .box [.d (.int .i64 k), .d (.int .i64 n), .d (.sl 3 (ks.map eT))] false⟩ ∧ st.s 1 = .d (.int .i64 v) ∧ st.s 2 = .d (.int .i64 c) ∧
    st.s 29 = .d (.sl 3 (ks.map eT)) ∧ st.s 30 = .d (.int .i64 ks.length) ∧ st.s 31 = .d (.int .i64 i) ∧ ∀ (j : Nat) (hj : j < ks.length), j < i → zcm ks[j] (w64 (v + zai k j)) c = true) ?_ ?_
  · simp -dsimp
  · rintro i ⟨s, hp⟩ hi ⟨g1, g2, g3, g4, g5, g6, g7, g8⟩
    dsimp only at g1 g2 g3 g4 g5 g6 g7
    rcases Nat.lt_or_ge i ks.length with hlt | hge
    · have w1 : IntKind.i64.wrap ((i : Int) + 1) = (i : Int) + 1 := zad (by omega) (by omega)
      simp -dsimp [g1, g2, g3, g4, g5, g6, g7, hlt, cT]
      refine zaa (zmk k i) ?_
      simp -dsimp [g1, g2, g3, g4, g5, g6, g7, hlt]
      refine zaa (ih ks[i] (List.getElem_mem _) (w64 (v + zai k i)) c) ?_
      simp -dsimp [g1, g2, g3, g4, g5, g6, g7, hlt]
      (first | refine zak ?_ ?_ | refine zaj ?_ ?_) <;> intro h4 <;> (try simp only [nrm] at h4) <;> simp -dsimp [h4, g1, g2, g3, g4, g5, g6, g7, hlt, w1]
      · cases hw : zgu k v c 0 ks with
        | false => rfl
        | true =>
          have := (zjw k v c ks 0).1 hw i hlt
          rw [Nat.zero_add, h4] at this
          cases this
      · intro j hj hji
        rcases Nat.lt_or_ge j i with h | h
        · exact g8 j hj h
        · have : j = i := by omega
          subst this
          exact h4
    · have e : i = ks.length := by omega
      subst e
      have : zgu k v c 0 ks = true := (zjw k v c ks 0).2 fun j hj => by simpa using g8 j hj hj
      simp -dsimp [g1, g2, g3, g4, g5, g6, g7, this]

def zj0 (t : T) (v c : Int) : Bool := if v < 0 then false else if c < 0 then false else if zau t = 0 then zcm t (if 65536 < v then 65536 else v) c else false
theorem zEl (t : T) (v c : Int) : Pure Tryz.prog zkr [.agg (cT t), .int .i64 v, .int .i64 c] [.bool (zj0 t v c)] := by
  refine zBn rfl fun hs => ?_
  simp -dsimp [zn6, cT]
  (first | refine zak ?_ ?_ | refine zaj ?_ ?_) <;> intro h1 <;> (try simp only [nrm] at h1) <;> simp -dsimp [h1, zj0]
  · (first | refine zak ?_ ?_ | refine zaj ?_ ?_) <;> intro h2 <;> (try simp only [nrm] at h2) <;> simp -dsimp [h2, zj0, h1]
    · refine zaa (zra t) ?_
      simp -dsimp [h1, h2]
      (first | refine zak ?_ ?_ | refine zaj ?_ ?_) <;> intro h3 <;> (try simp only [nrm] at h3) <;> simp -dsimp [h3, zj0, h1, h2]
      · refine zaa (zKp t _ _) ?_
        have hS : zj0 t v c = zcm t (if 65536 < v then 65536 else v) c := by rw [zj0, if_neg (by omega), if_neg (by omega), if_pos h3]
        rw [hS]
        simp -dsimp [h3]
end Ev
end Go.Proofs.YtdhfkbdhdgaccaaGreat
/- What comes in by type: numbers, terms, and how long their rows may be. -/
namespace Go.Proofs.YtdhfkbdhdgaccaaGreat
namespace Ev
open Go
set_option maxRecDepth 100000

theorem zyp : Tryz.prog.cellsOf 32 = 3 := by kernel_rfl
theorem zDl : Tryz.prog.cellsOf 30 = 1 := by kernel_rfl
theorem zJg : Tryz.prog.cellsOf 3 = 1 := by kernel_rfl
theorem zM7 : Tryz.prog.cellsOf 4 = 1 := by kernel_rfl
theorem zNl : Tryz.prog.bytesOf 32 = 40 := by kernel_rfl

def n64 (n : Int) : Prop := -9223372036854775808 ≤ n ∧ n < 9223372036854775808
inductive okT : T → Prop
  | mk (k n : Int) (ks : List T) (hk : n64 k) (hn : n64 n) (hl : ks.length * 40 ≤ 140737488351232) (h : ∀ x ∈ ks, okT x) : okT (.mk k n ks)
def okTs (l : List T) : Prop := l.length * 40 ≤ 140737488351232 ∧ ∀ x ∈ l, okT x
theorem okT.kids {k n : Int} {ks : List T} (h : okT (.mk k n ks)) : okTs ks := by
  cases h with
  | mk _ _ _ _ _ hl h => exact ⟨hl, h⟩
theorem zyt {α : Type} {f : α → D} {q : α → Prop} : ∀ {xs : List D}, (∀ x ∈ xs, ∃ a, q a ∧ x = f a) → ∃ l : List α, xs = l.map f ∧ ∀ a ∈ l, q a
  | [], _ => ⟨[], rfl, by simp⟩
  | x :: xs, h => by
    obtain ⟨a, ha, rfl⟩ := h x (List.mem_cons_self ..)
    obtain ⟨l, rfl, hl⟩ := zyt (xs := xs) fun y hy => h y (List.mem_cons_of_mem _ hy)
    exact ⟨a :: l, rfl, by simpa using ⟨ha, hl⟩⟩
theorem zNh : ∀ {x : D}, x.isAgg = true → x = .agg x.cells := by
  intro x h
  cases x <;> first | rfl | cases h
theorem len3 {xs : List D} (h : xs.length = 3) : ∃ a b c, xs = [a, b, c] := by
  match xs, h with
  | [a, b, c], _ => exact ⟨a, b, c, rfl⟩
theorem wf64 {i : Int} (hw : (Lit.int .i64 i).wf = true) : n64 i := by
  obtain ⟨u, v⟩ : IntKind.i64.min ≤ i ∧ i ≤ IntKind.i64.max := by simpa [Lit.wf] using hw
  have e1 : IntKind.i64.min = -9223372036854775808 := by decide
  have e2 : IntKind.i64.max = 9223372036854775807 := by decide
  exact ⟨by omega, by omega⟩
theorem zpp {n : Nat} {cs : List D} (h : typ Tryz.prog n 3 cs) : ∃ i, cs = [.int .i64 i] ∧ n64 i := by
  cases n with
  | zero => exact h.elim
  | succ n =>
    simp only [typ, Tryz.underlying3] at h
    obtain ⟨i, hi, hw⟩ := h
    exact ⟨i, hi, wf64 hw⟩
theorem zEq {n : Nat} {cs : List D} (h : typ Tryz.prog n 4 cs) : ∃ b, cs = [.bool b] := by
  cases n with
  | zero => exact h.elim
  | succ n => simp only [typ, Tryz.underlying4] at h; exact h
theorem zHw : zbd Tryz.prog 32 = true := by simp only [zbd, Tryz.underlying32]

theorem zoe {e t : TypeId} {k y : Nat} {n : Nat} {cs : List D} (hu : Tryz.prog.underlying t = some (.slice e)) (hc : Tryz.prog.cellsOf e = k) (hy : Tryz.prog.bytesOf e = y) (hs : zbd Tryz.prog e = true) (h : typ Tryz.prog n t cs) :
    ∃ (m : Nat) (xs : List D), n = m + 1 ∧ cs = [.sl k xs] ∧ xs.length * y ≤ 140737488351232 ∧ ∀ x ∈ xs, typ Tryz.prog m e x.cells ∧ x = .agg x.cells := by
  cases n with
  | zero => exact h.elim
  | succ n =>
    simp only [typ, hu] at h
    obtain ⟨xs, rfl, _, hl, hx⟩ := h
    exact ⟨n, xs, rfl, by rw [hc], by rw [hy] at hl; exact hl, fun x hxx => ⟨(hx x hxx).1, zNh (by rw [(hx x hxx).2, hs])⟩⟩

theorem zu2 (n : Nat) : ∀ {cs : List D}, typ Tryz.prog n 32 cs → ∃ t : T, cs = cT t ∧ okT t := by
  induction n using Nat.strongRecOn with
  | ind n ih =>
    intro cs h
    cases n with
    | zero => exact h.elim
    | succ n =>
    simp only [typ, Tryz.underlying32, zyp, zJg, zDl, List.forall_mem_cons] at h
    obtain ⟨hl, h1, h2, h3, _⟩ := h
    obtain ⟨a, b, c, rfl⟩ := len3 hl
    obtain ⟨i, hi, wi⟩ := zpp h1
    obtain ⟨j, hj, wj⟩ := zpp h2
    obtain ⟨m, xs, rfl, hc, hb, hx⟩ := zoe Tryz.underlying30 zyp zNl zHw h3
    simp at hi hj hc
    subst hi hj hc
    obtain ⟨ks, rfl, hks⟩ : ∃ l : List T, xs = l.map eT ∧ ∀ a ∈ l, okT a := zyt fun x hxx => by
      obtain ⟨h4, h5⟩ := hx x hxx
      obtain ⟨t, ht, hq⟩ := ih m (by omega) h4
      exact ⟨t, hq, by rw [h5, ht, zcc]⟩
    exact ⟨.mk i j ks, rfl, .mk i j ks wi wj (by simpa using hb) hks⟩
theorem zvd {n : Nat} {cs : List D} (h : typ Tryz.prog n 30 cs) : ∃ l : List T, cs = [eTs l] ∧ okTs l := by
  obtain ⟨m, xs, rfl, hc, hb, hx⟩ := zoe Tryz.underlying30 zyp zNl zHw h
  obtain ⟨ks, rfl, hks⟩ : ∃ l : List T, xs = l.map eT ∧ ∀ a ∈ l, okT a := zyt fun x hxx => by
    obtain ⟨h4, h5⟩ := hx x hxx
    obtain ⟨t, ht, hq⟩ := zu2 m h4
    exact ⟨t, hq, by rw [h5, ht, zcc]⟩
  exact ⟨ks, hc, by simpa using hb, hks⟩
theorem zOi {x : D} (h : x.isAgg = false) : x.cells = [x] := by
  cases x <;> first | rfl | cases h
theorem zKh {x : D} (h : TypD Tryz.prog 3 x) : ∃ i, x = .int .i64 i ∧ n64 i := by
  obtain ⟨⟨n, h1⟩, h2⟩ := h
  obtain ⟨i, hi, hw⟩ := zpp h1
  have h3 : zbd Tryz.prog 3 = false := by simp only [zbd, Tryz.underlying3]
  rw [zOi (h2.trans h3)] at hi
  exact ⟨i, by simpa using hi, hw⟩
end Ev
end Go.Proofs.YtdhfkbdhdgaccaaGreat
/- Twins are what they are twins of. -/
namespace Go.Proofs.YtdhfkbdhdgaccaaGreat
namespace Ev
open Go
set_option maxRecDepth 100000
set_option linter.unusedSimpArgs false
set_option linter.unusedVariables false
attribute [local simp] zae zaf

theorem zCj {α : Type} (f : α → D) (g : α → List D) (hg : ∀ a, f a = .agg (g a)) (l : List α) (i : Nat) (h : i < l.length) : (l.map f).take i ++ [.agg (g l[i])] = (l.map f).take (i + 1) := by
  rw [List.take_add_one, List.getElem?_eq_getElem (by simpa using h)]
  simp [hg]
theorem zL1 (l : List T) (hl : l.length * 40 ≤ 140737488351232) (h : ∀ x ∈ l, Pure Tryz.prog zbk [.agg (cT x)] [.agg (cT x)]) : Pure Tryz.prog zhj [eTs l] [eTs l] := by
  refine zrv rfl fun hs => ?_
  simp -dsimp [zg5, eTs]
  refine zam l.length (fun i st => st.s 0 = .d (.sl 3 (l.map eT)) ∧ st.s 4 = .d (.int .i64 i) ∧ ∃ v, st.s 3 = .rsl 3 v ∧ st.h 3 = ⟨v, .row 3 ((l.map eT).take i) false⟩) ?_ ?_
  · simp -dsimp
  · rintro i ⟨s, hp⟩ hi ⟨g1, g2, v, g3, g4⟩
    dsimp only at g1 g2 g3 g4
    rcases Nat.lt_or_ge i l.length with hlt | hge
    · have w1 : IntKind.i64.wrap ((i : Int) + 1) = (i : Int) + 1 := zad (by omega) (by omega)
      simp -dsimp [g1, g2, g3, g4, hlt, cT]
      refine zaa (h l[i] (List.getElem_mem _)) ?_
      have hr : (min i l.length + 1) * 40 ≤ zal := by simp only [zal]; omega
      have hn := zCj eT cT zcc l i hlt
      simp only [cT] at hn
      simp -dsimp [g1, g2, g3, g4, hlt, cT, hr, hn, w1]
    · have e : i = l.length := by omega
      subst e
      simp -dsimp [g1, g2, g3, g4]
      exact List.take_of_length_le (by simp)
theorem zy7 (t : T) : okT t → Pure Tryz.prog zbk [.agg (cT t)] [.agg (cT t)] := by
  refine T.ind (p := fun t => okT t → Pure Tryz.prog zbk [.agg (cT t)] [.agg (cT t)]) ?_ t
  intro k n ks ih h
  obtain ⟨h1, h2⟩ := h.kids
  refine ztt rfl fun hs => ?_
  simp -dsimp [zhv, cT, T.kind, T.num, T.kids]
  refine zaa (zL1 ks h1 fun x hx => ih x hx (h2 x hx)) ?_
  simp -dsimp [eTs]
end Ev
end Go.Proofs.YtdhfkbdhdgaccaaGreat
/- What is compared with itself is alike. -/
namespace Go.Proofs.YtdhfkbdhdgaccaaGreat
namespace Ev
open Go
set_option maxRecDepth 100000
set_option linter.unusedSimpArgs false
set_option linter.unusedVariables false
attribute [local simp] zae zaf

theorem zty (l : List T) (h : ∀ x ∈ l, Pure Tryz.prog zbu [.agg (cT x), .agg (cT x)] [.bool true]) : Pure Tryz.prog zdh [eTs l, eTs l] [.bool true] := by
  refine zre rfl fun hs => ?_
  have hl := hs (eTs l) (by simp)
  simp [eTs, small] at hl
  replace hl := hl.1
  simp -dsimp [zgt, eTs]
  refine zam l.length (fun i st => st.s 0 = .d (.sl 3 (l.map eT)) ∧ st.s 1 = .d (.sl 3 (l.map eT)) ∧ st.s 5 = .d (.int .i64 i)) ?_ ?_
  · simp -dsimp
  · rintro i ⟨s, hp⟩ hi ⟨g1, g2, g3⟩
    dsimp only at g1 g2 g3
    rcases Nat.lt_or_ge i l.length with hlt | hge
    · have w1 : IntKind.i64.wrap ((i : Int) + 1) = (i : Int) + 1 := zad (by omega) (by omega)
      simp -dsimp [g1, g2, g3, hlt, cT, eAr, cAr, eTs]
      refine zaa (h l[i] (List.getElem_mem _)) ?_
      simp -dsimp [g1, g2, g3, hlt, w1]
    · have e : i = l.length := by omega
      subst e
      simp -dsimp [g1, g2, g3]
theorem zma (t : T) : Pure Tryz.prog zbu [.agg (cT t), .agg (cT t)] [.bool true] := by
  refine T.ind (p := fun t => Pure Tryz.prog zbu [.agg (cT t), .agg (cT t)] [.bool true]) ?_ t
  intro k n ks ih
  refine zsl rfl fun hs => ?_
  simp -dsimp [zh8, cT, T.kind, T.num, T.kids]
  refine zaa (zty ks ih) ?_
  simp -dsimp
theorem zA7 (l : List T) : Pure Tryz.prog zdh [eTs l, eTs l] [.bool true] := zty l fun x _ => zma x
end Ev
end Go.Proofs.YtdhfkbdhdgaccaaGreat
/- The document's answers: right terms, scopes. -/
namespace Go.Proofs.YtdhfkbdhdgaccaaGreat
namespace Ev
open Go
set_option maxRecDepth 100000
set_option linter.unusedSimpArgs false
set_option linter.unusedVariables false
attribute [local simp] zae zaf

def inB (n lo hi : Int) : Bool := decide (lo ≤ n) && decide (n ≤ hi)
theorem zdn (n lo hi : Int) : inB n lo hi = true ↔ lo ≤ n ∧ n ≤ hi := by simp [inB]
theorem zgz (n lo hi : Int) : inB n lo hi = false ↔ ¬(lo ≤ n ∧ n ≤ hi) := by rw [← zdn]; simp
theorem zSo (n lo hi : Int) : Pure Tryz.prog ziu [.int .i64 n, .int .i64 lo, .int .i64 hi] [.bool (inB n lo hi)] := by
  refine zue rfl fun hs => ?_
  simp -dsimp [zi1, inB]
  (first | refine zak ?_ ?_ | refine zaj ?_ ?_) <;> intro h1 <;> (try simp only [nrm] at h1) <;> simp -dsimp [h1]
theorem zMn (k : Int) : Pure Tryz.prog zhn [.int .i64 k] [.int .i64 (zds k)] := by
  refine zrt rfl fun hs => ?_
  have e : zds k = if k = 1 then 0 else if k = 2 then 0 else if k = 3 then 0 else if k = 9 then 1 else if k = 10 then 1 else if k = 4 then 2 else if k = 5 then 2 else if k = 6 then 2 else if k = 7 then 2 else if k = 12 then 2 else if k = 8 then 3 else if k = 11 then 3 else if k = 13 then 3 else -1 := by
    simp only [zds, isM, Bool.and_eq_true, decide_eq_true_eq]
    repeat' split
    all_goals omega
  rw [e]
  simp -dsimp [zhc]
  (first | refine zak ?_ ?_ | refine zaj ?_ ?_) <;> intro h1 <;> (try simp only [nrm] at h1) <;> simp -dsimp [h1]
  (first | refine zak ?_ ?_ | refine zaj ?_ ?_) <;> intro h2 <;> (try simp only [nrm] at h2) <;> simp -dsimp [h2, h1]
  (first | refine zak ?_ ?_ | refine zaj ?_ ?_) <;> intro h3 <;> (try simp only [nrm] at h3) <;> simp -dsimp [h3, h1, h2]
  (first | refine zak ?_ ?_ | refine zaj ?_ ?_) <;> intro h4 <;> (try simp only [nrm] at h4) <;> simp -dsimp [h4, h1, h2, h3]
  (first | refine zak ?_ ?_ | refine zaj ?_ ?_) <;> intro h5 <;> (try simp only [nrm] at h5) <;> simp -dsimp [h5, h1, h2, h3, h4]
  (first | refine zak ?_ ?_ | refine zaj ?_ ?_) <;> intro h6 <;> (try simp only [nrm] at h6) <;> simp -dsimp [h6, h1, h2, h3, h4, h5]
  (first | refine zak ?_ ?_ | refine zaj ?_ ?_) <;> intro h7 <;> (try simp only [nrm] at h7) <;> simp -dsimp [h7, h1, h2, h3, h4, h5, h6]
  (first | refine zak ?_ ?_ | refine zaj ?_ ?_) <;> intro h8 <;> (try simp only [nrm] at h8) <;> simp -dsimp [h8, h1, h2, h3, h4, h5, h6, h7]
  (first | refine zak ?_ ?_ | refine zaj ?_ ?_) <;> intro h9 <;> (try simp only [nrm] at h9) <;> simp -dsimp [h9, h1, h2, h3, h4, h5, h6, h7, h8]
  (first | refine zak ?_ ?_ | refine zaj ?_ ?_) <;> intro h10 <;> (try simp only [nrm] at h10) <;> simp -dsimp [h10, h1, h2, h3, h4, h5, h6, h7, h8, h9]
  (first | refine zak ?_ ?_ | refine zaj ?_ ?_) <;> intro h11 <;> (try simp only [nrm] at h11) <;> simp -dsimp [h11, h1, h2, h3, h4, h5, h6, h7, h8, h9, h10]
  (first | refine zak ?_ ?_ | refine zaj ?_ ?_) <;> intro h12 <;> (try simp only [nrm] at h12) <;> simp -dsimp [h12, h1, h2, h3, h4, h5, h6, h7, h8, h9, h10, h11]
  (first | refine zak ?_ ?_ | refine zaj ?_ ?_) <;> intro h13 <;> (try simp only [nrm] at h13) <;> simp -dsimp [h13, h1, h2, h3, h4, h5, h6, h7, h8, h9, h10, h11, h12]
theorem zCm (k i : Int) : Pure Tryz.prog zc0 [.int .i64 k, .int .i64 i] [.int .i64 (zai k i)] := by
  refine zp3 rfl fun hs => ?_
  simp -dsimp [zf0]
  (first | refine zak ?_ ?_ | refine zaj ?_ ?_) <;> intro h1 <;> (try simp only [nrm] at h1) <;> simp -dsimp [h1, zai]
  (first | refine zak ?_ ?_ | refine zaj ?_ ?_) <;> intro g1 <;> (try simp only [nrm] at g1) <;> simp -dsimp [g1, zai, h1]
  (first | refine zak ?_ ?_ | refine zaj ?_ ?_) <;> intro g2 <;> (try simp only [nrm] at g2) <;> simp -dsimp [g2, zai, h1, g1]
  (first | refine zak ?_ ?_ | refine zaj ?_ ?_) <;> intro g3 <;> (try simp only [nrm] at g3) <;> simp -dsimp [g3, zai, h1, g1, g2]
theorem za0 (k n : Int) (ks : List T) : zab (.mk k n ks) = if (ks.length : Int) = zds k then if zds k = 0 then inB n 0 65535 && ks.all zab else if n = 0 then ks.all zab else false else false := by
  rw [zab]
  have ha : (ks.map zab).all id = ks.all zab := by rw [List.all_map]; rfl
  rw [ha]
  by_cases h1 : (ks.length : Int) = zds k
  · rw [if_neg (by omega), if_pos h1, if_pos h1]
    by_cases h0 : zds k = 0
    · rw [if_pos h0]
      by_cases h2 : n < 0
      · rw [if_pos h2, (zgz n 0 65535).2 (by omega)]; rfl
      · rw [if_neg h2]
        by_cases h3 : 65535 < n
        · rw [if_pos h3, (zgz n 0 65535).2 (by omega)]; rfl
        · rw [if_neg h3, if_neg (by omega), (zdn n 0 65535).2 (by omega)]; rfl
    · rw [if_neg h0]
      by_cases h2 : n = 0
      · rw [if_neg (by omega), if_neg (by omega), if_neg (by omega), if_pos h2]
      · rw [if_neg h2]
        by_cases h3 : n < 0
        · rw [if_pos h3]
        · rw [if_neg h3]
          by_cases h4 : 65535 < n
          · rw [if_pos h4]
          · rw [if_neg h4, if_pos ⟨by omega, h2⟩]
  · rw [if_neg h1, if_neg h1]
    split <;> rfl
theorem zva {α : Type} {p : α → Bool} {l : List α} (h : ∀ (j : Nat) (hj : j < l.length), j < l.length → p l[j] = true) : l.all p = true := by
  rw [List.all_eq_true]
  intro x hx
  obtain ⟨j, hj, rfl⟩ := List.mem_iff_getElem.1 hx
  exact h j hj hj
theorem zHh {α : Type} {p : α → Bool} {l : List α} {i : Nat} (hi : i < l.length) (h : p l[i] = false) : l.all p = false := by
  cases hq : l.all p with
  | false => rfl
  | true =>
    have := List.all_eq_true.1 hq l[i] (List.getElem_mem _)
    rw [h] at this
    cases this
theorem zni {α : Type} {p : α → Bool} {l : List α} {i : Nat} (hi : i < l.length) (h : ∀ (j : Nat) (hj : j < l.length), j < i → p l[j] = true) (hx : p l[i] = true) :
    ∀ (j : Nat) (hj : j < l.length), j < i + 1 → p l[j] = true := by
  intro j hj hji
  rcases Nat.lt_or_ge j i with h' | h'
  · exact h j hj h'
  · have : j = i := by omega
    subst this
    exact hx
theorem zGm (t : T) : Pure Tryz.prog zcr [.agg (cT t)] [.bool (zab t)] := by
  refine T.ind (p := fun t => Pure Tryz.prog zcr [.agg (cT t)] [.bool (zab t)]) ?_ t
  intro k n ks ih
  refine zpg rfl fun hs => ?_
  have hl := zgn hs
  simp [T.kids] at hl
  simp -dsimp [zfm, cT, T.kind, T.num, T.kids]
  refine zaa (zMn k) ?_
  simp -dsimp
  (first | refine zak ?_ ?_ | refine zaj ?_ ?_) <;> intro h1 <;> (try simp only [nrm] at h1) <;> simp -dsimp [h1, za0]
  (first | refine zak ?_ ?_ | refine zaj ?_ ?_) <;> intro h2 <;> (try simp only [nrm] at h2) <;> simp -dsimp [h2, za0, h1]
  · refine zaa (zSo n 0 65535) ?_
    simp -dsimp [h1, h2]
    (first | refine zak ?_ ?_ | refine zaj ?_ ?_) <;> intro h3 <;> (try simp only [nrm] at h3) <;> simp -dsimp [h3, za0, h1, h2]
    have hR : zab (.mk k n ks) = ks.all zab := by rw [za0, if_pos h1, if_pos h2, h3]; rfl
    rw [hR]
    refine zam ks.length (fun i st => st.s 1 = .ptr 1 1 0 ∧ st.h 1 = ⟨1, .box [.d (.int .i64 k), .d (.int .i64 n), .d (.sl 3 (ks.map eT))] false⟩ ∧ st.s 3 = .d (.int .i64 i) ∧ ∀ (j : Nat) (hj : j < ks.length), j < i → zab ks[j] = true) ?_ ?_
    · simp -dsimp
    · rintro i ⟨s, hp⟩ hi ⟨g1, g2, g3, g4⟩
      dsimp only at g1 g2 g3
      rcases Nat.lt_or_ge i ks.length with hlt | hge
      · have w1 : IntKind.i64.wrap ((i : Int) + 1) = (i : Int) + 1 := zad (by omega) (by omega)
        simp -dsimp [g1, g2, g3, hlt, cT]
        refine zaa (ih ks[i] (List.getElem_mem _)) ?_
        simp -dsimp [g1, g2, g3, hlt]
        (first | refine zak ?_ ?_ | refine zaj ?_ ?_) <;> intro h6 <;> (try simp only [nrm] at h6) <;> simp -dsimp [h6, g1, g2, g3, hlt, w1]
        · have := zHh (p := zab) hlt h6
          simpa using this
        · exact zni hlt g4 h6
      · have e : i = ks.length := by omega
        subst e
        have hA := zva (p := zab) g4
        simp -dsimp [g1, g2, g3, hA]
  · (first | refine zak ?_ ?_ | refine zaj ?_ ?_) <;> intro h3 <;> (try simp only [nrm] at h3) <;> simp -dsimp [h3, za0, h1, h2]
    · (first | refine zak ?_ ?_ | refine zaj ?_ ?_) <;> intro h4 <;> (try simp only [nrm] at h4) <;> simp -dsimp [h4, za0, h1, h2, h3]
      subst h4
      have hR : zab (.mk k 0 ks) = ks.all zab := by rw [za0, if_pos h1, if_neg h2, if_pos rfl]
      rw [hR]
      refine zam ks.length (fun i st => st.s 1 = .ptr 1 1 0 ∧ st.h 1 = ⟨1, .box [.d (.int .i64 k), .d (.int .i64 0), .d (.sl 3 (ks.map eT))] false⟩ ∧ st.s 3 = .d (.int .i64 i) ∧ ∀ (j : Nat) (hj : j < ks.length), j < i → zab ks[j] = true) ?_ ?_
      · simp -dsimp
      · rintro i ⟨s, hp⟩ hi ⟨g1, g2, g3, g4⟩
        dsimp only at g1 g2 g3
        rcases Nat.lt_or_ge i ks.length with hlt | hge
        · have w1 : IntKind.i64.wrap ((i : Int) + 1) = (i : Int) + 1 := zad (by omega) (by omega)
          simp -dsimp [g1, g2, g3, hlt, cT]
          refine zaa (ih ks[i] (List.getElem_mem _)) ?_
          simp -dsimp [g1, g2, g3, hlt]
          (first | refine zak ?_ ?_ | refine zaj ?_ ?_) <;> intro h6 <;> (try simp only [nrm] at h6) <;> simp -dsimp [h6, g1, g2, g3, hlt, w1]
          · have := zHh (p := zab) hlt h6
            simpa using this
          · exact zni hlt g4 h6
        · have e : i = ks.length := by omega
          subst e
          have hA := zva (p := zab) g4
          simp -dsimp [g1, g2, g3, hA]
    · omega
theorem zHv (t : T) : Pure Tryz.prog zgc [.agg (cT t)] [.int .i64 (zau t)] := by
  refine zq2 rfl fun hs => ?_
  simp -dsimp [zgk, cT]
  refine zaa (zJo t) ?_
  simp -dsimp
  (first | refine zak ?_ ?_ | refine zaj ?_ ?_) <;> intro h1 <;> (try simp only [nrm] at h1) <;> simp -dsimp [h1, zau]
  refine zaa (zEs t) ?_
  simp -dsimp
  (first | refine zak ?_ ?_ | refine zaj ?_ ?_) <;> intro h2 <;> (try simp only [nrm] at h2) <;> simp -dsimp [h2, zau, h1]
  refine zaa (zGm t) ?_
  simp -dsimp
  (first | refine zak ?_ ?_ | refine zaj ?_ ?_) <;> intro h3 <;> (try simp only [nrm] at h3) <;> simp -dsimp [h3, zau, h1, h2]
end Ev
end Go.Proofs.YtdhfkbdhdgaccaaGreat
/- Terms: small things. -/
namespace Go.Proofs.YtdhfkbdhdgaccaaGreat
namespace Ev
open Go
set_option linter.unusedSimpArgs false
theorem tk (k n : Int) (ks : List T) : (T.mk k n ks).kind = k := rfl
theorem tn (k n : Int) (ks : List T) : (T.mk k n ks).num = n := rfl
theorem tks (k n : Int) (ks : List T) : (T.mk k n ks).kids = ks := rfl
theorem zxb {l : List D} {z : D} {i : Nat} (h : i < l.length) : (l.take i ++ List.replicate (l.length - i) z).set i l[i] = l.take (i + 1) ++ List.replicate (l.length - (i + 1)) z := by
  have e : l.length - i = (l.length - (i + 1)) + 1 := by omega
  rw [e, List.replicate_succ, List.set_append_right _ _ (by simp; omega)]
  have e2 : i - (l.take i).length = 0 := by simp; omega
  have e3 : l.take (i + 1) = l.take i ++ [l[i]] := by rw [List.take_add_one, List.getElem?_eq_getElem h]; rfl
  rw [e2, List.set_cons_zero, e3, List.append_assoc]
  rfl
end Ev
end Go.Proofs.YtdhfkbdhdgaccaaGreat
/- Terms, in plain numbers: zac, depths, right terms, scopes. -/
namespace Go.Proofs.YtdhfkbdhdgaccaaGreat
namespace Ev
open Go
set_option maxRecDepth 100000
set_option linter.unusedSimpArgs false
set_option linter.unusedVariables false
attribute [local simp] tk tn tks
def zac : T → Nat | .mk _ _ ks => (ks.map zac).sum + 1
theorem zci {l : List Nat} {x : Nat} (h : x ∈ l) : x ≤ l.sum := by
  induction l with
  | nil => cases h
  | cons y l ih =>
    rw [List.sum_cons]
    rcases List.mem_cons.1 h with rfl | h
    · omega
    · have := ih h; omega
theorem zcq {k n : Int} {ks : List T} {x : T} (h : x ∈ ks) : zac x + 1 ≤ zac (.mk k n ks) := by
  rw [zac]
  have := zci (List.mem_map.2 ⟨x, h, rfl⟩ : zac x ∈ ks.map zac)
  omega
theorem zdf (k i : Int) : 0 ≤ zai k i ∧ zai k i ≤ 1 := by
  rw [zai]
  split <;> omega
inductive Slim : T → Prop
  | mk (k n : Int) (ks : List T) (hl : ks.length ≤ 1000) (h : ∀ x ∈ ks, Slim x) : Slim (.mk k n ks)
theorem Slim.kids {k n : Int} {ks : List T} (h : Slim (.mk k n ks)) : ks.length ≤ 1000 ∧ ∀ x ∈ ks, Slim x := by
  cases h with
  | mk _ _ _ h1 h2 => exact ⟨h1, h2⟩
theorem zLg (k : Int) : zds k ≤ 3 := by
  rw [zds]
  repeat' split
  all_goals omega
theorem zc9 {k n : Int} {ks : List T} (h1 : k = 1) (hfm : zab (.mk k n ks) = true) : 0 ≤ n ∧ n ≤ 65535 := by
  rw [za0, h1] at hfm
  have h0 : zds 1 = 0 := rfl
  rw [h0] at hfm
  split at hfm
  · simp only [if_true, Bool.and_eq_true] at hfm
    exact (zdn _ _ _).1 hfm.1
  · cases hfm
theorem zbm {k n : Int} {ks : List T} (hfm : zab (.mk k n ks) = true) : ∀ x ∈ ks, zab x = true := by
  rw [za0] at hfm
  refine List.all_eq_true.1 ?_
  split at hfm
  · split at hfm
    · rw [Bool.and_eq_true] at hfm; exact hfm.2
    · split at hfm
      · exact hfm
      · cases hfm
  · cases hfm
theorem zKn (t : T) : zab t = true → Slim t := by
  refine T.ind (p := fun t => zab t = true → Slim t) ?_ t
  intro k n ks ih h
  rw [za0] at h
  have hk := zLg k
  by_cases h1 : (ks.length : Int) = zds k
  · rw [if_pos h1] at h
    have ha : ks.all zab = true := by
      by_cases h2 : zds k = 0
      · rw [if_pos h2, Bool.and_eq_true] at h; exact h.2
      · rw [if_neg h2] at h
        by_cases h3 : n = 0
        · rw [if_pos h3] at h; exact h
        · rw [if_neg h3] at h; cases h
    exact .mk k n ks (by omega) fun x hx => ih x hx (List.all_eq_true.1 ha x hx)
  · rw [if_neg h1] at h; cases h
theorem zfp {t : T} (h : zau t = 0) : zab t = true := by
  rw [zau] at h
  split at h
  · simp at h
  · split at h
    · simp at h
    · split at h
      · assumption
      · simp at h
theorem zb0 {n : Int} (h1 : -9223372036854775808 ≤ n) (h2 : n < 9223372036854775808) : w64 n = n := zad h1 (by omega)
def dmax (l : List Nat) : Nat := l.foldr max 0
def zbg : T → Nat | .mk _ _ ks => dmax (ks.map zbg) + 1
theorem zvk (a b : Int) : mx a b = max a b := by rw [mx]; split <;> omega
theorem zvr : ∀ (l : List T) (a : Int), 0 ≤ a → a + (l.map zac).sum ≤ 1099511627776 → (∀ x ∈ l, zfu x = zac x) → (l.map zfu).foldl (fun a s => w64 (a + s)) a = a + (l.map zac).sum
  | [], a, _, _, _ => by simp
  | x :: xs, a, h0, hb, h => by
    have hx := h x (by simp)
    simp only [List.map_cons, List.foldl_cons, List.sum_cons] at hb ⊢
    rw [hx, zb0 (by omega) (by omega), zvr xs (a + zac x) (by omega) (by omega) fun y hy => h y (by simp [hy])]
    omega
theorem zzi (t : T) : zac t ≤ 1099511627776 → zfu t = zac t := by
  refine T.ind (p := fun t => zac t ≤ 1099511627776 → zfu t = zac t) ?_ t
  intro k n ks ih hb
  have hk : ∀ x ∈ ks, zfu x = zac x := fun x hx => ih x hx (by have := zcq (k := k) (n := n) hx; omega)
  rw [zac] at hb
  rw [zfu, zvr ks 1 (by omega) (by omega) hk, zac]
  omega
theorem zQt {l : List Nat} {m : Nat} (h : ∀ x ∈ l, x ≤ m) : dmax l ≤ m := by
  induction l with
  | nil => simp [dmax]
  | cons y l ih =>
    have h1 := h y (by simp)
    have h2 := ih fun x hx => h x (by simp [hx])
    simp only [dmax, List.foldr_cons] at h2 ⊢
    omega
theorem zpa (t : T) : zbg t ≤ zac t := by
  refine T.ind (p := fun t => zbg t ≤ zac t) ?_ t
  intro k n ks ih
  rw [zbg, zac]
  have : dmax (ks.map zbg) ≤ (ks.map zac).sum := zQt fun x hx => by
    obtain ⟨y, hy, rfl⟩ := List.mem_map.1 hx
    have := zci (List.mem_map.2 ⟨y, hy, rfl⟩ : zac y ∈ ks.map zac)
    have := ih y hy
    omega
  omega
theorem zyr : ∀ (l : List T) (a : Int), 0 ≤ a → (∀ x ∈ l, zdd x = zbg x) → (l.map zdd).foldl mx a = max a (dmax (l.map zbg))
  | [], a, h0, _ => by simp [dmax]; omega
  | x :: xs, a, h0, h => by
    have hx := h x (by simp)
    simp only [List.map_cons, List.foldl_cons, dmax, List.foldr_cons]
    rw [hx, zvk, zyr xs _ (by omega) fun y hy => h y (by simp [hy])]
    simp only [dmax]
    omega
theorem zu0 (t : T) : zac t ≤ 1099511627776 → zdd t = zbg t := by
  refine T.ind (p := fun t => zac t ≤ 1099511627776 → zdd t = zbg t) ?_ t
  intro k n ks ih hb
  have hk : ∀ x ∈ ks, zdd x = zbg x := fun x hx => ih x hx (by have := zcq (k := k) (n := n) hx; omega)
  have hd := zpa (.mk k n ks)
  rw [zbg] at hd
  rw [zdd, zyr ks 0 (by omega) hk, zbg, zb0 (by omega) (by omega)]
  omega
theorem zar (k n : Int) : zac (.mk k n []) = 1 := by rw [zac]; rfl
theorem zgl (k n : Int) : zbg (.mk k n []) = 1 := by rw [zbg]; rfl
theorem zlw {k n : Int} {ks : List T} (h1 : k = 1) (hfm : zab (.mk k n ks) = true) : ks = [] := by
  rw [za0, h1] at hfm
  have h0 : zds 1 = 0 := rfl
  rw [h0] at hfm
  split at hfm
  · exact List.length_eq_zero_iff.1 (by omega)
  · cases hfm
theorem znj {t : T} (h : zac t ≤ 1048576) : zau t = 0 ↔ zac t ≤ 6000 ∧ zbg t ≤ 200 ∧ zab t = true := by
  rw [zau, zzi _ (by omega), zu0 _ (by omega)]
  by_cases h1 : (6000 : Int) < zac t
  · rw [if_pos h1]
    constructor
    · intro h; cases h
    · omega
  · rw [if_neg h1]
    by_cases h2 : (200 : Int) < zbg t
    · rw [if_pos h2]
      constructor
      · intro h; cases h
      · omega
    · rw [if_neg h2]
      cases zab t
      · simp
      · simp; omega
theorem zym (k n : Int) (a b : T) : zac (.mk k n [a, b]) = zac a + zac b + 1 := by rw [zac]; simp
theorem zx8 (t : T) : zac t ≤ bulk (eT t) := by
  refine T.ind (p := fun t => zac t ≤ bulk (eT t)) ?_ t
  intro k n ks ih
  rw [zac, zcc]
  simp only [cT, tks, bulk, List.map_cons, List.map_nil, List.sum_cons, List.sum_nil, List.map_map]
  have : ∀ l : List T, (∀ x ∈ l, zac x ≤ bulk (eT x)) → (l.map zac).sum ≤ (l.map (bulk ∘ eT)).sum := by
    intro l
    induction l with
    | nil => intro _; simp
    | cons x xs ihx =>
      intro h
      have h1 := h x (by simp)
      have h2 := ihx fun y hy => h y (by simp [hy])
      simp only [List.map_cons, List.sum_cons, Function.comp] at h2 ⊢
      omega
  have := this ks ih
  omega
theorem zvi (t : T) : zac t ≤ bulk (.agg (cT t)) := by rw [← zcc]; exact zx8 t
mutual
def wiT : T → Int → Int → Bool
  | .mk k n ks, v, c => if k = 1 then decide (n < v) else if k = 2 then decide (n ≤ 6) else if k = 3 then decide (n < c) else wiL k v c 0 ks
def wiL (k v c : Int) : Nat → List T → Bool
  | _, [] => true
  | i, x :: xs => wiT x (v + zai k i) c && wiL k v c (i + 1) xs
end
theorem zBm (c : Int) (t : T) : ∀ v : Int, 0 ≤ v → v + zac t ≤ 4194304 → zcm t v c = wiT t v c := by
  refine T.ind (p := fun t => ∀ v : Int, 0 ≤ v → v + zac t ≤ 4194304 → zcm t v c = wiT t v c) ?_ t
  intro k n ks ih v h0 hb
  rw [zcm, wiT]
  split
  · rfl
  split
  · rfl
  split
  · rfl
  have go : ∀ (l : List T) (i : Nat), (∀ x ∈ l, x ∈ ks) → zgu k v c i l = wiL k v c i l := by
    intro l
    induction l with
    | nil => intro i _; rw [zgu, wiL]
    | cons x xs ihx =>
      intro i hm
      have hx := hm x (by simp)
      have hxn := zcq (k := k) (n := n) hx
      have hbl := zdf k i
      rw [zgu, wiL, zb0 (by omega) (by omega), ih x hx _ (by omega) (by omega), ihx (i + 1) fun y hy => hm y (by simp [hy])]
  exact go ks 0 fun x hx => hx
theorem zCi (k v c : Int) : ∀ (l : List T) (i : Nat), wiL k v c i l = true ↔ ∀ (j : Nat) (hj : j < l.length), wiT l[j] (v + zai k (i + j : Nat)) c = true
  | [], i => by simp [wiL]
  | x :: xs, i => by
    rw [wiL, Bool.and_eq_true, zCi k v c xs (i + 1)]
    constructor
    · rintro ⟨h1, h2⟩ j hj
      cases j with
      | zero => simpa using h1
      | succ j =>
        have := h2 j (by simpa using hj)
        rw [show i + 1 + j = i + (j + 1) by omega] at this
        simpa using this
    · intro h
      refine ⟨h 0 (Nat.succ_pos _), fun j hj => ?_⟩
      have := h (j + 1) (by simpa using hj)
      rw [show i + (j + 1) = i + 1 + j by omega] at this
      simpa using this
theorem zFe {t : T} {v : Int} (h0 : 0 ≤ v) (h1 : v ≤ 65536) (hn : zac t ≤ 1048576) : zj0 t v 65536 = true ↔ zau t = 0 ∧ wiT t v 65536 = true := by
  rw [zj0, if_neg (by omega), if_neg (by omega), if_neg (show ¬65536 < v by omega), zBm 65536 t v h0 (by omega)]
  by_cases h : zau t = 0
  · rw [if_pos h]; simp [h]
  · rw [if_neg h]; simp [h]
end Ev
end Go.Proofs.YtdhfkbdhdgaccaaGreat
/- slices.Reverse on a row of one's own. -/
namespace Go.Proofs.YtdhfkbdhdgaccaaGreat
namespace Ev
open Go
set_option maxRecDepth 100000
set_option linter.unusedSimpArgs false
set_option linter.unusedVariables false
attribute [local simp] zae zaf zb6 zb9

def swp (xs : List T) : Nat → List T
  | 0 => xs
  | i + 1 => match (swp xs i)[i]?, (swp xs i)[xs.length - 1 - i]? with
    | some a, some b => ((swp xs i).set i b).set (xs.length - 1 - i) a
    | _, _ => swp xs i
theorem zs2 (xs : List T) : ∀ i, (swp xs i).length = xs.length
  | 0 => rfl
  | i + 1 => by
    rw [swp]
    split
    · rw [List.length_set, List.length_set, zs2 xs i]
    · exact zs2 xs i
theorem zIo (xs : List T) : ∀ (i : Nat), 2 * i ≤ xs.length → ∀ (q : Nat) (hq : q < xs.length), (swp xs i)[q]? = if q < i ∨ xs.length - i ≤ q then xs[xs.length - 1 - q]? else xs[q]?
  | 0, _, q, hq => by
    rw [swp, if_neg (by omega)]
  | i + 1, h2, q, hq => by
    have ih := zIo xs i (by omega)
    have h3 : i < (swp xs i).length := by rw [zs2]; omega
    have h4 : xs.length - 1 - i < (swp xs i).length := by rw [zs2]; omega
    have g1 : (swp xs i)[i]? = some (xs[i]'(by omega)) := by rw [ih i (by omega), if_neg (by omega), List.getElem?_eq_getElem (by omega)]
    have g2 : (swp xs i)[xs.length - 1 - i]? = some (xs[xs.length - 1 - i]'(by omega)) := by rw [ih (xs.length - 1 - i) (by omega), if_neg (by omega), List.getElem?_eq_getElem (by omega)]
    rw [swp, g1, g2]
    simp only
    rw [List.getElem?_set]
    by_cases c1 : xs.length - 1 - i = q
    · rw [if_pos c1, if_pos (by rw [List.length_set]; exact h4), if_pos (by omega), List.getElem?_eq_getElem (by omega)]
      congr 2
      omega
    · rw [if_neg c1, List.getElem?_set]
      by_cases c2 : i = q
      · subst c2
        rw [if_pos rfl, if_pos h3, if_pos (by omega), List.getElem?_eq_getElem (by omega)]
      · rw [if_neg c2, ih q hq]
        by_cases c3 : q < i ∨ xs.length - i ≤ q
        · rw [if_pos c3, if_pos (by omega)]
        · rw [if_neg c3, if_neg (by omega)]
theorem zPc (xs : List T) : swp xs (xs.length / 2) = xs.reverse := by
  apply List.ext_getElem?
  intro q
  rcases Nat.lt_or_ge q xs.length with hq | hq
  · rw [zIo xs _ (by omega) q hq, List.getElem?_reverse hq]
    split
    · rfl
    · have : q = xs.length - 1 - q := by omega
      rw [← this]
  · rw [List.getElem?_eq_none (by rw [zs2]; exact hq), List.getElem?_eq_none (by rw [List.length_reverse]; exact hq)]
def revH (k v : Nat) (xs : List T) : Nat → Ent := fun q => if q = k then ⟨v, .row 3 (xs.map eT) false⟩ else ⟨0, .dead⟩
theorem zEi (k v : Nat) (xs : List T) (hl : xs.length ≤ 1000000000) : MutC Tryz.prog zim [.rsl k v] [k] (revH k v xs) [] (revH k v xs.reverse) := by
  refine zNg hm Tryz.func215 znk rfl ?_ fun G h w vs hk hlen hr => ?_
  · intro q hq
    simp only [revH]
    split <;> trivial
  have e1 : h k = ⟨v, .row 3 (xs.map eT) false⟩ := by rw [hk k (by simp)]; simp [revH]
  have w0 : IntKind.i64.wrap ((xs.length : Int) - 1) = (xs.length : Int) - 1 := zad (by omega) (by omega)
  simp -dsimp [zio, e1, w0]
  refine zam (xs.length / 2) (fun i st => st.s 0 = .rsl k v ∧ st.h k = ⟨v, .row 3 ((swp xs i).map eT) false⟩ ∧ st.s 2 = .d (.int .i64 i) ∧ st.s 3 = .d (.int .i64 ((xs.length : Int) - 1 - i))) ?_ ?_
  · simp -dsimp [e1, swp]
  · rintro i ⟨s, hp⟩ hi ⟨g1, g2, g3, g4⟩
    dsimp only at g1 g2 g3 g4
    rcases Nat.lt_or_ge i (xs.length / 2) with hlt | hge
    · obtain ⟨m, hm⟩ : ∃ m : Nat, xs.length = m + 1 + i := ⟨xs.length - 1 - i, by omega⟩
      have hmi : (xs.length : Int) - 1 - i = (m : Int) := by omega
      have hmn : xs.length - 1 - i = m := by omega
      rw [hmi] at g4
      have him : i < m := by omega
      have w1 : IntKind.i64.wrap ((i : Int) + 1) = (i : Int) + 1 := zad (by omega) (by omega)
      have w2 : IntKind.i64.wrap ((m : Int) - 1) = (xs.length : Int) - 1 - ((i : Int) + 1) := by rw [zad (by omega) (by omega)]; omega
      have hsl := zs2 xs i
      have hi1 : i < (swp xs i).length := by omega
      have hm1 : m < (swp xs i).length := by omega
      have hnx : swp xs (i + 1) = ((swp xs i).set i (swp xs i)[m]).set m (swp xs i)[i] := by
        rw [swp, hmn, List.getElem?_eq_getElem hi1, List.getElem?_eq_getElem hm1]
      rw [hnx]
      generalize swp xs i = Y at g2 hsl hi1 hm1
      simp -dsimp [g1, g2, g3, g4, hi1, hm1, him, w1, w2, zcc, cT]
      exact hlt
    · have e : i = xs.length / 2 := by omega
      rw [e, zPc] at g2
      have c1 : ¬ (i : Int) < (xs.length : Int) - 1 - (i : Int) := by omega
      simp -dsimp [g1, g2, g3, g4, c1, revH]
end Ev
end Go.Proofs.YtdhfkbdhdgaccaaGreat
/- tele: twins, spines. -/
namespace Go.Proofs.YtdhfkbdhdgaccaaGreat
namespace Ev
open Go
set_option maxRecDepth 100000
set_option linter.unusedSimpArgs false
set_option linter.unusedVariables false
attribute [local simp] zae zaf tk tn tks

theorem zHj (l : List T) (hl : l.length * 40 ≤ 140737488351232) (h : ∀ x ∈ l, Pure Tryz.prog zer [.agg (cT x)] [.agg (cT x)]) : Pure Tryz.prog zoo [eTs l] [eTs l] := by
  refine zCf rfl fun hs => ?_
  simp -dsimp [zno, eTs]
  by_cases hz : l = []
  · subst hz
    simp -dsimp
  simp -dsimp [hz]
  have r1 : (l.length : Int) * 40 ≤ (zal : Int) := by simp only [zal]; omega
  have r2 : l.length ≤ zal := by simp only [zal]; omega
  simp -dsimp [hz, r1, r2]
  refine zam l.length (fun i st => st.s 0 = .d (.sl 3 (l.map eT)) ∧ st.s 3 = .rsl 10 1 ∧ st.s 12 = .d (.int .i64 l.length) ∧ st.s 13 = .d (.int .i64 i) ∧
    st.h 10 = ⟨1, .row 3 ((l.map eT).take i ++ List.replicate (l.length - i) (D.agg [.int .i64 0, .int .i64 0, .sl 3 []])) false⟩) ?_ ?_
  · simp -dsimp
  · rintro i ⟨s, hp⟩ hi ⟨g1, g2, g3, g4, g5⟩
    dsimp only at g1 g2 g3 g4 g5
    rcases Nat.lt_or_ge i l.length with hlt | hge
    · have w1 : IntKind.i64.wrap ((i : Int) + 1) = (i : Int) + 1 := zad (by omega) (by omega)
      simp -dsimp [g1, g2, g3, g4, g5, hlt, cT]
      refine zaa (h l[i] (List.getElem_mem _)) ?_
      have q1 : (i : Int) < ((min i l.length : Nat) : Int) + ((l.length - i : Nat) : Int) := by omega
      have q2 : i < min i l.length + (l.length - i) := by omega
      have hle : (l.map eT).length = l.length := List.length_map ..
      have hfn := zxb (l := l.map eT) (z := D.agg [.int .i64 0, .int .i64 0, .sl 3 []]) (i := i) (by rw [hle]; exact hlt)
      have hel : (l.map eT)[i]'(by rw [hle]; exact hlt) = .agg (cT l[i]) := by rw [List.getElem_map, zcc]
      rw [hel, hle] at hfn
      simp only [cT] at hfn
      simp -dsimp [g1, g2, g3, g4, g5, hlt, w1, q1, q2, cT, hfn]
    · have e : i = l.length := by omega
      subst e
      have ht : (l.map eT).take l.length = l.map eT := List.take_of_length_le (by rw [List.length_map]; exact Nat.le_refl _)
      rw [ht, Nat.sub_self, List.replicate_zero, List.append_nil] at g5
      simp -dsimp [g1, g2, g3, g4, g5]
theorem zo9 (t : T) : okT t → Pure Tryz.prog zer [.agg (cT t)] [.agg (cT t)] := by
  refine T.ind (p := fun t => okT t → Pure Tryz.prog zer [.agg (cT t)] [.agg (cT t)]) ?_ t
  intro k n ks ih h
  obtain ⟨h1, h2⟩ := h.kids
  refine zEg rfl fun hs => ?_
  simp -dsimp [zqt, cT]
  refine zaa (zHj ks h1 fun x hx => ih x hx (h2 x hx)) ?_
  simp -dsimp [eTs]
def twoB (t : T) (k : Int) : Bool := decide (t.kind = k) && decide (t.kids.length = 2)
theorem zRk (t : T) (k : Int) : Pure Tryz.prog zs1 [.agg (cT t), .int .i64 k] [.bool (twoB t k)] := by
  refine zF4 rfl fun hs => ?_
  simp -dsimp [ztp, cT, twoB]
  (first | refine zak ?_ ?_ | refine zaj ?_ ?_) <;> intro h1 <;> (try simp only [nrm] at h1) <;> simp -dsimp [h1]
  omega
theorem zFw {k n : Int} {ks : List T} : twoB (.mk k n ks) 6 = true ↔ k = 6 ∧ ∃ a b, ks = [a, b] := by
  show (decide (k = 6) && decide (ks.length = 2)) = true ↔ _
  rw [Bool.and_eq_true, decide_eq_true_eq, decide_eq_true_eq]
  constructor
  · rintro ⟨h1, h2⟩
    match ks, h2 with
    | [a, b], _ => exact ⟨h1, a, b, rfl⟩
  · rintro ⟨h1, a, b, rfl⟩
    exact ⟨h1, rfl⟩

def spA : T → List T
  | .mk k _ ks => if k = 6 then match ks with
    | [a, b] => b :: spA a
    | _ => [] else []
def spH : T → T
  | .mk k n ks => if k = 6 then match ks with
    | [a, _] => spH a
    | _ => .mk k n ks else .mk k n ks
theorem zej {k n : Int} {ks : List T} (hc : ¬ (k = 6 ∧ ∃ a b, ks = [a, b])) : spA (.mk k n ks) = [] ∧ spH (.mk k n ks) = .mk k n ks := by
  match ks, hc with
  | [], _ => simp [spA, spH]
  | [_], _ => simp [spA, spH]
  | [a, b], hc =>
    have h1 : ¬ k = 6 := fun h1 => hc ⟨h1, a, b, rfl⟩
    simp [spA, spH, h1]
  | _ :: _ :: _ :: _, _ => simp [spA, spH]
theorem zfj (n : Int) (a b : T) : spA (.mk 6 n [a, b]) = b :: spA a ∧ spH (.mk 6 n [a, b]) = spH a := by simp [spA, spH]
end Ev
end Go.Proofs.YtdhfkbdhdgaccaaGreat
/- tele: spines taken apart. -/
namespace Go.Proofs.YtdhfkbdhdgaccaaGreat
namespace Ev
open Go
set_option maxRecDepth 100000
set_option linter.unusedSimpArgs false
set_option linter.unusedVariables false
attribute [local simp] zae zaf tk tn tks

theorem zu7 (t : T) (hb : (spA t).length ≤ 1000000) : Pure Tryz.prog zgo [.agg (cT t)] [.agg (cT (spH t)), eTs (spA t).reverse] := by
  refine zBy rfl fun hs => ?_
  simp -dsimp [zoq, cT]
  refine zam (spA t).length (fun i st => st.s 2 = .ptr 2 1 0 ∧ st.h 2 = ⟨1, .box [.d (.int .i64 0), .d (.int .i64 0), .fsl 3 []] false⟩ ∧ st.s 1 = .ptr 1 1 0 ∧ ∃ (cur : T) (L : List T),
    st.h 1 = ⟨1, .box [.d (.int .i64 cur.kind), .d (.int .i64 cur.num), .d (.sl 3 (cur.kids.map eT))] false⟩ ∧ L ++ spA cur = spA t ∧ L.length = i ∧ spH cur = spH t ∧
    st.s 4 = .rsl 4 (1 + i) ∧ st.h 4 = ⟨1 + i, .row 3 (L.map eT) false⟩) ?_ ?_
  · simp -dsimp
    exact ⟨t, ⟨rfl, rfl, rfl⟩, [], by simp⟩
  · rintro i ⟨s, hp⟩ hi ⟨g1, g2, g3, cur, L, g4, g5, g6, g7, g8, g9⟩
    dsimp only at g1 g2 g3 g4 g8 g9
    have htw := zRk cur 6
    obtain ⟨k, n, ks⟩ := cur
    simp only [cT, tk, tn, tks] at htw g4
    have hL : L.length ≤ (spA t).length := by rw [← g5, List.length_append]; omega
    by_cases hc : k = 6 ∧ ∃ a b, ks = [a, b]
    · have hd := zFw (n := n) |>.2 hc
      rw [hd] at htw
      obtain ⟨rfl, a, b, rfl⟩ := hc
      rw [(zfj n a b).1] at g5
      rw [(zfj n a b).2] at g7
      have hlt : i < (spA t).length := by rw [← g5, List.length_append, List.length_cons]; omega
      simp -dsimp [g1, g2, g3, g4, g8, g9]
      refine zaa htw ?_
      have hr : (L.length + 1) * 40 ≤ zal := by simp only [zal]; omega
      simp -dsimp [g1, g2, g3, g4, g8, g9, hr, zcc, cT]
      exact ⟨hlt, a, ⟨rfl, rfl, rfl⟩, L ++ [b], by simp [g5], by simp [g6], g7, by omega, by simp [zcc, cT]⟩
    · have hd : twoB (.mk k n ks) 6 = false := by
        cases h : twoB (.mk k n ks) 6 with
        | false => rfl
        | true => exact absurd (zFw.1 h) hc
      have e1 := zej (n := n) hc
      rw [e1.1, List.append_nil] at g5
      rw [e1.2] at g7
      subst g5
      rw [hd] at htw
      simp -dsimp [g1, g2, g3, g4, g8, g9]
      refine zaa htw ?_
      simp -dsimp [g1, g2, g3, g4, g8, g9]
      refine zsa (zEi 4 (1 + i) (spA t) (by omega)) ?_ ?_
      · simp [revH, g9]
      simp -dsimp [zj6, zlg, revH, g1, g2, g3, g4, g8, g9, ← g7]
      simp [eTs, List.map_reverse]
def spT (f : T) (l : List T) : T := l.foldl (fun o a => .mk 6 0 [o, a]) f
theorem rc_ok (n : Int) : Pure Tryz.prog zj7 [.int .i64 n] [.agg (cT (.mk 3 n []))] := by
  refine zw6 rfl fun hs => ?_
  simp -dsimp [zju, cT]
theorem zRj (n : Int) : Pure Tryz.prog zdv [.int .i64 n] [.agg (cT (.mk 1 n []))] := by
  refine zwg rfl fun hs => ?_
  simp -dsimp [zki, cT]
theorem ru_ok (n : Int) : Pure Tryz.prog zjv [.int .i64 n] [.agg (cT (.mk 2 n []))] := by
  refine zwo rfl fun hs => ?_
  simp -dsimp [zkg, cT]
theorem v_ok (n : Int) : Pure Tryz.prog zg4 [.int .i64 n] [.agg (cT (.mk 1 n []))] := by
  refine zLx rfl fun hs => ?_
  simp -dsimp [zzf, cT]
theorem zCz (k : Int) (l : List T) : Pure Tryz.prog zmy [.int .i64 k, .sl 3 (l.map eT)] [.agg [.int .i64 k, .int .i64 0, .sl 3 (l.map eT)]] := by
  refine zDd rfl fun hs => ?_
  simp -dsimp [zqe, cT]
theorem zhq (f : T) (l : List T) (hl : l.length ≤ 100000000) (hf : okT f) (ho : okTs l) : Pure Tryz.prog zbv [.agg (cT f), eTs l] [.agg (cT (spT f l))] := by
  refine zBe rfl fun hs => ?_
  simp -dsimp [zns, cT, eTs]
  refine zaa (zo9 f hf) ?_
  simp -dsimp [cT]
  refine zam l.length (fun i st => st.s 4 = .ptr 4 1 0 ∧ st.h 4 = ⟨1, .box [.d (.int .i64 0), .d (.int .i64 0), .fsl 3 []] false⟩ ∧ st.s 10 = .d (.sl 3 (l.map eT)) ∧ st.s 11 = .d (.int .i64 l.length) ∧ st.s 12 = .d (.int .i64 i) ∧
    st.s 5 = .ptr 5 1 0 ∧ ∃ cs, st.h 5 = ⟨1, .box [.d (.int .i64 (spT f (l.take i)).kind), .d (.int .i64 (spT f (l.take i)).num), cs] false⟩ ∧ (cs = .d (.sl 3 ((spT f (l.take i)).kids.map eT)) ∨ cs = .fsl 3 ((spT f (l.take i)).kids.map eT))) ?_ ?_
  · simp -dsimp [spT]
  · rintro i ⟨s, hp⟩ hi ⟨g1, g2, g3, g4, g5, g6, cs, g7, g8⟩
    dsimp only at g1 g2 g3 g4 g5 g6 g7
    rcases Nat.lt_or_ge i l.length with hlt | hge
    · have w1 : IntKind.i64.wrap ((i : Int) + 1) = (i : Int) + 1 := zad (by omega) (by omega)
      have hnx : spT f (l.take (i + 1)) = .mk 6 0 [spT f (l.take i), l[i]] := by
        have e : l.take (i + 1) = l.take i ++ [l[i]] := by rw [List.take_add_one, List.getElem?_eq_getElem hlt]; rfl
        rw [spT, e, List.foldl_append]
        rfl
      rw [hnx]
      generalize spT f (l.take i) = Y at g7 g8
      have hnode := zCz 6 [Y, l[i]]
      simp only [List.map_cons, List.map_nil, zcc, cT] at hnode
      rcases g8 with rfl | rfl
      · simp -dsimp [g1, g2, g3, g4, g5, g6, g7, hlt, cT]
        refine zaa (zo9 l[i] (ho.2 _ (List.getElem_mem _))) ?_
        simp -dsimp [g1, g2, g3, g4, g5, g6, g7, hlt, cT]
        refine zaa hnode ?_
        simp -dsimp [g1, g2, g3, g4, g5, g6, g7, hlt, w1, zcc, cT]
      · simp -dsimp [g1, g2, g3, g4, g5, g6, g7, hlt, cT]
        refine zaa (zo9 l[i] (ho.2 _ (List.getElem_mem _))) ?_
        simp -dsimp [g1, g2, g3, g4, g5, g6, g7, hlt, cT]
        refine zaa hnode ?_
        simp -dsimp [g1, g2, g3, g4, g5, g6, g7, hlt, w1, zcc, cT]
    · have e : i = l.length := by omega
      subst e
      rw [List.take_length] at g7 g8
      rcases g8 with rfl | rfl
      · simp -dsimp [g1, g2, g3, g4, g5, g6, g7]
      · simp -dsimp [g1, g2, g3, g4, g5, g6, g7]
end Ev
end Go.Proofs.YtdhfkbdhdgaccaaGreat
/- tele: variables; TeleVars. -/
namespace Go.Proofs.YtdhfkbdhdgaccaaGreat
namespace Ev
open Go
set_option maxRecDepth 100000
set_option linter.unusedSimpArgs false
set_option linter.unusedVariables false
attribute [local simp] zae zaf tk tn tks

def tV (n : Int) : T := .mk 1 n []
def zco (n : Nat) : List T := (List.range n).map fun (i : Nat) => tV ((n : Int) - 1 - (i : Int))
theorem zg0 (n : Nat) : (zco n).length = n := by simp [zco]
theorem zCg (n i : Nat) (h : i < (zco n).length) : (zco n)[i] = tV ((n : Int) - 1 - i) := by simp [zco]
def zwx (n : Int) : List T := if n < 1 ∨ 65536 < n then [] else zco n.toNat
theorem zHq (n : Int) : Pure Tryz.prog zj8 [.int .i64 n] [eTs (zwx n)] := by
  refine zDm rfl fun hs => ?_
  simp -dsimp [zqa]
  (first | refine zak ?_ ?_ | refine zaj ?_ ?_) <;> intro h1 <;> (try simp only [nrm] at h1) <;> simp -dsimp [h1]
  · have : zwx n = [] := by rw [zwx, if_pos (.inl h1)]
    simp -dsimp [this, eTs]
  (first | refine zak ?_ ?_ | refine zaj ?_ ?_) <;> intro h2 <;> (try simp only [nrm] at h2) <;> simp -dsimp [h2, h1]
  · have : zwx n = [] := by rw [zwx, if_pos (.inr h2)]
    simp -dsimp [this, eTs]
  obtain ⟨m, rfl⟩ := Int.eq_ofNat_of_zero_le (show 0 ≤ n by omega)
  have hV : zwx (m : Int) = zco m := by rw [zwx, if_neg (by omega)]; rfl
  rw [hV]
  have r1 : (m : Int) * 40 ≤ (zal : Int) := by simp only [zal]; omega
  have r2 : m ≤ zal := by simp only [zal]; omega
  have hvl := zg0 m
  simp -dsimp [h1, h2, r1, r2]
  refine zam m (fun i st => st.s 0 = .d (.int .i64 m) ∧ st.s 3 = .rsl 12 1 ∧ st.s 14 = .d (.int .i64 m) ∧ st.s 15 = .d (.int .i64 i) ∧
    st.h 12 = ⟨1, .row 3 (((zco m).map eT).take i ++ List.replicate (m - i) (D.agg [.int .i64 0, .int .i64 0, .sl 3 []])) false⟩) ?_ ?_
  · simp -dsimp
  · rintro i ⟨s, hp⟩ hi ⟨g1, g2, g3, g4, g5⟩
    dsimp only at g1 g2 g3 g4 g5
    rcases Nat.lt_or_ge i m with hlt | hge
    · have w0 : IntKind.i64.wrap ((m : Int) - 1) = (m : Int) - 1 := zad (by omega) (by omega)
      have w1 : IntKind.i64.wrap ((i : Int) + 1) = (i : Int) + 1 := zad (by omega) (by omega)
      have w2 : IntKind.i64.wrap ((m : Int) - 1 - i) = (m : Int) - 1 - i := zad (by omega) (by omega)
      simp -dsimp [g1, g2, g3, g4, g5, hlt, w0, w2]
      refine zaa (v_ok _) ?_
      have q1 : (i : Int) < ((min i m : Nat) : Int) + ((m - i : Nat) : Int) := by omega
      have q2 : i < min i m + (m - i) := by omega
      have hle : ((zco m).map eT).length = m := by rw [List.length_map, hvl]
      have hfn := zxb (l := (zco m).map eT) (z := D.agg [.int .i64 0, .int .i64 0, .sl 3 []]) (i := i) (by rw [hle]; exact hlt)
      have hel : ((zco m).map eT)[i]'(by rw [hle]; exact hlt) = .agg [.int .i64 1, .int .i64 ((m : Int) - 1 - i), .sl 3 []] := by
        rw [List.getElem_map, zCg, zcc]; simp [cT, tV]
      rw [hel, hle] at hfn
      simp -dsimp [g1, g2, g3, g4, g5, hlt, w0, w1, w2, q1, q2, hvl, cT, hfn]
    · have e : i = m := by omega
      subst e
      have ht : ((zco i).map eT).take i = (zco i).map eT := List.take_of_length_le (by rw [List.length_map, hvl]; exact Nat.le_refl _)
      rw [ht, Nat.sub_self, List.replicate_zero, List.append_nil] at g5
      simp -dsimp [g1, g2, g3, g4, g5, eTs]

theorem zdq {k n : Int} (hk : 0 ≤ k ∧ k ≤ 100000) (hn : 0 ≤ n ∧ n ≤ 100000) : okT (.mk k n []) := .mk k n [] (by simp only [n64]; omega) (by simp only [n64]; omega) (by simp) (by simp)
theorem zOt {n : Int} {a b : T} (ha : okT a) (hb : okT b) (hn : 0 ≤ n ∧ n ≤ 100000) : okT (.mk 6 n [a, b]) :=
  .mk 6 n [a, b] (by simp only [n64]; omega) (by simp only [n64]; omega) (by simp) (by intro x hx; simp at hx; rcases hx with rfl | rfl <;> assumption)
end Ev
end Go.Proofs.YtdhfkbdhdgaccaaGreat
