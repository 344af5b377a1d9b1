/- Several texts in one. -/
import Derived.Test.YtdhfkbdhdgaccaaGreatX
import Derived.Test.YtdhfkbdhdgaccaaGreatEE
set_option maxRecDepth 100000
set_option linter.unusedSimpArgs false
set_option linter.unusedVariables false
/- Terms, arguments, sorts, constructors, blocks as data. -/
namespace Go.Proofs.YtdhfkbdhdgaccaaGreat
namespace Ev
open Go
inductive T where
  | mk (kind num : Int) (kids : List T)
def T.kind : T → Int | .mk k _ _ => k
def T.num : T → Int | .mk _ n _ => n
def T.kids : T → List T | .mk _ _ ks => ks
def eT : T → D
  | .mk k n ks => .agg [.int .i64 k, .int .i64 n, .sl 3 (ks.map eT)]
def cT (t : T) : List D := [.int .i64 t.kind, .int .i64 t.num, .sl 3 (t.kids.map eT)]
theorem zcr (t : T) : eT t = .agg (cT t) := by cases t; rw [eT]; rfl
@[simp] theorem zsz (t : T) : (eT t).cells = cT t := by rw [zcr]; rfl
def eTs (l : List T) : D := .sl 3 (l.map eT)
theorem T.ind {p : T → Prop} (h : ∀ k n ks, (∀ x ∈ ks, p x) → p (.mk k n ks)) : ∀ t, p t
  | .mk k n ks => h k n ks fun x _ => T.ind h x
structure Ar where
  rc : Bool
  ty : T
  dom : List T
  sort : Int
  idx : List T
def cAr (a : Ar) : List D := .bool a.rc :: cT a.ty ++ [eTs a.dom, .int .i64 a.sort, eTs a.idx]
def eAr (a : Ar) : D := .agg (cAr a)
def eArs (l : List Ar) : D := .sl 7 (l.map eAr)
structure So where
  idx : List Ar
  level : Int
  dec : Bool
  dty : T
def cSo (s : So) : List D := [eArs s.idx, .int .i64 s.level, .bool s.dec] ++ cT s.dty
def eSo (s : So) : D := .agg (cSo s)
def eSos (l : List So) : D := .sl 6 (l.map eSo)
structure Co where
  sort : Int
  args : List Ar
  idx : List T
  dec : T
def cCo (c : Co) : List D := [.int .i64 c.sort, eArs c.args, eTs c.idx] ++ cT c.dec
def eCo (c : Co) : D := .agg (cCo c)
def eCos (l : List Co) : D := .sl 6 (l.map eCo)
structure Bl where
  sorts : List So
  cons : List Co
  elim : Int
def cBl (b : Bl) : List D := [eSos b.sorts, eCos b.cons, .int .i64 b.elim]
def eBl (b : Bl) : D := .agg (cBl b)
def w64 (n : Int) : Int := IntKind.i64.wrap n
end Ev
end Go.Proofs.YtdhfkbdhdgaccaaGreat
/- Sizes and depths of terms; what is played. -/
namespace Go.Proofs.YtdhfkbdhdgaccaaGreat
namespace Ev
open Go
def zf6 : T → Int
  | .mk _ _ ks => (ks.map zf6).foldl (fun a s => w64 (a + s)) 1
def mx (a b : Int) : Int := if a < b then b else a
def zdo : T → Int
  | .mk _ _ ks => w64 ((ks.map zdo).foldl mx 0 + 1)
theorem zgy {t : T} (h : ∀ d ∈ [D.agg (cT t)], small 8 d) : t.kids.length ≤ 9223372036854775807 := by
  have := h (D.agg (cT t)) (by simp)
  simp -dsimp [cT, small] at this
  exact this.1
theorem zd1 {α : Type} {l : List α} {i : Nat} {x : α} (h : l[i]? = some x) : l.take (i + 1) = l.take i ++ [x] := by simp -dsimp [List.take_add_one, h]
theorem zpm {α β : Type} (f : β → α → β) (b : β) (l : List α) (i : Nat) (x : α) (h : l[i]? = some x) : (l.take (i + 1)).foldl f b = f ((l.take i).foldl f b) x := by
  rw [zd1 h, List.foldl_append]; rfl
theorem zKu (t : T) : Pure Tryz.prog zco [.agg (cT t)] [.int .i64 (zf6 t)] := by
  refine T.ind (p := fun t => Pure Tryz.prog zco [.agg (cT t)] [.int .i64 (zf6 t)]) ?_ t
  intro k n ks ih
  refine zsl rfl fun hs => ?_
  have hl := zgy hs
  simp -dsimp [T.kids] at hl
  simp -dsimp [zg4, cT, T.kind, T.num, T.kids]
  refine zam ks.length (fun i st => st.s 1 = .ptr 1 1 0 ∧ st.h 1 = ⟨1, .box [.d (.int .i64 k), .d (.int .i64 n), .d (.sl 3 (ks.map eT))] false⟩ ∧ st.s 4 = .d (.int .i64 i) ∧ st.s 3 = .d (.int .i64 (((ks.map zf6).take i).foldl (fun a s => w64 (a + s)) 1))) ?_ ?_
  · simp
  · rintro i ⟨s, hp⟩ hi ⟨h1, h2, h3, h4⟩
    dsimp only at h1 h2 h3 h4
    rcases Nat.lt_or_ge i ks.length with hlt | hge
    · have w1 : IntKind.i64.wrap ((i : Int) + 1) = (i : Int) + 1 := zad (by omega) (by omega)
      simp -dsimp [h1, h2, h3, h4, hlt, cT]
      refine zaa (ih ks[i] (List.getElem_mem _)) ?_
      have hf := zpm (fun a s => w64 (a + s)) 1 (ks.map zf6) i (zf6 ks[i]) (by simp [hlt])
      simp -dsimp [h1, h2, h3, h4, hlt, w1, hf]
      rfl
    · have e : i = ks.length := by omega
      subst e
      have ht : (ks.map zf6).take ks.length = ks.map zf6 := List.take_of_length_le (by simp)
      simp -dsimp [h1, h2, h3, h4, zf6, ht]
theorem zF6 (l : List Int) (i : Nat) (x : Int) (h : l[i]? = some x) : (l.take (i + 1)).foldl mx 0 = mx ((l.take i).foldl mx 0) x := zpm _ _ _ _ _ h
theorem zFs (t : T) : Pure Tryz.prog zce [.agg (cT t)] [.int .i64 (zdo t)] := by
  refine T.ind (p := fun t => Pure Tryz.prog zce [.agg (cT t)] [.int .i64 (zdo t)]) ?_ t
  intro k n ks ih
  refine zrm rfl fun hs => ?_
  have hl := zgy hs
  simp [T.kids] at hl
  simp -dsimp [zgs, cT, T.kind, T.num, T.kids]
  refine zam ks.length (fun i st => st.s 1 = .ptr 1 1 0 ∧ st.h 1 = ⟨1, .box [.d (.int .i64 k), .d (.int .i64 n), .d (.sl 3 (ks.map eT))] false⟩ ∧ st.s 4 = .d (.int .i64 i) ∧ st.s 3 = .d (.int .i64 (((ks.map zdo).take i).foldl mx 0))) ?_ ?_
  · simp -dsimp
  · rintro i ⟨s, hp⟩ hi ⟨h1, h2, h3, h4⟩
    dsimp only at h1 h2 h3 h4
    rcases Nat.lt_or_ge i ks.length with hlt | hge
    · have w1 : IntKind.i64.wrap ((i : Int) + 1) = (i : Int) + 1 := zad (by omega) (by omega)
      simp -dsimp [h1, h2, h3, h4, hlt, cT]
      refine zaa (ih ks[i] (List.getElem_mem _)) ?_
      have hf := zF6 (ks.map zdo) i (zdo ks[i]) (by simp [hlt])
      simp -dsimp [h1, h2, h3, h4, hlt, w1, hf]
      rfl
    · have e : i = ks.length := by omega
      subst e
      have ht : (ks.map zdo).take ks.length = ks.map zdo := List.take_of_length_le (by simp)
      simp -dsimp [h1, h2, h3, h4, zdo, ht]
      rfl
def zfj (l : List T) : Bool := decide ((60 : Int) < (l.length : Int)) || l.any (fun t => decide (300 < zdo t)) || decide (9000 < (l.map zf6).foldl (fun a s => w64 (a + s)) 0)
theorem zo5 (l : List T) : Pure Tryz.prog zbd [eTs l] [.bool (zfj l)] := by
  refine zq3 rfl fun hs => ?_
  simp -dsimp [zga, eTs]
  (first | refine zal ?_ ?_ | refine zak ?_ ?_) <;> intro h1 <;> (try simp only [nrm] at h1) <;> simp -dsimp [h1, zfj]
  have hl : l.length ≤ 60 := by omega
  refine zam l.length (fun i st => st.s 0 = .d (.sl 3 (l.map eT)) ∧ st.s 4 = .d (.int .i64 i) ∧ st.s 3 = .d (.int .i64 (((l.map zf6).take i).foldl (fun a s => w64 (a + s)) 0)) ∧ (l.take i).any (fun t => decide (300 < zdo t)) = false) ?_ ?_
  · simp -dsimp
  · rintro i ⟨s, hp⟩ hi ⟨h2, h3, h4, h5⟩
    dsimp only at h2 h3 h4 h5
    rcases Nat.lt_or_ge i l.length with hlt | hge
    · have w1 : IntKind.i64.wrap ((i : Int) + 1) = (i : Int) + 1 := zad (by omega) (by omega)
      simp -dsimp [h2, h3, h4, hlt, cT]
      refine zaa (zFs l[i]) ?_
      simp -dsimp [h2, h3, h4, hlt]
      (first | refine zal ?_ ?_ | refine zak ?_ ?_) <;> intro h6 <;> (try simp only [nrm] at h6) <;> simp -dsimp [h6, zfj]
      · exact .inl (.inr ⟨l[i], List.getElem_mem _, h6⟩)
      · simp -dsimp [h2, h3, h4, hlt, h6, cT]
        refine zaa (zKu l[i]) ?_
        have hf := zpm (fun a s => w64 (a + s)) 0 (l.map zf6) i (zf6 l[i]) (by simp [hlt])
        have h7 : (l.take (i + 1)).any (fun t => decide (300 < zdo t)) = false := by
          rw [zd1 (List.getElem?_eq_getElem hlt), List.any_append, h5]
          simp [h6]
        simp -dsimp [h2, h3, h4, hlt, w1, hf]
        exact ⟨rfl, by simpa using h7⟩
    · have e : i = l.length := by omega
      subst e
      have ht : (l.map zf6).take l.length = l.map zf6 := List.take_of_length_le (by simp)
      simp -dsimp [h2, h3, h4, zfj, ht]
      rintro (h | ⟨x, hx, h⟩)
      · exact absurd h h1
      · rw [List.take_length] at h5
        have := List.any_eq_false.1 h5 x hx
        simp at this
        omega
end Ev
end Go.Proofs.YtdhfkbdhdgaccaaGreat
/- Kinds. -/
namespace Go.Proofs.YtdhfkbdhdgaccaaGreat
namespace Ev
open Go
theorem zae (h : Nat → Ent) (n : Nat) (cs : List D) : allD (toD h n) (cs.map .d) = some cs := by
  induction cs with
  | nil => rfl
  | cons c cs ih => simp only [List.map_cons, allD, zLp, ih]
theorem zaf (h : Nat → Ent) (cs : List D) : sks h (cs.map .d) = [] := by
  induction cs with
  | nil => rfl
  | cons c cs ih => simp only [List.map_cons, sks, sk_d, ih, List.nil_append]
def isM (k : Int) : Bool := decide (1 ≤ k) && decide (k ≤ 13)
theorem is_ok (k : Int) : Pure Tryz.prog zxd [.int .i64 k] [.bool (isM k)] := by
  refine zH1 rfl fun hs => ?_
  simp -dsimp [zw0]
  (first | refine zal ?_ ?_ | refine zak ?_ ?_) <;> intro h1 <;> (try simp only [nrm] at h1) <;> simp -dsimp [h1, isM]
def zdy (k : Int) : Int :=
  if k = 1 then 0 else if k = 2 then 0 else if k = 3 then 0 else if k = 9 then 1 else if k = 10 then 1 else if k = 8 then 3 else if k = 11 then 3 else if k = 13 then 3 else if isM k then 2 else -1
theorem zQf (k : Int) : Pure Tryz.prog zqb [.int .i64 k] [.int .i64 (zdy k)] := by
  refine zEu rfl fun hs => ?_
  simp -dsimp [zq8]
  (first | refine zal ?_ ?_ | refine zak ?_ ?_) <;> intro h1 <;> (try simp only [nrm] at h1) <;> simp -dsimp [h1, zdy]
  (first | refine zal ?_ ?_ | refine zak ?_ ?_) <;> intro h2 <;> (try simp only [nrm] at h2) <;> simp -dsimp [h2, zdy, h1]
  (first | refine zal ?_ ?_ | refine zak ?_ ?_) <;> intro h3 <;> (try simp only [nrm] at h3) <;> simp -dsimp [h3, zdy, h1, h2]
  (first | refine zal ?_ ?_ | refine zak ?_ ?_) <;> intro h4 <;> (try simp only [nrm] at h4) <;> simp -dsimp [h4, zdy, h1, h2, h3]
  (first | refine zal ?_ ?_ | refine zak ?_ ?_) <;> intro h5 <;> (try simp only [nrm] at h5) <;> simp -dsimp [h5, zdy, h1, h2, h3, h4]
  (first | refine zal ?_ ?_ | refine zak ?_ ?_) <;> intro h6 <;> (try simp only [nrm] at h6) <;> simp -dsimp [h6, zdy, h1, h2, h3, h4, h5]
  (first | refine zal ?_ ?_ | refine zak ?_ ?_) <;> intro h7 <;> (try simp only [nrm] at h7) <;> simp -dsimp [h7, zdy, h1, h2, h3, h4, h5, h6]
  (first | refine zal ?_ ?_ | refine zak ?_ ?_) <;> intro h8 <;> (try simp only [nrm] at h8) <;> simp -dsimp [h8, zdy, h1, h2, h3, h4, h5, h6, h7]
  refine zaa (is_ok k) ?_
  simp -dsimp
  (first | refine zal ?_ ?_ | refine zak ?_ ?_) <;> intro h9 <;> (try simp only [nrm] at h9) <;> simp -dsimp [h9, zdy, h1, h2, h3, h4, h5, h6, h7, h8]
def idxI (n : Int) (l : List Int) : Int := match l.findIdx? (fun x => n == x) with
  | some i => i
  | none => -1
theorem zB0 (l : List Int) (n : Int) : Pure Tryz.prog zhn [.sl 1 (l.map (.int .i64)), .int .i64 n] [.int .i64 (idxI n l)] := by
  refine zs0 rfl fun hs => ?_
  have hl := hs (.sl 1 (l.map (.int .i64))) (by simp)
  simp [small] at hl
  simp -dsimp [zhu]
  refine zam l.length (fun i st => st.s 0 = .d (.sl 1 (l.map (.int .i64))) ∧ st.s 1 = .d (.int .i64 n) ∧ st.s 7 = .d (.int .i64 l.length) ∧ st.s 8 = .d (.int .i64 i) ∧ ∀ x ∈ l.take i, (n == x) = false) ?_ ?_
  · simp -dsimp
  · rintro i ⟨s, hp⟩ hi ⟨h1, h2, h3, h4, h5⟩
    dsimp only at h1 h2 h3 h4 h5
    rcases Nat.lt_or_ge i l.length with hlt | hge
    · have w1 : IntKind.i64.wrap ((i : Int) + 1) = (i : Int) + 1 := zad (by omega) (by omega)
      simp -dsimp [h1, h2, h3, h4, hlt]
      (first | refine zal ?_ ?_ | refine zak ?_ ?_) <;> intro h6 <;> (try simp only [nrm] at h6) <;> simp -dsimp [h6, h1, h2, h3, h4, hlt, w1]
      · have : l.findIdx? (fun x => n == x) = some i := by
          rw [List.findIdx?_eq_some_iff_getElem]
          refine ⟨hlt, by simpa using h6, fun j hj => ?_⟩
          have := h5 l[j] (by rw [List.mem_take_iff_getElem]; exact ⟨j, by omega, rfl⟩)
          simpa using this
        rw [← h6]
        simp only [idxI, this]
      · intro x hx
        rw [zd1 (List.getElem?_eq_getElem hlt), List.mem_append] at hx
        rcases hx with hx | hx
        · simpa using h5 x hx
        · simp at hx; subst hx; exact h6
    · have e : i = l.length := by omega
      subst e
      rw [List.take_length] at h5
      have : l.findIdx? (fun x => n == x) = none := by
        rw [List.findIdx?_eq_none_iff]; exact h5
      simp -dsimp [h1, h2, h3, h4, idxI, this]
theorem zv0 (l : List Int) (n : Int) : Pure Tryz.prog ze1 [.sl 1 (l.map (.int .i64)), .int .i64 n] [.bool (decide (0 ≤ idxI n l))] := by
  refine zoj rfl fun hs => ?_
  simp -dsimp [zfa]
  refine zaa (zB0 l n) ?_
  simp -dsimp
def zai (k i : Int) : Int := if i = 1 ∧ (k = 4 ∨ k = 5 ∨ k = 7) then 1 else 0
theorem zlw (k i : Int) : Pure Tryz.prog ze7 [.int .i64 k, .int .i64 i] [.int .i64 (zai k i)] := by
  refine zB5 rfl fun hs => ?_
  simp -dsimp [zos]
  (first | refine zal ?_ ?_ | refine zak ?_ ?_) <;> intro h1 <;> (try simp only [nrm] at h1) <;> simp -dsimp [h1, zai]
  refine zaa (zv0 [4, 5, 7] k) ?_
  have hc : decide (0 ≤ idxI k [4, 5, 7]) = decide (k = 4 ∨ k = 5 ∨ k = 7) := by
    simp only [idxI, List.findIdx?_cons, List.findIdx?_nil]
    by_cases h4 : k = 4
    · simp [h4]
    · by_cases h5 : k = 5
      · simp [h5]
      · by_cases h7 : k = 7 <;> simp [h4, h5, h7]
  rw [hc]
  simp -dsimp [h1]
  (first | refine zal ?_ ?_ | refine zak ?_ ?_) <;> intro h2 <;> (try simp only [nrm] at h2) <;> simp -dsimp [h2, zai, h1]
end Ev
end Go.Proofs.YtdhfkbdhdgaccaaGreat
/- slices.IndexFunc, slices.ContainsFunc; what a right term is. -/
namespace Go.Proofs.YtdhfkbdhdgaccaaGreat
namespace Ev
open Go
attribute [local simp] zae zaf
@[simp] theorem zS0 (a : Ar) : (eAr a).cells = cAr a := rfl
@[simp] theorem zUj (a : So) : (eSo a).cells = cSo a := rfl
@[simp] theorem zS7 (a : Co) : (eCo a).cells = cCo a := rfl
def idxF {α : Type} (l : List α) (p : α → Bool) : Int := match l.findIdx? p with
  | some i => i
  | none => -1
theorem zEk {α : Type} (l : List α) (p : α → Bool) : decide (0 ≤ idxF l p) = l.any p := by
  cases h : l.findIdx? p with
  | none =>
    have h1 := List.findIdx?_eq_none_iff.1 h
    have h2 : l.any p = false := by rw [List.any_eq_false]; intro x hx; simp [h1 x hx]
    have h3 : idxF l p = -1 := by simp only [idxF, h]
    rw [h2, h3]; rfl
  | some i =>
    obtain ⟨hi, hp, _⟩ := List.findIdx?_eq_some_iff_getElem.1 h
    have h2 : l.any p = true := List.any_eq_true.2 ⟨_, List.getElem_mem hi, hp⟩
    have h3 : idxF l p = (i : Int) := by simp only [idxF, h]
    rw [h2, h3]; simp
theorem zx6 (l : List T) (g : FuncId) (caps : List D) (p : T → Bool) (hp : ∀ x ∈ l, Pure Tryz.prog g (.agg (cT x) :: caps) [.bool (p x)]) :
    Pure Tryz.prog zeh [.sl 3 (l.map eT), .clo g caps] [.int .i64 (idxF l p)] := by
  refine zl7 rfl fun hs => ?_
  have hl := hs (.sl 3 (l.map eT)) (by simp)
  simp [small] at hl
  replace hl := hl.1
  simp -dsimp [zeb]
  refine zam l.length (fun i st => st.s 0 = .d (.sl 3 (l.map eT)) ∧ st.s 1 = .d (.clo g caps) ∧ st.s 7 = .d (.int .i64 l.length) ∧ st.s 8 = .d (.int .i64 i) ∧ ∀ x ∈ l.take i, p x = false) ?_ ?_
  · simp -dsimp
  · rintro i ⟨s, hp'⟩ hi ⟨h1, h2, h3, h4, h5⟩
    dsimp only at h1 h2 h3 h4 h5
    rcases Nat.lt_or_ge i l.length with hlt | hge
    · have w1 : IntKind.i64.wrap ((i : Int) + 1) = (i : Int) + 1 := zad (by omega) (by omega)
      have hc : (cT l[i]).length = 3 := rfl
      simp -dsimp [h1, h2, h3, h4, hlt, hc]
      have ht : (cT l[i]).take 3 = cT l[i] := List.take_of_length_le (by omega)
      refine zaa (by rw [ht]; exact hp l[i] (List.getElem_mem _)) ?_
      simp -dsimp [h1, h2, h3, h4, hlt]
      (first | refine zal ?_ ?_ | refine zak ?_ ?_) <;> intro h6 <;> (try simp only [nrm] at h6) <;> simp -dsimp [h6, h1, h2, h3, h4, hlt, w1]
      · have : l.findIdx? p = some i := by
          rw [List.findIdx?_eq_some_iff_getElem]
          refine ⟨hlt, h6, fun j hj => ?_⟩
          have := h5 l[j] (by rw [List.mem_take_iff_getElem]; exact ⟨j, by omega, rfl⟩)
          simpa using this
        simp only [idxF, this]
      · intro x hx
        rw [zd1 (List.getElem?_eq_getElem hlt), List.mem_append] at hx
        rcases hx with hx | hx
        · simpa using h5 x hx
        · simp at hx; subst hx; exact h6
    · have e : i = l.length := by omega
      subst e
      rw [List.take_length] at h5
      have : l.findIdx? p = none := by
        rw [List.findIdx?_eq_none_iff]; exact h5
      simp -dsimp [h1, h2, h3, h4, idxF, this]
theorem zfq (l : List T) (g : FuncId) (caps : List D) (p : T → Bool) (hp : ∀ x ∈ l, Pure Tryz.prog g (.agg (cT x) :: caps) [.bool (p x)]) :
    Pure Tryz.prog zbn [.sl 3 (l.map eT), .clo g caps] [.bool (l.any p)] := by
  refine zkr rfl fun hs => ?_
  simp -dsimp [zdg]
  refine zaa (zx6 l g caps p hp) ?_
  simp -dsimp [zEk]
end Ev
end Go.Proofs.YtdhfkbdhdgaccaaGreat
/- term: sizes, right terms, scopes. -/
namespace Go.Proofs.YtdhfkbdhdgaccaaGreat
namespace Ev
open Go
attribute [local simp] zae zaf
theorem zF7 (t : T) : Pure Tryz.prog zhx [.agg (cT t)] [.int .i64 (zf6 t)] := by
  refine T.ind (p := fun t => Pure Tryz.prog zhx [.agg (cT t)] [.int .i64 (zf6 t)]) ?_ t
  intro k n ks ih
  refine zEc rfl fun hs => ?_
  have hl := zgy hs
  simp [T.kids] at hl
  simp -dsimp [zqh, cT, T.kind, T.num, T.kids]
  refine zam ks.length (fun i st => st.s 7 = .d (.sl 3 (ks.map eT)) ∧ st.s 8 = .d (.int .i64 ks.length) ∧ st.s 9 = .d (.int .i64 i) ∧ st.s 3 = .d (.int .i64 (((ks.map zf6).take i).foldl (fun a s => w64 (a + s)) 1))) ?_ ?_
  · simp -dsimp
  · rintro i ⟨s, hp⟩ hi ⟨h1, h2, h3, h4⟩
    dsimp only at h1 h2 h3 h4
    rcases Nat.lt_or_ge i ks.length with hlt | hge
    · have w1 : IntKind.i64.wrap ((i : Int) + 1) = (i : Int) + 1 := zad (by omega) (by omega)
      simp -dsimp [h1, h2, h3, h4, hlt, cT]
      refine zaa (ih ks[i] (List.getElem_mem _)) ?_
      have hf := zpm (fun a s => w64 (a + s)) 1 (ks.map zf6) i (zf6 ks[i]) (by simp [hlt])
      simp -dsimp [h1, h2, h3, h4, hlt, w1, hf]
      rfl
    · have e : i = ks.length := by omega
      subst e
      have ht : (ks.map zf6).take ks.length = ks.map zf6 := List.take_of_length_le (by simp)
      simp -dsimp [h1, h2, h3, h4, zf6, ht]
theorem zC0 (t : T) : Pure Tryz.prog zgw [.agg (cT t)] [.int .i64 (zdo t)] := by
  refine T.ind (p := fun t => Pure Tryz.prog zgw [.agg (cT t)] [.int .i64 (zdo t)]) ?_ t
  intro k n ks ih
  refine zBt rfl fun hs => ?_
  have hl := zgy hs
  simp [T.kids] at hl
  simp -dsimp [znl, cT, T.kind, T.num, T.kids]
  refine zam ks.length (fun i st => st.s 7 = .d (.sl 3 (ks.map eT)) ∧ st.s 8 = .d (.int .i64 ks.length) ∧ st.s 9 = .d (.int .i64 i) ∧ st.s 3 = .d (.int .i64 (((ks.map zdo).take i).foldl mx 0))) ?_ ?_
  · simp -dsimp
  · rintro i ⟨s, hp⟩ hi ⟨h1, h2, h3, h4⟩
    dsimp only at h1 h2 h3 h4
    rcases Nat.lt_or_ge i ks.length with hlt | hge
    · have w1 : IntKind.i64.wrap ((i : Int) + 1) = (i : Int) + 1 := zad (by omega) (by omega)
      simp -dsimp [h1, h2, h3, h4, hlt, cT]
      refine zaa (ih ks[i] (List.getElem_mem _)) ?_
      have hf := zF6 (ks.map zdo) i (zdo ks[i]) (by simp [hlt])
      simp -dsimp [h1, h2, h3, h4, hlt, w1, hf]
      rfl
    · have e : i = ks.length := by omega
      subst e
      have ht : (ks.map zdo).take ks.length = ks.map zdo := List.take_of_length_le (by simp)
      simp -dsimp [h1, h2, h3, h4, zdo, ht]
      rfl
def zab : T → Bool
  | .mk k n ks => if zdy k < 0 then false else if (ks.length : Int) = zdy k then if n < 0 then false else if 65535 < n then false else if 0 < zdy k ∧ n ≠ 0 then false else (ks.map zab).all id else false
theorem zy2 (t : T) (h : Pure Tryz.prog zfl [.agg (cT t)] [.bool (zab t)]) : Pure Tryz.prog zff [.agg (cT t)] [.bool (!zab t)] := by
  refine zxg rfl fun hs => ?_
  simp -dsimp [zj7, cT]
  refine zaa h ?_
  simp -dsimp
theorem zIq (t : T) : Pure Tryz.prog zfl [.agg (cT t)] [.bool (zab t)] := by
  refine T.ind (p := fun t => Pure Tryz.prog zfl [.agg (cT t)] [.bool (zab t)]) ?_ t
  intro k n ks ih
  refine zzs rfl fun hs => ?_
  simp -dsimp [zm4, cT, T.kind, T.num, T.kids]
  refine zaa (zQf k) ?_
  simp -dsimp
  (first | refine zal ?_ ?_ | refine zak ?_ ?_) <;> intro h1 <;> (try simp only [nrm] at h1) <;> simp -dsimp [h1, zab]
  (first | refine zal ?_ ?_ | refine zak ?_ ?_) <;> intro h2 <;> (try simp only [nrm] at h2) <;> simp -dsimp [h2, zab, h1]
  (first | refine zal ?_ ?_ | refine zak ?_ ?_) <;> intro h3 <;> (try simp only [nrm] at h3) <;> simp -dsimp [h3, zab, h1, h2]
  (first | refine zal ?_ ?_ | refine zak ?_ ?_) <;> intro h4 <;> (try simp only [nrm] at h4) <;> simp -dsimp [h4, zab, h1, h2, h3]
  (first | refine zal ?_ ?_ | refine zak ?_ ?_) <;> intro h5 <;> (try simp only [nrm] at h5) <;> simp -dsimp [h5, zab, h1, h2, h3, h4]
  · (first | refine zal ?_ ?_ | refine zak ?_ ?_) <;> intro h6 <;> (try simp only [nrm] at h6) <;> simp -dsimp [h6, zab, h1, h2, h3, h4, h5]
    refine zaa (zfq ks zff [] (fun t => !zab t) (fun x hx => zy2 x (ih x hx))) ?_
    have hf : zab (.mk k 0 ks) = !(ks.any fun t => !zab t) := by
      rw [zab, if_neg h1, if_pos h2]
      simp [List.all_eq_not_any_not, Function.comp_def]
    subst h6
    simp -dsimp [hf]
  · refine zaa (zfq ks zff [] (fun t => !zab t) (fun x hx => zy2 x (ih x hx))) ?_
    have hf : zab (.mk k n ks) = !(ks.any fun t => !zab t) := by
      rw [zab, if_neg h1, if_pos h2, if_neg h3, if_neg h4, if_neg (fun h => h5 h.1)]
      simp [List.all_eq_not_any_not, Function.comp_def]
    simp -dsimp [hf]
def zaw (t : T) : Int := if 6000 < zf6 t then 4 else if 200 < zdo t then 5 else if zab t then 0 else 1
theorem zr1 (t : T) : Pure Tryz.prog zfg [.agg (cT t)] [.int .i64 (zaw t)] := by
  refine zBd rfl fun hs => ?_
  simp -dsimp [znm, cT]
  refine zaa (zF7 t) ?_
  simp -dsimp
  (first | refine zal ?_ ?_ | refine zak ?_ ?_) <;> intro h1 <;> (try simp only [nrm] at h1) <;> simp -dsimp [h1, zaw]
  refine zaa (zC0 t) ?_
  simp -dsimp
  (first | refine zal ?_ ?_ | refine zak ?_ ?_) <;> intro h2 <;> (try simp only [nrm] at h2) <;> simp -dsimp [h2, zaw, h1]
  refine zaa (zIq t) ?_
  simp -dsimp
  (first | refine zal ?_ ?_ | refine zak ?_ ?_) <;> intro h3 <;> (try simp only [nrm] at h3) <;> simp -dsimp [h3, zaw, h1, h2]
mutual
def zcq : T → Int → Int → Bool
  | .mk k n ks, v, c => if k = 1 then decide (n < v) else if k = 2 then decide (n ≤ 6) else if k = 3 then decide (n < c) else zhm k v c 0 ks
def zhm (k v c : Int) : Nat → List T → Bool
  | _, [] => true
  | i, x :: xs => zcq x (w64 (v + zai k i)) c && zhm k v c (i + 1) xs
end
theorem zkl (k v c : Int) : ∀ (l : List T) (i : Nat), zhm k v c i l = true ↔ ∀ (j : Nat) (hj : j < l.length), zcq l[j] (w64 (v + zai k (i + j : Nat))) c = true
  | [], i => by simp [zhm]
  | x :: xs, i => by
    rw [zhm, Bool.and_eq_true, zkl k v c xs (i + 1)]
    constructor
    · rintro ⟨h1, h2⟩ j hj
      cases j with
      | zero => simpa using h1
      | succ j =>
        have := h2 j (by simpa using hj)
        have e : i + 1 + j = i + (j + 1) := by omega
        rw [e] at this
        simpa using this
    · intro h
      refine ⟨h 0 (by simp), fun j hj => ?_⟩
      have := h (j + 1) (by simpa using hj)
      have e : i + 1 + j = i + (j + 1) := by omega
      rw [e]
      simpa using this
theorem zJ8 (t : T) : ∀ v c : Int, Pure Tryz.prog zg6 [.agg (cT t), .int .i64 v, .int .i64 c] [.bool (zcq t v c)] := by
  refine T.ind (p := fun t => ∀ v c : Int, Pure Tryz.prog zg6 [.agg (cT t), .int .i64 v, .int .i64 c] [.bool (zcq t v c)]) ?_ t
  intro k n ks ih v c
  refine zzk rfl fun hs => ?_
  have hl := zgy (t := .mk k n ks) (fun d hd => hs d (by simp at hd; simp [hd]))
  simp [T.kids] at hl
  simp -dsimp [zmm, cT, T.kind, T.num, T.kids]
  (first | refine zal ?_ ?_ | refine zak ?_ ?_) <;> intro h1 <;> (try simp only [nrm] at h1) <;> simp -dsimp [h1, zcq]
  (first | refine zal ?_ ?_ | refine zak ?_ ?_) <;> intro h2 <;> (try simp only [nrm] at h2) <;> simp -dsimp [h2, zcq, h1]
  (first | refine zal ?_ ?_ | refine zak ?_ ?_) <;> intro h3 <;> (try simp only [nrm] at h3) <;> simp -dsimp [h3, zcq, h1, h2]
  have hw : zcq (.mk k n ks) v c = zhm k v c 0 ks := by rw [zcq, if_neg h1, if_neg h2, if_neg h3]
  rw [hw]
  refine zam ks.length (fun i st => st.s 3 = .ptr 3 1 0 ∧ st.h 3 = ⟨1, .box [.d (.int .i64 k), .d (.int .i64 n), .d (.sl 3 (ks.map eT))] false⟩ ∧ st.s 1 = .d (.int .i64 v) ∧ st.s 2 = .d (.int .i64 c) ∧
    st.s 29 = .d (.sl 3 (ks.map eT)) ∧ st.s 30 = .d (.int .i64 ks.length) ∧ st.s 31 = .d (.int .i64 i) ∧ ∀ (j : Nat) (hj : j < ks.length), j < i → zcq ks[j] (w64 (v + zai k j)) c = true) ?_ ?_
  · simp -dsimp
  · rintro i ⟨s, hp⟩ hi ⟨g1, g2, g3, g4, g5, g6, g7, g8⟩
    dsimp only at g1 g2 g3 g4 g5 g6 g7
    rcases Nat.lt_or_ge i ks.length with hlt | hge
    · have w1 : IntKind.i64.wrap ((i : Int) + 1) = (i : Int) + 1 := zad (by omega) (by omega)
      simp -dsimp [g1, g2, g3, g4, g5, g6, g7, hlt, cT]
      refine zaa (zlw k i) ?_
      simp -dsimp [g1, g2, g3, g4, g5, g6, g7, hlt]
      refine zaa (ih ks[i] (List.getElem_mem _) (w64 (v + zai k i)) c) ?_
      simp -dsimp [g1, g2, g3, g4, g5, g6, g7, hlt]
      (first | refine zal ?_ ?_ | refine zak ?_ ?_) <;> intro h4 <;> (try simp only [nrm] at h4) <;> simp -dsimp [h4, g1, g2, g3, g4, g5, g6, g7, hlt, w1]
      · cases hw : zhm k v c 0 ks with
        | false => rfl
        | true =>
          have := (zkl k v c ks 0).1 hw i hlt
          rw [Nat.zero_add, h4] at this
          cases this
      · intro j hj hji
        rcases Nat.lt_or_ge j i with h | h
        · exact g8 j hj h
        · have : j = i := by omega
          subst this
          exact h4
    · have e : i = ks.length := by omega
      subst e
      have : zhm k v c 0 ks = true := (zkl k v c ks 0).2 fun j hj => by simpa using g8 j hj hj
      simp -dsimp [g1, g2, g3, g4, g5, g6, g7, this]
def zlr (t : T) (v c : Int) : Bool := if v < 0 then false else if c < 0 then false else if zaw t = 0 then zcq t (if 65536 < v then 65536 else v) c else false
theorem zMg (t : T) (v c : Int) : Pure Tryz.prog zn8 [.agg (cT t), .int .i64 v, .int .i64 c] [.bool (zlr t v c)] := by
  refine zDc rfl fun hs => ?_
  simp -dsimp [zof, cT]
  (first | refine zal ?_ ?_ | refine zak ?_ ?_) <;> intro h1 <;> (try simp only [nrm] at h1) <;> simp -dsimp [h1, zlr]
  · (first | refine zal ?_ ?_ | refine zak ?_ ?_) <;> intro h2 <;> (try simp only [nrm] at h2) <;> simp -dsimp [h2, zlr, h1]
    · refine zaa (zr1 t) ?_
      simp -dsimp [h1, h2]
      (first | refine zal ?_ ?_ | refine zak ?_ ?_) <;> intro h3 <;> (try simp only [nrm] at h3) <;> simp -dsimp [h3, zlr, h1, h2]
      · refine zaa (zJ8 t _ _) ?_
        have hS : zlr t v c = zcq t (if 65536 < v then 65536 else v) c := by rw [zlr, if_neg (by omega), if_neg (by omega), if_pos h3]
        rw [hS]
        simp -dsimp [h3]
end Ev
end Go.Proofs.YtdhfkbdhdgaccaaGreat
/- What comes in by type: numbers, terms, and how long their rows may be. -/
namespace Go.Proofs.YtdhfkbdhdgaccaaGreat
namespace Ev
open Go
theorem zzb : Tryz.prog.cellsOf 32 = 3 := by kernel_rfl
theorem zEl : Tryz.prog.cellsOf 30 = 1 := by kernel_rfl
theorem zLn : Tryz.prog.cellsOf 3 = 1 := by kernel_rfl
theorem zOp : Tryz.prog.cellsOf 4 = 1 := by kernel_rfl
theorem zOj : Tryz.prog.bytesOf 32 = 40 := by kernel_rfl
def n64 (n : Int) : Prop := -9223372036854775808 ≤ n ∧ n < 9223372036854775808
inductive okT : T → Prop
  | mk (k n : Int) (ks : List T) (hk : n64 k) (hn : n64 n) (hl : ks.length * 40 ≤ 140737488351232) (h : ∀ x ∈ ks, okT x) : okT (.mk k n ks)
def okTs (l : List T) : Prop := l.length * 40 ≤ 140737488351232 ∧ ∀ x ∈ l, okT x
theorem okT.kids {k n : Int} {ks : List T} (h : okT (.mk k n ks)) : okTs ks := by
  cases h with
  | mk _ _ _ _ _ hl h => exact ⟨hl, h⟩
theorem zyd {α : Type} {f : α → D} {q : α → Prop} : ∀ {xs : List D}, (∀ x ∈ xs, ∃ a, q a ∧ x = f a) → ∃ l : List α, xs = l.map f ∧ ∀ a ∈ l, q a
  | [], _ => ⟨[], rfl, by simp⟩
  | x :: xs, h => by
    obtain ⟨a, ha, rfl⟩ := h x (List.mem_cons_self ..)
    obtain ⟨l, rfl, hl⟩ := zyd (xs := xs) fun y hy => h y (List.mem_cons_of_mem _ hy)
    exact ⟨a :: l, rfl, by simpa using ⟨ha, hl⟩⟩
theorem zOl : ∀ {x : D}, x.isAgg = true → x = .agg x.cells := by
  intro x h
  cases x <;> first | rfl | cases h
theorem len3 {xs : List D} (h : xs.length = 3) : ∃ a b c, xs = [a, b, c] := by
  match xs, h with
  | [a, b, c], _ => exact ⟨a, b, c, rfl⟩
theorem wf64 {i : Int} (hw : (Lit.int .i64 i).wf = true) : n64 i := by
  obtain ⟨u, v⟩ : IntKind.i64.min ≤ i ∧ i ≤ IntKind.i64.max := by simpa [Lit.wf] using hw
  have e1 : IntKind.i64.min = -9223372036854775808 := by decide
  have e2 : IntKind.i64.max = 9223372036854775807 := by decide
  exact ⟨by omega, by omega⟩
theorem zrq {n : Nat} {cs : List D} (h : typ Tryz.prog n 3 cs) : ∃ i, cs = [.int .i64 i] ∧ n64 i := by
  cases n with
  | zero => exact h.elim
  | succ n =>
    simp only [typ, Tryz.underlying3] at h
    obtain ⟨i, hi, hw⟩ := h
    exact ⟨i, hi, wf64 hw⟩
theorem zGi {n : Nat} {cs : List D} (h : typ Tryz.prog n 4 cs) : ∃ b, cs = [.bool b] := by
  cases n with
  | zero => exact h.elim
  | succ n => simp only [typ, Tryz.underlying4] at h; exact h
theorem zJq : zbh Tryz.prog 32 = true := by simp only [zbh, Tryz.underlying32]
theorem zn1 {e t : TypeId} {k y : Nat} {n : Nat} {cs : List D} (hu : Tryz.prog.underlying t = some (.slice e)) (hc : Tryz.prog.cellsOf e = k) (hy : Tryz.prog.bytesOf e = y) (hs : zbh Tryz.prog e = true) (h : typ Tryz.prog n t cs) :
    ∃ (m : Nat) (xs : List D), n = m + 1 ∧ cs = [.sl k xs] ∧ xs.length * y ≤ 140737488351232 ∧ ∀ x ∈ xs, typ Tryz.prog m e x.cells ∧ x = .agg x.cells := by
  cases n with
  | zero => exact h.elim
  | succ n =>
    simp only [typ, hu] at h
    obtain ⟨xs, rfl, _, hl, hx⟩ := h
    exact ⟨n, xs, rfl, by rw [hc], by rw [hy] at hl; exact hl, fun x hxx => ⟨(hx x hxx).1, zOl (by rw [(hx x hxx).2, hs])⟩⟩
theorem zvd (n : Nat) : ∀ {cs : List D}, typ Tryz.prog n 32 cs → ∃ t : T, cs = cT t ∧ okT t := by
  induction n using Nat.strongRecOn with
  | ind n ih =>
    intro cs h
    cases n with
    | zero => exact h.elim
    | succ n =>
    simp only [typ, Tryz.underlying32, zzb, zLn, zEl, List.forall_mem_cons] at h
    obtain ⟨hl, h1, h2, h3, _⟩ := h
    obtain ⟨a, b, c, rfl⟩ := len3 hl
    obtain ⟨i, hi, wi⟩ := zrq h1
    obtain ⟨j, hj, wj⟩ := zrq h2
    obtain ⟨m, xs, rfl, hc, hb, hx⟩ := zn1 Tryz.underlying30 zzb zOj zJq h3
    simp at hi hj hc
    subst hi hj hc
    obtain ⟨ks, rfl, hks⟩ : ∃ l : List T, xs = l.map eT ∧ ∀ a ∈ l, okT a := zyd fun x hxx => by
      obtain ⟨h4, h5⟩ := hx x hxx
      obtain ⟨t, ht, hq⟩ := ih m (by omega) h4
      exact ⟨t, hq, by rw [h5, ht, zcr]⟩
    exact ⟨.mk i j ks, rfl, .mk i j ks wi wj (by simpa using hb) hks⟩
theorem zw5 {n : Nat} {cs : List D} (h : typ Tryz.prog n 30 cs) : ∃ l : List T, cs = [eTs l] ∧ okTs l := by
  obtain ⟨m, xs, rfl, hc, hb, hx⟩ := zn1 Tryz.underlying30 zzb zOj zJq h
  obtain ⟨ks, rfl, hks⟩ : ∃ l : List T, xs = l.map eT ∧ ∀ a ∈ l, okT a := zyd fun x hxx => by
    obtain ⟨h4, h5⟩ := hx x hxx
    obtain ⟨t, ht, hq⟩ := zvd m h4
    exact ⟨t, hq, by rw [h5, ht, zcr]⟩
  exact ⟨ks, hc, by simpa using hb, hks⟩
theorem zRg {x : D} (h : x.isAgg = false) : x.cells = [x] := by
  cases x <;> first | rfl | cases h
theorem zK6 {x : D} (h : TypD Tryz.prog 3 x) : ∃ i, x = .int .i64 i ∧ n64 i := by
  obtain ⟨⟨n, h1⟩, h2⟩ := h
  obtain ⟨i, hi, hw⟩ := zrq h1
  have h3 : zbh Tryz.prog 3 = false := by simp only [zbh, Tryz.underlying3]
  rw [zRg (h2.trans h3)] at hi
  exact ⟨i, by simpa using hi, hw⟩
end Ev
end Go.Proofs.YtdhfkbdhdgaccaaGreat
/- Twins are what they are twins of. -/
namespace Go.Proofs.YtdhfkbdhdgaccaaGreat
namespace Ev
open Go
attribute [local simp] zae zaf
theorem zo1 {α : Type} (f : α → D) (g : α → List D) (hg : ∀ a, f a = .agg (g a)) (l : List α) (i : Nat) (h : i < l.length) : (l.map f).take i ++ [.agg (g l[i])] = (l.map f).take (i + 1) := by
  rw [List.take_add_one, List.getElem?_eq_getElem (by simpa using h)]
  simp [hg]
theorem zFj (l : List T) (hl : l.length * 40 ≤ 140737488351232) (h : ∀ x ∈ l, Pure Tryz.prog za3 [.agg (cT x)] [.agg (cT x)]) : Pure Tryz.prog zb6 [eTs l] [eTs l] := by
  refine zr2 rfl fun hs => ?_
  simp -dsimp [zhf, eTs]
  refine zam l.length (fun i st => st.s 0 = .d (.sl 3 (l.map eT)) ∧ st.s 4 = .d (.int .i64 i) ∧ ∃ v, st.s 3 = .rsl 3 v ∧ st.h 3 = ⟨v, .row 3 ((l.map eT).take i) false⟩) ?_ ?_
  · simp -dsimp
  · rintro i ⟨s, hp⟩ hi ⟨g1, g2, v, g3, g4⟩
    dsimp only at g1 g2 g3 g4
    rcases Nat.lt_or_ge i l.length with hlt | hge
    · have w1 : IntKind.i64.wrap ((i : Int) + 1) = (i : Int) + 1 := zad (by omega) (by omega)
      simp -dsimp [g1, g2, g3, g4, hlt, cT]
      refine zaa (h l[i] (List.getElem_mem _)) ?_
      have hr : (min i l.length + 1) * 40 ≤ zaj := by simp only [zaj]; omega
      have hn := zo1 eT cT zcr l i hlt
      simp only [cT] at hn
      simp -dsimp [g1, g2, g3, g4, hlt, cT, hr, hn, w1]
    · have e : i = l.length := by omega
      subst e
      simp -dsimp [g1, g2, g3, g4]
      exact List.take_of_length_le (by simp)
theorem zoy (t : T) : okT t → Pure Tryz.prog za3 [.agg (cT t)] [.agg (cT t)] := by
  refine T.ind (p := fun t => okT t → Pure Tryz.prog za3 [.agg (cT t)] [.agg (cT t)]) ?_ t
  intro k n ks ih h
  obtain ⟨h1, h2⟩ := h.kids
  refine ztm rfl fun hs => ?_
  simp -dsimp [zh6, cT, T.kind, T.num, T.kids]
  refine zaa (zFj ks h1 fun x hx => ih x hx (h2 x hx)) ?_
  simp -dsimp [eTs]
theorem zAx (l : List T) (h : okTs l) : Pure Tryz.prog zb6 [eTs l] [eTs l] := zFj l h.1 fun x hx => zoy x (h.2 x hx)
end Ev
end Go.Proofs.YtdhfkbdhdgaccaaGreat
/- What is compared with itself is alike. -/
namespace Go.Proofs.YtdhfkbdhdgaccaaGreat
namespace Ev
open Go
attribute [local simp] zae zaf
theorem zui (l : List T) (h : ∀ x ∈ l, Pure Tryz.prog zc5 [.agg (cT x), .agg (cT x)] [.bool true]) : Pure Tryz.prog zdm [eTs l, eTs l] [.bool true] := by
  refine zsm rfl fun hs => ?_
  have hl := hs (eTs l) (by simp)
  simp [eTs, small] at hl
  replace hl := hl.1
  simp -dsimp [zht, eTs]
  refine zam l.length (fun i st => st.s 0 = .d (.sl 3 (l.map eT)) ∧ st.s 1 = .d (.sl 3 (l.map eT)) ∧ st.s 5 = .d (.int .i64 i)) ?_ ?_
  · simp -dsimp
  · rintro i ⟨s, hp⟩ hi ⟨g1, g2, g3⟩
    dsimp only at g1 g2 g3
    rcases Nat.lt_or_ge i l.length with hlt | hge
    · have w1 : IntKind.i64.wrap ((i : Int) + 1) = (i : Int) + 1 := zad (by omega) (by omega)
      simp -dsimp [g1, g2, g3, hlt, cT, eAr, cAr, eTs]
      refine zaa (h l[i] (List.getElem_mem _)) ?_
      simp -dsimp [g1, g2, g3, hlt, w1]
    · have e : i = l.length := by omega
      subst e
      simp -dsimp [g1, g2, g3]
theorem zv9 (t : T) : Pure Tryz.prog zc5 [.agg (cT t), .agg (cT t)] [.bool true] := by
  refine T.ind (p := fun t => Pure Tryz.prog zc5 [.agg (cT t), .agg (cT t)] [.bool true]) ?_ t
  intro k n ks ih
  refine ztf rfl fun hs => ?_
  simp -dsimp [zh2, cT, T.kind, T.num, T.kids]
  refine zaa (zui ks ih) ?_
  simp -dsimp
theorem zC6 (l : List T) : Pure Tryz.prog zdm [eTs l, eTs l] [.bool true] := zui l fun x _ => zv9 x
end Ev
end Go.Proofs.YtdhfkbdhdgaccaaGreat
/- The document's answers: right terms, scopes. -/
namespace Go.Proofs.YtdhfkbdhdgaccaaGreat
namespace Ev
open Go
attribute [local simp] zae zaf
def inB (n lo hi : Int) : Bool := decide (lo ≤ n) && decide (n ≤ hi)
theorem zdw (n lo hi : Int) : inB n lo hi = true ↔ lo ≤ n ∧ n ≤ hi := by simp [inB]
theorem zha (n lo hi : Int) : inB n lo hi = false ↔ ¬(lo ≤ n ∧ n ≤ hi) := by rw [← zdw]; simp
theorem zTm (n lo hi : Int) : Pure Tryz.prog zi5 [.int .i64 n, .int .i64 lo, .int .i64 hi] [.bool (inB n lo hi)] := by
  refine zuq rfl fun hs => ?_
  simp -dsimp [zi8, inB]
  (first | refine zal ?_ ?_ | refine zak ?_ ?_) <;> intro h1 <;> (try simp only [nrm] at h1) <;> simp -dsimp [h1]
theorem zMz (k : Int) : Pure Tryz.prog zho [.int .i64 k] [.int .i64 (zdy k)] := by
  refine zsh rfl fun hs => ?_
  have e : zdy k = if k = 1 then 0 else if k = 2 then 0 else if k = 3 then 0 else if k = 9 then 1 else if k = 10 then 1 else if k = 4 then 2 else if k = 5 then 2 else if k = 6 then 2 else if k = 7 then 2 else if k = 12 then 2 else if k = 8 then 3 else if k = 11 then 3 else if k = 13 then 3 else -1 := by
    simp only [zdy, isM, Bool.and_eq_true, decide_eq_true_eq]
    repeat' split
    all_goals omega
  rw [e]
  simp -dsimp [zg8]
  (first | refine zal ?_ ?_ | refine zak ?_ ?_) <;> intro h1 <;> (try simp only [nrm] at h1) <;> simp -dsimp [h1]
  (first | refine zal ?_ ?_ | refine zak ?_ ?_) <;> intro h2 <;> (try simp only [nrm] at h2) <;> simp -dsimp [h2, h1]
  (first | refine zal ?_ ?_ | refine zak ?_ ?_) <;> intro h3 <;> (try simp only [nrm] at h3) <;> simp -dsimp [h3, h1, h2]
  (first | refine zal ?_ ?_ | refine zak ?_ ?_) <;> intro h4 <;> (try simp only [nrm] at h4) <;> simp -dsimp [h4, h1, h2, h3]
  (first | refine zal ?_ ?_ | refine zak ?_ ?_) <;> intro h5 <;> (try simp only [nrm] at h5) <;> simp -dsimp [h5, h1, h2, h3, h4]
  (first | refine zal ?_ ?_ | refine zak ?_ ?_) <;> intro h6 <;> (try simp only [nrm] at h6) <;> simp -dsimp [h6, h1, h2, h3, h4, h5]
  (first | refine zal ?_ ?_ | refine zak ?_ ?_) <;> intro h7 <;> (try simp only [nrm] at h7) <;> simp -dsimp [h7, h1, h2, h3, h4, h5, h6]
  (first | refine zal ?_ ?_ | refine zak ?_ ?_) <;> intro h8 <;> (try simp only [nrm] at h8) <;> simp -dsimp [h8, h1, h2, h3, h4, h5, h6, h7]
  (first | refine zal ?_ ?_ | refine zak ?_ ?_) <;> intro h9 <;> (try simp only [nrm] at h9) <;> simp -dsimp [h9, h1, h2, h3, h4, h5, h6, h7, h8]
  (first | refine zal ?_ ?_ | refine zak ?_ ?_) <;> intro h10 <;> (try simp only [nrm] at h10) <;> simp -dsimp [h10, h1, h2, h3, h4, h5, h6, h7, h8, h9]
  (first | refine zal ?_ ?_ | refine zak ?_ ?_) <;> intro h11 <;> (try simp only [nrm] at h11) <;> simp -dsimp [h11, h1, h2, h3, h4, h5, h6, h7, h8, h9, h10]
  (first | refine zal ?_ ?_ | refine zak ?_ ?_) <;> intro h12 <;> (try simp only [nrm] at h12) <;> simp -dsimp [h12, h1, h2, h3, h4, h5, h6, h7, h8, h9, h10, h11]
  (first | refine zal ?_ ?_ | refine zak ?_ ?_) <;> intro h13 <;> (try simp only [nrm] at h13) <;> simp -dsimp [h13, h1, h2, h3, h4, h5, h6, h7, h8, h9, h10, h11, h12]
theorem zBf (k i : Int) : Pure Tryz.prog zc7 [.int .i64 k, .int .i64 i] [.int .i64 (zai k i)] := by
  refine zra rfl fun hs => ?_
  simp -dsimp [zgp]
  (first | refine zal ?_ ?_ | refine zak ?_ ?_) <;> intro h1 <;> (try simp only [nrm] at h1) <;> simp -dsimp [h1, zai]
  (first | refine zal ?_ ?_ | refine zak ?_ ?_) <;> intro g1 <;> (try simp only [nrm] at g1) <;> simp -dsimp [g1, zai, h1]
  (first | refine zal ?_ ?_ | refine zak ?_ ?_) <;> intro g2 <;> (try simp only [nrm] at g2) <;> simp -dsimp [g2, zai, h1, g1]
  (first | refine zal ?_ ?_ | refine zak ?_ ?_) <;> intro g3 <;> (try simp only [nrm] at g3) <;> simp -dsimp [g3, zai, h1, g1, g2]
theorem zaz (k n : Int) (ks : List T) : zab (.mk k n ks) = if (ks.length : Int) = zdy k then if zdy k = 0 then inB n 0 65535 && ks.all zab else if n = 0 then ks.all zab else false else false := by
  rw [zab]
  have ha : (ks.map zab).all id = ks.all zab := by rw [List.all_map]; rfl
  rw [ha]
  by_cases h1 : (ks.length : Int) = zdy k
  · rw [if_neg (by omega), if_pos h1, if_pos h1]
    by_cases h0 : zdy k = 0
    · rw [if_pos h0]
      by_cases h2 : n < 0
      · rw [if_pos h2, (zha n 0 65535).2 (by omega)]; rfl
      · rw [if_neg h2]
        by_cases h3 : 65535 < n
        · rw [if_pos h3, (zha n 0 65535).2 (by omega)]; rfl
        · rw [if_neg h3, if_neg (by omega), (zdw n 0 65535).2 (by omega)]; rfl
    · rw [if_neg h0]
      by_cases h2 : n = 0
      · rw [if_neg (by omega), if_neg (by omega), if_neg (by omega), if_pos h2]
      · rw [if_neg h2]
        by_cases h3 : n < 0
        · rw [if_pos h3]
        · rw [if_neg h3]
          by_cases h4 : 65535 < n
          · rw [if_pos h4]
          · rw [if_neg h4, if_pos ⟨by omega, h2⟩]
  · rw [if_neg h1, if_neg h1]
    split <;> rfl
theorem zvq {α : Type} {p : α → Bool} {l : List α} (h : ∀ (j : Nat) (hj : j < l.length), j < l.length → p l[j] = true) : l.all p = true := by
  rw [List.all_eq_true]
  intro x hx
  obtain ⟨j, hj, rfl⟩ := List.mem_iff_getElem.1 hx
  exact h j hj hj
theorem zKj {α : Type} {p : α → Bool} {l : List α} {i : Nat} (hi : i < l.length) (h : p l[i] = false) : l.all p = false := by
  cases hq : l.all p with
  | false => rfl
  | true =>
    have := List.all_eq_true.1 hq l[i] (List.getElem_mem _)
    rw [h] at this
    cases this
theorem zoo {α : Type} {p : α → Bool} {l : List α} {i : Nat} (hi : i < l.length) (h : ∀ (j : Nat) (hj : j < l.length), j < i → p l[j] = true) (hx : p l[i] = true) :
    ∀ (j : Nat) (hj : j < l.length), j < i + 1 → p l[j] = true := by
  intro j hj hji
  rcases Nat.lt_or_ge j i with h' | h'
  · exact h j hj h'
  · have : j = i := by omega
    subst this
    exact hx
theorem zHj (t : T) : Pure Tryz.prog zcw [.agg (cT t)] [.bool (zab t)] := by
  refine T.ind (p := fun t => Pure Tryz.prog zcw [.agg (cT t)] [.bool (zab t)]) ?_ t
  intro k n ks ih
  refine zpy rfl fun hs => ?_
  have hl := zgy hs
  simp [T.kids] at hl
  simp -dsimp [zfx, cT, T.kind, T.num, T.kids]
  refine zaa (zMz k) ?_
  simp -dsimp
  (first | refine zal ?_ ?_ | refine zak ?_ ?_) <;> intro h1 <;> (try simp only [nrm] at h1) <;> simp -dsimp [h1, zaz]
  (first | refine zal ?_ ?_ | refine zak ?_ ?_) <;> intro h2 <;> (try simp only [nrm] at h2) <;> simp -dsimp [h2, zaz, h1]
  · refine zaa (zTm n 0 65535) ?_
    simp -dsimp [h1, h2]
    (first | refine zal ?_ ?_ | refine zak ?_ ?_) <;> intro h3 <;> (try simp only [nrm] at h3) <;> simp -dsimp [h3, zaz, h1, h2]
    have hR : zab (.mk k n ks) = ks.all zab := by rw [zaz, if_pos h1, if_pos h2, h3]; rfl
    rw [hR]
    refine zam ks.length (fun i st => st.s 1 = .ptr 1 1 0 ∧ st.h 1 = ⟨1, .box [.d (.int .i64 k), .d (.int .i64 n), .d (.sl 3 (ks.map eT))] false⟩ ∧ st.s 3 = .d (.int .i64 i) ∧ ∀ (j : Nat) (hj : j < ks.length), j < i → zab ks[j] = true) ?_ ?_
    · simp -dsimp
    · rintro i ⟨s, hp⟩ hi ⟨g1, g2, g3, g4⟩
      dsimp only at g1 g2 g3
      rcases Nat.lt_or_ge i ks.length with hlt | hge
      · have w1 : IntKind.i64.wrap ((i : Int) + 1) = (i : Int) + 1 := zad (by omega) (by omega)
        simp -dsimp [g1, g2, g3, hlt, cT]
        refine zaa (ih ks[i] (List.getElem_mem _)) ?_
        simp -dsimp [g1, g2, g3, hlt]
        (first | refine zal ?_ ?_ | refine zak ?_ ?_) <;> intro h6 <;> (try simp only [nrm] at h6) <;> simp -dsimp [h6, g1, g2, g3, hlt, w1]
        · have := zKj (p := zab) hlt h6
          simpa using this
        · exact zoo hlt g4 h6
      · have e : i = ks.length := by omega
        subst e
        have hA := zvq (p := zab) g4
        simp -dsimp [g1, g2, g3, hA]
  · (first | refine zal ?_ ?_ | refine zak ?_ ?_) <;> intro h3 <;> (try simp only [nrm] at h3) <;> simp -dsimp [h3, zaz, h1, h2]
    · (first | refine zal ?_ ?_ | refine zak ?_ ?_) <;> intro h4 <;> (try simp only [nrm] at h4) <;> simp -dsimp [h4, zaz, h1, h2, h3]
      subst h4
      have hR : zab (.mk k 0 ks) = ks.all zab := by rw [zaz, if_pos h1, if_neg h2, if_pos rfl]
      rw [hR]
      refine zam ks.length (fun i st => st.s 1 = .ptr 1 1 0 ∧ st.h 1 = ⟨1, .box [.d (.int .i64 k), .d (.int .i64 0), .d (.sl 3 (ks.map eT))] false⟩ ∧ st.s 3 = .d (.int .i64 i) ∧ ∀ (j : Nat) (hj : j < ks.length), j < i → zab ks[j] = true) ?_ ?_
      · simp -dsimp
      · rintro i ⟨s, hp⟩ hi ⟨g1, g2, g3, g4⟩
        dsimp only at g1 g2 g3
        rcases Nat.lt_or_ge i ks.length with hlt | hge
        · have w1 : IntKind.i64.wrap ((i : Int) + 1) = (i : Int) + 1 := zad (by omega) (by omega)
          simp -dsimp [g1, g2, g3, hlt, cT]
          refine zaa (ih ks[i] (List.getElem_mem _)) ?_
          simp -dsimp [g1, g2, g3, hlt]
          (first | refine zal ?_ ?_ | refine zak ?_ ?_) <;> intro h6 <;> (try simp only [nrm] at h6) <;> simp -dsimp [h6, g1, g2, g3, hlt, w1]
          · have := zKj (p := zab) hlt h6
            simpa using this
          · exact zoo hlt g4 h6
        · have e : i = ks.length := by omega
          subst e
          have hA := zvq (p := zab) g4
          simp -dsimp [g1, g2, g3, hA]
    · omega
theorem zH0 (t : T) : Pure Tryz.prog zgt [.agg (cT t)] [.int .i64 (zaw t)] := by
  refine zqs rfl fun hs => ?_
  simp -dsimp [zgr, cT]
  refine zaa (zKu t) ?_
  simp -dsimp
  (first | refine zal ?_ ?_ | refine zak ?_ ?_) <;> intro h1 <;> (try simp only [nrm] at h1) <;> simp -dsimp [h1, zaw]
  refine zaa (zFs t) ?_
  simp -dsimp
  (first | refine zal ?_ ?_ | refine zak ?_ ?_) <;> intro h2 <;> (try simp only [nrm] at h2) <;> simp -dsimp [h2, zaw, h1]
  refine zaa (zHj t) ?_
  simp -dsimp
  (first | refine zal ?_ ?_ | refine zak ?_ ?_) <;> intro h3 <;> (try simp only [nrm] at h3) <;> simp -dsimp [h3, zaw, h1, h2]
end Ev
end Go.Proofs.YtdhfkbdhdgaccaaGreat
/- Terms: small things. -/
namespace Go.Proofs.YtdhfkbdhdgaccaaGreat
namespace Ev
open Go
theorem tk (k n : Int) (ks : List T) : (T.mk k n ks).kind = k := rfl
theorem tn (k n : Int) (ks : List T) : (T.mk k n ks).num = n := rfl
theorem tks (k n : Int) (ks : List T) : (T.mk k n ks).kids = ks := rfl
theorem zxs {l : List D} {z : D} {i : Nat} (h : i < l.length) : (l.take i ++ List.replicate (l.length - i) z).set i l[i] = l.take (i + 1) ++ List.replicate (l.length - (i + 1)) z := by
  have e : l.length - i = (l.length - (i + 1)) + 1 := by omega
  rw [e, List.replicate_succ, List.set_append_right _ _ (by simp; omega)]
  have e2 : i - (l.take i).length = 0 := by simp; omega
  have e3 : l.take (i + 1) = l.take i ++ [l[i]] := by rw [List.take_add_one, List.getElem?_eq_getElem h]; rfl
  rw [e2, List.set_cons_zero, e3, List.append_assoc]
  rfl
end Ev
end Go.Proofs.YtdhfkbdhdgaccaaGreat
/- Terms, in plain numbers: zac, depths, right terms, scopes. -/
namespace Go.Proofs.YtdhfkbdhdgaccaaGreat
namespace Ev
open Go
attribute [local simp] tk tn tks
def zac : T → Nat | .mk _ _ ks => (ks.map zac).sum + 1
theorem zcg {l : List Nat} {x : Nat} (h : x ∈ l) : x ≤ l.sum := by
  induction l with
  | nil => cases h
  | cons y l ih =>
    rw [List.sum_cons]
    rcases List.mem_cons.1 h with rfl | h
    · omega
    · have := ih h; omega
theorem zcx {k n : Int} {ks : List T} {x : T} (h : x ∈ ks) : zac x + 1 ≤ zac (.mk k n ks) := by
  rw [zac]
  have := zcg (List.mem_map.2 ⟨x, h, rfl⟩ : zac x ∈ ks.map zac)
  omega
theorem zdk (k i : Int) : 0 ≤ zai k i ∧ zai k i ≤ 1 := by
  rw [zai]
  split <;> omega
inductive Slim : T → Prop
  | mk (k n : Int) (ks : List T) (hl : ks.length ≤ 1000) (h : ∀ x ∈ ks, Slim x) : Slim (.mk k n ks)
theorem Slim.kids {k n : Int} {ks : List T} (h : Slim (.mk k n ks)) : ks.length ≤ 1000 ∧ ∀ x ∈ ks, Slim x := by
  cases h with
  | mk _ _ _ h1 h2 => exact ⟨h1, h2⟩
theorem zM5 (k : Int) : zdy k ≤ 3 := by
  rw [zdy]
  repeat' split
  all_goals omega
theorem zdh {k n : Int} {ks : List T} (h1 : k = 1) (hfm : zab (.mk k n ks) = true) : 0 ≤ n ∧ n ≤ 65535 := by
  rw [zaz, h1] at hfm
  have h0 : zdy 1 = 0 := rfl
  rw [h0] at hfm
  split at hfm
  · simp only [if_true, Bool.and_eq_true] at hfm
    exact (zdw _ _ _).1 hfm.1
  · cases hfm
theorem zbo {k n : Int} {ks : List T} (hfm : zab (.mk k n ks) = true) : ∀ x ∈ ks, zab x = true := by
  rw [zaz] at hfm
  refine List.all_eq_true.1 ?_
  split at hfm
  · split at hfm
    · rw [Bool.and_eq_true] at hfm; exact hfm.2
    · split at hfm
      · exact hfm
      · cases hfm
  · cases hfm
theorem zIm (t : T) : zab t = true → Slim t := by
  refine T.ind (p := fun t => zab t = true → Slim t) ?_ t
  intro k n ks ih h
  rw [zaz] at h
  have hk := zM5 k
  by_cases h1 : (ks.length : Int) = zdy k
  · rw [if_pos h1] at h
    have ha : ks.all zab = true := by
      by_cases h2 : zdy k = 0
      · rw [if_pos h2, Bool.and_eq_true] at h; exact h.2
      · rw [if_neg h2] at h
        by_cases h3 : n = 0
        · rw [if_pos h3] at h; exact h
        · rw [if_neg h3] at h; cases h
    exact .mk k n ks (by omega) fun x hx => ih x hx (List.all_eq_true.1 ha x hx)
  · rw [if_neg h1] at h; cases h
theorem zf5 {t : T} (h : zaw t = 0) : zab t = true := by
  rw [zaw] at h
  split at h
  · simp at h
  · split at h
    · simp at h
    · split at h
      · assumption
      · simp at h
theorem zb7 {n : Int} (h1 : -9223372036854775808 ≤ n) (h2 : n < 9223372036854775808) : w64 n = n := zad h1 (by omega)
def dmax (l : List Nat) : Nat := l.foldr max 0
def za5 : T → Nat | .mk _ _ ks => dmax (ks.map za5) + 1
theorem zwc (a b : Int) : mx a b = max a b := by rw [mx]; split <;> omega
theorem zxl : ∀ (l : List T) (a : Int), 0 ≤ a → a + (l.map zac).sum ≤ 1099511627776 → (∀ x ∈ l, zf6 x = zac x) → (l.map zf6).foldl (fun a s => w64 (a + s)) a = a + (l.map zac).sum
  | [], a, _, _, _ => by simp
  | x :: xs, a, h0, hb, h => by
    have hx := h x (by simp)
    simp only [List.map_cons, List.foldl_cons, List.sum_cons] at hb ⊢
    rw [hx, zb7 (by omega) (by omega), zxl xs (a + zac x) (by omega) (by omega) fun y hy => h y (by simp [hy])]
    omega
theorem zAl (t : T) : zac t ≤ 1099511627776 → zf6 t = zac t := by
  refine T.ind (p := fun t => zac t ≤ 1099511627776 → zf6 t = zac t) ?_ t
  intro k n ks ih hb
  have hk : ∀ x ∈ ks, zf6 x = zac x := fun x hx => ih x hx (by have := zcx (k := k) (n := n) hx; omega)
  rw [zac] at hb
  rw [zf6, zxl ks 1 (by omega) (by omega) hk, zac]
  omega
theorem zR8 {l : List Nat} {m : Nat} (h : ∀ x ∈ l, x ≤ m) : dmax l ≤ m := by
  induction l with
  | nil => simp [dmax]
  | cons y l ih =>
    have h1 := h y (by simp)
    have h2 := ih fun x hx => h x (by simp [hx])
    simp only [dmax, List.foldr_cons] at h2 ⊢
    omega
theorem zo9 (t : T) : za5 t ≤ zac t := by
  refine T.ind (p := fun t => za5 t ≤ zac t) ?_ t
  intro k n ks ih
  rw [za5, zac]
  have : dmax (ks.map za5) ≤ (ks.map zac).sum := zR8 fun x hx => by
    obtain ⟨y, hy, rfl⟩ := List.mem_map.1 hx
    have := zcg (List.mem_map.2 ⟨y, hy, rfl⟩ : zac y ∈ ks.map zac)
    have := ih y hy
    omega
  omega
theorem zyc : ∀ (l : List T) (a : Int), 0 ≤ a → (∀ x ∈ l, zdo x = za5 x) → (l.map zdo).foldl mx a = max a (dmax (l.map za5))
  | [], a, h0, _ => by simp [dmax]; omega
  | x :: xs, a, h0, h => by
    have hx := h x (by simp)
    simp only [List.map_cons, List.foldl_cons, dmax, List.foldr_cons]
    rw [hx, zwc, zyc xs _ (by omega) fun y hy => h y (by simp [hy])]
    simp only [dmax]
    omega
theorem zva (t : T) : zac t ≤ 1099511627776 → zdo t = za5 t := by
  refine T.ind (p := fun t => zac t ≤ 1099511627776 → zdo t = za5 t) ?_ t
  intro k n ks ih hb
  have hk : ∀ x ∈ ks, zdo x = za5 x := fun x hx => ih x hx (by have := zcx (k := k) (n := n) hx; omega)
  have hd := zo9 (.mk k n ks)
  rw [za5] at hd
  rw [zdo, zyc ks 0 (by omega) hk, za5, zb7 (by omega) (by omega)]
  omega
theorem zaq (k n : Int) : zac (.mk k n []) = 1 := by rw [zac]; rfl
theorem zen (k n : Int) : za5 (.mk k n []) = 1 := by rw [za5]; rfl
theorem zku {k n : Int} {ks : List T} (h1 : k = 1) (hfm : zab (.mk k n ks) = true) : ks = [] := by
  rw [zaz, h1] at hfm
  have h0 : zdy 1 = 0 := rfl
  rw [h0] at hfm
  split at hfm
  · exact List.length_eq_zero_iff.1 (by omega)
  · cases hfm
theorem zn5 {t : T} (h : zac t ≤ 1048576) : zaw t = 0 ↔ zac t ≤ 6000 ∧ za5 t ≤ 200 ∧ zab t = true := by
  rw [zaw, zAl _ (by omega), zva _ (by omega)]
  by_cases h1 : (6000 : Int) < zac t
  · rw [if_pos h1]
    constructor
    · intro h; cases h
    · omega
  · rw [if_neg h1]
    by_cases h2 : (200 : Int) < za5 t
    · rw [if_pos h2]
      constructor
      · intro h; cases h
      · omega
    · rw [if_neg h2]
      cases zab t
      · simp
      · simp; omega
theorem zyw (k n : Int) (a b : T) : zac (.mk k n [a, b]) = zac a + zac b + 1 := by rw [zac]; simp
theorem zyh (t : T) : zac t ≤ bulk (eT t) := by
  refine T.ind (p := fun t => zac t ≤ bulk (eT t)) ?_ t
  intro k n ks ih
  rw [zac, zcr]
  simp only [cT, tks, bulk, List.map_cons, List.map_nil, List.sum_cons, List.sum_nil, List.map_map]
  have : ∀ l : List T, (∀ x ∈ l, zac x ≤ bulk (eT x)) → (l.map zac).sum ≤ (l.map (bulk ∘ eT)).sum := by
    intro l
    induction l with
    | nil => intro _; simp
    | cons x xs ihx =>
      intro h
      have h1 := h x (by simp)
      have h2 := ihx fun y hy => h y (by simp [hy])
      simp only [List.map_cons, List.sum_cons, Function.comp] at h2 ⊢
      omega
  have := this ks ih
  omega
theorem zvu (t : T) : zac t ≤ bulk (.agg (cT t)) := by rw [← zcr]; exact zyh t
mutual
def wiT : T → Int → Int → Bool
  | .mk k n ks, v, c => if k = 1 then decide (n < v) else if k = 2 then decide (n ≤ 6) else if k = 3 then decide (n < c) else wiL k v c 0 ks
def wiL (k v c : Int) : Nat → List T → Bool
  | _, [] => true
  | i, x :: xs => wiT x (v + zai k i) c && wiL k v c (i + 1) xs
end
theorem zB1 (c : Int) (t : T) : ∀ v : Int, 0 ≤ v → v + zac t ≤ 4194304 → zcq t v c = wiT t v c := by
  refine T.ind (p := fun t => ∀ v : Int, 0 ≤ v → v + zac t ≤ 4194304 → zcq t v c = wiT t v c) ?_ t
  intro k n ks ih v h0 hb
  rw [zcq, wiT]
  split
  · rfl
  split
  · rfl
  split
  · rfl
  have go : ∀ (l : List T) (i : Nat), (∀ x ∈ l, x ∈ ks) → zhm k v c i l = wiL k v c i l := by
    intro l
    induction l with
    | nil => intro i _; rw [zhm, wiL]
    | cons x xs ihx =>
      intro i hm
      have hx := hm x (by simp)
      have hxn := zcx (k := k) (n := n) hx
      have hbl := zdk k i
      rw [zhm, wiL, zb7 (by omega) (by omega), ih x hx _ (by omega) (by omega), ihx (i + 1) fun y hy => hm y (by simp [hy])]
  exact go ks 0 fun x hx => hx
theorem zBi (k v c : Int) : ∀ (l : List T) (i : Nat), wiL k v c i l = true ↔ ∀ (j : Nat) (hj : j < l.length), wiT l[j] (v + zai k (i + j : Nat)) c = true
  | [], i => by simp [wiL]
  | x :: xs, i => by
    rw [wiL, Bool.and_eq_true, zBi k v c xs (i + 1)]
    constructor
    · rintro ⟨h1, h2⟩ j hj
      cases j with
      | zero => simpa using h1
      | succ j =>
        have := h2 j (by simpa using hj)
        rw [show i + 1 + j = i + (j + 1) by omega] at this
        simpa using this
    · intro h
      refine ⟨h 0 (Nat.succ_pos _), fun j hj => ?_⟩
      have := h (j + 1) (by simpa using hj)
      rw [show i + (j + 1) = i + 1 + j by omega] at this
      simpa using this
theorem zNt {t : T} {v : Int} (h0 : 0 ≤ v) (h1 : v ≤ 65536) (hn : zac t ≤ 1048576) : zlr t v 65536 = true ↔ zaw t = 0 ∧ wiT t v 65536 = true := by
  rw [zlr, if_neg (by omega), if_neg (by omega), if_neg (show ¬65536 < v by omega), zB1 65536 t v h0 (by omega)]
  by_cases h : zaw t = 0
  · rw [if_pos h]; simp [h]
  · rw [if_neg h]; simp [h]
end Ev
end Go.Proofs.YtdhfkbdhdgaccaaGreat
/- slices.Reverse on a row of one's own. -/
namespace Go.Proofs.YtdhfkbdhdgaccaaGreat
namespace Ev
open Go
attribute [local simp] zae zaf zb1 zcb
def swp (xs : List T) : Nat → List T
  | 0 => xs
  | i + 1 => match (swp xs i)[i]?, (swp xs i)[xs.length - 1 - i]? with
    | some a, some b => ((swp xs i).set i b).set (xs.length - 1 - i) a
    | _, _ => swp xs i
theorem zs8 (xs : List T) : ∀ i, (swp xs i).length = xs.length
  | 0 => rfl
  | i + 1 => by
    rw [swp]
    split
    · rw [List.length_set, List.length_set, zs8 xs i]
    · exact zs8 xs i
theorem zI5 (xs : List T) : ∀ (i : Nat), 2 * i ≤ xs.length → ∀ (q : Nat) (hq : q < xs.length), (swp xs i)[q]? = if q < i ∨ xs.length - i ≤ q then xs[xs.length - 1 - q]? else xs[q]?
  | 0, _, q, hq => by
    rw [swp, if_neg (by omega)]
  | i + 1, h2, q, hq => by
    have ih := zI5 xs i (by omega)
    have h3 : i < (swp xs i).length := by rw [zs8]; omega
    have h4 : xs.length - 1 - i < (swp xs i).length := by rw [zs8]; omega
    have g1 : (swp xs i)[i]? = some (xs[i]'(by omega)) := by rw [ih i (by omega), if_neg (by omega), List.getElem?_eq_getElem (by omega)]
    have g2 : (swp xs i)[xs.length - 1 - i]? = some (xs[xs.length - 1 - i]'(by omega)) := by rw [ih (xs.length - 1 - i) (by omega), if_neg (by omega), List.getElem?_eq_getElem (by omega)]
    rw [swp, g1, g2]
    simp only
    rw [List.getElem?_set]
    by_cases c1 : xs.length - 1 - i = q
    · rw [if_pos c1, if_pos (by rw [List.length_set]; exact h4), if_pos (by omega), List.getElem?_eq_getElem (by omega)]
      congr 2
      omega
    · rw [if_neg c1, List.getElem?_set]
      by_cases c2 : i = q
      · subst c2
        rw [if_pos rfl, if_pos h3, if_pos (by omega), List.getElem?_eq_getElem (by omega)]
      · rw [if_neg c2, ih q hq]
        by_cases c3 : q < i ∨ xs.length - i ≤ q
        · rw [if_pos c3, if_pos (by omega)]
        · rw [if_neg c3, if_neg (by omega)]
theorem zRe (xs : List T) : swp xs (xs.length / 2) = xs.reverse := by
  apply List.ext_getElem?
  intro q
  rcases Nat.lt_or_ge q xs.length with hq | hq
  · rw [zI5 xs _ (by omega) q hq, List.getElem?_reverse hq]
    split
    · rfl
    · have : q = xs.length - 1 - q := by omega
      rw [← this]
  · rw [List.getElem?_eq_none (by rw [zs8]; exact hq), List.getElem?_eq_none (by rw [List.length_reverse]; exact hq)]
def revH (k v : Nat) (xs : List T) : Nat → Ent := fun q => if q = k then ⟨v, .row 3 (xs.map eT) false⟩ else ⟨0, .dead⟩
theorem zDs (k v : Nat) (xs : List T) (hl : xs.length ≤ 1000000000) : MutC Tryz.prog ziv [.rsl k v] [k] (revH k v xs) [] (revH k v xs.reverse) := by
  refine zOg hm Tryz.func215 zor rfl ?_ fun G h w vs hk hlen hr => ?_
  · intro q hq
    simp only [revH]
    split <;> trivial
  have e1 : h k = ⟨v, .row 3 (xs.map eT) false⟩ := by rw [hk k (by simp)]; simp [revH]
  have w0 : IntKind.i64.wrap ((xs.length : Int) - 1) = (xs.length : Int) - 1 := zad (by omega) (by omega)
  simp -dsimp [zin, e1, w0]
  refine zam (xs.length / 2) (fun i st => st.s 0 = .rsl k v ∧ st.h k = ⟨v, .row 3 ((swp xs i).map eT) false⟩ ∧ st.s 2 = .d (.int .i64 i) ∧ st.s 3 = .d (.int .i64 ((xs.length : Int) - 1 - i))) ?_ ?_
  · simp -dsimp [e1, swp]
  · rintro i ⟨s, hp⟩ hi ⟨g1, g2, g3, g4⟩
    dsimp only at g1 g2 g3 g4
    rcases Nat.lt_or_ge i (xs.length / 2) with hlt | hge
    · obtain ⟨m, hm⟩ : ∃ m : Nat, xs.length = m + 1 + i := ⟨xs.length - 1 - i, by omega⟩
      have hmi : (xs.length : Int) - 1 - i = (m : Int) := by omega
      have hmn : xs.length - 1 - i = m := by omega
      rw [hmi] at g4
      have him : i < m := by omega
      have w1 : IntKind.i64.wrap ((i : Int) + 1) = (i : Int) + 1 := zad (by omega) (by omega)
      have w2 : IntKind.i64.wrap ((m : Int) - 1) = (xs.length : Int) - 1 - ((i : Int) + 1) := by rw [zad (by omega) (by omega)]; omega
      have hsl := zs8 xs i
      have hi1 : i < (swp xs i).length := by omega
      have hm1 : m < (swp xs i).length := by omega
      have hnx : swp xs (i + 1) = ((swp xs i).set i (swp xs i)[m]).set m (swp xs i)[i] := by
        rw [swp, hmn, List.getElem?_eq_getElem hi1, List.getElem?_eq_getElem hm1]
      rw [hnx]
      generalize swp xs i = Y at g2 hsl hi1 hm1
      simp -dsimp [g1, g2, g3, g4, hi1, hm1, him, w1, w2, zcr, cT]
      exact hlt
    · have e : i = xs.length / 2 := by omega
      rw [e, zRe] at g2
      have c1 : ¬ (i : Int) < (xs.length : Int) - 1 - (i : Int) := by omega
      simp -dsimp [g1, g2, g3, g4, c1, revH]
end Ev
end Go.Proofs.YtdhfkbdhdgaccaaGreat
/- tele: twins, spines. -/
namespace Go.Proofs.YtdhfkbdhdgaccaaGreat
namespace Ev
open Go
attribute [local simp] zae zaf tk tn tks
theorem zKh (l : List T) (hl : l.length * 40 ≤ 140737488351232) (h : ∀ x ∈ l, Pure Tryz.prog zfc [.agg (cT x)] [.agg (cT x)]) : Pure Tryz.prog znt [eTs l] [eTs l] := by
  refine zCr rfl fun hs => ?_
  simp -dsimp [zny, eTs]
  by_cases hz : l = []
  · subst hz
    simp -dsimp
  simp -dsimp [hz]
  have r1 : (l.length : Int) * 40 ≤ (zaj : Int) := by simp only [zaj]; omega
  have r2 : l.length ≤ zaj := by simp only [zaj]; omega
  simp -dsimp [hz, r1, r2]
  refine zam l.length (fun i st => st.s 0 = .d (.sl 3 (l.map eT)) ∧ st.s 3 = .rsl 10 1 ∧ st.s 12 = .d (.int .i64 l.length) ∧ st.s 13 = .d (.int .i64 i) ∧
    st.h 10 = ⟨1, .row 3 ((l.map eT).take i ++ List.replicate (l.length - i) (D.agg [.int .i64 0, .int .i64 0, .sl 3 []])) false⟩) ?_ ?_
  · simp -dsimp
  · rintro i ⟨s, hp⟩ hi ⟨g1, g2, g3, g4, g5⟩
    dsimp only at g1 g2 g3 g4 g5
    rcases Nat.lt_or_ge i l.length with hlt | hge
    · have w1 : IntKind.i64.wrap ((i : Int) + 1) = (i : Int) + 1 := zad (by omega) (by omega)
      simp -dsimp [g1, g2, g3, g4, g5, hlt, cT]
      refine zaa (h l[i] (List.getElem_mem _)) ?_
      have q1 : (i : Int) < ((min i l.length : Nat) : Int) + ((l.length - i : Nat) : Int) := by omega
      have q2 : i < min i l.length + (l.length - i) := by omega
      have hle : (l.map eT).length = l.length := List.length_map ..
      have hfn := zxs (l := l.map eT) (z := D.agg [.int .i64 0, .int .i64 0, .sl 3 []]) (i := i) (by rw [hle]; exact hlt)
      have hel : (l.map eT)[i]'(by rw [hle]; exact hlt) = .agg (cT l[i]) := by rw [List.getElem_map, zcr]
      rw [hel, hle] at hfn
      simp only [cT] at hfn
      simp -dsimp [g1, g2, g3, g4, g5, hlt, w1, q1, q2, cT, hfn]
    · have e : i = l.length := by omega
      subst e
      have ht : (l.map eT).take l.length = l.map eT := List.take_of_length_le (by rw [List.length_map]; exact Nat.le_refl _)
      rw [ht, Nat.sub_self, List.replicate_zero, List.append_nil] at g5
      simp -dsimp [g1, g2, g3, g4, g5]
theorem zo8 (t : T) : okT t → Pure Tryz.prog zfc [.agg (cT t)] [.agg (cT t)] := by
  refine T.ind (p := fun t => okT t → Pure Tryz.prog zfc [.agg (cT t)] [.agg (cT t)]) ?_ t
  intro k n ks ih h
  obtain ⟨h1, h2⟩ := h.kids
  refine zDq rfl fun hs => ?_
  simp -dsimp [zrk, cT]
  refine zaa (zKh ks h1 fun x hx => ih x hx (h2 x hx)) ?_
  simp -dsimp [eTs]
def twoB (t : T) (k : Int) : Bool := decide (t.kind = k) && decide (t.kids.length = 2)
theorem zUy (t : T) (k : Int) : Pure Tryz.prog zs3 [.agg (cT t), .int .i64 k] [.bool (twoB t k)] := by
  refine zG8 rfl fun hs => ?_
  simp -dsimp [zts, cT, twoB]
  (first | refine zal ?_ ?_ | refine zak ?_ ?_) <;> intro h1 <;> (try simp only [nrm] at h1) <;> simp -dsimp [h1]
  omega
theorem zFa {k n : Int} {ks : List T} : twoB (.mk k n ks) 6 = true ↔ k = 6 ∧ ∃ a b, ks = [a, b] := by
  show (decide (k = 6) && decide (ks.length = 2)) = true ↔ _
  rw [Bool.and_eq_true, decide_eq_true_eq, decide_eq_true_eq]
  constructor
  · rintro ⟨h1, h2⟩
    match ks, h2 with
    | [a, b], _ => exact ⟨h1, a, b, rfl⟩
  · rintro ⟨h1, a, b, rfl⟩
    exact ⟨h1, rfl⟩
def spA : T → List T
  | .mk k _ ks => if k = 6 then match ks with
    | [a, b] => b :: spA a
    | _ => [] else []
def spH : T → T
  | .mk k n ks => if k = 6 then match ks with
    | [a, _] => spH a
    | _ => .mk k n ks else .mk k n ks
theorem zdv {k n : Int} {ks : List T} (hc : ¬ (k = 6 ∧ ∃ a b, ks = [a, b])) : spA (.mk k n ks) = [] ∧ spH (.mk k n ks) = .mk k n ks := by
  match ks, hc with
  | [], _ => simp [spA, spH]
  | [_], _ => simp [spA, spH]
  | [a, b], hc =>
    have h1 : ¬ k = 6 := fun h1 => hc ⟨h1, a, b, rfl⟩
    simp [spA, spH, h1]
  | _ :: _ :: _ :: _, _ => simp [spA, spH]
theorem zey (n : Int) (a b : T) : spA (.mk 6 n [a, b]) = b :: spA a ∧ spH (.mk 6 n [a, b]) = spH a := by simp [spA, spH]
end Ev
end Go.Proofs.YtdhfkbdhdgaccaaGreat
/- tele: spines taken apart. -/
namespace Go.Proofs.YtdhfkbdhdgaccaaGreat
namespace Ev
open Go
attribute [local simp] zae zaf tk tn tks
theorem zvo (t : T) (hb : (spA t).length ≤ 1000000) : Pure Tryz.prog zg0 [.agg (cT t)] [.agg (cT (spH t)), eTs (spA t).reverse] := by
  refine zC4 rfl fun hs => ?_
  simp -dsimp [zno, cT]
  refine zam (spA t).length (fun i st => st.s 2 = .ptr 2 1 0 ∧ st.h 2 = ⟨1, .box [.d (.int .i64 0), .d (.int .i64 0), .fsl 3 []] false⟩ ∧ st.s 1 = .ptr 1 1 0 ∧ ∃ (cur : T) (L : List T),
    st.h 1 = ⟨1, .box [.d (.int .i64 cur.kind), .d (.int .i64 cur.num), .d (.sl 3 (cur.kids.map eT))] false⟩ ∧ L ++ spA cur = spA t ∧ L.length = i ∧ spH cur = spH t ∧
    st.s 4 = .rsl 4 (1 + i) ∧ st.h 4 = ⟨1 + i, .row 3 (L.map eT) false⟩) ?_ ?_
  · simp -dsimp
    exact ⟨t, ⟨rfl, rfl, rfl⟩, [], by simp⟩
  · rintro i ⟨s, hp⟩ hi ⟨g1, g2, g3, cur, L, g4, g5, g6, g7, g8, g9⟩
    dsimp only at g1 g2 g3 g4 g8 g9
    have htw := zUy cur 6
    obtain ⟨k, n, ks⟩ := cur
    simp only [cT, tk, tn, tks] at htw g4
    have hL : L.length ≤ (spA t).length := by rw [← g5, List.length_append]; omega
    by_cases hc : k = 6 ∧ ∃ a b, ks = [a, b]
    · have hd := zFa (n := n) |>.2 hc
      rw [hd] at htw
      obtain ⟨rfl, a, b, rfl⟩ := hc
      rw [(zey n a b).1] at g5
      rw [(zey n a b).2] at g7
      have hlt : i < (spA t).length := by rw [← g5, List.length_append, List.length_cons]; omega
      simp -dsimp [g1, g2, g3, g4, g8, g9]
      refine zaa htw ?_
      have hr : (L.length + 1) * 40 ≤ zaj := by simp only [zaj]; omega
      simp -dsimp [g1, g2, g3, g4, g8, g9, hr, zcr, cT]
      exact ⟨hlt, a, ⟨rfl, rfl, rfl⟩, L ++ [b], by simp [g5], by simp [g6], g7, by omega, by simp [zcr, cT]⟩
    · have hd : twoB (.mk k n ks) 6 = false := by
        cases h : twoB (.mk k n ks) 6 with
        | false => rfl
        | true => exact absurd (zFa.1 h) hc
      have e1 := zdv (n := n) hc
      rw [e1.1, List.append_nil] at g5
      rw [e1.2] at g7
      subst g5
      rw [hd] at htw
      simp -dsimp [g1, g2, g3, g4, g8, g9]
      refine zaa htw ?_
      simp -dsimp [g1, g2, g3, g4, g8, g9]
      refine zsc (zDs 4 (1 + i) (spA t) (by omega)) ?_ ?_
      · simp [revH, g9]
      simp -dsimp [zkn, zlv, revH, g1, g2, g3, g4, g8, g9, ← g7]
      simp [eTs, List.map_reverse]
def spT (f : T) (l : List T) : T := l.foldl (fun o a => .mk 6 0 [o, a]) f
theorem rc_ok (n : Int) : Pure Tryz.prog zj5 [.int .i64 n] [.agg (cT (.mk 3 n []))] := by
  refine zw7 rfl fun hs => ?_
  simp -dsimp [zkc, cT]
theorem rv_ok (n : Int) : Pure Tryz.prog ze4 [.int .i64 n] [.agg (cT (.mk 1 n []))] := by
  refine zxp rfl fun hs => ?_
  simp -dsimp [zki, cT]
theorem ru_ok (n : Int) : Pure Tryz.prog zkm [.int .i64 n] [.agg (cT (.mk 2 n []))] := by
  refine zwt rfl fun hs => ?_
  simp -dsimp [zj0, cT]
theorem v_ok (n : Int) : Pure Tryz.prog zhi [.int .i64 n] [.agg (cT (.mk 1 n []))] := by
  refine zMd rfl fun hs => ?_
  simp -dsimp [zAi, cT]
theorem zEs (k : Int) (l : List T) : Pure Tryz.prog zml [.int .i64 k, .sl 3 (l.map eT)] [.agg [.int .i64 k, .int .i64 0, .sl 3 (l.map eT)]] := by
  refine zEy rfl fun hs => ?_
  simp -dsimp [zqf, cT]
theorem zhh (f : T) (l : List T) (hl : l.length ≤ 100000000) (hf : okT f) (ho : okTs l) : Pure Tryz.prog zbv [.agg (cT f), eTs l] [.agg (cT (spT f l))] := by
  refine zB4 rfl fun hs => ?_
  simp -dsimp [znj, cT, eTs]
  refine zaa (zo8 f hf) ?_
  simp -dsimp [cT]
  refine zam l.length (fun i st => st.s 4 = .ptr 4 1 0 ∧ st.h 4 = ⟨1, .box [.d (.int .i64 0), .d (.int .i64 0), .fsl 3 []] false⟩ ∧ st.s 10 = .d (.sl 3 (l.map eT)) ∧ st.s 11 = .d (.int .i64 l.length) ∧ st.s 12 = .d (.int .i64 i) ∧
    st.s 5 = .ptr 5 1 0 ∧ ∃ cs, st.h 5 = ⟨1, .box [.d (.int .i64 (spT f (l.take i)).kind), .d (.int .i64 (spT f (l.take i)).num), cs] false⟩ ∧ (cs = .d (.sl 3 ((spT f (l.take i)).kids.map eT)) ∨ cs = .fsl 3 ((spT f (l.take i)).kids.map eT))) ?_ ?_
  · simp -dsimp [spT]
  · rintro i ⟨s, hp⟩ hi ⟨g1, g2, g3, g4, g5, g6, cs, g7, g8⟩
    dsimp only at g1 g2 g3 g4 g5 g6 g7
    rcases Nat.lt_or_ge i l.length with hlt | hge
    · have w1 : IntKind.i64.wrap ((i : Int) + 1) = (i : Int) + 1 := zad (by omega) (by omega)
      have hnx : spT f (l.take (i + 1)) = .mk 6 0 [spT f (l.take i), l[i]] := by
        have e : l.take (i + 1) = l.take i ++ [l[i]] := by rw [List.take_add_one, List.getElem?_eq_getElem hlt]; rfl
        rw [spT, e, List.foldl_append]
        rfl
      rw [hnx]
      generalize spT f (l.take i) = Y at g7 g8
      have hnode := zEs 6 [Y, l[i]]
      simp only [List.map_cons, List.map_nil, zcr, cT] at hnode
      rcases g8 with rfl | rfl
      · simp -dsimp [g1, g2, g3, g4, g5, g6, g7, hlt, cT]
        refine zaa (zo8 l[i] (ho.2 _ (List.getElem_mem _))) ?_
        simp -dsimp [g1, g2, g3, g4, g5, g6, g7, hlt, cT]
        refine zaa hnode ?_
        simp -dsimp [g1, g2, g3, g4, g5, g6, g7, hlt, w1, zcr, cT]
      · simp -dsimp [g1, g2, g3, g4, g5, g6, g7, hlt, cT]
        refine zaa (zo8 l[i] (ho.2 _ (List.getElem_mem _))) ?_
        simp -dsimp [g1, g2, g3, g4, g5, g6, g7, hlt, cT]
        refine zaa hnode ?_
        simp -dsimp [g1, g2, g3, g4, g5, g6, g7, hlt, w1, zcr, cT]
    · have e : i = l.length := by omega
      subst e
      rw [List.take_length] at g7 g8
      rcases g8 with rfl | rfl
      · simp -dsimp [g1, g2, g3, g4, g5, g6, g7]
      · simp -dsimp [g1, g2, g3, g4, g5, g6, g7]
end Ev
end Go.Proofs.YtdhfkbdhdgaccaaGreat
/- tele: variables; TeleVars. -/
namespace Go.Proofs.YtdhfkbdhdgaccaaGreat
namespace Ev
open Go
attribute [local simp] zae zaf tk tn tks
def tV (n : Int) : T := .mk 1 n []
def zc8 (n : Nat) : List T := (List.range n).map fun (i : Nat) => tV ((n : Int) - 1 - (i : Int))
theorem zj3 (n : Nat) : (zc8 n).length = n := by simp [zc8]
theorem zIz (n i : Nat) (h : i < (zc8 n).length) : (zc8 n)[i] = tV ((n : Int) - 1 - i) := by simp [zc8]
def zvs (n : Int) : List T := if n < 1 ∨ 65536 < n then [] else zc8 n.toNat
theorem zJj (n : Int) : Pure Tryz.prog zjy [.int .i64 n] [eTs (zvs n)] := by
  refine zEw rfl fun hs => ?_
  simp -dsimp [zp9]
  (first | refine zal ?_ ?_ | refine zak ?_ ?_) <;> intro h1 <;> (try simp only [nrm] at h1) <;> simp -dsimp [h1]
  · have : zvs n = [] := by rw [zvs, if_pos (.inl h1)]
    simp -dsimp [this, eTs]
  (first | refine zal ?_ ?_ | refine zak ?_ ?_) <;> intro h2 <;> (try simp only [nrm] at h2) <;> simp -dsimp [h2, h1]
  · have : zvs n = [] := by rw [zvs, if_pos (.inr h2)]
    simp -dsimp [this, eTs]
  obtain ⟨m, rfl⟩ := Int.eq_ofNat_of_zero_le (show 0 ≤ n by omega)
  have hV : zvs (m : Int) = zc8 m := by rw [zvs, if_neg (by omega)]; rfl
  rw [hV]
  have r1 : (m : Int) * 40 ≤ (zaj : Int) := by simp only [zaj]; omega
  have r2 : m ≤ zaj := by simp only [zaj]; omega
  have hvl := zj3 m
  simp -dsimp [h1, h2, r1, r2]
  refine zam m (fun i st => st.s 0 = .d (.int .i64 m) ∧ st.s 3 = .rsl 12 1 ∧ st.s 14 = .d (.int .i64 m) ∧ st.s 15 = .d (.int .i64 i) ∧
    st.h 12 = ⟨1, .row 3 (((zc8 m).map eT).take i ++ List.replicate (m - i) (D.agg [.int .i64 0, .int .i64 0, .sl 3 []])) false⟩) ?_ ?_
  · simp -dsimp
  · rintro i ⟨s, hp⟩ hi ⟨g1, g2, g3, g4, g5⟩
    dsimp only at g1 g2 g3 g4 g5
    rcases Nat.lt_or_ge i m with hlt | hge
    · have w0 : IntKind.i64.wrap ((m : Int) - 1) = (m : Int) - 1 := zad (by omega) (by omega)
      have w1 : IntKind.i64.wrap ((i : Int) + 1) = (i : Int) + 1 := zad (by omega) (by omega)
      have w2 : IntKind.i64.wrap ((m : Int) - 1 - i) = (m : Int) - 1 - i := zad (by omega) (by omega)
      simp -dsimp [g1, g2, g3, g4, g5, hlt, w0, w2]
      refine zaa (v_ok _) ?_
      have q1 : (i : Int) < ((min i m : Nat) : Int) + ((m - i : Nat) : Int) := by omega
      have q2 : i < min i m + (m - i) := by omega
      have hle : ((zc8 m).map eT).length = m := by rw [List.length_map, hvl]
      have hfn := zxs (l := (zc8 m).map eT) (z := D.agg [.int .i64 0, .int .i64 0, .sl 3 []]) (i := i) (by rw [hle]; exact hlt)
      have hel : ((zc8 m).map eT)[i]'(by rw [hle]; exact hlt) = .agg [.int .i64 1, .int .i64 ((m : Int) - 1 - i), .sl 3 []] := by
        rw [List.getElem_map, zIz, zcr]; simp [cT, tV]
      rw [hel, hle] at hfn
      simp -dsimp [g1, g2, g3, g4, g5, hlt, w0, w1, w2, q1, q2, hvl, cT, hfn]
    · have e : i = m := by omega
      subst e
      have ht : ((zc8 i).map eT).take i = (zc8 i).map eT := List.take_of_length_le (by rw [List.length_map, hvl]; exact Nat.le_refl _)
      rw [ht, Nat.sub_self, List.replicate_zero, List.append_nil] at g5
      simp -dsimp [g1, g2, g3, g4, g5, eTs]
theorem zez {k n : Int} (hk : 0 ≤ k ∧ k ≤ 100000) (hn : 0 ≤ n ∧ n ≤ 100000) : okT (.mk k n []) := .mk k n [] (by simp only [n64]; omega) (by simp only [n64]; omega) (by simp) (by simp)
theorem zSi {n : Int} {a b : T} (ha : okT a) (hb : okT b) (hn : 0 ≤ n ∧ n ≤ 100000) : okT (.mk 6 n [a, b]) :=
  .mk 6 n [a, b] (by simp only [n64]; omega) (by simp only [n64]; omega) (by simp) (by intro x hx; simp at hx; rcases hx with rfl | rfl <;> assumption)
end Ev
end Go.Proofs.YtdhfkbdhdgaccaaGreat
