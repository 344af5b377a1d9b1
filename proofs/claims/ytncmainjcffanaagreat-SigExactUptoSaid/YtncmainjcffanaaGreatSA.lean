/- Several texts in one. -/
import Derived.Test.YtncmainjcffanaaGreatX
import Derived.Test.YtncmainjcffanaaGreatEE
/- Terms, arguments, sorts, constructors, blocks as data. -/
namespace Go.Proofs.YtncmainjcffanaaGreat
namespace Ev
open Go

inductive T where
  | mk (kind num : Int) (kids : List T)
def T.kind : T → Int | .mk k _ _ => k
def T.num : T → Int | .mk _ n _ => n
def T.kids : T → List T | .mk _ _ ks => ks

def eT : T → D
  | .mk k n ks => .agg [.int .i64 k, .int .i64 n, .sl 3 (ks.map eT)]
def cT (t : T) : List D := [.int .i64 t.kind, .int .i64 t.num, .sl 3 (t.kids.map eT)]
theorem eT_eq (t : T) : eT t = .agg (cT t) := by cases t; rw [eT]; rfl
@[simp] theorem eT_cells (t : T) : (eT t).cells = cT t := by rw [eT_eq]; rfl
def eTs (l : List T) : D := .sl 3 (l.map eT)

theorem T.ind {p : T → Prop} (h : ∀ k n ks, (∀ x ∈ ks, p x) → p (.mk k n ks)) : ∀ t, p t
  | .mk k n ks => h k n ks fun x _ => T.ind h x

structure Ar where
  rc : Bool
  ty : T
  dom : List T
  sort : Int
  idx : List T
def cAr (a : Ar) : List D := .bool a.rc :: cT a.ty ++ [eTs a.dom, .int .i64 a.sort, eTs a.idx]
def eAr (a : Ar) : D := .agg (cAr a)
def eArs (l : List Ar) : D := .sl 7 (l.map eAr)

structure So where
  idx : List Ar
  level : Int
  dec : Bool
  dty : T
def cSo (s : So) : List D := [eArs s.idx, .int .i64 s.level, .bool s.dec] ++ cT s.dty
def eSo (s : So) : D := .agg (cSo s)
def eSos (l : List So) : D := .sl 6 (l.map eSo)

structure Co where
  sort : Int
  args : List Ar
  idx : List T
  dec : T
def cCo (c : Co) : List D := [.int .i64 c.sort, eArs c.args, eTs c.idx] ++ cT c.dec
def eCo (c : Co) : D := .agg (cCo c)
def eCos (l : List Co) : D := .sl 6 (l.map eCo)

structure Bl where
  sorts : List So
  cons : List Co
  elim : Int
def cBl (b : Bl) : List D := [eSos b.sorts, eCos b.cons, .int .i64 b.elim]
def eBl (b : Bl) : D := .agg (cBl b)

def w64 (n : Int) : Int := IntKind.i64.wrap n
end Ev
end Go.Proofs.YtncmainjcffanaaGreat
/- Sizes and depths of terms; what is played. -/
namespace Go.Proofs.YtncmainjcffanaaGreat
namespace Ev
open Go
set_option maxRecDepth 100000
set_option linter.unusedSimpArgs false
set_option linter.unusedVariables false

def sizeM : T → Int
  | .mk _ _ ks => (ks.map sizeM).foldl (fun a s => w64 (a + s)) 1
theorem sizeM_eq (t : T) : sizeM t = (t.kids.map sizeM).foldl (fun a s => w64 (a + s)) 1 := by cases t; rw [sizeM]; rfl
def mx (a b : Int) : Int := if a < b then b else a
def depthM : T → Int
  | .mk _ _ ks => w64 ((ks.map depthM).foldl mx 0 + 1)
theorem depthM_eq (t : T) : depthM t = w64 ((t.kids.map depthM).foldl mx 0 + 1) := by cases t; rw [depthM]; rfl

theorem kids_small {t : T} (h : ∀ d ∈ [D.agg (cT t)], small 8 d) : t.kids.length ≤ 9223372036854775807 := by
  have := h (D.agg (cT t)) (by simp)
  simp -dsimp [cT, small] at this
  exact this.1

theorem take_snoc {α : Type} {l : List α} {i : Nat} {x : α} (h : l[i]? = some x) : l.take (i + 1) = l.take i ++ [x] := by simp -dsimp [List.take_add_one, h]

theorem foldl_next {α β : Type} (f : β → α → β) (b : β) (l : List α) (i : Nat) (x : α) (h : l[i]? = some x) : (l.take (i + 1)).foldl f b = f ((l.take i).foldl f b) x := by
  rw [take_snoc h, List.foldl_append]; rfl

theorem size_ok (t : T) : Pure Tryz.prog n_porismref01_Size [.agg (cT t)] [.int .i64 (sizeM t)] := by
  refine T.ind (p := fun t => Pure Tryz.prog n_porismref01_Size [.agg (cT t)] [.int .i64 (sizeM t)]) ?_ t
  intro k n ks ih
  refine p_porismref01_Size rfl fun hs => ?_
  have hl := kids_small hs
  simp -dsimp [T.kids] at hl
  simp -dsimp [x_porismref01_Size, cT, T.kind, T.num, T.kids]
  refine wp_upto ks.length (fun i st => st.s 1 = .ptr 1 1 0 ∧ st.h 1 = ⟨1, .box [.d (.int .i64 k), .d (.int .i64 n), .d (.sl 3 (ks.map eT))] false⟩ ∧ st.s 4 = .d (.int .i64 i) ∧ st.s 3 = .d (.int .i64 (((ks.map sizeM).take i).foldl (fun a s => w64 (a + s)) 1))) ?_ ?_
  · simp
  · rintro i ⟨s, hp⟩ hi ⟨h1, h2, h3, h4⟩
    dsimp only at h1 h2 h3 h4
    rcases Nat.lt_or_ge i ks.length with hlt | hge
    · have w1 : IntKind.i64.wrap ((i : Int) + 1) = (i : Int) + 1 := wrap_id (by omega) (by omega)
      simp -dsimp [h1, h2, h3, h4, hlt, cT]
      refine call_of (ih ks[i] (List.getElem_mem _)) ?_
      have hf := foldl_next (fun a s => w64 (a + s)) 1 (ks.map sizeM) i (sizeM ks[i]) (by simp [hlt])
      simp -dsimp [h1, h2, h3, h4, hlt, w1, hf]
      rfl
    · have e : i = ks.length := by omega
      subst e
      have ht : (ks.map sizeM).take ks.length = ks.map sizeM := List.take_of_length_le (by simp)
      simp -dsimp [h1, h2, h3, h4, sizeM, ht]

theorem foldl_mx (l : List Int) (i : Nat) (x : Int) (h : l[i]? = some x) : (l.take (i + 1)).foldl mx 0 = mx ((l.take i).foldl mx 0) x := foldl_next _ _ _ _ _ h

theorem depth_ok (t : T) : Pure Tryz.prog n_porismref01_Depth [.agg (cT t)] [.int .i64 (depthM t)] := by
  refine T.ind (p := fun t => Pure Tryz.prog n_porismref01_Depth [.agg (cT t)] [.int .i64 (depthM t)]) ?_ t
  intro k n ks ih
  refine p_porismref01_Depth rfl fun hs => ?_
  have hl := kids_small hs
  simp [T.kids] at hl
  simp -dsimp [x_porismref01_Depth, cT, T.kind, T.num, T.kids]
  refine wp_upto ks.length (fun i st => st.s 1 = .ptr 1 1 0 ∧ st.h 1 = ⟨1, .box [.d (.int .i64 k), .d (.int .i64 n), .d (.sl 3 (ks.map eT))] false⟩ ∧ st.s 4 = .d (.int .i64 i) ∧ st.s 3 = .d (.int .i64 (((ks.map depthM).take i).foldl mx 0))) ?_ ?_
  · simp -dsimp
  · rintro i ⟨s, hp⟩ hi ⟨h1, h2, h3, h4⟩
    dsimp only at h1 h2 h3 h4
    rcases Nat.lt_or_ge i ks.length with hlt | hge
    · have w1 : IntKind.i64.wrap ((i : Int) + 1) = (i : Int) + 1 := wrap_id (by omega) (by omega)
      simp -dsimp [h1, h2, h3, h4, hlt, cT]
      refine call_of (ih ks[i] (List.getElem_mem _)) ?_
      have hf := foldl_mx (ks.map depthM) i (depthM ks[i]) (by simp [hlt])
      simp -dsimp [h1, h2, h3, h4, hlt, w1, hf]
      rfl
    · have e : i = ks.length := by omega
      subst e
      have ht : (ks.map depthM).take ks.length = ks.map depthM := List.take_of_length_le (by simp)
      simp -dsimp [h1, h2, h3, h4, depthM, ht]
      rfl

/-- What is played, of terms. -/
def heavy02 (l : List T) : Bool := decide ((60 : Int) < (l.length : Int)) || l.any (fun t => decide (300 < depthM t)) || decide (9000 < (l.map sizeM).foldl (fun a s => w64 (a + s)) 0)
theorem heavy02_ok (l : List T) : Pure Tryz.prog n_porismlaw02_Heavy [eTs l] [.bool (heavy02 l)] := by
  refine p_porismlaw02_Heavy rfl fun hs => ?_
  simp -dsimp [x_porismlaw02_Heavy, eTs]
  (first | refine Ask_b ?_ ?_ | refine Cnd_b ?_ ?_) <;> intro h1 <;> (try simp only [nrm] at h1) <;> simp -dsimp [h1, heavy02]
  have hl : l.length ≤ 60 := by omega
  refine wp_upto l.length (fun i st => st.s 0 = .d (.sl 3 (l.map eT)) ∧ st.s 4 = .d (.int .i64 i) ∧ st.s 3 = .d (.int .i64 (((l.map sizeM).take i).foldl (fun a s => w64 (a + s)) 0)) ∧ (l.take i).any (fun t => decide (300 < depthM t)) = false) ?_ ?_
  · simp -dsimp
  · rintro i ⟨s, hp⟩ hi ⟨h2, h3, h4, h5⟩
    dsimp only at h2 h3 h4 h5
    rcases Nat.lt_or_ge i l.length with hlt | hge
    · have w1 : IntKind.i64.wrap ((i : Int) + 1) = (i : Int) + 1 := wrap_id (by omega) (by omega)
      simp -dsimp [h2, h3, h4, hlt, cT]
      refine call_of (depth_ok l[i]) ?_
      simp -dsimp [h2, h3, h4, hlt]
      (first | refine Ask_b ?_ ?_ | refine Cnd_b ?_ ?_) <;> intro h6 <;> (try simp only [nrm] at h6) <;> simp -dsimp [h6, heavy02]
      · exact .inl (.inr ⟨l[i], List.getElem_mem _, h6⟩)
      · simp -dsimp [h2, h3, h4, hlt, h6, cT]
        refine call_of (size_ok l[i]) ?_
        have hf := foldl_next (fun a s => w64 (a + s)) 0 (l.map sizeM) i (sizeM l[i]) (by simp [hlt])
        have h7 : (l.take (i + 1)).any (fun t => decide (300 < depthM t)) = false := by
          rw [take_snoc (List.getElem?_eq_getElem hlt), List.any_append, h5]
          simp [h6]
        simp -dsimp [h2, h3, h4, hlt, w1, hf]
        exact ⟨rfl, by simpa using h7⟩
    · have e : i = l.length := by omega
      subst e
      have ht : (l.map sizeM).take l.length = l.map sizeM := List.take_of_length_le (by simp)
      simp -dsimp [h2, h3, h4, heavy02, ht]
      rintro (h | ⟨x, hx, h⟩)
      · exact absurd h h1
      · rw [List.take_length] at h5
        have := List.any_eq_false.1 h5 x hx
        simp at this
        omega
end Ev
end Go.Proofs.YtncmainjcffanaaGreat
/- Kinds. -/
namespace Go.Proofs.YtncmainjcffanaaGreat
namespace Ev
open Go
set_option maxRecDepth 100000
set_option linter.unusedSimpArgs false
set_option linter.unusedVariables false

theorem allD_map_d (h : Nat → Ent) (n : Nat) (cs : List D) : allD (toD h n) (cs.map .d) = some cs := by
  induction cs with
  | nil => rfl
  | cons c cs ih => simp only [List.map_cons, allD, toD_d, ih]
theorem sks_map_d (h : Nat → Ent) (cs : List D) : sks h (cs.map .d) = [] := by
  induction cs with
  | nil => rfl
  | cons c cs ih => simp only [List.map_cons, sks, sk_d, ih, List.nil_append]

def isM (k : Int) : Bool := decide (1 ≤ k) && decide (k ≤ 13)
theorem is_ok (k : Int) : Pure Tryz.prog n_kind_is [.int .i64 k] [.bool (isM k)] := by
  refine p_kind_is rfl fun hs => ?_
  simp -dsimp [x_kind_is]
  (first | refine Ask_b ?_ ?_ | refine Cnd_b ?_ ?_) <;> intro h1 <;> (try simp only [nrm] at h1) <;> simp -dsimp [h1, isM]

def kidsM (k : Int) : Int :=
  if k = 1 then 0 else if k = 2 then 0 else if k = 3 then 0 else if k = 9 then 1 else if k = 10 then 1 else if k = 8 then 3 else if k = 11 then 3 else if k = 13 then 3 else if isM k then 2 else -1
theorem kids_ok (k : Int) : Pure Tryz.prog n_kind_Kids [.int .i64 k] [.int .i64 (kidsM k)] := by
  refine p_kind_Kids rfl fun hs => ?_
  simp -dsimp [x_kind_Kids]
  (first | refine Ask_b ?_ ?_ | refine Cnd_b ?_ ?_) <;> intro h1 <;> (try simp only [nrm] at h1) <;> simp -dsimp [h1, kidsM]
  (first | refine Ask_b ?_ ?_ | refine Cnd_b ?_ ?_) <;> intro h2 <;> (try simp only [nrm] at h2) <;> simp -dsimp [h2, kidsM, h1]
  (first | refine Ask_b ?_ ?_ | refine Cnd_b ?_ ?_) <;> intro h3 <;> (try simp only [nrm] at h3) <;> simp -dsimp [h3, kidsM, h1, h2]
  (first | refine Ask_b ?_ ?_ | refine Cnd_b ?_ ?_) <;> intro h4 <;> (try simp only [nrm] at h4) <;> simp -dsimp [h4, kidsM, h1, h2, h3]
  (first | refine Ask_b ?_ ?_ | refine Cnd_b ?_ ?_) <;> intro h5 <;> (try simp only [nrm] at h5) <;> simp -dsimp [h5, kidsM, h1, h2, h3, h4]
  (first | refine Ask_b ?_ ?_ | refine Cnd_b ?_ ?_) <;> intro h6 <;> (try simp only [nrm] at h6) <;> simp -dsimp [h6, kidsM, h1, h2, h3, h4, h5]
  (first | refine Ask_b ?_ ?_ | refine Cnd_b ?_ ?_) <;> intro h7 <;> (try simp only [nrm] at h7) <;> simp -dsimp [h7, kidsM, h1, h2, h3, h4, h5, h6]
  (first | refine Ask_b ?_ ?_ | refine Cnd_b ?_ ?_) <;> intro h8 <;> (try simp only [nrm] at h8) <;> simp -dsimp [h8, kidsM, h1, h2, h3, h4, h5, h6, h7]
  refine call_of (is_ok k) ?_
  simp -dsimp
  (first | refine Ask_b ?_ ?_ | refine Cnd_b ?_ ?_) <;> intro h9 <;> (try simp only [nrm] at h9) <;> simp -dsimp [h9, kidsM, h1, h2, h3, h4, h5, h6, h7, h8]

def idxI (n : Int) (l : List Int) : Int := match l.findIdx? (fun x => n == x) with
  | some i => i
  | none => -1
theorem index_int_ok (l : List Int) (n : Int) : Pure Tryz.prog n_slices_Index_int [.sl 1 (l.map (.int .i64)), .int .i64 n] [.int .i64 (idxI n l)] := by
  refine p_slices_Index_int rfl fun hs => ?_
  have hl := hs (.sl 1 (l.map (.int .i64))) (by simp)
  simp [small] at hl
  simp -dsimp [x_slices_Index_int]
  refine wp_upto l.length (fun i st => st.s 0 = .d (.sl 1 (l.map (.int .i64))) ∧ st.s 1 = .d (.int .i64 n) ∧ st.s 7 = .d (.int .i64 l.length) ∧ st.s 8 = .d (.int .i64 i) ∧ ∀ x ∈ l.take i, (n == x) = false) ?_ ?_
  · simp -dsimp
  · rintro i ⟨s, hp⟩ hi ⟨h1, h2, h3, h4, h5⟩
    dsimp only at h1 h2 h3 h4 h5
    rcases Nat.lt_or_ge i l.length with hlt | hge
    · have w1 : IntKind.i64.wrap ((i : Int) + 1) = (i : Int) + 1 := wrap_id (by omega) (by omega)
      simp -dsimp [h1, h2, h3, h4, hlt]
      (first | refine Ask_b ?_ ?_ | refine Cnd_b ?_ ?_) <;> intro h6 <;> (try simp only [nrm] at h6) <;> simp -dsimp [h6, h1, h2, h3, h4, hlt, w1]
      · have : l.findIdx? (fun x => n == x) = some i := by
          rw [List.findIdx?_eq_some_iff_getElem]
          refine ⟨hlt, by simpa using h6, fun j hj => ?_⟩
          have := h5 l[j] (by rw [List.mem_take_iff_getElem]; exact ⟨j, by omega, rfl⟩)
          simpa using this
        rw [← h6]
        simp only [idxI, this]
      · intro x hx
        rw [take_snoc (List.getElem?_eq_getElem hlt), List.mem_append] at hx
        rcases hx with hx | hx
        · simpa using h5 x hx
        · simp at hx; subst hx; exact h6
    · have e : i = l.length := by omega
      subst e
      rw [List.take_length] at h5
      have : l.findIdx? (fun x => n == x) = none := by
        rw [List.findIdx?_eq_none_iff]; exact h5
      simp -dsimp [h1, h2, h3, h4, idxI, this]

theorem contains_int_ok (l : List Int) (n : Int) : Pure Tryz.prog n_slices_Contains_int [.sl 1 (l.map (.int .i64)), .int .i64 n] [.bool (decide (0 ≤ idxI n l))] := by
  refine p_slices_Contains_int rfl fun hs => ?_
  simp -dsimp [x_slices_Contains_int]
  refine call_of (index_int_ok l n) ?_
  simp -dsimp

def bindsM (k i : Int) : Int := if i = 1 ∧ (k = 4 ∨ k = 5 ∨ k = 7) then 1 else 0
theorem binds_ok (k i : Int) : Pure Tryz.prog n_kind_Binds [.int .i64 k, .int .i64 i] [.int .i64 (bindsM k i)] := by
  refine p_kind_Binds rfl fun hs => ?_
  simp -dsimp [x_kind_Binds]
  (first | refine Ask_b ?_ ?_ | refine Cnd_b ?_ ?_) <;> intro h1 <;> (try simp only [nrm] at h1) <;> simp -dsimp [h1, bindsM]
  refine call_of (contains_int_ok [4, 5, 7] k) ?_
  have hc : decide (0 ≤ idxI k [4, 5, 7]) = decide (k = 4 ∨ k = 5 ∨ k = 7) := by
    simp only [idxI, List.findIdx?_cons, List.findIdx?_nil]
    by_cases h4 : k = 4
    · simp [h4]
    · by_cases h5 : k = 5
      · simp [h5]
      · by_cases h7 : k = 7 <;> simp [h4, h5, h7]
  rw [hc]
  simp -dsimp [h1]
  (first | refine Ask_b ?_ ?_ | refine Cnd_b ?_ ?_) <;> intro h2 <;> (try simp only [nrm] at h2) <;> simp -dsimp [h2, bindsM, h1]
end Ev
end Go.Proofs.YtncmainjcffanaaGreat
/- slices.IndexFunc, slices.ContainsFunc; what a right term is. -/
namespace Go.Proofs.YtncmainjcffanaaGreat
namespace Ev
open Go
set_option maxRecDepth 100000
set_option linter.unusedSimpArgs false
set_option linter.unusedVariables false
attribute [local simp] allD_map_d sks_map_d

theorem eT_map (l : List T) : l.map (fun t => D.agg (cT t)) = l.map eT := List.map_congr_left fun t _ => (eT_eq t).symm
@[simp] theorem eAr_cells (a : Ar) : (eAr a).cells = cAr a := rfl
@[simp] theorem eSo_cells (a : So) : (eSo a).cells = cSo a := rfl
@[simp] theorem eCo_cells (a : Co) : (eCo a).cells = cCo a := rfl

def idxF {α : Type} (l : List α) (p : α → Bool) : Int := match l.findIdx? p with
  | some i => i
  | none => -1
theorem idxF_ge {α : Type} (l : List α) (p : α → Bool) : decide (0 ≤ idxF l p) = l.any p := by
  cases h : l.findIdx? p with
  | none =>
    have h1 := List.findIdx?_eq_none_iff.1 h
    have h2 : l.any p = false := by rw [List.any_eq_false]; intro x hx; simp [h1 x hx]
    have h3 : idxF l p = -1 := by simp only [idxF, h]
    rw [h2, h3]; rfl
  | some i =>
    obtain ⟨hi, hp, _⟩ := List.findIdx?_eq_some_iff_getElem.1 h
    have h2 : l.any p = true := List.any_eq_true.2 ⟨_, List.getElem_mem hi, hp⟩
    have h3 : idxF l p = (i : Int) := by simp only [idxF, h]
    rw [h2, h3]; simp

theorem indexFunc_Term (l : List T) (g : FuncId) (caps : List D) (p : T → Bool) (hp : ∀ x ∈ l, Pure Tryz.prog g (.agg (cT x) :: caps) [.bool (p x)]) :
    Pure Tryz.prog n_slices_IndexFunc_Term [.sl 3 (l.map eT), .clo g caps] [.int .i64 (idxF l p)] := by
  refine p_slices_IndexFunc_Term rfl fun hs => ?_
  have hl := hs (.sl 3 (l.map eT)) (by simp)
  simp [small] at hl
  replace hl := hl.1
  simp -dsimp [x_slices_IndexFunc_Term]
  refine wp_upto l.length (fun i st => st.s 0 = .d (.sl 3 (l.map eT)) ∧ st.s 1 = .d (.clo g caps) ∧ st.s 7 = .d (.int .i64 l.length) ∧ st.s 8 = .d (.int .i64 i) ∧ ∀ x ∈ l.take i, p x = false) ?_ ?_
  · simp -dsimp
  · rintro i ⟨s, hp'⟩ hi ⟨h1, h2, h3, h4, h5⟩
    dsimp only at h1 h2 h3 h4 h5
    rcases Nat.lt_or_ge i l.length with hlt | hge
    · have w1 : IntKind.i64.wrap ((i : Int) + 1) = (i : Int) + 1 := wrap_id (by omega) (by omega)
      have hc : (cT l[i]).length = 3 := rfl
      simp -dsimp [h1, h2, h3, h4, hlt, hc]
      have ht : (cT l[i]).take 3 = cT l[i] := List.take_of_length_le (by omega)
      refine call_of (by rw [ht]; exact hp l[i] (List.getElem_mem _)) ?_
      simp -dsimp [h1, h2, h3, h4, hlt]
      (first | refine Ask_b ?_ ?_ | refine Cnd_b ?_ ?_) <;> intro h6 <;> (try simp only [nrm] at h6) <;> simp -dsimp [h6, h1, h2, h3, h4, hlt, w1]
      · have : l.findIdx? p = some i := by
          rw [List.findIdx?_eq_some_iff_getElem]
          refine ⟨hlt, h6, fun j hj => ?_⟩
          have := h5 l[j] (by rw [List.mem_take_iff_getElem]; exact ⟨j, by omega, rfl⟩)
          simpa using this
        simp only [idxF, this]
      · intro x hx
        rw [take_snoc (List.getElem?_eq_getElem hlt), List.mem_append] at hx
        rcases hx with hx | hx
        · simpa using h5 x hx
        · simp at hx; subst hx; exact h6
    · have e : i = l.length := by omega
      subst e
      rw [List.take_length] at h5
      have : l.findIdx? p = none := by
        rw [List.findIdx?_eq_none_iff]; exact h5
      simp -dsimp [h1, h2, h3, h4, idxF, this]

theorem containsFunc_Term (l : List T) (g : FuncId) (caps : List D) (p : T → Bool) (hp : ∀ x ∈ l, Pure Tryz.prog g (.agg (cT x) :: caps) [.bool (p x)]) :
    Pure Tryz.prog n_slices_ContainsFunc_Term [.sl 3 (l.map eT), .clo g caps] [.bool (l.any p)] := by
  refine p_slices_ContainsFunc_Term rfl fun hs => ?_
  simp -dsimp [x_slices_ContainsFunc_Term]
  refine call_of (indexFunc_Term l g caps p hp) ?_
  simp -dsimp [idxF_ge]

end Ev
end Go.Proofs.YtncmainjcffanaaGreat
/- term: sizes, right terms, scopes. -/
namespace Go.Proofs.YtncmainjcffanaaGreat
namespace Ev
open Go
set_option maxRecDepth 100000
set_option linter.unusedSimpArgs false
set_option linter.unusedVariables false
attribute [local simp] allD_map_d sks_map_d

theorem tsize_ok (t : T) : Pure Tryz.prog n_term_Size [.agg (cT t)] [.int .i64 (sizeM t)] := by
  refine T.ind (p := fun t => Pure Tryz.prog n_term_Size [.agg (cT t)] [.int .i64 (sizeM t)]) ?_ t
  intro k n ks ih
  refine p_term_Size rfl fun hs => ?_
  have hl := kids_small hs
  simp [T.kids] at hl
  simp -dsimp [x_term_Size, cT, T.kind, T.num, T.kids]
  refine wp_upto ks.length (fun i st => st.s 7 = .d (.sl 3 (ks.map eT)) ∧ st.s 8 = .d (.int .i64 ks.length) ∧ st.s 9 = .d (.int .i64 i) ∧ st.s 3 = .d (.int .i64 (((ks.map sizeM).take i).foldl (fun a s => w64 (a + s)) 1))) ?_ ?_
  · simp -dsimp
  · rintro i ⟨s, hp⟩ hi ⟨h1, h2, h3, h4⟩
    dsimp only at h1 h2 h3 h4
    rcases Nat.lt_or_ge i ks.length with hlt | hge
    · have w1 : IntKind.i64.wrap ((i : Int) + 1) = (i : Int) + 1 := wrap_id (by omega) (by omega)
      simp -dsimp [h1, h2, h3, h4, hlt, cT]
      refine call_of (ih ks[i] (List.getElem_mem _)) ?_
      have hf := foldl_next (fun a s => w64 (a + s)) 1 (ks.map sizeM) i (sizeM ks[i]) (by simp [hlt])
      simp -dsimp [h1, h2, h3, h4, hlt, w1, hf]
      rfl
    · have e : i = ks.length := by omega
      subst e
      have ht : (ks.map sizeM).take ks.length = ks.map sizeM := List.take_of_length_le (by simp)
      simp -dsimp [h1, h2, h3, h4, sizeM, ht]

theorem tdepth_ok (t : T) : Pure Tryz.prog n_term_Depth [.agg (cT t)] [.int .i64 (depthM t)] := by
  refine T.ind (p := fun t => Pure Tryz.prog n_term_Depth [.agg (cT t)] [.int .i64 (depthM t)]) ?_ t
  intro k n ks ih
  refine p_term_Depth rfl fun hs => ?_
  have hl := kids_small hs
  simp [T.kids] at hl
  simp -dsimp [x_term_Depth, cT, T.kind, T.num, T.kids]
  refine wp_upto ks.length (fun i st => st.s 7 = .d (.sl 3 (ks.map eT)) ∧ st.s 8 = .d (.int .i64 ks.length) ∧ st.s 9 = .d (.int .i64 i) ∧ st.s 3 = .d (.int .i64 (((ks.map depthM).take i).foldl mx 0))) ?_ ?_
  · simp -dsimp
  · rintro i ⟨s, hp⟩ hi ⟨h1, h2, h3, h4⟩
    dsimp only at h1 h2 h3 h4
    rcases Nat.lt_or_ge i ks.length with hlt | hge
    · have w1 : IntKind.i64.wrap ((i : Int) + 1) = (i : Int) + 1 := wrap_id (by omega) (by omega)
      simp -dsimp [h1, h2, h3, h4, hlt, cT]
      refine call_of (ih ks[i] (List.getElem_mem _)) ?_
      have hf := foldl_mx (ks.map depthM) i (depthM ks[i]) (by simp [hlt])
      simp -dsimp [h1, h2, h3, h4, hlt, w1, hf]
      rfl
    · have e : i = ks.length := by omega
      subst e
      have ht : (ks.map depthM).take ks.length = ks.map depthM := List.take_of_length_le (by simp)
      simp -dsimp [h1, h2, h3, h4, depthM, ht]
      rfl

def formedM : T → Bool
  | .mk k n ks => if kidsM k < 0 then false else if (ks.length : Int) = kidsM k then if n < 0 then false else if 65535 < n then false else if 0 < kidsM k ∧ n ≠ 0 then false else (ks.map formedM).all id else false

theorem formed1_ok (t : T) (h : Pure Tryz.prog n_term_formed [.agg (cT t)] [.bool (formedM t)]) : Pure Tryz.prog n_term_formed_1 [.agg (cT t)] [.bool (!formedM t)] := by
  refine p_term_formed_1 rfl fun hs => ?_
  simp -dsimp [x_term_formed_1, cT]
  refine call_of h ?_
  simp -dsimp

theorem formed_ok (t : T) : Pure Tryz.prog n_term_formed [.agg (cT t)] [.bool (formedM t)] := by
  refine T.ind (p := fun t => Pure Tryz.prog n_term_formed [.agg (cT t)] [.bool (formedM t)]) ?_ t
  intro k n ks ih
  refine p_term_formed rfl fun hs => ?_
  simp -dsimp [x_term_formed, cT, T.kind, T.num, T.kids]
  refine call_of (kids_ok k) ?_
  simp -dsimp
  (first | refine Ask_b ?_ ?_ | refine Cnd_b ?_ ?_) <;> intro h1 <;> (try simp only [nrm] at h1) <;> simp -dsimp [h1, formedM]
  (first | refine Ask_b ?_ ?_ | refine Cnd_b ?_ ?_) <;> intro h2 <;> (try simp only [nrm] at h2) <;> simp -dsimp [h2, formedM, h1]
  (first | refine Ask_b ?_ ?_ | refine Cnd_b ?_ ?_) <;> intro h3 <;> (try simp only [nrm] at h3) <;> simp -dsimp [h3, formedM, h1, h2]
  (first | refine Ask_b ?_ ?_ | refine Cnd_b ?_ ?_) <;> intro h4 <;> (try simp only [nrm] at h4) <;> simp -dsimp [h4, formedM, h1, h2, h3]
  (first | refine Ask_b ?_ ?_ | refine Cnd_b ?_ ?_) <;> intro h5 <;> (try simp only [nrm] at h5) <;> simp -dsimp [h5, formedM, h1, h2, h3, h4]
  · (first | refine Ask_b ?_ ?_ | refine Cnd_b ?_ ?_) <;> intro h6 <;> (try simp only [nrm] at h6) <;> simp -dsimp [h6, formedM, h1, h2, h3, h4, h5]
    refine call_of (containsFunc_Term ks n_term_formed_1 [] (fun t => !formedM t) (fun x hx => formed1_ok x (ih x hx))) ?_
    have hf : formedM (.mk k 0 ks) = !(ks.any fun t => !formedM t) := by
      rw [formedM, if_neg h1, if_pos h2]
      simp [List.all_eq_not_any_not, Function.comp_def]
    subst h6
    simp -dsimp [hf]
  · refine call_of (containsFunc_Term ks n_term_formed_1 [] (fun t => !formedM t) (fun x hx => formed1_ok x (ih x hx))) ?_
    have hf : formedM (.mk k n ks) = !(ks.any fun t => !formedM t) := by
      rw [formedM, if_neg h1, if_pos h2, if_neg h3, if_neg h4, if_neg (fun h => h5 h.1)]
      simp [List.all_eq_not_any_not, Function.comp_def]
    simp -dsimp [hf]

def checkM (t : T) : Int := if 6000 < sizeM t then 4 else if 200 < depthM t then 5 else if formedM t then 0 else 1
theorem check_ok (t : T) : Pure Tryz.prog n_term_Check [.agg (cT t)] [.int .i64 (checkM t)] := by
  refine p_term_Check rfl fun hs => ?_
  simp -dsimp [x_term_Check, cT]
  refine call_of (tsize_ok t) ?_
  simp -dsimp
  (first | refine Ask_b ?_ ?_ | refine Cnd_b ?_ ?_) <;> intro h1 <;> (try simp only [nrm] at h1) <;> simp -dsimp [h1, checkM]
  refine call_of (tdepth_ok t) ?_
  simp -dsimp
  (first | refine Ask_b ?_ ?_ | refine Cnd_b ?_ ?_) <;> intro h2 <;> (try simp only [nrm] at h2) <;> simp -dsimp [h2, checkM, h1]
  refine call_of (formed_ok t) ?_
  simp -dsimp
  (first | refine Ask_b ?_ ?_ | refine Cnd_b ?_ ?_) <;> intro h3 <;> (try simp only [nrm] at h3) <;> simp -dsimp [h3, checkM, h1, h2]

mutual
def withinM : T → Int → Int → Bool
  | .mk k n ks, v, c => if k = 1 then decide (n < v) else if k = 2 then decide (n ≤ 6) else if k = 3 then decide (n < c) else withinL k v c 0 ks
def withinL (k v c : Int) : Nat → List T → Bool
  | _, [] => true
  | i, x :: xs => withinM x (w64 (v + bindsM k i)) c && withinL k v c (i + 1) xs
end
theorem withinL_iff (k v c : Int) : ∀ (l : List T) (i : Nat), withinL k v c i l = true ↔ ∀ (j : Nat) (hj : j < l.length), withinM l[j] (w64 (v + bindsM k (i + j : Nat))) c = true
  | [], i => by simp [withinL]
  | x :: xs, i => by
    rw [withinL, Bool.and_eq_true, withinL_iff k v c xs (i + 1)]
    constructor
    · rintro ⟨h1, h2⟩ j hj
      cases j with
      | zero => simpa using h1
      | succ j =>
        have := h2 j (by simpa using hj)
        have e : i + 1 + j = i + (j + 1) := by omega
        rw [e] at this
        simpa using this
    · intro h
      refine ⟨h 0 (by simp), fun j hj => ?_⟩
      have := h (j + 1) (by simpa using hj)
      have e : i + 1 + j = i + (j + 1) := by omega
      rw [e]
      simpa using this

theorem within_ok (t : T) : ∀ v c : Int, Pure Tryz.prog n_term_within [.agg (cT t), .int .i64 v, .int .i64 c] [.bool (withinM t v c)] := by
  refine T.ind (p := fun t => ∀ v c : Int, Pure Tryz.prog n_term_within [.agg (cT t), .int .i64 v, .int .i64 c] [.bool (withinM t v c)]) ?_ t
  intro k n ks ih v c
  refine p_term_within rfl fun hs => ?_
  have hl := kids_small (t := .mk k n ks) (fun d hd => hs d (by simp at hd; simp [hd]))
  simp [T.kids] at hl
  simp -dsimp [x_term_within, cT, T.kind, T.num, T.kids]
  (first | refine Ask_b ?_ ?_ | refine Cnd_b ?_ ?_) <;> intro h1 <;> (try simp only [nrm] at h1) <;> simp -dsimp [h1, withinM]
  (first | refine Ask_b ?_ ?_ | refine Cnd_b ?_ ?_) <;> intro h2 <;> (try simp only [nrm] at h2) <;> simp -dsimp [h2, withinM, h1]
  (first | refine Ask_b ?_ ?_ | refine Cnd_b ?_ ?_) <;> intro h3 <;> (try simp only [nrm] at h3) <;> simp -dsimp [h3, withinM, h1, h2]
  have hw : withinM (.mk k n ks) v c = withinL k v c 0 ks := by rw [withinM, if_neg h1, if_neg h2, if_neg h3]
  rw [hw]
  refine wp_upto ks.length (fun i st => st.s 3 = .ptr 3 1 0 ∧ st.h 3 = ⟨1, .box [.d (.int .i64 k), .d (.int .i64 n), .d (.sl 3 (ks.map eT))] false⟩ ∧ st.s 1 = .d (.int .i64 v) ∧ st.s 2 = .d (.int .i64 c) ∧
    st.s 29 = .d (.sl 3 (ks.map eT)) ∧ st.s 30 = .d (.int .i64 ks.length) ∧ st.s 31 = .d (.int .i64 i) ∧ ∀ (j : Nat) (hj : j < ks.length), j < i → withinM ks[j] (w64 (v + bindsM k j)) c = true) ?_ ?_
  · simp -dsimp
  · rintro i ⟨s, hp⟩ hi ⟨g1, g2, g3, g4, g5, g6, g7, g8⟩
    dsimp only at g1 g2 g3 g4 g5 g6 g7
    rcases Nat.lt_or_ge i ks.length with hlt | hge
    · have w1 : IntKind.i64.wrap ((i : Int) + 1) = (i : Int) + 1 := wrap_id (by omega) (by omega)
      simp -dsimp [g1, g2, g3, g4, g5, g6, g7, hlt, cT]
      refine call_of (binds_ok k i) ?_
      simp -dsimp [g1, g2, g3, g4, g5, g6, g7, hlt]
      refine call_of (ih ks[i] (List.getElem_mem _) (w64 (v + bindsM k i)) c) ?_
      simp -dsimp [g1, g2, g3, g4, g5, g6, g7, hlt]
      (first | refine Ask_b ?_ ?_ | refine Cnd_b ?_ ?_) <;> intro h4 <;> (try simp only [nrm] at h4) <;> simp -dsimp [h4, g1, g2, g3, g4, g5, g6, g7, hlt, w1]
      · cases hw : withinL k v c 0 ks with
        | false => rfl
        | true =>
          have := (withinL_iff k v c ks 0).1 hw i hlt
          rw [Nat.zero_add, h4] at this
          cases this
      · intro j hj hji
        rcases Nat.lt_or_ge j i with h | h
        · exact g8 j hj h
        · have : j = i := by omega
          subst this
          exact h4
    · have e : i = ks.length := by omega
      subst e
      have : withinL k v c 0 ks = true := (withinL_iff k v c ks 0).2 fun j hj => by simpa using g8 j hj hj
      simp -dsimp [g1, g2, g3, g4, g5, g6, g7, this]

def scopeM (t : T) (v c : Int) : Bool := if v < 0 then false else if c < 0 then false else if checkM t = 0 then withinM t (if 65536 < v then 65536 else v) c else false
theorem scope_ok (t : T) (v c : Int) : Pure Tryz.prog n_term_Scope [.agg (cT t), .int .i64 v, .int .i64 c] [.bool (scopeM t v c)] := by
  refine p_term_Scope rfl fun hs => ?_
  simp -dsimp [x_term_Scope, cT]
  (first | refine Ask_b ?_ ?_ | refine Cnd_b ?_ ?_) <;> intro h1 <;> (try simp only [nrm] at h1) <;> simp -dsimp [h1, scopeM]
  · (first | refine Ask_b ?_ ?_ | refine Cnd_b ?_ ?_) <;> intro h2 <;> (try simp only [nrm] at h2) <;> simp -dsimp [h2, scopeM, h1]
    · refine call_of (check_ok t) ?_
      simp -dsimp [h1, h2]
      (first | refine Ask_b ?_ ?_ | refine Cnd_b ?_ ?_) <;> intro h3 <;> (try simp only [nrm] at h3) <;> simp -dsimp [h3, scopeM, h1, h2]
      · refine call_of (within_ok t _ _) ?_
        have hS : scopeM t v c = withinM t (if 65536 < v then 65536 else v) c := by rw [scopeM, if_neg (by omega), if_neg (by omega), if_pos h3]
        rw [hS]
        simp -dsimp [h3]
end Ev
end Go.Proofs.YtncmainjcffanaaGreat
/- What comes in by type: numbers, terms, and how long their rows may be. -/
namespace Go.Proofs.YtncmainjcffanaaGreat
namespace Ev
open Go
set_option maxRecDepth 100000

theorem c_term : Tryz.prog.cellsOf 28 = 3 := by kernel_rfl
theorem c_terms : Tryz.prog.cellsOf 26 = 1 := by kernel_rfl
theorem c_int : Tryz.prog.cellsOf 3 = 1 := by kernel_rfl
theorem c_bool : Tryz.prog.cellsOf 4 = 1 := by kernel_rfl
theorem y_term : Tryz.prog.bytesOf 28 = 40 := by kernel_rfl

def n64 (n : Int) : Prop := -9223372036854775808 ≤ n ∧ n < 9223372036854775808
/-- As terms come in. -/
inductive okT : T → Prop
  | mk (k n : Int) (ks : List T) (hk : n64 k) (hn : n64 n) (hl : ks.length * 40 ≤ 140737488351232) (h : ∀ x ∈ ks, okT x) : okT (.mk k n ks)
def okTs (l : List T) : Prop := l.length * 40 ≤ 140737488351232 ∧ ∀ x ∈ l, okT x
theorem okT.kids {k n : Int} {ks : List T} (h : okT (.mk k n ks)) : okTs ks := by
  cases h with
  | mk _ _ _ _ _ hl h => exact ⟨hl, h⟩
theorem map_of {α : Type} {f : α → D} {q : α → Prop} : ∀ {xs : List D}, (∀ x ∈ xs, ∃ a, q a ∧ x = f a) → ∃ l : List α, xs = l.map f ∧ ∀ a ∈ l, q a
  | [], _ => ⟨[], rfl, by simp⟩
  | x :: xs, h => by
    obtain ⟨a, ha, rfl⟩ := h x (List.mem_cons_self ..)
    obtain ⟨l, rfl, hl⟩ := map_of (xs := xs) fun y hy => h y (List.mem_cons_of_mem _ hy)
    exact ⟨a :: l, rfl, by simpa using ⟨ha, hl⟩⟩
theorem agg_of : ∀ {x : D}, x.isAgg = true → x = .agg x.cells := by
  intro x h
  cases x <;> first | rfl | cases h
theorem len3 {xs : List D} (h : xs.length = 3) : ∃ a b c, xs = [a, b, c] := by
  match xs, h with
  | [a, b, c], _ => exact ⟨a, b, c, rfl⟩
theorem wf64 {i : Int} (hw : (Lit.int .i64 i).wf = true) : n64 i := by
  obtain ⟨u, v⟩ : IntKind.i64.min ≤ i ∧ i ≤ IntKind.i64.max := by simpa [Lit.wf] using hw
  have e1 : IntKind.i64.min = -9223372036854775808 := by decide
  have e2 : IntKind.i64.max = 9223372036854775807 := by decide
  exact ⟨by omega, by omega⟩
theorem typ_int {n : Nat} {cs : List D} (h : typ Tryz.prog n 3 cs) : ∃ i, cs = [.int .i64 i] ∧ n64 i := by
  cases n with
  | zero => exact h.elim
  | succ n =>
    simp only [typ, Tryz.underlying3] at h
    obtain ⟨i, hi, hw⟩ := h
    exact ⟨i, hi, wf64 hw⟩
theorem typ_bool {n : Nat} {cs : List D} (h : typ Tryz.prog n 4 cs) : ∃ b, cs = [.bool b] := by
  cases n with
  | zero => exact h.elim
  | succ n => simp only [typ, Tryz.underlying4] at h; exact h
theorem is_term : isStructB Tryz.prog 28 = true := by simp only [isStructB, Tryz.underlying28]

theorem typ_slice {e t : TypeId} {k y : Nat} {n : Nat} {cs : List D} (hu : Tryz.prog.underlying t = some (.slice e)) (hc : Tryz.prog.cellsOf e = k) (hy : Tryz.prog.bytesOf e = y) (hs : isStructB Tryz.prog e = true) (h : typ Tryz.prog n t cs) :
    ∃ (m : Nat) (xs : List D), n = m + 1 ∧ cs = [.sl k xs] ∧ xs.length * y ≤ 140737488351232 ∧ ∀ x ∈ xs, typ Tryz.prog m e x.cells ∧ x = .agg x.cells := by
  cases n with
  | zero => exact h.elim
  | succ n =>
    simp only [typ, hu] at h
    obtain ⟨xs, rfl, _, hl, hx⟩ := h
    exact ⟨n, xs, rfl, by rw [hc], by rw [hy] at hl; exact hl, fun x hxx => ⟨(hx x hxx).1, agg_of (by rw [(hx x hxx).2, hs])⟩⟩

theorem typ_term (n : Nat) : ∀ {cs : List D}, typ Tryz.prog n 28 cs → ∃ t : T, cs = cT t ∧ okT t := by
  induction n using Nat.strongRecOn with
  | ind n ih =>
    intro cs h
    cases n with
    | zero => exact h.elim
    | succ n =>
    simp only [typ, Tryz.underlying28, c_term, c_int, c_terms, List.forall_mem_cons] at h
    obtain ⟨hl, h1, h2, h3, _⟩ := h
    obtain ⟨a, b, c, rfl⟩ := len3 hl
    obtain ⟨i, hi, wi⟩ := typ_int h1
    obtain ⟨j, hj, wj⟩ := typ_int h2
    obtain ⟨m, xs, rfl, hc, hb, hx⟩ := typ_slice Tryz.underlying26 c_term y_term is_term h3
    simp at hi hj hc
    subst hi hj hc
    obtain ⟨ks, rfl, hks⟩ : ∃ l : List T, xs = l.map eT ∧ ∀ a ∈ l, okT a := map_of fun x hxx => by
      obtain ⟨h4, h5⟩ := hx x hxx
      obtain ⟨t, ht, hq⟩ := ih m (by omega) h4
      exact ⟨t, hq, by rw [h5, ht, eT_eq]⟩
    exact ⟨.mk i j ks, rfl, .mk i j ks wi wj (by simpa using hb) hks⟩
theorem typ_terms {n : Nat} {cs : List D} (h : typ Tryz.prog n 26 cs) : ∃ l : List T, cs = [eTs l] ∧ okTs l := by
  obtain ⟨m, xs, rfl, hc, hb, hx⟩ := typ_slice Tryz.underlying26 c_term y_term is_term h
  obtain ⟨ks, rfl, hks⟩ : ∃ l : List T, xs = l.map eT ∧ ∀ a ∈ l, okT a := map_of fun x hxx => by
    obtain ⟨h4, h5⟩ := hx x hxx
    obtain ⟨t, ht, hq⟩ := typ_term m h4
    exact ⟨t, hq, by rw [h5, ht, eT_eq]⟩
  exact ⟨ks, hc, by simpa using hb, hks⟩
/-- An argument of each type. -/
theorem not_agg {x : D} (h : x.isAgg = false) : x.cells = [x] := by
  cases x <;> first | rfl | cases h
theorem arg_int {x : D} (h : TypD Tryz.prog 3 x) : ∃ i, x = .int .i64 i ∧ n64 i := by
  obtain ⟨⟨n, h1⟩, h2⟩ := h
  obtain ⟨i, hi, hw⟩ := typ_int h1
  have h3 : isStructB Tryz.prog 3 = false := by simp only [isStructB, Tryz.underlying3]
  rw [not_agg (h2.trans h3)] at hi
  exact ⟨i, by simpa using hi, hw⟩
theorem arg_term {x : D} (h : TypD Tryz.prog 28 x) : ∃ t : T, x = .agg (cT t) ∧ okT t := by
  obtain ⟨⟨n, h1⟩, h2⟩ := h
  obtain ⟨b, hb, hq⟩ := typ_term n h1
  exact ⟨b, by rw [agg_of (h2.trans is_term), hb], hq⟩
theorem arg_terms {x : D} (h : TypD Tryz.prog 26 x) : ∃ l : List T, x = eTs l ∧ okTs l := by
  obtain ⟨⟨n, h1⟩, h2⟩ := h
  obtain ⟨l, hl, hq⟩ := typ_terms h1
  have h3 : isStructB Tryz.prog 26 = false := by simp only [isStructB, Tryz.underlying26]
  rw [not_agg (h2.trans h3)] at hl
  exact ⟨l, by simpa using hl, hq⟩
end Ev
end Go.Proofs.YtncmainjcffanaaGreat
/- Twins are what they are twins of. -/
namespace Go.Proofs.YtncmainjcffanaaGreat
namespace Ev
open Go
set_option maxRecDepth 100000
set_option linter.unusedSimpArgs false
set_option linter.unusedVariables false
attribute [local simp] allD_map_d sks_map_d

theorem take_next {α : Type} (f : α → D) (g : α → List D) (hg : ∀ a, f a = .agg (g a)) (l : List α) (i : Nat) (h : i < l.length) : (l.map f).take i ++ [.agg (g l[i])] = (l.map f).take (i + 1) := by
  rw [List.take_add_one, List.getElem?_eq_getElem (by simpa using h)]
  simp [hg]
theorem twins_of (l : List T) (hl : l.length * 40 ≤ 140737488351232) (h : ∀ x ∈ l, Pure Tryz.prog n_porismkeep_Twin [.agg (cT x)] [.agg (cT x)]) : Pure Tryz.prog n_porismkeep_Twins [eTs l] [eTs l] := by
  refine p_porismkeep_Twins rfl fun hs => ?_
  simp -dsimp [x_porismkeep_Twins, eTs]
  refine wp_upto l.length (fun i st => st.s 0 = .d (.sl 3 (l.map eT)) ∧ st.s 4 = .d (.int .i64 i) ∧ ∃ v, st.s 3 = .rsl 3 v ∧ st.h 3 = ⟨v, .row 3 ((l.map eT).take i) false⟩) ?_ ?_
  · simp -dsimp
  · rintro i ⟨s, hp⟩ hi ⟨g1, g2, v, g3, g4⟩
    dsimp only at g1 g2 g3 g4
    rcases Nat.lt_or_ge i l.length with hlt | hge
    · have w1 : IntKind.i64.wrap ((i : Int) + 1) = (i : Int) + 1 := wrap_id (by omega) (by omega)
      simp -dsimp [g1, g2, g3, g4, hlt, cT]
      refine call_of (h l[i] (List.getElem_mem _)) ?_
      have hr : (min i l.length + 1) * 40 ≤ maxRoom := by simp only [maxRoom]; omega
      have hn := take_next eT cT eT_eq l i hlt
      simp only [cT] at hn
      simp -dsimp [g1, g2, g3, g4, hlt, cT, hr, hn, w1]
    · have e : i = l.length := by omega
      subst e
      simp -dsimp [g1, g2, g3, g4]
      exact List.take_of_length_le (by simp)
theorem twin_ok (t : T) : okT t → Pure Tryz.prog n_porismkeep_Twin [.agg (cT t)] [.agg (cT t)] := by
  refine T.ind (p := fun t => okT t → Pure Tryz.prog n_porismkeep_Twin [.agg (cT t)] [.agg (cT t)]) ?_ t
  intro k n ks ih h
  obtain ⟨h1, h2⟩ := h.kids
  refine p_porismkeep_Twin rfl fun hs => ?_
  simp -dsimp [x_porismkeep_Twin, cT, T.kind, T.num, T.kids]
  refine call_of (twins_of ks h1 fun x hx => ih x hx (h2 x hx)) ?_
  simp -dsimp [eTs]
theorem twins_ok (l : List T) (h : okTs l) : Pure Tryz.prog n_porismkeep_Twins [eTs l] [eTs l] := twins_of l h.1 fun x hx => twin_ok x (h.2 x hx)
end Ev
end Go.Proofs.YtncmainjcffanaaGreat
/- What is compared with itself is alike. -/
namespace Go.Proofs.YtncmainjcffanaaGreat
namespace Ev
open Go
set_option maxRecDepth 100000
set_option linter.unusedSimpArgs false
set_option linter.unusedVariables false
attribute [local simp] allD_map_d sks_map_d

theorem keepTerms_of (l : List T) (h : ∀ x ∈ l, Pure Tryz.prog n_porismkeep_Term [.agg (cT x), .agg (cT x)] [.bool true]) : Pure Tryz.prog n_porismkeep_Terms [eTs l, eTs l] [.bool true] := by
  refine p_porismkeep_Terms rfl fun hs => ?_
  have hl := hs (eTs l) (by simp)
  simp [eTs, small] at hl
  replace hl := hl.1
  simp -dsimp [x_porismkeep_Terms, eTs]
  refine wp_upto l.length (fun i st => st.s 0 = .d (.sl 3 (l.map eT)) ∧ st.s 1 = .d (.sl 3 (l.map eT)) ∧ st.s 5 = .d (.int .i64 i)) ?_ ?_
  · simp -dsimp
  · rintro i ⟨s, hp⟩ hi ⟨g1, g2, g3⟩
    dsimp only at g1 g2 g3
    rcases Nat.lt_or_ge i l.length with hlt | hge
    · have w1 : IntKind.i64.wrap ((i : Int) + 1) = (i : Int) + 1 := wrap_id (by omega) (by omega)
      simp -dsimp [g1, g2, g3, hlt, cT, eAr, cAr, eTs]
      refine call_of (h l[i] (List.getElem_mem _)) ?_
      simp -dsimp [g1, g2, g3, hlt, w1]
    · have e : i = l.length := by omega
      subst e
      simp -dsimp [g1, g2, g3]
theorem keepTerm_ok (t : T) : Pure Tryz.prog n_porismkeep_Term [.agg (cT t), .agg (cT t)] [.bool true] := by
  refine T.ind (p := fun t => Pure Tryz.prog n_porismkeep_Term [.agg (cT t), .agg (cT t)] [.bool true]) ?_ t
  intro k n ks ih
  refine p_porismkeep_Term rfl fun hs => ?_
  simp -dsimp [x_porismkeep_Term, cT, T.kind, T.num, T.kids]
  refine call_of (keepTerms_of ks ih) ?_
  simp -dsimp
theorem keepTerms_ok (l : List T) : Pure Tryz.prog n_porismkeep_Terms [eTs l, eTs l] [.bool true] := keepTerms_of l fun x _ => keepTerm_ok x
end Ev
end Go.Proofs.YtncmainjcffanaaGreat
/- The document's answers: right terms, scopes. -/
namespace Go.Proofs.YtncmainjcffanaaGreat
namespace Ev
open Go
set_option maxRecDepth 100000
set_option linter.unusedSimpArgs false
set_option linter.unusedVariables false
attribute [local simp] allD_map_d sks_map_d

def inB (n lo hi : Int) : Bool := decide (lo ≤ n) && decide (n ≤ hi)
theorem inB_iff (n lo hi : Int) : inB n lo hi = true ↔ lo ≤ n ∧ n ≤ hi := by simp [inB]
theorem inB_not (n lo hi : Int) : inB n lo hi = false ↔ ¬(lo ≤ n ∧ n ≤ hi) := by rw [← inB_iff]; simp
theorem rin_ok (n lo hi : Int) : Pure Tryz.prog n_porismref01_in [.int .i64 n, .int .i64 lo, .int .i64 hi] [.bool (inB n lo hi)] := by
  refine p_porismref01_in rfl fun hs => ?_
  simp -dsimp [x_porismref01_in, inB]
  (first | refine Ask_b ?_ ?_ | refine Cnd_b ?_ ?_) <;> intro h1 <;> (try simp only [nrm] at h1) <;> simp -dsimp [h1]
theorem rkids_ok (k : Int) : Pure Tryz.prog n_porismref01_Kids [.int .i64 k] [.int .i64 (kidsM k)] := by
  refine p_porismref01_Kids rfl fun hs => ?_
  have e : kidsM k = if k = 1 then 0 else if k = 2 then 0 else if k = 3 then 0 else if k = 9 then 1 else if k = 10 then 1 else if k = 4 then 2 else if k = 5 then 2 else if k = 6 then 2 else if k = 7 then 2 else if k = 12 then 2 else if k = 8 then 3 else if k = 11 then 3 else if k = 13 then 3 else -1 := by
    simp only [kidsM, isM, Bool.and_eq_true, decide_eq_true_eq]
    repeat' split
    all_goals omega
  rw [e]
  simp -dsimp [x_porismref01_Kids]
  (first | refine Ask_b ?_ ?_ | refine Cnd_b ?_ ?_) <;> intro h1 <;> (try simp only [nrm] at h1) <;> simp -dsimp [h1]
  (first | refine Ask_b ?_ ?_ | refine Cnd_b ?_ ?_) <;> intro h2 <;> (try simp only [nrm] at h2) <;> simp -dsimp [h2, h1]
  (first | refine Ask_b ?_ ?_ | refine Cnd_b ?_ ?_) <;> intro h3 <;> (try simp only [nrm] at h3) <;> simp -dsimp [h3, h1, h2]
  (first | refine Ask_b ?_ ?_ | refine Cnd_b ?_ ?_) <;> intro h4 <;> (try simp only [nrm] at h4) <;> simp -dsimp [h4, h1, h2, h3]
  (first | refine Ask_b ?_ ?_ | refine Cnd_b ?_ ?_) <;> intro h5 <;> (try simp only [nrm] at h5) <;> simp -dsimp [h5, h1, h2, h3, h4]
  (first | refine Ask_b ?_ ?_ | refine Cnd_b ?_ ?_) <;> intro h6 <;> (try simp only [nrm] at h6) <;> simp -dsimp [h6, h1, h2, h3, h4, h5]
  (first | refine Ask_b ?_ ?_ | refine Cnd_b ?_ ?_) <;> intro h7 <;> (try simp only [nrm] at h7) <;> simp -dsimp [h7, h1, h2, h3, h4, h5, h6]
  (first | refine Ask_b ?_ ?_ | refine Cnd_b ?_ ?_) <;> intro h8 <;> (try simp only [nrm] at h8) <;> simp -dsimp [h8, h1, h2, h3, h4, h5, h6, h7]
  (first | refine Ask_b ?_ ?_ | refine Cnd_b ?_ ?_) <;> intro h9 <;> (try simp only [nrm] at h9) <;> simp -dsimp [h9, h1, h2, h3, h4, h5, h6, h7, h8]
  (first | refine Ask_b ?_ ?_ | refine Cnd_b ?_ ?_) <;> intro h10 <;> (try simp only [nrm] at h10) <;> simp -dsimp [h10, h1, h2, h3, h4, h5, h6, h7, h8, h9]
  (first | refine Ask_b ?_ ?_ | refine Cnd_b ?_ ?_) <;> intro h11 <;> (try simp only [nrm] at h11) <;> simp -dsimp [h11, h1, h2, h3, h4, h5, h6, h7, h8, h9, h10]
  (first | refine Ask_b ?_ ?_ | refine Cnd_b ?_ ?_) <;> intro h12 <;> (try simp only [nrm] at h12) <;> simp -dsimp [h12, h1, h2, h3, h4, h5, h6, h7, h8, h9, h10, h11]
  (first | refine Ask_b ?_ ?_ | refine Cnd_b ?_ ?_) <;> intro h13 <;> (try simp only [nrm] at h13) <;> simp -dsimp [h13, h1, h2, h3, h4, h5, h6, h7, h8, h9, h10, h11, h12]
theorem rbinds_ok (k i : Int) : Pure Tryz.prog n_porismref01_Binds [.int .i64 k, .int .i64 i] [.int .i64 (bindsM k i)] := by
  refine p_porismref01_Binds rfl fun hs => ?_
  simp -dsimp [x_porismref01_Binds]
  (first | refine Ask_b ?_ ?_ | refine Cnd_b ?_ ?_) <;> intro h1 <;> (try simp only [nrm] at h1) <;> simp -dsimp [h1, bindsM]
  (first | refine Ask_b ?_ ?_ | refine Cnd_b ?_ ?_) <;> intro g1 <;> (try simp only [nrm] at g1) <;> simp -dsimp [g1, bindsM, h1]
  (first | refine Ask_b ?_ ?_ | refine Cnd_b ?_ ?_) <;> intro g2 <;> (try simp only [nrm] at g2) <;> simp -dsimp [g2, bindsM, h1, g1]
  (first | refine Ask_b ?_ ?_ | refine Cnd_b ?_ ?_) <;> intro g3 <;> (try simp only [nrm] at g3) <;> simp -dsimp [g3, bindsM, h1, g1, g2]
theorem formedM_is (k n : Int) (ks : List T) : formedM (.mk k n ks) = if (ks.length : Int) = kidsM k then if kidsM k = 0 then inB n 0 65535 && ks.all formedM else if n = 0 then ks.all formedM else false else false := by
  rw [formedM]
  have ha : (ks.map formedM).all id = ks.all formedM := by rw [List.all_map]; rfl
  rw [ha]
  by_cases h1 : (ks.length : Int) = kidsM k
  · rw [if_neg (by omega), if_pos h1, if_pos h1]
    by_cases h0 : kidsM k = 0
    · rw [if_pos h0]
      by_cases h2 : n < 0
      · rw [if_pos h2, (inB_not n 0 65535).2 (by omega)]; rfl
      · rw [if_neg h2]
        by_cases h3 : 65535 < n
        · rw [if_pos h3, (inB_not n 0 65535).2 (by omega)]; rfl
        · rw [if_neg h3, if_neg (by omega), (inB_iff n 0 65535).2 (by omega)]; rfl
    · rw [if_neg h0]
      by_cases h2 : n = 0
      · rw [if_neg (by omega), if_neg (by omega), if_neg (by omega), if_pos h2]
      · rw [if_neg h2]
        by_cases h3 : n < 0
        · rw [if_pos h3]
        · rw [if_neg h3]
          by_cases h4 : 65535 < n
          · rw [if_pos h4]
          · rw [if_neg h4, if_pos ⟨by omega, h2⟩]
  · rw [if_neg h1, if_neg h1]
    split <;> rfl
theorem all_next {α : Type} {p : α → Bool} {l : List α} (h : ∀ (j : Nat) (hj : j < l.length), j < l.length → p l[j] = true) : l.all p = true := by
  rw [List.all_eq_true]
  intro x hx
  obtain ⟨j, hj, rfl⟩ := List.mem_iff_getElem.1 hx
  exact h j hj hj
theorem all_not {α : Type} {p : α → Bool} {l : List α} {i : Nat} (hi : i < l.length) (h : p l[i] = false) : l.all p = false := by
  cases hq : l.all p with
  | false => rfl
  | true =>
    have := List.all_eq_true.1 hq l[i] (List.getElem_mem _)
    rw [h] at this
    cases this
theorem upto_next {α : Type} {p : α → Bool} {l : List α} {i : Nat} (hi : i < l.length) (h : ∀ (j : Nat) (hj : j < l.length), j < i → p l[j] = true) (hx : p l[i] = true) :
    ∀ (j : Nat) (hj : j < l.length), j < i + 1 → p l[j] = true := by
  intro j hj hji
  rcases Nat.lt_or_ge j i with h' | h'
  · exact h j hj h'
  · have : j = i := by omega
    subst this
    exact hx
theorem rformed_ok (t : T) : Pure Tryz.prog n_porismref01_formed [.agg (cT t)] [.bool (formedM t)] := by
  refine T.ind (p := fun t => Pure Tryz.prog n_porismref01_formed [.agg (cT t)] [.bool (formedM t)]) ?_ t
  intro k n ks ih
  refine p_porismref01_formed rfl fun hs => ?_
  have hl := kids_small hs
  simp [T.kids] at hl
  simp -dsimp [x_porismref01_formed, cT, T.kind, T.num, T.kids]
  refine call_of (rkids_ok k) ?_
  simp -dsimp
  (first | refine Ask_b ?_ ?_ | refine Cnd_b ?_ ?_) <;> intro h1 <;> (try simp only [nrm] at h1) <;> simp -dsimp [h1, formedM_is]
  (first | refine Ask_b ?_ ?_ | refine Cnd_b ?_ ?_) <;> intro h2 <;> (try simp only [nrm] at h2) <;> simp -dsimp [h2, formedM_is, h1]
  · refine call_of (rin_ok n 0 65535) ?_
    simp -dsimp [h1, h2]
    (first | refine Ask_b ?_ ?_ | refine Cnd_b ?_ ?_) <;> intro h3 <;> (try simp only [nrm] at h3) <;> simp -dsimp [h3, formedM_is, h1, h2]
    have hR : formedM (.mk k n ks) = ks.all formedM := by rw [formedM_is, if_pos h1, if_pos h2, h3]; rfl
    rw [hR]
    refine wp_upto ks.length (fun i st => st.s 1 = .ptr 1 1 0 ∧ st.h 1 = ⟨1, .box [.d (.int .i64 k), .d (.int .i64 n), .d (.sl 3 (ks.map eT))] false⟩ ∧ st.s 3 = .d (.int .i64 i) ∧ ∀ (j : Nat) (hj : j < ks.length), j < i → formedM ks[j] = true) ?_ ?_
    · simp -dsimp
    · rintro i ⟨s, hp⟩ hi ⟨g1, g2, g3, g4⟩
      dsimp only at g1 g2 g3
      rcases Nat.lt_or_ge i ks.length with hlt | hge
      · have w1 : IntKind.i64.wrap ((i : Int) + 1) = (i : Int) + 1 := wrap_id (by omega) (by omega)
        simp -dsimp [g1, g2, g3, hlt, cT]
        refine call_of (ih ks[i] (List.getElem_mem _)) ?_
        simp -dsimp [g1, g2, g3, hlt]
        (first | refine Ask_b ?_ ?_ | refine Cnd_b ?_ ?_) <;> intro h6 <;> (try simp only [nrm] at h6) <;> simp -dsimp [h6, g1, g2, g3, hlt, w1]
        · have := all_not (p := formedM) hlt h6
          simpa using this
        · exact upto_next hlt g4 h6
      · have e : i = ks.length := by omega
        subst e
        have hA := all_next (p := formedM) g4
        simp -dsimp [g1, g2, g3, hA]
  · (first | refine Ask_b ?_ ?_ | refine Cnd_b ?_ ?_) <;> intro h3 <;> (try simp only [nrm] at h3) <;> simp -dsimp [h3, formedM_is, h1, h2]
    · (first | refine Ask_b ?_ ?_ | refine Cnd_b ?_ ?_) <;> intro h4 <;> (try simp only [nrm] at h4) <;> simp -dsimp [h4, formedM_is, h1, h2, h3]
      subst h4
      have hR : formedM (.mk k 0 ks) = ks.all formedM := by rw [formedM_is, if_pos h1, if_neg h2, if_pos rfl]
      rw [hR]
      refine wp_upto ks.length (fun i st => st.s 1 = .ptr 1 1 0 ∧ st.h 1 = ⟨1, .box [.d (.int .i64 k), .d (.int .i64 0), .d (.sl 3 (ks.map eT))] false⟩ ∧ st.s 3 = .d (.int .i64 i) ∧ ∀ (j : Nat) (hj : j < ks.length), j < i → formedM ks[j] = true) ?_ ?_
      · simp -dsimp
      · rintro i ⟨s, hp⟩ hi ⟨g1, g2, g3, g4⟩
        dsimp only at g1 g2 g3
        rcases Nat.lt_or_ge i ks.length with hlt | hge
        · have w1 : IntKind.i64.wrap ((i : Int) + 1) = (i : Int) + 1 := wrap_id (by omega) (by omega)
          simp -dsimp [g1, g2, g3, hlt, cT]
          refine call_of (ih ks[i] (List.getElem_mem _)) ?_
          simp -dsimp [g1, g2, g3, hlt]
          (first | refine Ask_b ?_ ?_ | refine Cnd_b ?_ ?_) <;> intro h6 <;> (try simp only [nrm] at h6) <;> simp -dsimp [h6, g1, g2, g3, hlt, w1]
          · have := all_not (p := formedM) hlt h6
            simpa using this
          · exact upto_next hlt g4 h6
        · have e : i = ks.length := by omega
          subst e
          have hA := all_next (p := formedM) g4
          simp -dsimp [g1, g2, g3, hA]
    · omega
theorem rcheck_ok (t : T) : Pure Tryz.prog n_porismref01_Check [.agg (cT t)] [.int .i64 (checkM t)] := by
  refine p_porismref01_Check rfl fun hs => ?_
  simp -dsimp [x_porismref01_Check, cT]
  refine call_of (size_ok t) ?_
  simp -dsimp
  (first | refine Ask_b ?_ ?_ | refine Cnd_b ?_ ?_) <;> intro h1 <;> (try simp only [nrm] at h1) <;> simp -dsimp [h1, checkM]
  refine call_of (depth_ok t) ?_
  simp -dsimp
  (first | refine Ask_b ?_ ?_ | refine Cnd_b ?_ ?_) <;> intro h2 <;> (try simp only [nrm] at h2) <;> simp -dsimp [h2, checkM, h1]
  refine call_of (rformed_ok t) ?_
  simp -dsimp
  (first | refine Ask_b ?_ ?_ | refine Cnd_b ?_ ?_) <;> intro h3 <;> (try simp only [nrm] at h3) <;> simp -dsimp [h3, checkM, h1, h2]
end Ev
end Go.Proofs.YtncmainjcffanaaGreat
/- Terms: small things. -/
namespace Go.Proofs.YtncmainjcffanaaGreat
namespace Ev
open Go
set_option linter.unusedSimpArgs false
theorem tk (k n : Int) (ks : List T) : (T.mk k n ks).kind = k := rfl
theorem tn (k n : Int) (ks : List T) : (T.mk k n ks).num = n := rfl
theorem tks (k n : Int) (ks : List T) : (T.mk k n ks).kids = ks := rfl
theorem fill_next {l : List D} {z : D} {i : Nat} (h : i < l.length) : (l.take i ++ List.replicate (l.length - i) z).set i l[i] = l.take (i + 1) ++ List.replicate (l.length - (i + 1)) z := by
  have e : l.length - i = (l.length - (i + 1)) + 1 := by omega
  rw [e, List.replicate_succ, List.set_append_right _ _ (by simp; omega)]
  have e2 : i - (l.take i).length = 0 := by simp; omega
  have e3 : l.take (i + 1) = l.take i ++ [l[i]] := by rw [List.take_add_one, List.getElem?_eq_getElem h]; rfl
  rw [e2, List.set_cons_zero, e3, List.append_assoc]
  rfl
end Ev
end Go.Proofs.YtncmainjcffanaaGreat
/- Terms, in plain numbers: nodes, depths, right terms, scopes. -/
namespace Go.Proofs.YtncmainjcffanaaGreat
namespace Ev
open Go
set_option maxRecDepth 100000
set_option linter.unusedSimpArgs false
set_option linter.unusedVariables false
attribute [local simp] tk tn tks
def nodes : T → Nat | .mk _ _ ks => (ks.map nodes).sum + 1
theorem sum_mem {l : List Nat} {x : Nat} (h : x ∈ l) : x ≤ l.sum := by
  induction l with
  | nil => cases h
  | cons y l ih =>
    rw [List.sum_cons]
    rcases List.mem_cons.1 h with rfl | h
    · omega
    · have := ih h; omega
theorem nodes_kid {k n : Int} {ks : List T} {x : T} (h : x ∈ ks) : nodes x + 1 ≤ nodes (.mk k n ks) := by
  rw [nodes]
  have := sum_mem (List.mem_map.2 ⟨x, h, rfl⟩ : nodes x ∈ ks.map nodes)
  omega
theorem binds_le (k i : Int) : 0 ≤ bindsM k i ∧ bindsM k i ≤ 1 := by
  rw [bindsM]
  split <;> omega
/-- No node has too many kids. -/
inductive Slim : T → Prop
  | mk (k n : Int) (ks : List T) (hl : ks.length ≤ 1000) (h : ∀ x ∈ ks, Slim x) : Slim (.mk k n ks)
theorem Slim.kids {k n : Int} {ks : List T} (h : Slim (.mk k n ks)) : ks.length ≤ 1000 ∧ ∀ x ∈ ks, Slim x := by
  cases h with
  | mk _ _ _ h1 h2 => exact ⟨h1, h2⟩
theorem kidsM_le (k : Int) : kidsM k ≤ 3 := by
  rw [kidsM]
  repeat' split
  all_goals omega
theorem var_formed {k n : Int} {ks : List T} (h1 : k = 1) (hfm : formedM (.mk k n ks) = true) : 0 ≤ n ∧ n ≤ 65535 := by
  rw [formedM_is, h1] at hfm
  have h0 : kidsM 1 = 0 := rfl
  rw [h0] at hfm
  split at hfm
  · simp only [if_true, Bool.and_eq_true] at hfm
    exact (inB_iff _ _ _).1 hfm.1
  · cases hfm
theorem kids_formed {k n : Int} {ks : List T} (hfm : formedM (.mk k n ks) = true) : ∀ x ∈ ks, formedM x = true := by
  rw [formedM_is] at hfm
  refine List.all_eq_true.1 ?_
  split at hfm
  · split at hfm
    · rw [Bool.and_eq_true] at hfm; exact hfm.2
    · split at hfm
      · exact hfm
      · cases hfm
  · cases hfm
theorem slim_of (t : T) : formedM t = true → Slim t := by
  refine T.ind (p := fun t => formedM t = true → Slim t) ?_ t
  intro k n ks ih h
  rw [formedM_is] at h
  have hk := kidsM_le k
  by_cases h1 : (ks.length : Int) = kidsM k
  · rw [if_pos h1] at h
    have ha : ks.all formedM = true := by
      by_cases h2 : kidsM k = 0
      · rw [if_pos h2, Bool.and_eq_true] at h; exact h.2
      · rw [if_neg h2] at h
        by_cases h3 : n = 0
        · rw [if_pos h3] at h; exact h
        · rw [if_neg h3] at h; cases h
    exact .mk k n ks (by omega) fun x hx => ih x hx (List.all_eq_true.1 ha x hx)
  · rw [if_neg h1] at h; cases h
theorem formed_of {t : T} (h : checkM t = 0) : formedM t = true := by
  rw [checkM] at h
  split at h
  · simp at h
  · split at h
    · simp at h
    · split at h
      · assumption
      · simp at h
theorem w64_id {n : Int} (h1 : -9223372036854775808 ≤ n) (h2 : n < 9223372036854775808) : w64 n = n := wrap_id h1 (by omega)
def dmax (l : List Nat) : Nat := l.foldr max 0
def depthN : T → Nat | .mk _ _ ks => dmax (ks.map depthN) + 1
theorem mx_eq (a b : Int) : mx a b = max a b := by rw [mx]; split <;> omega
theorem foldl_sum : ∀ (l : List T) (a : Int), 0 ≤ a → a + (l.map nodes).sum ≤ 1099511627776 → (∀ x ∈ l, sizeM x = nodes x) → (l.map sizeM).foldl (fun a s => w64 (a + s)) a = a + (l.map nodes).sum
  | [], a, _, _, _ => by simp
  | x :: xs, a, h0, hb, h => by
    have hx := h x (by simp)
    simp only [List.map_cons, List.foldl_cons, List.sum_cons] at hb ⊢
    rw [hx, w64_id (by omega) (by omega), foldl_sum xs (a + nodes x) (by omega) (by omega) fun y hy => h y (by simp [hy])]
    omega
theorem size_is (t : T) : nodes t ≤ 1099511627776 → sizeM t = nodes t := by
  refine T.ind (p := fun t => nodes t ≤ 1099511627776 → sizeM t = nodes t) ?_ t
  intro k n ks ih hb
  have hk : ∀ x ∈ ks, sizeM x = nodes x := fun x hx => ih x hx (by have := nodes_kid (k := k) (n := n) hx; omega)
  rw [nodes] at hb
  rw [sizeM, foldl_sum ks 1 (by omega) (by omega) hk, nodes]
  omega
theorem dmax_mem {l : List Nat} {x : Nat} (h : x ∈ l) : x ≤ dmax l := by
  induction l with
  | nil => cases h
  | cons y l ih =>
    simp only [dmax, List.foldr_cons] at ih ⊢
    rcases List.mem_cons.1 h with rfl | h
    · omega
    · have := ih h; omega
theorem dmax_le {l : List Nat} {m : Nat} (h : ∀ x ∈ l, x ≤ m) : dmax l ≤ m := by
  induction l with
  | nil => simp [dmax]
  | cons y l ih =>
    have h1 := h y (by simp)
    have h2 := ih fun x hx => h x (by simp [hx])
    simp only [dmax, List.foldr_cons] at h2 ⊢
    omega
theorem depth_le (t : T) : depthN t ≤ nodes t := by
  refine T.ind (p := fun t => depthN t ≤ nodes t) ?_ t
  intro k n ks ih
  rw [depthN, nodes]
  have : dmax (ks.map depthN) ≤ (ks.map nodes).sum := dmax_le fun x hx => by
    obtain ⟨y, hy, rfl⟩ := List.mem_map.1 hx
    have := sum_mem (List.mem_map.2 ⟨y, hy, rfl⟩ : nodes y ∈ ks.map nodes)
    have := ih y hy
    omega
  omega
theorem foldl_dmax : ∀ (l : List T) (a : Int), 0 ≤ a → (∀ x ∈ l, depthM x = depthN x) → (l.map depthM).foldl mx a = max a (dmax (l.map depthN))
  | [], a, h0, _ => by simp [dmax]; omega
  | x :: xs, a, h0, h => by
    have hx := h x (by simp)
    simp only [List.map_cons, List.foldl_cons, dmax, List.foldr_cons]
    rw [hx, mx_eq, foldl_dmax xs _ (by omega) fun y hy => h y (by simp [hy])]
    simp only [dmax]
    omega
theorem depth_is (t : T) : nodes t ≤ 1099511627776 → depthM t = depthN t := by
  refine T.ind (p := fun t => nodes t ≤ 1099511627776 → depthM t = depthN t) ?_ t
  intro k n ks ih hb
  have hk : ∀ x ∈ ks, depthM x = depthN x := fun x hx => ih x hx (by have := nodes_kid (k := k) (n := n) hx; omega)
  have hd := depth_le (.mk k n ks)
  rw [depthN] at hd
  rw [depthM, foldl_dmax ks 0 (by omega) hk, depthN, w64_id (by omega) (by omega)]
  omega
theorem leaf_nodes (k n : Int) : nodes (.mk k n []) = 1 := by rw [nodes]; rfl
theorem leaf_depth (k n : Int) : depthN (.mk k n []) = 1 := by rw [depthN]; rfl
theorem var_leaf {k n : Int} {ks : List T} (h1 : k = 1) (hfm : formedM (.mk k n ks) = true) : ks = [] := by
  rw [formedM_is, h1] at hfm
  have h0 : kidsM 1 = 0 := rfl
  rw [h0] at hfm
  split at hfm
  · exact List.length_eq_zero_iff.1 (by omega)
  · cases hfm
theorem check_iff {t : T} (h : nodes t ≤ 1048576) : checkM t = 0 ↔ nodes t ≤ 6000 ∧ depthN t ≤ 200 ∧ formedM t = true := by
  rw [checkM, size_is _ (by omega), depth_is _ (by omega)]
  by_cases h1 : (6000 : Int) < nodes t
  · rw [if_pos h1]
    constructor
    · intro h; cases h
    · omega
  · rw [if_neg h1]
    by_cases h2 : (200 : Int) < depthN t
    · rw [if_pos h2]
      constructor
      · intro h; cases h
      · omega
    · rw [if_neg h2]
      cases formedM t
      · simp
      · simp; omega
theorem nodes2 (k n : Int) (a b : T) : nodes (.mk k n [a, b]) = nodes a + nodes b + 1 := by rw [nodes]; simp
/-- The bound, on terms. -/
theorem nodes_bulk (t : T) : nodes t ≤ bulk (eT t) := by
  refine T.ind (p := fun t => nodes t ≤ bulk (eT t)) ?_ t
  intro k n ks ih
  rw [nodes, eT_eq]
  simp only [cT, tks, bulk, List.map_cons, List.map_nil, List.sum_cons, List.sum_nil, List.map_map]
  have : ∀ l : List T, (∀ x ∈ l, nodes x ≤ bulk (eT x)) → (l.map nodes).sum ≤ (l.map (bulk ∘ eT)).sum := by
    intro l
    induction l with
    | nil => intro _; simp
    | cons x xs ihx =>
      intro h
      have h1 := h x (by simp)
      have h2 := ihx fun y hy => h y (by simp [hy])
      simp only [List.map_cons, List.sum_cons, Function.comp] at h2 ⊢
      omega
  have := this ks ih
  omega
theorem term_bulk (t : T) : nodes t ≤ bulk (.agg (cT t)) := by rw [← eT_eq]; exact nodes_bulk t
theorem terms_bulk (l : List T) : (∀ x ∈ l, nodes x ≤ bulk (eTs l)) ∧ l.length ≤ bulk (eTs l) := by
  simp only [eTs, bulk, List.map_map]
  have h1 : ∀ x ∈ l, nodes x ≤ (l.map (bulk ∘ eT)).sum := fun x hx => by
    have := sum_mem (List.mem_map.2 ⟨x, hx, rfl⟩ : (bulk ∘ eT) x ∈ l.map (bulk ∘ eT))
    have h2 := nodes_bulk x
    simp only [Function.comp] at this
    omega
  have h2 : l.length ≤ (l.map (bulk ∘ eT)).sum := by
    clear h1
    induction l with
    | nil => simp
    | cons x xs ih =>
      have h3 := nodes_bulk x
      have h4 : 1 ≤ nodes x := by cases x; rw [nodes]; omega
      simp only [List.length_cons, List.map_cons, List.sum_cons, Function.comp] at ih ⊢
      omega
  exact ⟨fun x hx => by have := h1 x hx; omega, by omega⟩
mutual
def wiT : T → Int → Int → Bool
  | .mk k n ks, v, c => if k = 1 then decide (n < v) else if k = 2 then decide (n ≤ 6) else if k = 3 then decide (n < c) else wiL k v c 0 ks
def wiL (k v c : Int) : Nat → List T → Bool
  | _, [] => true
  | i, x :: xs => wiT x (v + bindsM k i) c && wiL k v c (i + 1) xs
end
theorem within_is (c : Int) (t : T) : ∀ v : Int, 0 ≤ v → v + nodes t ≤ 4194304 → withinM t v c = wiT t v c := by
  refine T.ind (p := fun t => ∀ v : Int, 0 ≤ v → v + nodes t ≤ 4194304 → withinM t v c = wiT t v c) ?_ t
  intro k n ks ih v h0 hb
  rw [withinM, wiT]
  split
  · rfl
  split
  · rfl
  split
  · rfl
  have go : ∀ (l : List T) (i : Nat), (∀ x ∈ l, x ∈ ks) → withinL k v c i l = wiL k v c i l := by
    intro l
    induction l with
    | nil => intro i _; rw [withinL, wiL]
    | cons x xs ihx =>
      intro i hm
      have hx := hm x (by simp)
      have hxn := nodes_kid (k := k) (n := n) hx
      have hbl := binds_le k i
      rw [withinL, wiL, w64_id (by omega) (by omega), ih x hx _ (by omega) (by omega), ihx (i + 1) fun y hy => hm y (by simp [hy])]
  exact go ks 0 fun x hx => hx
/-- Kid by Kid. -/
theorem wiL_at (k v c : Int) : ∀ (l : List T) (i : Nat), wiL k v c i l = true ↔ ∀ (j : Nat) (hj : j < l.length), wiT l[j] (v + bindsM k (i + j : Nat)) c = true
  | [], i => by simp [wiL]
  | x :: xs, i => by
    rw [wiL, Bool.and_eq_true, wiL_at k v c xs (i + 1)]
    constructor
    · rintro ⟨h1, h2⟩ j hj
      cases j with
      | zero => simpa using h1
      | succ j =>
        have := h2 j (by simpa using hj)
        rw [show i + 1 + j = i + (j + 1) by omega] at this
        simpa using this
    · intro h
      refine ⟨h 0 (Nat.succ_pos _), fun j hj => ?_⟩
      have := h (j + 1) (by simpa using hj)
      rw [show i + (j + 1) = i + 1 + j by omega] at this
      simpa using this
theorem scope_is {t : T} {v : Int} (h0 : 0 ≤ v) (h1 : v ≤ 65536) (hn : nodes t ≤ 1048576) : scopeM t v 65536 = true ↔ checkM t = 0 ∧ wiT t v 65536 = true := by
  rw [scopeM, if_neg (by omega), if_neg (by omega), if_neg (show ¬65536 < v by omega), within_is 65536 t v h0 (by omega)]
  by_cases h : checkM t = 0
  · rw [if_pos h]; simp [h]
  · rw [if_neg h]; simp [h]
end Ev
end Go.Proofs.YtncmainjcffanaaGreat
/- slices.Reverse on a row of one's own. -/
namespace Go.Proofs.YtncmainjcffanaaGreat
namespace Ev
open Go
set_option maxRecDepth 100000
set_option linter.unusedSimpArgs false
set_option linter.unusedVariables false
attribute [local simp] allD_map_d sks_map_d initA EndsM

/-- After so many swaps. -/
def swp (xs : List T) : Nat → List T
  | 0 => xs
  | i + 1 => match (swp xs i)[i]?, (swp xs i)[xs.length - 1 - i]? with
    | some a, some b => ((swp xs i).set i b).set (xs.length - 1 - i) a
    | _, _ => swp xs i
theorem swp_len (xs : List T) : ∀ i, (swp xs i).length = xs.length
  | 0 => rfl
  | i + 1 => by
    rw [swp]
    split
    · rw [List.length_set, List.length_set, swp_len xs i]
    · exact swp_len xs i
theorem swp_get (xs : List T) : ∀ (i : Nat), 2 * i ≤ xs.length → ∀ (q : Nat) (hq : q < xs.length), (swp xs i)[q]? = if q < i ∨ xs.length - i ≤ q then xs[xs.length - 1 - q]? else xs[q]?
  | 0, _, q, hq => by
    rw [swp, if_neg (by omega)]
  | i + 1, h2, q, hq => by
    have ih := swp_get xs i (by omega)
    have h3 : i < (swp xs i).length := by rw [swp_len]; omega
    have h4 : xs.length - 1 - i < (swp xs i).length := by rw [swp_len]; omega
    have g1 : (swp xs i)[i]? = some (xs[i]'(by omega)) := by rw [ih i (by omega), if_neg (by omega), List.getElem?_eq_getElem (by omega)]
    have g2 : (swp xs i)[xs.length - 1 - i]? = some (xs[xs.length - 1 - i]'(by omega)) := by rw [ih (xs.length - 1 - i) (by omega), if_neg (by omega), List.getElem?_eq_getElem (by omega)]
    rw [swp, g1, g2]
    simp only
    rw [List.getElem?_set]
    by_cases c1 : xs.length - 1 - i = q
    · rw [if_pos c1, if_pos (by rw [List.length_set]; exact h4), if_pos (by omega), List.getElem?_eq_getElem (by omega)]
      congr 2
      omega
    · rw [if_neg c1, List.getElem?_set]
      by_cases c2 : i = q
      · subst c2
        rw [if_pos rfl, if_pos h3, if_pos (by omega), List.getElem?_eq_getElem (by omega)]
      · rw [if_neg c2, ih q hq]
        by_cases c3 : q < i ∨ xs.length - i ≤ q
        · rw [if_pos c3, if_pos (by omega)]
        · rw [if_neg c3, if_neg (by omega)]
theorem swp_rev (xs : List T) : swp xs (xs.length / 2) = xs.reverse := by
  apply List.ext_getElem?
  intro q
  rcases Nat.lt_or_ge q xs.length with hq | hq
  · rw [swp_get xs _ (by omega) q hq, List.getElem?_reverse hq]
    split
    · rfl
    · have : q = xs.length - 1 - q := by omega
      rw [← this]
  · rw [List.getElem?_eq_none (by rw [swp_len]; exact hq), List.getElem?_eq_none (by rw [List.length_reverse]; exact hq)]
def revH (k v : Nat) (xs : List T) : Nat → Ent := fun q => if q = k then ⟨v, .row 3 (xs.map eT) false⟩ else ⟨0, .dead⟩
theorem reverse_mut (k v : Nat) (xs : List T) (hl : xs.length ≤ 1000000000) : MutC Tryz.prog n_slices_Reverse_Term [.rsl k v] [k] (revH k v xs) [] (revH k v xs.reverse) := by
  refine mut_of hm Tryz.func208 c_slices_Reverse_Term rfl ?_ fun G h w vs hk hlen hr => ?_
  · intro q hq
    simp only [revH]
    split <;> trivial
  have e1 : h k = ⟨v, .row 3 (xs.map eT) false⟩ := by rw [hk k (by simp)]; simp [revH]
  have w0 : IntKind.i64.wrap ((xs.length : Int) - 1) = (xs.length : Int) - 1 := wrap_id (by omega) (by omega)
  simp -dsimp [x_slices_Reverse_Term, e1, w0]
  refine wp_upto (xs.length / 2) (fun i st => st.s 0 = .rsl k v ∧ st.h k = ⟨v, .row 3 ((swp xs i).map eT) false⟩ ∧ st.s 2 = .d (.int .i64 i) ∧ st.s 3 = .d (.int .i64 ((xs.length : Int) - 1 - i))) ?_ ?_
  · simp -dsimp [e1, swp]
  · rintro i ⟨s, hp⟩ hi ⟨g1, g2, g3, g4⟩
    dsimp only at g1 g2 g3 g4
    rcases Nat.lt_or_ge i (xs.length / 2) with hlt | hge
    · obtain ⟨m, hm⟩ : ∃ m : Nat, xs.length = m + 1 + i := ⟨xs.length - 1 - i, by omega⟩
      have hmi : (xs.length : Int) - 1 - i = (m : Int) := by omega
      have hmn : xs.length - 1 - i = m := by omega
      rw [hmi] at g4
      have him : i < m := by omega
      have w1 : IntKind.i64.wrap ((i : Int) + 1) = (i : Int) + 1 := wrap_id (by omega) (by omega)
      have w2 : IntKind.i64.wrap ((m : Int) - 1) = (xs.length : Int) - 1 - ((i : Int) + 1) := by rw [wrap_id (by omega) (by omega)]; omega
      have hsl := swp_len xs i
      have hi1 : i < (swp xs i).length := by omega
      have hm1 : m < (swp xs i).length := by omega
      have hnx : swp xs (i + 1) = ((swp xs i).set i (swp xs i)[m]).set m (swp xs i)[i] := by
        rw [swp, hmn, List.getElem?_eq_getElem hi1, List.getElem?_eq_getElem hm1]
      rw [hnx]
      generalize swp xs i = Y at g2 hsl hi1 hm1
      simp -dsimp [g1, g2, g3, g4, hi1, hm1, him, w1, w2, eT_eq, cT]
      exact hlt
    · have e : i = xs.length / 2 := by omega
      rw [e, swp_rev] at g2
      have c1 : ¬ (i : Int) < (xs.length : Int) - 1 - (i : Int) := by omega
      simp -dsimp [g1, g2, g3, g4, c1, revH]
end Ev
end Go.Proofs.YtncmainjcffanaaGreat
/- tele: twins, spines. -/
namespace Go.Proofs.YtncmainjcffanaaGreat
namespace Ev
open Go
set_option maxRecDepth 100000
set_option linter.unusedSimpArgs false
set_option linter.unusedVariables false
attribute [local simp] allD_map_d sks_map_d tk tn tks

theorem ttwins_of (l : List T) (hl : l.length * 40 ≤ 140737488351232) (h : ∀ x ∈ l, Pure Tryz.prog n_term_Twin [.agg (cT x)] [.agg (cT x)]) : Pure Tryz.prog n_term_Twins [eTs l] [eTs l] := by
  refine p_term_Twins rfl fun hs => ?_
  simp -dsimp [x_term_Twins, eTs]
  by_cases hz : l = []
  · subst hz
    simp -dsimp
  simp -dsimp [hz]
  have r1 : (l.length : Int) * 40 ≤ (maxRoom : Int) := by simp only [maxRoom]; omega
  have r2 : l.length ≤ maxRoom := by simp only [maxRoom]; omega
  simp -dsimp [hz, r1, r2]
  refine wp_upto l.length (fun i st => st.s 0 = .d (.sl 3 (l.map eT)) ∧ st.s 3 = .rsl 10 1 ∧ st.s 12 = .d (.int .i64 l.length) ∧ st.s 13 = .d (.int .i64 i) ∧
    st.h 10 = ⟨1, .row 3 ((l.map eT).take i ++ List.replicate (l.length - i) (D.agg [.int .i64 0, .int .i64 0, .sl 3 []])) false⟩) ?_ ?_
  · simp -dsimp
  · rintro i ⟨s, hp⟩ hi ⟨g1, g2, g3, g4, g5⟩
    dsimp only at g1 g2 g3 g4 g5
    rcases Nat.lt_or_ge i l.length with hlt | hge
    · have w1 : IntKind.i64.wrap ((i : Int) + 1) = (i : Int) + 1 := wrap_id (by omega) (by omega)
      simp -dsimp [g1, g2, g3, g4, g5, hlt, cT]
      refine call_of (h l[i] (List.getElem_mem _)) ?_
      have q1 : (i : Int) < ((min i l.length : Nat) : Int) + ((l.length - i : Nat) : Int) := by omega
      have q2 : i < min i l.length + (l.length - i) := by omega
      have hle : (l.map eT).length = l.length := List.length_map ..
      have hfn := fill_next (l := l.map eT) (z := D.agg [.int .i64 0, .int .i64 0, .sl 3 []]) (i := i) (by rw [hle]; exact hlt)
      have hel : (l.map eT)[i]'(by rw [hle]; exact hlt) = .agg (cT l[i]) := by rw [List.getElem_map, eT_eq]
      rw [hel, hle] at hfn
      simp only [cT] at hfn
      simp -dsimp [g1, g2, g3, g4, g5, hlt, w1, q1, q2, cT, hfn]
    · have e : i = l.length := by omega
      subst e
      have ht : (l.map eT).take l.length = l.map eT := List.take_of_length_le (by rw [List.length_map]; exact Nat.le_refl _)
      rw [ht, Nat.sub_self, List.replicate_zero, List.append_nil] at g5
      simp -dsimp [g1, g2, g3, g4, g5]
theorem ttwin_ok (t : T) : okT t → Pure Tryz.prog n_term_Twin [.agg (cT t)] [.agg (cT t)] := by
  refine T.ind (p := fun t => okT t → Pure Tryz.prog n_term_Twin [.agg (cT t)] [.agg (cT t)]) ?_ t
  intro k n ks ih h
  obtain ⟨h1, h2⟩ := h.kids
  refine p_term_Twin rfl fun hs => ?_
  simp -dsimp [x_term_Twin, cT]
  refine call_of (ttwins_of ks h1 fun x hx => ih x hx (h2 x hx)) ?_
  simp -dsimp [eTs]
theorem ttwins_ok (l : List T) (h : okTs l) : Pure Tryz.prog n_term_Twins [eTs l] [eTs l] := ttwins_of l h.1 fun x hx => ttwin_ok x (h.2 x hx)

def twoB (t : T) (k : Int) : Bool := decide (t.kind = k) && decide (t.kids.length = 2)
theorem two_ok (t : T) (k : Int) : Pure Tryz.prog n_tele_two [.agg (cT t), .int .i64 k] [.bool (twoB t k)] := by
  refine p_tele_two rfl fun hs => ?_
  simp -dsimp [x_tele_two, cT, twoB]
  (first | refine Ask_b ?_ ?_ | refine Cnd_b ?_ ?_) <;> intro h1 <;> (try simp only [nrm] at h1) <;> simp -dsimp [h1]
  omega
theorem twoB_yes {k n : Int} {ks : List T} : twoB (.mk k n ks) 6 = true ↔ k = 6 ∧ ∃ a b, ks = [a, b] := by
  show (decide (k = 6) && decide (ks.length = 2)) = true ↔ _
  rw [Bool.and_eq_true, decide_eq_true_eq, decide_eq_true_eq]
  constructor
  · rintro ⟨h1, h2⟩
    match ks, h2 with
    | [a, b], _ => exact ⟨h1, a, b, rfl⟩
  · rintro ⟨h1, a, b, rfl⟩
    exact ⟨h1, rfl⟩

/-- The arguments of a spine, the last first; its head. -/
def spA : T → List T
  | .mk k _ ks => if k = 6 then match ks with
    | [a, b] => b :: spA a
    | _ => [] else []
def spH : T → T
  | .mk k n ks => if k = 6 then match ks with
    | [a, _] => spH a
    | _ => .mk k n ks else .mk k n ks
theorem sp_none {k n : Int} {ks : List T} (hc : ¬ (k = 6 ∧ ∃ a b, ks = [a, b])) : spA (.mk k n ks) = [] ∧ spH (.mk k n ks) = .mk k n ks := by
  match ks, hc with
  | [], _ => simp [spA, spH]
  | [_], _ => simp [spA, spH]
  | [a, b], hc =>
    have h1 : ¬ k = 6 := fun h1 => hc ⟨h1, a, b, rfl⟩
    simp [spA, spH, h1]
  | _ :: _ :: _ :: _, _ => simp [spA, spH]
theorem sp_two (n : Int) (a b : T) : spA (.mk 6 n [a, b]) = b :: spA a ∧ spH (.mk 6 n [a, b]) = spH a := by simp [spA, spH]
end Ev
end Go.Proofs.YtncmainjcffanaaGreat
/- tele: spines taken apart. -/
namespace Go.Proofs.YtncmainjcffanaaGreat
namespace Ev
open Go
set_option maxRecDepth 100000
set_option linter.unusedSimpArgs false
set_option linter.unusedVariables false
attribute [local simp] allD_map_d sks_map_d tk tn tks

theorem split_ok (t : T) (hb : (spA t).length ≤ 1000000) : Pure Tryz.prog n_tele_Split [.agg (cT t)] [.agg (cT (spH t)), eTs (spA t).reverse] := by
  refine p_tele_Split rfl fun hs => ?_
  simp -dsimp [x_tele_Split, cT]
  refine wp_upto (spA t).length (fun i st => st.s 2 = .ptr 2 1 0 ∧ st.h 2 = ⟨1, .box [.d (.int .i64 0), .d (.int .i64 0), .fsl 3 []] false⟩ ∧ st.s 1 = .ptr 1 1 0 ∧ ∃ (cur : T) (L : List T),
    st.h 1 = ⟨1, .box [.d (.int .i64 cur.kind), .d (.int .i64 cur.num), .d (.sl 3 (cur.kids.map eT))] false⟩ ∧ L ++ spA cur = spA t ∧ L.length = i ∧ spH cur = spH t ∧
    st.s 4 = .rsl 4 (1 + i) ∧ st.h 4 = ⟨1 + i, .row 3 (L.map eT) false⟩) ?_ ?_
  · simp -dsimp
    exact ⟨t, ⟨rfl, rfl, rfl⟩, [], by simp⟩
  · rintro i ⟨s, hp⟩ hi ⟨g1, g2, g3, cur, L, g4, g5, g6, g7, g8, g9⟩
    dsimp only at g1 g2 g3 g4 g8 g9
    have htw := two_ok cur 6
    obtain ⟨k, n, ks⟩ := cur
    simp only [cT, tk, tn, tks] at htw g4
    have hL : L.length ≤ (spA t).length := by rw [← g5, List.length_append]; omega
    by_cases hc : k = 6 ∧ ∃ a b, ks = [a, b]
    · have hd := twoB_yes (n := n) |>.2 hc
      rw [hd] at htw
      obtain ⟨rfl, a, b, rfl⟩ := hc
      rw [(sp_two n a b).1] at g5
      rw [(sp_two n a b).2] at g7
      have hlt : i < (spA t).length := by rw [← g5, List.length_append, List.length_cons]; omega
      simp -dsimp [g1, g2, g3, g4, g8, g9]
      refine call_of htw ?_
      have hr : (L.length + 1) * 40 ≤ maxRoom := by simp only [maxRoom]; omega
      simp -dsimp [g1, g2, g3, g4, g8, g9, hr, eT_eq, cT]
      exact ⟨hlt, a, ⟨rfl, rfl, rfl⟩, L ++ [b], by simp [g5], by simp [g6], g7, by omega, by simp [eT_eq, cT]⟩
    · have hd : twoB (.mk k n ks) 6 = false := by
        cases h : twoB (.mk k n ks) 6 with
        | false => rfl
        | true => exact absurd (twoB_yes.1 h) hc
      have e1 := sp_none (n := n) hc
      rw [e1.1, List.append_nil] at g5
      rw [e1.2] at g7
      subst g5
      rw [hd] at htw
      simp -dsimp [g1, g2, g3, g4, g8, g9]
      refine call_of htw ?_
      simp -dsimp [g1, g2, g3, g4, g8, g9]
      refine callM_of (reverse_mut 4 (1 + i) (spA t) (by omega)) ?_ ?_
      · simp [revH, g9]
      simp -dsimp [mergeK_cons, mergeK_nil, revH, g1, g2, g3, g4, g8, g9, ← g7]
      simp [eTs, List.map_reverse]
/-- A term applied to others. -/
def spT (f : T) (l : List T) : T := l.foldl (fun o a => .mk 6 0 [o, a]) f
theorem rc_ok (n : Int) : Pure Tryz.prog n_porismref01_C [.int .i64 n] [.agg (cT (.mk 3 n []))] := by
  refine p_porismref01_C rfl fun hs => ?_
  simp -dsimp [x_porismref01_C, cT]
theorem rv_ok (n : Int) : Pure Tryz.prog n_porismref01_V [.int .i64 n] [.agg (cT (.mk 1 n []))] := by
  refine p_porismref01_V rfl fun hs => ?_
  simp -dsimp [x_porismref01_V, cT]
theorem ru_ok (n : Int) : Pure Tryz.prog n_porismref01_U [.int .i64 n] [.agg (cT (.mk 2 n []))] := by
  refine p_porismref01_U rfl fun hs => ?_
  simp -dsimp [x_porismref01_U, cT]
theorem v_ok (n : Int) : Pure Tryz.prog n_term_V [.int .i64 n] [.agg (cT (.mk 1 n []))] := by
  refine p_term_V rfl fun hs => ?_
  simp -dsimp [x_term_V, cT]
theorem node_ok (k : Int) (l : List T) : Pure Tryz.prog n_term_Node [.int .i64 k, .sl 3 (l.map eT)] [.agg [.int .i64 k, .int .i64 0, .sl 3 (l.map eT)]] := by
  refine p_term_Node rfl fun hs => ?_
  simp -dsimp [x_term_Node, cT]
theorem spine_ok (f : T) (l : List T) (hl : l.length ≤ 100000000) (hf : okT f) (ho : okTs l) : Pure Tryz.prog n_tele_Spine [.agg (cT f), eTs l] [.agg (cT (spT f l))] := by
  refine p_tele_Spine rfl fun hs => ?_
  simp -dsimp [x_tele_Spine, cT, eTs]
  refine call_of (ttwin_ok f hf) ?_
  simp -dsimp [cT]
  refine wp_upto l.length (fun i st => st.s 4 = .ptr 4 1 0 ∧ st.h 4 = ⟨1, .box [.d (.int .i64 0), .d (.int .i64 0), .fsl 3 []] false⟩ ∧ st.s 10 = .d (.sl 3 (l.map eT)) ∧ st.s 11 = .d (.int .i64 l.length) ∧ st.s 12 = .d (.int .i64 i) ∧
    st.s 5 = .ptr 5 1 0 ∧ ∃ cs, st.h 5 = ⟨1, .box [.d (.int .i64 (spT f (l.take i)).kind), .d (.int .i64 (spT f (l.take i)).num), cs] false⟩ ∧ (cs = .d (.sl 3 ((spT f (l.take i)).kids.map eT)) ∨ cs = .fsl 3 ((spT f (l.take i)).kids.map eT))) ?_ ?_
  · simp -dsimp [spT]
  · rintro i ⟨s, hp⟩ hi ⟨g1, g2, g3, g4, g5, g6, cs, g7, g8⟩
    dsimp only at g1 g2 g3 g4 g5 g6 g7
    rcases Nat.lt_or_ge i l.length with hlt | hge
    · have w1 : IntKind.i64.wrap ((i : Int) + 1) = (i : Int) + 1 := wrap_id (by omega) (by omega)
      have hnx : spT f (l.take (i + 1)) = .mk 6 0 [spT f (l.take i), l[i]] := by
        have e : l.take (i + 1) = l.take i ++ [l[i]] := by rw [List.take_add_one, List.getElem?_eq_getElem hlt]; rfl
        rw [spT, e, List.foldl_append]
        rfl
      rw [hnx]
      generalize spT f (l.take i) = Y at g7 g8
      have hnode := node_ok 6 [Y, l[i]]
      simp only [List.map_cons, List.map_nil, eT_eq, cT] at hnode
      rcases g8 with rfl | rfl
      · simp -dsimp [g1, g2, g3, g4, g5, g6, g7, hlt, cT]
        refine call_of (ttwin_ok l[i] (ho.2 _ (List.getElem_mem _))) ?_
        simp -dsimp [g1, g2, g3, g4, g5, g6, g7, hlt, cT]
        refine call_of hnode ?_
        simp -dsimp [g1, g2, g3, g4, g5, g6, g7, hlt, w1, eT_eq, cT]
      · simp -dsimp [g1, g2, g3, g4, g5, g6, g7, hlt, cT]
        refine call_of (ttwin_ok l[i] (ho.2 _ (List.getElem_mem _))) ?_
        simp -dsimp [g1, g2, g3, g4, g5, g6, g7, hlt, cT]
        refine call_of hnode ?_
        simp -dsimp [g1, g2, g3, g4, g5, g6, g7, hlt, w1, eT_eq, cT]
    · have e : i = l.length := by omega
      subst e
      rw [List.take_length] at g7 g8
      rcases g8 with rfl | rfl
      · simp -dsimp [g1, g2, g3, g4, g5, g6, g7]
      · simp -dsimp [g1, g2, g3, g4, g5, g6, g7]
end Ev
end Go.Proofs.YtncmainjcffanaaGreat
/- tele: variables; TeleVars. -/
namespace Go.Proofs.YtncmainjcffanaaGreat
namespace Ev
open Go
set_option maxRecDepth 100000
set_option linter.unusedSimpArgs false
set_option linter.unusedVariables false
attribute [local simp] allD_map_d sks_map_d tk tn tks

def tV (n : Int) : T := .mk 1 n []
/-- The variables from the outermost on. -/
def varsN (n : Nat) : List T := (List.range n).map fun (i : Nat) => tV ((n : Int) - 1 - (i : Int))
theorem varsN_len (n : Nat) : (varsN n).length = n := by simp [varsN]
theorem varsN_get (n i : Nat) (h : i < (varsN n).length) : (varsN n)[i] = tV ((n : Int) - 1 - i) := by simp [varsN]
def varsT (n : Int) : List T := if n < 1 ∨ 65536 < n then [] else varsN n.toNat
theorem vars_ok (n : Int) : Pure Tryz.prog n_tele_Vars [.int .i64 n] [eTs (varsT n)] := by
  refine p_tele_Vars rfl fun hs => ?_
  simp -dsimp [x_tele_Vars]
  (first | refine Ask_b ?_ ?_ | refine Cnd_b ?_ ?_) <;> intro h1 <;> (try simp only [nrm] at h1) <;> simp -dsimp [h1]
  · have : varsT n = [] := by rw [varsT, if_pos (.inl h1)]
    simp -dsimp [this, eTs]
  (first | refine Ask_b ?_ ?_ | refine Cnd_b ?_ ?_) <;> intro h2 <;> (try simp only [nrm] at h2) <;> simp -dsimp [h2, h1]
  · have : varsT n = [] := by rw [varsT, if_pos (.inr h2)]
    simp -dsimp [this, eTs]
  obtain ⟨m, rfl⟩ := Int.eq_ofNat_of_zero_le (show 0 ≤ n by omega)
  have hV : varsT (m : Int) = varsN m := by rw [varsT, if_neg (by omega)]; rfl
  rw [hV]
  have r1 : (m : Int) * 40 ≤ (maxRoom : Int) := by simp only [maxRoom]; omega
  have r2 : m ≤ maxRoom := by simp only [maxRoom]; omega
  have hvl := varsN_len m
  simp -dsimp [h1, h2, r1, r2]
  refine wp_upto m (fun i st => st.s 0 = .d (.int .i64 m) ∧ st.s 3 = .rsl 12 1 ∧ st.s 14 = .d (.int .i64 m) ∧ st.s 15 = .d (.int .i64 i) ∧
    st.h 12 = ⟨1, .row 3 (((varsN m).map eT).take i ++ List.replicate (m - i) (D.agg [.int .i64 0, .int .i64 0, .sl 3 []])) false⟩) ?_ ?_
  · simp -dsimp
  · rintro i ⟨s, hp⟩ hi ⟨g1, g2, g3, g4, g5⟩
    dsimp only at g1 g2 g3 g4 g5
    rcases Nat.lt_or_ge i m with hlt | hge
    · have w0 : IntKind.i64.wrap ((m : Int) - 1) = (m : Int) - 1 := wrap_id (by omega) (by omega)
      have w1 : IntKind.i64.wrap ((i : Int) + 1) = (i : Int) + 1 := wrap_id (by omega) (by omega)
      have w2 : IntKind.i64.wrap ((m : Int) - 1 - i) = (m : Int) - 1 - i := wrap_id (by omega) (by omega)
      simp -dsimp [g1, g2, g3, g4, g5, hlt, w0, w2]
      refine call_of (v_ok _) ?_
      have q1 : (i : Int) < ((min i m : Nat) : Int) + ((m - i : Nat) : Int) := by omega
      have q2 : i < min i m + (m - i) := by omega
      have hle : ((varsN m).map eT).length = m := by rw [List.length_map, hvl]
      have hfn := fill_next (l := (varsN m).map eT) (z := D.agg [.int .i64 0, .int .i64 0, .sl 3 []]) (i := i) (by rw [hle]; exact hlt)
      have hel : ((varsN m).map eT)[i]'(by rw [hle]; exact hlt) = .agg [.int .i64 1, .int .i64 ((m : Int) - 1 - i), .sl 3 []] := by
        rw [List.getElem_map, varsN_get, eT_eq]; simp [cT, tV]
      rw [hel, hle] at hfn
      simp -dsimp [g1, g2, g3, g4, g5, hlt, w0, w1, w2, q1, q2, hvl, cT, hfn]
    · have e : i = m := by omega
      subst e
      have ht : ((varsN i).map eT).take i = (varsN i).map eT := List.take_of_length_le (by rw [List.length_map, hvl]; exact Nat.le_refl _)
      rw [ht, Nat.sub_self, List.replicate_zero, List.append_nil] at g5
      simp -dsimp [g1, g2, g3, g4, g5, eTs]

theorem okT_leaf {k n : Int} (hk : 0 ≤ k ∧ k ≤ 100000) (hn : 0 ≤ n ∧ n ≤ 100000) : okT (.mk k n []) := .mk k n [] (by simp only [n64]; omega) (by simp only [n64]; omega) (by simp) (by simp)
theorem okT_two {n : Int} {a b : T} (ha : okT a) (hb : okT b) (hn : 0 ≤ n ∧ n ≤ 100000) : okT (.mk 6 n [a, b]) :=
  .mk 6 n [a, b] (by simp only [n64]; omega) (by simp only [n64]; omega) (by simp) (by intro x hx; simp at hx; rcases hx with rfl | rfl <;> assumption)
end Ev
end Go.Proofs.YtncmainjcffanaaGreat
