/- Several texts in one. -/
import Derived.Test.YtgiejcndcbanjaaGreatX
import Derived.Test.YtgiejcndcbanjaaGreatEE
set_option maxRecDepth 100000
set_option linter.unusedSimpArgs false
set_option linter.unusedVariables false
/- Terms, arguments, sorts, constructors, blocks as data. -/
namespace Go.Proofs.YtgiejcndcbanjaaGreat
namespace Ev
open Go
inductive T where
  | mk (kind num : Int) (kids : List T)
def T.kind : T → Int | .mk k _ _ => k
def T.num : T → Int | .mk _ n _ => n
def T.kids : T → List T | .mk _ _ ks => ks
def eT : T → D
  | .mk k n ks => .agg [.int .i64 k, .int .i64 n, .sl 3 (ks.map eT)]
def cT (t : T) : List D := [.int .i64 t.kind, .int .i64 t.num, .sl 3 (t.kids.map eT)]
theorem eT_eq (t : T) : eT t = .agg (cT t) := by cases t; rw [eT]; rfl
@[simp] theorem eT_cells (t : T) : (eT t).cells = cT t := by rw [eT_eq]; rfl
def eTs (l : List T) : D := .sl 3 (l.map eT)
theorem T.ind {p : T → Prop} (h : ∀ k n ks, (∀ x ∈ ks, p x) → p (.mk k n ks)) : ∀ t, p t
  | .mk k n ks => h k n ks fun x _ => T.ind h x
structure Ar where
  rc : Bool
  ty : T
  dom : List T
  sort : Int
  idx : List T
def cAr (a : Ar) : List D := .bool a.rc :: cT a.ty ++ [eTs a.dom, .int .i64 a.sort, eTs a.idx]
def eAr (a : Ar) : D := .agg (cAr a)
def eArs (l : List Ar) : D := .sl 7 (l.map eAr)
structure So where
  idx : List Ar
  level : Int
  dec : Bool
  dty : T
def cSo (s : So) : List D := [eArs s.idx, .int .i64 s.level, .bool s.dec] ++ cT s.dty
def eSo (s : So) : D := .agg (cSo s)
def eSos (l : List So) : D := .sl 6 (l.map eSo)
structure Co where
  sort : Int
  args : List Ar
  idx : List T
  dec : T
def cCo (c : Co) : List D := [.int .i64 c.sort, eArs c.args, eTs c.idx] ++ cT c.dec
def eCo (c : Co) : D := .agg (cCo c)
def eCos (l : List Co) : D := .sl 6 (l.map eCo)
structure Bl where
  sorts : List So
  cons : List Co
  elim : Int
def cBl (b : Bl) : List D := [eSos b.sorts, eCos b.cons, .int .i64 b.elim]
def eBl (b : Bl) : D := .agg (cBl b)
def w64 (n : Int) : Int := IntKind.i64.wrap n
end Ev
end Go.Proofs.YtgiejcndcbanjaaGreat
/- Sizes and depths of terms; what is played. -/
namespace Go.Proofs.YtgiejcndcbanjaaGreat
namespace Ev
open Go
def sizeM : T → Int
  | .mk _ _ ks => (ks.map sizeM).foldl (fun a s => w64 (a + s)) 1
def mx (a b : Int) : Int := if a < b then b else a
def depthM : T → Int
  | .mk _ _ ks => w64 ((ks.map depthM).foldl mx 0 + 1)
theorem kids_small {t : T} (h : ∀ d ∈ [D.agg (cT t)], small 8 d) : t.kids.length ≤ 9223372036854775807 := by
  have := h (D.agg (cT t)) (by simp)
  simp -dsimp [cT, small] at this
  exact this.1
theorem take_snoc {α : Type} {l : List α} {i : Nat} {x : α} (h : l[i]? = some x) : l.take (i + 1) = l.take i ++ [x] := by simp -dsimp [List.take_add_one, h]
theorem foldl_next {α β : Type} (f : β → α → β) (b : β) (l : List α) (i : Nat) (x : α) (h : l[i]? = some x) : (l.take (i + 1)).foldl f b = f ((l.take i).foldl f b) x := by
  rw [take_snoc h, List.foldl_append]; rfl
theorem size_ok (t : T) : Pure Tryz.prog n_porismref01_Size [.agg (cT t)] [.int .i64 (sizeM t)] := by
  refine T.ind (p := fun t => Pure Tryz.prog n_porismref01_Size [.agg (cT t)] [.int .i64 (sizeM t)]) ?_ t
  intro k n ks ih
  refine p_porismref01_Size rfl fun hs => ?_
  have hl := kids_small hs
  simp -dsimp [T.kids] at hl
  simp -dsimp [x_porismref01_Size, cT, T.kind, T.num, T.kids]
  refine wp_upto ks.length (fun i st => st.s 1 = .ptr 1 1 0 ∧ st.h 1 = ⟨1, .box [.d (.int .i64 k), .d (.int .i64 n), .d (.sl 3 (ks.map eT))] false⟩ ∧ st.s 4 = .d (.int .i64 i) ∧ st.s 3 = .d (.int .i64 (((ks.map sizeM).take i).foldl (fun a s => w64 (a + s)) 1))) ?_ ?_
  · simp
  · rintro i ⟨s, hp⟩ hi ⟨h1, h2, h3, h4⟩
    dsimp only at h1 h2 h3 h4
    rcases Nat.lt_or_ge i ks.length with hlt | hge
    · have w1 : IntKind.i64.wrap ((i : Int) + 1) = (i : Int) + 1 := wrap_id (by omega) (by omega)
      simp -dsimp [h1, h2, h3, h4, hlt, cT]
      refine call_of (ih ks[i] (List.getElem_mem _)) ?_
      have hf := foldl_next (fun a s => w64 (a + s)) 1 (ks.map sizeM) i (sizeM ks[i]) (by simp [hlt])
      simp -dsimp [h1, h2, h3, h4, hlt, w1, hf]
      rfl
    · have e : i = ks.length := by omega
      subst e
      have ht : (ks.map sizeM).take ks.length = ks.map sizeM := List.take_of_length_le (by simp)
      simp -dsimp [h1, h2, h3, h4, sizeM, ht]
theorem foldl_mx (l : List Int) (i : Nat) (x : Int) (h : l[i]? = some x) : (l.take (i + 1)).foldl mx 0 = mx ((l.take i).foldl mx 0) x := foldl_next _ _ _ _ _ h
theorem depth_ok (t : T) : Pure Tryz.prog n_porismref01_Depth [.agg (cT t)] [.int .i64 (depthM t)] := by
  refine T.ind (p := fun t => Pure Tryz.prog n_porismref01_Depth [.agg (cT t)] [.int .i64 (depthM t)]) ?_ t
  intro k n ks ih
  refine p_porismref01_Depth rfl fun hs => ?_
  have hl := kids_small hs
  simp [T.kids] at hl
  simp -dsimp [x_porismref01_Depth, cT, T.kind, T.num, T.kids]
  refine wp_upto ks.length (fun i st => st.s 1 = .ptr 1 1 0 ∧ st.h 1 = ⟨1, .box [.d (.int .i64 k), .d (.int .i64 n), .d (.sl 3 (ks.map eT))] false⟩ ∧ st.s 4 = .d (.int .i64 i) ∧ st.s 3 = .d (.int .i64 (((ks.map depthM).take i).foldl mx 0))) ?_ ?_
  · simp -dsimp
  · rintro i ⟨s, hp⟩ hi ⟨h1, h2, h3, h4⟩
    dsimp only at h1 h2 h3 h4
    rcases Nat.lt_or_ge i ks.length with hlt | hge
    · have w1 : IntKind.i64.wrap ((i : Int) + 1) = (i : Int) + 1 := wrap_id (by omega) (by omega)
      simp -dsimp [h1, h2, h3, h4, hlt, cT]
      refine call_of (ih ks[i] (List.getElem_mem _)) ?_
      have hf := foldl_mx (ks.map depthM) i (depthM ks[i]) (by simp [hlt])
      simp -dsimp [h1, h2, h3, h4, hlt, w1, hf]
      rfl
    · have e : i = ks.length := by omega
      subst e
      have ht : (ks.map depthM).take ks.length = ks.map depthM := List.take_of_length_le (by simp)
      simp -dsimp [h1, h2, h3, h4, depthM, ht]
      rfl
end Ev
end Go.Proofs.YtgiejcndcbanjaaGreat
/- Kinds. -/
namespace Go.Proofs.YtgiejcndcbanjaaGreat
namespace Ev
open Go
theorem allD_map_d (h : Nat → Ent) (n : Nat) (cs : List D) : allD (toD h n) (cs.map .d) = some cs := by
  induction cs with
  | nil => rfl
  | cons c cs ih => simp only [List.map_cons, allD, toD_d, ih]
theorem sks_map_d (h : Nat → Ent) (cs : List D) : sks h (cs.map .d) = [] := by
  induction cs with
  | nil => rfl
  | cons c cs ih => simp only [List.map_cons, sks, sk_d, ih, List.nil_append]
def isM (k : Int) : Bool := decide (1 ≤ k) && decide (k ≤ 13)
theorem is_ok (k : Int) : Pure Tryz.prog n_kind_is [.int .i64 k] [.bool (isM k)] := by
  refine p_kind_is rfl fun hs => ?_
  simp -dsimp [x_kind_is]
  (first | refine Ask_b ?_ ?_ | refine Cnd_b ?_ ?_) <;> intro h1 <;> (try simp only [nrm] at h1) <;> simp -dsimp [h1, isM]
def kidsM (k : Int) : Int :=
  if k = 1 then 0 else if k = 2 then 0 else if k = 3 then 0 else if k = 9 then 1 else if k = 10 then 1 else if k = 8 then 3 else if k = 11 then 3 else if k = 13 then 3 else if isM k then 2 else -1
theorem kids_ok (k : Int) : Pure Tryz.prog n_kind_Kids [.int .i64 k] [.int .i64 (kidsM k)] := by
  refine p_kind_Kids rfl fun hs => ?_
  simp -dsimp [x_kind_Kids]
  (first | refine Ask_b ?_ ?_ | refine Cnd_b ?_ ?_) <;> intro h1 <;> (try simp only [nrm] at h1) <;> simp -dsimp [h1, kidsM]
  (first | refine Ask_b ?_ ?_ | refine Cnd_b ?_ ?_) <;> intro h2 <;> (try simp only [nrm] at h2) <;> simp -dsimp [h2, kidsM, h1]
  (first | refine Ask_b ?_ ?_ | refine Cnd_b ?_ ?_) <;> intro h3 <;> (try simp only [nrm] at h3) <;> simp -dsimp [h3, kidsM, h1, h2]
  (first | refine Ask_b ?_ ?_ | refine Cnd_b ?_ ?_) <;> intro h4 <;> (try simp only [nrm] at h4) <;> simp -dsimp [h4, kidsM, h1, h2, h3]
  (first | refine Ask_b ?_ ?_ | refine Cnd_b ?_ ?_) <;> intro h5 <;> (try simp only [nrm] at h5) <;> simp -dsimp [h5, kidsM, h1, h2, h3, h4]
  (first | refine Ask_b ?_ ?_ | refine Cnd_b ?_ ?_) <;> intro h6 <;> (try simp only [nrm] at h6) <;> simp -dsimp [h6, kidsM, h1, h2, h3, h4, h5]
  (first | refine Ask_b ?_ ?_ | refine Cnd_b ?_ ?_) <;> intro h7 <;> (try simp only [nrm] at h7) <;> simp -dsimp [h7, kidsM, h1, h2, h3, h4, h5, h6]
  (first | refine Ask_b ?_ ?_ | refine Cnd_b ?_ ?_) <;> intro h8 <;> (try simp only [nrm] at h8) <;> simp -dsimp [h8, kidsM, h1, h2, h3, h4, h5, h6, h7]
  refine call_of (is_ok k) ?_
  simp -dsimp
  (first | refine Ask_b ?_ ?_ | refine Cnd_b ?_ ?_) <;> intro h9 <;> (try simp only [nrm] at h9) <;> simp -dsimp [h9, kidsM, h1, h2, h3, h4, h5, h6, h7, h8]
def idxI (n : Int) (l : List Int) : Int := match l.findIdx? (fun x => n == x) with
  | some i => i
  | none => -1
theorem index_int_ok (l : List Int) (n : Int) : Pure Tryz.prog n_slices_Index_int [.sl 1 (l.map (.int .i64)), .int .i64 n] [.int .i64 (idxI n l)] := by
  refine p_slices_Index_int rfl fun hs => ?_
  have hl := hs (.sl 1 (l.map (.int .i64))) (by simp)
  simp [small] at hl
  simp -dsimp [x_slices_Index_int]
  refine wp_upto l.length (fun i st => st.s 0 = .d (.sl 1 (l.map (.int .i64))) ∧ st.s 1 = .d (.int .i64 n) ∧ st.s 7 = .d (.int .i64 l.length) ∧ st.s 8 = .d (.int .i64 i) ∧ ∀ x ∈ l.take i, (n == x) = false) ?_ ?_
  · simp -dsimp
  · rintro i ⟨s, hp⟩ hi ⟨h1, h2, h3, h4, h5⟩
    dsimp only at h1 h2 h3 h4 h5
    rcases Nat.lt_or_ge i l.length with hlt | hge
    · have w1 : IntKind.i64.wrap ((i : Int) + 1) = (i : Int) + 1 := wrap_id (by omega) (by omega)
      simp -dsimp [h1, h2, h3, h4, hlt]
      (first | refine Ask_b ?_ ?_ | refine Cnd_b ?_ ?_) <;> intro h6 <;> (try simp only [nrm] at h6) <;> simp -dsimp [h6, h1, h2, h3, h4, hlt, w1]
      · have : l.findIdx? (fun x => n == x) = some i := by
          rw [List.findIdx?_eq_some_iff_getElem]
          refine ⟨hlt, by simpa using h6, fun j hj => ?_⟩
          have := h5 l[j] (by rw [List.mem_take_iff_getElem]; exact ⟨j, by omega, rfl⟩)
          simpa using this
        rw [← h6]
        simp only [idxI, this]
      · intro x hx
        rw [take_snoc (List.getElem?_eq_getElem hlt), List.mem_append] at hx
        rcases hx with hx | hx
        · simpa using h5 x hx
        · simp at hx; subst hx; exact h6
    · have e : i = l.length := by omega
      subst e
      rw [List.take_length] at h5
      have : l.findIdx? (fun x => n == x) = none := by
        rw [List.findIdx?_eq_none_iff]; exact h5
      simp -dsimp [h1, h2, h3, h4, idxI, this]
theorem contains_int_ok (l : List Int) (n : Int) : Pure Tryz.prog n_slices_Contains_int [.sl 1 (l.map (.int .i64)), .int .i64 n] [.bool (decide (0 ≤ idxI n l))] := by
  refine p_slices_Contains_int rfl fun hs => ?_
  simp -dsimp [x_slices_Contains_int]
  refine call_of (index_int_ok l n) ?_
  simp -dsimp
def bindsM (k i : Int) : Int := if i = 1 ∧ (k = 4 ∨ k = 5 ∨ k = 7) then 1 else 0
theorem binds_ok (k i : Int) : Pure Tryz.prog n_kind_Binds [.int .i64 k, .int .i64 i] [.int .i64 (bindsM k i)] := by
  refine p_kind_Binds rfl fun hs => ?_
  simp -dsimp [x_kind_Binds]
  (first | refine Ask_b ?_ ?_ | refine Cnd_b ?_ ?_) <;> intro h1 <;> (try simp only [nrm] at h1) <;> simp -dsimp [h1, bindsM]
  refine call_of (contains_int_ok [4, 5, 7] k) ?_
  have hc : decide (0 ≤ idxI k [4, 5, 7]) = decide (k = 4 ∨ k = 5 ∨ k = 7) := by
    simp only [idxI, List.findIdx?_cons, List.findIdx?_nil]
    by_cases h4 : k = 4
    · simp [h4]
    · by_cases h5 : k = 5
      · simp [h5]
      · by_cases h7 : k = 7 <;> simp [h4, h5, h7]
  rw [hc]
  simp -dsimp [h1]
  (first | refine Ask_b ?_ ?_ | refine Cnd_b ?_ ?_) <;> intro h2 <;> (try simp only [nrm] at h2) <;> simp -dsimp [h2, bindsM, h1]
end Ev
end Go.Proofs.YtgiejcndcbanjaaGreat
/- slices.IndexFunc, slices.ContainsFunc; what a right term is. -/
namespace Go.Proofs.YtgiejcndcbanjaaGreat
namespace Ev
open Go
attribute [local simp] allD_map_d sks_map_d
@[simp] theorem eAr_cells (a : Ar) : (eAr a).cells = cAr a := rfl
@[simp] theorem eSo_cells (a : So) : (eSo a).cells = cSo a := rfl
@[simp] theorem eCo_cells (a : Co) : (eCo a).cells = cCo a := rfl
def idxF {α : Type} (l : List α) (p : α → Bool) : Int := match l.findIdx? p with
  | some i => i
  | none => -1
theorem idxF_ge {α : Type} (l : List α) (p : α → Bool) : decide (0 ≤ idxF l p) = l.any p := by
  cases h : l.findIdx? p with
  | none =>
    have h1 := List.findIdx?_eq_none_iff.1 h
    have h2 : l.any p = false := by rw [List.any_eq_false]; intro x hx; simp [h1 x hx]
    have h3 : idxF l p = -1 := by simp only [idxF, h]
    rw [h2, h3]; rfl
  | some i =>
    obtain ⟨hi, hp, _⟩ := List.findIdx?_eq_some_iff_getElem.1 h
    have h2 : l.any p = true := List.any_eq_true.2 ⟨_, List.getElem_mem hi, hp⟩
    have h3 : idxF l p = (i : Int) := by simp only [idxF, h]
    rw [h2, h3]; simp
theorem indexFunc_Term (l : List T) (g : FuncId) (caps : List D) (p : T → Bool) (hp : ∀ x ∈ l, Pure Tryz.prog g (.agg (cT x) :: caps) [.bool (p x)]) :
    Pure Tryz.prog n_slices_IndexFunc_Term [.sl 3 (l.map eT), .clo g caps] [.int .i64 (idxF l p)] := by
  refine p_slices_IndexFunc_Term rfl fun hs => ?_
  have hl := hs (.sl 3 (l.map eT)) (by simp)
  simp [small] at hl
  replace hl := hl.1
  simp -dsimp [x_slices_IndexFunc_Term]
  refine wp_upto l.length (fun i st => st.s 0 = .d (.sl 3 (l.map eT)) ∧ st.s 1 = .d (.clo g caps) ∧ st.s 7 = .d (.int .i64 l.length) ∧ st.s 8 = .d (.int .i64 i) ∧ ∀ x ∈ l.take i, p x = false) ?_ ?_
  · simp -dsimp
  · rintro i ⟨s, hp'⟩ hi ⟨h1, h2, h3, h4, h5⟩
    dsimp only at h1 h2 h3 h4 h5
    rcases Nat.lt_or_ge i l.length with hlt | hge
    · have w1 : IntKind.i64.wrap ((i : Int) + 1) = (i : Int) + 1 := wrap_id (by omega) (by omega)
      have hc : (cT l[i]).length = 3 := rfl
      simp -dsimp [h1, h2, h3, h4, hlt, hc]
      have ht : (cT l[i]).take 3 = cT l[i] := List.take_of_length_le (by omega)
      refine call_of (by rw [ht]; exact hp l[i] (List.getElem_mem _)) ?_
      simp -dsimp [h1, h2, h3, h4, hlt]
      (first | refine Ask_b ?_ ?_ | refine Cnd_b ?_ ?_) <;> intro h6 <;> (try simp only [nrm] at h6) <;> simp -dsimp [h6, h1, h2, h3, h4, hlt, w1]
      · have : l.findIdx? p = some i := by
          rw [List.findIdx?_eq_some_iff_getElem]
          refine ⟨hlt, h6, fun j hj => ?_⟩
          have := h5 l[j] (by rw [List.mem_take_iff_getElem]; exact ⟨j, by omega, rfl⟩)
          simpa using this
        simp only [idxF, this]
      · intro x hx
        rw [take_snoc (List.getElem?_eq_getElem hlt), List.mem_append] at hx
        rcases hx with hx | hx
        · simpa using h5 x hx
        · simp at hx; subst hx; exact h6
    · have e : i = l.length := by omega
      subst e
      rw [List.take_length] at h5
      have : l.findIdx? p = none := by
        rw [List.findIdx?_eq_none_iff]; exact h5
      simp -dsimp [h1, h2, h3, h4, idxF, this]
theorem containsFunc_Term (l : List T) (g : FuncId) (caps : List D) (p : T → Bool) (hp : ∀ x ∈ l, Pure Tryz.prog g (.agg (cT x) :: caps) [.bool (p x)]) :
    Pure Tryz.prog n_slices_ContainsFunc_Term [.sl 3 (l.map eT), .clo g caps] [.bool (l.any p)] := by
  refine p_slices_ContainsFunc_Term rfl fun hs => ?_
  simp -dsimp [x_slices_ContainsFunc_Term]
  refine call_of (indexFunc_Term l g caps p hp) ?_
  simp -dsimp [idxF_ge]
end Ev
end Go.Proofs.YtgiejcndcbanjaaGreat
/- term: sizes, right terms, scopes. -/
namespace Go.Proofs.YtgiejcndcbanjaaGreat
namespace Ev
open Go
attribute [local simp] allD_map_d sks_map_d
theorem tsize_ok (t : T) : Pure Tryz.prog n_term_Size [.agg (cT t)] [.int .i64 (sizeM t)] := by
  refine T.ind (p := fun t => Pure Tryz.prog n_term_Size [.agg (cT t)] [.int .i64 (sizeM t)]) ?_ t
  intro k n ks ih
  refine p_term_Size rfl fun hs => ?_
  have hl := kids_small hs
  simp [T.kids] at hl
  simp -dsimp [x_term_Size, cT, T.kind, T.num, T.kids]
  refine wp_upto ks.length (fun i st => st.s 7 = .d (.sl 3 (ks.map eT)) ∧ st.s 8 = .d (.int .i64 ks.length) ∧ st.s 9 = .d (.int .i64 i) ∧ st.s 3 = .d (.int .i64 (((ks.map sizeM).take i).foldl (fun a s => w64 (a + s)) 1))) ?_ ?_
  · simp -dsimp
  · rintro i ⟨s, hp⟩ hi ⟨h1, h2, h3, h4⟩
    dsimp only at h1 h2 h3 h4
    rcases Nat.lt_or_ge i ks.length with hlt | hge
    · have w1 : IntKind.i64.wrap ((i : Int) + 1) = (i : Int) + 1 := wrap_id (by omega) (by omega)
      simp -dsimp [h1, h2, h3, h4, hlt, cT]
      refine call_of (ih ks[i] (List.getElem_mem _)) ?_
      have hf := foldl_next (fun a s => w64 (a + s)) 1 (ks.map sizeM) i (sizeM ks[i]) (by simp [hlt])
      simp -dsimp [h1, h2, h3, h4, hlt, w1, hf]
      rfl
    · have e : i = ks.length := by omega
      subst e
      have ht : (ks.map sizeM).take ks.length = ks.map sizeM := List.take_of_length_le (by simp)
      simp -dsimp [h1, h2, h3, h4, sizeM, ht]
theorem tdepth_ok (t : T) : Pure Tryz.prog n_term_Depth [.agg (cT t)] [.int .i64 (depthM t)] := by
  refine T.ind (p := fun t => Pure Tryz.prog n_term_Depth [.agg (cT t)] [.int .i64 (depthM t)]) ?_ t
  intro k n ks ih
  refine p_term_Depth rfl fun hs => ?_
  have hl := kids_small hs
  simp [T.kids] at hl
  simp -dsimp [x_term_Depth, cT, T.kind, T.num, T.kids]
  refine wp_upto ks.length (fun i st => st.s 7 = .d (.sl 3 (ks.map eT)) ∧ st.s 8 = .d (.int .i64 ks.length) ∧ st.s 9 = .d (.int .i64 i) ∧ st.s 3 = .d (.int .i64 (((ks.map depthM).take i).foldl mx 0))) ?_ ?_
  · simp -dsimp
  · rintro i ⟨s, hp⟩ hi ⟨h1, h2, h3, h4⟩
    dsimp only at h1 h2 h3 h4
    rcases Nat.lt_or_ge i ks.length with hlt | hge
    · have w1 : IntKind.i64.wrap ((i : Int) + 1) = (i : Int) + 1 := wrap_id (by omega) (by omega)
      simp -dsimp [h1, h2, h3, h4, hlt, cT]
      refine call_of (ih ks[i] (List.getElem_mem _)) ?_
      have hf := foldl_mx (ks.map depthM) i (depthM ks[i]) (by simp [hlt])
      simp -dsimp [h1, h2, h3, h4, hlt, w1, hf]
      rfl
    · have e : i = ks.length := by omega
      subst e
      have ht : (ks.map depthM).take ks.length = ks.map depthM := List.take_of_length_le (by simp)
      simp -dsimp [h1, h2, h3, h4, depthM, ht]
      rfl
def formedM : T → Bool
  | .mk k n ks => if kidsM k < 0 then false else if (ks.length : Int) = kidsM k then if n < 0 then false else if 65535 < n then false else if 0 < kidsM k ∧ n ≠ 0 then false else (ks.map formedM).all id else false
theorem formed1_ok (t : T) (h : Pure Tryz.prog n_term_formed [.agg (cT t)] [.bool (formedM t)]) : Pure Tryz.prog n_term_formed_1 [.agg (cT t)] [.bool (!formedM t)] := by
  refine p_term_formed_1 rfl fun hs => ?_
  simp -dsimp [x_term_formed_1, cT]
  refine call_of h ?_
  simp -dsimp
theorem formed_ok (t : T) : Pure Tryz.prog n_term_formed [.agg (cT t)] [.bool (formedM t)] := by
  refine T.ind (p := fun t => Pure Tryz.prog n_term_formed [.agg (cT t)] [.bool (formedM t)]) ?_ t
  intro k n ks ih
  refine p_term_formed rfl fun hs => ?_
  simp -dsimp [x_term_formed, cT, T.kind, T.num, T.kids]
  refine call_of (kids_ok k) ?_
  simp -dsimp
  (first | refine Ask_b ?_ ?_ | refine Cnd_b ?_ ?_) <;> intro h1 <;> (try simp only [nrm] at h1) <;> simp -dsimp [h1, formedM]
  (first | refine Ask_b ?_ ?_ | refine Cnd_b ?_ ?_) <;> intro h2 <;> (try simp only [nrm] at h2) <;> simp -dsimp [h2, formedM, h1]
  (first | refine Ask_b ?_ ?_ | refine Cnd_b ?_ ?_) <;> intro h3 <;> (try simp only [nrm] at h3) <;> simp -dsimp [h3, formedM, h1, h2]
  (first | refine Ask_b ?_ ?_ | refine Cnd_b ?_ ?_) <;> intro h4 <;> (try simp only [nrm] at h4) <;> simp -dsimp [h4, formedM, h1, h2, h3]
  (first | refine Ask_b ?_ ?_ | refine Cnd_b ?_ ?_) <;> intro h5 <;> (try simp only [nrm] at h5) <;> simp -dsimp [h5, formedM, h1, h2, h3, h4]
  · (first | refine Ask_b ?_ ?_ | refine Cnd_b ?_ ?_) <;> intro h6 <;> (try simp only [nrm] at h6) <;> simp -dsimp [h6, formedM, h1, h2, h3, h4, h5]
    refine call_of (containsFunc_Term ks n_term_formed_1 [] (fun t => !formedM t) (fun x hx => formed1_ok x (ih x hx))) ?_
    have hf : formedM (.mk k 0 ks) = !(ks.any fun t => !formedM t) := by
      rw [formedM, if_neg h1, if_pos h2]
      simp [List.all_eq_not_any_not, Function.comp_def]
    subst h6
    simp -dsimp [hf]
  · refine call_of (containsFunc_Term ks n_term_formed_1 [] (fun t => !formedM t) (fun x hx => formed1_ok x (ih x hx))) ?_
    have hf : formedM (.mk k n ks) = !(ks.any fun t => !formedM t) := by
      rw [formedM, if_neg h1, if_pos h2, if_neg h3, if_neg h4, if_neg (fun h => h5 h.1)]
      simp [List.all_eq_not_any_not, Function.comp_def]
    simp -dsimp [hf]
def checkM (t : T) : Int := if 6000 < sizeM t then 4 else if 200 < depthM t then 5 else if formedM t then 0 else 1
theorem check_ok (t : T) : Pure Tryz.prog n_term_Check [.agg (cT t)] [.int .i64 (checkM t)] := by
  refine p_term_Check rfl fun hs => ?_
  simp -dsimp [x_term_Check, cT]
  refine call_of (tsize_ok t) ?_
  simp -dsimp
  (first | refine Ask_b ?_ ?_ | refine Cnd_b ?_ ?_) <;> intro h1 <;> (try simp only [nrm] at h1) <;> simp -dsimp [h1, checkM]
  refine call_of (tdepth_ok t) ?_
  simp -dsimp
  (first | refine Ask_b ?_ ?_ | refine Cnd_b ?_ ?_) <;> intro h2 <;> (try simp only [nrm] at h2) <;> simp -dsimp [h2, checkM, h1]
  refine call_of (formed_ok t) ?_
  simp -dsimp
  (first | refine Ask_b ?_ ?_ | refine Cnd_b ?_ ?_) <;> intro h3 <;> (try simp only [nrm] at h3) <;> simp -dsimp [h3, checkM, h1, h2]
mutual
def withinM : T → Int → Int → Bool
  | .mk k n ks, v, c => if k = 1 then decide (n < v) else if k = 2 then decide (n ≤ 6) else if k = 3 then decide (n < c) else withinL k v c 0 ks
def withinL (k v c : Int) : Nat → List T → Bool
  | _, [] => true
  | i, x :: xs => withinM x (w64 (v + bindsM k i)) c && withinL k v c (i + 1) xs
end
theorem withinL_iff (k v c : Int) : ∀ (l : List T) (i : Nat), withinL k v c i l = true ↔ ∀ (j : Nat) (hj : j < l.length), withinM l[j] (w64 (v + bindsM k (i + j : Nat))) c = true
  | [], i => by simp [withinL]
  | x :: xs, i => by
    rw [withinL, Bool.and_eq_true, withinL_iff k v c xs (i + 1)]
    constructor
    · rintro ⟨h1, h2⟩ j hj
      cases j with
      | zero => simpa using h1
      | succ j =>
        have := h2 j (by simpa using hj)
        have e : i + 1 + j = i + (j + 1) := by omega
        rw [e] at this
        simpa using this
    · intro h
      refine ⟨h 0 (by simp), fun j hj => ?_⟩
      have := h (j + 1) (by simpa using hj)
      have e : i + 1 + j = i + (j + 1) := by omega
      rw [e]
      simpa using this
theorem within_ok (t : T) : ∀ v c : Int, Pure Tryz.prog n_term_within [.agg (cT t), .int .i64 v, .int .i64 c] [.bool (withinM t v c)] := by
  refine T.ind (p := fun t => ∀ v c : Int, Pure Tryz.prog n_term_within [.agg (cT t), .int .i64 v, .int .i64 c] [.bool (withinM t v c)]) ?_ t
  intro k n ks ih v c
  refine p_term_within rfl fun hs => ?_
  have hl := kids_small (t := .mk k n ks) (fun d hd => hs d (by simp at hd; simp [hd]))
  simp [T.kids] at hl
  simp -dsimp [x_term_within, cT, T.kind, T.num, T.kids]
  (first | refine Ask_b ?_ ?_ | refine Cnd_b ?_ ?_) <;> intro h1 <;> (try simp only [nrm] at h1) <;> simp -dsimp [h1, withinM]
  (first | refine Ask_b ?_ ?_ | refine Cnd_b ?_ ?_) <;> intro h2 <;> (try simp only [nrm] at h2) <;> simp -dsimp [h2, withinM, h1]
  (first | refine Ask_b ?_ ?_ | refine Cnd_b ?_ ?_) <;> intro h3 <;> (try simp only [nrm] at h3) <;> simp -dsimp [h3, withinM, h1, h2]
  have hw : withinM (.mk k n ks) v c = withinL k v c 0 ks := by rw [withinM, if_neg h1, if_neg h2, if_neg h3]
  rw [hw]
  refine wp_upto ks.length (fun i st => st.s 3 = .ptr 3 1 0 ∧ st.h 3 = ⟨1, .box [.d (.int .i64 k), .d (.int .i64 n), .d (.sl 3 (ks.map eT))] false⟩ ∧ st.s 1 = .d (.int .i64 v) ∧ st.s 2 = .d (.int .i64 c) ∧
    st.s 29 = .d (.sl 3 (ks.map eT)) ∧ st.s 30 = .d (.int .i64 ks.length) ∧ st.s 31 = .d (.int .i64 i) ∧ ∀ (j : Nat) (hj : j < ks.length), j < i → withinM ks[j] (w64 (v + bindsM k j)) c = true) ?_ ?_
  · simp -dsimp
  · rintro i ⟨s, hp⟩ hi ⟨g1, g2, g3, g4, g5, g6, g7, g8⟩
    dsimp only at g1 g2 g3 g4 g5 g6 g7
    rcases Nat.lt_or_ge i ks.length with hlt | hge
    · have w1 : IntKind.i64.wrap ((i : Int) + 1) = (i : Int) + 1 := wrap_id (by omega) (by omega)
      simp -dsimp [g1, g2, g3, g4, g5, g6, g7, hlt, cT]
      refine call_of (binds_ok k i) ?_
      simp -dsimp [g1, g2, g3, g4, g5, g6, g7, hlt]
      refine call_of (ih ks[i] (List.getElem_mem _) (w64 (v + bindsM k i)) c) ?_
      simp -dsimp [g1, g2, g3, g4, g5, g6, g7, hlt]
      (first | refine Ask_b ?_ ?_ | refine Cnd_b ?_ ?_) <;> intro h4 <;> (try simp only [nrm] at h4) <;> simp -dsimp [h4, g1, g2, g3, g4, g5, g6, g7, hlt, w1]
      · cases hw : withinL k v c 0 ks with
        | false => rfl
        | true =>
          have := (withinL_iff k v c ks 0).1 hw i hlt
          rw [Nat.zero_add, h4] at this
          cases this
      · intro j hj hji
        rcases Nat.lt_or_ge j i with h | h
        · exact g8 j hj h
        · have : j = i := by omega
          subst this
          exact h4
    · have e : i = ks.length := by omega
      subst e
      have : withinL k v c 0 ks = true := (withinL_iff k v c ks 0).2 fun j hj => by simpa using g8 j hj hj
      simp -dsimp [g1, g2, g3, g4, g5, g6, g7, this]
def scopeM (t : T) (v c : Int) : Bool := if v < 0 then false else if c < 0 then false else if checkM t = 0 then withinM t (if 65536 < v then 65536 else v) c else false
theorem scope_ok (t : T) (v c : Int) : Pure Tryz.prog n_term_Scope [.agg (cT t), .int .i64 v, .int .i64 c] [.bool (scopeM t v c)] := by
  refine p_term_Scope rfl fun hs => ?_
  simp -dsimp [x_term_Scope, cT]
  (first | refine Ask_b ?_ ?_ | refine Cnd_b ?_ ?_) <;> intro h1 <;> (try simp only [nrm] at h1) <;> simp -dsimp [h1, scopeM]
  · (first | refine Ask_b ?_ ?_ | refine Cnd_b ?_ ?_) <;> intro h2 <;> (try simp only [nrm] at h2) <;> simp -dsimp [h2, scopeM, h1]
    · refine call_of (check_ok t) ?_
      simp -dsimp [h1, h2]
      (first | refine Ask_b ?_ ?_ | refine Cnd_b ?_ ?_) <;> intro h3 <;> (try simp only [nrm] at h3) <;> simp -dsimp [h3, scopeM, h1, h2]
      · refine call_of (within_ok t _ _) ?_
        have hS : scopeM t v c = withinM t (if 65536 < v then 65536 else v) c := by rw [scopeM, if_neg (by omega), if_neg (by omega), if_pos h3]
        rw [hS]
        simp -dsimp [h3]
end Ev
end Go.Proofs.YtgiejcndcbanjaaGreat
/- What comes in by type: numbers, terms, and how long their rows may be. -/
namespace Go.Proofs.YtgiejcndcbanjaaGreat
namespace Ev
open Go
def n64 (n : Int) : Prop := -9223372036854775808 ≤ n ∧ n < 9223372036854775808
inductive okT : T → Prop
  | mk (k n : Int) (ks : List T) (hk : n64 k) (hn : n64 n) (hl : ks.length * 40 ≤ 140737488351232) (h : ∀ x ∈ ks, okT x) : okT (.mk k n ks)
def okTs (l : List T) : Prop := l.length * 40 ≤ 140737488351232 ∧ ∀ x ∈ l, okT x
theorem okT.kids {k n : Int} {ks : List T} (h : okT (.mk k n ks)) : okTs ks := by
  cases h with
  | mk _ _ _ _ _ hl h => exact ⟨hl, h⟩
theorem map_of {α : Type} {f : α → D} {q : α → Prop} : ∀ {xs : List D}, (∀ x ∈ xs, ∃ a, q a ∧ x = f a) → ∃ l : List α, xs = l.map f ∧ ∀ a ∈ l, q a
  | [], _ => ⟨[], rfl, by simp⟩
  | x :: xs, h => by
    obtain ⟨a, ha, rfl⟩ := h x (List.mem_cons_self ..)
    obtain ⟨l, rfl, hl⟩ := map_of (xs := xs) fun y hy => h y (List.mem_cons_of_mem _ hy)
    exact ⟨a :: l, rfl, by simpa using ⟨ha, hl⟩⟩
theorem not_agg {x : D} (h : x.isAgg = false) : x.cells = [x] := by
  cases x <;> first | rfl | cases h
end Ev
end Go.Proofs.YtgiejcndcbanjaaGreat
/- Twins are what they are twins of. -/
namespace Go.Proofs.YtgiejcndcbanjaaGreat
namespace Ev
open Go
attribute [local simp] allD_map_d sks_map_d
end Ev
end Go.Proofs.YtgiejcndcbanjaaGreat
/- What is compared with itself is alike. -/
namespace Go.Proofs.YtgiejcndcbanjaaGreat
namespace Ev
open Go
attribute [local simp] allD_map_d sks_map_d
theorem keepTerms_of (l : List T) (h : ∀ x ∈ l, Pure Tryz.prog n_porismkeep_Term [.agg (cT x), .agg (cT x)] [.bool true]) : Pure Tryz.prog n_porismkeep_Terms [eTs l, eTs l] [.bool true] := by
  refine p_porismkeep_Terms rfl fun hs => ?_
  have hl := hs (eTs l) (by simp)
  simp [eTs, small] at hl
  replace hl := hl.1
  simp -dsimp [x_porismkeep_Terms, eTs]
  refine wp_upto l.length (fun i st => st.s 0 = .d (.sl 3 (l.map eT)) ∧ st.s 1 = .d (.sl 3 (l.map eT)) ∧ st.s 5 = .d (.int .i64 i)) ?_ ?_
  · simp -dsimp
  · rintro i ⟨s, hp⟩ hi ⟨g1, g2, g3⟩
    dsimp only at g1 g2 g3
    rcases Nat.lt_or_ge i l.length with hlt | hge
    · have w1 : IntKind.i64.wrap ((i : Int) + 1) = (i : Int) + 1 := wrap_id (by omega) (by omega)
      simp -dsimp [g1, g2, g3, hlt, cT, eAr, cAr, eTs]
      refine call_of (h l[i] (List.getElem_mem _)) ?_
      simp -dsimp [g1, g2, g3, hlt, w1]
    · have e : i = l.length := by omega
      subst e
      simp -dsimp [g1, g2, g3]
theorem keepTerm_ok (t : T) : Pure Tryz.prog n_porismkeep_Term [.agg (cT t), .agg (cT t)] [.bool true] := by
  refine T.ind (p := fun t => Pure Tryz.prog n_porismkeep_Term [.agg (cT t), .agg (cT t)] [.bool true]) ?_ t
  intro k n ks ih
  refine p_porismkeep_Term rfl fun hs => ?_
  simp -dsimp [x_porismkeep_Term, cT, T.kind, T.num, T.kids]
  refine call_of (keepTerms_of ks ih) ?_
  simp -dsimp
theorem keepTerms_ok (l : List T) : Pure Tryz.prog n_porismkeep_Terms [eTs l, eTs l] [.bool true] := keepTerms_of l fun x _ => keepTerm_ok x
end Ev
end Go.Proofs.YtgiejcndcbanjaaGreat
/- The document's answers: right terms, scopes. -/
namespace Go.Proofs.YtgiejcndcbanjaaGreat
namespace Ev
open Go
attribute [local simp] allD_map_d sks_map_d
def inB (n lo hi : Int) : Bool := decide (lo ≤ n) && decide (n ≤ hi)
theorem inB_iff (n lo hi : Int) : inB n lo hi = true ↔ lo ≤ n ∧ n ≤ hi := by simp [inB]
theorem inB_not (n lo hi : Int) : inB n lo hi = false ↔ ¬(lo ≤ n ∧ n ≤ hi) := by rw [← inB_iff]; simp
theorem rin_ok (n lo hi : Int) : Pure Tryz.prog n_porismref01_in [.int .i64 n, .int .i64 lo, .int .i64 hi] [.bool (inB n lo hi)] := by
  refine p_porismref01_in rfl fun hs => ?_
  simp -dsimp [x_porismref01_in, inB]
  (first | refine Ask_b ?_ ?_ | refine Cnd_b ?_ ?_) <;> intro h1 <;> (try simp only [nrm] at h1) <;> simp -dsimp [h1]
theorem rkids_ok (k : Int) : Pure Tryz.prog n_porismref01_Kids [.int .i64 k] [.int .i64 (kidsM k)] := by
  refine p_porismref01_Kids rfl fun hs => ?_
  have e : kidsM k = if k = 1 then 0 else if k = 2 then 0 else if k = 3 then 0 else if k = 9 then 1 else if k = 10 then 1 else if k = 4 then 2 else if k = 5 then 2 else if k = 6 then 2 else if k = 7 then 2 else if k = 12 then 2 else if k = 8 then 3 else if k = 11 then 3 else if k = 13 then 3 else -1 := by
    simp only [kidsM, isM, Bool.and_eq_true, decide_eq_true_eq]
    repeat' split
    all_goals omega
  rw [e]
  simp -dsimp [x_porismref01_Kids]
  (first | refine Ask_b ?_ ?_ | refine Cnd_b ?_ ?_) <;> intro h1 <;> (try simp only [nrm] at h1) <;> simp -dsimp [h1]
  (first | refine Ask_b ?_ ?_ | refine Cnd_b ?_ ?_) <;> intro h2 <;> (try simp only [nrm] at h2) <;> simp -dsimp [h2, h1]
  (first | refine Ask_b ?_ ?_ | refine Cnd_b ?_ ?_) <;> intro h3 <;> (try simp only [nrm] at h3) <;> simp -dsimp [h3, h1, h2]
  (first | refine Ask_b ?_ ?_ | refine Cnd_b ?_ ?_) <;> intro h4 <;> (try simp only [nrm] at h4) <;> simp -dsimp [h4, h1, h2, h3]
  (first | refine Ask_b ?_ ?_ | refine Cnd_b ?_ ?_) <;> intro h5 <;> (try simp only [nrm] at h5) <;> simp -dsimp [h5, h1, h2, h3, h4]
  (first | refine Ask_b ?_ ?_ | refine Cnd_b ?_ ?_) <;> intro h6 <;> (try simp only [nrm] at h6) <;> simp -dsimp [h6, h1, h2, h3, h4, h5]
  (first | refine Ask_b ?_ ?_ | refine Cnd_b ?_ ?_) <;> intro h7 <;> (try simp only [nrm] at h7) <;> simp -dsimp [h7, h1, h2, h3, h4, h5, h6]
  (first | refine Ask_b ?_ ?_ | refine Cnd_b ?_ ?_) <;> intro h8 <;> (try simp only [nrm] at h8) <;> simp -dsimp [h8, h1, h2, h3, h4, h5, h6, h7]
  (first | refine Ask_b ?_ ?_ | refine Cnd_b ?_ ?_) <;> intro h9 <;> (try simp only [nrm] at h9) <;> simp -dsimp [h9, h1, h2, h3, h4, h5, h6, h7, h8]
  (first | refine Ask_b ?_ ?_ | refine Cnd_b ?_ ?_) <;> intro h10 <;> (try simp only [nrm] at h10) <;> simp -dsimp [h10, h1, h2, h3, h4, h5, h6, h7, h8, h9]
  (first | refine Ask_b ?_ ?_ | refine Cnd_b ?_ ?_) <;> intro h11 <;> (try simp only [nrm] at h11) <;> simp -dsimp [h11, h1, h2, h3, h4, h5, h6, h7, h8, h9, h10]
  (first | refine Ask_b ?_ ?_ | refine Cnd_b ?_ ?_) <;> intro h12 <;> (try simp only [nrm] at h12) <;> simp -dsimp [h12, h1, h2, h3, h4, h5, h6, h7, h8, h9, h10, h11]
  (first | refine Ask_b ?_ ?_ | refine Cnd_b ?_ ?_) <;> intro h13 <;> (try simp only [nrm] at h13) <;> simp -dsimp [h13, h1, h2, h3, h4, h5, h6, h7, h8, h9, h10, h11, h12]
theorem rbinds_ok (k i : Int) : Pure Tryz.prog n_porismref01_Binds [.int .i64 k, .int .i64 i] [.int .i64 (bindsM k i)] := by
  refine p_porismref01_Binds rfl fun hs => ?_
  simp -dsimp [x_porismref01_Binds]
  (first | refine Ask_b ?_ ?_ | refine Cnd_b ?_ ?_) <;> intro h1 <;> (try simp only [nrm] at h1) <;> simp -dsimp [h1, bindsM]
  (first | refine Ask_b ?_ ?_ | refine Cnd_b ?_ ?_) <;> intro g1 <;> (try simp only [nrm] at g1) <;> simp -dsimp [g1, bindsM, h1]
  (first | refine Ask_b ?_ ?_ | refine Cnd_b ?_ ?_) <;> intro g2 <;> (try simp only [nrm] at g2) <;> simp -dsimp [g2, bindsM, h1, g1]
  (first | refine Ask_b ?_ ?_ | refine Cnd_b ?_ ?_) <;> intro g3 <;> (try simp only [nrm] at g3) <;> simp -dsimp [g3, bindsM, h1, g1, g2]
theorem formedM_is (k n : Int) (ks : List T) : formedM (.mk k n ks) = if (ks.length : Int) = kidsM k then if kidsM k = 0 then inB n 0 65535 && ks.all formedM else if n = 0 then ks.all formedM else false else false := by
  rw [formedM]
  have ha : (ks.map formedM).all id = ks.all formedM := by rw [List.all_map]; rfl
  rw [ha]
  by_cases h1 : (ks.length : Int) = kidsM k
  · rw [if_neg (by omega), if_pos h1, if_pos h1]
    by_cases h0 : kidsM k = 0
    · rw [if_pos h0]
      by_cases h2 : n < 0
      · rw [if_pos h2, (inB_not n 0 65535).2 (by omega)]; rfl
      · rw [if_neg h2]
        by_cases h3 : 65535 < n
        · rw [if_pos h3, (inB_not n 0 65535).2 (by omega)]; rfl
        · rw [if_neg h3, if_neg (by omega), (inB_iff n 0 65535).2 (by omega)]; rfl
    · rw [if_neg h0]
      by_cases h2 : n = 0
      · rw [if_neg (by omega), if_neg (by omega), if_neg (by omega), if_pos h2]
      · rw [if_neg h2]
        by_cases h3 : n < 0
        · rw [if_pos h3]
        · rw [if_neg h3]
          by_cases h4 : 65535 < n
          · rw [if_pos h4]
          · rw [if_neg h4, if_pos ⟨by omega, h2⟩]
  · rw [if_neg h1, if_neg h1]
    split <;> rfl
theorem all_next {α : Type} {p : α → Bool} {l : List α} (h : ∀ (j : Nat) (hj : j < l.length), j < l.length → p l[j] = true) : l.all p = true := by
  rw [List.all_eq_true]
  intro x hx
  obtain ⟨j, hj, rfl⟩ := List.mem_iff_getElem.1 hx
  exact h j hj hj
theorem all_not {α : Type} {p : α → Bool} {l : List α} {i : Nat} (hi : i < l.length) (h : p l[i] = false) : l.all p = false := by
  cases hq : l.all p with
  | false => rfl
  | true =>
    have := List.all_eq_true.1 hq l[i] (List.getElem_mem _)
    rw [h] at this
    cases this
theorem upto_next {α : Type} {p : α → Bool} {l : List α} {i : Nat} (hi : i < l.length) (h : ∀ (j : Nat) (hj : j < l.length), j < i → p l[j] = true) (hx : p l[i] = true) :
    ∀ (j : Nat) (hj : j < l.length), j < i + 1 → p l[j] = true := by
  intro j hj hji
  rcases Nat.lt_or_ge j i with h' | h'
  · exact h j hj h'
  · have : j = i := by omega
    subst this
    exact hx
theorem rformed_ok (t : T) : Pure Tryz.prog n_porismref01_formed [.agg (cT t)] [.bool (formedM t)] := by
  refine T.ind (p := fun t => Pure Tryz.prog n_porismref01_formed [.agg (cT t)] [.bool (formedM t)]) ?_ t
  intro k n ks ih
  refine p_porismref01_formed rfl fun hs => ?_
  have hl := kids_small hs
  simp [T.kids] at hl
  simp -dsimp [x_porismref01_formed, cT, T.kind, T.num, T.kids]
  refine call_of (rkids_ok k) ?_
  simp -dsimp
  (first | refine Ask_b ?_ ?_ | refine Cnd_b ?_ ?_) <;> intro h1 <;> (try simp only [nrm] at h1) <;> simp -dsimp [h1, formedM_is]
  (first | refine Ask_b ?_ ?_ | refine Cnd_b ?_ ?_) <;> intro h2 <;> (try simp only [nrm] at h2) <;> simp -dsimp [h2, formedM_is, h1]
  · refine call_of (rin_ok n 0 65535) ?_
    simp -dsimp [h1, h2]
    (first | refine Ask_b ?_ ?_ | refine Cnd_b ?_ ?_) <;> intro h3 <;> (try simp only [nrm] at h3) <;> simp -dsimp [h3, formedM_is, h1, h2]
    have hR : formedM (.mk k n ks) = ks.all formedM := by rw [formedM_is, if_pos h1, if_pos h2, h3]; rfl
    rw [hR]
    refine wp_upto ks.length (fun i st => st.s 1 = .ptr 1 1 0 ∧ st.h 1 = ⟨1, .box [.d (.int .i64 k), .d (.int .i64 n), .d (.sl 3 (ks.map eT))] false⟩ ∧ st.s 3 = .d (.int .i64 i) ∧ ∀ (j : Nat) (hj : j < ks.length), j < i → formedM ks[j] = true) ?_ ?_
    · simp -dsimp
    · rintro i ⟨s, hp⟩ hi ⟨g1, g2, g3, g4⟩
      dsimp only at g1 g2 g3
      rcases Nat.lt_or_ge i ks.length with hlt | hge
      · have w1 : IntKind.i64.wrap ((i : Int) + 1) = (i : Int) + 1 := wrap_id (by omega) (by omega)
        simp -dsimp [g1, g2, g3, hlt, cT]
        refine call_of (ih ks[i] (List.getElem_mem _)) ?_
        simp -dsimp [g1, g2, g3, hlt]
        (first | refine Ask_b ?_ ?_ | refine Cnd_b ?_ ?_) <;> intro h6 <;> (try simp only [nrm] at h6) <;> simp -dsimp [h6, g1, g2, g3, hlt, w1]
        · have := all_not (p := formedM) hlt h6
          simpa using this
        · exact upto_next hlt g4 h6
      · have e : i = ks.length := by omega
        subst e
        have hA := all_next (p := formedM) g4
        simp -dsimp [g1, g2, g3, hA]
  · (first | refine Ask_b ?_ ?_ | refine Cnd_b ?_ ?_) <;> intro h3 <;> (try simp only [nrm] at h3) <;> simp -dsimp [h3, formedM_is, h1, h2]
    · (first | refine Ask_b ?_ ?_ | refine Cnd_b ?_ ?_) <;> intro h4 <;> (try simp only [nrm] at h4) <;> simp -dsimp [h4, formedM_is, h1, h2, h3]
      subst h4
      have hR : formedM (.mk k 0 ks) = ks.all formedM := by rw [formedM_is, if_pos h1, if_neg h2, if_pos rfl]
      rw [hR]
      refine wp_upto ks.length (fun i st => st.s 1 = .ptr 1 1 0 ∧ st.h 1 = ⟨1, .box [.d (.int .i64 k), .d (.int .i64 0), .d (.sl 3 (ks.map eT))] false⟩ ∧ st.s 3 = .d (.int .i64 i) ∧ ∀ (j : Nat) (hj : j < ks.length), j < i → formedM ks[j] = true) ?_ ?_
      · simp -dsimp
      · rintro i ⟨s, hp⟩ hi ⟨g1, g2, g3, g4⟩
        dsimp only at g1 g2 g3
        rcases Nat.lt_or_ge i ks.length with hlt | hge
        · have w1 : IntKind.i64.wrap ((i : Int) + 1) = (i : Int) + 1 := wrap_id (by omega) (by omega)
          simp -dsimp [g1, g2, g3, hlt, cT]
          refine call_of (ih ks[i] (List.getElem_mem _)) ?_
          simp -dsimp [g1, g2, g3, hlt]
          (first | refine Ask_b ?_ ?_ | refine Cnd_b ?_ ?_) <;> intro h6 <;> (try simp only [nrm] at h6) <;> simp -dsimp [h6, g1, g2, g3, hlt, w1]
          · have := all_not (p := formedM) hlt h6
            simpa using this
          · exact upto_next hlt g4 h6
        · have e : i = ks.length := by omega
          subst e
          have hA := all_next (p := formedM) g4
          simp -dsimp [g1, g2, g3, hA]
    · omega
theorem rcheck_ok (t : T) : Pure Tryz.prog n_porismref01_Check [.agg (cT t)] [.int .i64 (checkM t)] := by
  refine p_porismref01_Check rfl fun hs => ?_
  simp -dsimp [x_porismref01_Check, cT]
  refine call_of (size_ok t) ?_
  simp -dsimp
  (first | refine Ask_b ?_ ?_ | refine Cnd_b ?_ ?_) <;> intro h1 <;> (try simp only [nrm] at h1) <;> simp -dsimp [h1, checkM]
  refine call_of (depth_ok t) ?_
  simp -dsimp
  (first | refine Ask_b ?_ ?_ | refine Cnd_b ?_ ?_) <;> intro h2 <;> (try simp only [nrm] at h2) <;> simp -dsimp [h2, checkM, h1]
  refine call_of (rformed_ok t) ?_
  simp -dsimp
  (first | refine Ask_b ?_ ?_ | refine Cnd_b ?_ ?_) <;> intro h3 <;> (try simp only [nrm] at h3) <;> simp -dsimp [h3, checkM, h1, h2]
end Ev
end Go.Proofs.YtgiejcndcbanjaaGreat
/- Terms: small things. -/
namespace Go.Proofs.YtgiejcndcbanjaaGreat
namespace Ev
open Go
theorem tk (k n : Int) (ks : List T) : (T.mk k n ks).kind = k := rfl
theorem tn (k n : Int) (ks : List T) : (T.mk k n ks).num = n := rfl
theorem tks (k n : Int) (ks : List T) : (T.mk k n ks).kids = ks := rfl
end Ev
end Go.Proofs.YtgiejcndcbanjaaGreat
/- Terms, in plain numbers: nodes, depths, right terms, scopes. -/
namespace Go.Proofs.YtgiejcndcbanjaaGreat
namespace Ev
open Go
attribute [local simp] tk tn tks
def nodes : T → Nat | .mk _ _ ks => (ks.map nodes).sum + 1
theorem sum_mem {l : List Nat} {x : Nat} (h : x ∈ l) : x ≤ l.sum := by
  induction l with
  | nil => cases h
  | cons y l ih =>
    rw [List.sum_cons]
    rcases List.mem_cons.1 h with rfl | h
    · omega
    · have := ih h; omega
theorem nodes_kid {k n : Int} {ks : List T} {x : T} (h : x ∈ ks) : nodes x + 1 ≤ nodes (.mk k n ks) := by
  rw [nodes]
  have := sum_mem (List.mem_map.2 ⟨x, h, rfl⟩ : nodes x ∈ ks.map nodes)
  omega
theorem binds_le (k i : Int) : 0 ≤ bindsM k i ∧ bindsM k i ≤ 1 := by
  rw [bindsM]
  split <;> omega
inductive Slim : T → Prop
  | mk (k n : Int) (ks : List T) (hl : ks.length ≤ 1000) (h : ∀ x ∈ ks, Slim x) : Slim (.mk k n ks)
theorem Slim.kids {k n : Int} {ks : List T} (h : Slim (.mk k n ks)) : ks.length ≤ 1000 ∧ ∀ x ∈ ks, Slim x := by
  cases h with
  | mk _ _ _ h1 h2 => exact ⟨h1, h2⟩
theorem kidsM_le (k : Int) : kidsM k ≤ 3 := by
  rw [kidsM]
  repeat' split
  all_goals omega
theorem var_formed {k n : Int} {ks : List T} (h1 : k = 1) (hfm : formedM (.mk k n ks) = true) : 0 ≤ n ∧ n ≤ 65535 := by
  rw [formedM_is, h1] at hfm
  have h0 : kidsM 1 = 0 := rfl
  rw [h0] at hfm
  split at hfm
  · simp only [if_true, Bool.and_eq_true] at hfm
    exact (inB_iff _ _ _).1 hfm.1
  · cases hfm
theorem kids_formed {k n : Int} {ks : List T} (hfm : formedM (.mk k n ks) = true) : ∀ x ∈ ks, formedM x = true := by
  rw [formedM_is] at hfm
  refine List.all_eq_true.1 ?_
  split at hfm
  · split at hfm
    · rw [Bool.and_eq_true] at hfm; exact hfm.2
    · split at hfm
      · exact hfm
      · cases hfm
  · cases hfm
theorem w64_id {n : Int} (h1 : -9223372036854775808 ≤ n) (h2 : n < 9223372036854775808) : w64 n = n := wrap_id h1 (by omega)
def dmax (l : List Nat) : Nat := l.foldr max 0
def depthN : T → Nat | .mk _ _ ks => dmax (ks.map depthN) + 1
theorem mx_eq (a b : Int) : mx a b = max a b := by rw [mx]; split <;> omega
theorem foldl_sum : ∀ (l : List T) (a : Int), 0 ≤ a → a + (l.map nodes).sum ≤ 1099511627776 → (∀ x ∈ l, sizeM x = nodes x) → (l.map sizeM).foldl (fun a s => w64 (a + s)) a = a + (l.map nodes).sum
  | [], a, _, _, _ => by simp
  | x :: xs, a, h0, hb, h => by
    have hx := h x (by simp)
    simp only [List.map_cons, List.foldl_cons, List.sum_cons] at hb ⊢
    rw [hx, w64_id (by omega) (by omega), foldl_sum xs (a + nodes x) (by omega) (by omega) fun y hy => h y (by simp [hy])]
    omega
theorem size_is (t : T) : nodes t ≤ 1099511627776 → sizeM t = nodes t := by
  refine T.ind (p := fun t => nodes t ≤ 1099511627776 → sizeM t = nodes t) ?_ t
  intro k n ks ih hb
  have hk : ∀ x ∈ ks, sizeM x = nodes x := fun x hx => ih x hx (by have := nodes_kid (k := k) (n := n) hx; omega)
  rw [nodes] at hb
  rw [sizeM, foldl_sum ks 1 (by omega) (by omega) hk, nodes]
  omega
theorem dmax_mem {l : List Nat} {x : Nat} (h : x ∈ l) : x ≤ dmax l := by
  induction l with
  | nil => cases h
  | cons y l ih =>
    simp only [dmax, List.foldr_cons] at ih ⊢
    rcases List.mem_cons.1 h with rfl | h
    · omega
    · have := ih h; omega
theorem dmax_le {l : List Nat} {m : Nat} (h : ∀ x ∈ l, x ≤ m) : dmax l ≤ m := by
  induction l with
  | nil => simp [dmax]
  | cons y l ih =>
    have h1 := h y (by simp)
    have h2 := ih fun x hx => h x (by simp [hx])
    simp only [dmax, List.foldr_cons] at h2 ⊢
    omega
theorem depth_le (t : T) : depthN t ≤ nodes t := by
  refine T.ind (p := fun t => depthN t ≤ nodes t) ?_ t
  intro k n ks ih
  rw [depthN, nodes]
  have : dmax (ks.map depthN) ≤ (ks.map nodes).sum := dmax_le fun x hx => by
    obtain ⟨y, hy, rfl⟩ := List.mem_map.1 hx
    have := sum_mem (List.mem_map.2 ⟨y, hy, rfl⟩ : nodes y ∈ ks.map nodes)
    have := ih y hy
    omega
  omega
theorem foldl_dmax : ∀ (l : List T) (a : Int), 0 ≤ a → (∀ x ∈ l, depthM x = depthN x) → (l.map depthM).foldl mx a = max a (dmax (l.map depthN))
  | [], a, h0, _ => by simp [dmax]; omega
  | x :: xs, a, h0, h => by
    have hx := h x (by simp)
    simp only [List.map_cons, List.foldl_cons, dmax, List.foldr_cons]
    rw [hx, mx_eq, foldl_dmax xs _ (by omega) fun y hy => h y (by simp [hy])]
    simp only [dmax]
    omega
theorem depth_is (t : T) : nodes t ≤ 1099511627776 → depthM t = depthN t := by
  refine T.ind (p := fun t => nodes t ≤ 1099511627776 → depthM t = depthN t) ?_ t
  intro k n ks ih hb
  have hk : ∀ x ∈ ks, depthM x = depthN x := fun x hx => ih x hx (by have := nodes_kid (k := k) (n := n) hx; omega)
  have hd := depth_le (.mk k n ks)
  rw [depthN] at hd
  rw [depthM, foldl_dmax ks 0 (by omega) hk, depthN, w64_id (by omega) (by omega)]
  omega
theorem leaf_nodes (k n : Int) : nodes (.mk k n []) = 1 := by rw [nodes]; rfl
theorem leaf_depth (k n : Int) : depthN (.mk k n []) = 1 := by rw [depthN]; rfl
theorem check_iff {t : T} (h : nodes t ≤ 1048576) : checkM t = 0 ↔ nodes t ≤ 6000 ∧ depthN t ≤ 200 ∧ formedM t = true := by
  rw [checkM, size_is _ (by omega), depth_is _ (by omega)]
  by_cases h1 : (6000 : Int) < nodes t
  · rw [if_pos h1]
    constructor
    · intro h; cases h
    · omega
  · rw [if_neg h1]
    by_cases h2 : (200 : Int) < depthN t
    · rw [if_pos h2]
      constructor
      · intro h; cases h
      · omega
    · rw [if_neg h2]
      cases formedM t
      · simp
      · simp; omega
theorem nodes_bulk (t : T) : nodes t ≤ bulk (eT t) := by
  refine T.ind (p := fun t => nodes t ≤ bulk (eT t)) ?_ t
  intro k n ks ih
  rw [nodes, eT_eq]
  simp only [cT, tks, bulk, List.map_cons, List.map_nil, List.sum_cons, List.sum_nil, List.map_map]
  have : ∀ l : List T, (∀ x ∈ l, nodes x ≤ bulk (eT x)) → (l.map nodes).sum ≤ (l.map (bulk ∘ eT)).sum := by
    intro l
    induction l with
    | nil => intro _; simp
    | cons x xs ihx =>
      intro h
      have h1 := h x (by simp)
      have h2 := ihx fun y hy => h y (by simp [hy])
      simp only [List.map_cons, List.sum_cons, Function.comp] at h2 ⊢
      omega
  have := this ks ih
  omega
theorem term_bulk (t : T) : nodes t ≤ bulk (.agg (cT t)) := by rw [← eT_eq]; exact nodes_bulk t
theorem terms_bulk (l : List T) : (∀ x ∈ l, nodes x ≤ bulk (eTs l)) ∧ l.length ≤ bulk (eTs l) := by
  simp only [eTs, bulk, List.map_map]
  have h1 : ∀ x ∈ l, nodes x ≤ (l.map (bulk ∘ eT)).sum := fun x hx => by
    have := sum_mem (List.mem_map.2 ⟨x, hx, rfl⟩ : (bulk ∘ eT) x ∈ l.map (bulk ∘ eT))
    have h2 := nodes_bulk x
    simp only [Function.comp] at this
    omega
  have h2 : l.length ≤ (l.map (bulk ∘ eT)).sum := by
    clear h1
    induction l with
    | nil => simp
    | cons x xs ih =>
      have h3 := nodes_bulk x
      have h4 : 1 ≤ nodes x := by cases x; rw [nodes]; omega
      simp only [List.length_cons, List.map_cons, List.sum_cons, Function.comp] at ih ⊢
      omega
  exact ⟨fun x hx => by have := h1 x hx; omega, by omega⟩
end Ev
end Go.Proofs.YtgiejcndcbanjaaGreat
/- slices.Reverse on a row of one's own. -/
namespace Go.Proofs.YtgiejcndcbanjaaGreat
namespace Ev
open Go
attribute [local simp] allD_map_d sks_map_d initA EndsM
end Ev
end Go.Proofs.YtgiejcndcbanjaaGreat
/- tele: twins, spines. -/
namespace Go.Proofs.YtgiejcndcbanjaaGreat
namespace Ev
open Go
attribute [local simp] allD_map_d sks_map_d tk tn tks
end Ev
end Go.Proofs.YtgiejcndcbanjaaGreat
/- tele: spines taken apart. -/
namespace Go.Proofs.YtgiejcndcbanjaaGreat
namespace Ev
open Go
attribute [local simp] allD_map_d sks_map_d tk tn tks
end Ev
end Go.Proofs.YtgiejcndcbanjaaGreat
/- tele: variables; TeleVars. -/
namespace Go.Proofs.YtgiejcndcbanjaaGreat
namespace Ev
open Go
attribute [local simp] allD_map_d sks_map_d tk tn tks
end Ev
end Go.Proofs.YtgiejcndcbanjaaGreat
