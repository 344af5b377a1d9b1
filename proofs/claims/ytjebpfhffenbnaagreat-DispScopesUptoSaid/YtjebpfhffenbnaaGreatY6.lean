/- disp: motives and methods are in scope. -/
import Derived.Test.YtjebpfhffenbnaaGreatY5
namespace Go.Proofs.YtjebpfhffenbnaaGreat
namespace Ev
open Go
set_option maxRecDepth 100000
set_option linter.unusedSimpArgs false
set_option linter.unusedVariables false
theorem fin_step (l : List Ar) (e : Int) {i j : Nat} (hij : i < j) (hj : j ≤ l.length) : finL e (l.take i) + 1 ≤ finL e (l.take j) := by
  induction j with
  | zero => omega
  | succ j ih =>
    have hs := fin_snoc l e j (by omega)
    have : finL e (l.take j) + 1 ≤ finL e (l.take (j + 1)) := by rw [hs]; split <;> omega
    rcases Nat.lt_or_ge i j with h | h
    · have := ih h (by omega); omega
    · have : i = j := by omega
      subst this
      assumption
theorem fin_rec (l : List Ar) (e : Int) {i j : Nat} (hij : i < j) (hj : j ≤ l.length) (hr : l[i].rc = true) : finL e (l.take i) + 2 ≤ finL e (l.take j) := by
  have hs := fin_snoc l e i (by omega)
  rw [if_pos hr] at hs
  rcases Nat.lt_or_ge (i + 1) j with h | h
  · have := fin_step l e h hj; omega
  · have : j = i + 1 := by omega
    subst this
    omega
theorem sc_of8 {b : Bl} {base e cons : Int} {l : List Ar} (he : 0 ≤ e) (htop : ∀ c : Nat, (c : Int) < cons → (b.sorts.length : Int) + c < e) (first : Nat) (hfi : first ≤ l.length) {vars : Int} (hv : finL e (l.take first) ≤ vars) : Sc8 (vwOf b base l e) first vars cons := by
  have hle := fun j => fin_le (l.take j) e
  refine ⟨fun j hj => ?_, fun j a q hj ha hr hq => ?_, fun c hc => by have := (hle first).1; have := htop c hc; show (b.sorts.length : Int) + c < vars; omega⟩
  · have hjl : j < (posL e l).length := by rw [pos_len]; omega
    refine ⟨_, List.getElem?_eq_getElem hjl, ?_, ?_⟩
    · rw [pos_at]; have := (hle j).1; omega
    · rw [pos_at]; have := fin_step l e hj hfi; omega
  · have hjl : j < (posL e l).length := by rw [pos_len]; omega
    have hq' : (posL e l)[j]? = some q := hq
    rw [List.getElem?_eq_getElem hjl, pos_at] at hq'
    cases hq'
    obtain ⟨hjl2, rfl⟩ := List.getElem?_eq_some_iff.1 ha
    have := fin_rec l e hj hfi hr
    omega
theorem dmP_take (v : Vw) (first : Nat) (vars : Int) : ∀ (l : List T) (j i : Nat), dmP v first vars j (l.take i) = (dmP v first vars j l).take i
  | [], j, i => by simp [dmP]
  | d :: ds, j, 0 => by simp [dmP]
  | d :: ds, j, i + 1 => by simp only [List.take_succ_cons, dmP]; rw [dmP_take v first vars ds (j + 1) i]
/-- What a row asks. -/
structure Row8 (b : Bl) (base : Int) (l : List Ar) (e cons : Int) : Prop where
  fit : Fit b
  b0 : 0 ≤ base
  b1 : base ≤ 60000
  fine : FineArs l
  row : rowM b l = true
  good : rowF 9000 b base l cons = true
  e0 : 0 ≤ e
  e1 : e ≤ 100
  top : ∀ c : Nat, (c : Int) < cons → (b.sorts.length : Int) + c < e
  srt : ∀ a ∈ l, a.rc = true → a.sort < e
theorem varsN_in8 (r : Nat) {V : Int} (h : (r : Int) ≤ V) (hV : V ≤ 60000) : ∀ y ∈ varsN r, In8 y V := fun y hy => by
  simp only [varsN, List.mem_map, List.mem_range] at hy
  obtain ⟨i, hi, rfl⟩ := hy
  exact ⟨wi_var (by omega), var_is_formed ⟨by omega, by omega⟩⟩
theorem tyA_in8 {b : Bl} {base e cons : Int} {l : List Ar} (R : Row8 b base l e cons) (i : Nat) (hi : i < l.length) :
    In8 (putT (vwOf b base l e) (argTy b base l[i]) i 0 (finL e (l.take i))) (finL e (l.take i)) ∧
    (l[i].rc = true → ∃ t, tyA (vwOf b base l e) 9000 i (finL e (l.take i)) l[i] = [putT (vwOf b base l e) (argTy b base l[i]) i 0 (finL e (l.take i)), t] ∧ In8 t (finL e (l.take i) + 1)) ∧
    (l[i].rc = false → tyA (vwOf b base l e) 9000 i (finL e (l.take i)) l[i] = [putT (vwOf b base l e) (argTy b base l[i]) i 0 (finL e (l.take i))]) := by
  obtain ⟨hr1, hr2⟩ := rowM_at R.row
  have fa := R.fine.2 _ (List.getElem_mem hi)
  have hlen := R.fine.1
  have hfl := fin_le (l.take i) e
  rw [List.length_take] at hfl
  have e0 := R.e0
  have e1 := R.e1
  have hfs := R.fit.s
  have hA := argTy_right R.fit R.b0 R.b1 fa (by omega) (hr2 i hi)
  have hAn := argTy_nodes (b := b) (base := base) fa
  have S0 := sc_of8 (base := base) (l := l) e0 R.top i (by omega) (Int.le_refl (finL e (l.take i)))
  refine ⟨?_, fun hr => ?_, fun hr => ?_⟩
  · have := put_in8 (v := vwOf b base l e) (t := argTy b base l[i]) S0.pos (Int.le_refl 0) (by omega) (by omega) (by omega) hA.2 (by omega) (by rw [Int.add_zero]; exact hA.1)
    rwa [Int.add_zero] at this
  · obtain ⟨_, s0, s1, d1, ⟨so, hso, hil⟩, hd, hx⟩ := argM_rec (hr2 i hi) hr (by omega) (by omega)
    have hg := (allI_iff _ _ _).1 R.good i hi
    rw [Nat.zero_add, argF, if_pos hr, hso, Bool.and_eq_true] at hg
    have S1 := sc_of8 (base := base) (l := l) (vars := finL e (l.take i) + 1) e0 R.top i (by omega) (by omega)
    have ep : plV (vwOf b base l e) i (l[i].dom.length : Int) = ⟨b, base, l.take i, l[i].dom.length⟩ := rfl
    have hg2 : indF 9000 (plV (vwOf b base l e) i (l[i].dom.length : Int)) so l[i].idx cons = true := by rw [ep]; exact hg.2
    have hsrt := R.srt _ (List.getElem_mem hi) hr
    have hso' : (vwOf b base l e).b.sorts[l[i].sort.toNat]? = some so := hso
    refine ⟨_, by rw [tyA, hr, if_pos rfl, hso']; rfl, ?_⟩
    refine nest_in8 (fun j hj => ?_) ?_
    · rw [dmP_len] at hj
      have hnx : nodes l[i].dom[j] ≤ 9000 := Nat.le_trans (sum_mem (List.mem_map.2 ⟨_, List.getElem_mem hj, rfl⟩)) fa.dom
      have hf := in_facts (hd j hj) (by omega) (by omega) (by omega)
      have hget : (dmP (vwOf b base l e) i (finL e (l.take i) + 1) 0 l[i].dom)[j]? = some (putT (vwOf b base l e) l[i].dom[j] i j (finL e (l.take i) + 1)) := by
        have hs := dmP_snoc (vwOf b base l e) i (finL e (l.take i) + 1) l[i].dom 0 j hj
        have hpre : (dmP (vwOf b base l e) i (finL e (l.take i) + 1) 0 (l[i].dom.take (j + 1)))[j]? = some (putT (vwOf b base l e) l[i].dom[j] i ((0 + j : Nat) : Int) (finL e (l.take i) + 1)) := by
          rw [hs, List.getElem?_append_right (by rw [dmP_len, List.length_take]; omega), dmP_len, List.length_take, show j - min j l[i].dom.length = 0 by omega]
          rfl
        rw [dmP_take] at hpre
        rw [List.getElem?_take, if_pos (by omega), Nat.zero_add] at hpre
        exact hpre
      have hlt' : j < (dmP (vwOf b base l e) i (finL e (l.take i) + 1) 0 l[i].dom).length := by rw [dmP_len]; exact hj
      rw [List.getElem?_eq_getElem hlt'] at hget
      rw [Option.some.inj hget]
      have := put_in8 (v := vwOf b base l e) (t := l[i].dom[j]) (more := j) (vars := finL e (l.take i) + 1) S1.pos (by omega) (by omega) (by omega) (by omega) hf.2.1 (by omega) hf.1
      exact this
    · rw [dmP_len]
      refine sp_in8 (lv_in8 s0 (by omega) (by omega)) fun y hy => ?_
      rcases List.mem_append.1 hy with hy | hy
      · exact in_in8 S1 (by show i ≤ l.length; omega) (by omega) (by omega) (by omega) (by omega) 9000 so l[i].idx hil (fun x hxm => by
          have hnx : nodes x ≤ 9000 := Nat.le_trans (sum_mem (List.mem_map.2 ⟨_, hxm, rfl⟩)) fa.idx
          have hf := in_facts (hx x hxm) (by omega) (by omega) (by omega)
          exact ⟨hf.2.1, hnx, by omega, hf.1⟩) hg2 y hy
      · rw [List.mem_singleton] at hy
        subst hy
        exact sp_in8 (lv_in8 (by omega) (by omega) (by omega)) (varsN_in8 _ (by omega) (by omega))
  · rw [tyA, hr, if_neg (by simp)]
    rfl
/-- The types' places. -/
theorem ty_in8 {b : Bl} {base e cons : Int} {l : List Ar} (R : Row8 b base l e cons) : e + ((tyL (vwOf b base l e) 9000 0 l).length : Int) = finL e l ∧ ∀ (i : Nat) (h : i < (tyL (vwOf b base l e) 9000 0 l).length), In8 (tyL (vwOf b base l e) 9000 0 l)[i] (e + i) := by
  have go : ∀ j, j ≤ l.length → e + ((tyL (vwOf b base l e) 9000 0 (l.take j)).length : Int) = finL e (l.take j) ∧ ∀ (i : Nat) x, (tyL (vwOf b base l e) 9000 0 (l.take j))[i]? = some x → In8 x (e + i) := by
    intro j
    induction j with
    | zero => intro _; exact ⟨by simp [tyL, finL], fun i x h => by simp [tyL] at h⟩
    | succ j ih =>
      intro hj
      have hlt : j < l.length := by omega
      obtain ⟨i1, i2⟩ := ih (by omega)
      obtain ⟨a1, a2, a3⟩ := tyA_in8 R j hlt
      have hjl : j < (posL e l).length := by rw [pos_len]; exact hlt
      have hpos : ((vwOf b base l e).pos[0 + j]?).getD 0 = finL e (l.take j) := by
        rw [Nat.zero_add, show (vwOf b base l e).pos = posL e l from rfl, List.getElem?_eq_getElem hjl, pos_at]; rfl
      have hfs := fin_snoc l e j hlt
      rw [tyL_snoc _ _ _ _ _ hlt, hpos, Nat.zero_add]
      cases hr : l[j].rc with
      | true =>
        obtain ⟨t, ht, hti⟩ := a2 hr
        rw [hr, if_pos rfl] at hfs
        rw [ht, hfs]
        refine ⟨by rw [List.length_append]; simp only [List.length_cons, List.length_nil]; omega, fun i x hx => ?_⟩
        rcases Nat.lt_or_ge i (tyL (vwOf b base l e) 9000 0 (l.take j)).length with h | h
        · rw [List.getElem?_append_left h] at hx; exact i2 i x hx
        · rw [List.getElem?_append_right h] at hx
          match hi : i - (tyL (vwOf b base l e) 9000 0 (l.take j)).length, hx with
          | 0, hx =>
            simp only [List.getElem?_cons_zero, Option.some.injEq] at hx
            subst hx
            rw [show e + (i : Int) = finL e (l.take j) by omega]; exact a1
          | 1, hx =>
            simp only [List.getElem?_cons_succ, List.getElem?_cons_zero, Option.some.injEq] at hx
            subst hx
            rw [show e + (i : Int) = finL e (l.take j) + 1 by omega]; exact hti
          | q + 2, hx => simp at hx
      | false =>
        rw [hr, if_neg (by simp)] at hfs
        rw [a3 hr, hfs]
        refine ⟨by rw [List.length_append]; simp only [List.length_cons, List.length_nil]; omega, fun i x hx => ?_⟩
        rcases Nat.lt_or_ge i (tyL (vwOf b base l e) 9000 0 (l.take j)).length with h | h
        · rw [List.getElem?_append_left h] at hx; exact i2 i x hx
        · rw [List.getElem?_append_right h] at hx
          match hi : i - (tyL (vwOf b base l e) 9000 0 (l.take j)).length, hx with
          | 0, hx =>
            simp only [List.getElem?_cons_zero, Option.some.injEq] at hx
            subst hx
            rw [show e + (i : Int) = finL e (l.take j) by omega]; exact a1
          | q + 1, hx => simp at hx
  have := go l.length (Nat.le_refl _)
  rw [List.take_length] at this
  exact ⟨this.1, fun i h => this.2 i _ (List.getElem?_eq_getElem h)⟩
theorem own_in8 {l : List Ar} {e : Int} (e0 : 0 ≤ e) (e1 : e ≤ 100) (hl : l.length ≤ 20) : ∀ y ∈ (posL e l).map (fun p => lv p (finL e l)), In8 y (finL e l) := fun y hy => by
  obtain ⟨p, hp, rfl⟩ := List.mem_map.1 hy
  obtain ⟨j, hj, rfl⟩ := List.mem_iff_getElem.1 hp
  have hj' : j < l.length := by rw [pos_len] at hj; exact hj
  have h1 := fin_step l e hj' (Nat.le_refl _)
  rw [List.take_length] at h1
  have h2 := fin_le (l.take j) e
  have h3 := fin_le l e
  rw [pos_at]
  exact lv_in8 (by omega) (by omega) (by omega)
theorem c_in8 {n V : Int} (h0 : 0 ≤ n) (h1 : n < 65536) : In8 (tC n) V := ⟨tC_wi h1, tC_formed ⟨h0, by omega⟩⟩
theorem mot_in8 {b : Bl} (fb : FineBl b) (hf : Fit b) {base k : Int} (hp : positE 9000 b base = 0) (b1 : base ≤ 60000) {so : So} (k0 : 0 ≤ k) (hk : b.sorts[k.toNat]? = some so) : In8 (motT b base k so) k ∧ ((motL b base k so).length : Int) = finL 0 so.idx + 1 := by
  obtain ⟨hz, b0, _, hpos⟩ := posE_zero8 hp
  obtain ⟨z1, z4, z8, zl, zs, zc⟩ := (checkB_zero b).1 hz
  obtain ⟨hlt, hS⟩ := List.getElem?_eq_some_iff.1 hk
  have fs := fb.sorts _ (List.getElem_mem hlt)
  have hsm := zs _ hlt
  rw [hS] at fs hsm
  obtain ⟨hrow, _, _, hbad⟩ := (sortM_true _ _ _).1 hsm
  have hfs := hf.s
  have R : Row8 b base so.idx k 0 := ⟨hf, b0, b1, fs.idx, hrow, sort_good hpos hk, k0, by omega, fun c hc => by omega, fun a ha hr => by
    have := hbad a ha
    rw [sortBad, if_pos hr] at this
    split at this
    · cases this
    · split at this
      · cases this
      · omega⟩
  obtain ⟨t1, t2⟩ := ty_in8 R
  have hil := fs.idx.1
  have hfl := fin_le so.idx k
  have hfi := former_is hf b0 (by omega : base ≤ 65535) k
  rw [if_pos ⟨k0, by omega⟩] at hfi
  have hSp : In8 (spT (tC (former b base k)) ((posL k so.idx).map fun p => lv p (finL k so.idx))) (finL k so.idx) := sp_in8 (c_in8 (by omega) (by omega)) (own_in8 k0 (by omega) hil)
  have hU : ∀ V : Int, In8 (.mk 2 b.elim []) V := fun V => by
    rw [levelM, Bool.and_eq_true, decide_eq_true_eq, decide_eq_true_eq] at zl
    refine ⟨by rw [wiT, if_neg (by decide), if_pos rfl]; simpa using zl.2, ?_⟩
    have h0 : kidsM 2 = 0 := rfl
    rw [formedM_is, h0, (inB_iff _ _ _).2 ⟨zl.1, by omega⟩]
    rfl
  have hsh : ∀ (l : List Ar) (e : Int), finL e l = e + finL 0 l := by
    intro l
    induction l with
    | nil => intro e; simp [finL]
    | cons a l ih =>
      intro e
      rw [finL, finL, ih, ih (if a.rc then 0 + 2 else 0 + 1)]
      split <;> omega
  refine ⟨?_, ?_⟩
  · rw [mot_is]
    refine nest_in8 (fun i hi => ?_) (hU _)
    have hgi := List.getElem?_eq_getElem hi
    generalize (motL b base k so)[i] = y at hgi ⊢
    rw [motL] at hgi
    rcases Nat.lt_or_ge i (tyL (vwOf b base so.idx k) 9000 0 so.idx).length with h | h
    · rw [List.getElem?_append_left h, List.getElem?_eq_getElem h] at hgi
      cases hgi
      exact t2 i h
    · rw [List.getElem?_append_right h] at hgi
      match hi2 : i - (tyL (vwOf b base so.idx k) 9000 0 so.idx).length, hgi with
      | 0, hgi =>
        simp only [List.getElem?_cons_zero, Option.some.injEq] at hgi
        subst hgi
        rw [show k + (i : Int) = finL k so.idx by omega]
        exact hSp
      | q + 1, hgi => simp at hgi
  · rw [motL, List.length_append, List.length_singleton]
    have := hsh so.idx k
    omega
theorem fin_add : ∀ (l : List Ar) (e : Int), finL e l = e + finL 0 l := by
  intro l
  induction l with
  | nil => intro e; simp [finL]
  | cons a l ih =>
    intro e
    rw [finL, finL, ih, ih (if a.rc then 0 + 2 else 0 + 1)]
    split <;> omega
theorem met_in8 {b : Bl} (fb : FineBl b) (hf : Fit b) {base c : Int} (hp : positE 9000 b base = 0) (b1 : base ≤ 60000) (k0 : 0 ≤ c) {S : Co} (hk : b.cons[c.toNat]? = some S) {so : So} (hso : b.sorts[S.sort.toNat]? = some so) : In8 (metT b base c S so) (b.sorts.length + c) ∧ ((tyL (metV b base c S) 9000 0 S.args).length : Int) = finL 0 S.args := by
  obtain ⟨hz, b0, _, hpos⟩ := posE_zero8 hp
  obtain ⟨z1, z4, z8, zl, zs, zc⟩ := (checkB_zero b).1 hz
  obtain ⟨hlt, hS⟩ := List.getElem?_eq_some_iff.1 hk
  obtain ⟨hsg, so1, hso1, hig⟩ := con_good hpos hk
  have fs := fb.cons _ (List.getElem_mem hlt)
  have hcon := zc _ (List.getElem_mem hlt)
  rw [hS] at fs hcon
  obtain ⟨hrow, s0, so2, hso2, hil2⟩ := con_parts hcon
  rw [hso] at hso1 hso2
  cases hso1
  cases hso2
  rw [show ((c.toNat : Nat) : Int) = c by omega] at hsg hig
  have hsl := (List.getElem?_eq_some_iff.1 hso).1
  have hal := fs.args.1
  have hfs := hf.s
  have hfc := hf.c
  have R : Row8 b base S.args (b.sorts.length + c) c := ⟨hf, b0, b1, fs.args, hrow, hsg, by omega, by omega, fun c' hc => by omega, fun a ha hr => by
    obtain ⟨j, hj, rfl⟩ := List.mem_iff_getElem.1 ha
    have := argM_rec ((rowM_at hrow).2 j hj) hr (by omega) (by omega)
    omega⟩
  obtain ⟨t1, t2⟩ := ty_in8 R
  have hfl := fin_le S.args (b.sorts.length + c)
  have hfa := fin_add S.args (b.sorts.length + c)
  have hfi := constructor_is hf b0 (by omega : base ≤ 65535) c
  rw [if_pos ⟨k0, by omega⟩] at hfi
  have hdl := decs_le b.sorts
  have Sc := sc_of8 (base := base) (l := S.args) R.e0 R.top S.args.length (Nat.le_refl _) (vars := finL (b.sorts.length + c) S.args) (by rw [List.take_length]; omega)
  have hig' : indF 9000 (plV (vwOf b base S.args (b.sorts.length + c)) S.args.length 0) so S.idx c = true := by
    have e : plV (vwOf b base S.args (b.sorts.length + c)) S.args.length 0 = ⟨b, base, S.args, 0⟩ := by simp only [plV, vwOf, List.take_length]
    rw [e]; exact hig
  have hJ := in_in8 Sc (Nat.le_refl _) (Int.le_refl 0) (by omega) (by omega) (by omega) 9000 so S.idx hil2 (fun x hx => by
    have hnx : nodes x ≤ 9000 := Nat.le_trans (sum_mem (List.mem_map.2 ⟨_, hx, rfl⟩)) fs.idx
    have hf2 := in_facts (con_idx hcon hx) (by omega) (by omega) (by omega)
    exact ⟨hf2.2.1, hnx, by omega, by rw [Int.add_zero]; exact hf2.1⟩) hig'
  rw [Int.add_zero] at hJ
  refine ⟨?_, by have : (tyL (metV b base c S) 9000 0 S.args).length = (tyL (vwOf b base S.args (b.sorts.length + c)) 9000 0 S.args).length := rfl; omega⟩
  have e3 : metT b base c S so = nestT 4 (tyL (vwOf b base S.args (b.sorts.length + c)) 9000 0 S.args) (metB b base c S so) := rfl
  rw [e3]
  refine nest_in8 t2 ?_
  rw [t1]
  refine sp_in8 (lv_in8 s0 (by show S.sort < finL _ _; omega) (by show finL _ _ ≤ _; omega)) fun y hy => ?_
  rcases List.mem_append.1 hy with hy | hy
  · exact hJ y hy
  · rw [List.mem_singleton] at hy
    subst hy
    exact sp_in8 (c_in8 (by omega) (by omega)) (own_in8 R.e0 R.e1 hal)
theorem e045_8 {t : T} (h : formedM t = true) : checkM t = 0 ∨ checkM t = 4 ∨ checkM t = 5 := by
  rw [checkM, h]
  split
  · exact .inr (.inl rfl)
  · split
    · exact .inr (.inr rfl)
    · exact .inl rfl
end Ev
end Go.Proofs.YtjebpfhffenbnaaGreat
