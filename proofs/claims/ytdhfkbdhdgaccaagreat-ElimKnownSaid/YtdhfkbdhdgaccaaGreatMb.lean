/- Texts of this claim, in one. -/
import Derived.Test.YtdhfkbdhdgaccaaGreatMa
import Derived.Test.YtdhfkbdhdgaccaaGreatXc
import Derived.Test.YtdhfkbdhdgaccaaGreatXs
/- disp: what is displayed of good terms. -/
namespace Go.Proofs.YtdhfkbdhdgaccaaGreat
namespace Ev
open Go
set_option maxRecDepth 100000
set_option linter.unusedSimpArgs false
set_option linter.unusedVariables false
section
attribute [local simp] allD_map_d sks_map_d tk tn tks initA EndsM one_sos one_cos one_ars one_ts
theorem map_okF {f : Int → Int → T} (hf : ∀ n b : Int, 0 ≤ n → n ≤ 65535 → 0 ≤ b → b ≤ 1099511627776 → okT (f n b)) (t : T) : ∀ b : Int, formedM t = true → okT t → 0 ≤ b → b + nodes t ≤ 1099511627776 → okT (mapT f t b) := by
  refine T.ind (p := fun t => ∀ b : Int, formedM t = true → okT t → 0 ≤ b → b + nodes t ≤ 1099511627776 → okT (mapT f t b)) ?_ t
  intro k n ks ih b fm ho h0 hb
  rw [mapT]
  split
  · rename_i h1
    have hn := var_formed h1 fm
    exact hf n b hn.1 hn.2 h0 (by omega)
  · cases ho with
    | mk _ _ _ hk hn hl h =>
      refine .mk k n _ hk hn (by rw [mapL_len]; exact hl) fun x hx => ?_
      obtain ⟨j, hj, rfl⟩ := List.mem_iff_getElem.1 hx
      rw [mapL_len] at hj
      rw [mapL_get f k b ks 0 j hj]
      have hkn := nodes_kid (k := k) (n := n) (List.getElem_mem hj : ks[j] ∈ ks)
      have hbl := binds_le k (0 + j : Nat)
      exact ih _ (List.getElem_mem hj) _ (kids_formed fm _ (List.getElem_mem hj)) (h _ (List.getElem_mem hj)) (by omega) (by omega)
theorem put_okT {v : Vw} (hp : Pos v) {t : T} (ft : formedM t = true) (ot : okT t) (hn : nodes t ≤ 1000000) (first : Nat) (more vars : Int) (h0 : 0 ≤ more) (h1 : more ≤ 10000) (h2 : 0 ≤ vars) (h3 : vars ≤ 10000) : okT (putT v t first more vars) := by
  refine map_okF (fun n b a1 a2 a3 a4 => ?_) t 0 ft ot (by omega) (by omega)
  rw [putF]
  split
  · exact .mk _ _ _ (by simp only [n64]; omega) (by simp only [n64]; omega) (by simp) (by simp)
  · have hpj : 0 ≤ (v.pos[first - 1 - (n - (more + b)).toNat]?).getD 0 ∧ (v.pos[first - 1 - (n - (more + b)).toNat]?).getD 0 ≤ 10000 := by
      cases hg : v.pos[first - 1 - (n - (more + b)).toNat]? with
      | none => simp
      | some p => exact hp.at_ _ (List.mem_of_getElem? hg)
    generalize (v.pos[first - 1 - (n - (more + b)).toNat]?).getD 0 = p at hpj
    exact .mk _ _ _ (by simp only [n64]; omega) (by simp only [n64]; omega) (by simp) (by simp)
theorem puts_ok (v : Vw) (hp : Pos v) (l : List T) (hl : l.length ≤ 1000000) (hf : ∀ x ∈ l, formedM x = true ∧ nodes x ≤ 1000000) (first : Nat) (hfi : first ≤ v.pos.length) (more vars : Int) (h0 : 0 ≤ more) (h1 : more ≤ 10000) (h2 : 0 ≤ vars) (h3 : vars ≤ 10000) :
    Pure Tryz.prog n_disp_view_puts [.rp (cVw v), eTs l, .int .i64 first, .int .i64 more, .int .i64 vars] [eTs (l.map fun x => putT v x first more vars)] := by
  refine p_disp_view_puts rfl fun hs => ?_
  simp -dsimp [x_disp_view_puts, eTs]
  refine wp_upto l.length (fun i st => (st.s 0 = .d (.rp (cVw v)) ∧ st.s 2 = .d (.int .i64 first) ∧ st.s 3 = .d (.int .i64 more) ∧ st.s 4 = .d (.int .i64 vars)) ∧ (st.s 10 = .rsl 10 1 ∧ st.h 10 = ⟨1, .row 3 [] false⟩) ∧ (st.s 14 = .d (eTs l) ∧ st.s 15 = .d (.int .i64 l.length)) ∧ st.s 16 = .d (.int .i64 i) ∧
    ∃ u, st.s 11 = .rsl 11 u ∧ st.h 11 = ⟨u, .row 3 (((l.map fun x => putT v x first more vars).take i).map eT) false⟩) ?_ ?_
  · simp -dsimp [eTs]
  · rintro i ⟨s, hp'⟩ hi ⟨⟨g0, g2, g3, g4⟩, ⟨g10, k10⟩, ⟨g14, g15⟩, g16, u, g11, k11⟩
    dsimp only at g0 g2 g3 g4 g10 k10 g14 g15 g16 g11 k11
    simp only [eTs] at g14
    rcases Nat.lt_or_ge i l.length with hlt | hge
    · have w1 : IntKind.i64.wrap ((i : Int) + 1) = (i : Int) + 1 := wrap_id (by omega) (by omega)
      obtain ⟨x1, x2⟩ := hf _ (List.getElem_mem hlt)
      have hP := put_ok8 v hp l[i] x1 x2 first hfi more vars h0 h1 h2 h3
      have hn : ((l.map fun x => putT v x first more vars).take (i + 1)).map eT = ((l.map fun x => putT v x first more vars).take i).map eT ++ [.agg (cT (putT v l[i] first more vars))] := by
        rw [take_snoc (List.getElem?_eq_getElem (by simpa using hlt)), List.map_append]
        simp [eT_eq]
      generalize hX : putT v l[i] first more vars = X at *
      generalize hM : (l.map fun x => putT v x first more vars) = M at *
      have hMl : M.length = l.length := by rw [← hM, List.length_map]
      have hr : (min i M.length + 1) * 40 ≤ maxRoom := by simp only [maxRoom]; omega
      rw [hn]
      simp only [cT] at hP
      simp -dsimp [g0, g2, g3, g4, g10, k10, g14, g15, g16, g11, k11, hlt, cT]
      refine call_of hP ?_
      simp -dsimp [g0, g2, g3, g4, g10, k10, g14, g15, g16, g11, k11, hlt, cT, hr, w1, eTs]
      try exact hlt
    · have e : i = l.length := by omega
      subst e
      rw [List.take_of_length_le (by simp)] at k11
      simp -dsimp [g0, g2, g3, g4, g10, k10, g14, g15, g16, g11, k11]
theorem sp_formed2 (t : T) : formedM t = true → formedM (spH t) = true ∧ ∀ x ∈ spA t, formedM x = true := by
  refine T.ind (p := fun t => formedM t = true → formedM (spH t) = true ∧ ∀ x ∈ spA t, formedM x = true) ?_ t
  intro k n ks ih hf
  by_cases hc : k = 6 ∧ ∃ a b, ks = [a, b]
  · obtain ⟨rfl, a, b, rfl⟩ := hc
    have ha := kids_formed hf a (by simp)
    have hb := kids_formed hf b (by simp)
    obtain ⟨i1, i2⟩ := ih a (by simp) ha
    rw [(sp_two n a b).1, (sp_two n a b).2]
    refine ⟨i1, fun x hx => ?_⟩
    rcases List.mem_cons.1 hx with rfl | hx
    · exact hb
    · exact i2 x hx
  · rw [(sp_none hc).1, (sp_none hc).2]
    exact ⟨hf, by simp⟩
theorem guardB_j {p : Pl} {t : T} (h : guardB p t = true) : t.kind = 1 ∧ ∃ j : Nat, guardN p t = j ∧ j < p.args.length := by
  rw [guardB] at h
  cases hJ : guardJ p t with
  | none => rw [hJ] at h; cases h
  | some j =>
    have e : guardN p t = j := by rw [guardN, hJ]
    rw [guardJ] at hJ
    split at hJ
    · rename_i hh
      cases hJ
      exact ⟨hh.1, _, e, by omega⟩
    · cases hJ
def gdI (l : List Ar) (more : Int) (t : T) : Int := if guardB ⟨⟨[], [], 0⟩, 0, l, more⟩ t then guardN ⟨⟨[], [], 0⟩, 0, l, more⟩ t else -1
theorem gd_ok (l : List Ar) (more : Int) (t : T) (h0 : 0 ≤ more) (h1 : more ≤ 1000000000) (hl : l.length ≤ 1000000) (hn : n64 t.num) : Pure Tryz.prog n_posit_Guarded [eArs l, .int .i64 more, .agg (cT t)] [.int .i64 (gdI l more t)] := by
  refine p_posit_Guarded rfl fun hs => ?_
  have hG := guarded_ok ⟨⟨[], [], 0⟩, 0, l, more⟩ t h0 h1 hl hn
  rw [gdI]
  simp only [cPl, cBl, cT, eSos, eCos, eArs, List.map_nil, List.cons_append, List.nil_append] at hG
  simp -dsimp [x_posit_Guarded, cT, eArs]
  refine call_of hG ?_
  cases hb : guardB ⟨⟨[], [], 0⟩, 0, l, more⟩ t with
  | true => simp -dsimp [hb]
  | false => simp -dsimp [hb]
def shA (pt sh : T → T) : List Ar → List T → List T
  | a :: ar, x :: xs => pt x :: (if a.rc then sh x :: shA pt sh ar xs else shA pt sh ar xs)
  | _, _ => []
theorem shA_snoc (pt sh : T → T) : ∀ (ar : List Ar) (xs : List T) (i : Nat) (h : i < ar.length) (h' : i < xs.length), shA pt sh (ar.take (i + 1)) xs = shA pt sh (ar.take i) xs ++ (pt xs[i] :: if ar[i].rc then [sh xs[i]] else [])
  | a :: ar, x :: xs, 0, h, h' => by cases hr : a.rc <;> simp [shA, hr]
  | a :: ar, x :: xs, i + 1, h, h' => by
    have ih := shA_snoc pt sh ar xs i (by simpa using h) (by simpa using h')
    simp only [List.take_succ_cons, shA, List.getElem_cons_succ]
    rw [ih]
    cases a.rc <;> simp
theorem shA_len (pt sh : T → T) : ∀ (ar : List Ar) (xs : List T), (shA pt sh ar xs).length ≤ 2 * ar.length
  | [], xs => by simp [shA]
  | a :: ar, [] => by simp [shA]
  | a :: ar, x :: xs => by
    have := shA_len pt sh ar xs
    rw [shA]
    cases a.rc <;> simp <;> omega
theorem shA_mem {pt sh : T → T} {q : T → Prop} : ∀ (ar : List Ar) (xs : List T), (∀ (i : Nat) (h : i < ar.length) (h' : i < xs.length), q (pt xs[i]) ∧ (ar[i].rc = true → q (sh xs[i]))) → ∀ y ∈ shA pt sh ar xs, q y
  | [], xs, _, y, hy => by simp [shA] at hy
  | a :: ar, [], _, y, hy => by simp [shA] at hy
  | a :: ar, x :: xs, h, y, hy => by
    have h0 := h 0 (by simp) (by simp)
    simp only [List.getElem_cons_zero] at h0
    have ih := shA_mem ar xs (q := q) fun i hi hi' => by
      have := h (i + 1) (by simpa using hi) (by simpa using hi')
      simpa only [List.getElem_cons_succ] using this
    rw [shA] at hy
    cases hr : a.rc with
    | true =>
      rw [hr] at hy
      simp only [if_true, List.mem_cons] at hy
      rcases hy with rfl | rfl | hy
      · exact h0.1
      · exact h0.2 hr
      · exact ih y hy
    | false =>
      rw [hr] at hy
      simp only [Bool.false_eq_true, if_false, List.mem_cons] at hy
      rcases hy with rfl | hy
      · exact h0.1
      · exact ih y hy
def plV (v : Vw) (first : Nat) (more : Int) : Pl := ⟨v.b, v.base, v.args.take first, more⟩
def shT (v : Vw) (first : Nat) (more vars : Int) : Nat → T → T
  | 0, _ => zT
  | n + 1, t =>
    if guardB (plV v first more) (spH t) then spT (lv ((v.pos[(guardN (plV v first more) (spH t)).toNat]?).getD 0 + 1) (vars + more)) ((spA t).reverse.map fun x => putT v x first more vars)
    else spT (lv (v.b.sorts.length + (ofM v.b v.base (spH t).num).2) (vars + more)) (match v.b.cons[(ofM v.b v.base (spH t).num).2.toNat]? with
      | some c => shA (fun x => putT v x first more vars) (shT v first more vars n) c.args (spA t).reverse
      | none => [])
theorem lv_okT {l vars : Int} (h0 : -1000000 ≤ l) (h1 : l ≤ 1000000) (h2 : -1000000 ≤ vars) (h3 : vars ≤ 1000000) : okT (lv l vars) := .mk _ _ _ (by simp only [n64]; omega) (by simp only [n64]; omega) (by simp) (by simp)
structure VwOk (v : Vw) : Prop where
  pos : Pos v
  len : v.pos.length = v.args.length
  al : v.args.length ≤ 20
  sl : v.b.sorts.length ≤ 10
  cl : v.b.cons.length ≤ 20
  ca : ∀ c ∈ v.b.cons, c.args.length ≤ 20
  si : ∀ s ∈ v.b.sorts, s.idx.length ≤ 20
theorem room42 {n : Nat} (h : n ≤ 40) : (n + 1 + 1) * 40 ≤ maxRoom := by simp only [maxRoom]; omega
theorem room41 {n : Nat} (h : n ≤ 40) (_ : True) : (n + 1) * 40 ≤ maxRoom := by simp only [maxRoom]; omega
set_option maxHeartbeats 1000000 in
theorem shown_ok (v : Vw) (hv : VwOk v) (first : Nat) (hfi : first ≤ v.args.length) (more vars : Int) (h0 : 0 ≤ more) (h1 : more ≤ 1000) (h2 : 0 ≤ vars) (h3 : vars ≤ 1000) (cons : Int) : ∀ (n : Nat) (t : T), n ≤ 1000000 → formedM t = true → okT t → nodes t ≤ n →
    (guardB (plV v first more) (spH t) = true ∨ goodF n (plV v first more) t cons = true) →
    Pure Tryz.prog n_disp_view_shown [.rp (cVw v), .agg (cT t), .int .i64 first, .int .i64 more, .int .i64 vars] [.agg (cT (shT v first more vars n t))] ∧ okT (shT v first more vars n t) := by
  intro n
  induction n with
  | zero => intro t _ _ _ h; have := nodes_pos t; omega
  | succ n ih =>
    intro t hN ft ot hn hg
    have hp := hv.pos
    have hpl := hv.len
    have hal := hv.al
    have hsl := hv.sl
    have hcl := hv.cl
    have hA := spA_lt t
    have hS := split_ok t (by omega)
    obtain ⟨m1, m2⟩ := spA_mem t
    obtain ⟨oH, m3⟩ := m2 ot
    obtain ⟨fH, m4⟩ := sp_formed2 t ft
    have hm : ∀ x ∈ (spA t).reverse, nodes x < nodes t ∧ okT x ∧ formedM x = true := fun x hx => ⟨m1 x (by simpa using hx), m3 x (by simpa using hx), m4 x (by simpa using hx)⟩
    have hAl : (spA t).reverse.length ≤ 1000000 := by rw [List.length_reverse]; omega
    have hG := gd_ok (v.args.take first) more (spH t) h0 (by omega) (by rw [List.length_take]; omega) oH.num64
    have hO := of_ok v.b v.base (spH t).num
    have hgB : guardB ⟨⟨[], [], 0⟩, 0, v.args.take first, more⟩ (spH t) = guardB (plV v first more) (spH t) := rfl
    have hgN : guardN ⟨⟨[], [], 0⟩, 0, v.args.take first, more⟩ (spH t) = guardN (plV v first more) (spH t) := rfl
    rw [gdI, hgB, hgN] at hG
    have wv : IntKind.i64.wrap (vars + more) = vars + more := wrap_id (by omega) (by omega)
    by_cases hb : guardB (plV v first more) (spH t) = true
    · obtain ⟨_, j, hj, hjl⟩ := guardB_j hb
      have hjl' : j < v.pos.length := by simp only [plV, List.length_take] at hjl; omega
      have hge : v.pos[j]? = some v.pos[j] := List.getElem?_eq_getElem hjl'
      have hpj := hp.at_ _ (List.getElem_mem hjl')
      have e : shT v first more vars (n + 1) t = spT (lv (v.pos[j] + 1) (vars + more)) ((spA t).reverse.map fun x => putT v x first more vars) := by
        rw [shT, if_pos hb, hj, Int.toNat_natCast, hge]; rfl
      rw [if_pos hb, hj] at hG
      rw [e]
      have oL : okT (lv (v.pos[j] + 1) (vars + more)) := lv_okT (by omega) (by omega) (by omega) (by omega)
      have oP : ∀ x ∈ (spA t).reverse.map (fun x => putT v x first more vars), okT x := fun y hy => by
        obtain ⟨x, hx, rfl⟩ := List.mem_map.1 hy
        exact put_okT hp (hm x hx).2.2 (hm x hx).2.1 (by have := (hm x hx).1; omega) first more vars h0 (by omega) h2 (by omega)
      refine ⟨?_, sp_okT _ _ oL oP⟩
      have hL := level_ok8 (v.pos[j] + 1) (vars + more) (by omega) (by omega) (by omega) (by omega)
      have hPs := puts_ok v hp (spA t).reverse hAl (fun x hx => ⟨(hm x hx).2.2, by have := (hm x hx).1; omega⟩) first (by omega) more vars h0 (by omega) h2 (by omega)
      have hSp := spine_ok (lv (v.pos[j] + 1) (vars + more)) ((spA t).reverse.map fun x => putT v x first more vars) (by rw [List.length_map]; omega) oL ⟨by rw [List.length_map]; omega, oP⟩
      have w1 : IntKind.i64.wrap (v.pos[j] + 1) = v.pos[j] + 1 := wrap_id (by omega) (by omega)
      generalize spT (lv (v.pos[j] + 1) (vars + more)) ((spA t).reverse.map fun x => putT v x first more vars) = R at *
      generalize ((spA t).reverse.map fun x => putT v x first more vars) = M at *
      generalize (spA t).reverse = A at *
      generalize spH t = H at *
      generalize hPj : v.pos[j] = p at *
      generalize lv (p + 1) (vars + more) = L at *
      refine p_disp_view_shown rfl fun hs => ?_
      simp only [cVw, cBl, cT, eTs, eArs, List.map_take, List.cons_append, List.nil_append] at hS hG hL hPs hSp
      simp -dsimp [x_disp_view_shown, cT, cVw, cBl]
      refine call_of hS ?_
      have hfl : (first : Int) ≤ v.args.length := by omega
      simp -dsimp [eArs, hfl, hfi]
      refine call_of hG ?_
      simp -dsimp [hjl', hge, hPj, w1, wv]
      refine call_of hL ?_
      simp -dsimp
      refine call_of hPs ?_
      simp -dsimp
      refine call_of hSp ?_
      simp -dsimp [cT]
    · have hgood := hg.resolve_left hb
      rw [goodF] at hgood
      simp only [goodG] at hgood
      rw [if_neg hb] at hgood
      have hb' : guardB (plV v first more) (spH t) = false := by simpa using hb
      by_cases k3 : (spH t).kind = 3
      case neg => rw [if_neg k3] at hgood; cases hgood
      rw [if_pos k3] at hgood
      have eb : (plV v first more).b = v.b := rfl
      have ebase : (plV v first more).base = v.base := rfl
      rw [eb, ebase] at hgood
      by_cases k5 : (ofM v.b v.base (spH t).num).1 = 5
      case neg => rw [if_neg k5] at hgood; cases hgood
      rw [if_pos k5] at hgood
      by_cases k6 : (ofM v.b v.base (spH t).num).2 < cons
      case neg => rw [if_neg k6] at hgood; cases hgood
      rw [if_pos k6] at hgood
      obtain ⟨c, c1, c2, c3⟩ := of_five k5
      have hgc : v.b.cons[c]? = some v.b.cons[c] := List.getElem?_eq_getElem c1
      have e : shT v first more vars (n + 1) t = spT (lv (v.b.sorts.length + c) (vars + more)) (shA (fun x => putT v x first more vars) (shT v first more vars n) v.b.cons[c].args (spA t).reverse) := by
        rw [shT, if_neg hb, c3]
        simp only [Int.toNat_natCast, hgc]
      rw [c3] at hgood
      simp only [Int.toNat_natCast, hgc] at hgood
      have hcal := hv.ca _ (List.getElem_mem c1)
      by_cases k7 : (spA t).reverse.length = v.b.cons[c].args.length
      case neg => rw [if_neg k7] at hgood; cases hgood
      rw [if_pos k7] at hgood
      have hrec : ∀ (i : Nat) (h : i < v.b.cons[c].args.length) (h' : i < (spA t).reverse.length), v.b.cons[c].args[i].rc = true →
          Pure Tryz.prog n_disp_view_shown [.rp (cVw v), .agg (cT (spA t).reverse[i]), .int .i64 first, .int .i64 more, .int .i64 vars] [.agg (cT (shT v first more vars n (spA t).reverse[i]))] ∧ okT (shT v first more vars n (spA t).reverse[i]) := fun i h h' hr => by
        obtain ⟨x1, x2, x3⟩ := hm _ (List.getElem_mem h')
        refine ih _ (by omega) x3 x2 (by omega) ?_
        have hA := (allI_iff _ _ _).1 hgood i h
        rw [Nat.zero_add, List.getElem?_eq_getElem h'] at hA
        simp only [fitA, hr, if_true] at hA
        split at hA
        · exact .inr hA
        · have hk := (guardB_j hA).1
          refine .inl ?_
          have : spH (spA t).reverse[i] = (spA t).reverse[i] := by
            generalize (spA t).reverse[i] = x at hk
            obtain ⟨k, m, ks⟩ := x
            have hk' : k = 1 := hk
            exact (sp_none (fun h => by omega)).2
          rw [this]
          exact hA
      have hput : ∀ (i : Nat) (h' : i < (spA t).reverse.length), Pure Tryz.prog n_disp_view_put [.rp (cVw v), .agg (cT (spA t).reverse[i]), .int .i64 first, .int .i64 more, .int .i64 vars] [.agg (cT (putT v (spA t).reverse[i] first more vars))] := fun i h' => by
        obtain ⟨x1, x2, x3⟩ := hm _ (List.getElem_mem h')
        exact put_ok8 v hp _ x3 (by omega) first (by omega) more vars h0 (by omega) h2 (by omega)
      have oAll : ∀ y ∈ shA (fun x => putT v x first more vars) (shT v first more vars n) v.b.cons[c].args (spA t).reverse, okT y := shA_mem _ _ fun i h h' => by
        obtain ⟨x1, x2, x3⟩ := hm _ (List.getElem_mem h')
        exact ⟨put_okT hp x3 x2 (by omega) first more vars h0 (by omega) h2 (by omega), fun hr => (hrec i h h' hr).2⟩
      have oL : okT (lv (v.b.sorts.length + c) (vars + more)) := lv_okT (by omega) (by omega) (by omega) (by omega)
      rw [e]
      refine ⟨?_, sp_okT _ _ oL oAll⟩
      have hlen := shA_len (fun x => putT v x first more vars) (shT v first more vars n) v.b.cons[c].args (spA t).reverse
      have hL := level_ok8 (v.b.sorts.length + c) (vars + more) (by omega) (by omega) (by omega) (by omega)
      have hSp := spine_ok (lv (v.b.sorts.length + c) (vars + more)) _ (by omega : (shA (fun x => putT v x first more vars) (shT v first more vars n) v.b.cons[c].args (spA t).reverse).length ≤ 100000000) oL ⟨by omega, oAll⟩
      have w1 : IntKind.i64.wrap ((v.b.sorts.length : Int) + (c : Int)) = v.b.sorts.length + c := wrap_id (by omega) (by omega)
      rw [if_neg hb] at hG
      rw [c3] at hO
      generalize spT (lv (v.b.sorts.length + c) (vars + more)) (shA (fun x => putT v x first more vars) (shT v first more vars n) v.b.cons[c].args (spA t).reverse) = R at *
      have hsn := shA_snoc (fun x => putT v x first more vars) (shT v first more vars n) v.b.cons[c].args (spA t).reverse
      have hsl2 := fun i => shA_len (fun x => putT v x first more vars) (shT v first more vars n) (v.b.cons[c].args.take i) (spA t).reverse
      clear hgood oAll oL hm m1 m2 m3 m4 e ih
      generalize (spA t).reverse = A at *
      generalize spH t = H at *
      generalize lv (v.b.sorts.length + c) (vars + more) = L at *
      refine p_disp_view_shown rfl fun hs => ?_
      simp only [cVw, cBl, eBl, cT, eTs, eArs, List.map_take, List.cons_append, List.nil_append] at hS hG hO hL hSp
      simp -dsimp [x_disp_view_shown, cT, cVw, cBl]
      refine call_of hS ?_
      have hfl : (first : Int) ≤ v.args.length := by omega
      simp -dsimp [eArs, hfl, hfi]
      refine call_of hG ?_
      simp -dsimp
      refine call_of hO ?_
      generalize hCc : v.b.cons[c] = C at *
      simp -dsimp [c1, hgc, hCc, eCos, eCo, cCo, cT, eArs]
      refine wp_upto C.args.length (fun i st => (st.s 0 = .d (.rp (cVw v)) ∧ st.s 2 = .d (.int .i64 first) ∧ st.s 3 = .d (.int .i64 more) ∧ st.s 4 = .d (.int .i64 vars)) ∧ (st.s 10 = .ptr 10 1 0 ∧ st.h 10 = ⟨1, .box [.d (.int .i64 0), .d (.int .i64 0), .fsl 3 []] false⟩) ∧
        (st.s 12 = .d (eTs A) ∧ st.s 15 = .d (.int .i64 c)) ∧ (st.s 76 = .d (eArs C.args) ∧ st.s 77 = .d (.int .i64 C.args.length)) ∧ st.s 78 = .d (.int .i64 i) ∧
        ∃ u, st.s 16 = .rsl 16 u ∧ st.h 16 = ⟨u, .row 3 ((shA (fun x => putT v x first more vars) (shT v first more vars n) (C.args.take i) A).map eT) false⟩) ?_ ?_
      · simp -dsimp [cVw, cBl, eTs, eArs, eCos, shA]
      · rintro i ⟨s, hp'⟩ hi ⟨⟨g0, g2, g3, g4⟩, ⟨g10, k10⟩, ⟨g12, g15⟩, ⟨g76, g77⟩, g78, u, g16, k16⟩
        dsimp only at g0 g2 g3 g4 g10 k10 g12 g15 g76 g77 g78 g16 k16
        simp only [eTs, eArs] at g12 g76
        rcases Nat.lt_or_ge i C.args.length with hlt | hge
        · have w2 : IntKind.i64.wrap ((i : Int) + 1) = (i : Int) + 1 := wrap_id (by omega) (by omega)
          have hltA : i < A.length := by omega
          have hsn1 := hsn i hlt hltA
          have hsl1 := hsl2 i
          rw [List.length_take] at hsl1
          have hPi := hput i hltA
          have hRi := hrec i hlt hltA
          generalize hAr : C.args[i] = Ar_ at *
          generalize hX : A[i] = X at *
          rw [hsn1]
          generalize shA (fun x => putT v x first more vars) (shT v first more vars n) (C.args.take i) A = G at *
          have hgl : G.length ≤ 40 := by omega
          have r1 : (G.length + 1) * 40 ≤ maxRoom := room41 hgl trivial
          have r2 : (G.length + 1 + 1) * 40 ≤ maxRoom := room42 hgl
          simp only [cT] at hPi hRi
          simp -dsimp [g0, g2, g3, g4, g10, k10, g12, g15, g76, g77, g78, g16, k16, hlt, hltA, hAr, hX, eAr, cAr, cT]
          refine call_of hPi ?_
          cases hr : Ar_.rc with
          | false => simp -dsimp [g0, g2, g3, g4, g10, k10, g12, g15, g76, g77, g78, g16, k16, hlt, hltA, hAr, hX, eAr, cAr, cT, hr, r1, w2, eT_eq, eTs, eArs]
          | true =>
            have hRi' := (hRi hr).1
            simp -dsimp [g0, g2, g3, g4, g10, k10, g12, g15, g76, g77, g78, g16, k16, hlt, hltA, hAr, hX, eAr, cAr, cT, hr, r1]
            refine call_of hRi' ?_
            simp -dsimp [g0, g2, g3, g4, g10, k10, g12, g15, g76, g77, g78, g16, k16, hlt, hltA, hAr, hX, eAr, cAr, cT, hr, r1, r2, w2, eT_eq, eTs, eArs]
        · have e : i = C.args.length := by omega
          subst e
          rw [List.take_length] at k16
          simp -dsimp [g0, g2, g3, g4, g10, k10, g12, g15, g76, g77, g78, g16, k16, cVw, cBl, eSos, w1, wv]
          refine call_of hL ?_
          simp -dsimp [g0, g2, g3, g4, g10, k10, g12, g15, g76, g77, g78, g16, k16, cT]
          refine call_of hSp ?_
          simp -dsimp [g10, k10, cT]
end
end Ev
end Go.Proofs.YtdhfkbdhdgaccaaGreat
/- disp: indices, types of telescopes. -/
namespace Go.Proofs.YtdhfkbdhdgaccaaGreat
namespace Ev
open Go
set_option maxRecDepth 100000
set_option linter.unusedSimpArgs false
set_option linter.unusedVariables false
section
attribute [local simp] allD_map_d sks_map_d tk tn tks initA EndsM one_sos one_cos one_ars one_ts
def inT (v : Vw) (n : Nat) (so : So) (l : List T) (first : Nat) (more vars : Int) : List T := shA (fun x => putT v x first more vars) (shT v first more vars n) so.idx l
theorem indices8_ok (v : Vw) (hv : VwOk v) (n : Nat) (hN : n ≤ 1000000) (k : Int) (so : So) (hk0 : 0 ≤ k) (hk : v.b.sorts[k.toNat]? = some so) (l : List T) (hll : l.length = so.idx.length) (first : Nat) (hfi : first ≤ v.args.length) (more vars : Int) (h0 : 0 ≤ more) (h1 : more ≤ 1000) (h2 : 0 ≤ vars) (h3 : vars ≤ 1000) (cons : Int)
    (hl : ∀ x ∈ l, formedM x = true ∧ okT x ∧ nodes x ≤ n) (hg : indF n (plV v first more) so l cons = true) :
    OwnC Tryz.prog n_disp_view_indices [.rp (cVw v), .int .i64 k, eTs l, .int .i64 first, .int .i64 more, .int .i64 vars] [.one (.row 3 ((inT v n so l first more vars).map eT) false)] ∧ (∀ y ∈ inT v n so l first more vars, okT y) ∧ (inT v n so l first more vars).length ≤ 40 := by
  have hp := hv.pos
  have hpl := hv.len
  have hal := hv.al
  have hsil := hv.si _ (List.mem_of_getElem? hk)
  have hklt := (List.getElem?_eq_some_iff.1 hk).1
  have hk' := (List.getElem?_eq_some_iff.1 hk).2
  have hrec : ∀ (i : Nat) (h : i < so.idx.length) (h' : i < l.length), so.idx[i].rc = true →
      Pure Tryz.prog n_disp_view_shown [.rp (cVw v), .agg (cT l[i]), .int .i64 first, .int .i64 more, .int .i64 vars] [.agg (cT (shT v first more vars n l[i]))] ∧ okT (shT v first more vars n l[i]) := fun i h h' hr => by
    obtain ⟨x1, x2, x3⟩ := hl _ (List.getElem_mem h')
    refine shown_ok v hv first hfi more vars h0 h1 h2 h3 cons n _ hN x1 x2 x3 (.inr ?_)
    rw [indF] at hg
    have hA := (allI_iff _ _ _).1 hg i h
    rw [Nat.zero_add, List.getElem?_eq_getElem h'] at hA
    simpa only [hr, if_true] using hA
  have hput : ∀ (i : Nat) (h' : i < l.length), Pure Tryz.prog n_disp_view_put [.rp (cVw v), .agg (cT l[i]), .int .i64 first, .int .i64 more, .int .i64 vars] [.agg (cT (putT v l[i] first more vars))] := fun i h' => by
    obtain ⟨x1, x2, x3⟩ := hl _ (List.getElem_mem h')
    exact put_ok8 v hp _ x1 (by omega) first (by omega) more vars h0 (by omega) h2 (by omega)
  have oAll : ∀ y ∈ inT v n so l first more vars, okT y := shA_mem _ _ fun i h h' => by
    obtain ⟨x1, x2, x3⟩ := hl _ (List.getElem_mem h')
    exact ⟨put_okT hp x1 x2 (by omega) first more vars h0 (by omega) h2 (by omega), fun hr => (hrec i h h' hr).2⟩
  have hlen := shA_len (fun x => putT v x first more vars) (shT v first more vars n) so.idx l
  refine ⟨?_, oAll, by rw [inT]; omega⟩
  have hsn := shA_snoc (fun x => putT v x first more vars) (shT v first more vars n) so.idx l
  have hsl2 := fun i => shA_len (fun x => putT v x first more vars) (shT v first more vars n) (so.idx.take i) l
  rw [inT]
  clear oAll hl hg hlen
  refine o_disp_view_indices rfl fun hs => ?_
  simp -dsimp [x_disp_view_indices, cVw, cBl, eTs, eSos, hk0, hklt, hk, hk', eSo, cSo, eArs, cT]
  refine wp_upto so.idx.length (fun i st => (st.s 0 = .d (.rp (cVw v)) ∧ st.s 2 = .d (eTs l) ∧ st.s 3 = .d (.int .i64 first) ∧ st.s 4 = .d (.int .i64 more) ∧ st.s 5 = .d (.int .i64 vars)) ∧ (st.s 12 = .rsl 12 1 ∧ st.h 12 = ⟨1, .row 3 [] false⟩) ∧
    (st.s 24 = .d (eArs so.idx) ∧ st.s 25 = .d (.int .i64 so.idx.length)) ∧ st.s 26 = .d (.int .i64 i) ∧
    ∃ u, st.s 13 = .rsl 13 u ∧ st.h 13 = ⟨u, .row 3 ((shA (fun x => putT v x first more vars) (shT v first more vars n) (so.idx.take i) l).map eT) false⟩) ?_ ?_
  · simp -dsimp [cVw, cBl, eTs, eArs, eSos, shA]
  · rintro i ⟨s, hp'⟩ hi ⟨⟨g0, g2, g3, g4, g5⟩, ⟨g12, k12⟩, ⟨g24, g25⟩, g26, u, g13, k13⟩
    dsimp only at g0 g2 g3 g4 g5 g12 k12 g24 g25 g26 g13 k13
    simp only [eTs, eArs] at g2 g24
    rcases Nat.lt_or_ge i so.idx.length with hlt | hge
    · have w2 : IntKind.i64.wrap ((i : Int) + 1) = (i : Int) + 1 := wrap_id (by omega) (by omega)
      have hltA : i < l.length := by omega
      have hsn1 := hsn i hlt hltA
      have hsl1 := hsl2 i
      rw [List.length_take] at hsl1
      have hPi := hput i hltA
      have hRi := hrec i hlt hltA
      generalize hAr : so.idx[i] = Ar_ at *
      generalize hX : l[i] = X at *
      rw [hsn1]
      generalize shA (fun x => putT v x first more vars) (shT v first more vars n) (so.idx.take i) l = G at *
      have hgl : G.length ≤ 40 := by omega
      have r1 : (G.length + 1) * 40 ≤ maxRoom := room41 hgl trivial
      have r2 : (G.length + 1 + 1) * 40 ≤ maxRoom := room42 hgl
      simp only [cT] at hPi hRi
      simp -dsimp [g0, g2, g3, g4, g5, g12, k12, g24, g25, g26, g13, k13, hlt, hltA, hAr, hX, eAr, cAr, cT]
      refine call_of hPi ?_
      cases hr : Ar_.rc with
      | false => simp -dsimp [g0, g2, g3, g4, g5, g12, k12, g24, g25, g26, g13, k13, hlt, hltA, hAr, hX, eAr, cAr, cT, hr, r1, w2, eT_eq, eTs, eArs]
      | true =>
        have hRi' := (hRi hr).1
        simp -dsimp [g0, g2, g3, g4, g5, g12, k12, g24, g25, g26, g13, k13, hlt, hltA, hAr, hX, eAr, cAr, cT, hr, r1]
        refine call_of hRi' ?_
        simp -dsimp [g0, g2, g3, g4, g5, g12, k12, g24, g25, g26, g13, k13, hlt, hltA, hAr, hX, eAr, cAr, cT, hr, r1, r2, w2, eT_eq, eTs, eArs]
    · have e : i = so.idx.length := by omega
      subst e
      rw [List.take_length] at k13
      simp -dsimp [g0, g2, g3, g4, g5, g12, k12, g24, g25, g26, g13, k13]
theorem own8_ok (v : Vw) (hv : VwOk v) (vars : Int) (h2 : 0 ≤ vars) (h3 : vars ≤ 1000) : Pure Tryz.prog n_disp_view_own [.rp (cVw v), .int .i64 vars] [eTs (v.pos.map fun p => lv p vars)] ∧ ∀ y ∈ v.pos.map (fun p => lv p vars), okT y := by
  have hp := hv.pos
  have hpl := hv.len
  have hal := hv.al
  refine ⟨?_, fun y hy => ?_⟩
  case refine_2 =>
    obtain ⟨p, hpm, rfl⟩ := List.mem_map.1 hy
    have := hp.at_ p hpm
    exact lv_okT (by omega) (by omega) (by omega) (by omega)
  refine p_disp_view_own rfl fun hs => ?_
  simp -dsimp [x_disp_view_own, cVw, cBl]
  refine wp_upto v.pos.length (fun i st => st.s 1 = .d (.int .i64 vars) ∧ (st.s 4 = .rsl 4 1 ∧ st.h 4 = ⟨1, .row 3 [] false⟩) ∧ (st.s 11 = .d (.sl 1 (v.pos.map (.int .i64))) ∧ st.s 12 = .d (.int .i64 v.pos.length)) ∧ st.s 13 = .d (.int .i64 i) ∧
    ∃ u, st.s 5 = .rsl 5 u ∧ st.h 5 = ⟨u, .row 3 (((v.pos.map fun p => lv p vars).take i).map eT) false⟩) ?_ ?_
  · simp -dsimp
  · rintro i ⟨s, hp'⟩ hi ⟨g1, ⟨g4, k4⟩, ⟨g11, g12⟩, g13, u, g5, k5⟩
    dsimp only at g1 g4 k4 g11 g12 g13 g5 k5
    rcases Nat.lt_or_ge i v.pos.length with hlt | hge
    · have w1 : IntKind.i64.wrap ((i : Int) + 1) = (i : Int) + 1 := wrap_id (by omega) (by omega)
      have hpj := hp.at_ _ (List.getElem_mem hlt)
      have hP := level_ok8 v.pos[i] vars (by omega) (by omega) (by omega) (by omega)
      have hn : ((v.pos.map fun p => lv p vars).take (i + 1)).map eT = ((v.pos.map fun p => lv p vars).take i).map eT ++ [.agg (cT (lv v.pos[i] vars))] := by
        rw [take_snoc (List.getElem?_eq_getElem (by simpa using hlt)), List.map_append]
        simp [eT_eq]
      generalize hX : lv v.pos[i] vars = X at *
      generalize hM : (v.pos.map fun p => lv p vars) = M at *
      have hMl : M.length = v.pos.length := by rw [← hM, List.length_map]
      have hr : (min i M.length + 1) * 40 ≤ maxRoom := by simp only [maxRoom]; omega
      rw [hn]
      simp only [cT] at hP
      simp -dsimp [g1, g4, k4, g11, g12, g13, g5, k5, hlt, cT]
      refine call_of hP ?_
      simp -dsimp [g1, g4, k4, g11, g12, g13, g5, k5, hlt, cT, hr, w1]
      try exact hlt
    · have e : i = v.pos.length := by omega
      subst e
      rw [List.take_of_length_le (by simp)] at k5
      simp -dsimp [g1, g4, k4, g11, g12, g13, g5, k5, eTs]
/-- Domains put. -/
def dmP (v : Vw) (first : Nat) (vars : Int) : Nat → List T → List T
  | _, [] => []
  | j, d :: ds => putT v d first j vars :: dmP v first vars (j + 1) ds
theorem dmP_snoc (v : Vw) (first : Nat) (vars : Int) : ∀ (l : List T) (j i : Nat) (h : i < l.length), dmP v first vars j (l.take (i + 1)) = dmP v first vars j (l.take i) ++ [putT v l[i] first ((j + i : Nat) : Int) vars]
  | d :: ds, j, 0, h => by simp [dmP]
  | d :: ds, j, i + 1, h => by
    simp only [List.take_succ_cons, dmP, List.getElem_cons_succ, List.cons_append]
    rw [dmP_snoc v first vars ds (j + 1) i (by simpa using h)]
    congr 4
    omega
theorem dmP_len (v : Vw) (first : Nat) (vars : Int) : ∀ (l : List T) (j : Nat), (dmP v first vars j l).length = l.length
  | [], j => rfl
  | d :: ds, j => by rw [dmP, List.length_cons, dmP_len v first vars ds, List.length_cons]
theorem dmP_mem {v : Vw} {first : Nat} {vars : Int} {q : T → Prop} : ∀ (l : List T) (j : Nat), (∀ (i : Nat) (h : i < l.length), q (putT v l[i] first ((j + i : Nat) : Int) vars)) → ∀ y ∈ dmP v first vars j l, q y
  | [], j, _, y, hy => by simp [dmP] at hy
  | d :: ds, j, h, y, hy => by
    rw [dmP] at hy
    rcases List.mem_cons.1 hy with rfl | hy
    · have := h 0 (by simp)
      simpa using this
    · refine dmP_mem ds (j + 1) (fun i hi => ?_) y hy
      have := h (i + 1) (by simpa using hi)
      simp only [List.getElem_cons_succ] at this
      rwa [show j + 1 + i = j + (i + 1) by omega]
/-- The types that an argument stands for. -/
def tyA (v : Vw) (n : Nat) (i : Nat) (p : Int) (a : Ar) : List T :=
  putT v (argTy v.b v.base a) i 0 p :: (if a.rc then [nestT 4 (dmP v i (p + 1) 0 a.dom) (spT (lv a.sort (p + 1 + a.dom.length)) ((match v.b.sorts[a.sort.toNat]? with
    | some so => inT v n so a.idx i a.dom.length (p + 1)
    | none => []) ++ [spT (lv p (p + 1 + a.dom.length)) (varsN a.dom.length)]))] else [])
def tyL (v : Vw) (n : Nat) : Nat → List Ar → List T
  | _, [] => []
  | i, a :: l => tyA v n i ((v.pos[i]?).getD 0) a ++ tyL v n (i + 1) l
theorem tyL_snoc (v : Vw) (n : Nat) : ∀ (l : List Ar) (i j : Nat) (h : j < l.length), tyL v n i (l.take (j + 1)) = tyL v n i (l.take j) ++ tyA v n (i + j) ((v.pos[i + j]?).getD 0) l[j]
  | a :: l, i, 0, h => by simp [tyL]
  | a :: l, i, j + 1, h => by
    simp only [List.take_succ_cons, tyL, List.getElem_cons_succ, List.append_assoc]
    rw [tyL_snoc v n l (i + 1) j (by simpa using h), show i + 1 + j = i + (j + 1) by omega]
theorem varsT_N (n : Nat) (h : n ≤ 65536) : varsT n = varsN n := by
  rw [varsT]
  split
  · have : n = 0 := by omega
    subst this; rfl
  · rw [Int.toNat_natCast]
theorem varsN_ok (n : Nat) (h : n ≤ 65536) : ∀ y ∈ varsN n, okT y := fun y hy => by
  simp only [varsN, List.mem_map, List.mem_range] at hy
  obtain ⟨i, hi, rfl⟩ := hy
  exact okT_leaf (by omega) (by omega)
/-- What the types of a telescope ask. -/
structure TyOk (v : Vw) (n : Nat) (cons : Int) : Prop where
  vw : VwOk v
  fit : Fit v.b
  b0 : 0 ≤ v.base
  b1 : v.base ≤ 60000
  pos : ∀ p ∈ v.pos, p ≤ 900
  ok : okArs v.args
  fine : FineArs v.args
  row : rowM v.b v.args = true
  good : rowF n v.b v.base v.args cons = true
set_option maxHeartbeats 2000000 in
theorem types8_ok (v : Vw) (n : Nat) (hN : n ≤ 1000000) (hn9 : 9000 ≤ n) (cons : Int) (H : TyOk v n cons) : Pure Tryz.prog n_disp_view_types [.rp (cVw v)] [eTs (tyL v n 0 v.args)] ∧ (∀ y ∈ tyL v n 0 v.args, okT y) ∧ (tyL v n 0 v.args).length ≤ 40 := by
  have hv := H.vw
  have hp := hv.pos
  have hpl := hv.len
  have hal := hv.al
  have hsl := H.fit.s
  obtain ⟨hr1, hr2⟩ := rowM_at H.row
  have hsn := tyL_snoc v n v.args 0
  -- what each argument gives
  have hA : ∀ (i : Nat) (hi : i < v.args.length), ∃ p : Int, v.pos[i]? = some p ∧ 0 ≤ p ∧ p ≤ 900 := fun i hi =>
    ⟨_, List.getElem?_eq_getElem (by omega), (hp.at_ _ (List.getElem_mem _)).1, H.pos _ (List.getElem_mem (by omega))⟩
  have hty : ∀ (i : Nat) (hi : i < v.args.length), formedM (argTy v.b v.base v.args[i]) = true ∧ okT (argTy v.b v.base v.args[i]) ∧ nodes (argTy v.b v.base v.args[i]) ≤ 1000000 := fun i hi => by
    have fa := H.fine.2 _ (List.getElem_mem hi)
    have oa := H.ok.2 _ (List.getElem_mem hi)
    have := argTy_nodes (b := v.b) (base := v.base) fa
    exact ⟨(argTy_right H.fit H.b0 H.b1 fa (by omega) (hr2 i hi)).2, argTy_okT _ _ oa, by omega⟩
  have hrc : ∀ (i : Nat) (hi : i < v.args.length), v.args[i].rc = true → 0 ≤ v.args[i].sort ∧ v.args[i].dom.length ≤ 12 ∧ (∀ x ∈ v.args[i].dom, formedM x = true ∧ okT x ∧ nodes x ≤ n) ∧ (∀ x ∈ v.args[i].idx, formedM x = true ∧ okT x ∧ nodes x ≤ n) ∧
      ∃ so, v.b.sorts[v.args[i].sort.toNat]? = some so ∧ v.args[i].idx.length = so.idx.length ∧ indF n (plV v i v.args[i].dom.length) so v.args[i].idx cons = true := fun i hi hr => by
    have fa := H.fine.2 _ (List.getElem_mem hi)
    have oa := H.ok.2 _ (List.getElem_mem hi)
    obtain ⟨_, s0, s1, d1, ⟨so, hso, hil⟩, hd, hx⟩ := argM_rec (hr2 i hi) hr (by omega) (by omega)
    refine ⟨s0, d1, fun x hxm => ?_, fun x hxm => ?_, so, hso, hil, ?_⟩
    · obtain ⟨j, hj, rfl⟩ := List.mem_iff_getElem.1 hxm
      have hnx : nodes v.args[i].dom[j] ≤ 9000 := Nat.le_trans (sum_mem (List.mem_map.2 ⟨_, hxm, rfl⟩)) fa.dom
      exact ⟨(in_facts (hd j hj) (by omega) (by omega) (by omega)).2.1, oa.dom.2 _ hxm, by omega⟩
    · have hnx : nodes x ≤ 9000 := Nat.le_trans (sum_mem (List.mem_map.2 ⟨_, hxm, rfl⟩)) fa.idx
      exact ⟨(in_facts (hx x hxm) (by omega) (by omega) (by omega)).2.1, oa.idx.2 _ hxm, by omega⟩
    · have hg := (allI_iff _ _ _).1 H.good i hi
      rw [Nat.zero_add, argF, if_pos hr, hso, Bool.and_eq_true] at hg
      exact hg.2
  have hTok : ∀ (i : Nat) (hi : i < v.args.length) (p : Int), v.pos[i]? = some p → 0 ≤ p → p ≤ 900 → ∀ y ∈ tyA v n i p v.args[i], okT y := fun i hi p hpi p0 p1 y hy => by
    obtain ⟨t1, t2, t3⟩ := hty i hi
    rw [tyA] at hy
    rcases List.mem_cons.1 hy with rfl | hy
    · exact put_okT hp t1 t2 t3 i 0 p (by omega) (by omega) p0 (by omega)
    · split at hy
      · rename_i hr
        obtain ⟨s0, d1, hd, hx, so, hso, hil, hg⟩ := hrc i hi hr
        have hsb := (List.getElem?_eq_some_iff.1 hso).1
        rw [List.mem_singleton] at hy
        subst hy
        rw [hso]
        have hI := indices8_ok v hv n hN v.args[i].sort so s0 hso v.args[i].idx hil i (by omega) v.args[i].dom.length (p + 1) (by omega) (by omega) (by omega) (by omega) cons hx hg
        refine nest_okT (by omega) _ (sp_okT _ _ (lv_okT (by omega) (by omega) (by omega) (by omega)) fun z hz => ?_) _ (dmP_mem _ _ fun j hj => ?_)
        · rcases List.mem_append.1 hz with hz | hz
          · exact hI.2.1 z hz
          · rw [List.mem_singleton] at hz
            subst hz
            exact sp_okT _ _ (lv_okT (by omega) (by omega) (by omega) (by omega)) (varsN_ok _ (by omega))
        · obtain ⟨x1, x2, x3⟩ := hd _ (List.getElem_mem hj)
          exact put_okT hp x1 x2 (by omega) i _ (p + 1) (by omega) (by omega) (by omega) (by omega)
      · simp at hy
  have hlen : ∀ (l : List Ar) (i : Nat), (tyL v n i l).length ≤ 2 * l.length := by
    intro l
    induction l with
    | nil => intro i; simp [tyL]
    | cons a l ih =>
      intro i
      have := ih (i + 1)
      rw [tyL, List.length_append, tyA, List.length_cons, List.length_cons]
      split <;> simp <;> omega
  have hAll : ∀ y ∈ tyL v n 0 v.args, okT y := by
    have go : ∀ j, j ≤ v.args.length → ∀ y ∈ tyL v n 0 (v.args.take j), okT y := by
      intro j
      induction j with
      | zero => intro _ y hy; simp [tyL] at hy
      | succ j ih =>
        intro hj y hy
        rw [hsn j (by omega)] at hy
        rcases List.mem_append.1 hy with hy | hy
        · exact ih (by omega) y hy
        · obtain ⟨p, hpi, p0, p1⟩ := hA j (by omega)
          rw [Nat.zero_add, hpi] at hy
          exact hTok j (by omega) p hpi p0 p1 y hy
    have := go v.args.length (Nat.le_refl _)
    rwa [List.take_length] at this
  refine ⟨?_, hAll, by have := hlen v.args 0; omega⟩
  refine p_disp_view_types rfl fun hs => ?_
  simp -dsimp [x_disp_view_types, cVw, cBl, eArs]
  refine wp_upto v.args.length (fun i st => st.s 0 = .d (.rp (cVw v)) ∧ (st.s 2 = .rsl 2 1 ∧ st.h 2 = ⟨1, .row 3 [] false⟩) ∧ (st.s 15 = .d (eArs v.args) ∧ st.s 16 = .d (.int .i64 v.args.length)) ∧ st.s 17 = .d (.int .i64 i) ∧
    ∃ u, st.s 3 = .rsl 3 u ∧ st.h 3 = ⟨u, .row 3 ((tyL v n 0 (v.args.take i)).map eT) false⟩) ?_ ?_
  · simp -dsimp [cVw, cBl, eArs, tyL]
  · rintro i ⟨s, hp'⟩ hi ⟨g0, ⟨g2, k2⟩, ⟨g15, g16⟩, g17, u, g3, k3⟩
    dsimp only at g0 g2 k2 g15 g16 g17 g3 k3
    simp only [eArs] at g15
    rcases Nat.lt_or_ge i v.args.length with hlt | hge
    · have w1 : IntKind.i64.wrap ((i : Int) + 1) = (i : Int) + 1 := wrap_id (by omega) (by omega)
      obtain ⟨p, hpi, p0, p1⟩ := hA i hlt
      have hlp : i < v.pos.length := by omega
      have hpi' : v.pos[i] = p := by have := (List.getElem?_eq_some_iff.1 hpi).2; exact this
      have hs1 := hsn i hlt
      rw [Nat.zero_add, hpi] at hs1
      have hl1 := hlen (v.args.take i) 0
      rw [List.length_take] at hl1
      rw [hs1]
      generalize tyL v n 0 (v.args.take i) = G at *
      have hgl : G.length ≤ 40 := by omega
      have hAT := argType_ok v.b v.base v.args[i] (H.ok.2 _ (List.getElem_mem hlt)) (H.fine.2 _ (List.getElem_mem hlt))
      obtain ⟨t1, t2, t3⟩ := hty i hlt
      have hPT := put_ok8 v hp (argTy v.b v.base v.args[i]) t1 t3 i (by omega) 0 p (by omega) (by omega) p0 (by omega)
      have hrci := hrc i hlt
      clear hsn hA hty hrc hTok hlen hAll
      simp only [Option.getD_some, tyA]
      generalize hR : v.args[i] = R at *
      generalize putT v (argTy v.b v.base R) i 0 p = PT at *
      generalize argTy v.b v.base R = AT at *
      simp only [eBl, cBl, cAr, cT, List.cons_append, List.nil_append] at hAT hPT
      simp -dsimp [g0, g2, k2, g15, g16, g17, g3, k3, hlt, hR, eAr, cAr, cT, cVw, cBl]
      refine call_of hAT ?_
      simp -dsimp [g0, g2, k2, g15, g16, g17, g3, k3, hlt, hR, eAr, cAr, cT, cVw, cBl, hlp, hpi, hpi']
      simp only [cVw, cBl, List.cons_append, List.nil_append] at hPT
      refine call_of hPT ?_
      cases hr : R.rc with
      | false =>
        simp -dsimp [g0, g2, k2, g15, g16, g17, g3, k3, hlt, hR, eAr, cAr, cT, cVw, cBl, hr, room41 hgl trivial, w1, eT_eq, eArs]
        done
      | true =>
        obtain ⟨s0, d1, hd, hx, so, hso, hil, hg⟩ := hrci hr
        have hI := indices8_ok v hv n hN R.sort so s0 hso R.idx hil i (by omega) R.dom.length (p + 1) (by omega) (by omega) (by omega) (by omega) cons hx hg
        have v1 : IntKind.i64.wrap (p + 1) = p + 1 := wrap_id (by omega) (by omega)
        have v2 : IntKind.i64.wrap (p + 1 + (R.dom.length : Int)) = p + 1 + R.dom.length := wrap_id (by omega) (by omega)
        have hdl := dmP_len v i (p + 1)
        have hds := dmP_snoc v i (p + 1) R.dom 0
        have hPd : ∀ (j : Nat) (hj : j < R.dom.length), Pure Tryz.prog n_disp_view_put [.rp (cVw v), .agg (cT R.dom[j]), .int .i64 i, .int .i64 j, .int .i64 (p + 1)] [.agg (cT (putT v R.dom[j] i j (p + 1)))] := fun j hj => by
          obtain ⟨x1, x2, x3⟩ := hd _ (List.getElem_mem hj)
          exact put_ok8 v hp _ x1 (by omega) i (by omega) j (p + 1) (by omega) (by omega) (by omega) (by omega)
        have hssl := (List.getElem?_eq_some_iff.1 hso).1
        have hsr : R.sort ≤ 10 := by omega
        have hL1 := level_ok8 p (p + 1 + R.dom.length) (by omega) (by omega) (by omega) (by omega)
        have oL1 := lv_okT (l := p) (vars := p + 1 + R.dom.length) (by omega) (by omega) (by omega) (by omega)
        have hV := vars_ok (R.dom.length : Int)
        rw [varsT_N _ (by omega)] at hV
        have oV := varsN_ok R.dom.length (by omega)
        have hVl := varsN_len R.dom.length
        have hS1 := spine_ok (lv p (p + 1 + R.dom.length)) (varsN R.dom.length) (by omega) oL1 ⟨by omega, oV⟩
        have oS1 := sp_okT (varsN R.dom.length) _ oL1 oV
        have hL2 := level_ok8 R.sort (p + 1 + R.dom.length) (by omega) (by omega) (by omega) (by omega)
        have oL2 := lv_okT (l := R.sort) (vars := p + 1 + R.dom.length) (by omega) (by omega) (by omega) (by omega)
        obtain ⟨hI1, hI2, hI3⟩ := hI
        rw [hso]
        simp only
        generalize inT v n so R.idx i R.dom.length (p + 1) = J at *
        generalize spT (lv p (p + 1 + R.dom.length)) (varsN R.dom.length) = S1 at *
        generalize lv p (p + 1 + R.dom.length) = L1 at *
        generalize varsN R.dom.length = Vs at *
        generalize lv R.sort (p + 1 + R.dom.length) = L2 at *
        have oJ : ∀ y ∈ J ++ [S1], okT y := fun y hy => by
          rcases List.mem_append.1 hy with hy | hy
          · exact hI2 y hy
          · rw [List.mem_singleton] at hy; subst hy; exact oS1
        have hS2 := spine_ok L2 (J ++ [S1]) (by rw [List.length_append, List.length_singleton]; omega) oL2 ⟨by rw [List.length_append, List.length_singleton]; omega, oJ⟩
        have oS2 := sp_okT (J ++ [S1]) _ oL2 oJ
        generalize spT L2 (J ++ [S1]) = S2 at *
        have oD : ∀ y ∈ dmP v i (p + 1) 0 R.dom, okT y := dmP_mem _ _ fun j hj => by
          obtain ⟨x1, x2, x3⟩ := hd _ (List.getElem_mem hj)
          exact put_okT hp x1 x2 (by omega) i _ (p + 1) (by omega) (by omega) (by omega) (by omega)
        have hPi := pis_ok (dmP v i (p + 1) 0 R.dom) S2 (by rw [hdl]; omega) oS2 ⟨by rw [hdl]; omega, oD⟩
        generalize nestT 4 (dmP v i (p + 1) 0 R.dom) S2 = PI at *
        simp only [cVw, cBl, cT, eTs, List.map_append, List.map_cons, List.map_nil, eT_eq, List.cons_append, List.nil_append] at hI1 hL1 hV hS1 hL2 hS2
        simp only [cT, eTs] at hPi
        simp -dsimp [g0, g2, k2, g15, g16, g17, g3, k3, hlt, hR, eAr, cAr, cT, cVw, cBl, hr, room41 hgl trivial, w1, hlp, hpi, hpi', v1, eTs, eArs]
        refine wp_upto R.dom.length (fun j st => (st.s 0 = .d (.rp (cVw v)) ∧ st.s 4 = .d (.int .i64 i) ∧ st.s 6 = .d (.int .i64 (p + 1)) ∧ st.s 7 = .d (.int .i64 R.dom.length)) ∧ (st.s 2 = .rsl 2 1 ∧ st.h 2 = ⟨1, .row 3 [] false⟩) ∧ (st.s 15 = .d (eArs v.args) ∧ st.s 16 = .d (.int .i64 v.args.length)) ∧ st.s 17 = .d (.int .i64 i) ∧
          (st.s 3 = .rsl 3 (u + 1) ∧ st.h 3 = ⟨u + 1, .row 3 (G.map eT ++ [.agg (cT PT)]) false⟩) ∧
          (st.s 5 = .ptr 5 ((hp' 5).ver + 1) 0 ∧ st.h 5 = ⟨(hp' 5).ver + 1, .box [.d (.bool true), .d (.int .i64 R.ty.kind), .d (.int .i64 R.ty.num), .d (.sl 3 (R.ty.kids.map eT)), .d (eTs R.dom), .d (.int .i64 R.sort), .d (eTs R.idx)] false⟩) ∧
          (st.s 60 = .d (eTs R.dom) ∧ st.s 61 = .d (.int .i64 R.dom.length)) ∧ st.s 62 = .d (.int .i64 j) ∧ ∃ w, st.s 8 = .rsl 8 w ∧ st.h 8 = ⟨w, .row 3 ((dmP v i (p + 1) 0 (R.dom.take j)).map eT) false⟩) ?_ ?_
        · simp -dsimp [g0, g2, k2, g15, g16, g17, g3, k3, hR, eAr, cAr, cT, cVw, cBl, hr, eTs, eArs, dmP]
        · clear g0 g2 k2 g15 g16 g17 g3 k3
          rintro j ⟨s, hq⟩ hj ⟨⟨g0, g4, g6, g7⟩, ⟨g2, k2⟩, ⟨g15, g16⟩, g17, ⟨g3, k3⟩, ⟨g5, k5⟩, ⟨g60, g61⟩, g62, w, g8, k8⟩
          dsimp only at g0 g4 g6 g7 g2 k2 g15 g16 g17 g3 k3 g5 k5 g60 g61 g62 g8 k8
          simp only [eTs, eArs] at g15 k5 g60
          rcases Nat.lt_or_ge j R.dom.length with hlt2 | hge2
          · have w2 : IntKind.i64.wrap ((j : Int) + 1) = (j : Int) + 1 := wrap_id (by omega) (by omega)
            have hPj := hPd j hlt2
            have hds1 := hds j hlt2
            have hdl1 := hdl (R.dom.take j) 0
            rw [List.length_take] at hdl1
            rw [Nat.zero_add] at hds1
            rw [hds1]
            generalize dmP v i (p + 1) 0 (R.dom.take j) = E at *
            have hel : E.length ≤ 40 := by omega
            generalize putT v R.dom[j] i j (p + 1) = Y at *
            generalize hX : R.dom[j] = X at *
            simp only [cVw, cBl, cT, List.cons_append, List.nil_append] at hPj
            simp -dsimp [g0, g4, g6, g7, g2, k2, g15, g16, g17, g3, k3, g5, k5, g60, g61, g62, g8, k8, hlt2, hX, cT, cVw, cBl]
            refine call_of hPj ?_
            simp -dsimp [g0, g4, g6, g7, g2, k2, g15, g16, g17, g3, k3, g5, k5, g60, g61, g62, g8, k8, hlt2, hX, cT, cVw, cBl, room41 hel trivial, w2, eT_eq, eTs, eArs]
            done
          · have ej : j = R.dom.length := by omega
            subst ej
            rw [List.take_length] at k8
            simp only [cVw, cBl, eTs, List.cons_append, List.nil_append] at g0 hI1
            simp -dsimp [g0, g4, g6, g7, g2, k2, g15, g16, g17, g3, k3, g5, k5, g60, g61, g62, g8, k8, eTs]
            refine callO_of hI1 (by simp [rowsV, rowsC, RV.cells]) ?_
            simp -dsimp [g0, g4, g6, g7, g2, k2, g15, g16, g17, g3, k3, g5, k5, g60, g61, g62, g8, k8, hlp, hpi, hpi', v2]
            refine call_of hL1 ?_
            simp -dsimp [g0, g4, g6, g7, g2, k2, g15, g16, g17, g3, k3, g5, k5, g60, g61, g62, g8, k8, cT]
            refine call_of hV ?_
            simp -dsimp [g0, g4, g6, g7, g2, k2, g15, g16, g17, g3, k3, g5, k5, g60, g61, g62, g8, k8, cT]
            refine call_of hS1 ?_
            simp -dsimp [g0, g4, g6, g7, g2, k2, g15, g16, g17, g3, k3, g5, k5, g60, g61, g62, g8, k8, cT, room41 hI3 trivial, v2]
            refine call_of hL2 ?_
            simp -dsimp [g0, g4, g6, g7, g2, k2, g15, g16, g17, g3, k3, g5, k5, g60, g61, g62, g8, k8, cT]
            refine call_of hS2 ?_
            simp -dsimp [g0, g4, g6, g7, g2, k2, g15, g16, g17, g3, k3, g5, k5, g60, g61, g62, g8, k8, cT]
            refine call_of hPi ?_
            simp -dsimp [g0, g4, g6, g7, g2, k2, g15, g16, g17, g3, k3, g5, k5, g60, g61, g62, g8, k8, cT, room42 hgl, w1, eT_eq, cVw, cBl, eArs]
            try exact hlt
    · have e : i = v.args.length := by omega
      subst e
      rw [List.take_length] at k3
      simp -dsimp [g0, g2, k2, g15, g16, g17, g3, k3, eTs]
end
end Ev
end Go.Proofs.YtdhfkbdhdgaccaaGreat
/- disp: motives, methods. -/
namespace Go.Proofs.YtdhfkbdhdgaccaaGreat
namespace Ev
open Go
set_option maxRecDepth 100000
set_option linter.unusedSimpArgs false
set_option linter.unusedVariables false
section
attribute [local simp] allD_map_d sks_map_d tk tn tks initA EndsM one_sos one_cos one_ars one_ts
theorem pos_mem : ∀ (l : List Ar) (e p : Int), p ∈ posL e l → e ≤ p ∧ p ≤ e + 2 * l.length
  | [], e, p, h => by simp [posL] at h
  | a :: l, e, p, h => by
    rw [posL] at h
    simp only [List.length_cons]
    rcases List.mem_cons.1 h with rfl | h
    · omega
    · have ih := pos_mem l _ p h
      split at ih <;> omega
def vwOf (b : Bl) (base : Int) (l : List Ar) (e : Int) : Vw := ⟨b, base, l, posL e l, finL e l⟩
theorem vw_ok {b : Bl} (hz : checkB b = 0) (fb : FineBl b) (base : Int) {l : List Ar} (hl : l.length ≤ 20) {e : Int} (h0 : 0 ≤ e) (h1 : e ≤ 100) : VwOk (vwOf b base l e) := by
  refine ⟨⟨by simp only [vwOf, pos_len]; omega, fun p hp => ?_⟩, by simp only [vwOf, pos_len], hl, fb.s, fb.c, fun c hc => (fb.cons c hc).args.1, fun s hs => (fb.sorts s hs).idx.1⟩
  have := pos_mem l e p hp
  omega
theorem ty_ok {b : Bl} (hz : checkB b = 0) (fb : FineBl b) (hf : Fit b) {base : Int} (b0 : 0 ≤ base) (b1 : base ≤ 60000) {l : List Ar} (ol : okArs l) (fl : FineArs l) (hr : rowM b l = true) {n : Nat} {cons : Int} (hg : rowF n b base l cons = true) {e : Int} (h0 : 0 ≤ e) (h1 : e ≤ 100) : TyOk (vwOf b base l e) n cons :=
  ⟨vw_ok hz fb base fl.1 h0 h1, hf, b0, b1, fun p hp => by have := pos_mem l e p hp; have := fl.1; omega, ol, fl, hr, hg⟩
theorem done8_ok (v : Vw) (n : Nat) (hN : n ≤ 1000000) (hn9 : 9000 ≤ n) (cons : Int) (H : TyOk v n cons) (body : T) (ob : okT body) : Pure Tryz.prog n_disp_view_done [.rp (cVw v), .agg (cT body)] [.agg (cT (rightT (nestT 4 (tyL v n 0 v.args) body))), .int .i64 (checkM (nestT 4 (tyL v n 0 v.args) body))] := by
  refine p_disp_view_done rfl fun hs => ?_
  obtain ⟨h1, h2, h3⟩ := types8_ok v n hN hn9 cons H
  have hP := pis_ok (tyL v n 0 v.args) body (by omega) ob ⟨by omega, h2⟩
  generalize tyL v n 0 v.args = L at *
  have hC := check_ok (nestT 4 L body)
  generalize nestT 4 L body = R at *
  simp only [cT, eTs] at h1 hP hC
  simp -dsimp [x_disp_view_done, cT]
  refine call_of h1 ?_
  simp -dsimp
  refine call_of hP ?_
  simp -dsimp [cT]
  refine call_of hC ?_
  by_cases hc : checkM R = 0
  · simp -dsimp [hc, rightT, cT]
  · simp -dsimp [hc, rightT, cT, zT]
def mayP (b : Bl) (base k many : Int) : Int := if positE 9000 b base = 0 ∧ (k < 0 ∨ many ≤ k) then 1 else positE 9000 b base
theorem may8_ok (b : Bl) (ob : okBl b) (fb : FineBl b) (base k many : Int) : Pure Tryz.prog n_disp_may [eBl b, .int .i64 base, .int .i64 k, .int .i64 many] [.int .i64 (mayP b base k many)] := by
  refine p_disp_may rfl fun hs => ?_
  have hP := posit_ok 9000 (by omega) (by omega) b ob fb base
  rw [mayP]
  generalize positE 9000 b base = E at *
  simp only [eBl, cBl] at hP
  simp -dsimp [x_disp_may, eBl, cBl]
  refine call_of hP ?_
  by_cases h1 : E = 0
  · by_cases h2 : k < 0
    · simp -dsimp [h1, h2]
    · by_cases h3 : many ≤ k
      · simp -dsimp [h1, h2, h3]
      · simp -dsimp [h1, h2, h3]
  · simp -dsimp [h1]
/-- The motive's type. -/
def motT (b : Bl) (base k : Int) (so : So) : T :=
  nestT 4 (tyL (vwOf b base so.idx k) 9000 0 so.idx) (.mk 4 0 [spT (tC (former b base k)) ((posL k so.idx).map fun p => lv p (finL k so.idx)), .mk 2 b.elim []])
def motE (b : Bl) (base k : Int) : Int := if mayP b base k b.sorts.length = 0 then (match b.sorts[k.toNat]? with | some so => checkM (motT b base k so) | none => 1) else mayP b base k b.sorts.length
def motR (b : Bl) (base k : Int) : T := if motE b base k = 0 then (match b.sorts[k.toNat]? with | some so => motT b base k so | none => zT) else zT
theorem mayP_zero {b : Bl} {base k many : Int} (h : mayP b base k many = 0) : positE 9000 b base = 0 ∧ 0 ≤ k ∧ k < many := by
  rw [mayP] at h
  split at h
  · cases h
  · rename_i hc
    exact ⟨h, by omega, by omega⟩
theorem posE_zero8 {n : Nat} {b : Bl} {base : Int} (h : positE n b base = 0) : checkB b = 0 ∧ 0 ≤ base ∧ base ≤ 65535 ∧ posF n b base = true := by
  rw [positE] at h
  split at h
  · rename_i hz
    split at h
    · cases h
    · split at h
      · rename_i hp
        exact ⟨hz, by omega, by omega, hp⟩
      · cases h
  · rename_i hz
    exact absurd h hz
theorem sort_good {n : Nat} {b : Bl} {base : Int} (h : posF n b base = true) {k : Nat} {so : So} (hk : b.sorts[k]? = some so) : rowF n b base so.idx 0 = true := by
  rw [posF, Bool.and_eq_true] at h
  obtain ⟨hlt, rfl⟩ := List.getElem?_eq_some_iff.1 hk
  have := (allI_iff _ _ _).1 h.1 k hlt
  rw [sortF, Bool.and_eq_true] at this
  exact this.1
theorem con_good {n : Nat} {b : Bl} {base : Int} (h : posF n b base = true) {c : Nat} {x : Co} (hk : b.cons[c]? = some x) : rowF n b base x.args c = true ∧ ∃ so, b.sorts[x.sort.toNat]? = some so ∧ indF n ⟨b, base, x.args, 0⟩ so x.idx c = true := by
  rw [posF, Bool.and_eq_true] at h
  obtain ⟨hlt, rfl⟩ := List.getElem?_eq_some_iff.1 hk
  have := (allI_iff _ _ _).1 h.2 c hlt
  rw [Nat.zero_add, conF, Bool.and_eq_true] at this
  refine ⟨this.1, ?_⟩
  have h2 := this.2
  split at h2
  · rename_i so hso
    rw [Bool.and_eq_true] at h2
    exact ⟨so, hso, h2.1⟩
  · cases h2
set_option maxHeartbeats 2000000 in
theorem motive_ok (b : Bl) (ob : okBl b) (fb : FineBl b) (hf : Fit b) (base k : Int) (b1 : base ≤ 60000) : Pure Tryz.prog n_disp_Motive [eBl b, .int .i64 base, .int .i64 k] [.agg (cT (motR b base k)), .int .i64 (motE b base k)] := by
  have hM := may8_ok b ob fb base k b.sorts.length
  by_cases hm : mayP b base k b.sorts.length = 0
  case neg =>
    have e1 : motE b base k = mayP b base k b.sorts.length := by rw [motE, if_neg hm]
    have e2 : motR b base k = zT := by rw [motR, if_neg (by rw [e1]; exact hm)]
    rw [e1, e2]
    generalize mayP b base k b.sorts.length = E at *
    refine p_disp_Motive rfl fun hs => ?_
    simp only [eBl, cBl] at hM
    simp -dsimp [x_disp_Motive, eBl, cBl, eSos]
    simp only [eSos] at hM
    refine call_of hM ?_
    simp -dsimp [hm, zT, cT]
  obtain ⟨hp, k0, k1⟩ := mayP_zero hm
  obtain ⟨hz, b0, _, hpos⟩ := posE_zero8 hp
  obtain ⟨z1, z4, z8, zl, zs, zc⟩ := (checkB_zero b).1 hz
  have hlt : k.toNat < b.sorts.length := by omega
  have hget : b.sorts[k.toNat]? = some b.sorts[k.toNat] := List.getElem?_eq_getElem hlt
  have hsg := sort_good hpos hget
  have os := ob.sorts _ (List.getElem_mem hlt)
  have fs := fb.sorts _ (List.getElem_mem hlt)
  have hrow := sort_row (zs _ hlt)
  generalize hS : b.sorts[k.toNat] = S at *
  have hT := ty_ok hz fb hf b0 b1 os.idx fs.idx hrow hsg (e := k) k0 (by omega)
  have hv := hT.vw
  have hfl := fin_le S.idx k
  have hil := fs.idx.1
  obtain ⟨hOwn, oOwn⟩ := own8_ok (vwOf b base S.idx k) hv (finL k S.idx) (by omega) (by omega)
  have hSh := show_ok b base k S.idx hil k0 (by omega)
  have hF := former_ok b base k
  have hfi := former_is hf b0 (by omega : base ≤ 65535) k
  rw [if_pos ⟨k0, k1⟩] at hfi
  have hC := tc_ok (former b base k)
  have oC : okT (tC (former b base k)) := okT_leaf (by omega) (by omega)
  have hSp := spine_ok (tC (former b base k)) ((posL k S.idx).map fun p => lv p (finL k S.idx)) (by rw [List.length_map, pos_len]; omega) oC ⟨by rw [List.length_map, pos_len]; omega, oOwn⟩
  have oSp := sp_okT _ _ oC oOwn
  have hU := tu_ok b.elim
  have hN := node_ok 4 [spT (tC (former b base k)) ((posL k S.idx).map fun p => lv p (finL k S.idx)), .mk 2 b.elim []]
  have oB : okT (.mk 4 0 [spT (tC (former b base k)) ((posL k S.idx).map fun p => lv p (finL k S.idx)), .mk 2 b.elim []]) := okT_k (by omega) oSp (.mk _ _ _ (by simp only [n64]; omega) ob.elim (by simp) (by simp)) (by omega)
  have hD := done8_ok (vwOf b base S.idx k) 9000 (by omega) (by omega) 0 hT _ oB
  have e0 : (vwOf b base S.idx k).args = S.idx := rfl
  have e1 : motE b base k = checkM (motT b base k S) := by rw [motE, if_pos hm, hget]
  have e2 : motR b base k = rightT (motT b base k S) := by rw [motR, rightT, e1, hget]
  rw [e0, ← motT] at hD
  rw [e1, e2]
  rw [hm] at hM
  clear e1 e2 e0 hT hv oOwn oC oSp oB hrow hsg os fs
  have e3 : (vwOf b base S.idx k).pos = posL k S.idx := rfl
  rw [e3] at hOwn
  have e4 : cVw (vwOf b base S.idx k) = cBl b ++ [.int .i64 base, eArs S.idx, .sl 1 ((posL k S.idx).map (.int .i64)), .int .i64 (finL k S.idx)] := rfl
  have e5 : cVw ⟨b, base, S.idx, posL k S.idx, finL k S.idx⟩ = cBl b ++ [.int .i64 base, eArs S.idx, .sl 1 ((posL k S.idx).map (.int .i64)), .int .i64 (finL k S.idx)] := rfl
  rw [e4] at hOwn hD
  rw [e5] at hSh
  generalize checkM (motT b base k S) = CE at *
  generalize rightT (motT b base k S) = RT at *
  generalize spT (tC (former b base k)) ((posL k S.idx).map fun p => lv p (finL k S.idx)) = SP at *
  generalize ((posL k S.idx).map fun p => lv p (finL k S.idx)) = OW at *
  generalize former b base k = FO at *
  refine p_disp_Motive rfl fun hs => ?_
  simp only [eBl, cBl, eSos, cT, eTs, eArs, tC, tk, tn, tks, List.map_nil, List.map_cons, eT_eq, List.cons_append, List.nil_append] at hM hOwn hSh hF hC hSp hU hN hD
  simp -dsimp [x_disp_Motive, eBl, cBl, eSos]
  refine call_of hM ?_
  simp -dsimp [k0, hlt, hS, hget, eSo, cSo, cT, eArs]
  refine call_of hSh ?_
  simp -dsimp
  refine call_of hF ?_
  simp -dsimp
  refine call_of hC ?_
  simp -dsimp
  refine call_of hOwn ?_
  simp -dsimp
  refine call_of hSp ?_
  simp -dsimp [cT]
  refine call_of hU ?_
  simp -dsimp [cT]
  refine call_of hN ?_
  simp -dsimp [cT]
  refine call_of hD ?_
  simp -dsimp [cT]
end
end Ev
end Go.Proofs.YtdhfkbdhdgaccaaGreat
/- disp: methods. -/
namespace Go.Proofs.YtdhfkbdhdgaccaaGreat
namespace Ev
open Go
set_option maxRecDepth 100000
set_option linter.unusedSimpArgs false
set_option linter.unusedVariables false
section
attribute [local simp] allD_map_d sks_map_d tk tn tks initA EndsM one_sos one_cos one_ars one_ts
def metV (b : Bl) (base c : Int) (x : Co) : Vw := vwOf b base x.args (b.sorts.length + c)
/-- The method's type. -/
def metT (b : Bl) (base c : Int) (x : Co) (so : So) : T :=
  nestT 4 (tyL (metV b base c x) 9000 0 x.args) (spT (lv x.sort (metV b base c x).fin) (inT (metV b base c x) 9000 so x.idx x.args.length 0 (metV b base c x).fin ++ [spT (tC (constructor_ b base c)) ((metV b base c x).pos.map fun p => lv p (metV b base c x).fin)]))
def metA (b : Bl) (base c : Int) : Option T := match b.cons[c.toNat]? with
  | some x => match b.sorts[x.sort.toNat]? with
    | some so => some (metT b base c x so)
    | none => none
  | none => none
def metE (b : Bl) (base c : Int) : Int := if mayP b base c b.cons.length = 0 then (match metA b base c with | some t => checkM t | none => 1) else mayP b base c b.cons.length
def metR (b : Bl) (base c : Int) : T := if metE b base c = 0 then (metA b base c).getD zT else zT
theorem con_idx {b : Bl} {c : Co} (h : conM b c = true) {x : T} (hx : x ∈ c.idx) : inM x c.args.length = true := by
  rw [conM] at h
  split at h
  · cases h
  split at h
  case isFalse => cases h
  split at h
  · cases h
  split at h
  case isFalse => cases h
  split at h
  case isFalse => cases h
  rename_i hA
  rw [allM, Bool.not_eq_true', List.any_eq_false] at hA
  have := hA x hx
  simpa using this
set_option maxHeartbeats 2000000 in
theorem method_ok (b : Bl) (ob : okBl b) (fb : FineBl b) (hf : Fit b) (base c : Int) (b1 : base ≤ 60000) : Pure Tryz.prog n_disp_Method [eBl b, .int .i64 base, .int .i64 c] [.agg (cT (metR b base c)), .int .i64 (metE b base c)] := by
  have hM := may8_ok b ob fb base c b.cons.length
  by_cases hm : mayP b base c b.cons.length = 0
  case neg =>
    have e1 : metE b base c = mayP b base c b.cons.length := by rw [metE, if_neg hm]
    have e2 : metR b base c = zT := by rw [metR, if_neg (by rw [e1]; exact hm)]
    rw [e1, e2]
    generalize mayP b base c b.cons.length = E at *
    refine p_disp_Method rfl fun hs => ?_
    simp only [eBl, cBl] at hM
    simp -dsimp [x_disp_Method, eBl, cBl, eCos]
    simp only [eCos] at hM
    refine call_of hM ?_
    simp -dsimp [hm, zT, cT]
  obtain ⟨hp, k0, k1⟩ := mayP_zero hm
  obtain ⟨hz, b0, _, hpos⟩ := posE_zero8 hp
  obtain ⟨z1, z4, z8, zl, zs, zc⟩ := (checkB_zero b).1 hz
  have hlt : c.toNat < b.cons.length := by omega
  have hget : b.cons[c.toNat]? = some b.cons[c.toNat] := List.getElem?_eq_getElem hlt
  obtain ⟨hsg, so, hso, hig⟩ := con_good hpos hget
  have os := ob.cons _ (List.getElem_mem hlt)
  have fs := fb.cons _ (List.getElem_mem hlt)
  obtain ⟨hrow, s0, so2, hso2, hil2⟩ := con_parts (zc _ (List.getElem_mem hlt))
  have hcon := zc _ (List.getElem_mem hlt)
  have hao : metA b base c = some (metT b base c b.cons[c.toNat] so) := by rw [metA, hget]; simp only [hso]
  generalize hS : b.cons[c.toNat] = S at *
  rw [hso] at hso2
  cases hso2
  rw [show ((c.toNat : Nat) : Int) = c by omega] at hsg hig
  have hT := ty_ok hz fb hf b0 b1 os.args fs.args hrow hsg (e := b.sorts.length + c) (by omega) (by omega)
  have hv := hT.vw
  have hfl := fin_le S.args (b.sorts.length + c)
  have hal := fs.args.1
  have hsl := (List.getElem?_eq_some_iff.1 hso).1
  obtain ⟨hOwn, oOwn⟩ := own8_ok (vwOf b base S.args (b.sorts.length + c)) hv (finL (b.sorts.length + c) S.args) (by omega) (by omega)
  have e3 : (vwOf b base S.args (b.sorts.length + c)).pos = posL (b.sorts.length + c) S.args := rfl
  rw [e3] at hOwn oOwn
  have hSh := show_ok b base (b.sorts.length + c) S.args hal (by omega) (by omega)
  have hxf : ∀ x ∈ S.idx, formedM x = true ∧ okT x ∧ nodes x ≤ 9000 := fun x hx => by
    have hnx : nodes x ≤ 9000 := Nat.le_trans (sum_mem (List.mem_map.2 ⟨_, hx, rfl⟩)) fs.idx
    have hin : inM x S.args.length = true := con_idx hcon hx
    exact ⟨(in_facts hin (by omega) (by omega) (by omega)).2.1, os.idx.2 _ hx, hnx⟩
  have hig' : indF 9000 (plV (vwOf b base S.args (b.sorts.length + c)) S.args.length 0) so S.idx c = true := by
    have e : plV (vwOf b base S.args (b.sorts.length + c)) S.args.length 0 = ⟨b, base, S.args, 0⟩ := by simp only [plV, vwOf, List.take_length]
    rw [e]; exact hig
  have hI := indices8_ok (vwOf b base S.args (b.sorts.length + c)) hv 9000 (by omega) S.sort so s0 hso S.idx hil2 S.args.length (Nat.le_refl _) 0 (finL (b.sorts.length + c) S.args) (by omega) (by omega) (by omega) (by omega) c hxf hig'
  have hF := constructor_ok b base c
  have hfi := constructor_is hf b0 (by omega : base ≤ 65535) c
  rw [if_pos ⟨k0, k1⟩] at hfi
  have hdl := decs_le b.sorts
  have hC := tc_ok (constructor_ b base c)
  have oC : okT (tC (constructor_ b base c)) := okT_leaf (by omega) (by omega)
  have hSp := spine_ok (tC (constructor_ b base c)) ((posL (b.sorts.length + c) S.args).map fun p => lv p (finL (b.sorts.length + c) S.args)) (by rw [List.length_map, pos_len]; omega) oC ⟨by rw [List.length_map, pos_len]; omega, oOwn⟩
  have oSp := sp_okT _ _ oC oOwn
  have hL := level_ok8 S.sort (finL (b.sorts.length + c) S.args) (by omega) (by omega) (by omega) (by omega)
  have oL := lv_okT (l := S.sort) (vars := finL (b.sorts.length + c) S.args) (by omega) (by omega) (by omega) (by omega)
  obtain ⟨hI1, hI2, hI3⟩ := hI
  have eT' : metT b base c S so = nestT 4 (tyL (vwOf b base S.args (b.sorts.length + c)) 9000 0 S.args) (spT (lv S.sort (finL (b.sorts.length + c) S.args)) (inT (vwOf b base S.args (b.sorts.length + c)) 9000 so S.idx S.args.length 0 (finL (b.sorts.length + c) S.args) ++ [spT (tC (constructor_ b base c)) ((posL (b.sorts.length + c) S.args).map fun p => lv p (finL (b.sorts.length + c) S.args))])) := rfl
  have e1 : metE b base c = checkM (metT b base c S so) := by rw [metE, if_pos hm, hao]
  have e2 : metR b base c = rightT (metT b base c S so) := by rw [metR, rightT, e1, hao]; rfl
  rw [e1, e2]
  rw [eT']
  clear e1 e2 eT'
  rw [hm] at hM
  generalize spT (tC (constructor_ b base c)) ((posL (b.sorts.length + c) S.args).map fun p => lv p (finL (b.sorts.length + c) S.args)) = SP at *
  generalize inT (vwOf b base S.args (b.sorts.length + c)) 9000 so S.idx S.args.length 0 (finL (b.sorts.length + c) S.args) = J at *
  generalize lv S.sort (finL (b.sorts.length + c) S.args) = L2 at *
  have oJ : ∀ y ∈ J ++ [SP], okT y := fun y hy => by
    rcases List.mem_append.1 hy with hy | hy
    · exact hI2 y hy
    · rw [List.mem_singleton] at hy; subst hy; exact oSp
  have hS2 := spine_ok L2 (J ++ [SP]) (by rw [List.length_append, List.length_singleton]; omega) oL ⟨by rw [List.length_append, List.length_singleton]; omega, oJ⟩
  have oS2 := sp_okT (J ++ [SP]) _ oL oJ
  generalize spT L2 (J ++ [SP]) = S2 at *
  have hD := done8_ok (vwOf b base S.args (b.sorts.length + c)) 9000 (by omega) (by omega) c hT _ oS2
  have e0 : (vwOf b base S.args (b.sorts.length + c)).args = S.args := rfl
  rw [e0] at hD
  clear hT hv oOwn oC oSp hrow hsg os fs oJ oS2 hig hig' hxf hcon
  have w1 : IntKind.i64.wrap ((b.sorts.length : Int) + c) = b.sorts.length + c := wrap_id (by omega) (by omega)
  have e4 : cVw (vwOf b base S.args (b.sorts.length + c)) = cBl b ++ [.int .i64 base, eArs S.args, .sl 1 ((posL (b.sorts.length + c) S.args).map (.int .i64)), .int .i64 (finL (b.sorts.length + c) S.args)] := rfl
  have e5 : cVw ⟨b, base, S.args, posL (b.sorts.length + c) S.args, finL (b.sorts.length + c) S.args⟩ = cBl b ++ [.int .i64 base, eArs S.args, .sl 1 ((posL (b.sorts.length + c) S.args).map (.int .i64)), .int .i64 (finL (b.sorts.length + c) S.args)] := rfl
  rw [e4] at hOwn hD hI1
  rw [e5] at hSh
  generalize nestT 4 (tyL (vwOf b base S.args (b.sorts.length + c)) 9000 0 S.args) S2 = MT at *
  generalize checkM MT = CE at *
  generalize rightT MT = RT at *
  generalize ((posL (b.sorts.length + c) S.args).map fun p => lv p (finL (b.sorts.length + c) S.args)) = OW at *
  generalize constructor_ b base c = FO at *
  refine p_disp_Method rfl fun hs => ?_
  simp only [eBl, cBl, eCos, cT, eTs, eArs, tC, tk, tn, tks, List.map_nil, List.map_cons, List.map_append, eT_eq, List.cons_append, List.nil_append] at hM hOwn hSh hF hC hSp hL hS2 hD hI1
  simp -dsimp [x_disp_Method, eBl, cBl, eCos]
  refine call_of hM ?_
  simp -dsimp [k0, hlt, hS, hget, eCo, cCo, cT, eArs, eTs, w1, eSos]
  simp only [eSos] at hSh hF hI1 hD hOwn
  refine call_of hSh ?_
  simp -dsimp
  refine callO_of hI1 (by simp [rowsV, rowsC, RV.cells]) ?_
  simp -dsimp
  refine call_of hF ?_
  simp -dsimp
  refine call_of hC ?_
  simp -dsimp
  refine call_of hOwn ?_
  simp -dsimp
  refine call_of hSp ?_
  simp -dsimp [cT, room41 hI3 trivial]
  refine call_of hL ?_
  simp -dsimp [cT]
  refine call_of hS2 ?_
  simp -dsimp [cT]
  refine call_of hD ?_
  simp -dsimp [cT]
end
end Ev
end Go.Proofs.YtdhfkbdhdgaccaaGreat
/- SigClosed, SigArgs. -/
namespace Go.Proofs.YtdhfkbdhdgaccaaGreat
namespace Ev
open Go
set_option maxRecDepth 100000
set_option linter.unusedSimpArgs false
set_option linter.unusedVariables false
attribute [local simp] allD_map_d sks_map_d tk tn tks one_sos one_cos one_ars one_ts

end Ev
end Go.Proofs.YtdhfkbdhdgaccaaGreat
/- comp: what its functions tell. -/
namespace Go.Proofs.YtdhfkbdhdgaccaaGreat
namespace Ev
open Go
set_option maxRecDepth 100000
set_option linter.unusedSimpArgs false
set_option linter.unusedVariables false
section
attribute [local simp] allD_map_d sks_map_d tk tn tks initA EndsM one_sos one_cos one_ars one_ts
theorem okT_zT : okT zT := okT_leaf (by omega) (by omega)
theorem inst_okT {t : T} {l : List T} {u : Int} (hn : nodes t ≤ 1048576) (hl : ∀ x ∈ l, nodes x ≤ 1048576) : okT (instT t l u) := by
  by_cases h : instE t l u = 0
  · exact okT_of_formed (inst_right hn hl h).2.2
  · rw [instT, if_neg h]
    exact okT_zT
end
end Ev
end Go.Proofs.YtdhfkbdhdgaccaaGreat
/- comp: Elim, Decode. -/
namespace Go.Proofs.YtdhfkbdhdgaccaaGreat
namespace Ev
open Go
set_option maxRecDepth 100000
set_option linter.unusedSimpArgs false
set_option linter.unusedVariables false
section
attribute [local simp] allD_map_d sks_map_d tk tn tks initA EndsM one_sos one_cos one_ars one_ts
/-- Is nothing amiss with how many there are? -/
def elimB (b : Bl) (base c : Int) (co : Co) (mo me args : List T) : Prop := args.length = co.args.length ∧ mo.length = b.sorts.length ∧ me.length = b.cons.length ∧ 0 ≤ base ∧ base ≤ 65535
instance (b : Bl) (base c : Int) (co : Co) (mo me args : List T) : Decidable (elimB b base c co mo me args) := by unfold elimB; infer_instance
end
end Ev
end Go.Proofs.YtdhfkbdhdgaccaaGreat
/- comp: the laws' alarms, CompPlain. -/
namespace Go.Proofs.YtdhfkbdhdgaccaaGreat
namespace Ev
open Go
set_option maxRecDepth 100000
set_option linter.unusedSimpArgs false
set_option linter.unusedVariables false
section
attribute [local simp] allD_map_d sks_map_d tk tn tks initA EndsM one_sos one_cos one_ars one_ts
end
end Ev
end Go.Proofs.YtdhfkbdhdgaccaaGreat
/- comp: what is computed is in scope. -/
namespace Go.Proofs.YtdhfkbdhdgaccaaGreat
namespace Ev
open Go
set_option maxRecDepth 100000
set_option linter.unusedSimpArgs false
set_option linter.unusedVariables false
theorem wi_mono {c : Int} (t : T) : ∀ v w : Int, v ≤ w → wiT t v c = true → wiT t w c = true := by
  refine T.ind (p := fun t => ∀ v w : Int, v ≤ w → wiT t v c = true → wiT t w c = true) ?_ t
  intro k n ks ih v w hvw h
  rw [wiT] at h ⊢
  by_cases h1 : k = 1
  · rw [if_pos h1] at h ⊢
    simp only [decide_eq_true_eq] at h ⊢
    omega
  rw [if_neg h1] at h ⊢
  by_cases h2 : k = 2
  · rw [if_pos h2] at h ⊢; exact h
  rw [if_neg h2] at h ⊢
  by_cases h3 : k = 3
  · rw [if_pos h3] at h ⊢; exact h
  rw [if_neg h3] at h ⊢
  have go : ∀ (xs : List T) (i : Nat), (∀ x ∈ xs, x ∈ ks) → wiL k v c i xs = true → wiL k w c i xs = true := by
    intro xs
    induction xs with
    | nil => intro i _ _; rw [wiL]
    | cons x xs ihx =>
      intro i hm hw
      rw [wiL, Bool.and_eq_true] at hw ⊢
      exact ⟨ih x (hm x (by simp)) _ _ (by omega) hw.1, ihx _ (fun y hy => hm y (by simp [hy])) hw.2⟩
  exact go ks 0 (fun x hx => hx) h
theorem sc_falseU (l : List T) (u : Int) (hl : ∀ x ∈ l, freeT x 0 ≤ 10000) (t : T) : ∀ b : Int, 0 ≤ b → u + b + nodes t ≤ 50000 → scI l u t b = false := by
  refine T.ind (p := fun t => ∀ b : Int, 0 ≤ b → u + b + nodes t ≤ 50000 → scI l u t b = false) ?_ t
  intro k n ks ih b h0 hb
  rw [scI]
  by_cases h1 : k = 1
  · rw [if_pos h1]
    split
    · rename_i a ha
      have hmem : a ∈ l := by
        split at ha
        · exact List.mem_of_getElem? ha
        · cases ha
      have := hl a hmem
      rw [overB, Bool.and_eq_false_iff]
      right
      rw [decide_eq_false_iff_not]
      omega
    · rfl
  · rw [if_neg h1]
    have go : ∀ (xs : List T) (i : Nat), (∀ x ∈ xs, x ∈ ks) → scL l u k b i xs = false := by
      intro xs
      induction xs with
      | nil => intro i _; rw [scL]
      | cons x xs ihx =>
        intro i hm
        have hx := hm x (by simp)
        have hxn := nodes_kid (k := k) (n := n) hx
        have hbl := binds_le k i
        rw [scL, ih x hx _ (by omega) (by omega), ihx (i + 1) fun y hy => hm y (by simp [hy])]
        rfl
    exact go ks 0 fun x hx => hx
theorem wi_moved' {a : T} {V b : Int} (hf : formedM a = true) (hn : nodes a ≤ 1048576) (hb : 0 ≤ b) (hb' : b ≤ 8388608) (hV : 0 ≤ V) (h : wiT a V 65536 = true) : wiT (mapT (mv b) a 0) (V + b) 65536 = true := by
  have := wi_map (mv b) 65536 V (V + b) (fun n c h1 h2 h3 h4 h5 => ?_) a 0 hf (by omega) (by omega) (by rw [Int.add_zero]; exact h)
  · rw [Int.add_zero] at this; exact this
  · by_cases c1 : n < c
    · rw [mv_lo c1]; exact wi_var (by omega)
    · have e : mv b n c = .mk 1 (n + b) [] := by rw [mv, if_pos (by omega), w64_id (by omega) (by omega)]
      rw [e]; exact wi_var (by omega)
theorem inst_scopeU {t : T} {l : List T} {V u : Int} (hV : 0 ≤ V) (hV' : V ≤ 65536) (hu : 0 ≤ u) (hu' : u ≤ 65536) (ht : nodes t ≤ 1048576) (ft : formedM t = true) (hl : ∀ x ∈ l, formedM x = true ∧ nodes x ≤ 1048576 ∧ wiT x V 65536 = true) (hn : l.length ≤ 65536)
    (hw : wiT t (V + u + l.length) 65536 = true) : wiT (mapT (instF l u) t 0) (V + u) 65536 = true := by
  have := wi_map (instF l u) 65536 (V + u + l.length) (V + u) (fun n b h1 h2 h3 h4 h5 => ?_) t 0 ft (by omega) (by omega) (by rw [Int.add_zero]; exact hw)
  · rw [Int.add_zero] at this; exact this
  · rw [instF]
    by_cases hW : 0 ≤ whichT l.length u n b
    · have hlt : (whichT l.length u n b).toNat < l.length := by
        have h6 := hW
        rw [whichT] at h6 ⊢
        split at h6
        · omega
        · rename_i h7
          rw [if_neg h7]
          omega
      generalize (whichT l.length u n b).toNat = m at hlt
      rw [if_pos hW, List.getElem?_eq_getElem hlt]
      obtain ⟨a1, a2, a3⟩ := hl l[m] (List.getElem_mem _)
      show wiT (movedT (w64 (u + b)) l[m]) (V + u + b) 65536 = true
      rw [w64_id (by omega) (by omega), moved_is]
      have := wi_moved' (b := u + b) a1 a2 (by omega) (by omega) hV a3
      rw [← Int.add_assoc] at this
      exact this
    · rw [if_neg hW]
      have h6 := hW
      rw [whichT] at h6
      by_cases c : u + b ≤ n
      · rw [if_pos c]
        have : (l.length : Int) ≤ n - (u + b) := by
          split at h6
          · rename_i h7; omega
          · omega
        rw [w64_id (by omega) (by omega)]
        exact wi_var (by omega)
      · rw [if_neg c]
        exact wi_var (by omega)
theorem inst_no6 {t : T} {l : List T} {u : Int} (h : openE t l u = 0) (ht : nodes t ≤ 1048576) (hl : ∀ x ∈ l, nodes x ≤ 1048576) (hs : scI l u t 0 = false) : instE t l u = 0 ∨ instE t l u = 4 ∨ instE t l u = 5 := by
  rw [instE, if_pos h, openSt_is h ht hl]
  simp only [hs, Bool.false_eq_true, if_false]
  split
  · omega
  · split <;> omega
/-- Put in, where all is right and in scope. -/
theorem inst_wi {t : T} {l : List T} {V u : Int} (hV : 0 ≤ V ∧ V ≤ 100) (hu : 0 ≤ u ∧ u ≤ 100) (ht : checkM t = 0) (hn : nodes t ≤ 9000) (hl : ∀ x ∈ l, checkM x = 0 ∧ nodes x ≤ 9000 ∧ wiT x V 65536 = true) (hln : l.length ≤ 100) (hw : wiT t (u + l.length) 65536 = true) :
    (instE t l u = 0 ∨ instE t l u = 4 ∨ instE t l u = 5) ∧ (instE t l u = 0 → wiT (instT t l u) (V + u) 65536 = true) := by
  have hf := formed_of ht
  have hO : openE t l u = 0 := (openE_iff t l u).2 ⟨ht, fun x hx => (hl x hx).1, by omega, by omega⟩
  have hfr : ∀ x ∈ l, freeT x 0 ≤ 10000 := fun x hx => by
    obtain ⟨a1, a2, a3⟩ := hl x hx
    have := wi_free 65536 x V 0 (formed_of a1) (by omega) (by omega) a3
    omega
  have hS := sc_falseU l u hfr t 0 (by omega) (by omega)
  have hl' : ∀ x ∈ l, nodes x ≤ 1048576 := fun x hx => by have := (hl x hx).2.1; omega
  refine ⟨inst_no6 hO (by omega) hl' hS, fun h0 => ?_⟩
  rw [inst_at h0]
  exact inst_scopeU (by omega) (by omega) (by omega) (by omega) (by omega) hf (fun x hx => ⟨formed_of (hl x hx).1, hl' x hx, (hl x hx).2.2⟩) (by omega) (wi_mono t _ _ (by omega) hw)
/-- What fits an eliminator's inner call. -/
structure Right (V : Int) (l : List T) : Prop where
  c : ∀ x ∈ l, checkM x = 0
  n : ∀ x ∈ l, nodes x ≤ 9000
  w : ∀ x ∈ l, wiT x V 65536 = true
theorem Right.take {V : Int} {l : List T} (h : Right V l) (i : Nat) : Right V (l.take i) := ⟨fun x hx => h.c x (List.mem_of_mem_take hx), fun x hx => h.n x (List.mem_of_mem_take hx), fun x hx => h.w x (List.mem_of_mem_take hx)⟩
/-- A recursive argument that stands at the place i: its domains, its indices are in scope. -/
structure RecAt (b : Bl) (a : Ar) (i : Nat) : Prop where
  dl : a.dom.length ≤ 12
  sort : 0 ≤ a.sort ∧ a.sort < b.sorts.length
  dom : ∀ (j : Nat) (hj : j < a.dom.length), checkM a.dom[j] = 0 ∧ wiT a.dom[j] (i + j) 65536 = true
  idx : ∀ x ∈ a.idx, checkM x = 0 ∧ wiT x (i + a.dom.length) 65536 = true
end Ev
end Go.Proofs.YtdhfkbdhdgaccaaGreat
/- elim: levels, what an eliminator ends in. -/
namespace Go.Proofs.YtdhfkbdhdgaccaaGreat
namespace Ev
open Go
set_option maxRecDepth 100000
set_option linter.unusedSimpArgs false
set_option linter.unusedVariables false
section
attribute [local simp] allD_map_d sks_map_d tk tn tks initA EndsM one_sos one_cos one_ars one_ts
def lvs (f : Int) (m : Nat) (vars : Int) : List T := (List.range m).map fun (i : Nat) => .mk 1 (vars - 1 - f - (i : Int)) []
theorem lvs_snoc (f : Int) (m : Nat) (vars : Int) : lvs f (m + 1) vars = lvs f m vars ++ [.mk 1 (vars - 1 - f - (m : Int)) []] := by simp [lvs, List.range_succ]
theorem lvs_len (f : Int) (m : Nat) (vars : Int) : (lvs f m vars).length = m := by simp [lvs]
theorem lvs_okT {f : Int} {m : Nat} {vars : Int} (h0 : -10000 ≤ vars - 1 - f - m) (h1 : vars - f ≤ 10000) : ∀ y ∈ lvs f m vars, okT y := fun y hy => by
  simp only [lvs, List.mem_map, List.mem_range] at hy
  obtain ⟨i, hi, rfl⟩ := hy
  exact .mk _ _ _ (by simp only [n64]; omega) (by simp only [n64]; omega) (by simp) (by simp)
theorem levels_own (f : Int) (m : Nat) (vars : Int) (f0 : 0 ≤ f) (f1 : f ≤ 1000) (m1 : m ≤ 1000) (v0 : 0 ≤ vars) (v1 : vars ≤ 1000) : OwnC Tryz.prog n_elim_levels [.int .i64 f, .int .i64 m, .int .i64 vars] [.one (.row 3 ((lvs f m vars).map eT) false)] := by
  refine o_elim_levels rfl fun hs => ?_
  simp -dsimp [x_elim_levels]
  refine wp_upto m (fun i st => st.s 0 = .d (.int .i64 f) ∧ st.s 2 = .d (.int .i64 vars) ∧ (st.s 6 = .rsl 6 1 ∧ st.h 6 = ⟨1, .row 3 [] false⟩) ∧ st.s 9 = .d (.int .i64 m) ∧ st.s 10 = .d (.int .i64 i) ∧
    ∃ u, st.s 7 = .rsl 7 u ∧ st.h 7 = ⟨u, .row 3 ((lvs f i vars).map eT) false⟩) ?_ ?_
  · simp -dsimp [lvs]
  · rintro i ⟨s, hp'⟩ hi ⟨g0, g2, ⟨g6, k6⟩, g9, g10, u, g7, k7⟩
    dsimp only at g0 g2 g6 k6 g9 g10 g7 k7
    rcases Nat.lt_or_ge i m with hlt | hge
    · have w1 : IntKind.i64.wrap ((i : Int) + 1) = (i : Int) + 1 := wrap_id (by omega) (by omega)
      have w2 : IntKind.i64.wrap (vars - 1) = vars - 1 := wrap_id (by omega) (by omega)
      have w3 : IntKind.i64.wrap (vars - 1 - f) = vars - 1 - f := wrap_id (by omega) (by omega)
      have w4 : IntKind.i64.wrap (vars - 1 - f - (i : Int)) = vars - 1 - f - i := wrap_id (by omega) (by omega)
      have hV := v_ok (vars - 1 - f - i)
      have hr : ((lvs f i vars).length + 1) * 40 ≤ maxRoom := by rw [lvs_len]; simp only [maxRoom]; omega
      have hn : (lvs f (i + 1) vars).map eT = (lvs f i vars).map eT ++ [.agg [.int .i64 1, .int .i64 (vars - 1 - f - i), .sl 3 []]] := by
        rw [lvs_snoc, List.map_append]; simp [eT_eq, cT]
      rw [hn]
      generalize lvs f i vars = L at *
      simp only [cT, List.map_nil] at hV
      simp -dsimp [g0, g2, g6, k6, g9, g10, g7, k7, hlt, w2, w3, w4]
      refine call_of hV ?_
      simp -dsimp [g0, g2, g6, k6, g9, g10, g7, k7, hlt, w1, hr]
    · have e : i = m := by omega
      subst e
      simp -dsimp [g0, g2, g6, k6, g9, g10, g7, k7, eTs]
theorem levels_ok (f : Int) (m : Nat) (vars : Int) (f0 : 0 ≤ f) (f1 : f ≤ 1000) (m1 : m ≤ 1000) (v0 : 0 ≤ vars) (v1 : vars ≤ 1000) : Pure Tryz.prog n_elim_levels [.int .i64 f, .int .i64 m, .int .i64 vars] [eTs (lvs f m vars)] := (levels_own f m vars f0 f1 m1 v0 v1).pure
/-- What stands for an index, and for what is displayed over it. -/
def rsA (b : Bl) (base : Int) (ahead : Nat) (vars : Int) (own : List T) (i : Nat) (a : Ar) : List T :=
  (own[i]?).getD zT :: (if a.rc then [spT (tC (eliminator b base a.sort)) (lvs 0 ahead vars ++ a.idx.map (fun t => instT t (own.take i) 0) ++ [(own[i]?).getD zT])] else [])
def rsL (b : Bl) (base : Int) (ahead : Nat) (vars : Int) (own : List T) : Nat → List Ar → List T
  | _, [] => []
  | i, a :: l => rsA b base ahead vars own i a ++ rsL b base ahead vars own (i + 1) l
theorem rsL_snoc (b : Bl) (base : Int) (ahead : Nat) (vars : Int) (own : List T) : ∀ (l : List Ar) (i j : Nat) (h : j < l.length), rsL b base ahead vars own i (l.take (j + 1)) = rsL b base ahead vars own i (l.take j) ++ rsA b base ahead vars own (i + j) l[j]
  | a :: l, i, 0, h => by simp [rsL]
  | a :: l, i, j + 1, h => by
    simp only [List.take_succ_cons, rsL, List.getElem_cons_succ, List.append_assoc]
    rw [rsL_snoc b base ahead vars own l (i + 1) j (by simpa using h), show i + 1 + j = i + (j + 1) by omega]
theorem rsA_len (b : Bl) (base : Int) (ahead : Nat) (vars : Int) (own : List T) (i : Nat) (a : Ar) : (rsA b base ahead vars own i a).length ≤ 2 := by
  rw [rsA]; split <;> simp
theorem rsL_len (b : Bl) (base : Int) (ahead : Nat) (vars : Int) (own : List T) : ∀ (l : List Ar) (i : Nat), (rsL b base ahead vars own i l).length ≤ 2 * l.length
  | [], i => by simp [rsL]
  | a :: l, i => by
    have h1 := rsL_len b base ahead vars own l (i + 1)
    have h2 := rsA_len b base ahead vars own i a
    rw [rsL, List.length_append, List.length_cons]
    omega
/-- What an eliminator ends in. -/
def resE (b : Bl) (base k vars : Int) (so : So) : T :=
  spT (.mk 1 (vars - 1 - k) []) (rsL b base (b.sorts.length + b.cons.length) vars (lvs ((b.sorts.length + b.cons.length : Nat) : Int) so.idx.length vars) 0 so.idx ++ [.mk 1 0 []])
theorem el_okT (b : Bl) (base k : Int) : okT (tC (eliminator b base k)) := by
  have := place_n64 base (w64 (w64 (b.sorts.length + decs b.sorts) + b.cons.length)) k b.sorts.length
  exact .mk _ _ _ ⟨by omega, by omega⟩ this (by simp) (by simp)
theorem rsA_okT {b : Bl} {base : Int} {ahead : Nat} {vars : Int} {own : List T} {i : Nat} {a : Ar} (ho : ∀ x ∈ own, okT x ∧ nodes x ≤ 9000) (hl : ∀ y ∈ lvs 0 ahead vars, okT y) (hx : ∀ x ∈ a.idx, nodes x ≤ 9000) : ∀ y ∈ rsA b base ahead vars own i a, okT y := fun y hy => by
  have h0 : okT ((own[i]?).getD zT) := by
    cases h : own[i]? with
    | none => exact okT_leaf (by omega) (by omega)
    | some x => exact (ho x (List.mem_of_getElem? h)).1
  rw [rsA] at hy
  rcases List.mem_cons.1 hy with rfl | hy
  · exact h0
  · split at hy
    · rw [List.mem_singleton] at hy
      subst hy
      refine sp_okT _ _ (el_okT b base a.sort) fun x hx' => ?_
      simp only [List.mem_append, List.mem_singleton, List.mem_map] at hx'
      rcases hx' with (hx' | ⟨t, ht, rfl⟩) | rfl
      · exact hl x hx'
      · exact inst_okT (by have := hx t ht; omega) fun z hz => by have := (ho z (List.mem_of_mem_take hz)).2; omega
      · exact h0
    · simp at hy
theorem rsL_okT {b : Bl} {base : Int} {ahead : Nat} {vars : Int} {own : List T} (ho : ∀ x ∈ own, okT x ∧ nodes x ≤ 9000) (hl : ∀ y ∈ lvs 0 ahead vars, okT y) : ∀ (l : List Ar) (i : Nat), (∀ a ∈ l, ∀ x ∈ a.idx, nodes x ≤ 9000) → ∀ y ∈ rsL b base ahead vars own i l, okT y
  | [], i, _, y, hy => by simp [rsL] at hy
  | a :: l, i, h, y, hy => by
    rw [rsL] at hy
    rcases List.mem_append.1 hy with hy | hy
    · exact rsA_okT ho hl (h a (by simp)) y hy
    · exact rsL_okT ho hl l (i + 1) (fun a' ha' => h a' (by simp [ha'])) y hy
theorem len200 {L0 L1 : List T} {j : Nat} (h : L0.length ≤ 100) (h2 : L1.length ≤ 60) : (L0 ++ L1.take j).length ≤ 200 := by simp only [List.length_append, List.length_take]; omega
theorem len200' {L0 L1 : List T} (h : L0.length ≤ 100) (h2 : L1.length ≤ 60) : (L0 ++ L1).length ≤ 200 := by simp only [List.length_append]; omega
theorem sp200 {L : List T} {x : T} (h : L.length ≤ 200) : (L ++ [x]).length ≤ 100000000 ∧ (L ++ [x]).length * 40 ≤ 140737488351232 := by simp only [List.length_append, List.length_singleton]; omega
theorem room200 {n : Nat} (h : n ≤ 200) : (n + 1) * 40 ≤ maxRoom := by simp only [maxRoom]; omega
set_option maxHeartbeats 2000000 in
theorem result_ok (b : Bl) (hf : Fit b) (base k vars : Int) (so : So) (k0 : 0 ≤ k) (hk : b.sorts[k.toNat]? = some so) (fl : FineArs so.idx) (v0 : 0 ≤ vars) (v1 : vars ≤ 1000)
    (hI : ∀ (i : Nat) (h : i < so.idx.length), so.idx[i].rc = true → ∀ t ∈ so.idx[i].idx, instE t ((lvs ((b.sorts.length + b.cons.length : Nat) : Int) so.idx.length vars).take i) 0 = 0) :
    Pure Tryz.prog n_elim_result [eBl b, .int .i64 base, .int .i64 k, .int .i64 vars] [.agg (cT (resE b base k vars so)), .int .i64 0] := by
  refine p_elim_result rfl fun hs => ?_
  have hfs := hf.s
  have hfc := hf.c
  have hil := fl.1
  have klt := (List.getElem?_eq_some_iff.1 hk).1
  have hk' := (List.getElem?_eq_some_iff.1 hk).2
  have w0 : IntKind.i64.wrap ((b.sorts.length : Int) + b.cons.length) = ((b.sorts.length + b.cons.length : Nat) : Int) := by rw [wrap_id (by omega) (by omega)]; omega
  have hah : b.sorts.length + b.cons.length ≤ 100 := by omega
  have hL := levels_ok ((b.sorts.length + b.cons.length : Nat) : Int) so.idx.length vars (by omega) (by omega) (by omega) v0 v1
  have hL2 := levels_own 0 (b.sorts.length + b.cons.length) vars (by omega) (by omega) (by omega) v0 v1
  have o0 : ∀ y ∈ lvs 0 (b.sorts.length + b.cons.length) vars, okT y := lvs_okT (by omega) (by omega)
  have l0 : (lvs 0 (b.sorts.length + b.cons.length) vars).length = b.sorts.length + b.cons.length := lvs_len _ _ _
  have o1 : ∀ y ∈ lvs ((b.sorts.length + b.cons.length : Nat) : Int) so.idx.length vars, okT y ∧ nodes y ≤ 9000 := fun y hy => ⟨lvs_okT (by omega) (by omega) y hy, by
    simp only [lvs, List.mem_map] at hy
    obtain ⟨i, _, rfl⟩ := hy
    rw [leaf_nodes]; omega⟩
  have l1 : (lvs ((b.sorts.length + b.cons.length : Nat) : Int) so.idx.length vars).length = so.idx.length := lvs_len _ _ _
  have o0' := o0
  rw [resE]
  generalize hAH : b.sorts.length + b.cons.length = AH at *
  generalize hOW : lvs (AH : Int) so.idx.length vars = OW at *
  generalize hL0 : lvs 0 AH vars = L0 at o0 l0 hL2 ⊢
  have hrl := fun j => rsL_len b base AH vars OW (so.idx.take j) 0
  have hsn := rsL_snoc b base AH vars OW so.idx 0
  simp only [cT, eTs] at hL
  simp -dsimp [x_elim_result, eBl, cBl, eSos, eCos, w0, k0, klt, hk, hk', eSo, cSo, eArs]
  refine call_of hL ?_
  simp -dsimp
  refine wp_upto so.idx.length (fun i st => (st.s 1 = .d (.int .i64 base) ∧ st.s 2 = .d (.int .i64 k) ∧ st.s 3 = .d (.int .i64 vars) ∧ st.s 10 = .d (.int .i64 AH) ∧ st.s 12 = .d (eTs OW)) ∧
    (st.s 4 = .ptr 4 1 0 ∧ st.h 4 = ⟨1, .box [.d (eSos b.sorts), .d (eCos b.cons), .d (.int .i64 b.elim)] false⟩) ∧ (st.s 8 = .ptr 8 1 0 ∧ st.h 8 = ⟨1, .box [.d (.int .i64 0), .d (.int .i64 0), .fsl 3 []] false⟩) ∧
    (st.s 39 = .d (eArs so.idx) ∧ st.s 40 = .d (.int .i64 so.idx.length) ∧ st.s 41 = .d (.int .i64 i)) ∧
    ∃ u, st.s 13 = .rsl 13 u ∧ st.h 13 = ⟨u, .row 3 ((rsL b base AH vars OW 0 (so.idx.take i)).map eT) false⟩) ?_ ?_
  · simp -dsimp [eSos, eCos, eTs, eArs, rsL]
  · rintro i ⟨s, hp'⟩ hi ⟨⟨g1, g2, g3, g10, g12⟩, ⟨g4, k4⟩, ⟨g8, k8⟩, ⟨g39, g40, g41⟩, u, g13, k13⟩
    dsimp only at g1 g2 g3 g10 g12 g4 k4 g8 k8 g39 g40 g41 g13 k13
    simp only [eTs, eArs] at g12 g39
    rcases Nat.lt_or_ge i so.idx.length with hlt | hge
    · have w1 : IntKind.i64.wrap ((i : Int) + 1) = (i : Int) + 1 := wrap_id (by omega) (by omega)
      have fa := fl.2 _ (List.getElem_mem hlt)
      have hn1 := hsn i hlt
      have hG := hrl i
      rw [List.length_take] at hG
      have hII := hI i hlt
      have hltO : i < OW.length := by omega
      have oo := o1 _ (List.getElem_mem hltO)
      have hxn : ∀ x ∈ so.idx[i].idx, nodes x ≤ 9000 := fun x hx => Nat.le_trans (sum_mem (List.mem_map.2 ⟨_, hx, rfl⟩)) fa.idx
      rw [hn1, Nat.zero_add, rsA, List.getElem?_eq_getElem hltO, Option.getD_some, hL0]
      generalize hSP : spT (tC (eliminator b base so.idx[i].sort)) (L0 ++ so.idx[i].idx.map (fun t => instT t (OW.take i) 0) ++ [OW[i]]) = SP
      have oOWt : ∀ z ∈ OW.take i, nodes z ≤ 1048576 := fun z hz => by have := (o1 z (List.mem_of_mem_take hz)).2; omega
      have lOWt : (OW.take i).length ≤ 100 := by rw [List.length_take]; omega
      generalize rsL b base AH vars OW 0 (so.idx.take i) = G at *
      have hgl : G.length ≤ 40 := by omega
      generalize hX : OW[i] = X at *
      generalize hR : so.idx[i] = R at *
      have r1 : (G.length + 1) * 40 ≤ maxRoom := room41 hgl trivial
      have r2 : (G.length + 1 + 1) * 40 ≤ maxRoom := room42 hgl
      cases hr : R.rc with
      | false =>
        simp -dsimp [g1, g2, g3, g10, g12, g4, k4, g8, k8, g39, g40, g41, g13, k13, hlt, hltO, hX, hR, eAr, cAr, cT, hr, r1, w1, eT_eq, eTs, eArs]
      | true =>
        simp -dsimp [g1, g2, g3, g10, g12, g4, k4, g8, k8, g39, g40, g41, g13, k13, hlt, hltO, hX, hR, eAr, cAr, cT, hr, r1]
        refine callO_of hL2 (by simp [rowsV, rowsC, RV.cells]) ?_
        simp -dsimp [g1, g2, g3, g10, g12, g4, k4, g8, k8, g39, g40, g41, g13, k13, eTs]
        refine wp_upto R.idx.length (fun j st => (st.s 1 = .d (.int .i64 base) ∧ st.s 2 = .d (.int .i64 k) ∧ st.s 3 = .d (.int .i64 vars) ∧ st.s 10 = .d (.int .i64 AH) ∧ st.s 12 = .d (eTs OW) ∧ st.s 14 = .d (.int .i64 i)) ∧
          (st.s 4 = .ptr 4 1 0 ∧ st.h 4 = ⟨1, .box [.d (eSos b.sorts), .d (eCos b.cons), .d (.int .i64 b.elim)] false⟩) ∧ (st.s 8 = .ptr 8 1 0 ∧ st.h 8 = ⟨1, .box [.d (.int .i64 0), .d (.int .i64 0), .fsl 3 []] false⟩) ∧
          (st.s 39 = .d (eArs so.idx) ∧ st.s 40 = .d (.int .i64 so.idx.length) ∧ st.s 41 = .d (.int .i64 i)) ∧
          (∃ u, st.s 13 = .rsl 13 u ∧ st.h 13 = ⟨u, .row 3 (G.map eT ++ [eT X]) false⟩) ∧
          (∃ v, st.s 15 = .ptr 15 v 0 ∧ st.h 15 = ⟨v, .box [.d (.bool R.rc), .d (.int .i64 R.ty.kind), .d (.int .i64 R.ty.num), .d (.sl 3 (R.ty.kids.map eT)), .d (eTs R.dom), .d (.int .i64 R.sort), .d (eTs R.idx)] false⟩) ∧
          (st.s 60 = .d (eTs R.idx) ∧ st.s 61 = .d (.int .i64 R.idx.length) ∧ st.s 62 = .d (.int .i64 j)) ∧
          ∃ u, st.s 16 = .rsl 58 u ∧ st.h 58 = ⟨u, .row 3 ((L0 ++ (R.idx.map fun t => instT t (OW.take i) 0).take j).map eT) false⟩) ?_ ?_
        · simp -dsimp [g1, g2, g3, g10, g12, g4, k4, g8, k8, g39, g40, g41, g13, k13, eTs, eArs, eSos, eCos, eT_eq, cT, hr]
        · clear g1 g2 g3 g10 g12 g4 k4 g8 k8 g39 g40 g41 g13 k13
          rintro j ⟨s, hp'⟩ hj ⟨⟨g1, g2, g3, g10, g12, g14⟩, ⟨g4, k4⟩, ⟨g8, k8⟩, ⟨g39, g40, g41⟩, ⟨u, g13, k13⟩, ⟨v, g15, k15⟩, ⟨g60, g61, g62⟩, u2, g16, k58⟩
          dsimp only at g1 g2 g3 g10 g12 g14 g4 k4 g8 k8 g39 g40 g41 g13 k13 g15 k15 g60 g61 g62 g16 k58
          simp only [eTs, eArs] at g12 g39 g60 k15
          have hidl := fa.idxL
          rcases Nat.lt_or_ge j R.idx.length with hlt2 | hge2
          · have w2 : IntKind.i64.wrap ((j : Int) + 1) = (j : Int) + 1 := wrap_id (by omega) (by omega)
            have hxm := List.getElem_mem hlt2
            have hIn := inst_ok R.idx[j] (OW.take i) 0 (by have := hxn _ hxm; omega) (fun x hx => by have := oOWt x hx; omega) (by omega)
            rw [hII hr _ hxm] at hIn
            have hn : (L0 ++ (R.idx.map fun t => instT t (OW.take i) 0).take (j + 1)).map eT = (L0 ++ (R.idx.map fun t => instT t (OW.take i) 0).take j).map eT ++ [eT (instT R.idx[j] (OW.take i) 0)] := by
              rw [take_snoc (List.getElem?_eq_getElem (by simpa using hlt2)), ← List.append_assoc, List.map_append]
              simp
            rw [hn]
            have hl2 : (L0 ++ (R.idx.map fun t => instT t (OW.take i) 0).take j).length ≤ 200 := len200 (by rw [l0]; exact hah) (by rw [List.length_map]; exact hidl)
            generalize L0 ++ (R.idx.map fun t => instT t (OW.take i) 0).take j = L1 at *
            generalize instT R.idx[j] (OW.take i) 0 = Y at *
            have r3 : (L1.length + 1) * 40 ≤ maxRoom := room200 hl2
            generalize hZ : R.idx[j] = Z at *
            have hio : i ≤ OW.length := by omega
            have hio' : (i : Int) ≤ OW.length := by omega
            simp only [cT, eTs, List.map_take] at hIn
            simp -dsimp [g1, g2, g3, g10, g12, g14, g4, k4, g8, k8, g39, g40, g41, g13, k13, g15, k15, g60, g61, g62, g16, k58, hlt2, hZ, cT, hio, hio']
            refine call_of hIn ?_
            simp -dsimp [g1, g2, g3, g10, g12, g14, g4, k4, g8, k8, g39, g40, g41, g13, k13, g15, k15, g60, g61, g62, g16, k58, hlt2, hZ, cT, r3, w2, eT_eq, eTs, eArs]
          · have e : j = R.idx.length := by omega
            subst e
            rw [List.take_of_length_le (by simp)] at k58
            have hEl := eliminator_ok b base R.sort
            have hC := tc_ok (eliminator b base R.sort)
            have oC := el_okT b base R.sort
            have oL : ∀ x ∈ L0 ++ (R.idx.map fun t => instT t (OW.take i) 0) ++ [X], okT x := fun x hx => by
              simp only [List.mem_append, List.mem_singleton, List.mem_map] at hx
              rcases hx with (hx | ⟨t, ht, rfl⟩) | rfl
              · exact o0 x hx
              · exact inst_okT (by have := hxn t ht; omega) oOWt
              · exact oo.1
            have hLl : (L0 ++ (R.idx.map fun t => instT t (OW.take i) 0)).length ≤ 200 := len200' (by rw [l0]; exact hah) (by rw [List.length_map]; exact hidl)
            have hS := spine_ok (tC (eliminator b base R.sort)) _ (sp200 hLl).1 oC ⟨(sp200 hLl).2, oL⟩
            rw [hSP] at hS
            clear hSP
            generalize eliminator b base R.sort = EL at *
            generalize L0 ++ (R.idx.map fun t => instT t (OW.take i) 0) = L1 at *
            have r3 : (L1.length + 1) * 40 ≤ maxRoom := room200 hLl
            simp only [eBl, cBl, eSos, eCos, cT, eTs, tC, tk, tn, tks, List.map_nil, List.map_append, List.map_cons, eT_eq] at hEl hC hS
            simp -dsimp [g1, g2, g3, g10, g12, g14, g4, k4, g8, k8, g39, g40, g41, g13, k13, g15, k15, g60, g61, g62, g16, k58, hlt, hltO, hX, eSos, eCos]
            refine call_of hEl ?_
            simp -dsimp [g1, g2, g3, g10, g12, g14, g4, k4, g8, k8, g39, g40, g41, g13, k13, g15, k15, g60, g61, g62, g16, k58, hlt, hltO, hX, eSos, eCos]
            refine call_of hC ?_
            simp -dsimp [g1, g2, g3, g10, g12, g14, g4, k4, g8, k8, g39, g40, g41, g13, k13, g15, k15, g60, g61, g62, g16, k58, hlt, hltO, hX, eSos, eCos, r3, cT]
            refine call_of hS ?_
            simp -dsimp [g1, g2, g3, g10, g12, g14, g4, k4, g8, k8, g39, g40, g41, g13, k13, g15, k15, g60, g61, g62, g16, k58, hlt, hltO, hX, eSos, eCos, r2, w1, cT, eT_eq, eTs, eArs]
    · have e : i = so.idx.length := by omega
      subst e
      rw [List.take_length] at k13
      have w4 : IntKind.i64.wrap (vars - 1) = vars - 1 := wrap_id (by omega) (by omega)
      have w5 : IntKind.i64.wrap (vars - 1 - k) = vars - 1 - k := wrap_id (by omega) (by omega)
      have hV := v_ok (vars - 1 - k)
      have hV0 := v_ok 0
      have oV : okT (.mk 1 (vars - 1 - k) []) := .mk _ _ _ (by simp only [n64]; omega) (by simp only [n64]; omega) (by simp) (by simp)
      have oL := rsL_okT (b := b) (base := base) (ahead := AH) (vars := vars) (own := OW) o1 o0' so.idx 0 fun a ha x hx => Nat.le_trans (sum_mem (List.mem_map.2 ⟨_, hx, rfl⟩)) (fl.2 a ha).idx
      have hgl := rsL_len b base AH vars OW so.idx 0
      generalize rsL b base AH vars OW 0 so.idx = G at *
      have oL2 : ∀ x ∈ G ++ [.mk 1 0 []], okT x := fun x hx => by
        rcases List.mem_append.1 hx with hx | hx
        · exact oL x hx
        · rw [List.mem_singleton] at hx; subst hx; exact okT_leaf (by omega) (by omega)
      have hGl : G.length ≤ 200 := Nat.le_trans hgl (by omega)
      have hS := spine_ok (.mk 1 (vars - 1 - k) []) _ (sp200 hGl).1 oV ⟨(sp200 hGl).2, oL2⟩
      have r1 : (G.length + 1) * 40 ≤ maxRoom := room41 (by omega) trivial
      generalize spT (.mk 1 (vars - 1 - k) []) _ = SP at *
      simp only [cT, eTs, tk, tn, tks, List.map_nil, List.map_append, List.map_cons, eT_eq] at hV hV0 hS
      simp -dsimp [g1, g2, g3, g10, g12, g4, k4, g8, k8, g39, g40, g41, g13, k13, w4, w5]
      refine call_of hV ?_
      simp -dsimp [g1, g2, g3, g10, g12, g4, k4, g8, k8, g39, g40, g41, g13, k13]
      refine call_of hV0 ?_
      simp -dsimp [g1, g2, g3, g10, g12, g4, k4, g8, k8, g39, g40, g41, g13, k13, r1, eT_eq, cT]
      refine call_of hS ?_
      simp -dsimp [g1, g2, g3, g10, g12, g4, k4, g8, k8, g39, g40, g41, g13, k13, cT]
end
end Ev
end Go.Proofs.YtdhfkbdhdgaccaaGreat
/- elim.Type. -/
namespace Go.Proofs.YtdhfkbdhdgaccaaGreat
namespace Ev
open Go
set_option maxRecDepth 100000
set_option linter.unusedSimpArgs false
set_option linter.unusedVariables false
section
attribute [local simp] allD_map_d sks_map_d tk tn tks initA EndsM one_sos one_cos one_ars one_ts
theorem var_check {n : Int} (h : 0 ≤ n ∧ n ≤ 65535) : checkM (.mk 1 n []) = 0 := by
  refine (check_iff (by rw [leaf_nodes]; omega)).2 ⟨by rw [leaf_nodes]; omega, by rw [leaf_depth]; omega, var_is_formed h⟩
theorem inst_vars0 {t : T} {l : List T} {V : Int} (hV : 0 ≤ V ∧ V ≤ 100) (ht : checkM t = 0) (hn : nodes t ≤ 9000) (hl : ∀ x ∈ l, ∃ n : Int, x = .mk 1 n [] ∧ 0 ≤ n ∧ n < V) (hln : l.length ≤ 100) (hw : wiT t l.length 65536 = true) : instE t l 0 = 0 := by
  have hx : ∀ x ∈ l, checkM x = 0 ∧ nodes x ≤ 9000 ∧ wiT x V 65536 = true := fun x hx => by
    obtain ⟨n, rfl, h0, h1⟩ := hl x hx
    exact ⟨var_check ⟨h0, by omega⟩, by rw [leaf_nodes]; omega, wi_var (by omega)⟩
  have hf := formed_of ht
  obtain ⟨c1, c2, _⟩ := (check_iff (by omega)).1 ht
  have h1 := (inst_wi hV (u := 0) ⟨by omega, by omega⟩ ht hn hx hln (by rw [Int.zero_add]; exact hw)).1
  have hleaf : ∀ n b, ∃ k m : Int, instF l 0 n b = .mk k m [] := fun n b => by
    rw [instF]
    split
    · split
      · rename_i a ha
        obtain ⟨m, rfl, _, _⟩ := hl a (List.mem_of_getElem? ha)
        exact ⟨_, _, by rw [movedT, mapT, if_pos rfl]⟩
      · exact ⟨_, _, rfl⟩
    · exact ⟨_, _, rfl⟩
  have hN : nodes (mapT (instF l 0) t 0) = nodes t := same_nodes _ (fun n b => by obtain ⟨k, m, e⟩ := hleaf n b; rw [e, leaf_nodes]) t hf 0
  have hD : depthN (mapT (instF l 0) t 0) = depthN t := same_depth _ (fun n b => by obtain ⟨k, m, e⟩ := hleaf n b; rw [e, leaf_depth]) t hf 0
  have hO : openE t l 0 = 0 := (openE_iff t l 0).2 ⟨ht, fun x h => (hx x h).1, by omega, by omega⟩
  have hl' : ∀ x ∈ l, nodes x ≤ 1048576 := fun x h => by have := (hx x h).2.1; omega
  refine (inst_iff (by omega) hl').2 ⟨hO, ?_, by omega, by omega⟩
  cases hs : scI l 0 t 0 with
  | false => rfl
  | true =>
    have : instE t l 0 = 6 := by rw [instE, if_pos hO, openSt_is hO (by omega) hl', hs]; rfl
    omega
def fstN (f : Nat → Int) : Nat → Int
  | 0 => 0
  | n + 1 => if fstN f n = 0 then f n else fstN f n
theorem fstN_hit {f : Nat → Int} {i : Nat} (h0 : fstN f i = 0) (h1 : f i ≠ 0) : ∀ {n : Nat}, i < n → fstN f n = f i := by
  intro n
  induction n with
  | zero => omega
  | succ n ih =>
    intro hlt
    rcases Nat.lt_or_ge i n with h | h
    · rw [fstN, ih h, if_neg h1]
    · have : i = n := by omega
      subst this
      rw [fstN, if_pos h0]
theorem fstN_zero {f : Nat → Int} : ∀ {n : Nat}, fstN f n = 0 ↔ ∀ i, i < n → f i = 0 := by
  intro n
  induction n with
  | zero => simp [fstN]
  | succ n ih =>
    rw [fstN]
    constructor
    · intro h i hi
      split at h
      · rename_i h0
        rcases Nat.lt_or_ge i n with h1 | h1
        · exact ih.1 h0 i h1
        · have : i = n := by omega
          subst this; exact h
      · rename_i h0; exact absurd h h0
    · intro h
      rw [if_pos (ih.2 fun i hi => h i (by omega))]
      exact h n (by omega)
def motsL (b : Bl) (base : Int) (n : Nat) : List T := (List.range n).map fun (i : Nat) => motR b base (i : Int)
def metsL (b : Bl) (base : Int) (n : Nat) : List T := (List.range n).map fun (i : Nat) => metR b base (i : Int)
theorem motsL_snoc (b : Bl) (base : Int) (n : Nat) : motsL b base (n + 1) = motsL b base n ++ [motR b base n] := by simp [motsL, List.range_succ]
theorem metsL_snoc (b : Bl) (base : Int) (n : Nat) : metsL b base (n + 1) = metsL b base n ++ [metR b base n] := by simp [metsL, List.range_succ]
theorem motsL_len (b : Bl) (base : Int) (n : Nat) : (motsL b base n).length = n := by simp [motsL]
theorem metsL_len (b : Bl) (base : Int) (n : Nat) : (metsL b base n).length = n := by simp [metsL]
/-- The domains of an eliminator's type. -/
def elL (b : Bl) (base k : Int) (so : So) : List T := motsL b base b.sorts.length ++ metsL b base b.cons.length ++ so.idx.map (argTy b base) ++ [spT (tC (former b base k)) (varsN so.idx.length)]
theorem elL_len (b : Bl) (base k : Int) (so : So) : (elL b base k so).length = b.sorts.length + b.cons.length + so.idx.length + 1 := by
  simp only [elL, List.length_append, motsL_len, metsL_len, List.length_map, List.length_singleton]
def elT (b : Bl) (base k : Int) (so : So) : T := nestT 4 (elL b base k so) (resE b base k ((elL b base k so).length : Int) so)
def elE (b : Bl) (base k : Int) : Int :=
  if mayP b base k b.sorts.length = 0 then
    if fstN (fun i => motE b base i) b.sorts.length = 0 then
      if fstN (fun i => metE b base i) b.cons.length = 0 then (match b.sorts[k.toNat]? with | some so => checkM (elT b base k so) | none => 1)
      else fstN (fun i => metE b base i) b.cons.length
    else fstN (fun i => motE b base i) b.sorts.length
  else mayP b base k b.sorts.length
def elR (b : Bl) (base k : Int) : T := if elE b base k = 0 then (match b.sorts[k.toNat]? with | some so => elT b base k so | none => zT) else zT
theorem motR_ok (b : Bl) (base k : Int) : okT (motR b base k) := by
  rw [motR]
  split
  · rename_i h
    split
    · rename_i so hso
      rw [motE] at h
      split at h
      · simp only [hso] at h
        exact okT_of_formed (formed_of h)
      · rename_i h'; exact absurd h h'
    · exact okT_leaf (by omega) (by omega)
  · exact okT_leaf (by omega) (by omega)
theorem metR_ok (b : Bl) (base k : Int) : okT (metR b base k) := by
  rw [metR]
  split
  · rename_i h
    rw [metE] at h
    split at h
    · cases hA : metA b base k with
      | none => exact okT_leaf (by omega) (by omega)
      | some t =>
        simp only [hA] at h
        exact okT_of_formed (formed_of h)
    · rename_i h'; exact absurd h h'
  · exact okT_leaf (by omega) (by omega)
theorem idx_ok0 {b : Bl} {l : List Ar} (hr : rowM b l = true) (fl : FineArs l) (hd0 : ∀ a ∈ l, a.rc = true → a.dom = []) {o V : Int} (h0 : 0 ≤ V - o - l.length) (h1 : 0 ≤ o) (V1 : V ≤ 100) : ∀ (i : Nat) (h : i < l.length), l[i].rc = true → ∀ t ∈ l[i].idx, instE t ((lvs o l.length V).take i) 0 = 0 := fun i h hrc t ht => by
  obtain ⟨hr1, hr2⟩ := rowM_at hr
  have fa := fl.2 _ (List.getElem_mem h)
  have hnx : nodes t ≤ 9000 := Nat.le_trans (sum_mem (List.mem_map.2 ⟨_, ht, rfl⟩)) fa.idx
  obtain ⟨_, s0, s1, d1, ⟨so, hso, hil⟩, hd, hx⟩ := argM_rec (hr2 i h) hrc (by omega) (by omega)
  have hx1 := hx t ht
  rw [hd0 _ (List.getElem_mem h) hrc, List.length_nil] at hx1
  have hf := in_facts hx1 (by omega) (by omega) (by omega)
  have hlen : ((lvs o l.length V).take i).length = i := by rw [List.length_take, lvs_len]; omega
  refine inst_vars0 (V := V) ⟨by omega, by omega⟩ hf.2.2 hnx (fun x hxm => ?_) (by omega) (by rw [hlen]; simpa using hf.1)
  have := List.mem_of_mem_take hxm
  simp only [lvs, List.mem_map, List.mem_range] at this
  obtain ⟨j, hj, rfl⟩ := this
  exact ⟨_, rfl, by omega, by omega⟩
theorem mayP_nonzero {b : Bl} {base k many : Int} : (positE 9000 b base ≠ 0 → mayP b base k many = positE 9000 b base) ∧ (positE 9000 b base = 0 → (k < 0 ∨ many ≤ k) → mayP b base k many = 1) ∧ (positE 9000 b base = 0 → ¬(k < 0 ∨ many ≤ k) → mayP b base k many = 0) :=
  ⟨fun h => by rw [mayP, if_neg (fun h' => h h'.1)], fun h h' => by rw [mayP, if_pos ⟨h, h'⟩], fun h h' => by rw [mayP, if_neg (fun h2 => h' h2.2), h]⟩
set_option maxHeartbeats 4000000 in
theorem elimType_ok (b : Bl) (ob : okBl b) (fb : FineBl b) (hf : Fit b) (base k : Int) (b1 : base ≤ 60000) : Pure Tryz.prog n_elim_Type [eBl b, .int .i64 base, .int .i64 k] [.agg (cT (elR b base k)), .int .i64 (elE b base k)] := by
  refine p_elim_Type rfl fun hs => ?_
  have hP := posit_ok 9000 (by omega) (by omega) b ob fb base
  simp only [eBl, cBl, eSos, eCos] at hP
  obtain ⟨m1, m2, m3⟩ := mayP_nonzero (b := b) (base := base) (k := k) (many := b.sorts.length)
  have bad : elE b base k ≠ 0 → elR b base k = zT := fun h => by rw [elR, if_neg h]
  by_cases hp : positE 9000 b base = 0
  case neg =>
    have e1 : elE b base k = positE 9000 b base := by rw [elE, if_neg (by rw [m1 hp]; exact hp), m1 hp]
    rw [bad (by rw [e1]; exact hp), e1]
    simp -dsimp [x_elim_Type, eBl, cBl, eSos, eCos]
    refine call_of hP ?_
    simp -dsimp [hp, zT, cT]
  rw [hp] at hP
  obtain ⟨hz, b0, _, hpos⟩ := posE_zero8 hp
  obtain ⟨z1, z4, z8, zl, zs, zc⟩ := (checkB_zero b).1 hz
  simp -dsimp [x_elim_Type, eBl, cBl, eSos, eCos]
  refine call_of hP ?_
  by_cases k0 : k < 0
  · have e0 := m2 hp (.inl k0)
    have e1 : elE b base k = 1 := by rw [elE, if_neg (by rw [e0]; decide), e0]
    rw [bad (by rw [e1]; decide), e1]
    simp -dsimp [k0, zT, cT]
  by_cases k1 : (b.sorts.length : Int) ≤ k
  · have e0 := m2 hp (.inr k1)
    have e1 : elE b base k = 1 := by rw [elE, if_neg (by rw [e0]; decide), e0]
    rw [bad (by rw [e1]; decide), e1]
    simp -dsimp [k0, k1, zT, cT]
  have e0 := m3 hp (by omega)
  simp -dsimp [k0, k1]
  have hfs := hf.s
  have hfc := hf.c
  refine wp_upto b.sorts.length (fun i st => (st.s 1 = .d (.int .i64 base) ∧ st.s 2 = .d (.int .i64 k)) ∧ (st.s 3 = .ptr 3 1 0 ∧ st.h 3 = ⟨1, .box [.d (eSos b.sorts), .d (eCos b.cons), .d (.int .i64 b.elim)] false⟩) ∧
    (st.s 6 = .ptr 6 1 0 ∧ st.h 6 = ⟨1, .box [.d (.int .i64 0), .d (.int .i64 0), .fsl 3 []] false⟩) ∧ (st.s 40 = .d (.int .i64 b.sorts.length) ∧ st.s 41 = .d (.int .i64 i)) ∧
    (∃ u, st.s 9 = .rsl 9 u ∧ st.h 9 = ⟨u, .row 3 ((motsL b base i).map eT) false⟩) ∧ fstN (fun i => motE b base i) i = 0) ?_ ?_
  · simp -dsimp [eSos, eCos, motsL, fstN]
  rintro i ⟨s, hp'⟩ hi ⟨⟨g1, g2⟩, ⟨g3, k3⟩, ⟨g6, k6⟩, ⟨g40, g41⟩, ⟨u, g9, k9⟩, hF⟩
  dsimp only at g1 g2 g3 k3 g6 k6 g40 g41 g9 k9
  simp only [eSos, eCos] at k3
  rcases Nat.lt_or_ge i b.sorts.length with hlt | hge
  · have w1 : IntKind.i64.wrap ((i : Int) + 1) = (i : Int) + 1 := wrap_id (by omega) (by omega)
    have hM := motive_ok b ob fb hf base i b1
    have hr : ((motsL b base i).length + 1) * 40 ≤ maxRoom := by rw [motsL_len]; simp only [maxRoom]; omega
    have hn : (motsL b base (i + 1)).map eT = (motsL b base i).map eT ++ [eT (motR b base i)] := by rw [motsL_snoc, List.map_append]; rfl
    have hF1 : fstN (fun i => motE b base i) (i + 1) = motE b base i := by rw [fstN, if_pos hF]
    rw [hn, hF1]
    by_cases hE : motE b base i = 0
    · generalize motsL b base i = G at *
      generalize motR b base i = Y at *
      simp only [eBl, cBl, eSos, eCos, cT] at hM
      rw [hE] at hM
      simp -dsimp [g1, g2, g3, k3, g6, k6, g40, g41, g9, k9, hlt]
      refine call_of hM ?_
      simp -dsimp [g1, g2, g3, k3, g6, k6, g40, g41, g9, k9, hlt, hE, hr, w1, eT_eq, cT, eSos, eCos]
    · have hh := fstN_hit (f := fun i => motE b base i) hF hE hlt
      have e1 : elE b base k = motE b base i := by rw [elE, if_pos e0, hh, if_neg hE]
      rw [bad (by rw [e1]; exact hE), e1]
      generalize motE b base i = E at *
      generalize motsL b base i = G at *
      generalize motR b base i = Y at *
      simp only [eBl, cBl, eSos, eCos, cT] at hM
      simp -dsimp [g1, g2, g3, k3, g6, k6, g40, g41, g9, k9, hlt]
      refine call_of hM ?_
      simp -dsimp [g1, g2, g3, k3, g6, k6, g40, g41, g9, k9, hlt, hE, zT, cT]
  have e : i = b.sorts.length := by omega
  subst e
  simp -dsimp [g1, g2, g3, k3, g6, k6, g40, g41, g9, k9]
  refine wp_upto b.cons.length (fun i st => (st.s 1 = .d (.int .i64 base) ∧ st.s 2 = .d (.int .i64 k)) ∧ (st.s 3 = .ptr 3 1 0 ∧ st.h 3 = ⟨1, .box [.d (eSos b.sorts), .d (eCos b.cons), .d (.int .i64 b.elim)] false⟩) ∧
    (st.s 6 = .ptr 6 1 0 ∧ st.h 6 = ⟨1, .box [.d (.int .i64 0), .d (.int .i64 0), .fsl 3 []] false⟩) ∧ (st.s 62 = .d (.int .i64 b.cons.length) ∧ st.s 63 = .d (.int .i64 i)) ∧
    (∃ u, st.s 9 = .rsl 9 u ∧ st.h 9 = ⟨u, .row 3 ((motsL b base b.sorts.length ++ metsL b base i).map eT) false⟩) ∧ fstN (fun i => metE b base i) i = 0) ?_ ?_
  · simp -dsimp [eSos, eCos, metsL, fstN, g1, g2, g3, k3, g6, k6, g40, g41, g9, k9]
  clear g1 g2 g3 k3 g6 k6 g40 g41 g9 k9 hi hge
  rintro i ⟨s, hp'⟩ hi ⟨⟨g1, g2⟩, ⟨g3, k3⟩, ⟨g6, k6⟩, ⟨g62, g63⟩, ⟨u, g9, k9⟩, hG⟩
  dsimp only at g1 g2 g3 k3 g6 k6 g62 g63 g9 k9
  simp only [eSos, eCos] at k3
  have lM := motsL_len b base b.sorts.length
  rcases Nat.lt_or_ge i b.cons.length with hlt | hge
  · have w1 : IntKind.i64.wrap ((i : Int) + 1) = (i : Int) + 1 := wrap_id (by omega) (by omega)
    have hM := method_ok b ob fb hf base i b1
    have hr : ((motsL b base b.sorts.length ++ metsL b base i).length + 1) * 40 ≤ maxRoom := by rw [List.length_append, lM, metsL_len]; simp only [maxRoom]; omega
    have hn : (motsL b base b.sorts.length ++ metsL b base (i + 1)).map eT = (motsL b base b.sorts.length ++ metsL b base i).map eT ++ [eT (metR b base i)] := by rw [metsL_snoc, ← List.append_assoc, List.map_append]; rfl
    have hF1 : fstN (fun i => metE b base i) (i + 1) = metE b base i := by rw [fstN, if_pos hG]
    rw [hn, hF1]
    generalize motsL b base b.sorts.length ++ metsL b base i = G at *
    by_cases hE : metE b base i = 0
    · generalize metR b base i = Y at *
      simp only [eBl, cBl, eSos, eCos, cT] at hM
      rw [hE] at hM
      simp -dsimp [g1, g2, g3, k3, g6, k6, g62, g63, g9, k9, hlt]
      refine call_of hM ?_
      simp -dsimp [g1, g2, g3, k3, g6, k6, g62, g63, g9, k9, hlt, hE, hr, w1, eT_eq, cT, eSos, eCos]
    · have hh := fstN_hit (f := fun i => metE b base i) hG hE hlt
      have e1 : elE b base k = metE b base i := by rw [elE, if_pos e0, if_pos hF, hh, if_neg hE]
      rw [bad (by rw [e1]; exact hE), e1]
      generalize metE b base i = E at *
      generalize metR b base i = Y at *
      simp only [eBl, cBl, eSos, eCos, cT] at hM
      simp -dsimp [g1, g2, g3, k3, g6, k6, g62, g63, g9, k9, hlt]
      refine call_of hM ?_
      simp -dsimp [g1, g2, g3, k3, g6, k6, g62, g63, g9, k9, hlt, hE, zT, cT]
  have e : i = b.cons.length := by omega
  subst e
  have klt : k.toNat < b.sorts.length := by omega
  have hget : b.sorts[k.toNat]? = some b.sorts[k.toNat] := List.getElem?_eq_getElem klt
  have kk0 : 0 ≤ k := by omega
  have os := ob.sorts _ (List.getElem_mem klt)
  have fs := fb.sorts _ (List.getElem_mem klt)
  have hsm := zs _ klt
  have e1 : elE b base k = checkM (elT b base k b.sorts[k.toNat]) := by rw [elE, if_pos e0, if_pos hF, if_pos hG, hget]
  have e2 : elR b base k = rightT (elT b base k b.sorts[k.toNat]) := by rw [elR, rightT, e1, hget]
  generalize hS : b.sorts[k.toNat] = S at *
  obtain ⟨hrow, _, _, hbad⟩ := (sortM_true _ _ _).1 hsm
  have hil := fs.idx.1
  have hd0 : ∀ a ∈ S.idx, a.rc = true → a.dom = [] := fun a ha hr => by
    have := hbad a ha
    rw [sortBad, if_pos hr] at this
    split at this
    · cases this
    · exact List.eq_nil_of_length_eq_zero (by omega)
  have lL := elL_len b base k S
  have lN := metsL_len b base b.cons.length
  have hA := argTypes_ok b base S.idx os.idx fs.idx
  have hFo := former_ok b base k
  have hC := tc_ok (former b base k)
  have hfi := former_is hf b0 (by omega : base ≤ 65535) k
  rw [if_pos ⟨kk0, by omega⟩] at hfi
  have oC : okT (tC (former b base k)) := okT_leaf (by omega) (by omega)
  have hV := vars_is S.idx.length (by omega)
  have hSp := spine_ok (tC (former b base k)) (varsN S.idx.length) (by rw [varsN_len]; omega) oC (varsN_okTs _ (by omega))
  have oSp := sp_okT (varsN S.idx.length) _ oC (varsN_okTs S.idx.length (by omega)).2
  have hR := result_ok b hf base k ((elL b base k S).length : Int) S kk0 hget fs.idx (by omega) (by omega) (idx_ok0 hrow fs.idx hd0 (by omega) (by omega) (by omega))
  have oR : okT (resE b base k ((elL b base k S).length : Int) S) := by
    refine sp_okT _ _ (.mk _ _ _ (by simp only [n64]; omega) (by simp only [n64]; omega) (by simp) (by simp)) fun x hx => ?_
    rcases List.mem_append.1 hx with hx | hx
    · refine rsL_okT (fun y hy => ⟨lvs_okT (by omega) (by omega) y hy, ?_⟩) (lvs_okT (by omega) (by omega)) S.idx 0 (fun a ha x hx => Nat.le_trans (sum_mem (List.mem_map.2 ⟨_, hx, rfl⟩)) (fs.idx.2 a ha).idx) x hx
      simp only [lvs, List.mem_map] at hy
      obtain ⟨i, _, rfl⟩ := hy
      rw [leaf_nodes]; omega
    · rw [List.mem_singleton] at hx; subst hx; exact okT_leaf (by omega) (by omega)
  have oA := args_okTs b base os.idx fs.idx
  have oL : ∀ x ∈ elL b base k S, okT x := fun x hx => by
    simp only [elL, List.mem_append, List.mem_singleton] at hx
    rcases hx with ((hx | hx) | hx) | rfl
    · obtain ⟨i, _, rfl⟩ := List.mem_map.1 hx
      exact motR_ok b base i
    · obtain ⟨i, _, rfl⟩ := List.mem_map.1 hx
      exact metR_ok b base i
    · exact oA.2 x hx
    · exact oSp
  have hPi := pis_ok (elL b base k S) _ (by omega) oR ⟨by omega, oL⟩
  have hCh := check_ok (elT b base k S)
  rw [e1, e2]
  rw [← elT] at hPi
  have lA : (S.idx.map (argTy b base)).length = S.idx.length := List.length_map ..
  have hLe : (elL b base k S).map eT = (motsL b base b.sorts.length ++ metsL b base b.cons.length).map eT ++ (S.idx.map (argTy b base)).map eT ++ [eT (spT (tC (former b base k)) (varsN S.idx.length))] := by
    rw [elL, List.map_append, List.map_append, List.map_singleton]
  have hGl : (motsL b base b.sorts.length ++ metsL b base b.cons.length).length ≤ 100 := by rw [List.length_append, lM, lN]; omega
  generalize elT b base k S = ET at *
  generalize resE b base k ((elL b base k S).length : Int) S = RE at *
  generalize elL b base k S = EL at *
  generalize motsL b base b.sorts.length ++ metsL b base b.cons.length = G at *
  generalize S.idx.map (argTy b base) = AR at *
  generalize spT (tC (former b base k)) (varsN S.idx.length) = SP at *
  generalize former b base k = FO at *
  have hl2 : EL.length = G.length + AR.length + 1 := by
    have := congrArg List.length hLe
    simp only [List.length_map, List.length_append, List.length_singleton] at this
    exact this
  rw [hl2] at hR
  have r1 : (G.length + AR.length) * 40 ≤ maxRoom := by simp only [maxRoom]; omega
  have r2 : (G.length + AR.length + 1) * 40 ≤ maxRoom := by simp only [maxRoom]; omega
  clear hP e1 e2 bad m1 m2 m3 oL oA oR oSp hd0 hbad hrow zs zc oC
  simp only [eTs] at hPi
  rw [hLe, List.append_assoc] at hPi
  have hle2 : ((G.length + AR.length + 1 : Nat) : Int) = (G.length : Int) + AR.length + 1 := by omega
  simp only [eBl, cBl, eSos, eCos, cT, eTs, eArs, tC, tk, tn, tks, List.map_nil, eT_eq, hle2] at hA hFo hC hV hSp hR hPi hCh
  simp -dsimp [g1, g2, g3, k3, g6, k6, g62, g63, g9, k9, kk0, klt, hget, hS, eSo, cSo, cT, eArs]
  refine call_of hA ?_
  simp -dsimp [g1, g2, g3, k3, g6, k6, g62, g63, g9, k9, kk0, klt, hget, hS, eSo, cSo, cT, eArs, r1]
  refine call_of hFo ?_
  simp -dsimp [g1, g2, g3, k3, g6, k6, g62, g63, g9, k9]
  refine call_of hC ?_
  simp -dsimp [g1, g2, g3, k3, g6, k6, g62, g63, g9, k9]
  refine call_of hV ?_
  simp -dsimp [g1, g2, g3, k3, g6, k6, g62, g63, g9, k9]
  refine call_of hSp ?_
  simp -dsimp [g1, g2, g3, k3, g6, k6, g62, g63, g9, k9, r2, cT]
  refine call_of hR ?_
  simp -dsimp [g1, g2, g3, k3, g6, k6, g62, g63, g9, k9, cT]
  refine call_of hPi ?_
  simp -dsimp [g1, g2, g3, k3, g6, k6, g62, g63, g9, k9, cT]
  refine call_of hCh ?_
  by_cases hc : checkM ET = 0
  · simp -dsimp [g1, g2, g3, k3, g6, k6, hc, rightT, cT]
  · simp -dsimp [g1, g2, g3, k3, g6, k6, hc, rightT, zT, cT]
end
end Ev
end Go.Proofs.YtdhfkbdhdgaccaaGreat
/- posit's laws: constants that terms name; variables counted (the document's). -/
namespace Go.Proofs.YtdhfkbdhdgaccaaGreat
namespace Ev
open Go
set_option maxRecDepth 100000
set_option linter.unusedSimpArgs false
set_option linter.unusedVariables false
section
attribute [local simp] allD_map_d sks_map_d tk tn tks initA EndsM
/-- Where a number stands in a rising list. -/
def kI : List Int → Int → Nat
  | [], _ => 0
  | x :: xs, n => if x < n then kI xs n + 1 else 0
def joinL (l : List Int) (n : Int) : List Int := if l[kI l n]? = some n then l else l.take (kI l n) ++ n :: l.drop (kI l n)
theorem join_mem {l : List Int} {n x : Int} : x ∈ joinL l n ↔ x = n ∨ x ∈ l := by
  rw [joinL]
  split
  · rename_i h
    constructor
    · exact .inr
    · rintro (rfl | h')
      · exact List.mem_of_getElem? h
      · exact h'
  · have e : x ∈ l ↔ x ∈ l.take (kI l n) ∨ x ∈ l.drop (kI l n) := by rw [← List.mem_append, List.take_append_drop]
    rw [List.mem_append, List.mem_cons, e]
    constructor
    · rintro (h | h | h)
      · exact .inr (.inl h)
      · exact .inl h
      · exact .inr (.inr h)
    · rintro (h | h | h)
      · exact .inr (.inl h)
      · exact .inl h
      · exact .inr (.inr h)
mutual
def csT : T → List Int
  | .mk k n ks => csL (if k = 3 then joinL [] n else []) ks
def csL : List Int → List T → List Int
  | a, [] => a
  | a, x :: xs => csL ((csT x).foldl joinL a) xs
end
theorem fold_mem {c : Int} : ∀ (l a : List Int), c ∈ l.foldl joinL a ↔ c ∈ a ∨ c ∈ l
  | [], a => by simp
  | x :: xs, a => by
    rw [List.foldl_cons, fold_mem xs, join_mem, List.mem_cons]
    constructor
    · rintro ((h | h) | h)
      · exact .inr (.inl h)
      · exact .inl h
      · exact .inr (.inr h)
    · rintro (h | h | h)
      · exact .inl (.inr h)
      · exact .inl (.inl h)
      · exact .inr h
theorem cs_mem {c : Int} {k n : Int} {ks : List T} : c ∈ csT (.mk k n ks) ↔ (k = 3 ∧ c = n) ∨ ∃ x ∈ ks, c ∈ csT x := by
  rw [csT]
  have go : ∀ (l : List T) (a : List Int), c ∈ csL a l ↔ c ∈ a ∨ ∃ x ∈ l, c ∈ csT x := by
    intro l
    induction l with
    | nil => intro a; simp [csL]
    | cons x xs ihx =>
      intro a
      rw [csL, ihx, fold_mem]
      simp only [List.mem_cons, exists_eq_or_imp]
      constructor
      · rintro ((h | h) | h)
        · exact .inl h
        · exact .inr (.inl h)
        · exact .inr (.inr h)
      · rintro (h | h | h)
        · exact .inl (.inl h)
        · exact .inl (.inr h)
        · exact .inr h
  rw [go]
  by_cases hk : k = 3
  · rw [if_pos hk, join_mem]; simp [hk]
  · rw [if_neg hk]; simp [hk]
/-- A row's terms. -/
def arT (a : Ar) : List T := a.ty :: (a.dom ++ a.idx)
def arTs (l : List Ar) : List T := (l.map arT).flatten
def soT (s : So) : List T := s.dty :: arTs s.idx
def coT (c : Co) : List T := c.dec :: (c.idx ++ arTs c.args)
def blT (b : Bl) : List T := (b.sorts.map soT).flatten ++ (b.cons.map coT).flatten
def nmB (b : Bl) (c : Int) : Bool := (blT b).any fun t => (csT t).any (· == c)
end
end Ev
end Go.Proofs.YtdhfkbdhdgaccaaGreat
/- posit's laws: known blocks; wakes. -/
namespace Go.Proofs.YtdhfkbdhdgaccaaGreat
namespace Ev
open Go
set_option maxRecDepth 100000
set_option linter.unusedSimpArgs false
set_option linter.unusedVariables false
def n64B (n : Int) : Bool := decide (-9223372036854775808 ≤ n) && decide (n < 9223372036854775808)
theorem n64_of {n : Int} (h : n64B n = true) : n64 n := by
  rw [n64B, Bool.and_eq_true, decide_eq_true_eq, decide_eq_true_eq] at h
  exact h
mutual
def okTB : T → Bool
  | .mk k n ks => n64B k && (n64B n && (decide (ks.length * 40 ≤ 140737488351232) && okLB ks))
def okLB : List T → Bool
  | [] => true
  | x :: xs => okTB x && okLB xs
end
theorem okL_of {xs : List T} (hx : ∀ x ∈ xs, okTB x = true → okT x) (h : okLB xs = true) : ∀ x ∈ xs, okT x := by
  induction xs with
  | nil => intro x hx'; simp at hx'
  | cons y ys ih =>
    rw [okLB, Bool.and_eq_true] at h
    intro x hm
    rcases List.mem_cons.1 hm with rfl | hm
    · exact hx _ (by simp) h.1
    · exact ih (fun z hz => hx z (by simp [hz])) h.2 x hm
theorem okT_of (t : T) : okTB t = true → okT t := by
  refine T.ind (p := fun t => okTB t = true → okT t) ?_ t
  intro k n ks ih h
  rw [okTB] at h
  simp only [Bool.and_eq_true, decide_eq_true_eq] at h
  exact .mk k n ks (n64_of h.1) (n64_of h.2.1) h.2.2.1 (okL_of ih h.2.2.2)
def okTsB (l : List T) : Bool := decide (l.length * 40 ≤ 140737488351232) && okLB l
theorem okTsB_of {l : List T} (h : okTsB l = true) : okTs l := by
  rw [okTsB, Bool.and_eq_true, decide_eq_true_eq] at h
  exact ⟨h.1, okL_of (fun x _ => okT_of x) h.2⟩
def okArB (a : Ar) : Bool := okTB a.ty && (okTsB a.dom && (n64B a.sort && okTsB a.idx))
def okArsB (l : List Ar) : Bool := decide (l.length * 104 ≤ 140737488351232) && l.all okArB
theorem okArs_of {l : List Ar} (h : okArsB l = true) : okArs l := by
  rw [okArsB, Bool.and_eq_true, decide_eq_true_eq, List.all_eq_true] at h
  refine ⟨h.1, fun a ha => ?_⟩
  have := h.2 a ha
  simp only [okArB, Bool.and_eq_true] at this
  exact ⟨okT_of _ this.1, okTsB_of this.2.1, n64_of this.2.2.1, okTsB_of this.2.2.2⟩
def okBlB (b : Bl) : Bool := decide (b.sorts.length * 80 ≤ 140737488351232) && (b.sorts.all (fun s => okArsB s.idx && (n64B s.level && okTB s.dty)) && (decide (b.cons.length * 96 ≤ 140737488351232) &&
  (b.cons.all (fun c => n64B c.sort && (okArsB c.args && (okTsB c.idx && okTB c.dec))) && n64B b.elim)))
theorem okBl_of {b : Bl} (h : okBlB b = true) : okBl b := by
  simp only [okBlB, Bool.and_eq_true, decide_eq_true_eq, List.all_eq_true] at h
  obtain ⟨h1, h2, h3, h4, h5⟩ := h
  exact ⟨h1, fun s hs => ⟨okArs_of (h2 s hs).1, n64_of (h2 s hs).2.1, okT_of _ (h2 s hs).2.2⟩, h3, fun c hc => ⟨n64_of (h4 c hc).1, okArs_of (h4 c hc).2.1, okTsB_of (h4 c hc).2.2.1, okT_of _ (h4 c hc).2.2.2⟩, n64_of h5⟩
mutual
def nodB : T → Nat
  | .mk _ _ ks => 1 + nodLB ks
def nodLB : List T → Nat
  | [] => 0
  | x :: xs => nodB x + nodLB xs
end
theorem nodLB_of {xs : List T} (h : ∀ x ∈ xs, nodB x = nodes x) : nodLB xs = (xs.map nodes).sum := by
  induction xs with
  | nil => rfl
  | cons y ys ih => rw [nodLB, h y (by simp), ih fun z hz => h z (by simp [hz]), List.map_cons, List.sum_cons]
theorem nodB_is (t : T) : nodB t = nodes t := by
  refine T.ind (p := fun t => nodB t = nodes t) ?_ t
  intro k n ks ih
  rw [nodB, nodes, nodLB_of ih, Nat.add_comm]
theorem nodLB_is (l : List T) : nodLB l = (l.map nodes).sum := nodLB_of fun x _ => nodB_is x
def fineArsB (l : List Ar) : Bool := decide (l.length ≤ 20) && l.all fun a => decide (nodB a.ty ≤ 9000) && (decide (a.dom.length ≤ 60) && (decide (nodLB a.dom ≤ 9000) && (decide (a.idx.length ≤ 60) && decide (nodLB a.idx ≤ 9000))))
theorem fineArs_of {l : List Ar} (h : fineArsB l = true) : FineArs l := by
  simp only [fineArsB, nodB_is, nodLB_is, Bool.and_eq_true, decide_eq_true_eq, List.all_eq_true] at h
  exact ⟨h.1, fun a ha => ⟨(h.2 a ha).1, (h.2 a ha).2.1, (h.2 a ha).2.2.1, (h.2 a ha).2.2.2.1, (h.2 a ha).2.2.2.2⟩⟩
def fineBlB (b : Bl) : Bool := decide (b.sorts.length ≤ 10) && (decide (b.cons.length ≤ 20) && ((b.sorts.all fun s => fineArsB s.idx && decide (nodB s.dty ≤ 9000)) &&
  b.cons.all fun c => fineArsB c.args && (decide (c.idx.length ≤ 60) && (decide (nodLB c.idx ≤ 9000) && decide (nodB c.dec ≤ 9000)))))
theorem fineBl_of {b : Bl} (h : fineBlB b = true) : FineBl b := by
  simp only [fineBlB, nodB_is, nodLB_is, Bool.and_eq_true, decide_eq_true_eq, List.all_eq_true] at h
  obtain ⟨h1, h2, h3, h4⟩ := h
  exact ⟨h1, h2, fun s hs => ⟨fineArs_of (h3 s hs).1, (h3 s hs).2⟩, fun c hc => ⟨fineArs_of (h4 c hc).1, (h4 c hc).2.1, (h4 c hc).2.2.1, (h4 c hc).2.2.2⟩⟩
mutual
def formC : T → Bool
  | .mk k n ks => if (ks.length : Int) = kidsM k then if kidsM k = 0 then inB n 0 65535 && formLC ks else if n = 0 then formLC ks else false else false
def formLC : List T → Bool
  | [] => true
  | x :: xs => formC x && formLC xs
end
theorem formLC_of {xs : List T} (h : ∀ x ∈ xs, formC x = formedM x) : formLC xs = xs.all formedM := by
  induction xs with
  | nil => rfl
  | cons y ys ih => rw [formLC, h y (by simp), ih fun z hz => h z (by simp [hz]), List.all_cons]
theorem formC_is (t : T) : formC t = formedM t := by
  refine T.ind (p := fun t => formC t = formedM t) ?_ t
  intro k n ks ih
  rw [formC, formedM_is, formLC_of ih]
/-- A small term in so many variables. -/
def inC (t : T) (v : Nat) : Bool := decide (v ≤ 65536) && (decide (nodB t ≤ 200) && (formC t && wiT t v 65536))
theorem inC_of {t : T} {v : Nat} (h : inC t v = true) : inM t v = true := by
  simp only [inC, Bool.and_eq_true, decide_eq_true_eq, nodB_is, formC_is] at h
  obtain ⟨h1, h2, h3, h4⟩ := h
  have hd := depth_le t
  exact (scope_is (by omega) (by omega) (by omega)).2 ⟨(check_iff (by omega)).2 ⟨by omega, by omega, h3⟩, h4⟩
def domC : Nat → List T → Bool
  | _, [] => true
  | i, x :: xs => inC x i && domC (i + 1) xs
theorem domC_at : ∀ (l : List T) (i : Nat), domC i l = true → ∀ (j : Nat) (hj : j < l.length), inC l[j] (i + j) = true
  | x :: xs, i, h, 0, _ => by rw [domC, Bool.and_eq_true] at h; exact h.1
  | x :: xs, i, h, j + 1, hj => by
    rw [domC, Bool.and_eq_true] at h
    have := domC_at xs (i + 1) h.2 j (by simpa using hj)
    rw [show i + (j + 1) = i + 1 + j by omega]
    exact this
def argC (b : Bl) (a : Ar) (i : Nat) : Bool :=
  if a.rc then noneM a.ty && (decide (a.dom.length ≤ 12) && (decide (0 ≤ a.sort) && match b.sorts[a.sort.toNat]? with
    | none => false
    | some s => decide (a.idx.length = s.idx.length) && (domC i a.dom && a.idx.all fun t => inC t (i + a.dom.length))))
  else inC a.ty i && (decide (a.dom = []) && (decide (a.idx = []) && decide (a.sort = 0)))
theorem allM_of {l : List T} {v : Nat} (h : l.all (fun t => inC t v) = true) : allM l v = true := by
  rw [allM, Bool.not_eq_true', List.any_eq_false]
  intro x hx
  have := inC_of (List.all_eq_true.1 h x hx)
  simp [this]
theorem argC_of {b : Bl} {a : Ar} {i : Nat} (hi : i ≤ 12) (h : argC b a i = true) : argM b a i = true := by
  rw [argC] at h
  rw [argM]
  split at h
  · rename_i hr
    simp only [Bool.and_eq_true, decide_eq_true_eq] at h
    obtain ⟨h1, h2, h3, h4⟩ := h
    rw [if_pos hr, if_pos h1, if_neg (by omega), if_neg (by omega)]
    split at h4
    · cases h4
    · rename_i s hs
      simp only [Bool.and_eq_true, decide_eq_true_eq] at h4
      obtain ⟨h5, h6, h7⟩ := h4
      rw [hs]
      dsimp only
      rw [if_pos (by omega), Bool.and_eq_true]
      refine ⟨(allI_iff _ _ _).2 fun j hj => ?_, ?_⟩
      · rw [Nat.zero_add, w64_id (by omega) (by omega), show (i : Int) + (j : Int) = ((i + j : Nat) : Int) by omega]
        exact inC_of (domC_at _ _ h6 j hj)
      · rw [w64_id (by omega) (by omega), show (i : Int) + (a.dom.length : Int) = ((i + a.dom.length : Nat) : Int) by omega]
        exact allM_of h7
  · rename_i hr
    simp only [Bool.and_eq_true, decide_eq_true_eq] at h
    obtain ⟨h1, h2, h3, h4⟩ := h
    rw [if_neg hr, if_pos (inC_of h1), h2, h3]
    simp [h4, w64]
    rfl
def argsC (b : Bl) : Nat → List Ar → Bool
  | _, [] => true
  | i, x :: xs => argC b x i && argsC b (i + 1) xs
theorem argsC_at {b : Bl} : ∀ (l : List Ar) (i : Nat), argsC b i l = true → ∀ (j : Nat) (hj : j < l.length), argC b l[j] (i + j) = true
  | x :: xs, i, h, 0, _ => by rw [argsC, Bool.and_eq_true] at h; exact h.1
  | x :: xs, i, h, j + 1, hj => by
    rw [argsC, Bool.and_eq_true] at h
    have := argsC_at xs (i + 1) h.2 j (by simpa using hj)
    rw [show i + (j + 1) = i + 1 + j by omega]
    exact this
def rowC (b : Bl) (l : List Ar) : Bool := decide (l.length ≤ 12) && argsC b 0 l
theorem rowC_of {b : Bl} {l : List Ar} (h : rowC b l = true) : rowM b l = true := by
  rw [rowC, Bool.and_eq_true, decide_eq_true_eq] at h
  rw [rowM, if_neg (by omega)]
  refine (allI_iff _ _ _).2 fun j hj => ?_
  have := argsC_at _ _ h.2 j hj
  rw [Nat.zero_add] at this ⊢
  exact argC_of (by omega) this
def maybeC (is : Bool) (t : T) (v : Nat) : Bool := if is then inC t v else noneM t
theorem maybeC_of {is : Bool} {t : T} {v : Nat} (h : maybeC is t v = true) : maybeM is t v = true := by
  rw [maybeC] at h
  rw [maybeM]
  split at h
  · rename_i h1
    rw [if_pos h1]; exact inC_of h
  · rename_i h1
    rw [if_neg h1]; exact h
def sortsC (b : Bl) : Nat → List So → Bool
  | _, [] => true
  | k, s :: l => (rowC b s.idx && (levelM s.level && (maybeC s.dec s.dty s.idx.length && !s.idx.any (sortBad k s)))) && sortsC b (k + 1) l
theorem sortsC_at {b : Bl} : ∀ (l : List So) (k : Nat), sortsC b k l = true → ∀ (j : Nat) (hj : j < l.length), sortM b (k + j) l[j] = true
  | x :: xs, k, h, 0, _ => by
    simp only [sortsC, Bool.and_eq_true, Bool.not_eq_true'] at h
    obtain ⟨⟨h1, h2, h3, h4⟩, _⟩ := h
    refine (sortM_true _ _ _).2 ⟨rowC_of h1, h2, maybeC_of h3, fun a ha => ?_⟩
    have := List.any_eq_false.1 h4 a ha
    simpa using this
  | x :: xs, k, h, j + 1, hj => by
    rw [sortsC, Bool.and_eq_true] at h
    have := sortsC_at xs (k + 1) h.2 j (by simpa using hj)
    rw [show k + (j + 1) = k + 1 + j by omega]
    exact this
def conC (b : Bl) (c : Co) : Bool := decide (0 ≤ c.sort) && (rowC b c.args && match b.sorts[c.sort.toNat]? with
  | none => false
  | some s => decide (c.idx.length = s.idx.length) && (c.idx.all (fun t => inC t c.args.length) && maybeC s.dec c.dec c.args.length))
theorem conC_of {b : Bl} {c : Co} (h : conC b c = true) : conM b c = true := by
  simp only [conC, Bool.and_eq_true, decide_eq_true_eq] at h
  obtain ⟨h1, h2, h3⟩ := h
  rw [conM, if_neg (by omega), if_pos (rowC_of h2)]
  split at h3
  · cases h3
  · rename_i s hs
    simp only [Bool.and_eq_true, decide_eq_true_eq] at h3
    rw [hs]
    dsimp only
    rw [if_pos (by omega), if_pos (allM_of h3.2.1)]
    exact maybeC_of h3.2.2
def shapeC (b : Bl) : Bool := decide (1 ≤ b.sorts.length) && (decide (b.sorts.length ≤ 4) && (decide (b.cons.length ≤ 8) && (levelM b.elim && (sortsC b 0 b.sorts && b.cons.all (conC b)))))
theorem shapeC_of {b : Bl} (h : shapeC b = true) : checkB b = 0 := by
  simp only [shapeC, Bool.and_eq_true, decide_eq_true_eq, List.all_eq_true] at h
  obtain ⟨h1, h2, h3, h4, h5, h6⟩ := h
  exact (checkB_zero b).2 ⟨h1, h2, h3, h4, fun j hj => by have := sortsC_at _ _ h5 j hj; rwa [Nat.zero_add] at this, fun c hc => conC_of (h6 c hc)⟩
/-- What posit.Check tells of a known right block. -/
def knownB (b : Bl) (base : Int) (good : Bool) : Bool := okBlB b && (fineBlB b && (shapeC b && (decide (0 ≤ base) && (decide (base ≤ 65535) && (posF 9000 b base == good)))))
end Ev
end Go.Proofs.YtdhfkbdhdgaccaaGreat
/- Blocks that are known. -/
namespace Go.Proofs.YtdhfkbdhdgaccaaGreat
namespace Ev
open Go
set_option maxRecDepth 100000
set_option linter.unusedSimpArgs false
set_option linter.unusedVariables false
section
attribute [local simp] allD_map_d sks_map_d tk tn tks initA EndsM one_sos one_cos one_ars one_ts
theorem in20_ok (n lo hi : Int) : Pure Tryz.prog n_porismref20_in [.int .i64 n, .int .i64 lo, .int .i64 hi] [.bool (decide (lo ≤ n) && decide (n ≤ hi))] := by
  refine p_porismref20_in rfl fun hs => ?_
  simp -dsimp [x_porismref20_in]
  (first | refine Ask_b ?_ ?_ | refine Cnd_b ?_ ?_) <;> intro h <;> (try simp only [decide_eq_true_eq, decide_eq_false_iff_not, beq_iff_eq, beq_eq_false_iff_ne, bne_iff_ne, bne_eq_false_iff_eq, Bool.not_eq_true', Bool.not_eq_false', Bool.and_eq_true, Bool.or_eq_true, Bool.and_eq_false_iff, Bool.or_eq_false_iff] at h) <;> simp -dsimp [h]
theorem small_ok (n : Int) (h : 0 ≤ n ∧ n ≤ 65000) : Pure Tryz.prog n_porismref20_small [.int .i64 n] [.int .i64 n] := by
  refine p_porismref20_small rfl fun hs => ?_
  have hI := in20_ok n 0 65000
  simp -dsimp [x_porismref20_small]
  refine call_of hI ?_
  simp -dsimp [h.1, h.2]
end
end Ev
end Go.Proofs.YtdhfkbdhdgaccaaGreat
/- disp: known blocks; terms built. -/
namespace Go.Proofs.YtdhfkbdhdgaccaaGreat
namespace Ev
open Go
set_option maxRecDepth 100000
set_option linter.unusedSimpArgs false
set_option linter.unusedVariables false
section
attribute [local simp] allD_map_d sks_map_d tk tn tks initA EndsM one_sos one_cos one_ars one_ts
theorem traw (k : Int) (l : List D) (hl : l.length * 40 ≤ maxRoom) : Pure Tryz.prog n_porismref01_T [.int .i64 k, .sl 3 l] [.agg [.int .i64 k, .int .i64 0, .sl 3 l]] := by
  refine p_porismref01_T rfl fun hs => ?_
  simp -dsimp [x_porismref01_T, hl]
theorem craw (n : Int) : Pure Tryz.prog n_porismref01_C [.int .i64 n] [.agg [.int .i64 3, .int .i64 n, .sl 3 []]] := by simpa [cT] using rc_ok n
theorem vraw (n : Int) : Pure Tryz.prog n_porismref01_V [.int .i64 n] [.agg [.int .i64 1, .int .i64 n, .sl 3 []]] := by simpa [cT] using rv_ok n
theorem uraw (n : Int) : Pure Tryz.prog n_porismref01_U [.int .i64 n] [.agg [.int .i64 2, .int .i64 n, .sl 3 []]] := by simpa [cT] using ru_ok n
theorem known_zero {b : Bl} {base : Int} (h : knownB b base true = true) : positE 9000 b base = 0 := by
  simp only [knownB, Bool.and_eq_true, decide_eq_true_eq, beq_iff_eq] at h
  obtain ⟨h1, h2, h3, h4, h5, h6⟩ := h
  rw [positE, if_pos (shapeC_of h3), if_neg (by omega), h6]
  rfl
theorem known_okBl {b : Bl} {base : Int} {g : Bool} (h : knownB b base g = true) : okBl b ∧ FineBl b ∧ Fit b := by
  simp only [knownB, Bool.and_eq_true] at h
  have fb := fineBl_of h.2.1
  exact ⟨okBl_of h.1, fb, ⟨fb.s, fb.c⟩⟩
theorem checkC {t : T} (h : formC t = true) (hn : nodB t ≤ 200) : checkM t = 0 := by
  rw [nodB_is] at hn
  rw [formC_is] at h
  have hd := depth_le t
  exact (check_iff (by omega)).2 ⟨by omega, by omega, h⟩
theorem nat8 : knownB natB 0 true = true := by decide +kernel
end
end Ev
end Go.Proofs.YtdhfkbdhdgaccaaGreat
/- DispKnown. -/
namespace Go.Proofs.YtdhfkbdhdgaccaaGreat
namespace Ev
open Go
set_option maxRecDepth 100000
set_option linter.unusedSimpArgs false
set_option linter.unusedVariables false
section
attribute [local simp] allD_map_d sks_map_d tk tn tks initA EndsM one_sos one_cos one_ars one_ts
theorem recraw (n : Int) (l : List D) (hl : l.length * 40 ≤ maxRoom) : Pure Tryz.prog n_porismref20_rec [.int .i64 n, .sl 3 l] [.agg [.bool true, .int .i64 0, .int .i64 0, .sl 3 [], .sl 3 [], .int .i64 n, .sl 3 l]] := by
  refine p_porismref20_rec rfl fun hs => ?_
  simp -dsimp [hl, x_porismref20_rec]
theorem appraw (k n k' n' : Int) (l l' : List D) : Pure Tryz.prog n_porismref20_app [.agg [.int .i64 k, .int .i64 n, .sl 3 l], .agg [.int .i64 k', .int .i64 n', .sl 3 l']] [.agg [.int .i64 6, .int .i64 0, .sl 3 [.agg [.int .i64 k, .int .i64 n, .sl 3 l], .agg [.int .i64 k', .int .i64 n', .sl 3 l']]]] := by
  refine p_porismref20_app rfl fun hs => ?_
  have hT := traw 6 [.agg [.int .i64 k, .int .i64 n, .sl 3 l], .agg [.int .i64 k', .int .i64 n', .sl 3 l']] (by simp [maxRoom])
  simp -dsimp [x_porismref20_app]
  refine call_of hT ?_
  simp -dsimp
def tA (f a : T) : T := .mk 6 0 [f, a]
def tP (f a : T) : T := .mk 4 0 [f, a]
/-- Contexts and types. -/
def synB (base : Int) : Bl := ⟨[⟨[], 0, false, zT⟩, ⟨[recA 0 []], 0, false, zT⟩], [⟨0, [], [], zT⟩, ⟨0, [recA 0 [], recA 1 [tV 0]], [], zT⟩, ⟨1, [recA 0 []], [tV 0], zT⟩, ⟨1, [recA 0 [], recA 1 [tV 0], recA 1 [tA (tA (tC (base + 3)) (tV 1)) (tV 0)]], [tV 2], zT⟩], 0⟩
theorem syn_ok (base : Int) (hb : 0 ≤ base ∧ base ≤ 60000) : Pure Tryz.prog n_porismref20_Syntax [.int .i64 base] [.agg (declC (synB base))] := by
  refine p_porismref20_Syntax rfl fun hs => ?_
  have h1 := small_ok base ⟨by omega, by omega⟩
  have w1 : IntKind.i64.wrap (base + 3) = base + 3 := wrap_id (by omega) (by omega)
  have hD := decl_ok (synB base)
  simp only [declC, synB, tA, recA, cBl, eBl, eSos, eCos, eSo, cSo, eCo, cCo, eArs, eAr, cAr, cT, tC, tV, zT, eTs, List.map_cons, List.map_nil, eT_eq, tk, tn, tks, List.cons_append, List.nil_append] at hD ⊢
  simp -dsimp [x_porismref20_Syntax]
  refine call_of h1 ?_
  simp -dsimp [w1]
  repeat ((first | refine call_of (craw _) ?_ | refine call_of (vraw _) ?_ | refine call_of (recraw _ _ (by simp [maxRoom])) ?_ | refine call_of (appraw _ _ _ _ _ _) ?_ | refine call_of hD ?_); simp -dsimp [w1])
theorem syn8 : knownB (synB 0) 0 true = true := by decide +kernel
set_option maxHeartbeats 4000000 in
end
end Ev
end Go.Proofs.YtdhfkbdhdgaccaaGreat
/- The document's posit: places, guarded variables. -/
namespace Go.Proofs.YtdhfkbdhdgaccaaGreat
namespace Ev
open Go
set_option maxRecDepth 100000
set_option linter.unusedSimpArgs false
set_option linter.unusedVariables false
section
attribute [local simp] allD_map_d sks_map_d tk tn tks initA EndsM one_sos one_cos one_ars one_ts
def vA : Nat → List Ar → List Int
  | _, [] => []
  | i, a :: l => (if a.rc then (i : Int) else -1) :: vA (i + 1) l
def vrs (p : Pl) : List Int := vA 0 p.args ++ List.replicate p.more.toNat (-1)
def rp (p : Pl) : List D := cBl p.b ++ [.int .i64 p.base, .sl 1 ((vrs p).map (.int .i64)), eArs p.args]
end
end Ev
end Go.Proofs.YtdhfkbdhdgaccaaGreat
/- The document's posit: clean terms. -/
namespace Go.Proofs.YtdhfkbdhdgaccaaGreat
namespace Ev
open Go
set_option maxRecDepth 100000
set_option linter.unusedSimpArgs false
set_option linter.unusedVariables false
section
attribute [local simp] allD_map_d sks_map_d tk tn tks initA EndsM one_sos one_cos one_ars one_ts
/-- What the document's place asks. -/
structure Pok (p : Pl) : Prop where
  m0 : 0 ≤ p.more
  al : p.args.length ≤ 1000
  fit : Fit p.b
  si : ∀ s ∈ p.b.sorts, s.idx.length ≤ 20
  ca : ∀ c ∈ p.b.cons, c.args.length ≤ 20
theorem Pok.fwd {p : Pl} (h : Pok p) {n : Int} (hn : 0 ≤ n) : Pok (p.fwd n) := ⟨by have := h.m0; simp only [Pl.fwd]; omega, h.al, h.fit, h.si, h.ca⟩
end
end Ev
end Go.Proofs.YtdhfkbdhdgaccaaGreat
/- The document's posit: good terms, rows, blocks. -/
namespace Go.Proofs.YtdhfkbdhdgaccaaGreat
namespace Ev
open Go
set_option maxRecDepth 100000
set_option linter.unusedSimpArgs false
set_option linter.unusedVariables false
section
attribute [local simp] allD_map_d sks_map_d tk tn tks initA EndsM one_sos one_cos one_ars one_ts
end
end Ev
end Go.Proofs.YtdhfkbdhdgaccaaGreat
/- The document's posit: rows, blocks. -/
namespace Go.Proofs.YtdhfkbdhdgaccaaGreat
namespace Ev
open Go
set_option maxRecDepth 100000
set_option linter.unusedSimpArgs false
set_option linter.unusedVariables false
section
attribute [local simp] allD_map_d sks_map_d tk tn tks initA EndsM one_sos one_cos one_ars one_ts
/-- What rows ask. -/
structure Rok (b : Bl) (n : Nat) (l : List Ar) : Prop where
  al : l.length ≤ 20
  fit : Fit b
  si : ∀ s ∈ b.sorts, s.idx.length ≤ 20
  ca : ∀ c ∈ b.cons, c.args.length ≤ 20
  ty : ∀ a ∈ l, a.rc = false → okT a.ty ∧ formedM a.ty = true ∧ nodes a.ty ≤ n
  rc : ∀ a ∈ l, a.rc = true → a.dom.length ≤ 60 ∧ (∀ x ∈ a.dom, okT x ∧ formedM x = true ∧ nodes x ≤ n) ∧ (∀ x ∈ a.idx, okT x ∧ formedM x = true ∧ nodes x ≤ n) ∧ 0 ≤ a.sort ∧ ∃ so, b.sorts[a.sort.toNat]? = some so ∧ a.idx.length = so.idx.length
end
end Ev
end Go.Proofs.YtdhfkbdhdgaccaaGreat
/- The document's posit: blocks. -/
namespace Go.Proofs.YtdhfkbdhdgaccaaGreat
namespace Ev
open Go
set_option maxRecDepth 100000
set_option linter.unusedSimpArgs false
set_option linter.unusedVariables false
section
attribute [local simp] allD_map_d sks_map_d tk tn tks initA EndsM one_sos one_cos one_ars one_ts
end
end Ev
end Go.Proofs.YtdhfkbdhdgaccaaGreat
/- DispLevels: what hangs on the eliminators' level. -/
namespace Go.Proofs.YtdhfkbdhdgaccaaGreat
namespace Ev
open Go
set_option maxRecDepth 100000
set_option linter.unusedSimpArgs false
set_option linter.unusedVariables false
end Ev
end Go.Proofs.YtdhfkbdhdgaccaaGreat
/- DispLevels. -/
namespace Go.Proofs.YtdhfkbdhdgaccaaGreat
namespace Ev
open Go
set_option maxRecDepth 100000
set_option linter.unusedSimpArgs false
set_option linter.unusedVariables false
section
attribute [local simp] allD_map_d sks_map_d tk tn tks initA EndsM one_sos one_cos one_ars one_ts
/-- Motives of a positive block. -/
theorem mot_at {b : Bl} {base k : Int} (hp : positE 9000 b base = 0) (k0 : 0 ≤ k) {so : So} (hk : b.sorts[k.toNat]? = some so) : motE b base k = checkM (motT b base k so) ∧ motR b base k = rightT (motT b base k so) := by
  have hlt := (List.getElem?_eq_some_iff.1 hk).1
  have hm : mayP b base k b.sorts.length = 0 := by rw [mayP, if_neg (by omega), hp]
  have e : motE b base k = checkM (motT b base k so) := by rw [motE, if_pos hm, hk]
  exact ⟨e, by rw [motR, rightT, e, hk]⟩
set_option maxHeartbeats 4000000 in
end
end Ev
end Go.Proofs.YtdhfkbdhdgaccaaGreat
/- elim: known blocks; wakes. -/
namespace Go.Proofs.YtdhfkbdhdgaccaaGreat
namespace Ev
open Go
set_option maxRecDepth 100000
set_option linter.unusedSimpArgs false
set_option linter.unusedVariables false
section
attribute [local simp] allD_map_d sks_map_d tk tn tks initA EndsM one_sos one_cos one_ars one_ts
mutual
def eqB : T → T → Bool
  | .mk k n ks, .mk k' n' ks' => decide (k = k') && (decide (n = n') && eqLB ks ks')
def eqLB : List T → List T → Bool
  | [], [] => true
  | x :: xs, y :: ys => eqB x y && eqLB xs ys
  | _, _ => false
end
theorem eqLB_of {xs : List T} (hx : ∀ x ∈ xs, ∀ y, eqB x y = true → x = y) : ∀ ys, eqLB xs ys = true → xs = ys := by
  induction xs with
  | nil => intro ys h; cases ys with
    | nil => rfl
    | cons y ys => simp [eqLB] at h
  | cons x xs ih => intro ys h; cases ys with
    | nil => simp [eqLB] at h
    | cons y ys =>
      rw [eqLB, Bool.and_eq_true] at h
      rw [hx x (by simp) y h.1, ih (fun z hz => hx z (by simp [hz])) ys h.2]
theorem eqB_of (t : T) : ∀ u, eqB t u = true → t = u := by
  refine T.ind (p := fun t => ∀ u, eqB t u = true → t = u) ?_ t
  intro k n ks ih u h
  obtain ⟨k', n', ks'⟩ := u
  rw [eqB] at h
  simp only [Bool.and_eq_true, decide_eq_true_eq] at h
  rw [h.1, h.2.1, eqLB_of ih ks' h.2.2]
/-! told so that the kernel may reckon it -/
def rsA' (b : Bl) (base : Int) (ahead : Nat) (vars : Int) (own : List T) (i : Nat) (a : Ar) : List T :=
  (own[i]?).getD zT :: (if a.rc then [spT (tC (eliminator b base a.sort)) (lvs 0 ahead vars ++ a.idx.map (fun t => mapT (instF (own.take i) 0) t 0) ++ [(own[i]?).getD zT])] else [])
def rsL' (b : Bl) (base : Int) (ahead : Nat) (vars : Int) (own : List T) : Nat → List Ar → List T
  | _, [] => []
  | i, a :: l => rsA' b base ahead vars own i a ++ rsL' b base ahead vars own (i + 1) l
def resE' (b : Bl) (base k vars : Int) (so : So) : T :=
  spT (.mk 1 (vars - 1 - k) []) (rsL' b base (b.sorts.length + b.cons.length) vars (lvs ((b.sorts.length + b.cons.length : Nat) : Int) so.idx.length vars) 0 so.idx ++ [.mk 1 0 []])
theorem rsL_is (b : Bl) (base : Int) (ahead : Nat) (vars : Int) (own : List T) : ∀ (l : List Ar) (i : Nat), (∀ (j : Nat) (h : j < l.length), l[j].rc = true → ∀ t ∈ l[j].idx, instE t (own.take (i + j)) 0 = 0) → rsL b base ahead vars own i l = rsL' b base ahead vars own i l
  | [], i, _ => rfl
  | a :: l, i, h => by
    rw [rsL, rsL', rsL_is b base ahead vars own l (i + 1) fun j hj hr t ht => by
      have := h (j + 1) (by simpa using hj) (by simpa using hr) t (by simpa using ht)
      rwa [show i + 1 + j = i + (j + 1) by omega]]
    congr 1
    rw [rsA, rsA']
    congr 1
    cases hr : a.rc with
    | false => rfl
    | true =>
      have h0 := h 0 (by simp) (by simpa using hr)
      simp only [List.getElem_cons_zero, Nat.add_zero] at h0
      have e : a.idx.map (fun t => instT t (own.take i) 0) = a.idx.map (fun t => mapT (instF (own.take i) 0) t 0) := List.map_congr_left fun t ht => inst_at (h0 t ht)
      rw [e]
def motU (b : Bl) (base : Int) (j : Nat) : T := match b.sorts[j]? with | some s => motT b base j s | none => zT
def metU (b : Bl) (base : Int) (c : Nat) : T := match b.cons[c]? with | some x => (match b.sorts[x.sort.toNat]? with | some s => metT b base c x s | none => zT) | none => zT
def elL' (b : Bl) (base k : Int) (so : So) : List T := (List.range b.sorts.length).map (motU b base) ++ (List.range b.cons.length).map (metU b base) ++ so.idx.map (argTy b base) ++ [spT (tC (former b base k)) (varsN so.idx.length)]
theorem elL_len' (b : Bl) (base k : Int) (so : So) : (elL' b base k so).length = b.sorts.length + b.cons.length + so.idx.length + 1 := by simp only [elL', List.length_append, List.length_map, List.length_range, List.length_singleton]
def elT' (b : Bl) (base k : Int) (so : So) : T := nestT 4 (elL' b base k so) (resE' b base k ((b.sorts.length + b.cons.length + so.idx.length + 1 : Nat) : Int) so)
theorem motU_at {b : Bl} {base : Int} (hp : positE 9000 b base = 0) {j : Nat} (hj : j < b.sorts.length) : motE b base j = checkM (motU b base j) ∧ motR b base j = rightT (motU b base j) := by
  have hk : b.sorts[(j : Int).toNat]? = some b.sorts[j] := by rw [Int.toNat_natCast]; exact List.getElem?_eq_getElem hj
  have h := mot_at hp (by omega : (0 : Int) ≤ j) hk
  rw [motU, List.getElem?_eq_getElem hj]
  exact h
theorem metA_U {b : Bl} {base : Int} (hp : positE 9000 b base = 0) {c : Nat} (hc : c < b.cons.length) : metA b base c = some (metU b base c) := by
  obtain ⟨hz, _, _, hpos⟩ := posE_zero8 hp
  obtain ⟨z1, z4, z8, zl, zs, zc⟩ := (checkB_zero b).1 hz
  obtain ⟨_, s0, so, hso, _⟩ := con_parts (zc _ (List.getElem_mem hc))
  rw [metA, Int.toNat_natCast, List.getElem?_eq_getElem hc, metU, List.getElem?_eq_getElem hc]
  simp only [hso]
theorem metU_at {b : Bl} {base : Int} (hp : positE 9000 b base = 0) {c : Nat} (hc : c < b.cons.length) : metE b base c = checkM (metU b base c) ∧ metR b base c = rightT (metU b base c) := by
  have hm : mayP b base c b.cons.length = 0 := by rw [mayP, if_neg (by omega), hp]
  have e : metE b base c = checkM (metU b base c) := by rw [metE, if_pos hm, metA_U hp hc]
  exact ⟨e, by rw [metR, rightT, e, metA_U hp hc]; rfl⟩
theorem elL_is {b : Bl} {base k : Int} {so : So} (hp : positE 9000 b base = 0) (h1 : ∀ j, j < b.sorts.length → motE b base j = 0) (h2 : ∀ c, c < b.cons.length → metE b base c = 0) : elL b base k so = elL' b base k so := by
  have e1 : motsL b base b.sorts.length = (List.range b.sorts.length).map (motU b base) := List.map_congr_left fun j hj => by
    have hj := List.mem_range.1 hj
    have h := motU_at hp hj
    rw [h.2, rightT, if_pos (by rw [← h.1]; exact h1 j hj)]
  have e2 : metsL b base b.cons.length = (List.range b.cons.length).map (metU b base) := List.map_congr_left fun j hj => by
    have hj := List.mem_range.1 hj
    have h := metU_at hp hj
    rw [h.2, rightT, if_pos (by rw [← h.1]; exact h2 j hj)]
  rw [elL, elL', e1, e2]
theorem sort_dom0 {b : Bl} {k : Nat} {s : So} (h : sortM b k s = true) : ∀ a ∈ s.idx, a.rc = true → a.dom = [] := fun a ha hr => by
  have := ((sortM_true _ _ _).1 h).2.2.2 a ha
  rw [sortBad, if_pos hr] at this
  split at this
  · cases this
  · exact List.eq_nil_of_length_eq_zero (by omega)
theorem resE_is {b : Bl} (fb : FineBl b) (hf : Fit b) {base k : Int} (hp : positE 9000 b base = 0) {so : So} (hk : b.sorts[k.toNat]? = some so) {V : Nat} (hV : V = b.sorts.length + b.cons.length + so.idx.length + 1) : resE b base k (V : Int) so = resE' b base k (V : Int) so := by
  obtain ⟨hz, _, _, hpos⟩ := posE_zero8 hp
  obtain ⟨z1, z4, z8, zl, zs, zc⟩ := (checkB_zero b).1 hz
  obtain ⟨hlt, hS⟩ := List.getElem?_eq_some_iff.1 hk
  have hsm := zs _ hlt
  have fs := fb.sorts _ (List.getElem_mem hlt)
  rw [hS] at hsm fs
  obtain ⟨hrow, _, _, _⟩ := (sortM_true _ _ _).1 hsm
  have hfs := hf.s
  have hfc := hf.c
  have hil := fs.idx.1
  rw [resE, resE', rsL_is _ _ _ _ _ _ _ fun j hj hr t ht => by
    rw [Nat.zero_add]
    exact idx_ok0 hrow fs.idx (sort_dom0 hsm) (by omega) (by omega) (by omega) j hj hr t ht]
/-- A known block's eliminator. -/
def elimC (b : Bl) (base k : Int) (so : So) : Bool := knownB b base true && ((List.range b.sorts.length).all (fun j => formC (motU b base j) && decide (nodB (motU b base j) ≤ 200)) &&
  ((List.range b.cons.length).all (fun j => formC (metU b base j) && decide (nodB (metU b base j) ≤ 200)) && (formC (elT' b base k so) && decide (nodB (elT' b base k so) ≤ 200))))
def soN : So := ⟨[], 0, false, zT⟩
def soY : So := ⟨[recA 0 []], 0, false, zT⟩
def natW (n : Int) : T := tP (tP (tC n) (.mk 2 0 [])) (tP (tA (tV 0) (tC (n + 1))) (tP (tP (tC n) (tP (tA (tV 2) (tV 0)) (tA (tV 3) (tA (tC (n + 2)) (tV 1))))) (tP (tC n) (tA (tV 3) (tV 0)))))
def ctxW (n : Int) : T := spT (tC (n + 6)) [tV 7, tV 6, tV 5, tV 4, tV 3, tV 2, tV 1]
def synW (n : Int) : T := spT (tV 6) [tV 1, ctxW n, tV 0]
end
end Ev
end Go.Proofs.YtdhfkbdhdgaccaaGreat
/- posit's laws: wakes, PositFewer. -/
namespace Go.Proofs.YtdhfkbdhdgaccaaGreat
namespace Ev
open Go
set_option maxRecDepth 100000
set_option linter.unusedSimpArgs false
set_option linter.unusedVariables false
section
attribute [local simp] allD_map_d sks_map_d tk tn tks initA EndsM one_sos one_cos one_ars one_ts
end
end Ev
end Go.Proofs.YtdhfkbdhdgaccaaGreat
/- PositPlain: a block that names none of its constants is positive. -/
namespace Go.Proofs.YtdhfkbdhdgaccaaGreat
namespace Ev
open Go
set_option maxRecDepth 100000
set_option linter.unusedSimpArgs false
set_option linter.unusedVariables false
open Classical in
theorem mem_arT {l : List Ar} {a : Ar} (ha : a ∈ l) {x : T} (hx : x ∈ arT a) : x ∈ arTs l := List.mem_flatten.2 ⟨_, List.mem_map.2 ⟨a, ha, rfl⟩, hx⟩
theorem cs_n64 {c : Int} (t : T) : okT t → c ∈ csT t → n64 c := by
  refine T.ind (p := fun t => okT t → c ∈ csT t → n64 c) ?_ t
  intro k n ks ih ho hc
  rcases cs_mem.1 hc with ⟨_, rfl⟩ | ⟨x, hx, h⟩
  · exact ho.num64
  · exact ih x hx (ho.kids.2 x hx) h
end Ev
end Go.Proofs.YtdhfkbdhdgaccaaGreat
/- PositMoves: constants moved. -/
namespace Go.Proofs.YtdhfkbdhdgaccaaGreat
namespace Ev
open Go
set_option maxRecDepth 100000
set_option linter.unusedSimpArgs false
set_option linter.unusedVariables false
mutual
def rnT (f : Int → Int) : T → T
  | .mk k n ks => .mk k (if k = 3 then f n else n) (rnL f ks)
def rnL (f : Int → Int) : List T → List T
  | [] => []
  | x :: xs => rnT f x :: rnL f xs
end
theorem rnL_is (f : Int → Int) : ∀ l : List T, rnL f l = l.map (rnT f)
  | [] => by rw [rnL]; rfl
  | x :: xs => by rw [rnL, rnL_is f xs]; rfl
theorem rn_mk (f : Int → Int) (k n : Int) (ks : List T) : rnT f (.mk k n ks) = .mk k (if k = 3 then f n else n) (ks.map (rnT f)) := by rw [rnT, rnL_is]
theorem rn_kind (f : Int → Int) (t : T) : (rnT f t).kind = t.kind := by obtain ⟨k, n, ks⟩ := t; rw [rn_mk]; rfl
theorem rn_kids (f : Int → Int) (t : T) : (rnT f t).kids = t.kids.map (rnT f) := by obtain ⟨k, n, ks⟩ := t; rw [rn_mk]; rfl
theorem rn_num3 (f : Int → Int) {t : T} (h : t.kind = 3) : (rnT f t).num = f t.num := by
  obtain ⟨k, n, ks⟩ := t
  have h' : k = 3 := h
  rw [rn_mk, if_pos h']; rfl
theorem rn_num (f : Int → Int) {t : T} (h : t.kind ≠ 3) : (rnT f t).num = t.num := by
  obtain ⟨k, n, ks⟩ := t
  have h' : k ≠ 3 := h
  rw [rn_mk, if_neg h']; rfl
theorem rn_nodes (f : Int → Int) (t : T) : nodes (rnT f t) = nodes t := by
  refine T.ind (p := fun t => nodes (rnT f t) = nodes t) ?_ t
  intro k n ks ih
  rw [rn_mk, nodes, nodes, List.map_map]
  congr 2
  exact List.map_congr_left fun x hx => ih x hx
theorem rn_sum (f : Int → Int) (l : List T) : ((l.map (rnT f)).map nodes).sum = (l.map nodes).sum := by
  rw [List.map_map]
  congr 1
  exact List.map_congr_left fun x _ => rn_nodes f x
theorem rn_ok {f : Int → Int} (hf : ∀ n, n64 n → n64 (f n)) (t : T) : okT t → okT (rnT f t) := by
  refine T.ind (p := fun t => okT t → okT (rnT f t)) ?_ t
  intro k n ks ih ho
  rw [rn_mk]
  cases ho with
  | mk _ _ _ hk hn hl h =>
    refine .mk k _ _ hk ?_ (by simpa using hl) fun x hx => ?_
    · split
      · exact hf n hn
      · exact hn
    · obtain ⟨y, hy, rfl⟩ := List.mem_map.1 hx
      exact ih y hy (h y hy)
theorem rn_none (f : Int → Int) (t : T) : noneM (rnT f t) = noneM t := by
  obtain ⟨k, n, ks⟩ := t
  have e : ∀ (n : Int) (ks : List T), noneM (.mk k n ks) = if k = 0 then if n = 0 then decide ((ks.length : Int) = 0) else false else false := fun _ _ => rfl
  rw [rn_mk, e, e, List.length_map]
  by_cases h : k = 0
  · rw [if_pos h, if_pos h, if_neg (by omega : ¬ k = 3)]
  · rw [if_neg h, if_neg h]
theorem rn_size (f : Int → Int) (t : T) : sizeM (rnT f t) = sizeM t := by
  refine T.ind (p := fun t => sizeM (rnT f t) = sizeM t) ?_ t
  intro k n ks ih
  have e : (ks.map (rnT f)).map sizeM = ks.map sizeM := by
    rw [List.map_map]; exact List.map_congr_left fun x hx => ih x hx
  rw [rn_mk, sizeM, sizeM, e]
theorem rn_depth (f : Int → Int) (t : T) : depthM (rnT f t) = depthM t := by
  refine T.ind (p := fun t => depthM (rnT f t) = depthM t) ?_ t
  intro k n ks ih
  have e : (ks.map (rnT f)).map depthM = ks.map depthM := by
    rw [List.map_map]; exact List.map_congr_left fun x hx => ih x hx
  rw [rn_mk, depthM, depthM, e]
theorem rn_formed {f : Int → Int} (hf : ∀ n, inB (f n) 0 65535 = inB n 0 65535) (t : T) : formedM (rnT f t) = formedM t := by
  refine T.ind (p := fun t => formedM (rnT f t) = formedM t) ?_ t
  intro k n ks ih
  have e : (ks.map (rnT f)).all formedM = ks.all formedM := by
    rw [List.all_map]
    rw [Bool.eq_iff_iff, List.all_eq_true, List.all_eq_true]
    constructor
    · intro h x hx; have := h x hx; simp only [Function.comp_apply] at this; rwa [ih x hx] at this
    · intro h x hx; simp only [Function.comp_apply]; rw [ih x hx]; exact h x hx
  rw [rn_mk, formedM_is, formedM_is, List.length_map, e]
  by_cases h3 : k = 3
  · subst h3
    have h0 : kidsM 3 = 0 := rfl
    simp only [h0, eq_self, if_true, hf]
  · rw [if_neg h3]
theorem rn_within {f : Int → Int} {c : Int} (hf : ∀ n, f n < c ↔ n < c) (t : T) : ∀ v : Int, withinM (rnT f t) v c = withinM t v c := by
  refine T.ind (p := fun t => ∀ v : Int, withinM (rnT f t) v c = withinM t v c) ?_ t
  intro k n ks ih v
  rw [rn_mk, withinM, withinM]
  by_cases h1 : k = 1
  · rw [if_pos h1, if_pos h1, if_neg (by omega : ¬ k = 3)]
  rw [if_neg h1, if_neg h1]
  by_cases h2 : k = 2
  · rw [if_pos h2, if_pos h2, if_neg (by omega : ¬ k = 3)]
  rw [if_neg h2, if_neg h2]
  by_cases h3 : k = 3
  · rw [if_pos h3, if_pos h3, if_pos h3, decide_eq_decide]; exact hf n
  rw [if_neg h3, if_neg h3]
  have go : ∀ (l : List T) (i : Nat), (∀ x ∈ l, x ∈ ks) → withinL k v c i (l.map (rnT f)) = withinL k v c i l := by
    intro l
    induction l with
    | nil => intro i _; rfl
    | cons x xs ihx =>
      intro i hm
      rw [List.map_cons, withinL, withinL, ih x (hm x (by simp)), ihx (i + 1) fun y hy => hm y (by simp [hy])]
  exact go ks 0 fun x hx => hx
theorem rn_in {f : Int → Int} (hf : ∀ n, inB (f n) 0 65535 = inB n 0 65535) (hc : ∀ n, f n < 65536 ↔ n < 65536) (t : T) (v : Int) : inM (rnT f t) v = inM t v := by
  have e : checkM (rnT f t) = checkM t := by rw [checkM, checkM, rn_size, rn_depth, rn_formed hf]
  rw [inM, inM, scopeM, scopeM, e, rn_within hc]
def mvA (f : Int → Int) (a : Ar) : Ar := ⟨a.rc, rnT f a.ty, a.dom.map (rnT f), a.sort, a.idx.map (rnT f)⟩
def mvS (f : Int → Int) (s : So) : So := ⟨s.idx.map (mvA f), s.level, s.dec, rnT f s.dty⟩
def mvC (f : Int → Int) (c : Co) : Co := ⟨c.sort, c.args.map (mvA f), c.idx.map (rnT f), rnT f c.dec⟩
def mvB (f : Int → Int) (b : Bl) : Bl := ⟨b.sorts.map (mvS f), b.cons.map (mvC f), b.elim⟩
theorem allI_map {α β : Type} (p : Nat → β → Bool) (g : α → β) : ∀ (l : List α) (i : Nat), allI p i (l.map g) = allI (fun i x => p i (g x)) i l
  | [], i => rfl
  | x :: xs, i => by rw [List.map_cons, allI, allI, allI_map p g xs]
theorem allI_congr {α : Type} {p q : Nat → α → Bool} : ∀ {l : List α} {i : Nat}, (∀ (j : Nat) (hj : j < l.length), p (i + j) l[j] = q (i + j) l[j]) → allI p i l = allI q i l
  | [], i, _ => rfl
  | x :: xs, i, h => by
    have h0 := h 0 (by simp)
    simp only [Nat.add_zero, List.getElem_cons_zero] at h0
    have h1 : allI p (i + 1) xs = allI q (i + 1) xs := allI_congr fun j hj => by
      have := h (j + 1) (by simpa using hj)
      simp only [List.getElem_cons_succ] at this
      rwa [show i + 1 + j = i + (j + 1) by omega]
    rw [allI, allI, h0, h1]
theorem rn_allM {f : Int → Int} (hf : ∀ n, inB (f n) 0 65535 = inB n 0 65535) (hc : ∀ n, f n < 65536 ↔ n < 65536) (l : List T) (v : Int) : allM (l.map (rnT f)) v = allM l v := by
  rw [allM, allM, List.any_map]
  congr 2
  funext t
  simp only [Function.comp_apply]
  rw [rn_in hf hc]
theorem rn_arg {f : Int → Int} (hf : ∀ n, inB (f n) 0 65535 = inB n 0 65535) (hc : ∀ n, f n < 65536 ↔ n < 65536) (b : Bl) (a : Ar) (i : Int) : argM (mvB f b) (mvA f a) i = argM b a i := by
  simp only [argM, mvA, mvB, List.length_map, rn_none, rn_in hf hc, rn_allM hf hc, List.getElem?_map]
  have e : domM i (a.dom.map (rnT f)) = domM i a.dom := by
    rw [domM, domM, allI_map]
    exact allI_congr fun j hj => by rw [rn_in hf hc]
  rw [e]
  cases b.sorts[a.sort.toNat]? with
  | none => rfl
  | some s => simp only [Option.map_some, mvS, List.length_map]; try rfl
theorem rn_row {f : Int → Int} (hf : ∀ n, inB (f n) 0 65535 = inB n 0 65535) (hc : ∀ n, f n < 65536 ↔ n < 65536) (b : Bl) (l : List Ar) : rowM (mvB f b) (l.map (mvA f)) = rowM b l := by
  rw [rowM, rowM, List.length_map, allI_map]
  congr 1
  exact allI_congr fun j hj => by rw [rn_arg hf hc]
theorem rn_maybe {f : Int → Int} (hf : ∀ n, inB (f n) 0 65535 = inB n 0 65535) (hc : ∀ n, f n < 65536 ↔ n < 65536) (is : Bool) (t : T) (v : Int) : maybeM is (rnT f t) v = maybeM is t v := by
  rw [maybeM, maybeM, rn_in hf hc, rn_none]
theorem rn_sort {f : Int → Int} (hf : ∀ n, inB (f n) 0 65535 = inB n 0 65535) (hc : ∀ n, f n < 65536 ↔ n < 65536) (b : Bl) (k : Nat) (s : So) : sortM (mvB f b) k (mvS f s) = sortM b k s := by
  have e : (s.idx.map (mvA f)).any (sortBad k (mvS f s)) = s.idx.any (sortBad k s) := by
    rw [List.any_map]
    congr 1
    funext a
    simp only [Function.comp_apply, sortBad, mvA, mvS, List.length_map]; try rfl
  simp only [sortM, mvS, rn_row hf hc, rn_maybe hf hc, List.length_map] at e ⊢
  rw [e]
theorem rn_con {f : Int → Int} (hf : ∀ n, inB (f n) 0 65535 = inB n 0 65535) (hc : ∀ n, f n < 65536 ↔ n < 65536) (b : Bl) (c : Co) : conM (mvB f b) (mvC f c) = conM b c := by
  have e : (mvB f b).sorts[c.sort.toNat]? = (b.sorts[c.sort.toNat]?).map (mvS f) := by simp only [mvB, List.getElem?_map]
  simp only [conM, mvC, rn_row hf hc, rn_maybe hf hc, rn_allM hf hc, List.length_map, e]
  cases b.sorts[c.sort.toNat]? with
  | none => rfl
  | some s => simp only [Option.map_some, mvS, List.length_map]; try rfl
theorem rn_check {f : Int → Int} (hf : ∀ n, inB (f n) 0 65535 = inB n 0 65535) (hc : ∀ n, f n < 65536 ↔ n < 65536) (b : Bl) : checkB (mvB f b) = checkB b := by
  have e1 : (mvB f b).sorts = b.sorts.map (mvS f) := rfl
  have e2 : (mvB f b).cons = b.cons.map (mvC f) := rfl
  have e3 : allI (fun k s => sortM (mvB f b) k s) 0 (b.sorts.map (mvS f)) = allI (fun k s => sortM b k s) 0 b.sorts := by
    rw [allI_map]
    exact allI_congr fun j hj => by rw [rn_sort hf hc]
  have e4 : ((b.cons.map (mvC f)).any fun c => !conM (mvB f b) c) = b.cons.any fun c => !conM b c := by
    rw [List.any_map]
    congr 1
    funext c
    simp only [Function.comp_apply, rn_con hf hc]
  rw [checkB, checkB, e1, e2, List.length_map, List.length_map, e3, e4]
  rfl
end Ev
end Go.Proofs.YtdhfkbdhdgaccaaGreat
/- PositMoves: what is positive stays positive. -/
namespace Go.Proofs.YtdhfkbdhdgaccaaGreat
namespace Ev
open Go
set_option maxRecDepth 100000
set_option linter.unusedSimpArgs false
set_option linter.unusedVariables false
theorem all_rn' {cl cl' : T → Bool} {f : Int → Int} {l : List T} (key : ∀ x ∈ l, cl' (rnT f x) = cl x) : (l.map (rnT f)).all cl' = l.all cl := by
  rw [List.all_map, Bool.eq_iff_iff, List.all_eq_true, List.all_eq_true]
  constructor
  · intro h x hx; have := h x hx; simp only [Function.comp_apply] at this; rwa [key x hx] at this
  · intro h x hx; simp only [Function.comp_apply]; rw [key x hx]; exact h x hx
theorem rn_sp (f : Int → Int) (t : T) : spH (rnT f t) = rnT f (spH t) ∧ spA (rnT f t) = (spA t).map (rnT f) := by
  refine T.ind (p := fun t => spH (rnT f t) = rnT f (spH t) ∧ spA (rnT f t) = (spA t).map (rnT f)) ?_ t
  intro k n ks ih
  by_cases hc : k = 6 ∧ ∃ a b, ks = [a, b]
  · obtain ⟨rfl, a, b, rfl⟩ := hc
    obtain ⟨i1, i2⟩ := ih a (by simp)
    rw [rn_mk, List.map_cons, List.map_cons, List.map_nil, (sp_two _ _ _).1, (sp_two _ _ _).2, (sp_two _ _ _).1, (sp_two _ _ _).2, i1, i2]
    exact ⟨rfl, rfl⟩
  · have hc' : ¬(k = 6 ∧ ∃ a b, ks.map (rnT f) = [a, b]) := by
      rintro ⟨h, a, b, he⟩
      refine hc ⟨h, ?_⟩
      match ks, he with
      | [x, y], _ => exact ⟨x, y, rfl⟩
    rw [rn_mk, (sp_none hc').1, (sp_none hc').2, (sp_none hc).1, (sp_none hc).2, rn_mk]
    exact ⟨rfl, rfl⟩
theorem cs_sp {c : Int} (t : T) : (c ∈ csT (spH t) → c ∈ csT t) ∧ ∀ x ∈ spA t, c ∈ csT x → c ∈ csT t := by
  refine T.ind (p := fun t => (c ∈ csT (spH t) → c ∈ csT t) ∧ ∀ x ∈ spA t, c ∈ csT x → c ∈ csT t) ?_ t
  intro k n ks ih
  by_cases hc : k = 6 ∧ ∃ a b, ks = [a, b]
  · obtain ⟨rfl, a, b, rfl⟩ := hc
    obtain ⟨i1, i2⟩ := ih a (by simp)
    rw [(sp_two _ _ _).1, (sp_two _ _ _).2]
    refine ⟨fun h => cs_mem.2 (.inr ⟨a, by simp, i1 h⟩), fun x hx h => ?_⟩
    rcases List.mem_cons.1 hx with rfl | hx
    · exact cs_mem.2 (.inr ⟨_, by simp, h⟩)
    · exact cs_mem.2 (.inr ⟨a, by simp, i2 x hx h⟩)
  · rw [(sp_none hc).1, (sp_none hc).2]
    exact ⟨id, by simp⟩
theorem cs_kid {c : Int} {t x : T} (hx : x ∈ t.kids) (h : c ∈ csT x) : c ∈ csT t := by obtain ⟨k, n, ks⟩ := t; exact cs_mem.2 (.inr ⟨x, hx, h⟩)
theorem cs_self {t : T} (h : t.kind = 3) : t.num ∈ csT t := by obtain ⟨k, n, ks⟩ := t; exact cs_mem.2 (.inl ⟨h, rfl⟩)
/-- The block at its new base. -/
structure Mv (f : Int → Int) (b : Bl) (base base' : Int) (c : Int) : Prop where
  of : ofM (mvB f b) base' (f c) = ofM b base c
def plM (f : Int → Int) (base' : Int) (p : Pl) : Pl := ⟨mvB f p.b, base', p.args.map (mvA f), p.more⟩
theorem rn_guard (f : Int → Int) (base' : Int) (p : Pl) (t : T) : guardB (plM f base' p) (rnT f t) = guardB p t := by
  have hJ : guardJ (plM f base' p) (rnT f t) = guardJ p t := by
    rw [guardJ, guardJ, rn_kind]
    simp only [plM, List.length_map]
    by_cases h1 : t.kind = 1
    · rw [rn_num f (by omega)]
    · rw [if_neg (fun h => h1 h.1), if_neg (fun h => h1 h.1)]
  rw [guardB, guardB, hJ]
  cases guardJ p t with
  | none => rfl
  | some j =>
    simp only [plM, List.getElem?_map]
    cases p.args[j]? <;> rfl
theorem rn_guardN (f : Int → Int) (base' : Int) (p : Pl) (t : T) : guardN (plM f base' p) (rnT f t) = guardN p t := by
  have hJ : guardJ (plM f base' p) (rnT f t) = guardJ p t := by
    rw [guardJ, guardJ, rn_kind]
    simp only [plM, List.length_map]
    by_cases h1 : t.kind = 1
    · rw [rn_num f (by omega)]
    · rw [if_neg (fun h => h1 h.1), if_neg (fun h => h1 h.1)]
  rw [guardN, guardN, hJ]
theorem rn_dec {f : Int → Int} {base' : Int} {p : Pl} {t : T} {cl cl' : T → Bool} (hm : ∀ c ∈ csT t, Mv f p.b p.base base' c) (hcl : ∀ x, (∀ c ∈ csT x, c ∈ csT t) → cl' (rnT f x) = cl x) :
    decG cl' (plM f base' p) (rnT f t) = decG cl p t := by
  obtain ⟨s1, s2⟩ := rn_sp f t
  have hs := fun c => cs_sp (c := c) t
  rw [decG, decG, s1, s2, rn_kind]
  by_cases h3 : (spH t).kind = 3
  case neg => rw [if_neg h3, if_neg h3]
  rw [if_pos h3, if_pos h3, rn_num3 f h3]
  have hof := (hm _ ((hs _).1 (cs_self h3))).of
  have e1 : (plM f base' p).b = mvB f p.b := rfl
  have e2 : (plM f base' p).base = base' := rfl
  rw [e1, e2, hof]
  by_cases h4 : (ofM p.b p.base (spH t).num).1 = 4
  case neg => rw [if_neg h4, if_neg h4]
  rw [if_pos h4, if_pos h4]
  have e3 : (mvB f p.b).sorts[(ofM p.b p.base (spH t).num).2.toNat]? = (p.b.sorts[(ofM p.b p.base (spH t).num).2.toNat]?).map (mvS f) := by simp only [mvB, List.getElem?_map]
  rw [e3]
  cases p.b.sorts[(ofM p.b p.base (spH t).num).2.toNat]? with
  | none => rfl
  | some s =>
    simp only [Option.map_some, mvS, List.length_map]
    by_cases h5 : ((spA t).length : Int) = s.idx.length + 1
    case neg => rw [if_neg h5, if_neg h5]
    rw [if_pos h5, if_pos h5]
    have e4 : ((spA t).map (rnT f)).reverse.getLast? = ((spA t).reverse.getLast?).map (rnT f) := by rw [← List.map_reverse, List.getLast?_map]
    have e5 : ((spA t).map (rnT f)).reverse.dropLast.all cl' = (spA t).reverse.dropLast.all cl := by
      rw [← List.map_reverse, ← List.map_dropLast, List.all_map, Bool.eq_iff_iff, List.all_eq_true, List.all_eq_true]
      have key : ∀ x ∈ (spA t).reverse.dropLast, cl' (rnT f x) = cl x := fun x hx => hcl x fun c hc => (hs c).2 x (by simpa using List.dropLast_subset _ hx) hc
      constructor
      · intro h x hx; have := h x hx; simp only [Function.comp_apply] at this; rwa [key x hx] at this
      · intro h x hx; simp only [Function.comp_apply]; rw [key x hx]; exact h x hx
    rw [e4, e5]
    cases hz : (spA t).reverse.getLast? with
    | none => rfl
    | some z =>
      simp only [Option.map_some]
      have hzm : z ∈ spA t := by have := List.mem_of_getLast? hz; simpa using this
      obtain ⟨z1, z2⟩ := rn_sp f z
      have hzs := fun c => cs_sp (c := c) z
      have e6 : ((spA z).map (rnT f)).reverse.all cl' = (spA z).reverse.all cl := by
        rw [← List.map_reverse]
        exact all_rn' fun x hx => hcl x fun c hc => (hs c).2 z hzm ((hzs c).2 x (by simpa using hx) hc)
      rw [z1, z2, rn_guard, e6]
theorem rn_clean {f : Int → Int} {base' : Int} : ∀ (n : Nat) (p : Pl) (t : T), (∀ c ∈ csT t, Mv f p.b p.base base' c) → cleanF n (plM f base' p) (rnT f t) = cleanF n p t := by
  intro n
  induction n with
  | zero => intro p t _; rfl
  | succ n ih =>
    intro p t hm
    rw [cleanF, cleanF, rn_kind, rn_guard]
    by_cases h1 : t.kind = 1
    · rw [if_pos h1, if_pos h1]
    rw [if_neg h1, if_neg h1]
    by_cases h3 : t.kind = 3
    · rw [if_pos h3, if_pos h3, rn_num3 f h3]
      have hof := (hm _ (cs_self h3)).of
      have e1 : (plM f base' p).b = mvB f p.b := rfl
      have e2 : (plM f base' p).base = base' := rfl
      rw [e1, e2, hof]
    rw [if_neg h3, if_neg h3, rn_dec hm fun x hx => ih p x fun c hc => hm c (hx c hc), rn_kids, allI_map]
    congr 1
    refine allI_congr fun j hj => ?_
    rw [Nat.zero_add]
    exact ih (p.fwd (bindsM t.kind j)) _ fun c hc => hm c (cs_kid (List.getElem_mem hj) hc)
theorem rn_good {f : Int → Int} {base' : Int} : ∀ (n : Nat) (p : Pl) (t : T) (cons : Int), (∀ c ∈ csT t, Mv f p.b p.base base' c) → goodF n (plM f base' p) (rnT f t) cons = goodF n p t cons := by
  intro n
  induction n with
  | zero => intro p t cons _; rfl
  | succ n ih =>
    intro p t cons hm
    obtain ⟨s1, s2⟩ := rn_sp f t
    have hs := fun c => cs_sp (c := c) t
    have hx : ∀ x ∈ (spA t).reverse, ∀ c ∈ csT x, Mv f p.b p.base base' c := fun x hx c hc => hm c ((hs c).2 x (by simpa using hx) hc)
    have e1 : (plM f base' p).b = mvB f p.b := rfl
    have e2 : (plM f base' p).base = base' := rfl
    rw [goodF, goodF, goodG, goodG, s1, s2, rn_kind, rn_guard, rn_guardN, ← List.map_reverse]
    by_cases hg : guardB p (spH t) = true
    · rw [if_pos hg, if_pos hg]
      have e3 : (plM f base' p).args[(guardN p (spH t)).toNat]? = (p.args[(guardN p (spH t)).toNat]?).map (mvA f) := by simp only [plM, List.getElem?_map]
      rw [e3]
      cases p.args[(guardN p (spH t)).toNat]? with
      | none => rfl
      | some a =>
        simp only [Option.map_some, mvA, List.length_map]
        rw [all_rn' fun x hxx => rn_clean n p x (hx x hxx)]
    rw [if_neg hg, if_neg hg]
    by_cases h3 : (spH t).kind = 3
    case neg => rw [if_neg h3, if_neg h3]
    have hof := (hm _ ((hs _).1 (cs_self h3))).of
    rw [if_pos h3, if_pos h3, rn_num3 f h3, e1, e2, hof]
    by_cases h5 : (ofM p.b p.base (spH t).num).1 = 5
    case neg => rw [if_neg h5, if_neg h5]
    rw [if_pos h5, if_pos h5]
    by_cases h6 : (ofM p.b p.base (spH t).num).2 < cons
    case neg => rw [if_neg h6, if_neg h6]
    rw [if_pos h6, if_pos h6]
    have e3 : (mvB f p.b).cons[(ofM p.b p.base (spH t).num).2.toNat]? = (p.b.cons[(ofM p.b p.base (spH t).num).2.toNat]?).map (mvC f) := by simp only [mvB, List.getElem?_map]
    rw [e3]
    cases p.b.cons[(ofM p.b p.base (spH t).num).2.toNat]? with
    | none => rfl
    | some k =>
      simp only [Option.map_some, mvC, List.length_map]
      by_cases h7 : (spA t).reverse.length = k.args.length
      case neg => rw [if_neg h7, if_neg h7]
      rw [if_pos h7, if_pos h7, allI_map]
      refine allI_congr fun j hj => ?_
      rw [Nat.zero_add, List.getElem?_map]
      cases hj2 : (spA t).reverse[j]? with
      | none => rfl
      | some x =>
        simp only [Option.map_some]
        have hxx := hx x (List.mem_of_getElem? hj2)
        simp only [fitA, mvA, List.length_map]
        rw [rn_guard, rn_clean n p x hxx, ih p x cons hxx]
theorem rn_ind {f : Int → Int} {base' : Int} {n : Nat} {p : Pl} {so : So} {l : List T} {cons : Int} (hm : ∀ x ∈ l, ∀ c ∈ csT x, Mv f p.b p.base base' c) : indF n (plM f base' p) (mvS f so) (l.map (rnT f)) cons = indF n p so l cons := by
  rw [indF, indF]
  have e : (mvS f so).idx = so.idx.map (mvA f) := rfl
  rw [e, allI_map]
  refine allI_congr fun j hj => ?_
  rw [Nat.zero_add, List.getElem?_map]
  cases hj2 : l[j]? with
  | none => rfl
  | some x =>
    simp only [Option.map_some]
    have hxx := hm x (List.mem_of_getElem? hj2)
    simp only [mvA]
    rw [rn_good n p x cons hxx, rn_clean n p x hxx]; try rfl
theorem rn_rowF {f : Int → Int} {b : Bl} {base base' : Int} {n : Nat} {l : List Ar} {cons : Int} (hm : ∀ x ∈ arTs l, ∀ c ∈ csT x, Mv f b base base' c) : rowF n (mvB f b) base' (l.map (mvA f)) cons = rowF n b base l cons := by
  rw [rowF, rowF, allI_map]
  refine allI_congr fun i hi => ?_
  rw [Nat.zero_add]
  have hx : ∀ x ∈ arT l[i], ∀ c ∈ csT x, Mv f b base base' c := fun x hx => hm x (mem_arT (List.getElem_mem hi) hx)
  generalize l[i] = a at *
  have ep : ∀ more : Int, (⟨mvB f b, base', (l.map (mvA f)).take i, more⟩ : Pl) = plM f base' ⟨b, base, l.take i, more⟩ := fun more => by rw [plM, List.map_take]
  have e3 : (mvB f b).sorts[a.sort.toNat]? = (b.sorts[a.sort.toNat]?).map (mvS f) := by simp only [mvB, List.getElem?_map]
  rw [argF, argF]
  simp only [mvA, List.length_map, ep, e3]
  rw [allI_map, rn_clean n ⟨b, base, l.take i, 0⟩ a.ty (hx _ (by simp [arT]))]
  congr 1
  congr 1
  · exact allI_congr fun j hj => by
      rw [Nat.zero_add]
      exact rn_clean n ⟨b, base, l.take i, (j : Int)⟩ _ (hx _ (by simp [arT]))
  · cases b.sorts[a.sort.toNat]? with
    | none => rfl
    | some so =>
      simp only [Option.map_some]
      exact rn_ind fun x hxx => hx x (by simp [arT, hxx])
theorem rn_pos {f : Int → Int} {b : Bl} {base base' : Int} {n : Nat} (hm : ∀ x ∈ blT b, ∀ c ∈ csT x, Mv f b base base' c) : posF n (mvB f b) base' = posF n b base := by
  have hCs : ∀ s ∈ b.sorts, ∀ x ∈ soT s, ∀ c ∈ csT x, Mv f b base base' c := fun s hs x hx => hm x (by
    simp only [blT, List.mem_append, List.mem_flatten, List.mem_map]
    exact .inl ⟨_, ⟨s, hs, rfl⟩, hx⟩)
  have hCc : ∀ k ∈ b.cons, ∀ x ∈ coT k, ∀ c ∈ csT x, Mv f b base base' c := fun k hk x hx => hm x (by
    simp only [blT, List.mem_append, List.mem_flatten, List.mem_map]
    exact .inr ⟨_, ⟨k, hk, rfl⟩, hx⟩)
  have e1 : (mvB f b).sorts = b.sorts.map (mvS f) := rfl
  have e2 : (mvB f b).cons = b.cons.map (mvC f) := rfl
  rw [posF, posF, e1, e2, allI_map, allI_map]
  congr 1
  · refine allI_congr fun j hj => ?_
    have hs := hCs _ (List.getElem_mem hj)
    generalize b.sorts[j] = s at *
    rw [sortF, sortF]
    have ep : (⟨mvB f b, base', s.idx.map (mvA f), 0⟩ : Pl) = plM f base' ⟨b, base, s.idx, 0⟩ := rfl
    simp only [mvS, ep]
    rw [rn_rowF fun x hx => hs x (by simp [soT, hx]), rn_clean n ⟨b, base, s.idx, 0⟩ s.dty (hs _ (by simp [soT]))]
  · refine allI_congr fun j hj => ?_
    rw [Nat.zero_add]
    have hs := hCc _ (List.getElem_mem hj)
    generalize b.cons[j] = k at *
    have e3 : (mvB f b).sorts[k.sort.toNat]? = (b.sorts[k.sort.toNat]?).map (mvS f) := by simp only [mvB, List.getElem?_map]
    have ep : (⟨mvB f b, base', k.args.map (mvA f), 0⟩ : Pl) = plM f base' ⟨b, base, k.args, 0⟩ := rfl
    rw [conF, conF]
    simp only [mvC, e3, ep]
    rw [rn_rowF fun x hx => hs x (by simp [coT, hx])]
    cases b.sorts[k.sort.toNat]? with
    | none => rfl
    | some so =>
      simp only [Option.map_some]
      have h1 : indF n (plM f base' ⟨b, base, k.args, 0⟩) (mvS f so) (k.idx.map (rnT f)) j = indF n ⟨b, base, k.args, 0⟩ so k.idx j := rn_ind fun x hx => hs x (by simp [coT, hx])
      rw [h1, rn_clean n ⟨b, base, k.args, 0⟩ k.dec (hs _ (by simp [coT]))]
      rfl
end Ev
end Go.Proofs.YtdhfkbdhdgaccaaGreat
/- PositMoves: the block at its new base. -/
namespace Go.Proofs.YtdhfkbdhdgaccaaGreat
namespace Ev
open Go
set_option maxRecDepth 100000
set_option linter.unusedSimpArgs false
set_option linter.unusedVariables false
def mvF (b : Bl) (base by_ : Int) (c : Int) : Int := if (ofM b base c).1 ≠ 0 then c + by_ else c
theorem count_small8 {b : Bl} (hf : Fit b) : 0 ≤ count b ∧ count b ≤ 100 := by
  have := count_is hf
  have := hf.s
  have := hf.c
  have := decs_le b.sorts
  omega
theorem of_range {b : Bl} (hf : Fit b) {base : Int} (h0 : 0 ≤ base) (h1 : base ≤ 65535) (c : Int) (h : (ofM b base c).1 ≠ 0) : base ≤ c ∧ c < base + count b := by
  have hci := count_is hf
  have h2 := hf.s
  have h3 := hf.c
  have h4 := decs_le b.sorts
  rw [ofM] at h
  split at h
  · exact absurd rfl h
  rename_i hc
  cases hs : seek c (tab b base) with
  | none => rw [hs] at h; exact absurd rfl h
  | some q =>
    have hn : 0 ≤ c := by omega
    obtain ⟨e, he, k, hk, hn', rfl⟩ := seek_some hs
    simp only [tab, List.mem_cons, List.not_mem_nil, or_false] at he
    rcases he with rfl | rfl | rfl | rfl
    · have := former_at hf h0 h1 hn hn'; omega
    · have hn2 : decoder b base k = c := hn'
      obtain ⟨j, hj, _, hd, he⟩ := decoder_at hf h0 h1 hn hn2
      have := dec_in b.sorts hj hd
      omega
    · have := constructor_at hf h0 h1 hn hn'; omega
    · have := eliminator_at hf h0 h1 hn hn'; omega
theorem decs_mv (f : Int → Int) (l : List So) : decs (l.map (mvS f)) = decs l := by
  rw [decs, decs, List.filter_map, List.length_map]
  rfl
theorem mv_fit {b : Bl} (hf : Fit b) (f : Int → Int) : Fit (mvB f b) := ⟨by simpa [mvB] using hf.s, by simpa [mvB] using hf.c⟩
theorem mv_count {b : Bl} (hf : Fit b) (f : Int → Int) : count (mvB f b) = count b := by
  rw [count_is hf, count_is (mv_fit hf f)]
  simp only [mvB, List.length_map, decs_mv]
theorem of_none8 {b : Bl} (hf : Fit b) {base : Int} (h0 : 0 ≤ base) (h1 : base ≤ 65535) {c : Int} (h64 : n64 c) (h : (ofM b base c).1 = 0) : ofM b base c = (0, 0) := by
  by_cases hr : c < base ∨ base + count b ≤ c
  · exact of_out hf h0 h64 hr
  · obtain ⟨e, he, k, _, _, e3⟩ := of_in hf h0 h1 (n := c) (by omega) (by omega)
    rw [e3] at h
    exact absurd h (tab_kind he)
theorem mv_of {b : Bl} (hf : Fit b) {base by_ : Int} (h0 : 0 ≤ base) (h1 : base ≤ 5000) (b0 : 0 ≤ by_) (b1 : by_ ≤ 5000) {c : Int} (h64 : n64 c)
    (hn : base + by_ ≤ c → c < base + by_ + count b → c < base + count b) : Mv (mvF b base by_) b base (base + by_) c := by
  have hf' := mv_fit hf (mvF b base by_)
  have hcs := count_small8 hf
  have hci := count_is hf
  have h4 := decs_le b.sorts
  constructor
  rw [mvF]
  by_cases hz : (ofM b base c).1 = 0
  · rw [if_neg (by simpa using hz), of_none8 hf h0 (by omega) h64 hz]
    have hr : c < base ∨ base + count b ≤ c := by
      by_cases hr : c < base ∨ base + count b ≤ c
      · exact hr
      · obtain ⟨e, he, k, _, _, e3⟩ := of_in hf h0 (by omega) (n := c) (by omega) (by omega)
        rw [e3] at hz
        exact absurd hz (tab_kind he)
    exact of_out hf' (by omega) h64 (by rw [mv_count hf]; omega)
  · rw [if_pos hz]
    obtain ⟨r0, r1⟩ := of_range hf h0 (by omega) c hz
    obtain ⟨e, he, k, hk, hke, e3⟩ := of_in hf h0 (by omega) r0 r1
    rw [e3]
    have hl : (mvB (mvF b base by_) b).sorts.length = b.sorts.length := by simp [mvB]
    have hl2 : (mvB (mvF b base by_) b).cons.length = b.cons.length := by simp [mvB]
    have hl3 : decs (mvB (mvF b base by_) b).sorts = decs b.sorts := by simp only [mvB, decs_mv]
    simp only [tab, List.mem_cons, List.not_mem_nil, or_false] at he
    rcases he with rfl | rfl | rfl | rfl
    · have hk' : k < b.sorts.length := hk
      have := former_at hf h0 (by omega) (by omega) hke
      refine of_former hf' (by omega) (k := k) ?_
      rw [former_is hf' (by omega) (by omega), hl, if_pos (by omega)]
      omega
    · have hke2 : decoder b base k = c := hke
      obtain ⟨j, hj, hkj, hd, hce⟩ := decoder_at hf h0 (by omega) (by omega) hke2
      have hkj' : k = j := by omega
      subst hkj'
      refine of_decoder hf' (by omega) (k := k) ?_
      have hlt : k < (mvB (mvF b base by_) b).sorts.length := by omega
      have hsk : (mvB (mvF b base by_) b).sorts[k].dec = true := by simpa [mvB, mvS] using hd
      have htk : decs ((mvB (mvF b base by_) b).sorts.take k) = decs (b.sorts.take k) := by simp only [mvB, ← List.map_take, decs_mv]
      rw [decoder_is hf' (by omega) (by omega), dif_pos (by omega)]
      simp only [Int.toNat_natCast]
      rw [if_pos hsk, hl, htk]
      omega
    · have := constructor_at hf h0 (by omega) (by omega) hke
      refine of_constructor hf' (by omega) (k := k) ?_
      rw [constructor_is hf' (by omega) (by omega), hl, hl2, hl3, if_pos (by omega)]
      omega
    · have := eliminator_at hf h0 (by omega) (by omega) hke
      refine of_eliminator hf' (by omega) (k := k) ?_
      rw [eliminator_is hf' (by omega) (by omega), hl, hl2, hl3, if_pos (by omega)]
      omega
theorem mv_in {b : Bl} (hf : Fit b) {base by_ : Int} (h0 : 0 ≤ base) (h1 : base ≤ 5000) (b0 : 0 ≤ by_) (b1 : by_ ≤ 5000) (n : Int) : inB (mvF b base by_ n) 0 65535 = inB n 0 65535 := by
  rw [mvF]
  split
  · rename_i hz
    obtain ⟨r0, r1⟩ := of_range hf h0 (by omega) n hz
    have hcs := count_small8 hf
    rw [(inB_iff _ _ _).2 ⟨by omega, by omega⟩, (inB_iff _ _ _).2 ⟨by omega, by omega⟩]
  · rfl
theorem mv_lt {b : Bl} (hf : Fit b) {base by_ : Int} (h0 : 0 ≤ base) (h1 : base ≤ 5000) (b0 : 0 ≤ by_) (b1 : by_ ≤ 5000) (n : Int) : mvF b base by_ n < 65536 ↔ n < 65536 := by
  rw [mvF]
  split
  · rename_i hz
    obtain ⟨r0, r1⟩ := of_range hf h0 (by omega) n hz
    have hcs := count_small8 hf
    omega
  · rfl
theorem mv_n64 {b : Bl} (hf : Fit b) {base by_ : Int} (h0 : 0 ≤ base) (h1 : base ≤ 5000) (b0 : 0 ≤ by_) (b1 : by_ ≤ 5000) (n : Int) (h : n64 n) : n64 (mvF b base by_ n) := by
  rw [mvF]
  split
  · rename_i hz
    obtain ⟨r0, r1⟩ := of_range hf h0 (by omega) n hz
    have hcs := count_small8 hf
    exact ⟨by omega, by omega⟩
  · exact h
theorem mvA_ok {f : Int → Int} (hf : ∀ n, n64 n → n64 (f n)) {a : Ar} (o : okAr a) : okAr (mvA f a) :=
  ⟨rn_ok hf _ o.ty, ⟨by simpa [mvA] using o.dom.1, fun x hx => by obtain ⟨y, hy, rfl⟩ := List.mem_map.1 hx; exact rn_ok hf _ (o.dom.2 y hy)⟩, o.sort,
    ⟨by simpa [mvA] using o.idx.1, fun x hx => by obtain ⟨y, hy, rfl⟩ := List.mem_map.1 hx; exact rn_ok hf _ (o.idx.2 y hy)⟩⟩
theorem mvAs_ok {f : Int → Int} (hf : ∀ n, n64 n → n64 (f n)) {l : List Ar} (o : okArs l) : okArs (l.map (mvA f)) :=
  ⟨by simpa using o.1, fun x hx => by obtain ⟨y, hy, rfl⟩ := List.mem_map.1 hx; exact mvA_ok hf (o.2 y hy)⟩
theorem mvB_ok {f : Int → Int} (hf : ∀ n, n64 n → n64 (f n)) {b : Bl} (o : okBl b) : okBl (mvB f b) := by
  refine ⟨by simpa [mvB] using o.sortsL, fun x hx => ?_, by simpa [mvB] using o.consL, fun x hx => ?_, o.elim⟩
  · obtain ⟨y, hy, rfl⟩ := List.mem_map.1 hx
    have := o.sorts y hy
    exact ⟨mvAs_ok hf this.idx, this.level, rn_ok hf _ this.dty⟩
  · obtain ⟨y, hy, rfl⟩ := List.mem_map.1 hx
    have := o.cons y hy
    exact ⟨this.sort, mvAs_ok hf this.args, ⟨by simpa [mvC] using this.idx.1, fun z hz => by obtain ⟨w, hw, rfl⟩ := List.mem_map.1 hz; exact rn_ok hf _ (this.idx.2 w hw)⟩, rn_ok hf _ this.dec⟩
theorem mvAs_fine {f : Int → Int} {l : List Ar} (o : FineArs l) : FineArs (l.map (mvA f)) := by
  refine ⟨by simpa using o.1, fun x hx => ?_⟩
  obtain ⟨a, ha, rfl⟩ := List.mem_map.1 hx
  have := o.2 a ha
  exact ⟨by rw [show (mvA f a).ty = rnT f a.ty from rfl, rn_nodes]; exact this.ty, by simpa [mvA] using this.domL, by rw [show (mvA f a).dom = a.dom.map (rnT f) from rfl, rn_sum]; exact this.dom,
    by simpa [mvA] using this.idxL, by rw [show (mvA f a).idx = a.idx.map (rnT f) from rfl, rn_sum]; exact this.idx⟩
theorem mvB_fine {f : Int → Int} {b : Bl} (o : FineBl b) : FineBl (mvB f b) := by
  refine ⟨by simpa [mvB] using o.s, by simpa [mvB] using o.c, fun x hx => ?_, fun x hx => ?_⟩
  · obtain ⟨s, hs, rfl⟩ := List.mem_map.1 hx
    have := o.sorts s hs
    exact ⟨mvAs_fine this.idx, by rw [show (mvS f s).dty = rnT f s.dty from rfl, rn_nodes]; exact this.dty⟩
  · obtain ⟨c, hc, rfl⟩ := List.mem_map.1 hx
    have := o.cons c hc
    exact ⟨mvAs_fine this.args, by simpa [mvC] using this.idxL, by rw [show (mvC f c).idx = c.idx.map (rnT f) from rfl, rn_sum]; exact this.idx, by rw [show (mvC f c).dec = rnT f c.dec from rfl, rn_nodes]; exact this.dec⟩
theorem blT_ok {b : Bl} (ob : okBl b) : ∀ x ∈ blT b, okT x := by
  have har : ∀ l : List Ar, okArs l → ∀ x ∈ arTs l, okT x := fun l hl x hx => by
    simp only [arTs, List.mem_flatten, List.mem_map] at hx
    obtain ⟨_, ⟨a, ha, rfl⟩, hx⟩ := hx
    have fa := hl.2 a ha
    simp only [arT, List.mem_cons, List.mem_append] at hx
    rcases hx with rfl | hx | hx
    · exact fa.ty
    · exact fa.dom.2 _ hx
    · exact fa.idx.2 _ hx
  intro x hx
  simp only [blT, List.mem_append, List.mem_flatten, List.mem_map] at hx
  rcases hx with ⟨_, ⟨s, hs, rfl⟩, hx⟩ | ⟨_, ⟨k, hk, rfl⟩, hx⟩
  · simp only [soT, List.mem_cons] at hx
    rcases hx with rfl | hx
    · exact (ob.sorts s hs).dty
    · exact har _ (ob.sorts s hs).idx x hx
  · simp only [coT, List.mem_cons, List.mem_append] at hx
    rcases hx with rfl | hx | hx
    · exact (ob.cons k hk).dec
    · exact (ob.cons k hk).idx.2 _ hx
    · exact har _ (ob.cons k hk).args x hx
/-- What posit.Check tells of a block moved. -/
theorem mv_pos {b : Bl} (ob : okBl b) (hf : Fit b) {base by_ : Int} (h0 : 0 ≤ base) (h1 : base < 5000) (b0 : 0 ≤ by_) (b1 : by_ < 5000) {n : Nat}
    (hn : ∀ i : Nat, (i : Int) < count b → nmB b (base + by_ + i) = true → base + by_ + i < base + count b) : positE n (mvB (mvF b base by_) b) (base + by_) = positE n b base := by
  have hm : ∀ x ∈ blT b, ∀ c ∈ csT x, Mv (mvF b base by_) b base (base + by_) c := fun x hx c hc => by
    refine mv_of hf h0 (by omega) b0 (by omega) (cs_n64 x (blT_ok ob x hx) hc) fun g1 g2 => ?_
    have := hn (c - (base + by_)).toNat (by omega) (List.any_eq_true.2 ⟨x, hx, List.any_eq_true.2 ⟨c, hc, by simp; omega⟩⟩)
    omega
  rw [positE, positE, rn_check (mv_in hf h0 (by omega) b0 (by omega)) (mv_lt hf h0 (by omega) b0 (by omega)), rn_pos hm]
  by_cases hz : checkB b = 0
  · rw [if_pos hz, if_neg (by omega : ¬(base + by_ < 0 ∨ 65535 < base + by_)), if_pos hz, if_neg (by omega : ¬(base < 0 ∨ 65535 < base))]
  · rw [if_neg hz, if_neg hz]
end Ev
end Go.Proofs.YtdhfkbdhdgaccaaGreat
/- disp, elim: the same over another block. -/
namespace Go.Proofs.YtdhfkbdhdgaccaaGreat
namespace Ev
open Go
set_option maxRecDepth 100000
set_option linter.unusedSimpArgs false
set_option linter.unusedVariables false
section
/-! terms with constants renamed -/
theorem rn_tv (f : Int → Int) (n : Int) : rnT f (.mk 1 n []) = .mk 1 n [] := by rw [rn_mk, if_neg (by decide)]; rfl
theorem rn_spT (f : Int → Int) : ∀ (l : List T) (t : T), rnT f (spT t l) = spT (rnT f t) (l.map (rnT f))
  | [], t => rfl
  | x :: xs, t => by
    show rnT f (spT (.mk 6 0 [t, x]) xs) = _
    rw [rn_spT f xs, rn_mk, if_neg (by decide)]
    rfl
theorem rn_nest (f : Int → Int) (k : Int) (hk : k ≠ 3) : ∀ (l : List T) (t : T), rnT f (nestT k l t) = nestT k (l.map (rnT f)) (rnT f t)
  | [], t => rfl
  | x :: xs, t => by
    show rnT f (.mk k 0 [x, nestT k xs t]) = _
    rw [rn_mk, if_neg hk, List.map_cons, List.map_cons, List.map_nil, rn_nest f k hk xs]
    rfl
theorem rn_map (f : Int → Int) (g : Int → Int → T) (hg : ∀ n b, rnT f (g n b) = g n b) (t : T) : ∀ b, rnT f (mapT g t b) = mapT g (rnT f t) b := by
  refine T.ind (p := fun t => ∀ b, rnT f (mapT g t b) = mapT g (rnT f t) b) ?_ t
  intro k n ks ih b
  rw [mapT, rn_mk, mapT]
  by_cases h1 : k = 1
  · rw [if_pos h1, if_pos h1, hg, if_neg (by omega)]
  · rw [if_neg h1, if_neg h1, rn_mk]
    congr 1
    have go : ∀ (xs : List T) (i : Nat), (∀ x ∈ xs, ∀ b, rnT f (mapT g x b) = mapT g (rnT f x) b) → (mapL g k b i xs).map (rnT f) = mapL g k b i (xs.map (rnT f)) := by
      intro xs
      induction xs with
      | nil => intro i _; rfl
      | cons x xs ihx =>
        intro i h
        rw [mapL, List.map_cons, List.map_cons, mapL, h x (by simp), ihx (i + 1) fun y hy => h y (by simp [hy])]
    exact go ks 0 ih
theorem put_var (pos : List Int) (first : Nat) (more vars n b : Int) : ∃ m : Int, putF pos first more vars n b = .mk 1 m [] := by
  rw [putF]
  split <;> exact ⟨_, rfl⟩
/-- Another block, another base, where constants are renamed: what disp looks at is the same. -/
structure Ch (f : Int → Int) (v v' : Vw) (cons : Int) : Prop where
  pos : v'.pos = v.pos
  args : v'.args = v.args.map (mvA f)
  sl : v'.b.sorts.length = v.b.sorts.length
  of : ∀ c : Int, (ofM v.b v.base c).1 = 5 → (ofM v.b v.base c).2 < cons → ofM v'.b v'.base (f c) = ofM v.b v.base c
  con : ∀ j : Nat, (j : Int) < cons → v'.b.cons[j]? = (v.b.cons[j]?).map (mvC f)
variable {f : Int → Int} {v v' : Vw} {cons : Int}
theorem ch_put (H : Ch f v v' cons) (t : T) (first : Nat) (more vars : Int) : putT v' (rnT f t) first more vars = rnT f (putT v t first more vars) := by
  rw [putT, putT, H.pos]
  exact (rn_map f _ (fun n b => by obtain ⟨m, e⟩ := put_var v.pos first more vars n b; rw [e, rn_tv]) t 0).symm
theorem ch_guard (H : Ch f v v' cons) (first : Nat) (more : Int) (t : T) : guardB (plV v' first more) (rnT f t) = guardB (plV v first more) t ∧ guardN (plV v' first more) (rnT f t) = guardN (plV v first more) t := by
  have e : (plM f 0 (plV v first more)).args = (plV v' first more).args := by
    show (v.args.take first).map (mvA f) = v'.args.take first
    rw [H.args, List.map_take]
  have h1 := rn_guard f 0 (plV v first more) t
  have h2 := rn_guardN f 0 (plV v first more) t
  have c1 : ∀ (p q : Pl) (x : T), p.args = q.args → p.more = q.more → guardB p x = guardB q x ∧ guardN p x = guardN q x := by
    rintro ⟨_, _, a, m⟩ ⟨_, _, a', m'⟩ x h1 h2
    dsimp only at h1 h2
    subst h1 h2
    exact ⟨rfl, rfl⟩
  obtain ⟨g1, g2⟩ := c1 (plV v' first more) (plM f 0 (plV v first more)) (rnT f t) e.symm rfl
  exact ⟨g1.trans h1, g2.trans h2⟩
theorem ch_shA {pt pt' sh sh' : T → T} : ∀ (ar : List Ar) (xs : List T), (∀ (i : Nat) (h : i < ar.length) (h' : i < xs.length), pt' (rnT f xs[i]) = rnT f (pt xs[i]) ∧ (ar[i].rc = true → sh' (rnT f xs[i]) = rnT f (sh xs[i]))) →
    shA pt' sh' (ar.map (mvA f)) (xs.map (rnT f)) = (shA pt sh ar xs).map (rnT f)
  | [], xs, _ => by cases xs <;> rfl
  | a :: ar, [], _ => rfl
  | a :: ar, x :: xs, h => by
    have h0 := h 0 (by simp) (by simp)
    simp only [List.getElem_cons_zero] at h0
    have ih := ch_shA (pt := pt) (pt' := pt') (sh := sh) (sh' := sh') ar xs fun i hi hi' => by
      have := h (i + 1) (by simpa using hi) (by simpa using hi')
      simpa only [List.getElem_cons_succ] using this
    rw [List.map_cons, List.map_cons, shA, shA, ih, show (mvA f a).rc = a.rc from rfl]
    cases hr : a.rc with
    | true => simp only [if_true, List.map_cons, h0.1, h0.2 hr]
    | false => simp only [Bool.false_eq_true, if_false, List.map_cons, h0.1]
theorem guard_sp {p : Pl} {t : T} (ft : formedM t = true) (h : guardB p t = true) : spH t = t := by
  obtain ⟨k, n, ks⟩ := t
  have hk : k = 1 := (guardB_j h).1
  subst hk
  have := var_leaf rfl ft
  subst this
  rfl
theorem ch_sh (H : Ch f v v' cons) (first : Nat) (more vars : Int) : ∀ (n : Nat) (t : T), formedM t = true → nodes t ≤ n → (guardB (plV v first more) (spH t) = true ∨ goodF n (plV v first more) t cons = true) →
    shT v' first more vars n (rnT f t) = rnT f (shT v first more vars n t) := by
  intro n
  induction n with
  | zero => intro t _ h; have := nodes_pos t; omega
  | succ n ih =>
    intro t ft hn hg
    obtain ⟨s1, s2⟩ := rn_sp f t
    obtain ⟨g1, g2⟩ := ch_guard H first more (spH t)
    obtain ⟨fH, fA⟩ := sp_formed2 t ft
    have m1 := (spA_mem t).1
    have hm : ∀ x ∈ (spA t).reverse, nodes x < nodes t ∧ formedM x = true := fun x hx => ⟨m1 x (by simpa using hx), fA x (by simpa using hx)⟩
    rw [shT, shT, s1, s2, g1, g2, H.pos, H.sl]
    by_cases hb : guardB (plV v first more) (spH t) = true
    · rw [if_pos hb, if_pos hb, rn_spT, lv, rn_tv, ← List.map_reverse, List.map_map, List.map_map]
      congr 1
      exact List.map_congr_left fun x _ => ch_put H x first more vars
    · rw [if_neg hb, if_neg hb]
      have hgood := hg.resolve_left hb
      rw [goodF] at hgood
      simp only [goodG] at hgood
      rw [if_neg hb] at hgood
      by_cases k3 : (spH t).kind = 3
      case neg => rw [if_neg k3] at hgood; cases hgood
      rw [if_pos k3] at hgood
      have eb : (plV v first more).b = v.b := rfl
      have ebase : (plV v first more).base = v.base := rfl
      rw [eb, ebase] at hgood
      by_cases k5 : (ofM v.b v.base (spH t).num).1 = 5
      case neg => rw [if_neg k5] at hgood; cases hgood
      rw [if_pos k5] at hgood
      by_cases k6 : (ofM v.b v.base (spH t).num).2 < cons
      case neg => rw [if_neg k6] at hgood; cases hgood
      rw [if_pos k6] at hgood
      rw [rn_num3 f k3, H.of _ k5 k6]
      obtain ⟨c, c1, c2, c3⟩ := of_five k5
      have hgc : v.b.cons[c]? = some v.b.cons[c] := List.getElem?_eq_getElem c1
      rw [c3] at hgood k6 ⊢
      simp only [Int.toNat_natCast, hgc] at hgood k6
      have hcc := H.con c k6
      rw [hgc] at hcc
      simp only [Int.toNat_natCast, hgc, hcc, Option.map_some]
      by_cases k7 : (spA t).reverse.length = v.b.cons[c].args.length
      case neg => rw [if_neg k7] at hgood; cases hgood
      rw [if_pos k7] at hgood
      rw [rn_spT, lv, rn_tv]
      congr 1
      rw [← List.map_reverse]
      refine ch_shA v.b.cons[c].args (spA t).reverse fun i h h' => ⟨ch_put H _ first more vars, fun hr => ?_⟩
      obtain ⟨x1, x2⟩ := hm _ (List.getElem_mem h')
      refine ih _ x2 (by omega) ?_
      have hA := (allI_iff _ _ _).1 hgood i h
      rw [Nat.zero_add, List.getElem?_eq_getElem h'] at hA
      simp only [fitA, hr, if_true] at hA
      split at hA
      · exact .inr hA
      · exact .inl (by rw [guard_sp x2 hA]; exact hA)
theorem ch_in (H : Ch f v v' cons) (first : Nat) (more vars : Int) (n : Nat) (so so' : So) (hs : so'.idx = so.idx.map (mvA f)) (l : List T) (hl : ∀ x ∈ l, formedM x = true ∧ nodes x ≤ n) (hll : l.length = so.idx.length) (hg : indF n (plV v first more) so l cons = true) :
    inT v' n so' (l.map (rnT f)) first more vars = (inT v n so l first more vars).map (rnT f) := by
  rw [inT, inT, hs]
  refine ch_shA so.idx l fun i h h' => ⟨ch_put H _ first more vars, fun hr => ?_⟩
  obtain ⟨x1, x2⟩ := hl _ (List.getElem_mem h')
  refine ch_sh H first more vars n _ x1 x2 (.inr ?_)
  rw [indF] at hg
  have hA := (allI_iff _ _ _).1 hg i h
  rw [Nat.zero_add, List.getElem?_eq_getElem h'] at hA
  simpa only [hr, if_true] using hA
theorem ch_dm (H : Ch f v v' cons) (first : Nat) (vars : Int) : ∀ (l : List T) (j : Nat), dmP v' first vars j (l.map (rnT f)) = (dmP v first vars j l).map (rnT f)
  | [], j => rfl
  | d :: ds, j => by rw [List.map_cons, dmP, dmP, List.map_cons, ch_put H, ch_dm H first vars ds]
end
end Ev
end Go.Proofs.YtdhfkbdhdgaccaaGreat
/- SigClosed. -/
namespace Go.Proofs.YtdhfkbdhdgaccaaGreat
namespace Ev
open Go
set_option maxRecDepth 100000
set_option linter.unusedSimpArgs false
set_option linter.unusedVariables false
attribute [local simp] allD_map_d sks_map_d tk tn tks one_sos one_cos one_ars one_ts

end Ev
end Go.Proofs.YtdhfkbdhdgaccaaGreat
/- DispPlain. -/
namespace Go.Proofs.YtdhfkbdhdgaccaaGreat
namespace Ev
open Go
set_option maxRecDepth 100000
set_option linter.unusedSimpArgs false
set_option linter.unusedVariables false
section
attribute [local simp] allD_map_d sks_map_d tk tn tks initA EndsM one_sos one_cos one_ars one_ts
structure MetOk (b : Bl) (base c : Int) (x : Co) (so : So) : Prop where
  oL : ∀ y ∈ tyL (metV b base c x) 9000 0 x.args, okT y
  lL : (tyL (metV b base c x) 9000 0 x.args).length ≤ 40
  oJ : ∀ y ∈ inT (metV b base c x) 9000 so x.idx x.args.length 0 (metV b base c x).fin ++ [spT (tC (constructor_ b base c)) ((metV b base c x).pos.map fun p => lv p (metV b base c x).fin)], okT y
  lJ : (inT (metV b base c x) 9000 so x.idx x.args.length 0 (metV b base c x).fin).length ≤ 40
  oH : okT (lv x.sort (metV b base c x).fin)
  oO : ∀ y ∈ (metV b base c x).pos.map (fun p => lv p (metV b base c x).fin), okT y
end
end Ev
end Go.Proofs.YtdhfkbdhdgaccaaGreat
/- disp: scopes. -/
namespace Go.Proofs.YtdhfkbdhdgaccaaGreat
namespace Ev
open Go
set_option maxRecDepth 100000
set_option linter.unusedSimpArgs false
set_option linter.unusedVariables false
/-- Right, in so many variables. -/
structure In8 (t : T) (V : Int) : Prop where
  wi : wiT t V 65536 = true
  fm : formedM t = true
/-- What scopes ask of a view. -/
structure Sc8 (v : Vw) (first : Nat) (vars cons : Int) : Prop where
  pos : ∀ j : Nat, j < first → ∃ q, v.pos[j]? = some q ∧ 0 ≤ q ∧ q < vars
  rc : ∀ (j : Nat) a q, j < first → v.args[j]? = some a → a.rc = true → v.pos[j]? = some q → q + 1 < vars
  top : ∀ c : Nat, (c : Int) < cons → (v.b.sorts.length : Int) + c < vars
end Ev
end Go.Proofs.YtdhfkbdhdgaccaaGreat
/- disp: motives and methods are in scope. -/
namespace Go.Proofs.YtdhfkbdhdgaccaaGreat
namespace Ev
open Go
set_option maxRecDepth 100000
set_option linter.unusedSimpArgs false
set_option linter.unusedVariables false
/-- What a row asks. -/
structure Row8 (b : Bl) (base : Int) (l : List Ar) (e cons : Int) : Prop where
  fit : Fit b
  b0 : 0 ≤ base
  b1 : base ≤ 60000
  fine : FineArs l
  row : rowM b l = true
  good : rowF 9000 b base l cons = true
  e0 : 0 ≤ e
  e1 : e ≤ 100
  top : ∀ c : Nat, (c : Int) < cons → (b.sorts.length : Int) + c < e
  srt : ∀ a ∈ l, a.rc = true → a.sort < e
end Ev
end Go.Proofs.YtdhfkbdhdgaccaaGreat
/- DispPlain. -/
namespace Go.Proofs.YtdhfkbdhdgaccaaGreat
namespace Ev
open Go
set_option maxRecDepth 100000
set_option linter.unusedSimpArgs false
set_option linter.unusedVariables false
section
attribute [local simp] allD_map_d sks_map_d tk tn tks initA EndsM one_sos one_cos one_ars one_ts
set_option maxHeartbeats 8000000 in
end
end Ev
end Go.Proofs.YtdhfkbdhdgaccaaGreat
/- DispCounts. -/
namespace Go.Proofs.YtdhfkbdhdgaccaaGreat
namespace Ev
open Go
set_option maxRecDepth 100000
set_option linter.unusedSimpArgs false
set_option linter.unusedVariables false
section
attribute [local simp] allD_map_d sks_map_d tk tn tks initA EndsM one_sos one_cos one_ars one_ts
set_option maxHeartbeats 8000000 in
end
end Ev
end Go.Proofs.YtdhfkbdhdgaccaaGreat
/- DispScopes. -/
namespace Go.Proofs.YtdhfkbdhdgaccaaGreat
namespace Ev
open Go
set_option maxRecDepth 100000
set_option linter.unusedSimpArgs false
set_option linter.unusedVariables false
section
end
end Ev
end Go.Proofs.YtdhfkbdhdgaccaaGreat
/- DispScopes. -/
namespace Go.Proofs.YtdhfkbdhdgaccaaGreat
namespace Ev
open Go
set_option maxRecDepth 100000
set_option linter.unusedSimpArgs false
set_option linter.unusedVariables false
section
attribute [local simp] allD_map_d sks_map_d tk tn tks initA EndsM one_sos one_cos one_ars one_ts
theorem mot_row8 {b : Bl} (fb : FineBl b) (hf : Fit b) {base k : Int} (hp : positE 9000 b base = 0) (b1 : base ≤ 60000) {so : So} (k0 : 0 ≤ k) (hk : b.sorts[k.toNat]? = some so) : Row8 b base so.idx k 0 := by
  obtain ⟨hz, b0, _, hpos⟩ := posE_zero8 hp
  obtain ⟨z1, z4, z8, zl, zs, zc⟩ := (checkB_zero b).1 hz
  obtain ⟨hlt, hS⟩ := List.getElem?_eq_some_iff.1 hk
  have fs := fb.sorts _ (List.getElem_mem hlt)
  have hsm := zs _ hlt
  rw [hS] at fs hsm
  obtain ⟨hrow, _, _, hbad⟩ := (sortM_true _ _ _).1 hsm
  have hfs := hf.s
  exact ⟨hf, b0, b1, fs.idx, hrow, sort_good hpos hk, k0, by omega, fun c hc => by omega, fun a ha hr => by
    have := hbad a ha
    rw [sortBad, if_pos hr] at this
    split at this
    · cases this
    · split at this
      · cases this
      · omega⟩
set_option maxHeartbeats 8000000 in
end
end Ev
end Go.Proofs.YtdhfkbdhdgaccaaGreat
/- disp, elim: motives and methods over another block. -/
namespace Go.Proofs.YtdhfkbdhdgaccaaGreat
namespace Ev
open Go
set_option maxRecDepth 100000
set_option linter.unusedSimpArgs false
set_option linter.unusedVariables false
section
/-- Another block at another base, constants renamed; its first so many constructors are the same. -/
structure ChB (f : Int → Int) (b b' : Bl) (base base' : Int) (m : Int) : Prop where
  s : b'.sorts = b.sorts.map (mvS f)
  of : ∀ c : Int, (ofM b base c).1 = 5 → (ofM b base c).2 < m → ofM b' base' (f c) = ofM b base c
  con : ∀ j : Nat, (j : Int) < m → b'.cons[j]? = (b.cons[j]?).map (mvC f)
  fo : ∀ k : Int, 0 ≤ k → k < b.sorts.length → former b' base' k = f (former b base k)
  fm : ∀ k : Int, 0 ≤ k → k < b.sorts.length → fmT b' base' k = rnT f (fmT b base k)
  co : ∀ c : Int, 0 ≤ c → c < m → constructor_ b' base' c = f (constructor_ b base c)
  el : b'.elim = b.elim
variable {f : Int → Int} {b b' : Bl} {base base' m : Int}
theorem pos_mv (f : Int → Int) : ∀ (l : List Ar) (e : Int), posL e (l.map (mvA f)) = posL e l ∧ finL e (l.map (mvA f)) = finL e l
  | [], e => ⟨rfl, rfl⟩
  | a :: l, e => by
    have hr : (mvA f a).rc = a.rc := rfl
    constructor
    · rw [List.map_cons, posL, posL, hr, (pos_mv f l _).1]
    · rw [List.map_cons, finL, finL, hr, (pos_mv f l _).2]
theorem ch_of (B : ChB f b b' base base' m) (l : List Ar) (e cons : Int) (hc : cons ≤ m) : Ch f (vwOf b base l e) (vwOf b' base' (l.map (mvA f)) e) cons := by
  refine ⟨(pos_mv f l e).1, rfl, ?_, fun c h5 hlt => B.of c h5 (by have : (ofM b base c).2 < cons := hlt; omega), fun j hj => B.con j (by omega)⟩
  show b'.sorts.length = b.sorts.length
  rw [B.s, List.length_map]
theorem rn_argTy (B : ChB f b b' base base' m) {a : Ar} (ha : a.rc = true → 0 ≤ a.sort ∧ a.sort < b.sorts.length) : argTy b' base' (mvA f a) = rnT f (argTy b base a) := by
  rw [argTy, argTy, show (mvA f a).rc = a.rc from rfl]
  cases hr : a.rc with
  | false => rfl
  | true =>
    rw [if_pos rfl, if_pos rfl, rn_nest f 4 (by decide), rn_spT]
    obtain ⟨s0, s1⟩ := ha hr
    have := B.fm a.sort s0 s1
    show nestT 4 (a.dom.map (rnT f)) (spT (fmT b' base' a.sort) (a.idx.map (rnT f))) = _
    rw [this]
theorem varsN_rn (f : Int → Int) (n : Nat) : (varsN n).map (rnT f) = varsN n := by
  rw [varsN, List.map_map]
  exact List.map_congr_left fun i _ => rn_tv f _
theorem ch_tyA (B : ChB f b b' base base' m) {l : List Ar} {e cons : Int} (R : Row8 b base l e cons) (hc : cons ≤ m) (i : Nat) (hi : i < l.length) (p : Int) :
    tyA (vwOf b' base' (l.map (mvA f)) e) 9000 i p (mvA f l[i]) = (tyA (vwOf b base l e) 9000 i p l[i]).map (rnT f) := by
  have H := ch_of B l e cons hc
  obtain ⟨hr1, hr2⟩ := rowM_at R.row
  have fa := R.fine.2 _ (List.getElem_mem hi)
  have hlen := R.fine.1
  have hrec := fun hr => argM_rec (hr2 i hi) hr (by omega) (by omega)
  rw [tyA, tyA, show (mvA f l[i]).rc = l[i].rc from rfl, List.map_cons]
  have hA : argTy (vwOf b' base' (l.map (mvA f)) e).b (vwOf b' base' (l.map (mvA f)) e).base (mvA f l[i]) = rnT f (argTy (vwOf b base l e).b (vwOf b base l e).base l[i]) := rn_argTy B fun hr => ⟨(hrec hr).2.1, (hrec hr).2.2.1⟩
  rw [hA, ch_put H]
  congr 1
  cases hr : l[i].rc with
  | false => rfl
  | true =>
    obtain ⟨_, s0, s1, d1, ⟨so, hso, hil⟩, hd, hx⟩ := hrec hr
    have hg := (allI_iff _ _ _).1 R.good i hi
    rw [Nat.zero_add, argF, if_pos hr, hso, Bool.and_eq_true] at hg
    have hso' : (vwOf b base l e).b.sorts[l[i].sort.toNat]? = some so := hso
    have hso2 : (vwOf b' base' (l.map (mvA f)) e).b.sorts[(mvA f l[i]).sort.toNat]? = some (mvS f so) := by
      show b'.sorts[l[i].sort.toNat]? = _
      rw [B.s, List.getElem?_map, hso]; rfl
    rw [if_pos rfl, if_pos rfl, hso', hso2]
    have hxs : ∀ x ∈ l[i].idx, formedM x = true ∧ nodes x ≤ 9000 := fun x hxm => by
      have hnx : nodes x ≤ 9000 := Nat.le_trans (sum_mem (List.mem_map.2 ⟨_, hxm, rfl⟩)) fa.idx
      exact ⟨(in_facts (hx x hxm) (by omega) (by omega) (by omega)).2.1, hnx⟩
    have hdl : (mvA f l[i]).dom = l[i].dom.map (rnT f) := rfl
    have hxl : (mvA f l[i]).idx = l[i].idx.map (rnT f) := rfl
    have hsl : (mvA f l[i]).sort = l[i].sort := rfl
    have hI := ch_in H i l[i].dom.length (p + 1) 9000 so (mvS f so) rfl l[i].idx hxs hil hg.2
    rw [List.map_cons, List.map_nil, rn_nest f 4 (by decide), rn_spT, List.map_append, List.map_cons, List.map_nil, rn_spT, varsN_rn, hdl, hxl, hsl, List.length_map, ch_dm H]
    dsimp only
    rw [hI, show rnT f (lv l[i].sort (p + 1 + l[i].dom.length)) = lv l[i].sort (p + 1 + l[i].dom.length) from rn_tv f _, show rnT f (lv p (p + 1 + l[i].dom.length)) = lv p (p + 1 + l[i].dom.length) from rn_tv f _]
theorem ch_tyL (B : ChB f b b' base base' m) {l : List Ar} {e cons : Int} (R : Row8 b base l e cons) (hc : cons ≤ m) : tyL (vwOf b' base' (l.map (mvA f)) e) 9000 0 (l.map (mvA f)) = (tyL (vwOf b base l e) 9000 0 l).map (rnT f) := by
  have hp : (vwOf b' base' (l.map (mvA f)) e).pos = (vwOf b base l e).pos := (pos_mv f l e).1
  have go : ∀ j, j ≤ l.length → tyL (vwOf b' base' (l.map (mvA f)) e) 9000 0 ((l.map (mvA f)).take j) = (tyL (vwOf b base l e) 9000 0 (l.take j)).map (rnT f) := by
    intro j
    induction j with
    | zero => intro _; rfl
    | succ j ih =>
      intro hj
      have hlt : j < l.length := by omega
      have hlt' : j < (l.map (mvA f)).length := by rw [List.length_map]; omega
      rw [tyL_snoc _ _ _ _ _ hlt', tyL_snoc _ _ _ _ _ hlt, List.map_append, ih (by omega), hp, Nat.zero_add, List.getElem_map, ch_tyA B R hc j hlt]
  have := go l.length (Nat.le_refl _)
  rwa [List.take_of_length_le (by rw [List.length_map]; exact Nat.le_refl _), List.take_length] at this
theorem own_rn (f : Int → Int) (l : List Int) (V : Int) : (l.map fun p => lv p V).map (rnT f) = l.map fun p => lv p V := by
  rw [List.map_map]
  exact List.map_congr_left fun p _ => rn_tv f _
theorem ch_mot (B : ChB f b b' base base' m) (h0 : 0 ≤ m) (fb : FineBl b) (hf : Fit b) (hp : positE 9000 b base = 0) (b1 : base ≤ 60000) {k : Int} {so : So} (k0 : 0 ≤ k) (hk : b.sorts[k.toNat]? = some so) : motT b' base' k (mvS f so) = rnT f (motT b base k so) := by
  have R := mot_row8 fb hf hp b1 k0 hk
  have hlt := (List.getElem?_eq_some_iff.1 hk).1
  have hi : (mvS f so).idx = so.idx.map (mvA f) := rfl
  rw [motT, motT, rn_nest f 4 (by decide), hi, ch_tyL B R h0, (pos_mv f so.idx k).1, (pos_mv f so.idx k).2, rn_mk, if_neg (by decide), List.map_cons, List.map_cons, List.map_nil, rn_spT, own_rn, B.fo k k0 (by omega), B.el,
    show rnT f (tC (former b base k)) = tC (f (former b base k)) by rw [tC, rn_mk, if_pos rfl]; rfl, rn_mk, if_neg (by decide)]
  rfl
theorem met_row8 (fb : FineBl b) (hf : Fit b) (hp : positE 9000 b base = 0) (b1 : base ≤ 60000) {c : Nat} {S : Co} (hk : b.cons[c]? = some S) : Row8 b base S.args (b.sorts.length + c) c ∧ 0 ≤ S.sort ∧ ∃ so, b.sorts[S.sort.toNat]? = some so ∧ S.idx.length = so.idx.length ∧ indF 9000 ⟨b, base, S.args, 0⟩ so S.idx c = true ∧ ∀ x ∈ S.idx, formedM x = true ∧ nodes x ≤ 9000 := by
  obtain ⟨hz, b0, _, hpos⟩ := posE_zero8 hp
  obtain ⟨z1, z4, z8, zl, zs, zc⟩ := (checkB_zero b).1 hz
  obtain ⟨hlt, hS⟩ := List.getElem?_eq_some_iff.1 hk
  obtain ⟨hsg, so1, hso1, hig⟩ := con_good hpos hk
  have fs := fb.cons _ (List.getElem_mem hlt)
  have hcon := zc _ (List.getElem_mem hlt)
  rw [hS] at fs hcon
  obtain ⟨hrow, s0, so2, hso2, hil2⟩ := con_parts hcon
  rw [hso1] at hso2
  cases hso2
  have hal := fs.args.1
  have hfs := hf.s
  have hfc := hf.c
  refine ⟨⟨hf, b0, b1, fs.args, hrow, hsg, by omega, by omega, fun c' hc => by omega, fun a ha hr => ?_⟩, s0, so1, hso1, hil2, hig, fun x hx => ?_⟩
  · obtain ⟨j, hj, rfl⟩ := List.mem_iff_getElem.1 ha
    have := argM_rec ((rowM_at hrow).2 j hj) hr (by omega) (by omega)
    omega
  · have hnx : nodes x ≤ 9000 := Nat.le_trans (sum_mem (List.mem_map.2 ⟨_, hx, rfl⟩)) fs.idx
    exact ⟨(in_facts (con_idx hcon hx) (by omega) (by omega) (by omega)).2.1, hnx⟩
theorem ch_met (B : ChB f b b' base base' m) (fb : FineBl b) (hf : Fit b) (hp : positE 9000 b base = 0) (b1 : base ≤ 60000) {c : Nat} (hcm : (c : Int) < m) {S : Co} (hk : b.cons[c]? = some S) {so : So} (hso : b.sorts[S.sort.toNat]? = some so) : metT b' base' c (mvC f S) (mvS f so) = rnT f (metT b base c S so) := by
  obtain ⟨R, s0, so1, hso1, hil, hig, hx⟩ := met_row8 fb hf hp b1 hk
  rw [hso] at hso1
  cases hso1
  have H := ch_of B S.args (b.sorts.length + c) c (by omega)
  have hi : (mvC f S).args = S.args.map (mvA f) := rfl
  have hsl : b'.sorts.length = b.sorts.length := by rw [B.s, List.length_map]
  have e1 : metV b' base' c (mvC f S) = vwOf b' base' (S.args.map (mvA f)) (b.sorts.length + c) := by rw [metV, hi, hsl]
  have e2 : metV b base c S = vwOf b base S.args (b.sorts.length + c) := rfl
  have ef : (vwOf b' base' (S.args.map (mvA f)) (b.sorts.length + c)).fin = (vwOf b base S.args (b.sorts.length + c)).fin := (pos_mv f _ _).2
  have hig' : indF 9000 (plV (vwOf b base S.args (b.sorts.length + c)) S.args.length 0) so S.idx c = true := by
    have e : plV (vwOf b base S.args (b.sorts.length + c)) S.args.length 0 = ⟨b, base, S.args, 0⟩ := by simp only [plV, vwOf, List.take_length]
    rw [e]; exact hig
  have hI := ch_in H S.args.length 0 (vwOf b base S.args (b.sorts.length + c)).fin 9000 so (mvS f so) rfl S.idx hx hil hig'
  have hxl : (mvC f S).idx = S.idx.map (rnT f) := rfl
  have hss : (mvC f S).sort = S.sort := rfl
  rw [metT, metT, e1, e2, rn_nest f 4 (by decide), hi, ch_tyL B R (by omega), rn_spT, List.map_append, List.map_cons, List.map_nil, rn_spT, ef, hxl, hss, List.length_map, hI, H.pos, own_rn, B.co c (by omega) hcm,
    show rnT f (tC (constructor_ b base c)) = tC (f (constructor_ b base c)) by rw [tC, rn_mk, if_pos rfl]; rfl, show rnT f (lv S.sort (vwOf b base S.args (b.sorts.length + c)).fin) = lv S.sort (vwOf b base S.args (b.sorts.length + c)).fin from rn_tv f _]
end
end Ev
end Go.Proofs.YtdhfkbdhdgaccaaGreat
/- elim: known blocks at any base. -/
namespace Go.Proofs.YtdhfkbdhdgaccaaGreat
namespace Ev
open Go
set_option maxRecDepth 100000
set_option linter.unusedSimpArgs false
set_option linter.unusedVariables false
section
theorem rn_tC (f : Int → Int) (n : Int) : rnT f (tC n) = tC (f n) := by rw [tC, rn_mk, if_pos rfl]; rfl
theorem mvF_in {b : Bl} {base d c : Int} (h : (ofM b base c).1 ≠ 0) : mvF b base d c = c + d := by rw [mvF, if_pos h]
theorem mv_former {b : Bl} (hf : Fit b) {d k : Int} (d0 : 0 ≤ d) (d1 : d ≤ 5000) (k0 : 0 ≤ k) (k1 : k < b.sorts.length) : former b 0 k = k ∧ mvF b 0 d k = k + d ∧ former (mvB (mvF b 0 d) b) d k = k + d := by
  have hfs := hf.s
  have hf' := mv_fit hf (mvF b 0 d)
  have hl : (mvB (mvF b 0 d) b).sorts.length = b.sorts.length := by simp [mvB]
  have e : former b 0 k = k := by rw [former_is hf (by omega) (by omega), if_pos ⟨k0, k1⟩]; omega
  have ho : ofM b 0 k = (3, ((k.toNat : Nat) : Int)) := of_former hf k0 (k := k.toNat) (by rw [show ((k.toNat : Nat) : Int) = k by omega]; exact e)
  exact ⟨e, mvF_in (by rw [ho]; simp), by rw [former_is hf' (by omega) (by omega), hl, if_pos ⟨k0, k1⟩]; omega⟩
theorem mv_con {b : Bl} (hf : Fit b) {d c : Int} (d0 : 0 ≤ d) (d1 : d ≤ 5000) (c0 : 0 ≤ c) (c1 : c < b.cons.length) : constructor_ (mvB (mvF b 0 d) b) d c = mvF b 0 d (constructor_ b 0 c) := by
  have hfs := hf.s
  have hfc := hf.c
  have h4 := decs_le b.sorts
  have hf' := mv_fit hf (mvF b 0 d)
  have hl : (mvB (mvF b 0 d) b).sorts.length = b.sorts.length := by simp [mvB]
  have hl2 : (mvB (mvF b 0 d) b).cons.length = b.cons.length := by simp [mvB]
  have hl3 : decs (mvB (mvF b 0 d) b).sorts = decs b.sorts := by simp only [mvB, decs_mv]
  have e := constructor_is hf (base := 0) (by omega) (by omega) c
  rw [if_pos ⟨c0, c1⟩] at e
  have ho : ofM b 0 (constructor_ b 0 c) = (5, ((c.toNat : Nat) : Int)) := of_constructor hf (by omega) (k := c.toNat) (by rw [show ((c.toNat : Nat) : Int) = c by omega])
  rw [mvF_in (by rw [ho]; simp), constructor_is hf' (by omega) (by omega), hl, hl2, hl3, if_pos ⟨c0, c1⟩, e]
  omega
theorem mv_elim {b : Bl} (hf : Fit b) {d c : Int} (d0 : 0 ≤ d) (d1 : d ≤ 5000) (c0 : 0 ≤ c) (c1 : c < b.sorts.length) : eliminator (mvB (mvF b 0 d) b) d c = mvF b 0 d (eliminator b 0 c) := by
  have hfs := hf.s
  have hfc := hf.c
  have h4 := decs_le b.sorts
  have hf' := mv_fit hf (mvF b 0 d)
  have hl : (mvB (mvF b 0 d) b).sorts.length = b.sorts.length := by simp [mvB]
  have hl2 : (mvB (mvF b 0 d) b).cons.length = b.cons.length := by simp [mvB]
  have hl3 : decs (mvB (mvF b 0 d) b).sorts = decs b.sorts := by simp only [mvB, decs_mv]
  have e := eliminator_is hf (base := 0) (by omega) (by omega) c
  rw [if_pos ⟨c0, c1⟩] at e
  have ho := of_eliminator hf (base := 0) (n := eliminator b 0 c) (by omega) (k := c.toNat) (by rw [show ((c.toNat : Nat) : Int) = c by omega])
  rw [mvF_in (by rw [ho]; simp), eliminator_is hf' (by omega) (by omega), hl, hl2, hl3, if_pos ⟨c0, c1⟩, e]
  omega
theorem mv_chB {b : Bl} (hf : Fit b) {d : Int} (d0 : 0 ≤ d) (d1 : d ≤ 5000) : ChB (mvF b 0 d) b (mvB (mvF b 0 d) b) 0 d b.cons.length := by
  have hf' := mv_fit hf (mvF b 0 d)
  have hcs := count_small8 hf
  have hl : (mvB (mvF b 0 d) b).sorts.length = b.sorts.length := by simp [mvB]
  refine ⟨rfl, fun c h5 _ => ?_, fun j _ => by simp only [mvB, List.getElem?_map], fun k k0 k1 => ?_, fun k k0 k1 => ?_, fun c c0 c1 => mv_con hf d0 d1 c0 c1, rfl⟩
  · have hr := of_range hf (base := 0) (by omega) (by omega) c (by rw [h5]; decide)
    have := (mv_of hf (base := 0) (by_ := d) (by omega) (by omega) d0 d1 (c := c) ⟨by omega, by omega⟩ (by omega)).of
    rwa [Int.zero_add] at this
  · obtain ⟨e1, e2, e3⟩ := mv_former hf d0 d1 k0 k1
    rw [e1, e2, e3]
  · obtain ⟨e1, e2, e3⟩ := mv_former hf d0 d1 k0 k1
    rw [fmT_is hf' d0 (by omega) k0 (by omega), fmT_is hf (by omega) (by omega) k0 k1, rn_tC, Int.zero_add, e2, Int.add_comm]
theorem rn_vars (f : Int → Int) {l : List T} (hl : ∀ x ∈ l, ∃ n : Int, x = .mk 1 n []) : l.map (rnT f) = l := by
  refine (List.map_congr_left fun x hx => ?_).trans (List.map_id l)
  obtain ⟨n, rfl⟩ := hl x hx
  exact rn_tv f n
theorem rn_inst (f : Int → Int) {l : List T} (hl : ∀ x ∈ l, ∃ n : Int, x = .mk 1 n []) (t : T) : mapT (instF l 0) (rnT f t) 0 = rnT f (mapT (instF l 0) t 0) := by
  refine (rn_map f _ (fun n b => ?_) t 0).symm
  have : ∃ k m : Int, k ≠ 3 ∧ instF l 0 n b = .mk k m [] := by
    rw [instF]
    split
    · split
      · rename_i a ha
        obtain ⟨m, rfl⟩ := hl a (List.mem_of_getElem? ha)
        exact ⟨1, _, by decide, by rw [movedT, mapT, if_pos rfl]⟩
      · exact ⟨0, 0, by decide, rfl⟩
    · exact ⟨1, _, by decide, rfl⟩
  obtain ⟨k, m, hk, e⟩ := this
  rw [e, rn_mk, if_neg hk]
  rfl
theorem lvs_vars (o : Int) (n : Nat) (V : Int) : ∀ x ∈ lvs o n V, ∃ m : Int, x = .mk 1 m [] := fun x hx => by
  simp only [lvs, List.mem_map] at hx
  obtain ⟨i, _, rfl⟩ := hx
  exact ⟨_, rfl⟩
theorem rn_rsL {b b' : Bl} {base base' : Int} {f : Int → Int} (ahead : Nat) (vars : Int) {own : List T} (ho : ∀ x ∈ own, ∃ n : Int, x = .mk 1 n []) : ∀ (l : List Ar) (i : Nat), (∀ a ∈ l, a.rc = true → eliminator b' base' a.sort = f (eliminator b base a.sort)) →
    rsL' b' base' ahead vars own i (l.map (mvA f)) = (rsL' b base ahead vars own i l).map (rnT f)
  | [], i, _ => rfl
  | a :: l, i, h => by
    have hx : rnT f ((own[i]?).getD zT) = (own[i]?).getD zT := by
      cases hg : own[i]? with
      | none => rw [Option.getD_none, zT, rn_mk, if_neg (by decide)]; rfl
      | some x =>
        obtain ⟨n, rfl⟩ := ho x (List.mem_of_getElem? hg)
        exact rn_tv f n
    rw [List.map_cons, rsL', rsL', List.map_append, rn_rsL ahead vars ho l (i + 1) fun a' ha' => h a' (by simp [ha'])]
    congr 1
    rw [rsA', rsA', List.map_cons, hx, show (mvA f a).rc = a.rc from rfl, show (mvA f a).sort = a.sort from rfl, show (mvA f a).idx = a.idx.map (rnT f) from rfl]
    congr 1
    cases hr : a.rc with
    | false => rfl
    | true =>
      rw [if_pos rfl, if_pos rfl, List.map_cons, List.map_nil, rn_spT, rn_tC, List.map_append, List.map_append, List.map_cons, List.map_nil, hx, rn_vars f (lvs_vars _ _ _), List.map_map, List.map_map, h a (by simp) hr]
      have e : a.idx.map ((fun t => mapT (instF (own.take i) 0) t 0) ∘ rnT f) = a.idx.map (rnT f ∘ fun t => mapT (instF (own.take i) 0) t 0) := List.map_congr_left fun t _ => rn_inst f (fun x hx => ho x (List.mem_of_mem_take hx)) t
      rw [e]
theorem mv_elT {b : Bl} (fb : FineBl b) (hf : Fit b) (hp : positE 9000 b 0 = 0) {d : Int} (d0 : 0 ≤ d) (d1 : d ≤ 5000) {k : Int} {so : So} (k0 : 0 ≤ k) (hk : b.sorts[k.toNat]? = some so) :
    (∀ j, j < b.sorts.length → motU (mvB (mvF b 0 d) b) d j = rnT (mvF b 0 d) (motU b 0 j)) ∧ (∀ c, c < b.cons.length → metU (mvB (mvF b 0 d) b) d c = rnT (mvF b 0 d) (metU b 0 c)) ∧
    elL' (mvB (mvF b 0 d) b) d k (mvS (mvF b 0 d) so) = (elL' b 0 k so).map (rnT (mvF b 0 d)) ∧ ∀ V : Int, resE' (mvB (mvF b 0 d) b) d k V (mvS (mvF b 0 d) so) = rnT (mvF b 0 d) (resE' b 0 k V so) := by
  have B := mv_chB hf d0 d1
  have hl : (mvB (mvF b 0 d) b).sorts.length = b.sorts.length := by simp [mvB]
  have hl2 : (mvB (mvF b 0 d) b).cons.length = b.cons.length := by simp [mvB]
  obtain ⟨hz, _, _, hpos⟩ := posE_zero8 hp
  obtain ⟨z1, z4, z8, zl, zs, zc⟩ := (checkB_zero b).1 hz
  obtain ⟨hlt, hS⟩ := List.getElem?_eq_some_iff.1 hk
  have hsm := zs _ hlt
  rw [hS] at hsm
  obtain ⟨hrow, _, _, _⟩ := (sortM_true _ _ _).1 hsm
  have har : ∀ a ∈ so.idx, a.rc = true → 0 ≤ a.sort ∧ a.sort < b.sorts.length := fun a ha hr => by
    obtain ⟨j, hj, rfl⟩ := List.mem_iff_getElem.1 ha
    have h1 := (rowM_at hrow).1
    have := argM_rec ((rowM_at hrow).2 j hj) hr (by omega) (by omega)
    exact ⟨this.2.1, this.2.2.1⟩
  have a1 : ∀ j, j < b.sorts.length → motU (mvB (mvF b 0 d) b) d j = rnT (mvF b 0 d) (motU b 0 j) := fun j hj => by
    have hkj : b.sorts[(j : Int).toNat]? = some b.sorts[j] := by rw [Int.toNat_natCast]; exact List.getElem?_eq_getElem hj
    have hg : (mvB (mvF b 0 d) b).sorts[j]? = some (mvS (mvF b 0 d) b.sorts[j]) := by simp only [mvB, List.getElem?_map, List.getElem?_eq_getElem hj, Option.map_some]
    rw [motU, motU, hg, List.getElem?_eq_getElem hj]
    exact ch_mot B (by omega) fb hf hp (by omega) (by omega) hkj
  have a2 : ∀ c, c < b.cons.length → metU (mvB (mvF b 0 d) b) d c = rnT (mvF b 0 d) (metU b 0 c) := fun c hc => by
    have hkc : b.cons[c]? = some b.cons[c] := List.getElem?_eq_getElem hc
    obtain ⟨_, _, so1, hso1, _⟩ := met_row8 fb hf hp (by omega) hkc
    have hg : (mvB (mvF b 0 d) b).cons[c]? = some (mvC (mvF b 0 d) b.cons[c]) := by simp only [mvB, List.getElem?_map, hkc, Option.map_some]
    have hg2 : (mvB (mvF b 0 d) b).sorts[(mvC (mvF b 0 d) b.cons[c]).sort.toNat]? = some (mvS (mvF b 0 d) so1) := by
      show (b.sorts.map _)[b.cons[c].sort.toNat]? = _
      rw [List.getElem?_map, hso1]; rfl
    rw [metU, metU, hg, hkc]
    simp only [hg2, hso1]
    exact ch_met B fb hf hp (by omega) (by omega) hkc hso1
  refine ⟨a1, a2, ?_, fun V => ?_⟩
  · have hfo := B.fo k k0 (by omega)
    rw [elL', elL', hl, hl2, List.map_append, List.map_append, List.map_append, List.map_map, List.map_map, List.map_cons, List.map_nil, rn_spT, rn_tC, varsN_rn, hfo, show (mvS (mvF b 0 d) so).idx = so.idx.map (mvA (mvF b 0 d)) from rfl, List.length_map, List.map_map, List.map_map]
    have e1 : (List.range b.sorts.length).map (motU (mvB (mvF b 0 d) b) d) = (List.range b.sorts.length).map (rnT (mvF b 0 d) ∘ motU b 0) := List.map_congr_left fun j hj => a1 j (List.mem_range.1 hj)
    have e2 : (List.range b.cons.length).map (metU (mvB (mvF b 0 d) b) d) = (List.range b.cons.length).map (rnT (mvF b 0 d) ∘ metU b 0) := List.map_congr_left fun j hj => a2 j (List.mem_range.1 hj)
    have e3 : so.idx.map (argTy (mvB (mvF b 0 d) b) d ∘ mvA (mvF b 0 d)) = so.idx.map (rnT (mvF b 0 d) ∘ argTy b 0) := List.map_congr_left fun a ha => rn_argTy B (har a ha)
    rw [e1, e2, e3]
  · rw [resE', resE', hl, hl2, show (mvS (mvF b 0 d) so).idx = so.idx.map (mvA (mvF b 0 d)) from rfl, List.length_map, rn_spT, rn_tv, List.map_append, List.map_cons, List.map_nil, rn_tv,
      rn_rsL (b := b) (base := 0) _ _ (lvs_vars _ _ _) so.idx 0 fun a ha hr => mv_elim hf d0 d1 (har a ha hr).1 (har a ha hr).2]
end
end Ev
end Go.Proofs.YtdhfkbdhdgaccaaGreat
/- ElimKnown. -/
namespace Go.Proofs.YtdhfkbdhdgaccaaGreat
namespace Ev
open Go
set_option maxRecDepth 100000
set_option linter.unusedSimpArgs false
set_option linter.unusedVariables false
section
attribute [local simp] allD_map_d sks_map_d tk tn tks initA EndsM one_sos one_cos one_ars one_ts
theorem check_rn {b : Bl} (hf : Fit b) {d : Int} (d0 : 0 ≤ d) (d1 : d ≤ 5000) (t : T) : checkM (rnT (mvF b 0 d) t) = checkM t ∧ formedM (rnT (mvF b 0 d) t) = formedM t := by
  have h := rn_formed (f := mvF b 0 d) (mv_in hf (by omega) (by omega) d0 d1) t
  exact ⟨by rw [checkM, checkM, rn_size, rn_depth, h], h⟩
theorem elim_moved {b : Bl} {k : Int} {so : So} (k0 : 0 ≤ k) (hk : b.sorts[k.toNat]? = some so) (h : elimC b 0 k so = true) (hn : ((blT b).all fun t => (csT t).all fun c => decide (c < count b)) = true) {d : Int} (d0 : 0 ≤ d) (d1 : d ≤ 1000) :
    elE (mvB (mvF b 0 d) b) d k = 0 ∧ elR (mvB (mvF b 0 d) b) d k = rnT (mvF b 0 d) (elT' b 0 k so) ∧ okBl (mvB (mvF b 0 d) b) ∧ FineBl (mvB (mvF b 0 d) b) ∧ Fit (mvB (mvF b 0 d) b) := by
  simp only [elimC, Bool.and_eq_true, List.all_eq_true, List.mem_range, decide_eq_true_eq] at h
  obtain ⟨h0, h1, h2, h3, h4⟩ := h
  have hp := known_zero h0
  obtain ⟨ob, fb, hf⟩ := known_okBl h0
  have hlt := (List.getElem?_eq_some_iff.1 hk).1
  have hf' := mv_fit hf (mvF b 0 d)
  have fb' := mvB_fine (f := mvF b 0 d) fb
  have ob' := mvB_ok (f := mvF b 0 d) (mv_n64 hf (by omega) (by omega) d0 (by omega)) ob
  have hp' : positE 9000 (mvB (mvF b 0 d) b) d = 0 := by
    have := mv_pos ob hf (base := 0) (by_ := d) (n := 9000) (by omega) (by omega) d0 (by omega) fun i hi hnm => by
      simp only [nmB, List.any_eq_true] at hnm
      obtain ⟨t, ht, c, hc, hce⟩ := hnm
      simp only [List.all_eq_true] at hn
      have h1 := hn t ht c hc
      simp only [decide_eq_true_eq] at h1
      simp only [beq_iff_eq] at hce
      omega
    rw [Int.zero_add] at this
    rw [this]; exact hp
  have hl : (mvB (mvF b 0 d) b).sorts.length = b.sorts.length := by simp [mvB]
  have hl2 : (mvB (mvF b 0 d) b).cons.length = b.cons.length := by simp [mvB]
  have hk' : (mvB (mvF b 0 d) b).sorts[k.toNat]? = some (mvS (mvF b 0 d) so) := by simp only [mvB, List.getElem?_map, hk, Option.map_some]
  obtain ⟨e1, e2, e3, e4⟩ := mv_elT fb hf hp d0 (by omega : d ≤ 5000) k0 hk
  have hc := fun t => check_rn hf d0 (by omega : d ≤ 5000) t
  have a1 : ∀ j, j < (mvB (mvF b 0 d) b).sorts.length → motE (mvB (mvF b 0 d) b) d j = 0 := fun j hj => by
    rw [(motU_at hp' hj).1, e1 j (by omega), (hc _).1]; exact checkC (h1 j (by omega)).1 (h1 j (by omega)).2
  have a2 : ∀ j, j < (mvB (mvF b 0 d) b).cons.length → metE (mvB (mvF b 0 d) b) d j = 0 := fun j hj => by
    rw [(metU_at hp' hj).1, e2 j (by omega), (hc _).1]; exact checkC (h2 j (by omega)).1 (h2 j (by omega)).2
  have hm : mayP (mvB (mvF b 0 d) b) d k (mvB (mvF b 0 d) b).sorts.length = 0 := by rw [mayP, if_neg (by omega), hp']
  have hil : (mvS (mvF b 0 d) so).idx.length = so.idx.length := List.length_map ..
  have eT_ : elT (mvB (mvF b 0 d) b) d k (mvS (mvF b 0 d) so) = rnT (mvF b 0 d) (elT' b 0 k so) := by
    rw [elT, elT', elL_len, elL_is hp' a1 a2, resE_is fb' hf' hp' hk' rfl, hl, hl2, hil, e3, e4, rn_nest _ 4 (by decide)]
  have e : elE (mvB (mvF b 0 d) b) d k = 0 := by
    rw [elE, if_pos hm, if_pos (fstN_zero.2 a1), if_pos (fstN_zero.2 a2), hk']
    simp only [eT_]
    rw [(hc _).1]
    exact checkC h3 h4
  exact ⟨e, by rw [elR, if_pos e, hk']; exact eT_, ob', fb', hf'⟩
theorem natE12 : elimC natB 0 0 soN = true := by decide +kernel
theorem synE12 : elimC (synB 0) 0 1 soY = true := by decide +kernel
theorem natW_is : elT' natB 0 0 soN = natW 0 := eqB_of _ _ (by decide +kernel)
def synL : List T := elL' (synB 0) 0 1 soY
theorem synW_is : resE' (synB 0) 0 1 8 soY = synW 0 := eqB_of _ _ (by decide +kernel)
theorem synL6 : synL[6]? = some (tC 0) := by
  have h : eqB (synL.getD 6 zT) (tC 0) = true := by decide +kernel
  have h2 := eqB_of _ _ h
  have hl : synL.length = 8 := elL_len' _ _ _ _
  rw [List.getD_eq_getElem?_getD, List.getElem?_eq_getElem (by omega)] at h2
  rw [List.getElem?_eq_getElem (by omega)]
  exact congrArg some h2
theorem synL7 : synL[7]? = some (tA (tC 1) (tV 0)) := by
  have h : eqB (synL.getD 7 zT) (tA (tC 1) (tV 0)) = true := by decide +kernel
  have h2 := eqB_of _ _ h
  have hl : synL.length = 8 := elL_len' _ _ _ _
  rw [List.getD_eq_getElem?_getD, List.getElem?_eq_getElem (by omega)] at h2
  rw [List.getElem?_eq_getElem (by omega)]
  exact congrArg some h2
theorem synL_formed : synL.all formC = true := by decide +kernel
theorem nat_mv (d : Int) : mvB (mvF natB 0 d) natB = natB := by
  simp [mvB, mvS, mvC, mvA, natB, recA, zT, rn_mk]
theorem syn_mv (d : Int) : mvB (mvF (synB 0) 0 d) (synB 0) = synB d := by
  have e3 : mvF (synB 0) 0 d 3 = 3 + d := mvF_in (by decide +kernel)
  generalize mvF (synB 0) 0 d = f at e3 ⊢
  simp [mvB, mvS, mvC, mvA, synB, recA, zT, rn_mk, tA, tC, tV, e3, Int.add_comm]
theorem nat_rn (d : Int) : rnT (mvF natB 0 d) (natW 0) = natW d := by
  have e0 : mvF natB 0 d 0 = 0 + d := mvF_in (by decide +kernel)
  have e1 : mvF natB 0 d 1 = 1 + d := mvF_in (by decide +kernel)
  have e2 : mvF natB 0 d 2 = 2 + d := mvF_in (by decide +kernel)
  simp [natW, tP, tA, tC, tV, rn_mk, e0, e1, e2, Int.add_comm]
theorem syn_rn (d : Int) : rnT (mvF (synB 0) 0 d) (synW 0) = synW d ∧ rnT (mvF (synB 0) 0 d) (tC 0) = tC d ∧ rnT (mvF (synB 0) 0 d) (tA (tC 1) (tV 0)) = tA (tC (d + 1)) (tV 0) := by
  have e0 : mvF (synB 0) 0 d 0 = 0 + d := mvF_in (by decide +kernel)
  have e1 : mvF (synB 0) 0 d 1 = 1 + d := mvF_in (by decide +kernel)
  have e6 : mvF (synB 0) 0 d 6 = 6 + d := mvF_in (by decide +kernel)
  refine ⟨?_, ?_, ?_⟩
  · simp [synW, ctxW, spT, tA, tC, tV, rn_mk, e6, Int.add_comm]
  · simp [tC, rn_mk, e0]
  · simp [tA, tC, tV, rn_mk, e1, Int.add_comm]
theorem nat_elim {d : Int} (d0 : 0 ≤ d) (d1 : d ≤ 1000) : elE natB d 0 = 0 ∧ elR natB d 0 = natW d := by
  obtain ⟨h1, h2, _⟩ := elim_moved (b := natB) (k := 0) (so := soN) (by omega) rfl natE12 (by decide +kernel) d0 d1
  rw [nat_mv] at h1 h2
  rw [natW_is, nat_rn] at h2
  exact ⟨h1, h2⟩
/-- The eliminator of types. -/
theorem syn_elim {d : Int} (d0 : 0 ≤ d) (d1 : d ≤ 1000) : elE (synB d) d 1 = 0 ∧ elR (synB d) d 1 = nestT 4 (synL.map (rnT (mvF (synB 0) 0 d))) (synW d) ∧ okBl (synB d) ∧ FineBl (synB d) ∧ Fit (synB d) := by
  obtain ⟨h1, h2, h3⟩ := elim_moved (b := synB 0) (k := 1) (so := soY) (by omega) rfl synE12 (by decide +kernel) d0 d1
  rw [syn_mv] at h1 h2 h3
  refine ⟨h1, ?_, h3⟩
  have e : elT' (synB 0) 0 1 soY = nestT 4 synL (resE' (synB 0) 0 1 8 soY) := rfl
  rw [h2, e, rn_nest _ 4 (by decide), synW_is, (syn_rn d).1]
theorem unpis_nest {L : List T} {R : T} (hk : R.kind ≠ 4) (hl : L.length ≤ 1000) (oL : ∀ x ∈ L, okT x) (oR : okT R) : Pure Tryz.prog n_porismref01_Unpis [.agg (cT (nestT 4 L R))] [eTs L, .agg (cT R)] := by
  have e := pi_back L R
  have e2 := pi_head (t := R) hk
  rw [e2.1, e2.2, List.append_nil] at e
  have h := runpis_ok (nestT 4 L R) (by rw [e.1]; omega) (by rw [e.2]; exact oR) (by rw [e.1]; exact ⟨by omega, oL⟩)
  rw [e.1, e.2] at h
  exact h
set_option maxHeartbeats 2000000 in
theorem wakes12_ok : Pure Tryz.prog n_porismlaw12_wakes [] [.bool true] := by
  refine p_porismlaw12_wakes rfl fun hs => ?_
  obtain ⟨ob, fb, hf⟩ := known_okBl nat8
  have hN := nat_ok
  have h1 := elimType_ok natB ob fb hf 0 0 (by omega)
  obtain ⟨e1, e2⟩ := nat_elim (d := 0) (by omega) (by omega)
  rw [e1, e2] at h1
  have hU := unpis_nest (L := [tP (tC 0) (.mk 2 0 []), tA (tV 0) (tC 1), tP (tC 0) (tP (tA (tV 2) (tV 0)) (tA (tV 3) (tA (tC 2) (tV 1)))), tC 0]) (R := tA (tV 3) (tV 0)) (by decide) (by simp) (fun x hx => okT_of (t := x) (by
    simp only [List.mem_cons, List.not_mem_nil, or_false] at hx
    rcases hx with rfl | rfl | rfl | rfl <;> decide +kernel)) (okT_of _ (by decide +kernel))
  have k1 := keepTerm_ok (tA (tV 3) (tV 0))
  have e3 : nestT 4 [tP (tC 0) (.mk 2 0 []), tA (tV 0) (tC 1), tP (tC 0) (tP (tA (tV 2) (tV 0)) (tA (tV 3) (tA (tC 2) (tV 1)))), tC 0] (tA (tV 3) (tV 0)) = natW 0 := rfl
  rw [e3] at hU
  simp only [declC, cBl, eBl, natW, tP, tA, tC, tV, cT, eTs, List.map_cons, List.map_nil, eT_eq, tk, tn, tks, List.cons_append, List.nil_append, Int.zero_add] at hN h1 hU k1
  simp -dsimp [x_porismlaw12_wakes]
  refine call_of hN ?_
  simp -dsimp
  refine call_of h1 ?_
  simp -dsimp
  refine call_of hU ?_
  simp -dsimp
  repeat ((first | refine call_of (craw _) ?_ | refine call_of (vraw _) ?_ | refine call_of (uraw _) ?_ | refine call_of (traw _ _ (by simp [maxRoom])) ?_ | refine call_of k1 ?_); simp -dsimp)
end
end Ev
end Go.Proofs.YtdhfkbdhdgaccaaGreat
/- ElimKnown. -/
namespace Go.Proofs.YtdhfkbdhdgaccaaGreat
namespace Ev
open Go
set_option maxRecDepth 100000
set_option linter.unusedSimpArgs false
set_option linter.unusedVariables false
section
attribute [local simp] allD_map_d sks_map_d tk tn tks initA EndsM one_sos one_cos one_ars one_ts
set_option maxHeartbeats 8000000 in
theorem known12_law (base : Int) : Pure Tryz.prog n_porismlaw12_ElimKnown [.int .i64 base] [.bool true] := by
  refine p_porismlaw12_ElimKnown rfl fun hs => ?_
  obtain ⟨B0, B1⟩ := rem_le base 1000 (by omega) (by omega)
  simp -dsimp [x_porismlaw12_ElimKnown]
  generalize IntKind.i64.wrap ((IntKind.u64.wrap base).tmod 1000) = B at B0 B1 ⊢
  have w1 : IntKind.i64.wrap (B + 1) = B + 1 := wrap_id (by omega) (by omega)
  have w2 : IntKind.i64.wrap (B + 2) = B + 2 := wrap_id (by omega) (by omega)
  have w6 : IntKind.i64.wrap (B + 6) = B + 6 := wrap_id (by omega) (by omega)
  obtain ⟨ob, fb, hf⟩ := known_okBl nat8
  have hN := nat_ok
  have h1 := elimType_ok natB ob fb hf B 0 (by omega)
  obtain ⟨e1, e2⟩ := nat_elim (d := B) B0 (by omega)
  rw [e1, e2] at h1
  have k1 := keepTerm_ok (natW B)
  have hS := syn_ok B ⟨B0, by omega⟩
  obtain ⟨f1, f2, ob', fb', hf'⟩ := syn_elim (d := B) B0 (by omega)
  have h2 := elimType_ok (synB B) ob' fb' hf' B 1 (by omega)
  rw [f1, f2] at h2
  have hl : (synL.map (rnT (mvF (synB 0) 0 B))).length = 8 := by rw [List.length_map]; exact elL_len' _ _ _ _
  have hfs := (known_okBl syn8).2.2
  have oL : ∀ x ∈ synL.map (rnT (mvF (synB 0) 0 B)), okT x := fun x hx => by
    obtain ⟨y, hy, rfl⟩ := List.mem_map.1 hx
    refine okT_of_formed ?_
    rw [(check_rn hfs B0 (by omega) y).2, ← formC_is]
    exact List.all_eq_true.1 synL_formed y hy
  have oV : ∀ n : Int, 0 ≤ n ∧ n ≤ 2000 → okT (tV n) := fun n h => okT_leaf (by omega) (by omega)
  have oC : ∀ n : Int, 0 ≤ n ∧ n ≤ 2000 → okT (tC n) := fun n h => okT_leaf (by omega) (by omega)
  have oH : okTs [tV 7, tV 6, tV 5, tV 4, tV 3, tV 2] := ⟨by simp, by intro x hx; simp at hx; rcases hx with rfl | rfl | rfl | rfl | rfl | rfl <;> exact oV _ (by omega)⟩
  have oA : okTs [tV 7, tV 6, tV 5, tV 4, tV 3, tV 2, tV 1] := ⟨by simp, by intro x hx; simp at hx; rcases hx with rfl | rfl | rfl | rfl | rfl | rfl | rfl <;> exact oV _ (by omega)⟩
  have oX : okT (ctxW B) := sp_okT _ _ (oC _ (by omega)) oA.2
  have oY : okTs [tV 1, ctxW B, tV 0] := ⟨by simp, by intro x hx; simp at hx; rcases hx with rfl | rfl | rfl; exact oV _ (by omega); exact oX; exact oV _ (by omega)⟩
  have oR : okT (synW B) := sp_okT _ _ (oV _ (by omega)) oY.2
  have kR : (synW B).kind ≠ 4 := by show (6 : Int) ≠ 4; decide
  have hU := unpis_nest kR (by omega) oL oR
  have l6 : (synL.map (rnT (mvF (synB 0) 0 B)))[6]? = some (tC B) := by rw [List.getElem?_map, synL6, Option.map_some, (syn_rn B).2.1]
  have l7 : (synL.map (rnT (mvF (synB 0) 0 B)))[7]? = some (tA (tC (B + 1)) (tV 0)) := by rw [List.getElem?_map, synL7, Option.map_some, (syn_rn B).2.2]
  have hT := twins_own [tV 7, tV 6, tV 5, tV 4, tV 3, tV 2] oH
  have hX := rspine_ok (tC (B + 6)) [tV 7, tV 6, tV 5, tV 4, tV 3, tV 2, tV 1] (by simp) (oC _ (by omega)) oA
  have hY := rspine_ok (tV 6) [tV 1, ctxW B, tV 0] (by simp) (oV _ (by omega)) oY
  have k2 := keepTerm_ok (tC B)
  have k3 := keepTerm_ok (tA (tC (B + 1)) (tV 0))
  have k4 := keepTerm_ok (synW B)
  have c1 : spT (tC (B + 6)) [tV 7, tV 6, tV 5, tV 4, tV 3, tV 2, tV 1] = ctxW B := rfl
  have c2 : spT (tV 6) [tV 1, ctxW B, tV 0] = synW B := rfl
  rw [c1] at hX
  rw [c2] at hY
  generalize synL.map (rnT (mvF (synB 0) 0 B)) = L at *
  generalize nestT 4 L (synW B) = N at *
  clear ob fb hf ob' fb' hf' oL oV oC oH oA oX oY oR kR e1 e2 f1 f2 c1 c2 hfs
  generalize synW B = SW at *
  generalize ctxW B = CW at *
  simp only [declC, cBl, eBl, eSos, eCos, natW, synB, recA, eSo, cSo, eCo, cCo, eArs, eAr, cAr, zT, tP, tA, tC, tV, cT, eTs, List.map_cons, List.map_nil, eT_eq, tk, tn, tks, List.cons_append, List.nil_append, Int.zero_add] at hN h1 k1 hS h2 hU hT hX hY k2 k3 k4 l6 l7
  have r280 : 280 ≤ maxRoom := by simp [maxRoom]
  obtain ⟨q6, g6⟩ := List.getElem?_eq_some_iff.1 l6
  obtain ⟨q7, g7⟩ := List.getElem?_eq_some_iff.1 l7
  repeat ((first | refine call_of (craw _) ?_ | refine call_of (vraw _) ?_ | refine call_of (uraw _) ?_ | refine call_of (traw _ _ (by simp [maxRoom])) ?_ | refine call_of hN ?_ | refine call_of h1 ?_ | refine call_of k1 ?_ | refine call_of hS ?_ | refine call_of h2 ?_ | refine call_of hU ?_ | refine call_of k2 ?_ | refine call_of k3 ?_ | refine callO_of hT (by simp [rowsV, rowsC, RV.cells]) ?_ | refine call_of hX ?_ | refine call_of hY ?_ | refine call_of k4 ?_ | refine call_of wakes12_ok ?_); simp -dsimp [w1, w2, w6, hl, g6, g7, r280, eT_eq, cT])
end
end Ev
end Go.Proofs.YtdhfkbdhdgaccaaGreat
