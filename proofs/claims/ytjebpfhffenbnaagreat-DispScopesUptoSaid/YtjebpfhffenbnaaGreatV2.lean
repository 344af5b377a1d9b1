/- disp: what is displayed of good terms. -/
import Derived.Test.YtjebpfhffenbnaaGreatV1
namespace Go.Proofs.YtjebpfhffenbnaaGreat
namespace Ev
open Go
set_option maxRecDepth 100000
set_option linter.unusedSimpArgs false
set_option linter.unusedVariables false
section
attribute [local simp] allD_map_d sks_map_d tk tn tks initA EndsM one_sos one_cos one_ars one_ts
theorem map_okF {f : Int → Int → T} (hf : ∀ n b : Int, 0 ≤ n → n ≤ 65535 → 0 ≤ b → b ≤ 1099511627776 → okT (f n b)) (t : T) : ∀ b : Int, formedM t = true → okT t → 0 ≤ b → b + nodes t ≤ 1099511627776 → okT (mapT f t b) := by
  refine T.ind (p := fun t => ∀ b : Int, formedM t = true → okT t → 0 ≤ b → b + nodes t ≤ 1099511627776 → okT (mapT f t b)) ?_ t
  intro k n ks ih b fm ho h0 hb
  rw [mapT]
  split
  · rename_i h1
    have hn := var_formed h1 fm
    exact hf n b hn.1 hn.2 h0 (by omega)
  · cases ho with
    | mk _ _ _ hk hn hl h =>
      refine .mk k n _ hk hn (by rw [mapL_len]; exact hl) fun x hx => ?_
      obtain ⟨j, hj, rfl⟩ := List.mem_iff_getElem.1 hx
      rw [mapL_len] at hj
      rw [mapL_get f k b ks 0 j hj]
      have hkn := nodes_kid (k := k) (n := n) (List.getElem_mem hj : ks[j] ∈ ks)
      have hbl := binds_le k (0 + j : Nat)
      exact ih _ (List.getElem_mem hj) _ (kids_formed fm _ (List.getElem_mem hj)) (h _ (List.getElem_mem hj)) (by omega) (by omega)
theorem put_okT {v : Vw} (hp : Pos v) {t : T} (ft : formedM t = true) (ot : okT t) (hn : nodes t ≤ 1000000) (first : Nat) (more vars : Int) (h0 : 0 ≤ more) (h1 : more ≤ 10000) (h2 : 0 ≤ vars) (h3 : vars ≤ 10000) : okT (putT v t first more vars) := by
  refine map_okF (fun n b a1 a2 a3 a4 => ?_) t 0 ft ot (by omega) (by omega)
  rw [putF]
  split
  · exact .mk _ _ _ (by simp only [n64]; omega) (by simp only [n64]; omega) (by simp) (by simp)
  · have hpj : 0 ≤ (v.pos[first - 1 - (n - (more + b)).toNat]?).getD 0 ∧ (v.pos[first - 1 - (n - (more + b)).toNat]?).getD 0 ≤ 10000 := by
      cases hg : v.pos[first - 1 - (n - (more + b)).toNat]? with
      | none => simp
      | some p => exact hp.at_ _ (List.mem_of_getElem? hg)
    generalize (v.pos[first - 1 - (n - (more + b)).toNat]?).getD 0 = p at hpj
    exact .mk _ _ _ (by simp only [n64]; omega) (by simp only [n64]; omega) (by simp) (by simp)
theorem puts_ok (v : Vw) (hp : Pos v) (l : List T) (hl : l.length ≤ 1000000) (hf : ∀ x ∈ l, formedM x = true ∧ nodes x ≤ 1000000) (first : Nat) (hfi : first ≤ v.pos.length) (more vars : Int) (h0 : 0 ≤ more) (h1 : more ≤ 10000) (h2 : 0 ≤ vars) (h3 : vars ≤ 10000) :
    Pure Tryz.prog n_disp_view_puts [.rp (cVw v), eTs l, .int .i64 first, .int .i64 more, .int .i64 vars] [eTs (l.map fun x => putT v x first more vars)] := by
  refine p_disp_view_puts rfl fun hs => ?_
  simp -dsimp [x_disp_view_puts, eTs]
  refine wp_upto l.length (fun i st => (st.s 0 = .d (.rp (cVw v)) ∧ st.s 2 = .d (.int .i64 first) ∧ st.s 3 = .d (.int .i64 more) ∧ st.s 4 = .d (.int .i64 vars)) ∧ (st.s 10 = .rsl 10 1 ∧ st.h 10 = ⟨1, .row 3 [] false⟩) ∧ (st.s 14 = .d (eTs l) ∧ st.s 15 = .d (.int .i64 l.length)) ∧ st.s 16 = .d (.int .i64 i) ∧
    ∃ u, st.s 11 = .rsl 11 u ∧ st.h 11 = ⟨u, .row 3 (((l.map fun x => putT v x first more vars).take i).map eT) false⟩) ?_ ?_
  · simp -dsimp [eTs]
  · rintro i ⟨s, hp'⟩ hi ⟨⟨g0, g2, g3, g4⟩, ⟨g10, k10⟩, ⟨g14, g15⟩, g16, u, g11, k11⟩
    dsimp only at g0 g2 g3 g4 g10 k10 g14 g15 g16 g11 k11
    simp only [eTs] at g14
    rcases Nat.lt_or_ge i l.length with hlt | hge
    · have w1 : IntKind.i64.wrap ((i : Int) + 1) = (i : Int) + 1 := wrap_id (by omega) (by omega)
      obtain ⟨x1, x2⟩ := hf _ (List.getElem_mem hlt)
      have hP := put_ok8 v hp l[i] x1 x2 first hfi more vars h0 h1 h2 h3
      have hn : ((l.map fun x => putT v x first more vars).take (i + 1)).map eT = ((l.map fun x => putT v x first more vars).take i).map eT ++ [.agg (cT (putT v l[i] first more vars))] := by
        rw [take_snoc (List.getElem?_eq_getElem (by simpa using hlt)), List.map_append]
        simp [eT_eq]
      generalize hX : putT v l[i] first more vars = X at *
      generalize hM : (l.map fun x => putT v x first more vars) = M at *
      have hMl : M.length = l.length := by rw [← hM, List.length_map]
      have hr : (min i M.length + 1) * 40 ≤ maxRoom := by simp only [maxRoom]; omega
      rw [hn]
      simp only [cT] at hP
      simp -dsimp [g0, g2, g3, g4, g10, k10, g14, g15, g16, g11, k11, hlt, cT]
      refine call_of hP ?_
      simp -dsimp [g0, g2, g3, g4, g10, k10, g14, g15, g16, g11, k11, hlt, cT, hr, w1, eTs]
      try exact hlt
    · have e : i = l.length := by omega
      subst e
      rw [List.take_of_length_le (by simp)] at k11
      simp -dsimp [g0, g2, g3, g4, g10, k10, g14, g15, g16, g11, k11]
theorem sp_formed2 (t : T) : formedM t = true → formedM (spH t) = true ∧ ∀ x ∈ spA t, formedM x = true := by
  refine T.ind (p := fun t => formedM t = true → formedM (spH t) = true ∧ ∀ x ∈ spA t, formedM x = true) ?_ t
  intro k n ks ih hf
  by_cases hc : k = 6 ∧ ∃ a b, ks = [a, b]
  · obtain ⟨rfl, a, b, rfl⟩ := hc
    have ha := kids_formed hf a (by simp)
    have hb := kids_formed hf b (by simp)
    obtain ⟨i1, i2⟩ := ih a (by simp) ha
    rw [(sp_two n a b).1, (sp_two n a b).2]
    refine ⟨i1, fun x hx => ?_⟩
    rcases List.mem_cons.1 hx with rfl | hx
    · exact hb
    · exact i2 x hx
  · rw [(sp_none hc).1, (sp_none hc).2]
    exact ⟨hf, by simp⟩
theorem guardB_j {p : Pl} {t : T} (h : guardB p t = true) : t.kind = 1 ∧ ∃ j : Nat, guardN p t = j ∧ j < p.args.length := by
  rw [guardB] at h
  cases hJ : guardJ p t with
  | none => rw [hJ] at h; cases h
  | some j =>
    have e : guardN p t = j := by rw [guardN, hJ]
    rw [guardJ] at hJ
    split at hJ
    · rename_i hh
      cases hJ
      exact ⟨hh.1, _, e, by omega⟩
    · cases hJ
def gdI (l : List Ar) (more : Int) (t : T) : Int := if guardB ⟨⟨[], [], 0⟩, 0, l, more⟩ t then guardN ⟨⟨[], [], 0⟩, 0, l, more⟩ t else -1
theorem gd_ok (l : List Ar) (more : Int) (t : T) (h0 : 0 ≤ more) (h1 : more ≤ 1000000000) (hl : l.length ≤ 1000000) (hn : n64 t.num) : Pure Tryz.prog n_posit_Guarded [eArs l, .int .i64 more, .agg (cT t)] [.int .i64 (gdI l more t)] := by
  refine p_posit_Guarded rfl fun hs => ?_
  have hG := guarded_ok ⟨⟨[], [], 0⟩, 0, l, more⟩ t h0 h1 hl hn
  rw [gdI]
  simp only [cPl, cBl, cT, eSos, eCos, eArs, List.map_nil, List.cons_append, List.nil_append] at hG
  simp -dsimp [x_posit_Guarded, cT, eArs]
  refine call_of hG ?_
  cases hb : guardB ⟨⟨[], [], 0⟩, 0, l, more⟩ t with
  | true => simp -dsimp [hb]
  | false => simp -dsimp [hb]
def shA (pt sh : T → T) : List Ar → List T → List T
  | a :: ar, x :: xs => pt x :: (if a.rc then sh x :: shA pt sh ar xs else shA pt sh ar xs)
  | _, _ => []
theorem shA_snoc (pt sh : T → T) : ∀ (ar : List Ar) (xs : List T) (i : Nat) (h : i < ar.length) (h' : i < xs.length), shA pt sh (ar.take (i + 1)) xs = shA pt sh (ar.take i) xs ++ (pt xs[i] :: if ar[i].rc then [sh xs[i]] else [])
  | a :: ar, x :: xs, 0, h, h' => by cases hr : a.rc <;> simp [shA, hr]
  | a :: ar, x :: xs, i + 1, h, h' => by
    have ih := shA_snoc pt sh ar xs i (by simpa using h) (by simpa using h')
    simp only [List.take_succ_cons, shA, List.getElem_cons_succ]
    rw [ih]
    cases a.rc <;> simp
theorem shA_len (pt sh : T → T) : ∀ (ar : List Ar) (xs : List T), (shA pt sh ar xs).length ≤ 2 * ar.length
  | [], xs => by simp [shA]
  | a :: ar, [] => by simp [shA]
  | a :: ar, x :: xs => by
    have := shA_len pt sh ar xs
    rw [shA]
    cases a.rc <;> simp <;> omega
theorem shA_mem {pt sh : T → T} {q : T → Prop} : ∀ (ar : List Ar) (xs : List T), (∀ (i : Nat) (h : i < ar.length) (h' : i < xs.length), q (pt xs[i]) ∧ (ar[i].rc = true → q (sh xs[i]))) → ∀ y ∈ shA pt sh ar xs, q y
  | [], xs, _, y, hy => by simp [shA] at hy
  | a :: ar, [], _, y, hy => by simp [shA] at hy
  | a :: ar, x :: xs, h, y, hy => by
    have h0 := h 0 (by simp) (by simp)
    simp only [List.getElem_cons_zero] at h0
    have ih := shA_mem ar xs (q := q) fun i hi hi' => by
      have := h (i + 1) (by simpa using hi) (by simpa using hi')
      simpa only [List.getElem_cons_succ] using this
    rw [shA] at hy
    cases hr : a.rc with
    | true =>
      rw [hr] at hy
      simp only [if_true, List.mem_cons] at hy
      rcases hy with rfl | rfl | hy
      · exact h0.1
      · exact h0.2 hr
      · exact ih y hy
    | false =>
      rw [hr] at hy
      simp only [Bool.false_eq_true, if_false, List.mem_cons] at hy
      rcases hy with rfl | hy
      · exact h0.1
      · exact ih y hy
def plV (v : Vw) (first : Nat) (more : Int) : Pl := ⟨v.b, v.base, v.args.take first, more⟩
def shT (v : Vw) (first : Nat) (more vars : Int) : Nat → T → T
  | 0, _ => zT
  | n + 1, t =>
    if guardB (plV v first more) (spH t) then spT (lv ((v.pos[(guardN (plV v first more) (spH t)).toNat]?).getD 0 + 1) (vars + more)) ((spA t).reverse.map fun x => putT v x first more vars)
    else spT (lv (v.b.sorts.length + (ofM v.b v.base (spH t).num).2) (vars + more)) (match v.b.cons[(ofM v.b v.base (spH t).num).2.toNat]? with
      | some c => shA (fun x => putT v x first more vars) (shT v first more vars n) c.args (spA t).reverse
      | none => [])
theorem lv_okT {l vars : Int} (h0 : -1000000 ≤ l) (h1 : l ≤ 1000000) (h2 : -1000000 ≤ vars) (h3 : vars ≤ 1000000) : okT (lv l vars) := .mk _ _ _ (by simp only [n64]; omega) (by simp only [n64]; omega) (by simp) (by simp)
structure VwOk (v : Vw) : Prop where
  pos : Pos v
  len : v.pos.length = v.args.length
  al : v.args.length ≤ 20
  sl : v.b.sorts.length ≤ 10
  cl : v.b.cons.length ≤ 20
  ca : ∀ c ∈ v.b.cons, c.args.length ≤ 20
  si : ∀ s ∈ v.b.sorts, s.idx.length ≤ 20
theorem room42 {n : Nat} (h : n ≤ 40) : (n + 1 + 1) * 40 ≤ maxRoom := by simp only [maxRoom]; omega
theorem room41 {n : Nat} (h : n ≤ 40) (_ : True) : (n + 1) * 40 ≤ maxRoom := by simp only [maxRoom]; omega
set_option maxHeartbeats 1000000 in
theorem shown_ok (v : Vw) (hv : VwOk v) (first : Nat) (hfi : first ≤ v.args.length) (more vars : Int) (h0 : 0 ≤ more) (h1 : more ≤ 1000) (h2 : 0 ≤ vars) (h3 : vars ≤ 1000) (cons : Int) : ∀ (n : Nat) (t : T), n ≤ 1000000 → formedM t = true → okT t → nodes t ≤ n →
    (guardB (plV v first more) (spH t) = true ∨ goodF n (plV v first more) t cons = true) →
    Pure Tryz.prog n_disp_view_shown [.rp (cVw v), .agg (cT t), .int .i64 first, .int .i64 more, .int .i64 vars] [.agg (cT (shT v first more vars n t))] ∧ okT (shT v first more vars n t) := by
  intro n
  induction n with
  | zero => intro t _ _ _ h; have := nodes_pos t; omega
  | succ n ih =>
    intro t hN ft ot hn hg
    have hp := hv.pos
    have hpl := hv.len
    have hal := hv.al
    have hsl := hv.sl
    have hcl := hv.cl
    have hA := spA_lt t
    have hS := split_ok t (by omega)
    obtain ⟨m1, m2⟩ := spA_mem t
    obtain ⟨oH, m3⟩ := m2 ot
    obtain ⟨fH, m4⟩ := sp_formed2 t ft
    have hm : ∀ x ∈ (spA t).reverse, nodes x < nodes t ∧ okT x ∧ formedM x = true := fun x hx => ⟨m1 x (by simpa using hx), m3 x (by simpa using hx), m4 x (by simpa using hx)⟩
    have hAl : (spA t).reverse.length ≤ 1000000 := by rw [List.length_reverse]; omega
    have hG := gd_ok (v.args.take first) more (spH t) h0 (by omega) (by rw [List.length_take]; omega) oH.num64
    have hO := of_ok v.b v.base (spH t).num
    have hgB : guardB ⟨⟨[], [], 0⟩, 0, v.args.take first, more⟩ (spH t) = guardB (plV v first more) (spH t) := rfl
    have hgN : guardN ⟨⟨[], [], 0⟩, 0, v.args.take first, more⟩ (spH t) = guardN (plV v first more) (spH t) := rfl
    rw [gdI, hgB, hgN] at hG
    have wv : IntKind.i64.wrap (vars + more) = vars + more := wrap_id (by omega) (by omega)
    by_cases hb : guardB (plV v first more) (spH t) = true
    · obtain ⟨_, j, hj, hjl⟩ := guardB_j hb
      have hjl' : j < v.pos.length := by simp only [plV, List.length_take] at hjl; omega
      have hge : v.pos[j]? = some v.pos[j] := List.getElem?_eq_getElem hjl'
      have hpj := hp.at_ _ (List.getElem_mem hjl')
      have e : shT v first more vars (n + 1) t = spT (lv (v.pos[j] + 1) (vars + more)) ((spA t).reverse.map fun x => putT v x first more vars) := by
        rw [shT, if_pos hb, hj, Int.toNat_natCast, hge]; rfl
      rw [if_pos hb, hj] at hG
      rw [e]
      have oL : okT (lv (v.pos[j] + 1) (vars + more)) := lv_okT (by omega) (by omega) (by omega) (by omega)
      have oP : ∀ x ∈ (spA t).reverse.map (fun x => putT v x first more vars), okT x := fun y hy => by
        obtain ⟨x, hx, rfl⟩ := List.mem_map.1 hy
        exact put_okT hp (hm x hx).2.2 (hm x hx).2.1 (by have := (hm x hx).1; omega) first more vars h0 (by omega) h2 (by omega)
      refine ⟨?_, sp_okT _ _ oL oP⟩
      have hL := level_ok8 (v.pos[j] + 1) (vars + more) (by omega) (by omega) (by omega) (by omega)
      have hPs := puts_ok v hp (spA t).reverse hAl (fun x hx => ⟨(hm x hx).2.2, by have := (hm x hx).1; omega⟩) first (by omega) more vars h0 (by omega) h2 (by omega)
      have hSp := spine_ok (lv (v.pos[j] + 1) (vars + more)) ((spA t).reverse.map fun x => putT v x first more vars) (by rw [List.length_map]; omega) oL ⟨by rw [List.length_map]; omega, oP⟩
      have w1 : IntKind.i64.wrap (v.pos[j] + 1) = v.pos[j] + 1 := wrap_id (by omega) (by omega)
      generalize spT (lv (v.pos[j] + 1) (vars + more)) ((spA t).reverse.map fun x => putT v x first more vars) = R at *
      generalize ((spA t).reverse.map fun x => putT v x first more vars) = M at *
      generalize (spA t).reverse = A at *
      generalize spH t = H at *
      generalize hPj : v.pos[j] = p at *
      generalize lv (p + 1) (vars + more) = L at *
      refine p_disp_view_shown rfl fun hs => ?_
      simp only [cVw, cBl, cT, eTs, eArs, List.map_take, List.cons_append, List.nil_append] at hS hG hL hPs hSp
      simp -dsimp [x_disp_view_shown, cT, cVw, cBl]
      refine call_of hS ?_
      have hfl : (first : Int) ≤ v.args.length := by omega
      simp -dsimp [eArs, hfl, hfi]
      refine call_of hG ?_
      simp -dsimp [hjl', hge, hPj, w1, wv]
      refine call_of hL ?_
      simp -dsimp
      refine call_of hPs ?_
      simp -dsimp
      refine call_of hSp ?_
      simp -dsimp [cT]
    · have hgood := hg.resolve_left hb
      rw [goodF] at hgood
      simp only [goodG] at hgood
      rw [if_neg hb] at hgood
      have hb' : guardB (plV v first more) (spH t) = false := by simpa using hb
      by_cases k3 : (spH t).kind = 3
      case neg => rw [if_neg k3] at hgood; cases hgood
      rw [if_pos k3] at hgood
      have eb : (plV v first more).b = v.b := rfl
      have ebase : (plV v first more).base = v.base := rfl
      rw [eb, ebase] at hgood
      by_cases k5 : (ofM v.b v.base (spH t).num).1 = 5
      case neg => rw [if_neg k5] at hgood; cases hgood
      rw [if_pos k5] at hgood
      by_cases k6 : (ofM v.b v.base (spH t).num).2 < cons
      case neg => rw [if_neg k6] at hgood; cases hgood
      rw [if_pos k6] at hgood
      obtain ⟨c, c1, c2, c3⟩ := of_five k5
      have hgc : v.b.cons[c]? = some v.b.cons[c] := List.getElem?_eq_getElem c1
      have e : shT v first more vars (n + 1) t = spT (lv (v.b.sorts.length + c) (vars + more)) (shA (fun x => putT v x first more vars) (shT v first more vars n) v.b.cons[c].args (spA t).reverse) := by
        rw [shT, if_neg hb, c3]
        simp only [Int.toNat_natCast, hgc]
      rw [c3] at hgood
      simp only [Int.toNat_natCast, hgc] at hgood
      have hcal := hv.ca _ (List.getElem_mem c1)
      by_cases k7 : (spA t).reverse.length = v.b.cons[c].args.length
      case neg => rw [if_neg k7] at hgood; cases hgood
      rw [if_pos k7] at hgood
      have hrec : ∀ (i : Nat) (h : i < v.b.cons[c].args.length) (h' : i < (spA t).reverse.length), v.b.cons[c].args[i].rc = true →
          Pure Tryz.prog n_disp_view_shown [.rp (cVw v), .agg (cT (spA t).reverse[i]), .int .i64 first, .int .i64 more, .int .i64 vars] [.agg (cT (shT v first more vars n (spA t).reverse[i]))] ∧ okT (shT v first more vars n (spA t).reverse[i]) := fun i h h' hr => by
        obtain ⟨x1, x2, x3⟩ := hm _ (List.getElem_mem h')
        refine ih _ (by omega) x3 x2 (by omega) ?_
        have hA := (allI_iff _ _ _).1 hgood i h
        rw [Nat.zero_add, List.getElem?_eq_getElem h'] at hA
        simp only [fitA, hr, if_true] at hA
        split at hA
        · exact .inr hA
        · have hk := (guardB_j hA).1
          refine .inl ?_
          have : spH (spA t).reverse[i] = (spA t).reverse[i] := by
            generalize (spA t).reverse[i] = x at hk
            obtain ⟨k, m, ks⟩ := x
            have hk' : k = 1 := hk
            exact (sp_none (fun h => by omega)).2
          rw [this]
          exact hA
      have hput : ∀ (i : Nat) (h' : i < (spA t).reverse.length), Pure Tryz.prog n_disp_view_put [.rp (cVw v), .agg (cT (spA t).reverse[i]), .int .i64 first, .int .i64 more, .int .i64 vars] [.agg (cT (putT v (spA t).reverse[i] first more vars))] := fun i h' => by
        obtain ⟨x1, x2, x3⟩ := hm _ (List.getElem_mem h')
        exact put_ok8 v hp _ x3 (by omega) first (by omega) more vars h0 (by omega) h2 (by omega)
      have oAll : ∀ y ∈ shA (fun x => putT v x first more vars) (shT v first more vars n) v.b.cons[c].args (spA t).reverse, okT y := shA_mem _ _ fun i h h' => by
        obtain ⟨x1, x2, x3⟩ := hm _ (List.getElem_mem h')
        exact ⟨put_okT hp x3 x2 (by omega) first more vars h0 (by omega) h2 (by omega), fun hr => (hrec i h h' hr).2⟩
      have oL : okT (lv (v.b.sorts.length + c) (vars + more)) := lv_okT (by omega) (by omega) (by omega) (by omega)
      rw [e]
      refine ⟨?_, sp_okT _ _ oL oAll⟩
      have hlen := shA_len (fun x => putT v x first more vars) (shT v first more vars n) v.b.cons[c].args (spA t).reverse
      have hL := level_ok8 (v.b.sorts.length + c) (vars + more) (by omega) (by omega) (by omega) (by omega)
      have hSp := spine_ok (lv (v.b.sorts.length + c) (vars + more)) _ (by omega : (shA (fun x => putT v x first more vars) (shT v first more vars n) v.b.cons[c].args (spA t).reverse).length ≤ 100000000) oL ⟨by omega, oAll⟩
      have w1 : IntKind.i64.wrap ((v.b.sorts.length : Int) + (c : Int)) = v.b.sorts.length + c := wrap_id (by omega) (by omega)
      rw [if_neg hb] at hG
      rw [c3] at hO
      generalize spT (lv (v.b.sorts.length + c) (vars + more)) (shA (fun x => putT v x first more vars) (shT v first more vars n) v.b.cons[c].args (spA t).reverse) = R at *
      have hsn := shA_snoc (fun x => putT v x first more vars) (shT v first more vars n) v.b.cons[c].args (spA t).reverse
      have hsl2 := fun i => shA_len (fun x => putT v x first more vars) (shT v first more vars n) (v.b.cons[c].args.take i) (spA t).reverse
      clear hgood oAll oL hm m1 m2 m3 m4 e ih
      generalize (spA t).reverse = A at *
      generalize spH t = H at *
      generalize lv (v.b.sorts.length + c) (vars + more) = L at *
      refine p_disp_view_shown rfl fun hs => ?_
      simp only [cVw, cBl, eBl, cT, eTs, eArs, List.map_take, List.cons_append, List.nil_append] at hS hG hO hL hSp
      simp -dsimp [x_disp_view_shown, cT, cVw, cBl]
      refine call_of hS ?_
      have hfl : (first : Int) ≤ v.args.length := by omega
      simp -dsimp [eArs, hfl, hfi]
      refine call_of hG ?_
      simp -dsimp
      refine call_of hO ?_
      generalize hCc : v.b.cons[c] = C at *
      simp -dsimp [c1, hgc, hCc, eCos, eCo, cCo, cT, eArs]
      refine wp_upto C.args.length (fun i st => (st.s 0 = .d (.rp (cVw v)) ∧ st.s 2 = .d (.int .i64 first) ∧ st.s 3 = .d (.int .i64 more) ∧ st.s 4 = .d (.int .i64 vars)) ∧ (st.s 10 = .ptr 10 1 0 ∧ st.h 10 = ⟨1, .box [.d (.int .i64 0), .d (.int .i64 0), .fsl 3 []] false⟩) ∧
        (st.s 12 = .d (eTs A) ∧ st.s 15 = .d (.int .i64 c)) ∧ (st.s 76 = .d (eArs C.args) ∧ st.s 77 = .d (.int .i64 C.args.length)) ∧ st.s 78 = .d (.int .i64 i) ∧
        ∃ u, st.s 16 = .rsl 16 u ∧ st.h 16 = ⟨u, .row 3 ((shA (fun x => putT v x first more vars) (shT v first more vars n) (C.args.take i) A).map eT) false⟩) ?_ ?_
      · simp -dsimp [cVw, cBl, eTs, eArs, eCos, shA]
      · rintro i ⟨s, hp'⟩ hi ⟨⟨g0, g2, g3, g4⟩, ⟨g10, k10⟩, ⟨g12, g15⟩, ⟨g76, g77⟩, g78, u, g16, k16⟩
        dsimp only at g0 g2 g3 g4 g10 k10 g12 g15 g76 g77 g78 g16 k16
        simp only [eTs, eArs] at g12 g76
        rcases Nat.lt_or_ge i C.args.length with hlt | hge
        · have w2 : IntKind.i64.wrap ((i : Int) + 1) = (i : Int) + 1 := wrap_id (by omega) (by omega)
          have hltA : i < A.length := by omega
          have hsn1 := hsn i hlt hltA
          have hsl1 := hsl2 i
          rw [List.length_take] at hsl1
          have hPi := hput i hltA
          have hRi := hrec i hlt hltA
          generalize hAr : C.args[i] = Ar_ at *
          generalize hX : A[i] = X at *
          rw [hsn1]
          generalize shA (fun x => putT v x first more vars) (shT v first more vars n) (C.args.take i) A = G at *
          have hgl : G.length ≤ 40 := by omega
          have r1 : (G.length + 1) * 40 ≤ maxRoom := room41 hgl trivial
          have r2 : (G.length + 1 + 1) * 40 ≤ maxRoom := room42 hgl
          simp only [cT] at hPi hRi
          simp -dsimp [g0, g2, g3, g4, g10, k10, g12, g15, g76, g77, g78, g16, k16, hlt, hltA, hAr, hX, eAr, cAr, cT]
          refine call_of hPi ?_
          cases hr : Ar_.rc with
          | false => simp -dsimp [g0, g2, g3, g4, g10, k10, g12, g15, g76, g77, g78, g16, k16, hlt, hltA, hAr, hX, eAr, cAr, cT, hr, r1, w2, eT_eq, eTs, eArs]
          | true =>
            have hRi' := (hRi hr).1
            simp -dsimp [g0, g2, g3, g4, g10, k10, g12, g15, g76, g77, g78, g16, k16, hlt, hltA, hAr, hX, eAr, cAr, cT, hr, r1]
            refine call_of hRi' ?_
            simp -dsimp [g0, g2, g3, g4, g10, k10, g12, g15, g76, g77, g78, g16, k16, hlt, hltA, hAr, hX, eAr, cAr, cT, hr, r1, r2, w2, eT_eq, eTs, eArs]
        · have e : i = C.args.length := by omega
          subst e
          rw [List.take_length] at k16
          simp -dsimp [g0, g2, g3, g4, g10, k10, g12, g15, g76, g77, g78, g16, k16, cVw, cBl, eSos, w1, wv]
          refine call_of hL ?_
          simp -dsimp [g0, g2, g3, g4, g10, k10, g12, g15, g76, g77, g78, g16, k16, cT]
          refine call_of hSp ?_
          simp -dsimp [g10, k10, cT]
end
end Ev
end Go.Proofs.YtjebpfhffenbnaaGreat
