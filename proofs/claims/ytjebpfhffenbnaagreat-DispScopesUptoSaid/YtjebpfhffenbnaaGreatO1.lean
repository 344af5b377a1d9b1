/- posit: places, guarded variables, clean terms. -/
import Derived.Test.YtjebpfhffenbnaaGreatH3
import Derived.Test.YtjebpfhffenbnaaGreatXd
namespace Go.Proofs.YtjebpfhffenbnaaGreat
namespace Ev
open Go
set_option maxRecDepth 100000
set_option linter.unusedSimpArgs false
set_option linter.unusedVariables false
section
attribute [local simp] allD_map_d sks_map_d tk tn tks initA EndsM one_sos one_cos one_ars one_ts
structure Pl where
  b : Bl
  base : Int
  args : List Ar
  more : Int
def cPl (p : Pl) : List D := cBl p.b ++ [.int .i64 p.base, eArs p.args, .int .i64 p.more]
def Pl.fwd (p : Pl) (n : Int) : Pl := ⟨p.b, p.base, p.args, p.more + n⟩
theorem pin_ok (p : Pl) (n : Int) (h0 : 0 ≤ p.more) (h1 : p.more ≤ 1000000000) (h2 : 0 ≤ n) (h3 : n ≤ 1000000) : Pure Tryz.prog n_posit_place_in [.agg (cPl p), .int .i64 n] [.agg (cPl (p.fwd n))] := by
  refine p_posit_place_in rfl fun hs => ?_
  have w1 : IntKind.i64.wrap (p.more + n) = p.more + n := wrap_id (by omega) (by omega)
  simp -dsimp [x_posit_place_in, cPl, cBl, Pl.fwd, w1]
/-- Which argument a variable is. -/
def guardJ (p : Pl) (t : T) : Option Nat := if t.kind = 1 ∧ p.more ≤ t.num ∧ t.num - p.more < p.args.length then some (p.args.length - 1 - (t.num - p.more).toNat) else none
def guardB (p : Pl) (t : T) : Bool := match guardJ p t with
  | some j => match p.args[j]? with
    | some a => a.rc
    | none => false
  | none => false
def guardN (p : Pl) (t : T) : Int := match guardJ p t with
  | some j => j
  | none => 0
theorem guarded_ok (p : Pl) (t : T) (h0 : 0 ≤ p.more) (h1 : p.more ≤ 1000000000) (hl : p.args.length ≤ 1000000) (hn : n64 t.num) : Pure Tryz.prog n_posit_place_guarded [.agg (cPl p), .agg (cT t)] [.int .i64 (guardN p t), .bool (guardB p t)] := by
  refine p_posit_place_guarded rfl fun hs => ?_
  obtain ⟨n0, n1⟩ := hn
  simp -dsimp [x_posit_place_guarded, cPl, cBl, cT, eArs]
  by_cases c1 : t.kind = 1
  case neg =>
    have hJ : guardJ p t = none := by rw [guardJ, if_neg (fun h => c1 h.1)]
    simp -dsimp [c1, guardN, guardB, hJ]
  by_cases c2 : t.num < p.more
  · have hJ : guardJ p t = none := by rw [guardJ, if_neg (fun h => by omega)]
    simp -dsimp [c1, c2, guardN, guardB, hJ]
  have w1 : IntKind.i64.wrap ((p.args.length : Int) - 1) = (p.args.length : Int) - 1 := wrap_id (by omega) (by omega)
  have w2 : IntKind.i64.wrap (t.num - p.more) = t.num - p.more := wrap_id (by omega) (by omega)
  have w3 : IntKind.i64.wrap ((p.args.length : Int) - 1 - (t.num - p.more)) = (p.args.length : Int) - 1 - (t.num - p.more) := wrap_id (by omega) (by omega)
  by_cases c3 : (p.args.length : Int) - 1 - (t.num - p.more) < 0
  · have hJ : guardJ p t = none := by rw [guardJ, if_neg (fun h => by omega)]
    simp -dsimp [c1, c2, c3, w1, w2, w3, guardN, guardB, hJ]
  · have hJ : guardJ p t = some (p.args.length - 1 - (t.num - p.more).toNat) := by rw [guardJ, if_pos ⟨c1, by omega, by omega⟩]
    have hj : (p.args.length : Int) - 1 - (t.num - p.more) = ((p.args.length - 1 - (t.num - p.more).toNat : Nat) : Int) := by omega
    have hlt : p.args.length - 1 - (t.num - p.more).toNat < p.args.length := by omega
    rw [hj] at w3 c3
    generalize p.args.length - 1 - (t.num - p.more).toNat = j at *
    have hge : p.args[j]? = some p.args[j] := List.getElem?_eq_getElem hlt
    generalize hA : p.args[j] = A at *
    simp -dsimp [c1, c2, c3, w1, w2, w3, hj, guardN, guardB, hJ, hlt, hge, hA, eAr, cAr, cT]
/-- Is it a decoding, and all in it clean? -/
def decG (cl : T → Bool) (p : Pl) (t : T) : Bool := if (spH t).kind = 3 then if (ofM p.b p.base (spH t).num).1 = 4 then match p.b.sorts[(ofM p.b p.base (spH t).num).2.toNat]? with
      | some s => if ((spA t).length : Int) = s.idx.length + 1 then
          (match (spA t).reverse.getLast? with
          | some z => guardB p (spH z) && (((spA t).reverse.dropLast.all cl) && ((spA z).reverse.all cl))
          | none => false) else false
      | none => false else false else false
/-- Is it clean? (By fuel: as many as it has nodes.) -/
def cleanF : Nat → Pl → T → Bool
  | 0, _, _ => true
  | n + 1, p, t => if t.kind = 1 then !guardB p t else if t.kind = 3 then decide ((ofM p.b p.base t.num).1 = 0) else if t.kind = 6 ∧ decG (cleanF n p) p t = true then true else allI (fun i x => cleanF n (p.fwd (bindsM t.kind i)) x) 0 t.kids
theorem pall_ok (p : Pl) (l : List T) (cl : T → Bool) (hl : l.length ≤ 1000000) (h : ∀ x ∈ l, Pure Tryz.prog n_posit_place_clean [.agg (cPl p), .agg (cT x)] [.bool (cl x)]) : Pure Tryz.prog n_posit_place_all [.agg (cPl p), eTs l] [.bool (l.all cl)] := by
  refine p_posit_place_all rfl fun hs => ?_
  have hC := containsFunc_Term l n_posit_place_all_1 [.rp (cPl p)] (fun t => !cl t) (fun x hx => by
    refine p_posit_place_all_1 rfl fun hs => ?_
    have hx' := h x hx
    simp only [cPl, cBl, cT, List.cons_append, List.nil_append] at hx'
    simp -dsimp [x_posit_place_all_1, cPl, cBl, cT]
    refine call_of hx' ?_
    simp -dsimp)
  simp only [cPl, cBl, eTs, List.cons_append, List.nil_append] at hC
  simp -dsimp [x_posit_place_all, cPl, cBl, eTs]
  refine call_of hC ?_
  simp -dsimp
  rw [List.all_eq_not_any_not, Bool.not_not]
theorem of_kind {b : Bl} {base n : Int} (h : (ofM b base n).1 ≠ 0) : 0 ≤ (ofM b base n).2 ∧ ((ofM b base n).1 = 3 ∧ (ofM b base n).2 < b.sorts.length ∨ (ofM b base n).1 = 4 ∧ (ofM b base n).2 < b.sorts.length ∨ (ofM b base n).1 = 5 ∧ (ofM b base n).2 < b.cons.length ∨ (ofM b base n).1 = 6 ∧ (ofM b base n).2 < b.sorts.length) := by
  rw [ofM] at h ⊢
  split at h
  · exact absurd rfl h
  rename_i hc
  rw [if_neg hc]
  cases hs : seek n (tab b base) with
  | none => rw [hs] at h; exact absurd rfl h
  | some q =>
    obtain ⟨e, he, k, hk, _, rfl⟩ := seek_some hs
    simp only [tab, List.mem_cons, List.not_mem_nil, or_false] at he
    rcases he with rfl | rfl | rfl | rfl
    all_goals
      simp only [hs, Option.getD_some]
      first
        | (have hk' : k < b.sorts.length := hk; simp; exact hk')
        | (have hk' : k < b.cons.length := hk; simp; exact hk')
theorem spA_lt (t : T) : (spA t).length ≤ nodes t := by
  refine T.ind (p := fun t => (spA t).length ≤ nodes t) ?_ t
  intro k n ks ih
  by_cases hc : k = 6 ∧ ∃ a b, ks = [a, b]
  · obtain ⟨rfl, a, b, rfl⟩ := hc
    rw [(sp_two n a b).1, List.length_cons, nodes2]
    have := ih a (by simp)
    omega
  · rw [(sp_none hc).1]
    simp
theorem spA_mem (t : T) : (∀ x ∈ spA t, nodes x < nodes t) ∧ (okT t → okT (spH t) ∧ ∀ x ∈ spA t, okT x) := by
  refine T.ind (p := fun t => (∀ x ∈ spA t, nodes x < nodes t) ∧ (okT t → okT (spH t) ∧ ∀ x ∈ spA t, okT x)) ?_ t
  intro k n ks ih
  by_cases hc : k = 6 ∧ ∃ a b, ks = [a, b]
  · obtain ⟨rfl, a, b, rfl⟩ := hc
    obtain ⟨i1, i2⟩ := ih a (by simp)
    rw [(sp_two n a b).1, (sp_two n a b).2, nodes2]
    refine ⟨fun x hx => ?_, fun ho => ?_⟩
    · rcases List.mem_cons.1 hx with rfl | hx
      · omega
      · have := i1 x hx; omega
    · have hk := ho.kids.2
      obtain ⟨j1, j2⟩ := i2 (hk a (by simp))
      refine ⟨j1, fun x hx => ?_⟩
      rcases List.mem_cons.1 hx with rfl | hx
      · exact hk _ (by simp)
      · exact j2 x hx
  · rw [(sp_none hc).1, (sp_none hc).2]
    exact ⟨by simp, fun ho => ⟨ho, by simp⟩⟩
theorem okT.num64 {t : T} (h : okT t) : n64 t.num := by
  cases h with
  | mk k n ks hk hn hl h => exact hn
theorem decodes_ok (p : Pl) (h0 : 0 ≤ p.more) (h1 : p.more ≤ 1000000000) (hl : p.args.length ≤ 1000000) (t : T) (ot : okT t) (hn : nodes t ≤ 1000000) (hsl' : ∀ s ∈ p.b.sorts, s.idx.length ≤ 1000000) (cl : T → Bool) (h : ∀ x, okT x → nodes x < nodes t → Pure Tryz.prog n_posit_place_clean [.agg (cPl p), .agg (cT x)] [.bool (cl x)]) :
    Pure Tryz.prog n_posit_place_decodes [.agg (cPl p), .agg (cT t)] [.bool (decG cl p t)] := by
  refine p_posit_place_decodes rfl fun hs => ?_
  have hsl := spA_lt t
  have hS := split_ok t (by omega)
  have hO := of_ok p.b p.base (spH t).num
  obtain ⟨m1, m2⟩ := spA_mem t
  obtain ⟨_, m3⟩ := m2 ot
  have hm : ∀ x ∈ (spA t).reverse, nodes x < nodes t ∧ okT x := fun x hx => ⟨m1 x (by simpa using hx), m3 x (by simpa using hx)⟩
  have hAL : (spA t).length = (spA t).reverse.length := by simp
  have hD : decG cl p t = if (spH t).kind = 3 then if (ofM p.b p.base (spH t).num).1 = 4 then match p.b.sorts[(ofM p.b p.base (spH t).num).2.toNat]? with
      | some s => if ((spA t).reverse.length : Int) = s.idx.length + 1 then
          (match (spA t).reverse.getLast? with
          | some z => guardB p (spH z) && (((spA t).reverse.dropLast.all cl) && ((spA z).reverse.all cl))
          | none => false) else false
      | none => false else false else false := by rw [decG, hAL]
  rw [hAL] at hsl
  clear hAL m1 m2 m3
  rw [hD]
  clear hD
  simp only [cPl, cBl, eBl, cT, eTs, List.cons_append, List.nil_append] at hS hO h
  generalize (spA t).reverse = A at *
  generalize spH t = H at *
  simp -dsimp [x_posit_place_decodes, cPl, cBl, cT]
  refine call_of hS ?_
  by_cases c1 : H.kind = 3
  case neg => simp -dsimp [c1]
  simp -dsimp [c1]
  refine call_of hO ?_
  have hk := of_kind (b := p.b) (base := p.base) (n := H.num)
  generalize hof : ofM p.b p.base H.num = o at *
  by_cases c2 : o.1 = 4
  case neg => simp -dsimp [c1, c2]
  obtain ⟨k0, k1⟩ := hk (by omega)
  have hlt : o.2.toNat < p.b.sorts.length := by omega
  have hget : p.b.sorts[o.2.toNat]? = some p.b.sorts[o.2.toNat] := List.getElem?_eq_getElem hlt
  generalize hS' : p.b.sorts[o.2.toNat] = S at *
  have hsm : S.idx.length ≤ 1000000 := hsl' S (List.mem_of_getElem? hget)
  have w1 : IntKind.i64.wrap ((S.idx.length : Int) + 1) = (S.idx.length : Int) + 1 := wrap_id (by omega) (by omega)
  simp -dsimp [c1, c2, k0, hget, hlt, hS', eSos, eSo, cSo, eArs, cT, w1]
  by_cases c3 : (A.length : Int) = S.idx.length + 1
  case neg => simp -dsimp [c3, c1, c2, hget]
  have hAl : A.length = S.idx.length + 1 := by omega
  have hz : S.idx.length < A.length := by omega
  have hgl : A.getLast? = some A[S.idx.length] := by rw [List.getLast?_eq_getElem?, hAl, Nat.add_sub_cancel, List.getElem?_eq_getElem hz]
  have hdl : A.dropLast = A.take S.idx.length := by rw [List.dropLast_eq_take, hAl, Nat.add_sub_cancel]
  rw [hgl, hdl]
  simp only [c1, c2, hget, c3, if_true]
  obtain ⟨z1, z2⟩ := hm _ (List.getElem_mem hz)
  generalize hZ : A[S.idx.length] = z at *
  obtain ⟨n1, n2⟩ := spA_mem z
  obtain ⟨oH, n3⟩ := n2 z2
  have hSz := split_ok z (by have := spA_lt z; omega)
  have hG := guarded_ok p (spH z) h0 h1 hl oH.num64
  have a1 := pall_ok p (A.take S.idx.length) cl (by rw [List.length_take]; omega) (fun x hx => by have := hm x (List.mem_of_mem_take hx); simpa only [cPl, cBl, cT, List.cons_append, List.nil_append] using h x this.2 this.1)
  have a2 := pall_ok p (spA z).reverse cl (by rw [List.length_reverse]; have := spA_lt z; omega) (fun x hx => by have := n1 x (by simpa using hx); simpa only [cPl, cBl, cT, List.cons_append, List.nil_append] using h x (n3 x (by simpa using hx)) (by omega))
  have hZa : (spA z).all cl = (spA z).reverse.all cl := by simp
  generalize (spA z).reverse = Z at *
  generalize spH z = Hz at *
  simp only [cPl, cBl, cT, eTs, List.cons_append, List.nil_append, List.map_take] at hSz hG a1 a2
  have w2 : IntKind.i64.wrap (S.idx.length : Int) = S.idx.length := wrap_id (by omega) (by omega)
  have hle : (S.idx.length : Int) ≤ A.length := by omega
  simp -dsimp [c3, w2, hz, hZ, eT_eq, cT]
  refine call_of hSz ?_
  simp -dsimp
  refine call_of hG ?_
  cases hgB : guardB p Hz with
  | false => simp -dsimp [c1, c2, hget]
  | true =>
    simp -dsimp [hle]
    refine call_of a1 ?_
    cases h3 : (A.take S.idx.length).all cl with
    | false => simp -dsimp [c1, c2, hget]
    | true =>
      simp -dsimp
      refine call_of a2 ?_
      simp -dsimp [c1, c2, hget, c3, hZa]
theorem nodes_pos (t : T) : 1 ≤ nodes t := by obtain ⟨k, n, ks⟩ := t; rw [nodes]; omega
theorem kid_nodes (t : T) {x : T} (h : x ∈ t.kids) : nodes x + 1 ≤ nodes t := by obtain ⟨k, n, ks⟩ := t; exact nodes_kid h
theorem kid_ok {t x : T} (ot : okT t) (h : x ∈ t.kids) : okT x := by obtain ⟨k, n, ks⟩ := t; exact ot.kids.2 x h
theorem kids_len {t : T} (ot : okT t) : t.kids.length * 40 ≤ 140737488351232 := by obtain ⟨k, n, ks⟩ := t; exact ot.kids.1
theorem clean_ok (n : Nat) (hN : n ≤ 1000000) : ∀ (p : Pl) (t : T), 0 ≤ p.more → p.more + nodes t ≤ 1000000000 → p.args.length ≤ 1000000 → (∀ s ∈ p.b.sorts, s.idx.length ≤ 1000000) → okT t → nodes t ≤ n →
    Pure Tryz.prog n_posit_place_clean [.agg (cPl p), .agg (cT t)] [.bool (cleanF n p t)] := by
  induction n with
  | zero => intro p t _ _ _ _ _ h; have := nodes_pos t; omega
  | succ n ih =>
    intro p t h0 h1 hl hsl ot hn
    have hrec : ∀ x, okT x → nodes x < nodes t → Pure Tryz.prog n_posit_place_clean [.agg (cPl p), .agg (cT x)] [.bool (cleanF n p x)] := fun x ox hx => ih (by omega) p x h0 (by omega) hl hsl ox (by omega)
    have hkl := kids_len ot
    have hG := guarded_ok p t h0 (by omega) hl ot.num64
    have hO := of_ok p.b p.base t.num
    have hDe := decodes_ok p h0 (by omega) hl t ot (by omega) hsl (cleanF n p) hrec
    refine p_posit_place_clean rfl fun hs => ?_
    simp only [cPl, cBl, eBl, cT, List.cons_append, List.nil_append] at hG hO hDe
    simp -dsimp [x_posit_place_clean, cPl, cBl, cT]
    by_cases c1 : t.kind = 1
    · simp -dsimp [c1]
      rw [c1] at hG
      refine call_of hG ?_
      simp -dsimp [cleanF, c1]
    by_cases c3 : t.kind = 3
    · simp -dsimp [c1, c3]
      refine call_of hO ?_
      simp -dsimp [cleanF, c1, c3]
    by_cases c6 : t.kind = 6
    · simp -dsimp [c1, c3, c6]
      rw [c6] at hDe
      refine call_of hDe ?_
      cases hd : decG (cleanF n p) p t with
      | true =>
        have hv : cleanF (n + 1) p t = true := by rw [cleanF, if_neg c1, if_neg c3, if_pos ⟨c6, hd⟩]
        simp -dsimp [hv]
      | false =>
        have hv : cleanF (n + 1) p t = allI (fun i x => cleanF n (p.fwd (bindsM t.kind i)) x) 0 t.kids := by rw [cleanF, if_neg c1, if_neg c3, if_neg (fun h => by rw [hd] at h; cases h.2)]
        simp -dsimp [c1, c3, c6]
        refine wp_upto t.kids.length (fun i st => st.s 2 = .ptr 2 1 0 ∧ st.s 3 = .ptr 3 1 0 ∧ st.s 43 = .d (eTs t.kids) ∧ st.s 44 = .d (.int .i64 t.kids.length) ∧ st.s 45 = .d (.int .i64 i) ∧
          st.h 2 = ⟨1, .box [.d (eSos p.b.sorts), .d (eCos p.b.cons), .d (.int .i64 p.b.elim), .d (.int .i64 p.base), .d (eArs p.args), .d (.int .i64 p.more)] false⟩ ∧
          st.h 3 = ⟨1, .box [.d (.int .i64 t.kind), .d (.int .i64 t.num), .d (.sl 3 (t.kids.map eT))] false⟩ ∧ ∀ (j : Nat) (hj : j < t.kids.length), j < i → cleanF n (p.fwd (bindsM t.kind j)) t.kids[j] = true) ?_ ?_
        · simp -dsimp [eTs, c1, c3, c6]
        · rintro i ⟨s, hp⟩ hi ⟨g2, g3, g43, g44, g45, k2, k3, g⟩
          dsimp only at g2 g3 g43 g44 g45 k2 k3
          simp only [eTs] at g43
          rcases Nat.lt_or_ge i t.kids.length with hlt | hge
          · have w1 : IntKind.i64.wrap ((i : Int) + 1) = (i : Int) + 1 := wrap_id (by omega) (by omega)
            have hbl := binds_le t.kind i
            have hkn := kid_nodes t (List.getElem_mem hlt)
            have hB := binds_ok t.kind i
            have hP := pin_ok p (bindsM t.kind i) h0 (by omega) (by omega) (by omega)
            have hI := ih (by omega) (p.fwd (bindsM t.kind i)) t.kids[i] (by simp only [Pl.fwd]; omega) (by simp only [Pl.fwd]; omega) hl hsl (kid_ok ot (List.getElem_mem hlt)) (by omega)
            have hgi := g
            generalize hX : t.kids[i] = X at *
            simp only [cPl, cBl, cT, Pl.fwd, List.cons_append, List.nil_append] at hP hI
            simp -dsimp [g2, g3, g43, g44, g45, k2, k3, hlt, hX, cT]
            refine call_of hB ?_
            simp -dsimp [g2, g3, g43, g44, g45, k2, k3, hlt, hX, cT]
            refine call_of hP ?_
            simp -dsimp [g2, g3, g43, g44, g45, k2, k3, hlt, hX, cT]
            refine call_of hI ?_
            cases hc : cleanF n (p.fwd (bindsM t.kind i)) X with
            | true =>
              simp only [Pl.fwd] at hc
              simp -dsimp [g2, g3, g43, g44, g45, k2, k3, hlt, hX, cT, hc, w1, eTs]
              intro j hj hji
              rcases Nat.lt_or_ge j i with h' | h'
              · exact g j hj h'
              · have : j = i := by omega
                subst this
                rw [hX]; exact hc
            | false =>
              have hz : allI (fun i x => cleanF n (p.fwd (bindsM t.kind i)) x) 0 t.kids = false := by
                rw [Bool.eq_false_iff]
                intro h
                have := (allI_iff _ _ _).1 h i hlt
                rw [Nat.zero_add, hX, hc] at this
                cases this
              simp only [Pl.fwd] at hc
              rw [hv, hz]
              simp -dsimp [g2, g3, g43, g44, g45, k2, k3, hlt, hX, cT, hc]
          · have e : i = t.kids.length := by omega
            subst e
            have hz : allI (fun i x => cleanF n (p.fwd (bindsM t.kind i)) x) 0 t.kids = true := (allI_iff _ _ _).2 fun j hj => by rw [Nat.zero_add]; exact g j hj hj
            rw [hv, hz]
            simp -dsimp [g2, g3, g43, g44, g45, k2, k3]
    · have hv : cleanF (n + 1) p t = allI (fun i x => cleanF n (p.fwd (bindsM t.kind i)) x) 0 t.kids := by rw [cleanF, if_neg c1, if_neg c3, if_neg (fun h => c6 h.1)]
      simp -dsimp [c1, c3, c6]
      refine wp_upto t.kids.length (fun i st => st.s 2 = .ptr 2 1 0 ∧ st.s 3 = .ptr 3 1 0 ∧ st.s 43 = .d (eTs t.kids) ∧ st.s 44 = .d (.int .i64 t.kids.length) ∧ st.s 45 = .d (.int .i64 i) ∧
        st.h 2 = ⟨1, .box [.d (eSos p.b.sorts), .d (eCos p.b.cons), .d (.int .i64 p.b.elim), .d (.int .i64 p.base), .d (eArs p.args), .d (.int .i64 p.more)] false⟩ ∧
        st.h 3 = ⟨1, .box [.d (.int .i64 t.kind), .d (.int .i64 t.num), .d (.sl 3 (t.kids.map eT))] false⟩ ∧ ∀ (j : Nat) (hj : j < t.kids.length), j < i → cleanF n (p.fwd (bindsM t.kind j)) t.kids[j] = true) ?_ ?_
      · simp -dsimp [eTs, c1, c3, c6]
      · rintro i ⟨s, hp⟩ hi ⟨g2, g3, g43, g44, g45, k2, k3, g⟩
        dsimp only at g2 g3 g43 g44 g45 k2 k3
        simp only [eTs] at g43
        rcases Nat.lt_or_ge i t.kids.length with hlt | hge
        · have w1 : IntKind.i64.wrap ((i : Int) + 1) = (i : Int) + 1 := wrap_id (by omega) (by omega)
          have hbl := binds_le t.kind i
          have hkn := kid_nodes t (List.getElem_mem hlt)
          have hB := binds_ok t.kind i
          have hP := pin_ok p (bindsM t.kind i) h0 (by omega) (by omega) (by omega)
          have hI := ih (by omega) (p.fwd (bindsM t.kind i)) t.kids[i] (by simp only [Pl.fwd]; omega) (by simp only [Pl.fwd]; omega) hl hsl (kid_ok ot (List.getElem_mem hlt)) (by omega)
          have hgi := g
          generalize hX : t.kids[i] = X at *
          simp only [cPl, cBl, cT, Pl.fwd, List.cons_append, List.nil_append] at hP hI
          simp -dsimp [g2, g3, g43, g44, g45, k2, k3, hlt, hX, cT]
          refine call_of hB ?_
          simp -dsimp [g2, g3, g43, g44, g45, k2, k3, hlt, hX, cT]
          refine call_of hP ?_
          simp -dsimp [g2, g3, g43, g44, g45, k2, k3, hlt, hX, cT]
          refine call_of hI ?_
          cases hc : cleanF n (p.fwd (bindsM t.kind i)) X with
          | true =>
            simp only [Pl.fwd] at hc
            simp -dsimp [g2, g3, g43, g44, g45, k2, k3, hlt, hX, cT, hc, w1, eTs]
            intro j hj hji
            rcases Nat.lt_or_ge j i with h' | h'
            · exact g j hj h'
            · have : j = i := by omega
              subst this
              rw [hX]; exact hc
          | false =>
            have hz : allI (fun i x => cleanF n (p.fwd (bindsM t.kind i)) x) 0 t.kids = false := by
              rw [Bool.eq_false_iff]
              intro h
              have := (allI_iff _ _ _).1 h i hlt
              rw [Nat.zero_add, hX, hc] at this
              cases this
            simp only [Pl.fwd] at hc
            rw [hv, hz]
            simp -dsimp [g2, g3, g43, g44, g45, k2, k3, hlt, hX, cT, hc]
        · have e : i = t.kids.length := by omega
          subst e
          have hz : allI (fun i x => cleanF n (p.fwd (bindsM t.kind i)) x) 0 t.kids = true := (allI_iff _ _ _).2 fun j hj => by rw [Nat.zero_add]; exact g j hj hj
          rw [hv, hz]
          simp -dsimp [g2, g3, g43, g44, g45, k2, k3]
end
end Ev
end Go.Proofs.YtjebpfhffenbnaaGreat
