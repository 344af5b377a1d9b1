/- The document's posit: clean terms. -/
import Derived.Test.YtjebpfhffenbnaaGreatW1
import Derived.Test.YtjebpfhffenbnaaGreatV2
namespace Go.Proofs.YtjebpfhffenbnaaGreat
namespace Ev
open Go
set_option maxRecDepth 100000
set_option linter.unusedSimpArgs false
set_option linter.unusedVariables false
section
attribute [local simp] allD_map_d sks_map_d tk tn tks initA EndsM one_sos one_cos one_ars one_ts
/-- A decoder with too few arguments is not clean. -/
theorem unclean {p : Pl} {s : So} {k : Int} : ∀ (n : Nat) (t : T), (spH t).kind = 3 → ofM p.b p.base (spH t).num = (4, k) → p.b.sorts[k.toNat]? = some s → (spA t).length ≤ s.idx.length → nodes t ≤ n → cleanF n p t = false := by
  intro n
  induction n with
  | zero => intro t _ _ _ _ h; have := nodes_pos t; omega
  | succ n ih =>
    intro t h3 ho hs hl hn
    obtain ⟨k0, m, ks⟩ := t
    by_cases hc : k0 = 6 ∧ ∃ a b, ks = [a, b]
    · obtain ⟨rfl, a, b, rfl⟩ := hc
      rw [(sp_two m a b).2] at h3 ho
      rw [(sp_two m a b).1, List.length_cons] at hl
      have hd : decG (cleanF n p) p (.mk 6 m [a, b]) = false := by
        rw [decG, (sp_two m a b).1, (sp_two m a b).2, if_pos h3, ho]
        simp only [if_true, hs]
        rw [if_neg]
        rw [List.length_cons]; omega
      have e : cleanF (n + 1) p (.mk 6 m [a, b]) = allI (fun i x => cleanF n (p.fwd (bindsM 6 i)) x) 0 [a, b] := by
        have e0 : cleanF (n + 1) p (.mk 6 m [a, b]) = if (6 : Int) = 1 then !guardB p (.mk 6 m [a, b]) else if (6 : Int) = 3 then decide ((ofM p.b p.base m).1 = 0) else if (6 : Int) = 6 ∧ decG (cleanF n p) p (.mk 6 m [a, b]) = true then true else allI (fun i x => cleanF n (p.fwd (bindsM 6 i)) x) 0 [a, b] := rfl
        rw [e0, if_neg (by decide), if_neg (by decide), if_neg (by rw [hd]; simp)]
      have hb0 : bindsM 6 ((0 : Nat) : Int) = 0 := rfl
      have hp0 : p.fwd 0 = p := by rw [Pl.fwd, Int.add_zero]
      rw [nodes2] at hn
      rw [e, allI, hb0, hp0, ih a h3 ho hs (by omega) (by omega)]
      rfl
    · rw [(sp_none hc).2] at h3 ho
      have h3' : k0 = 3 := h3
      have ho' : ofM p.b p.base m = (4, k) := ho
      have e0 : cleanF (n + 1) p (.mk k0 m ks) = if k0 = 1 then !guardB p (.mk k0 m ks) else if k0 = 3 then decide ((ofM p.b p.base m).1 = 0) else if k0 = 6 ∧ decG (cleanF n p) p (.mk k0 m ks) = true then true else allI (fun i x => cleanF n (p.fwd (bindsM k0 i)) x) 0 ks := rfl
      rw [e0, if_neg (by omega), if_pos h3', ho']
      rfl
def decD (cl : T → Bool) (p : Pl) (A : List T) : Bool := match A.getLast? with
  | some z => guardB p (spH z) && ((A.dropLast.all cl) && ((spA z).reverse.all cl))
  | none => false
/-- All of a list, told one by one. -/
theorem all_iff' {l : List T} {cl : T → Bool} : l.all cl = true ↔ ∀ (j : Nat) (hj : j < l.length), cl l[j] = true := by
  rw [List.all_eq_true]
  exact ⟨fun h j hj => h _ (List.getElem_mem hj), fun h x hx => by obtain ⟨j, hj, rfl⟩ := List.mem_iff_getElem.1 hx; exact h j hj⟩
set_option maxHeartbeats 1000000 in
theorem decoding7_ok (p : Pl) (h0 : 0 ≤ p.more) (h1 : p.more ≤ 1000000000) (hl : p.args.length ≤ 1000000) (A : List T) (hA : A ≠ []) (hAl : A.length ≤ 1000000) (cl : T → Bool) (ho : ∀ x ∈ A, okT x ∧ formedM x = true ∧ nodes x ≤ 1000000)
    (h : ∀ x, okT x → formedM x = true → (x ∈ A ∨ ∃ z ∈ A, x ∈ spA z) → Pure Tryz.prog n_porismref07_place_clean [.agg (rp p), .agg (cT x)] [.bool (cl x)]) :
    Pure Tryz.prog n_porismref07_place_decoding [.agg (rp p), eTs A] [.bool (decD cl p A)] := by
  obtain ⟨N, hN⟩ : ∃ N, A.length = N + 1 := ⟨A.length - 1, by have := List.length_pos_iff.2 hA; omega⟩
  have hz : N < A.length := by omega
  have hgl : A.getLast? = some A[N] := by rw [List.getLast?_eq_getElem?, hN, Nat.add_sub_cancel, List.getElem?_eq_getElem hz]
  have hdl : A.dropLast = A.take N := by rw [List.dropLast_eq_take, hN, Nat.add_sub_cancel]
  have hD : decD cl p A = (guardB p (spH A[N]) && ((A.take N).all cl && (spA A[N]).reverse.all cl)) := by rw [decD, hgl, hdl]
  generalize hV : decD cl p A = V at *
  have hA1 : ∀ (i : Nat) (hi : i < N), cl A[i] = false → V = false := fun i hi hc => by
    rw [hD]
    have : (A.take N).all cl = false := by
      rw [Bool.eq_false_iff]
      intro h2
      have := all_iff'.1 h2 i (by rw [List.length_take]; omega)
      rw [List.getElem_take, hc] at this
      cases this
    rw [this]; simp
  obtain ⟨z1, z2, z3⟩ := ho _ (List.getElem_mem hz)
  have hsl := spA_lt A[N]
  obtain ⟨oH, oAr⟩ := (spA_mem A[N]).2 z1
  obtain ⟨fH, fAr⟩ := sp_formed2 A[N] z2
  have hU := runspine_own A[N] z1 (by omega)
  have hCx : ∀ (i : Nat) (hi : i < A.length), Pure Tryz.prog n_porismref07_place_clean [.agg (rp p), .agg (cT A[i])] [.bool (cl A[i])] := fun i hi => by
    obtain ⟨x1, x2, x3⟩ := ho _ (List.getElem_mem hi)
    exact h _ x1 x2 (.inl (List.getElem_mem hi))
  have hCz : ∀ x ∈ (spA A[N]).reverse, Pure Tryz.prog n_porismref07_place_clean [.agg (rp p), .agg (cT x)] [.bool (cl x)] := fun x hx => by
    have hx' : x ∈ spA A[N] := by simpa using hx
    exact h x (oAr x hx') (fAr x hx') (.inr ⟨_, List.getElem_mem hz, hx'⟩)
  refine p_porismref07_place_decoding rfl fun hs => ?_
  have w0 : IntKind.i64.wrap ((A.length : Int) - 1) = (N : Int) := by rw [wrap_id (by omega) (by omega)]; omega
  simp -dsimp [x_porismref07_place_decoding, eTs, rp, cBl]
  refine wp_upto N (fun i st => (st.s 2 = .ptr 2 1 0 ∧ st.h 2 = ⟨1, .box [.d (eSos p.b.sorts), .d (eCos p.b.cons), .d (.int .i64 p.b.elim), .d (.int .i64 p.base), .d (.sl 1 ((vrs p).map (.int .i64))), .d (eArs p.args)] false⟩) ∧ st.s 1 = .d (eTs A) ∧ st.s 5 = .d (.int .i64 i) ∧
    ∀ (j : Nat) (hj : j < N), j < i → cl (A[j]'(by omega)) = true) ?_ ?_
  · simp -dsimp [eTs]
  · rintro i ⟨s, hp⟩ hi ⟨⟨g2, k2⟩, g1, g5, g⟩
    dsimp only at g2 k2 g1 g5
    simp only [eTs] at g1
    rcases Nat.lt_or_ge i N with hlt | hge
    · have w1 : IntKind.i64.wrap ((i : Int) + 1) = (i : Int) + 1 := wrap_id (by omega) (by omega)
      have hltA : i < A.length := by omega
      have hC := hCx i hltA
      have hA1i := hA1 i hlt
      have hnx : cl A[i] = true → ∀ (j : Nat) (hj : j < N), j < i + 1 → cl (A[j]'(by omega)) = true := fun h j hj hji => by
        rcases Nat.lt_or_ge j i with h' | h'
        · exact g j hj h'
        · have : j = i := by omega
          subst this
          exact h
      generalize hX : A[i] = X at *
      simp only [rp, cBl, cT, List.cons_append, List.nil_append] at hC
      simp -dsimp [g2, k2, g1, g5, w0, hlt, hltA, hX, cT]
      refine call_of hC ?_
      cases hc : cl X with
      | false =>
        have hv := hA1i hc
        simp -dsimp [g2, k2, g1, g5, hv]
      | true =>
        have hnx' := hnx hc
        simp -dsimp [g2, k2, g1, g5, hlt, w1, eTs]
        exact hnx'
    · have ei : i = N := by omega
      subst ei
      have hall : (A.take i).all cl = true := all_iff'.2 fun j hj => by
        rw [List.getElem_take]
        rw [List.length_take] at hj
        exact g j (by omega) (by omega)
      rw [hall, Bool.true_and] at hD
      have hle : spH A[i] = .mk 1 (spH A[i]).num [] ∨ (spH A[i]).kind ≠ 1 := by
        by_cases hk : (spH A[i]).kind = 1
        · refine .inl ?_
          generalize spH A[i] = H at *
          obtain ⟨k, m, ks⟩ := H
          have hk' : k = 1 := hk
          subst hk'
          rw [var_leaf rfl fH]
          rfl
        · exact .inr hk
      have hZlen : (spA A[i]).reverse.length ≤ 1000000 := by rw [List.length_reverse]; omega
      have hgk : guardB p (spH A[i]) = true → (spH A[i]).kind = 1 := fun h => (guardB_j h).1
      generalize hZ : A[i] = z at *
      generalize hHz : spH z = H at *
      generalize (spA z).reverse = Z at *
      simp only [cT] at hU
      simp -dsimp [g2, k2, g1, g5, w0, hz, hZ, cT]
      refine callO_of hU (by simp [rowsV, rowsC, RV.cells]) ?_
      by_cases hk : H.kind = 1
      case neg =>
        have hv : V = false := by
          rw [hD]
          have : guardB p H = false := by rw [Bool.eq_false_iff]; intro h; exact hk (hgk h)
          rw [this]; rfl
        simp -dsimp [g2, k2, g1, g5, hk, hv]
      have hHe := hle.resolve_right (fun h => h hk)
      have hn0 : 0 ≤ H.num := by
        rw [hHe] at fH
        exact (var_formed rfl fH).1
      have hG := guarded7_ok p H.num hn0 h0 h1 hl
      obtain ⟨gn1, gn2⟩ := grd_neg p H.num
      rw [← hHe] at gn1 gn2
      simp only [rp, cBl, List.cons_append, List.nil_append] at hG
      simp -dsimp [g2, k2, g1, g5, hk]
      refine call_of hG ?_
      by_cases hg : guardB p H = true
      case neg =>
        have hg' : guardB p H = false := by simpa using hg
        have hlt0 := gn1.2 hg'
        have hv : V = false := by rw [hD, hg']; rfl
        simp -dsimp [g2, k2, g1, g5, hk, hlt0, hv]
      have hge0 : ¬ grd p H.num < 0 := fun h => by rw [gn1.1 h] at hg; cases hg
      have hZl : ∀ (j : Nat) (hj : j < Z.length), Pure Tryz.prog n_porismref07_place_clean [.agg (rp p), .agg (cT Z[j])] [.bool (cl Z[j])] := fun j hj => hCz _ (List.getElem_mem hj)
      rw [hg, Bool.true_and] at hD
      have hB2 : ∀ (j : Nat) (hj : j < Z.length), cl Z[j] = false → V = false := fun j hj hc => by
        rw [hD, Bool.eq_false_iff]
        intro h2
        have := all_iff'.1 h2 j hj
        rw [hc] at this
        cases this
      have hZle : Z.length ≤ 1000000 := hZlen
      simp -dsimp [g2, k2, g1, g5, hk, hge0]
      refine wp_upto Z.length (fun j st => (st.s 2 = .ptr 2 1 0 ∧ st.h 2 = ⟨1, .box [.d (eSos p.b.sorts), .d (eCos p.b.cons), .d (.int .i64 p.b.elim), .d (.int .i64 p.base), .d (.sl 1 ((vrs p).map (.int .i64))), .d (eArs p.args)] false⟩) ∧
        (st.s 7 = .rsl 30 ((hp 30).ver + 1) ∧ st.h 30 = ⟨(hp 30).ver + 1, .row 3 (Z.map eT) false⟩) ∧ st.s 8 = .d (.int .i64 j) ∧ ∀ (m : Nat) (hm : m < Z.length), m < j → cl Z[m] = true) ?_ ?_
      · simp -dsimp [g2, k2, g1, g5]
      · clear g2 k2 g1 g5
        rintro j ⟨s, hq⟩ hj ⟨⟨g2, k2⟩, ⟨g7, k30⟩, g8, gz⟩
        dsimp only at g2 k2 g7 k30 g8
        rcases Nat.lt_or_ge j Z.length with hlt2 | hge2
        · have w1 : IntKind.i64.wrap ((j : Int) + 1) = (j : Int) + 1 := wrap_id (by omega) (by omega)
          have hC := hZl j hlt2
          have hB2j := hB2 j hlt2
          have hnx : cl Z[j] = true → ∀ (m : Nat) (hm : m < Z.length), m < j + 1 → cl Z[m] = true := fun h m hm hmj => by
            rcases Nat.lt_or_ge m j with h' | h'
            · exact gz m hm h'
            · have : m = j := by omega
              subst this
              exact h
          generalize hY : Z[j] = Y at *
          simp only [rp, cBl, cT, List.cons_append, List.nil_append] at hC
          simp -dsimp [g2, k2, g7, k30, g8, hlt2, hY, cT]
          refine call_of hC ?_
          cases hc : cl Y with
          | false =>
            have hv := hB2j hc
            simp -dsimp [g2, k2, g7, k30, g8, hv]
          | true =>
            have hnx' := hnx hc
            simp -dsimp [g2, k2, g7, k30, g8, hlt2, w1]
            exact hnx'
        · have ej : j = Z.length := by omega
          subst ej
          have hv : V = true := by rw [hD]; exact all_iff'.2 fun m hm => gz m hm hm
          simp -dsimp [g2, k2, g7, k30, g8, hv]
/-- What the document's place asks. -/
structure Pok (p : Pl) : Prop where
  m0 : 0 ≤ p.more
  al : p.args.length ≤ 1000
  fit : Fit p.b
  si : ∀ s ∈ p.b.sorts, s.idx.length ≤ 20
  ca : ∀ c ∈ p.b.cons, c.args.length ≤ 20
theorem Pok.fwd {p : Pl} (h : Pok p) {n : Int} (hn : 0 ≤ n) : Pok (p.fwd n) := ⟨by have := h.m0; simp only [Pl.fwd]; omega, h.al, h.fit, h.si, h.ca⟩
set_option maxHeartbeats 4000000 in
theorem clean7_ok : ∀ (n : Nat), n ≤ 1000000 → ∀ (p : Pl) (t : T), Pok p → p.more + nodes t ≤ 1000000000 → okT t → formedM t = true → nodes t ≤ n →
    Pure Tryz.prog n_porismref07_place_clean [.agg (rp p), .agg (cT t)] [.bool (cleanF n p t)] := by
  intro n
  induction n with
  | zero => intro _ p t _ _ _ _ h; have := nodes_pos t; omega
  | succ n ih =>
    intro hN p t hp hm ot ft hn
    have h0 := hp.m0
    have hal := hp.al
    have hfs := hp.fit.s
    have hrec : ∀ x, okT x → formedM x = true → nodes x < nodes t → Pure Tryz.prog n_porismref07_place_clean [.agg (rp p), .agg (cT x)] [.bool (cleanF n p x)] := fun x ox fx hx => ih (by omega) p x hp (by omega) ox fx (by omega)
    have hkl := kids_len ot
    have hO := of7_ok p.b hp.fit p.base t.num ot.num64
    obtain ⟨oH, oA⟩ := (spA_mem t).2 ot
    have mA := (spA_mem t).1
    obtain ⟨fH, fA⟩ := sp_formed2 t ft
    have hO2 := of7_ok p.b hp.fit p.base (spH t).num oH.num64
    have hsl := spA_lt t
    have hU := runspine_own t ot (by omega)
    generalize hV0 : cleanF (n + 1) p t = V0
    by_cases c1 : t.kind = 1
    · have hn0 : 0 ≤ t.num := by obtain ⟨k, m, ks⟩ := t; exact (var_formed c1 ft).1
      have hG := guarded7_ok p t.num hn0 h0 (by omega) (by omega)
      have hte : t = .mk 1 t.num [] := by
        obtain ⟨k, m, ks⟩ := t
        have c1' : k = 1 := c1
        subst c1'
        rw [var_leaf rfl ft]; rfl
      obtain ⟨gn1, _⟩ := grd_neg p t.num
      rw [← hte] at gn1
      have hv : V0 = decide (grd p t.num < 0) := by
        rw [← hV0, cleanF, if_pos c1, Bool.eq_iff_iff, Bool.not_eq_true', decide_eq_true_eq]
        exact gn1.symm
      rw [hv]
      refine p_porismref07_place_clean rfl fun hs => ?_
      simp only [rp, cBl, List.cons_append, List.nil_append] at hG
      simp -dsimp [x_porismref07_place_clean, rp, cBl, cT, c1]
      refine call_of hG ?_
      simp -dsimp [c1]
    by_cases c3 : t.kind = 3
    · have hv : V0 = decide ((ofM p.b p.base t.num).1 = 0) := by rw [← hV0, cleanF, if_neg c1, if_pos c3]
      rw [hv]
      refine p_porismref07_place_clean rfl fun hs => ?_
      simp only [eBl, cBl] at hO
      simp -dsimp [x_porismref07_place_clean, rp, cBl, cT, c1, c3]
      refine call_of hO ?_
      simp -dsimp [c1, c3]
    have hkid : ∀ (i : Nat) (hi : i < t.kids.length), Pure Tryz.prog n_porismref01_Binds [.int .i64 t.kind, .int .i64 i] [.int .i64 (bindsM t.kind i)] ∧ Pure Tryz.prog n_porismref07_place_more [.agg (rp p), .int .i64 (bindsM t.kind i)] [.agg (rp (p.fwd (bindsM t.kind i)))] ∧
        Pure Tryz.prog n_porismref07_place_clean [.agg (rp (p.fwd (bindsM t.kind i))), .agg (cT t.kids[i])] [.bool (cleanF n (p.fwd (bindsM t.kind i)) t.kids[i])] := fun i hi => by
      have hbl := binds_le t.kind i
      have hkn := kid_nodes t (List.getElem_mem hi)
      have hM := more7_ok p (bindsM t.kind i).toNat (by omega) h0 (by omega) (by omega)
      rw [show (((bindsM t.kind i).toNat : Nat) : Int) = bindsM t.kind i by omega] at hM
      have fk : formedM t.kids[i] = true := by obtain ⟨k, m, ks⟩ := t; exact kids_formed ft _ (List.getElem_mem hi)
      exact ⟨rbinds_ok _ _, hM, ih (by omega) _ _ (hp.fwd (by omega)) (by simp only [Pl.fwd]; omega) (kid_ok ot (List.getElem_mem hi)) fk (by omega)⟩
    -- the last way: all Kids
    have hkids : (¬ decG (cleanF n p) p t = true) → V0 = allI (fun i x => cleanF n (p.fwd (bindsM t.kind i)) x) 0 t.kids := fun h => by
      rw [← hV0, cleanF, if_neg c1, if_neg c3, if_neg (fun h' => h h'.2)]
    have hdec : ∀ k s, (spH t).kind = 3 → ofM p.b p.base (spH t).num = (4, k) → p.b.sorts[k.toNat]? = some s → (spA t).length = s.idx.length + 1 → V0 = decD (cleanF n p) p (spA t).reverse := fun k s h3 ho hs hll => by
      have hd : decG (cleanF n p) p t = decD (cleanF n p) p (spA t).reverse := by
        rw [decG, if_pos h3, ho]
        simp only [if_true, hs]
        rw [if_pos (by omega), decD]
        rfl
      by_cases hg : decG (cleanF n p) p t = true
      · have h6 : t.kind = 6 := by
          obtain ⟨k0, m, ks⟩ := t
          by_cases hc : k0 = 6 ∧ ∃ a b, ks = [a, b]
          · exact hc.1
          · rw [(sp_none hc).1] at hll; simp at hll
        rw [← hV0, cleanF, if_neg c1, if_neg c3, if_pos ⟨h6, hg⟩, ← hd, hg]
      · rw [hkids hg, ← hd]
        have hg' : decG (cleanF n p) p t = false := by simpa using hg
        rw [hg', Bool.eq_false_iff]
        intro hall
        obtain ⟨k0, m, ks⟩ := t
        by_cases hc : k0 = 6 ∧ ∃ a b, ks = [a, b]
        · obtain ⟨rfl, a, b, rfl⟩ := hc
          rw [(sp_two m a b).2] at h3 ho
          rw [(sp_two m a b).1, List.length_cons] at hll
          rw [nodes2] at hn
          have := (allI_iff _ _ _).1 hall 0 (by simp [T.kids])
          have hp0 : p.fwd 0 = p := by rw [Pl.fwd, Int.add_zero]
          rw [show bindsM (T.mk 6 m [a, b]).kind ((0 + 0 : Nat) : Int) = 0 from rfl, hp0] at this
          have e : (T.mk 6 m [a, b]).kids[0] = a := rfl
          rw [e, unclean n a h3 ho hs (by omega) (by omega)] at this
          cases this
        · rw [(sp_none hc).1] at hll; simp at hll
    by_cases d3 : (spH t).kind = 3
    case neg =>
      have hV := hkids (by rw [decG, if_neg d3]; simp)
      generalize V0 = V at hV ⊢
      refine p_porismref07_place_clean rfl fun hs => ?_
      simp only [cT] at hU
      simp -dsimp [x_porismref07_place_clean, rp, cBl, cT, c1, c3]
      refine callO_of hU (by simp [rowsV, rowsC, RV.cells]) ?_
      simp -dsimp [d3]
      refine wp_upto t.kids.length (fun i st => (st.s 2 = .ptr 2 1 0 ∧ st.h 2 = ⟨1, .box [.d (eSos p.b.sorts), .d (eCos p.b.cons), .d (.int .i64 p.b.elim), .d (.int .i64 p.base), .d (.sl 1 ((vrs p).map (.int .i64))), .d (eArs p.args)] false⟩) ∧
        (st.s 3 = .ptr 3 1 0 ∧ st.h 3 = ⟨1, .box [.d (.int .i64 t.kind), .d (.int .i64 t.num), .d (.sl 3 (t.kids.map eT))] false⟩) ∧ st.s 11 = .d (.int .i64 i) ∧ ∀ (j : Nat) (hj : j < t.kids.length), j < i → cleanF n (p.fwd (bindsM t.kind j)) t.kids[j] = true) ?_ ?_
      · simp -dsimp []
      · rintro i ⟨s, hp⟩ hi ⟨⟨g2, k2⟩, ⟨g3, k3⟩, g11, g⟩
        dsimp only at g2 k2 g3 k3 g11
        rcases Nat.lt_or_ge i t.kids.length with hlt | hge
        · have w1 : IntKind.i64.wrap ((i : Int) + 1) = (i : Int) + 1 := wrap_id (by omega) (by omega)
          obtain ⟨hB, hMo, hI⟩ := hkid i hlt
          have hnx : cleanF n (p.fwd (bindsM t.kind i)) t.kids[i] = true → ∀ (j : Nat) (hj : j < t.kids.length), j < i + 1 → cleanF n (p.fwd (bindsM t.kind j)) t.kids[j] = true := fun h j hj hji => by
            rcases Nat.lt_or_ge j i with h' | h'
            · exact g j hj h'
            · have : j = i := by omega
              subst this
              exact h
          have hbad : cleanF n (p.fwd (bindsM t.kind i)) t.kids[i] = false → V = false := fun h => by
            rw [hV, Bool.eq_false_iff]
            intro h2
            have := (allI_iff _ _ _).1 h2 i hlt
            rw [Nat.zero_add, h] at this
            cases this
          generalize cleanF n (p.fwd (bindsM t.kind i)) t.kids[i] = Z at *
          generalize hX : t.kids[i] = X at *
          generalize rp (p.fwd (bindsM t.kind i)) = RP at *
          simp only [rp, cBl, cT, List.cons_append, List.nil_append] at hMo hI
          simp -dsimp [g2, k2, g3, k3, g11, hlt, hX, cT]
          refine call_of hB ?_
          simp -dsimp [g2, k2, g3, k3, g11, hlt, hX, cT]
          refine call_of hMo ?_
          simp -dsimp [g2, k2, g3, k3, g11, hlt, hX, cT]
          refine call_of hI ?_
          cases Z with
          | false =>
            have := hbad rfl
            simp -dsimp [g2, k2, g3, k3, g11, this]
          | true =>
            have hnx' := hnx rfl
            simp -dsimp [g2, k2, g3, k3, g11, hlt, w1]
            exact hnx'
        · have e : i = t.kids.length := by omega
          subst e
          have hv : V = true := by rw [hV]; exact (allI_iff _ _ _).2 fun j hj => by rw [Nat.zero_add]; exact g j hj hj
          simp -dsimp [g2, k2, g3, k3, g11, hv]
    by_cases dl : (spA t).length = 0
    case pos =>
      have hV := hkids (by
        rw [decG, if_pos d3]
        intro h
        split at h
        · split at h
          · split at h
            · omega
            · cases h
          · cases h
        · cases h)
      have dl' : spA t = [] := List.length_eq_zero_iff.1 dl
      generalize V0 = V at hV ⊢
      refine p_porismref07_place_clean rfl fun hs => ?_
      simp only [cT, dl', List.reverse_nil, List.map_nil] at hU
      simp -dsimp [x_porismref07_place_clean, rp, cBl, cT, c1, c3]
      refine callO_of hU (by simp [rowsV, rowsC, RV.cells]) ?_
      simp -dsimp [d3]
      refine wp_upto t.kids.length (fun i st => (st.s 2 = .ptr 2 1 0 ∧ st.h 2 = ⟨1, .box [.d (eSos p.b.sorts), .d (eCos p.b.cons), .d (.int .i64 p.b.elim), .d (.int .i64 p.base), .d (.sl 1 ((vrs p).map (.int .i64))), .d (eArs p.args)] false⟩) ∧
        (st.s 3 = .ptr 3 1 0 ∧ st.h 3 = ⟨1, .box [.d (.int .i64 t.kind), .d (.int .i64 t.num), .d (.sl 3 (t.kids.map eT))] false⟩) ∧ st.s 11 = .d (.int .i64 i) ∧ ∀ (j : Nat) (hj : j < t.kids.length), j < i → cleanF n (p.fwd (bindsM t.kind j)) t.kids[j] = true) ?_ ?_
      · simp -dsimp []
      · rintro i ⟨s, hp⟩ hi ⟨⟨g2, k2⟩, ⟨g3, k3⟩, g11, g⟩
        dsimp only at g2 k2 g3 k3 g11
        rcases Nat.lt_or_ge i t.kids.length with hlt | hge
        · have w1 : IntKind.i64.wrap ((i : Int) + 1) = (i : Int) + 1 := wrap_id (by omega) (by omega)
          obtain ⟨hB, hMo, hI⟩ := hkid i hlt
          have hnx : cleanF n (p.fwd (bindsM t.kind i)) t.kids[i] = true → ∀ (j : Nat) (hj : j < t.kids.length), j < i + 1 → cleanF n (p.fwd (bindsM t.kind j)) t.kids[j] = true := fun h j hj hji => by
            rcases Nat.lt_or_ge j i with h' | h'
            · exact g j hj h'
            · have : j = i := by omega
              subst this
              exact h
          have hbad : cleanF n (p.fwd (bindsM t.kind i)) t.kids[i] = false → V = false := fun h => by
            rw [hV, Bool.eq_false_iff]
            intro h2
            have := (allI_iff _ _ _).1 h2 i hlt
            rw [Nat.zero_add, h] at this
            cases this
          generalize cleanF n (p.fwd (bindsM t.kind i)) t.kids[i] = Z at *
          generalize hX : t.kids[i] = X at *
          generalize rp (p.fwd (bindsM t.kind i)) = RP at *
          simp only [rp, cBl, cT, List.cons_append, List.nil_append] at hMo hI
          simp -dsimp [g2, k2, g3, k3, g11, hlt, hX, cT]
          refine call_of hB ?_
          simp -dsimp [g2, k2, g3, k3, g11, hlt, hX, cT]
          refine call_of hMo ?_
          simp -dsimp [g2, k2, g3, k3, g11, hlt, hX, cT]
          refine call_of hI ?_
          cases Z with
          | false =>
            have := hbad rfl
            simp -dsimp [g2, k2, g3, k3, g11, this]
          | true =>
            have hnx' := hnx rfl
            simp -dsimp [g2, k2, g3, k3, g11, hlt, w1]
            exact hnx'
        · have e : i = t.kids.length := by omega
          subst e
          have hv : V = true := by rw [hV]; exact (allI_iff _ _ _).2 fun j hj => by rw [Nat.zero_add]; exact g j hj hj
          simp -dsimp [g2, k2, g3, k3, g11, hv]
    have dl0 : ¬ spA t = [] := fun h => dl (by rw [h]; rfl)
    have dl1 : 0 < (spA t).length := by omega
    by_cases d4 : (ofM p.b p.base (spH t).num).1 = 4
    case neg =>
      have hV := hkids (by rw [decG, if_pos d3, if_neg d4]; simp)
      generalize V0 = V at hV ⊢
      generalize ofM p.b p.base (spH t).num = o at *
      refine p_porismref07_place_clean rfl fun hs => ?_
      simp only [cT] at hU
      simp only [eBl, cBl] at hO2
      simp -dsimp [x_porismref07_place_clean, rp, cBl, cT, c1, c3]
      refine callO_of hU (by simp [rowsV, rowsC, RV.cells]) ?_
      simp -dsimp [d3, dl0, dl1]
      refine call_of hO2 ?_
      simp -dsimp [d4]
      refine wp_upto t.kids.length (fun i st => (st.s 2 = .ptr 2 1 0 ∧ st.h 2 = ⟨1, .box [.d (eSos p.b.sorts), .d (eCos p.b.cons), .d (.int .i64 p.b.elim), .d (.int .i64 p.base), .d (.sl 1 ((vrs p).map (.int .i64))), .d (eArs p.args)] false⟩) ∧
        (st.s 3 = .ptr 3 1 0 ∧ st.h 3 = ⟨1, .box [.d (.int .i64 t.kind), .d (.int .i64 t.num), .d (.sl 3 (t.kids.map eT))] false⟩) ∧ st.s 11 = .d (.int .i64 i) ∧ ∀ (j : Nat) (hj : j < t.kids.length), j < i → cleanF n (p.fwd (bindsM t.kind j)) t.kids[j] = true) ?_ ?_
      · simp -dsimp []
      · rintro i ⟨s, hp⟩ hi ⟨⟨g2, k2⟩, ⟨g3, k3⟩, g11, g⟩
        dsimp only at g2 k2 g3 k3 g11
        rcases Nat.lt_or_ge i t.kids.length with hlt | hge
        · have w1 : IntKind.i64.wrap ((i : Int) + 1) = (i : Int) + 1 := wrap_id (by omega) (by omega)
          obtain ⟨hB, hMo, hI⟩ := hkid i hlt
          have hnx : cleanF n (p.fwd (bindsM t.kind i)) t.kids[i] = true → ∀ (j : Nat) (hj : j < t.kids.length), j < i + 1 → cleanF n (p.fwd (bindsM t.kind j)) t.kids[j] = true := fun h j hj hji => by
            rcases Nat.lt_or_ge j i with h' | h'
            · exact g j hj h'
            · have : j = i := by omega
              subst this
              exact h
          have hbad : cleanF n (p.fwd (bindsM t.kind i)) t.kids[i] = false → V = false := fun h => by
            rw [hV, Bool.eq_false_iff]
            intro h2
            have := (allI_iff _ _ _).1 h2 i hlt
            rw [Nat.zero_add, h] at this
            cases this
          generalize cleanF n (p.fwd (bindsM t.kind i)) t.kids[i] = Z at *
          generalize hX : t.kids[i] = X at *
          generalize rp (p.fwd (bindsM t.kind i)) = RP at *
          simp only [rp, cBl, cT, List.cons_append, List.nil_append] at hMo hI
          simp -dsimp [g2, k2, g3, k3, g11, hlt, hX, cT]
          refine call_of hB ?_
          simp -dsimp [g2, k2, g3, k3, g11, hlt, hX, cT]
          refine call_of hMo ?_
          simp -dsimp [g2, k2, g3, k3, g11, hlt, hX, cT]
          refine call_of hI ?_
          cases Z with
          | false =>
            have := hbad rfl
            simp -dsimp [g2, k2, g3, k3, g11, this]
          | true =>
            have hnx' := hnx rfl
            simp -dsimp [g2, k2, g3, k3, g11, hlt, w1]
            exact hnx'
        · have e : i = t.kids.length := by omega
          subst e
          have hv : V = true := by rw [hV]; exact (allI_iff _ _ _).2 fun j hj => by rw [Nat.zero_add]; exact g j hj hj
          simp -dsimp [g2, k2, g3, k3, g11, hv]
    obtain ⟨k, k1, k2, k3⟩ := of_four d4
    have hget : p.b.sorts[k]? = some p.b.sorts[k] := List.getElem?_eq_getElem k1
    have hsil := hp.si _ (List.getElem_mem k1)
    have w3 : IntKind.i64.wrap ((p.b.sorts[k].idx.length : Int) + 1) = p.b.sorts[k].idx.length + 1 := wrap_id (by omega) (by omega)
    by_cases d5 : (spA t).length = p.b.sorts[k].idx.length + 1
    case neg =>
      have hV := hkids (by
        rw [decG, if_pos d3, k3]
        simp only [if_true, Int.toNat_natCast, hget]
        rw [if_neg (by omega)]; simp)
      have d5' : ¬ ((spA t).length : Int) = p.b.sorts[k].idx.length + 1 := by omega
      rw [k3] at hO2
      generalize V0 = V at hV ⊢
      generalize hSk : p.b.sorts[k] = S at *
      refine p_porismref07_place_clean rfl fun hs => ?_
      simp only [cT] at hU
      simp only [eBl, cBl] at hO2
      simp -dsimp [x_porismref07_place_clean, rp, cBl, cT, c1, c3]
      refine callO_of hU (by simp [rowsV, rowsC, RV.cells]) ?_
      simp -dsimp [d3, dl0, dl1]
      refine call_of hO2 ?_
      simp -dsimp [k1, hget, hSk, eSos, eSo, cSo, cT, eArs, w3, d5']
      refine wp_upto t.kids.length (fun i st => (st.s 2 = .ptr 2 1 0 ∧ st.h 2 = ⟨1, .box [.d (eSos p.b.sorts), .d (eCos p.b.cons), .d (.int .i64 p.b.elim), .d (.int .i64 p.base), .d (.sl 1 ((vrs p).map (.int .i64))), .d (eArs p.args)] false⟩) ∧
        (st.s 3 = .ptr 3 1 0 ∧ st.h 3 = ⟨1, .box [.d (.int .i64 t.kind), .d (.int .i64 t.num), .d (.sl 3 (t.kids.map eT))] false⟩) ∧ st.s 11 = .d (.int .i64 i) ∧ ∀ (j : Nat) (hj : j < t.kids.length), j < i → cleanF n (p.fwd (bindsM t.kind j)) t.kids[j] = true) ?_ ?_
      · simp -dsimp [eSos, eArs]
      · rintro i ⟨s, hp⟩ hi ⟨⟨g2, k2⟩, ⟨g3, k3⟩, g11, g⟩
        dsimp only at g2 k2 g3 k3 g11
        rcases Nat.lt_or_ge i t.kids.length with hlt | hge
        · have w1 : IntKind.i64.wrap ((i : Int) + 1) = (i : Int) + 1 := wrap_id (by omega) (by omega)
          obtain ⟨hB, hMo, hI⟩ := hkid i hlt
          have hnx : cleanF n (p.fwd (bindsM t.kind i)) t.kids[i] = true → ∀ (j : Nat) (hj : j < t.kids.length), j < i + 1 → cleanF n (p.fwd (bindsM t.kind j)) t.kids[j] = true := fun h j hj hji => by
            rcases Nat.lt_or_ge j i with h' | h'
            · exact g j hj h'
            · have : j = i := by omega
              subst this
              exact h
          have hbad : cleanF n (p.fwd (bindsM t.kind i)) t.kids[i] = false → V = false := fun h => by
            rw [hV, Bool.eq_false_iff]
            intro h2
            have := (allI_iff _ _ _).1 h2 i hlt
            rw [Nat.zero_add, h] at this
            cases this
          generalize cleanF n (p.fwd (bindsM t.kind i)) t.kids[i] = Z at *
          generalize hX : t.kids[i] = X at *
          generalize rp (p.fwd (bindsM t.kind i)) = RP at *
          simp only [rp, cBl, cT, List.cons_append, List.nil_append] at hMo hI
          simp -dsimp [g2, k2, g3, k3, g11, hlt, hX, cT]
          refine call_of hB ?_
          simp -dsimp [g2, k2, g3, k3, g11, hlt, hX, cT]
          refine call_of hMo ?_
          simp -dsimp [g2, k2, g3, k3, g11, hlt, hX, cT]
          refine call_of hI ?_
          cases Z with
          | false =>
            have := hbad rfl
            simp -dsimp [g2, k2, g3, k3, g11, this]
          | true =>
            have hnx' := hnx rfl
            simp -dsimp [g2, k2, g3, k3, g11, hlt, w1]
            exact hnx'
        · have e : i = t.kids.length := by omega
          subst e
          have hv : V = true := by rw [hV]; exact (allI_iff _ _ _).2 fun j hj => by rw [Nat.zero_add]; exact g j hj hj
          simp -dsimp [g2, k2, g3, k3, g11, hv]
    have hV := hdec k _ d3 k3 (by rw [Int.toNat_natCast]; exact hget) d5
    have d5' : ((spA t).length : Int) = p.b.sorts[k].idx.length + 1 := by omega
    have hDe := decoding7_ok p h0 (by omega) (by omega) (spA t).reverse (by simpa using dl0) (by rw [List.length_reverse]; omega) (cleanF n p) (fun x hx => by
      have hx' : x ∈ spA t := by simpa using hx
      exact ⟨oA x hx', fA x hx', by have := mA x hx'; omega⟩) (fun x ox fx hx => by
      refine hrec x ox fx ?_
      rcases hx with hx | ⟨z, hz, hx⟩
      · exact mA x (by simpa using hx)
      · have := mA z (by simpa using hz)
        have := (spA_mem z).1 x hx
        omega)
    rw [← hV] at hDe
    rw [k3] at hO2
    generalize hSk : p.b.sorts[k] = S at *
    refine p_porismref07_place_clean rfl fun hs => ?_
    simp only [cT] at hU
    simp only [eBl, cBl] at hO2
    simp only [rp, cBl, eTs, List.cons_append, List.nil_append] at hDe
    simp -dsimp [x_porismref07_place_clean, rp, cBl, cT, c1, c3]
    refine callO_of hU (by simp [rowsV, rowsC, RV.cells]) ?_
    simp -dsimp [d3, dl0, dl1]
    refine call_of hO2 ?_
    simp -dsimp [k1, hget, hSk, eSos, eSo, cSo, cT, eArs, w3, d5']
    simp only [eSos, eArs, List.map_reverse] at hDe
    refine call_of hDe ?_
    simp -dsimp
end
end Ev
end Go.Proofs.YtjebpfhffenbnaaGreat
