/- CompKnown: the known blocks' answers. -/
import Derived.Test.YtomlkbohcoinoaaK1
import Derived.Test.YtomlkbohcoinoaaC6
namespace Go.Proofs.Ytomlkbohcoinoaa
namespace Ev
open Go
set_option maxRecDepth 100000
set_option linter.unusedSimpArgs false
set_option linter.unusedVariables false
theorem depth2 (k n : Int) (a b : T) : depthN (.mk k n [a, b]) = max (depthN a) (depthN b) + 1 := by
  rw [depthN]; simp [dmax]
theorem app_formed {f a : T} (hf : formedM f = true) (ha : formedM a = true) : formedM (.mk 6 0 [f, a]) = true := formed6 hf ha
theorem mv0 (t : T) (hf : formedM t = true) : ∀ b : Int, 0 ≤ b → b + nodes t ≤ 4194304 → mapT (mv 0) t b = t := by
  refine T.ind (p := fun t => formedM t = true → ∀ b : Int, 0 ≤ b → b + nodes t ≤ 4194304 → mapT (mv 0) t b = t) ?_ t hf
  intro k n ks ih hfm b h0 hb
  rw [mapT]
  by_cases h1 : k = 1
  · have hks := var_leaf h1 hfm
    have hn := var_formed h1 hfm
    subst h1 hks
    rw [if_pos rfl, mv]
    split
    · rw [w64_id (by omega) (by omega), Int.add_zero]
    · rfl
  · rw [if_neg h1]
    congr 1
    refine List.ext_getElem (by rw [mapL_len]) fun j h2 h3 => ?_
    have hbl := binds_le k j
    have hkn := nodes_kid (k := k) (n := n) (List.getElem_mem h3)
    rw [mapL_get _ _ _ _ _ _ h3, Nat.zero_add]
    exact ih ks[j] (List.getElem_mem _) (kids_formed hfm _ (List.getElem_mem _)) _ (by omega) (by omega)
theorem inM_of {t : T} {v : Int} (h0 : 0 ≤ v) (h1 : v ≤ 100) (hn : nodes t ≤ 1000) (hc : checkM t = 0) (hw : wiT t v 65536 = true) : inM t v = true := (scope_is h0 (by omega) (by omega)).2 ⟨hc, hw⟩
theorem tree_check : checkB (treeB 3 4) = 0 := by
  have hA : inM (tC 3) 0 = true := inM_of (by omega) (by omega) (by rw [tC, leaf_nodes]; omega) (leaf_checkM (.inr (.inr rfl)) (lf 3 3 rfl (by omega))) (by simp [tC, wiT])
  have hn : nodes (.mk 6 0 [tC 4, tV 0]) = 3 := by rw [nodes2, tC, tV, leaf_nodes, leaf_nodes]
  have hB : inM (.mk 6 0 [tC 4, tV 0]) 1 = true := by
    refine inM_of (by omega) (by omega) (by omega) ((check_iff2 (by omega)).2 ⟨by omega, ?_, app_formed (lf 3 4 rfl (by omega)) (lf 1 0 rfl (by omega))⟩) ?_
    · have := depth_le (.mk 6 0 [tC 4, tV 0]); omega
    · have b0 : bindsM 6 0 = 0 := rfl
      have b1 : bindsM 6 1 = 0 := rfl
      simp [wiT, wiL, tC, tV, b1]
  rw [checkB_zero]
  refine ⟨by simp [treeB], by simp [treeB], by simp [treeB], by rfl, fun j hj => ?_, fun c hc => ?_⟩
  · have : j = 0 := by simp [treeB] at hj; omega
    subst this
    rfl
  · simp only [treeB, List.mem_singleton] at hc
    subst hc
    have hs : (treeB 3 4).sorts = [⟨[], 0, false, zT⟩] := rfl
    have hz : noneM zT = true := rfl
    have w0 : w64 0 = 0 := rfl
    have w1 : w64 1 = 1 := rfl
    simp [conM, hs, rowM, allI, argM, extA, domM, allM, maybeM, hz, hA, w0, w1, hB]
theorem pi20_facts (c : Int) (hc : 0 ≤ c ∧ c ≤ 65535) : formedM (pi20 c) = true ∧ nodes (pi20 c) = 9 ∧ checkM (pi20 c) = 0 ∧ wiT (pi20 c) 2 65536 = true := by
  have f1 : formedM (tC c) = true := tC_formed hc
  have f2 : ∀ n : Int, 0 ≤ n → n ≤ 65535 → formedM (tV n) = true := fun n h1 h2 => leaf_formed (.inl rfl) ⟨h1, h2⟩
  have hf : formedM (pi20 c) = true := by
    rw [pi20, formedM_is]
    have h0 : kidsM 4 = 2 := rfl
    rw [h0]
    simp [app_formed f1 (f2 1 (by omega) (by omega)), app_formed f1 (app_formed (f2 1 (by omega) (by omega)) (f2 0 (by omega) (by omega)))]
  have hn : nodes (pi20 c) = 9 := by simp [pi20, nodes2, tC, tV, leaf_nodes]
  refine ⟨hf, hn, (check_iff2 (by omega)).2 ⟨by omega, ?_, hf⟩, ?_⟩
  · have := depth_le (pi20 c); omega
  · have b1 : bindsM 6 1 = 0 := rfl
    have b0 : bindsM 6 0 = 0 := rfl
    have b2 : bindsM 4 1 = 1 := rfl
    have b3 : bindsM 4 0 = 0 := rfl
    simp [pi20, wiT, wiL, tC, tV, b0, b1, b2, b3]
    omega
theorem tarski_check : checkB (tarskiB 20) = 0 := by
  have hn : nodes (.mk 6 0 [tC 21, tV 0]) = 3 := by rw [nodes2, tC, tV, leaf_nodes, leaf_nodes]
  have hU : inM (.mk 2 0 []) 0 = true := inM_of (by omega) (by omega) (by rw [leaf_nodes]; omega) (leaf_checkM (.inr (.inl rfl)) (lf 2 0 rfl (by omega))) (by simp [wiT])
  have hB : inM (.mk 6 0 [tC 21, tV 0]) 1 = true := by
    refine inM_of (by omega) (by omega) (by omega) ((check_iff2 (by omega)).2 ⟨by omega, ?_, app_formed (lf 3 21 rfl (by omega)) (lf 1 0 rfl (by omega))⟩) ?_
    · have := depth_le (.mk 6 0 [tC 21, tV 0]); omega
    · have b0 : bindsM 6 0 = 0 := rfl
      have b1 : bindsM 6 1 = 0 := rfl
      simp [wiT, wiL, tC, tV, b1]
  obtain ⟨p1, p2, p3, p4⟩ := pi20_facts 21 (by omega)
  have hP : inM (pi20 21) 2 = true := inM_of (by omega) (by omega) (by omega) p3 p4
  rw [checkB_zero]
  refine ⟨by simp [tarskiB], by simp [tarskiB], by simp [tarskiB], by rfl, fun j hj => ?_, fun c hc => ?_⟩
  · have : j = 0 := by simp [tarskiB] at hj; omega
    subst this
    have hl : levelM 1 = true := rfl
    simp [tarskiB, sortM, rowM, allI, hl, maybeM, hU]
  · simp only [tarskiB, List.mem_singleton] at hc
    subst hc
    have hs : (tarskiB 20).sorts = [⟨[], 1, true, .mk 2 0 []⟩] := rfl
    have hz : noneM zT = true := rfl
    have w0 : w64 0 = 0 := rfl
    have w1 : w64 1 = 1 := rfl
    have w2 : w64 2 = 2 := rfl
    simp [conM, hs, rowM, allI, argM, recA, domM, allM, maybeM, hz, w0, w1, hB, hP]
/-- What comes in: right, and small. -/
structure Tiny (t : T) : Prop where
  c : checkM t = 0
  n : nodes t ≤ 500
  d : depthN t ≤ 60
theorem Tiny.f {t : T} (h : Tiny t) : formedM t = true := formed_of h.c
theorem up_facts {t : T} (h : Tiny t) : nodes (sT 1 t) = nodes t ∧ depthN (sT 1 t) = depthN t := ⟨sh_nodes h.f _ _ _, sh_depth h.f _ _ _⟩
theorem one_free {a : T} (ha : Tiny a) : instF [a] 0 0 0 = a := by
  have hw : whichT [a].length 0 0 0 = 0 := by rfl
  rw [instF, hw, if_pos (by omega)]
  show movedT (w64 (0 + 0)) a = a
  have : w64 (0 + 0) = 0 := rfl
  rw [this, moved_is]
  exact mv0 a ha.f 0 (by omega) (by have := ha.n; omega)
theorem dom_inst {a : T} (ha : Tiny a) : instE (.mk 6 0 [tC 4, tV 0]) [a] 0 = 0 ∧ instT (.mk 6 0 [tC 4, tV 0]) [a] 0 = .mk 6 0 [tC 4, a] := by
  have hn : nodes (.mk 6 0 [tC 4, tV 0]) = 3 := by rw [nodes2, tC, tV, leaf_nodes, leaf_nodes]
  have b0 : bindsM 6 ((0 : Nat) : Int) = 0 := rfl
  have b1 : bindsM 6 ((0 + 1 : Nat) : Int) = 0 := rfl
  have hM : mapT (instF [a] 0) (.mk 6 0 [tC 4, tV 0]) 0 = .mk 6 0 [tC 4, a] := by
    rw [mapT, if_neg (by omega)]
    simp only [mapL, b0, b1, Int.add_zero]
    rw [tV, map_var, one_free ha, tC, mapT, if_neg (by omega)]
    rfl
  have hc : checkM (.mk 6 0 [tC 4, tV 0]) = 0 := by
    refine (check_iff2 (by omega)).2 ⟨by omega, ?_, app_formed (lf 3 4 rfl (by omega)) (lf 1 0 rfl (by omega))⟩
    have := depth_le (.mk 6 0 [tC 4, tV 0]); omega
  have hE : instE (.mk 6 0 [tC 4, tV 0]) [a] 0 = 0 := by
    have h1 := ha.n
    refine (inst_iff (by omega) (by simp; omega)).2 ⟨(openE_iff _ _ _).2 ⟨hc, by simpa using ha.c, by omega, by omega⟩, ?_, ?_, ?_⟩
    · refine sc_of (by omega) (by intro x hx; simp at hx; subst hx; exact ⟨ha.f, by omega⟩) _ 0 (formed_of hc) (by omega) (by omega) ?_
      rw [hM]
      exact app_formed (lf 3 4 rfl (by omega)) ha.f
    · rw [hM, nodes2, tC, leaf_nodes]; omega
    · rw [hM, depth2, tC, leaf_depth]
      have := ha.d
      omega
  exact ⟨hE, by rw [inst_at hE, hM]⟩
def treeA : Ar := ⟨true, zT, [.mk 6 0 [tC 4, tV 0]], 0, []⟩
def eachT (a f m st : T) : T := .mk 5 0 [.mk 6 0 [tC 4, a], spT (tC 22) [sT 1 m, sT 1 st, .mk 6 0 [sT 1 f, tV 0]]]
theorem e06 {t : T} (h : Tiny t) : shiftE t 1 0 = 0 ∨ shiftE t 1 0 = 6 := shift_err h.c (by omega) (by omega)
theorem shift_sT {t : T} (h : shiftE t 1 0 = 0) : shiftT t 1 0 = sT 1 t := shift_at h
theorem tree_mk {a f m st : T} (ha : Tiny a) : mkL (treeB 3 4) 20 [extA (tC 3), treeA] [m] [st] [a, f] 2 = (errs 0 [0, shiftE m 1 0, shiftE st 1 0, shiftE f 1 0], [a, f, innerT (treeB 3 4) 20 treeA [m] [st] [a] f]) := by
  obtain ⟨d1, d2⟩ := dom_inst ha
  have h1 : mkL (treeB 3 4) 20 [extA (tC 3), treeA] [m] [st] [a, f] 1 = (0, [a]) := by
    rw [mkL_next (a := extA (tC 3)) (t := a) rfl rfl, if_neg (by simp [extA])]
    rfl
  have hI : innerE treeA [m] [st] [a] f = [0, shiftE m 1 0, shiftE st 1 0, shiftE f 1 0] := by
    simp [innerE, treeA, domsE, upsE, instsE, d1]
  rw [mkL_next (a := treeA) (t := f) rfl rfl, h1, if_pos ⟨rfl, rfl⟩]
  show (errs 0 (innerE treeA [m] [st] [a] f), _) = _
  rw [hI]
  rfl
theorem tree_inner {a f m st : T} (ha : Tiny a) (hm : shiftE m 1 0 = 0) (hs : shiftE st 1 0 = 0) (hf : shiftE f 1 0 = 0) : innerT (treeB 3 4) 20 treeA [m] [st] [a] f = eachT a f m st := by
  obtain ⟨d1, d2⟩ := dom_inst ha
  have hE : eliminator (treeB 3 4) 20 0 = 22 := by rfl
  have hv : varsN 1 = [tV 0] := by rfl
  rw [innerT]
  simp only [treeA, domsT, upsT, instsT, List.length_cons, List.length_nil, List.mapIdx_cons, List.mapIdx_nil, List.map_cons, List.map_nil, List.append_nil, List.cons_append, List.nil_append, hE, Nat.zero_add, hv]
  show nestT 5 [instT (.mk 6 0 [tC 4, tV 0]) [a] 0] (spT (tC 22) [shiftT m 1 0, shiftT st 1 0, spT (shiftT f 1 0) [tV 0]]) = _
  rw [d2, shift_sT hm, shift_sT hs, shift_sT hf]
  rfl
theorem tree_elim {a f m st : T} (ha : Tiny a) (hf : Tiny f) (hm : Tiny m) (hs : Tiny st) (hn : nodes a + nodes f + nodes m + nodes st ≤ 500) (hd : depthN a + depthN f + depthN m + depthN st ≤ 60) :
    (¬ (shiftE m 1 0 = 0 ∧ shiftE st 1 0 = 0 ∧ shiftE f 1 0 = 0) → elimE (treeB 3 4) 20 0 [m] [st] [a, f] = 6 ∧ elimT (treeB 3 4) 20 0 [m] [st] [a, f] = zT) ∧
    (shiftE m 1 0 = 0 → shiftE st 1 0 = 0 → shiftE f 1 0 = 0 → elimE (treeB 3 4) 20 0 [m] [st] [a, f] = 0 ∧ elimT (treeB 3 4) 20 0 [m] [st] [a, f] = spT st [a, f, eachT a f m st]) := by
  have hco : (treeB 3 4).cons[(0 : Int).toNat]? = some ⟨0, [extA (tC 3), treeA], [], zT⟩ := rfl
  have hF : firstE ([m] ++ ([st] ++ [a, f])) = 0 := by
    rw [firstE_zero]
    intro t ht
    simp only [List.cons_append, List.nil_append, List.mem_cons, List.not_mem_nil, or_false] at ht
    rcases ht with rfl | rfl | rfl | rfl
    · exact hm.c
    · exact hs.c
    · exact ha.c
    · exact hf.c
  have hB : elimB (treeB 3 4) 20 0 ⟨0, [extA (tC 3), treeA], [], zT⟩ [m] [st] [a, f] := ⟨rfl, rfl, rfl, by omega, by omega⟩
  have hE : elimE (treeB 3 4) 20 0 [m] [st] [a, f] = makeE (treeB 3 4) 20 ⟨0, [extA (tC 3), treeA], [], zT⟩ st [m] [st] [a, f] := by
    rw [elimE, if_pos tree_check, if_neg (by omega), hco]
    simp only
    rw [if_pos hB, if_pos hF]
    rfl
  have hT : elimT (treeB 3 4) 20 0 [m] [st] [a, f] = if elimE (treeB 3 4) 20 0 [m] [st] [a, f] = 0 then makeT (treeB 3 4) 20 ⟨0, [extA (tC 3), treeA], [], zT⟩ st [m] [st] [a, f] else zT := by
    rw [elimT, hco]
    rfl
  have hL := tree_mk (f := f) (m := m) (st := st) ha
  have hme : makeE (treeB 3 4) 20 ⟨0, [extA (tC 3), treeA], [], zT⟩ st [m] [st] [a, f] = if errs 0 [0, shiftE m 1 0, shiftE st 1 0, shiftE f 1 0] = 0 then checkM (spT st [a, f, innerT (treeB 3 4) 20 treeA [m] [st] [a] f]) else errs 0 [0, shiftE m 1 0, shiftE st 1 0, shiftE f 1 0] := by
    rw [makeE]
    show (if (mkL (treeB 3 4) 20 [extA (tC 3), treeA] [m] [st] [a, f] 2).1 = 0 then checkM (spT st (mkL (treeB 3 4) 20 [extA (tC 3), treeA] [m] [st] [a, f] 2).2) else (mkL (treeB 3 4) 20 [extA (tC 3), treeA] [m] [st] [a, f] 2).1) = _
    rw [hL]
  have hmt : makeT (treeB 3 4) 20 ⟨0, [extA (tC 3), treeA], [], zT⟩ st [m] [st] [a, f] = if makeE (treeB 3 4) 20 ⟨0, [extA (tC 3), treeA], [], zT⟩ st [m] [st] [a, f] = 0 then spT st [a, f, innerT (treeB 3 4) 20 treeA [m] [st] [a] f] else zT := by
    rw [makeT]
    show (if _ then spT st (mkL (treeB 3 4) 20 [extA (tC 3), treeA] [m] [st] [a, f] 2).2 else zT) = _
    rw [hL]
  refine ⟨fun h => ?_, fun h1 h2 h3 => ?_⟩
  · have h6 : errs 0 [0, shiftE m 1 0, shiftE st 1 0, shiftE f 1 0] = 6 := by
      rcases e06 hm with q1 | q1 <;> rcases e06 hs with q2 | q2 <;> rcases e06 hf with q3 | q3 <;> rw [q1, q2, q3] <;> first | rfl | exact absurd ⟨q1, q2, q3⟩ h
    rw [h6] at hme
    rw [if_neg (by omega)] at hme
    rw [hE, hme] at hT ⊢
    exact ⟨rfl, by rw [hT, if_neg (by omega)]⟩
  · have h0 : errs 0 [0, shiftE m 1 0, shiftE st 1 0, shiftE f 1 0] = 0 := by rw [h1, h2, h3]; rfl
    have hIn := tree_inner (f := f) ha h1 h2 h3
    rw [h0, if_pos rfl, hIn] at hme
    rw [hIn] at hmt
    have fm := (shift_right (by have := hm.n; omega) h1).2.1
    have fs := (shift_right (by have := hs.n; omega) h2).2.1
    have ff := (shift_right (by have := hf.n; omega) h3).2.1
    rw [shift_sT h1] at fm
    rw [shift_sT h2] at fs
    rw [shift_sT h3] at ff
    obtain ⟨n1, d1⟩ := up_facts hm
    obtain ⟨n2, d2⟩ := up_facts hs
    obtain ⟨n3, d3⟩ := up_facts hf
    have fV : formedM (tV 0) = true := leaf_formed (.inl rfl) ⟨by omega, by omega⟩
    have fE : formedM (eachT a f m st) = true := by
      rw [eachT, formedM_is]
      have k5 : kidsM 5 = 2 := rfl
      rw [k5]
      have g1 := app_formed (lf 3 4 rfl (by omega)) ha.f
      have g2 : formedM (spT (tC 22) [sT 1 m, sT 1 st, .mk 6 0 [sT 1 f, tV 0]]) = true := sp_formed _ _ (lf 3 22 rfl (by omega)) (by intro x hx; simp at hx; rcases hx with rfl | rfl | rfl; exact fm; exact fs; exact app_formed ff fV)
      simp [tC] at g1 g2 ⊢
      exact ⟨g1, g2⟩
    have hc : checkM (spT st [a, f, eachT a f m st]) = 0 := by
      have hnn : nodes (spT st [a, f, eachT a f m st]) ≤ 2000 := by
        rw [sp_nodes', eachT]
        simp only [List.map_cons, List.map_nil, List.sum_cons, List.sum_nil, List.length_cons, List.length_nil, nodes2, sp_nodes', n1, n2, n3, tC, tV, leaf_nodes]
        omega
      refine (check_iff2 (by omega)).2 ⟨by omega, ?_, ?_⟩
      · show depthN (.mk 6 0 [.mk 6 0 [.mk 6 0 [st, a], f], .mk 5 0 [.mk 6 0 [tC 4, a], .mk 6 0 [.mk 6 0 [.mk 6 0 [tC 22, sT 1 m], sT 1 st], .mk 6 0 [sT 1 f, tV 0]]]]) ≤ 200
        simp only [depth2, d1, d2, d3, tC, tV, leaf_depth]
        omega
      · exact sp_formed _ _ hs.f (by intro x hx; simp at hx; rcases hx with rfl | rfl | rfl; exact ha.f; exact hf.f; exact fE)
    rw [hc] at hme
    rw [hme, if_pos rfl] at hmt
    rw [hE, hme] at hT ⊢
    exact ⟨rfl, by rw [hT, if_pos rfl, hmt]⟩
theorem pi_inst {a f : T} (ha : Tiny a) (hf : Tiny f) (h : shiftE f 1 0 = 0) (hn : nodes a + nodes f ≤ 500) (hd : depthN a + depthN f ≤ 60) :
    instE (pi20 21) [a, f] 0 = 0 ∧ instT (pi20 21) [a, f] 0 = .mk 4 0 [.mk 6 0 [tC 21, a], .mk 6 0 [tC 21, .mk 6 0 [sT 1 f, tV 0]]] := by
  obtain ⟨p1, p2, p3, p4⟩ := pi20_facts 21 (by omega)
  have b0 : bindsM 6 ((0 : Nat) : Int) = 0 := rfl
  have b1 : bindsM 6 ((0 + 1 : Nat) : Int) = 0 := rfl
  have b2 : bindsM 4 ((0 : Nat) : Int) = 0 := rfl
  have b3 : bindsM 4 ((0 + 1 : Nat) : Int) = 1 := rfl
  have na := ha.n
  have nf := hf.n
  have v1 : instF [a, f] 0 1 0 = a := by
    have hw : whichT [a, f].length 0 1 0 = 0 := by rfl
    rw [instF, hw, if_pos (by omega)]
    show movedT (w64 (0 + 0)) a = a
    have : w64 (0 + 0) = 0 := rfl
    rw [this, moved_is]
    exact mv0 a ha.f 0 (by omega) (by omega)
  have v2 : instF [a, f] 0 1 1 = sT 1 f := by
    have hw : whichT [a, f].length 0 1 1 = 1 := by rfl
    rw [instF, hw, if_pos (by omega)]
    show movedT (w64 (0 + 1)) f = sT 1 f
    have : w64 (0 + 1) = 1 := rfl
    rw [this, moved_is, sT, sh_mv (by omega) (by omega) f hf.f 0 (by omega) (by omega)]
  have v3 : instF [a, f] 0 0 1 = tV 0 := by
    have hw : whichT [a, f].length 0 0 1 = -1 := by rfl
    rw [instF, hw, if_neg (by omega), if_neg (by omega)]
    rfl
  have hM : mapT (instF [a, f] 0) (pi20 21) 0 = .mk 4 0 [.mk 6 0 [tC 21, a], .mk 6 0 [tC 21, .mk 6 0 [sT 1 f, tV 0]]] := by
    have hC : ∀ b : Int, mapT (instF [a, f] 0) (tC 21) b = tC 21 := fun b => by rw [tC, mapT, if_neg (by omega)]; rfl
    have hk : ∀ (x y : T) (b : Int), mapT (instF [a, f] 0) (.mk 6 0 [x, y]) b = .mk 6 0 [mapT (instF [a, f] 0) x b, mapT (instF [a, f] 0) y b] := fun x y b => by
      rw [mapT, if_neg (by omega)]
      simp only [mapL, b0, b1, Int.add_zero]
    rw [pi20, mapT, if_neg (by omega)]
    simp only [mapL, b2, b3, Int.add_zero, Int.zero_add, hk, hC]
    rw [show mapT (instF [a, f] 0) (tV 1) 0 = a from (map_var _ _ _).trans v1, show mapT (instF [a, f] 0) (tV 1) 1 = sT 1 f from (map_var _ _ _).trans v2, show mapT (instF [a, f] 0) (tV 0) 1 = tV 0 from (map_var _ _ _).trans v3]
  have ff := (shift_right (by omega) h).2.1
  rw [shift_sT h] at ff
  obtain ⟨n3, d3⟩ := up_facts hf
  have fV : formedM (tV 0) = true := leaf_formed (.inl rfl) ⟨by omega, by omega⟩
  have hE : instE (pi20 21) [a, f] 0 = 0 := by
    refine (inst_iff (by omega) (by simp; omega)).2 ⟨(openE_iff _ _ _).2 ⟨p3, by simp [ha.c, hf.c], by omega, by omega⟩, ?_, ?_, ?_⟩
    · refine sc_of (by omega) (by intro x hx; simp at hx; rcases hx with rfl | rfl; exact ⟨ha.f, by omega⟩; exact ⟨hf.f, by omega⟩) _ 0 p1 (by omega) (by omega) ?_
      rw [hM, formedM_is]
      have k4 : kidsM 4 = 2 := rfl
      rw [k4]
      have g1 := app_formed (lf 3 21 rfl (by omega)) ha.f
      have g2 := app_formed (lf 3 21 rfl (by omega)) (app_formed ff fV)
      simp [tC] at g1 g2 ⊢
      exact ⟨g1, g2⟩
    · rw [hM]
      simp only [nodes2, tC, tV, leaf_nodes, n3]
      omega
    · rw [hM]
      simp only [depth2, tC, tV, leaf_depth, d3]
      omega
  exact ⟨hE, by rw [inst_at hE, hM]⟩
end Ev
end Go.Proofs.Ytomlkbohcoinoaa
