/- PackSizes. -/
import Derived.Test.YtjebpfhffenbnaaZI
namespace Go.Proofs.Ytjebpfhffenbnaa
namespace Ev
open Go
set_option maxRecDepth 100000
set_option linter.unusedSimpArgs false
set_option linter.unusedVariables false
attribute [local simp] allD_map_d sks_map_d tk tn tks initA EndsM
mutual
def leavesN : T → Nat
  | .mk _ _ [] => 1
  | .mk _ _ (x :: xs) => leavesN x + leavesL xs
def leavesL : List T → Nat
  | [] => 0
  | x :: xs => leavesN x + leavesL xs
end
theorem leaves_node (k n : Int) {ks : List T} (h : ks ≠ []) : leavesN (.mk k n ks) = leavesL ks := by
  match ks, h with
  | x :: xs, _ => rw [leavesN, leavesL]
theorem leavesL_snoc : ∀ (l : List T) (x : T), leavesL (l ++ [x]) = leavesL l + leavesN x
  | [], x => by simp [leavesL]
  | y :: l, x => by simp [leavesL, leavesL_snoc l x]; omega
theorem leavesL_take (l : List T) (i : Nat) (h : i < l.length) : leavesL (l.take (i + 1)) = leavesL (l.take i) + leavesN l[i] := by
  rw [List.take_add_one, List.getElem?_eq_getElem h]; exact leavesL_snoc _ _
theorem leavesL_le : ∀ (l : List T), (∀ x ∈ l, leavesN x ≤ nodes x) → leavesL l ≤ (l.map nodes).sum
  | [], _ => by simp [leavesL]
  | x :: l, h => by
    have h1 := h x (by simp)
    have h2 := leavesL_le l fun y hy => h y (by simp [hy])
    simp [leavesL]; omega
theorem leaves_le (t : T) : leavesN t ≤ nodes t := by
  induction t using T.ind with
  | h k n ks ih =>
    have h1 := leavesL_le ks ih
    rw [nodes]
    by_cases hk : ks = []
    · subst hk; simp [leavesN]
    · rw [leaves_node k n hk]; omega
theorem pkL_length : ∀ (l : List T), (∀ x ∈ l, (pk x).length = nodes x + 2 * leavesN x) → (pkL l).length = (l.map nodes).sum + 2 * leavesL l
  | [], _ => by simp [pkL, leavesL]
  | x :: l, h => by
    have h1 := h x (by simp)
    have h2 := pkL_length l fun y hy => h y (by simp [hy])
    simp [pkL, leavesL]; omega
theorem pk_length (t : T) : formedM t = true → (pk t).length = nodes t + 2 * leavesN t := by
  induction t using T.ind with
  | h k n ks ih =>
    intro hf
    by_cases hk : kidsM k = 0
    · obtain ⟨rfl, _, _⟩ := fm_leaf hf hk
      rw [pk, if_pos hk, leavesN, leaf_nodes]; rfl
    · obtain ⟨a1, _, a3⟩ := fm_node hf hk
      have h1 := pkL_length ks fun x hx => ih x hx (a3 x hx)
      have hne : ks ≠ [] := by rintro rfl; simp at a1; omega
      rw [pk, if_neg hk, leaves_node k n hne, nodes, List.length_cons]
      omega
theorem leaves_ok (t : T) : nodes t ≤ 1000000 → Pure Try.prog n_porismlaw03_leaves [.agg (cT t)] [.int .i64 (leavesN t)] := by
  induction t using T.ind with
  | h k n ks ih =>
    intro hn
    have hN : nodes (.mk k n ks) = (ks.map nodes).sum + 1 := by rw [nodes]
    refine p_porismlaw03_leaves rfl fun hs => ?_
    have hl := kids_small (t := .mk k n ks) (fun d hd => hs d hd)
    replace hl : ks.length ≤ 9223372036854775807 := hl
    simp -dsimp [x_porismlaw03_leaves, cT]
    by_cases hk : ks = []
    · subst hk; simp -dsimp [leavesN]
    have hk2 : ¬ ks.length = 0 := by simpa using hk
    rw [leaves_node k n hk]
    simp -dsimp [hk, hk2]
    refine wp_upto ks.length (fun i st => st.s 1 = .ptr 1 1 0 ∧ st.h 1 = ⟨1, .box [.d (.int .i64 k), .d (.int .i64 n), .d (.sl 3 (ks.map eT))] false⟩ ∧ st.s 4 = .d (.int .i64 i) ∧ st.s 3 = .d (.int .i64 (leavesL (ks.take i)))) ?_ ?_
    · simp -dsimp [leavesL]
    · rintro i ⟨s, hp⟩ hi ⟨e1, e2, e3, e4⟩
      dsimp only at e1 e2 e3 e4
      rcases Nat.lt_or_ge i ks.length with hlt | hge
      · have w1 : IntKind.i64.wrap ((i : Int) + 1) = (i : Int) + 1 := wrap_id (by omega) (by omega)
        have hS := take_nodes ks i hlt
        have hT := leavesL_take ks i hlt
        have h1 := leavesL_le (ks.take i) fun x _ => leaves_le x
        have h2 := leaves_le ks[i]
        have hI := ih ks[i] (List.getElem_mem _) (by omega)
        have w2 : IntKind.i64.wrap ((leavesL (ks.take i) : Int) + leavesN ks[i]) = leavesL (ks.take (i + 1)) := by rw [wrap_id (by omega) (by omega)]; omega
        simp only [cT] at hI
        simp -dsimp [e1, e2, e3, e4, hlt, cT]
        refine call_of hI ?_
        simp -dsimp [e1, e2, e3, e4, hlt, cT, w1, w2]
      · have e : i = ks.length := by omega
        subst e
        rw [List.take_length] at e4
        simp -dsimp [e1, e2, e3, e4]
theorem pkL_append : ∀ (l m : List T), pkL (l ++ m) = pkL l ++ pkL m
  | [], m => by simp [pkL]
  | x :: l, m => by simp [pkL, pkL_append l m]
theorem sizes03_law (t : T) (hb : nodes t ≤ 1048576) : Pure Try.prog n_porismlaw03_PackSizes [.agg (cT t)] [.bool true] := by
  obtain ⟨k, n, ks⟩ := t
  refine p_porismlaw03_PackSizes rfl fun hs => ?_
  have hls := kids_small (t := .mk k n ks) (fun d hd => hs d hd)
  replace hls : ks.length ≤ 9223372036854775807 := hls
  have hH := heavy02_ok [.mk k n ks]
  simp [eTs, eT_eq, cT] at hH
  simp -dsimp [x_porismlaw03_PackSizes, cT]
  refine call_of hH ?_
  have hC := rcheck_ok (.mk k n ks)
  simp [cT] at hC
  generalize hhv : heavy02 [.mk k n ks] = hv
  cases hv
  case true => simp -dsimp
  simp -dsimp
  refine call_of hC ?_
  by_cases hck : checkM (.mk k n ks) = 0
  case neg => simp -dsimp [hck]
  obtain ⟨hn, hd, hf⟩ := (check_iff hb).1 hck
  have hP := put_ok [] (.mk k n ks) (by simp) (by omega)
  simp [putB, hck, eB, cT] at hP
  have hS := tsize_ok (.mk k n ks)
  rw [size_is _ (by omega)] at hS
  simp only [cT, tk, tn, tks] at hS
  have hL := leaves_ok (.mk k n ks) (by omega)
  simp only [cT, tk, tn, tks] at hL
  have hlen := pk_length _ hf
  have hr := fm_kind hf
  have hle := leaves_le (.mk k n ks)
  have wa : IntKind.i64.wrap (2 * (leavesN (.mk k n ks) : Int)) = 2 * (leavesN (.mk k n ks) : Int) := wrap_id (by omega) (by omega)
  have wb : IntKind.i64.wrap ((nodes (.mk k n ks) : Int) + 2 * (leavesN (.mk k n ks) : Int)) = ((pk (.mk k n ks)).length : Int) := by rw [wrap_id (by omega) (by omega)]; omega
  have hu : u8 k = k := u8_id (by omega) (by omega)
  have hwk : IntKind.i64.wrap k = k := wrap_id (by omega) (by omega)
  obtain ⟨tl, htl⟩ : ∃ tl, pk (.mk k n ks) = k :: tl := by rw [pk, hu]; exact ⟨_, rfl⟩
  have hpl : (pk (.mk k n ks)).length = tl.length + 1 := by rw [htl]; rfl
  simp -dsimp [hck, cT]
  refine call_of hP ?_
  simp -dsimp [cT]
  refine call_of hS ?_
  simp -dsimp [cT]
  refine call_of hL ?_
  have hz : ¬ ((tl.length : Int) + 1 = 0) := by omega
  simp -dsimp [cT, wa, wb, htl, hwk, hz]
  refine call_of (leaf_ok k) ?_
  by_cases hk : kidsM k = 0
  · obtain ⟨rfl, a1, a2⟩ := fm_leaf hf hk
    have e : tl = [u8 (n.fdiv 256), u8 n] := by
      rw [pk, if_pos hk, hu] at htl
      exact (List.cons.inj htl).2.symm
    subst e
    have ho := orB_num a1 a2
    rw [orB] at ho
    have hl3 : (pk (.mk k n [])).length = 3 := by rw [htl]; rfl
    simp -dsimp [cT, hk, hl3, htl]
    simp -dsimp [ho]
    refine call_of wakes03_ok ?_
    simp -dsimp
    rw [if_pos ho]
    rfl
  · obtain ⟨a1, rfl, a3⟩ := fm_node hf hk
    have e : tl = pkL ks := by
      rw [pk, if_neg hk, hu] at htl
      exact (List.cons.inj htl).2.symm
    subst e
    have hN : nodes (.mk k 0 ks) = (ks.map nodes).sum + 1 := by rw [nodes]
    have hD : depthN (.mk k 0 ks) = dmax (ks.map depthN) + 1 := by rw [depthN]
    simp -dsimp [cT, hk]
    refine wp_upto ks.length (fun i st => st.s 1 = .ptr 1 1 0 ∧ st.h 1 = ⟨1, .box [.d (.int .i64 k), .d (.int .i64 0), .d (.sl 3 (ks.map eT))] false⟩ ∧ st.s 3 = .d (.sl 1 (.int .u8 k :: (pkL ks).map (.int .u8))) ∧
      st.s 5 = .d (.int .i64 (1 + (pkL (ks.take i)).length)) ∧ st.s 6 = .d (.int .i64 i)) ?_ ?_
    · simp -dsimp [pkL, htl]
    · rintro i ⟨s, hp⟩ hi ⟨e1, e2, e3, e4, e5⟩
      dsimp only at e1 e2 e3 e4 e5
      rcases Nat.lt_or_ge i ks.length with hlt | hge
      · have w1 : IntKind.i64.wrap ((i : Int) + 1) = (i : Int) + 1 := wrap_id (by omega) (by omega)
        have hsn : ks.take (i + 1) = ks.take i ++ [ks[i]] := by rw [List.take_add_one, List.getElem?_eq_getElem hlt]; rfl
        have hP1 : pkL (ks.take (i + 1)) = pkL (ks.take i) ++ pk ks[i] := by rw [hsn, pkL_snoc]
        have hsp : pkL ks = pkL (ks.take i) ++ (pk ks[i] ++ pkL (ks.drop (i + 1))) := by rw [← pkL_drop ks i hlt, ← pkL_append, List.take_append_drop]
        have hlen2 := congrArg List.length hsp
        simp only [List.length_append] at hlen2
        have hS2 := take_nodes ks i hlt
        have hdm : depthN ks[i] ≤ dmax (ks.map depthN) := dmax_mem (List.mem_map.2 ⟨_, List.getElem_mem hlt, rfl⟩)
        obtain ⟨q1, q2, q3⟩ := get_good (b := k :: pkL ks) (at_ := 1 + (pkL (ks.take i)).length) (t := ks[i]) (rest := pkL (ks.drop (i + 1))) (by omega) (by rw [List.length_cons]; omega)
          (by rw [show (1 + ((pkL (ks.take i)).length : Int)).toNat = (pkL (ks.take i)).length + 1 by omega, List.drop_succ_cons, hsp]; simp) (a3 _ (List.getElem_mem _)) (by omega) (by omega) (by rw [List.length_cons]; omega)
        have hG := get_ok (k :: pkL ks) (1 + (pkL (ks.take i)).length)
        rw [q1, q2, q3] at hG
        have hnx : (((k :: pkL ks).length : Nat) : Int) - (pkL (ks.drop (i + 1))).length = 1 + ((pkL (ks.take (i + 1))).length : Int) := by rw [hP1, List.length_append, List.length_cons]; omega
        rw [hnx] at hG
        simp only [eB, cT, List.map_cons] at hG
        have hK := keepTerm_ok ks[i]
        simp only [cT] at hK
        simp -dsimp [e1, e2, e3, e4, e5, hlt, cT]
        refine call_of hG ?_
        simp -dsimp [e1, e2, e3, e4, e5, hlt, cT]
        refine call_of hK ?_
        simp -dsimp [e1, e2, e3, e4, e5, hlt, cT, w1]
      · have e : i = ks.length := by omega
        subst e
        rw [List.take_length] at e4
        have hcm : (1 : Int) + (pkL ks).length = (pkL ks).length + 1 := by omega
        rw [hcm] at e4
        simp -dsimp [e1, e2, e3, e4, e5]
        refine call_of wakes03_ok ?_
        simp -dsimp
end Ev
end Go.Proofs.Ytjebpfhffenbnaa
