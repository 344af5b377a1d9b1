/- pack: bytes and terms, the plain laws. -/
import Derived.Test.YtjebpfhffenbnaaZE
namespace Go.Proofs.Ytjebpfhffenbnaa
namespace Ev
open Go
set_option maxRecDepth 100000
set_option linter.unusedSimpArgs false
set_option linter.unusedVariables false
theorem u8_is (n : Int) : u8 n = n % 256 := by simp [u8, IntKind.wrap, IntKind.bits, IntKind.signed]
theorem u8_id {n : Int} (h0 : 0 ≤ n) (h1 : n < 256) : u8 n = n := by rw [u8_is]; omega
theorem or_add {a b : Nat} (hb : b < 256) : (a * 256) ||| b = a * 256 + b := by
  have h := Nat.shiftLeft_add_eq_or_of_lt (b := b) (i := 8) (by omega) a
  rw [Nat.shiftLeft_eq] at h
  exact h.symm
theorem orB_is {a b : Int} (ha : 0 ≤ a ∧ a < 256) (hb : 0 ≤ b ∧ b < 256) : orB a b = a * 256 + b := by
  obtain ⟨x, rfl⟩ := Int.eq_ofNat_of_zero_le ha.1
  obtain ⟨y, rfl⟩ := Int.eq_ofNat_of_zero_le hb.1
  have e8 : (2 : Int) ^ min 8 IntKind.i64.bits = 256 := rfl
  have e64 : (2 : Int) ^ IntKind.i64.bits = 18446744073709551616 := rfl
  rw [orB, e8, e64, wrap_id (n := (x : Int)) (by omega) (by omega), wrap_id (n := (x : Int) * 256) (by omega) (by omega), wrap_id (n := (y : Int)) (by omega) (by omega)]
  have h1 : ((x : Int) * 256 % 18446744073709551616).toNat = x * 256 := by omega
  have h2 : ((y : Int) % 18446744073709551616).toNat = y := by omega
  rw [h1, h2, or_add (by omega), wrap_id (by omega) (by omega)]
  omega
theorem orB_num {n : Int} (h0 : 0 ≤ n) (h1 : n ≤ 65535) : orB (u8 (n.fdiv 256)) (u8 n) = n := by
  have e : n.fdiv 256 = n / 256 := Int.fdiv_eq_ediv_of_nonneg _ (by omega)
  rw [e, u8_is, u8_is, orB_is (by omega) (by omega)]
  omega
theorem kidsM_rng {k : Int} (h : 0 ≤ kidsM k) : 1 ≤ k ∧ k ≤ 13 := by
  rw [kidsM] at h
  simp only [isM] at h
  repeat' split at h
  all_goals first | omega | (simp at h; done) | (simp at *; omega)
theorem fm_leaf {k n : Int} {ks : List T} (h : formedM (.mk k n ks) = true) (hk : kidsM k = 0) : ks = [] ∧ 0 ≤ n ∧ n ≤ 65535 := by
  rw [formedM_is] at h
  by_cases hl : (ks.length : Int) = kidsM k
  · rw [if_pos hl, if_pos hk] at h
    simp only [Bool.and_eq_true, inB_iff] at h
    exact ⟨List.eq_nil_of_length_eq_zero (by omega), h.1⟩
  · rw [if_neg hl] at h; simp at h
theorem fm_node {k n : Int} {ks : List T} (h : formedM (.mk k n ks) = true) (hk : ¬ kidsM k = 0) : (ks.length : Int) = kidsM k ∧ n = 0 ∧ ∀ x ∈ ks, formedM x = true := by
  rw [formedM_is] at h
  by_cases hl : (ks.length : Int) = kidsM k
  · rw [if_pos hl, if_neg hk] at h
    by_cases hn : n = 0
    · rw [if_pos hn] at h
      exact ⟨hl, hn, fun x hx => (List.all_eq_true.1 h) x hx⟩
    · rw [if_neg hn] at h; simp at h
  · rw [if_neg hl] at h; simp at h
theorem fm_kind {k n : Int} {ks : List T} (h : formedM (.mk k n ks) = true) : 1 ≤ k ∧ k ≤ 13 := by
  refine kidsM_rng ?_
  rw [formedM_is] at h
  split at h
  · omega
  · simp at h
theorem fm_leaf_of {k n : Int} (hk : kidsM k = 0) (h0 : 0 ≤ n) (h1 : n ≤ 65535) : formedM (.mk k n []) = true := by
  rw [formedM_is, if_pos (by simp [hk]), if_pos hk]
  simp [inB_iff, h0, h1]
theorem fm_node_of {k : Int} {ks : List T} (hk : ¬ kidsM k = 0) (hl : (ks.length : Int) = kidsM k) (h : ∀ x ∈ ks, formedM x = true) : formedM (.mk k 0 ks) = true := by
  rw [formedM_is, if_pos hl, if_neg hk, if_pos rfl]
  exact List.all_eq_true.2 h
/-! bytes are in their range; no term's bytes begin another's -/
/-! what stands there is read -/
theorem take1 (a : Int) (l : List Int) (n : Int) : takeS 1 ⟨a :: l, n, false⟩ = ([a], ⟨l, n, false⟩) := by simp [takeS]
theorem take2 (a b : Int) (l : List Int) (n : Int) : takeS 2 ⟨a :: b :: l, n, false⟩ = ([a, b], ⟨l, n, false⟩) := by
  rw [takeS, if_neg (by simp)]; rfl
theorem pkL_drop (l : List T) (i : Nat) (h : i < l.length) : pkL (l.drop i) = pk l[i] ++ pkL (l.drop (i + 1)) := by
  rw [← List.getElem_cons_drop h, pkL]
theorem rd_good (t : T) : ∀ (f : Nat) (d n : Int) (rest : List Int), formedM t = true → 1 ≤ d → d + depthN t ≤ 201 → 0 ≤ n → n + nodes t ≤ 6000 → d + f = 202 → readS f d ⟨pk t ++ rest, n, false⟩ = (t, ⟨rest, n + nodes t, false⟩) := by
  induction t using T.ind with
  | h k nn ks ih =>
    intro f d n rest hf h1 h2 h3 h4 h5
    have r1 := fm_kind hf
    have hN : nodes (.mk k nn ks) = (ks.map nodes).sum + 1 := by rw [nodes]
    have hD : depthN (.mk k nn ks) = dmax (ks.map depthN) + 1 := by rw [depthN]
    obtain ⟨f, rfl⟩ : ∃ g, f = g + 1 := ⟨f - 1, by omega⟩
    have hw : w64 k = k := w64_id (by omega) (by omega)
    have hwn : w64 (n + 1) = n + 1 := w64_id (by omega) (by omega)
    have hu : u8 k = k := u8_id (by omega) (by omega)
    have hpk : pk (.mk k nn ks) = k :: (if kidsM k = 0 then [u8 (nn.fdiv 256), u8 nn] else pkL ks) := by rw [pk, hu]
    rw [hpk]
    have hk0 : ¬ kidsM k < 0 := by
      intro hlt
      rw [formedM_is, if_neg (by omega)] at hf
      simp at hf
    have hH : ∀ l, headS d ⟨k :: l, n, false⟩ = ⟨l, n + 1, false⟩ := fun l => by
      rw [headS, take1]
      simp only [List.headD_cons, hw, hwn]
      simp [hk0]
      omega
    rw [readS, List.cons_append, take1, List.headD_cons, hw, hH]
    by_cases hk : kidsM k = 0
    · obtain ⟨rfl, a1, a2⟩ := fm_leaf hf hk
      rw [if_pos hk, if_pos hk]
      simp only [List.cons_append, List.nil_append]
      rw [take2]
      simp only [List.headD_cons, List.getD_cons_succ, List.getD_cons_zero, orB_num a1 a2, hN, List.map_nil, List.sum_nil]
      simp
    · obtain ⟨a1, rfl, a3⟩ := fm_node hf hk
      rw [if_neg hk, if_neg hk]
      have hm : (kidsM k).toNat = ks.length := by omega
      have key : ∀ i, i ≤ ks.length → kidsI (readS f (d + 1)) i ⟨pkL ks ++ rest, n + 1, false⟩ = (ks.take i, ⟨pkL (ks.drop i) ++ rest, n + 1 + ((ks.take i).map nodes).sum, false⟩) := by
        intro i
        induction i with
        | zero => intro _; simp [kidsI]
        | succ i ihi =>
          intro hi
          have hlt : i < ks.length := by omega
          have hS := take_nodes ks i hlt
          have hdm : depthN ks[i] ≤ dmax (ks.map depthN) := dmax_mem (List.mem_map.2 ⟨_, List.getElem_mem hlt, rfl⟩)
          rw [kidsI, ihi (by omega)]
          simp only [Bool.false_eq_true, if_false]
          rw [pkL_drop ks i hlt, List.append_assoc, ih ks[i] (List.getElem_mem hlt) f (d + 1) _ _ (a3 _ (List.getElem_mem hlt)) (by omega) (by omega) (by omega) (by omega) (by omega)]
          have hsn : ks.take (i + 1) = ks.take i ++ [ks[i]] := by rw [List.take_add_one, List.getElem?_eq_getElem hlt]; rfl
          rw [hsn]
          simp only [List.map_append, List.map_cons, List.map_nil, List.sum_append, List.sum_cons, List.sum_nil, Prod.mk.injEq, RS.mk.injEq, true_and, and_true]
          omega
      rw [hm, key ks.length (Nat.le_refl _)]
      simp only [List.take_length, List.drop_length, pkL, List.nil_append, hN, Prod.mk.injEq, RS.mk.injEq, true_and, and_true]
      omega
/-! what is read stood there -/
structure Snd (d : Int) (r r' : RS) (t : T) : Prop where
  bad : r.bad = false
  fm : formedM t = true
  left : r.left = pk t ++ r'.left
  nodes : r'.nodes = r.nodes + Ev.nodes t
  few : r'.nodes ≤ 6000
  deep : d + depthN t ≤ 201
end Ev
end Go.Proofs.Ytjebpfhffenbnaa
