/- pack: bytes and terms, the plain laws. -/
import Derived.Test.YtjebpfhffenbnaaZE
namespace Go.Proofs.Ytjebpfhffenbnaa
namespace Ev
open Go
set_option maxRecDepth 100000
set_option linter.unusedSimpArgs false
set_option linter.unusedVariables false
theorem u8_is (n : Int) : u8 n = n % 256 := by simp [u8, IntKind.wrap, IntKind.bits, IntKind.signed]
theorem u8_rng (n : Int) : 0 ≤ u8 n ∧ u8 n < 256 := by rw [u8_is]; omega
theorem u8_id {n : Int} (h0 : 0 ≤ n) (h1 : n < 256) : u8 n = n := by rw [u8_is]; omega
def byteL (l : List Int) : Prop := ∀ x ∈ l, 0 ≤ x ∧ x < 256
theorem or_add {a b : Nat} (hb : b < 256) : (a * 256) ||| b = a * 256 + b := by
  have h := Nat.shiftLeft_add_eq_or_of_lt (b := b) (i := 8) (by omega) a
  rw [Nat.shiftLeft_eq] at h
  exact h.symm
theorem orB_is {a b : Int} (ha : 0 ≤ a ∧ a < 256) (hb : 0 ≤ b ∧ b < 256) : orB a b = a * 256 + b := by
  obtain ⟨x, rfl⟩ := Int.eq_ofNat_of_zero_le ha.1
  obtain ⟨y, rfl⟩ := Int.eq_ofNat_of_zero_le hb.1
  have e8 : (2 : Int) ^ min 8 IntKind.i64.bits = 256 := rfl
  have e64 : (2 : Int) ^ IntKind.i64.bits = 18446744073709551616 := rfl
  rw [orB, e8, e64, wrap_id (n := (x : Int)) (by omega) (by omega), wrap_id (n := (x : Int) * 256) (by omega) (by omega), wrap_id (n := (y : Int)) (by omega) (by omega)]
  have h1 : ((x : Int) * 256 % 18446744073709551616).toNat = x * 256 := by omega
  have h2 : ((y : Int) % 18446744073709551616).toNat = y := by omega
  rw [h1, h2, or_add (by omega), wrap_id (by omega) (by omega)]
  omega
theorem orB_num {n : Int} (h0 : 0 ≤ n) (h1 : n ≤ 65535) : orB (u8 (n.fdiv 256)) (u8 n) = n := by
  have e : n.fdiv 256 = n / 256 := Int.fdiv_eq_ediv_of_nonneg _ (by omega)
  rw [e, u8_is, u8_is, orB_is (by omega) (by omega)]
  omega
theorem kidsM_rng {k : Int} (h : 0 ≤ kidsM k) : 1 ≤ k ∧ k ≤ 13 := by
  rw [kidsM] at h
  simp only [isM] at h
  repeat' split at h
  all_goals first | omega | (simp at h; done) | (simp at *; omega)
theorem fm_leaf {k n : Int} {ks : List T} (h : formedM (.mk k n ks) = true) (hk : kidsM k = 0) : ks = [] ∧ 0 ≤ n ∧ n ≤ 65535 := by
  rw [formedM_is] at h
  by_cases hl : (ks.length : Int) = kidsM k
  · rw [if_pos hl, if_pos hk] at h
    simp only [Bool.and_eq_true, inB_iff] at h
    exact ⟨List.eq_nil_of_length_eq_zero (by omega), h.1⟩
  · rw [if_neg hl] at h; simp at h
theorem fm_node {k n : Int} {ks : List T} (h : formedM (.mk k n ks) = true) (hk : ¬ kidsM k = 0) : (ks.length : Int) = kidsM k ∧ n = 0 ∧ ∀ x ∈ ks, formedM x = true := by
  rw [formedM_is] at h
  by_cases hl : (ks.length : Int) = kidsM k
  · rw [if_pos hl, if_neg hk] at h
    by_cases hn : n = 0
    · rw [if_pos hn] at h
      exact ⟨hl, hn, fun x hx => (List.all_eq_true.1 h) x hx⟩
    · rw [if_neg hn] at h; simp at h
  · rw [if_neg hl] at h; simp at h
theorem fm_kind {k n : Int} {ks : List T} (h : formedM (.mk k n ks) = true) : 1 ≤ k ∧ k ≤ 13 := by
  refine kidsM_rng ?_
  rw [formedM_is] at h
  split at h
  · omega
  · simp at h
theorem fm_leaf_of {k n : Int} (hk : kidsM k = 0) (h0 : 0 ≤ n) (h1 : n ≤ 65535) : formedM (.mk k n []) = true := by
  rw [formedM_is, if_pos (by simp [hk]), if_pos hk]
  simp [inB_iff, h0, h1]
theorem fm_node_of {k : Int} {ks : List T} (hk : ¬ kidsM k = 0) (hl : (ks.length : Int) = kidsM k) (h : ∀ x ∈ ks, formedM x = true) : formedM (.mk k 0 ks) = true := by
  rw [formedM_is, if_pos hl, if_neg hk, if_pos rfl]
  exact List.all_eq_true.2 h
/-! bytes are in their range; no term's bytes begin another's -/
theorem pkL_byte : ∀ (l : List T), (∀ x ∈ l, byteL (pk x)) → byteL (pkL l)
  | [], _ => by intro x hx; simp [pkL] at hx
  | y :: l, h => by
    intro x hx
    rw [pkL, List.mem_append] at hx
    rcases hx with hx | hx
    · exact h y (by simp) x hx
    · exact pkL_byte l (fun z hz => h z (by simp [hz])) x hx
theorem pk_byte (t : T) : byteL (pk t) := by
  induction t using T.ind with
  | h k n ks ih =>
    intro x hx
    rw [pk] at hx
    split at hx
    · simp only [List.mem_cons, List.not_mem_nil, or_false] at hx
      rcases hx with rfl | rfl | rfl <;> exact u8_rng _
    · rw [List.mem_cons] at hx
      rcases hx with rfl | hx
      · exact u8_rng _
      · exact pkL_byte ks ih x hx
theorem pkL_pre : ∀ (l m : List T) (x y : List Int), l.length = m.length → (∀ t ∈ l, formedM t = true) → (∀ t ∈ m, formedM t = true) → (∀ t ∈ l, ∀ (u : T) (x y : List Int), formedM t = true → formedM u = true → pk t ++ x = pk u ++ y → t = u ∧ x = y) → pkL l ++ x = pkL m ++ y → l = m ∧ x = y
  | [], [], x, y, _, _, _, _, h => ⟨rfl, by simpa [pkL] using h⟩
  | [], _ :: _, _, _, hl, _, _, _, _ => by simp at hl
  | _ :: _, [], _, _, hl, _, _, _, _ => by simp at hl
  | t :: l, u :: m, x, y, hl, h1, h2, ih, h => by
    simp only [pkL, List.append_assoc] at h
    obtain ⟨rfl, h3⟩ := ih t (by simp) u _ _ (h1 t (by simp)) (h2 u (by simp)) h
    obtain ⟨rfl, h4⟩ := pkL_pre l m x y (by simpa using hl) (fun t ht => h1 t (by simp [ht])) (fun t ht => h2 t (by simp [ht])) (fun t ht => ih t (by simp [ht])) h3
    exact ⟨rfl, h4⟩
theorem pk_pre (t : T) : ∀ (u : T) (x y : List Int), formedM t = true → formedM u = true → pk t ++ x = pk u ++ y → t = u ∧ x = y := by
  induction t using T.ind with
  | h k n ks ih =>
    rintro ⟨k', n', ks'⟩ x y h1 h2 h
    have r1 := fm_kind h1
    have r2 := fm_kind h2
    rw [pk, pk, u8_id (by omega) (by omega), u8_id (n := k') (by omega) (by omega)] at h
    simp only [List.cons_append, List.cons.injEq] at h
    obtain ⟨rfl, h⟩ := h
    by_cases hk : kidsM k = 0
    · obtain ⟨rfl, a1, a2⟩ := fm_leaf h1 hk
      obtain ⟨rfl, b1, b2⟩ := fm_leaf h2 hk
      rw [if_pos hk, if_pos hk] at h
      simp only [List.cons_append, List.cons.injEq, List.nil_append] at h
      obtain ⟨e1, e2, rfl⟩ := h
      refine ⟨?_, rfl⟩
      rw [← orB_num a1 a2, ← orB_num b1 b2, e1, e2]
    · obtain ⟨a1, rfl, a3⟩ := fm_node h1 hk
      obtain ⟨b1, rfl, b3⟩ := fm_node h2 hk
      rw [if_neg hk, if_neg hk] at h
      obtain ⟨rfl, e⟩ := pkL_pre ks ks' x y (by omega) a3 b3 ih h
      exact ⟨rfl, e⟩
theorem pk_pos (t : T) : 0 < (pk t).length := by cases t; rw [pk]; simp
/-! what stands there is read -/
theorem take1 (a : Int) (l : List Int) (n : Int) : takeS 1 ⟨a :: l, n, false⟩ = ([a], ⟨l, n, false⟩) := by simp [takeS]
theorem take2 (a b : Int) (l : List Int) (n : Int) : takeS 2 ⟨a :: b :: l, n, false⟩ = ([a, b], ⟨l, n, false⟩) := by
  rw [takeS, if_neg (by simp)]; rfl
theorem pkL_drop (l : List T) (i : Nat) (h : i < l.length) : pkL (l.drop i) = pk l[i] ++ pkL (l.drop (i + 1)) := by
  rw [← List.getElem_cons_drop h, pkL]
theorem rd_good (t : T) : ∀ (f : Nat) (d n : Int) (rest : List Int), formedM t = true → 1 ≤ d → d + depthN t ≤ 201 → 0 ≤ n → n + nodes t ≤ 6000 → d + f = 202 → readS f d ⟨pk t ++ rest, n, false⟩ = (t, ⟨rest, n + nodes t, false⟩) := by
  induction t using T.ind with
  | h k nn ks ih =>
    intro f d n rest hf h1 h2 h3 h4 h5
    have r1 := fm_kind hf
    have hN : nodes (.mk k nn ks) = (ks.map nodes).sum + 1 := by rw [nodes]
    have hD : depthN (.mk k nn ks) = dmax (ks.map depthN) + 1 := by rw [depthN]
    obtain ⟨f, rfl⟩ : ∃ g, f = g + 1 := ⟨f - 1, by omega⟩
    have hw : w64 k = k := w64_id (by omega) (by omega)
    have hwn : w64 (n + 1) = n + 1 := w64_id (by omega) (by omega)
    have hu : u8 k = k := u8_id (by omega) (by omega)
    have hpk : pk (.mk k nn ks) = k :: (if kidsM k = 0 then [u8 (nn.fdiv 256), u8 nn] else pkL ks) := by rw [pk, hu]
    rw [hpk]
    have hk0 : ¬ kidsM k < 0 := by
      intro hlt
      rw [formedM_is, if_neg (by omega)] at hf
      simp at hf
    have hH : ∀ l, headS d ⟨k :: l, n, false⟩ = ⟨l, n + 1, false⟩ := fun l => by
      rw [headS, take1]
      simp only [List.headD_cons, hw, hwn]
      simp [hk0]
      omega
    rw [readS, List.cons_append, take1, List.headD_cons, hw, hH]
    by_cases hk : kidsM k = 0
    · obtain ⟨rfl, a1, a2⟩ := fm_leaf hf hk
      rw [if_pos hk, if_pos hk]
      simp only [List.cons_append, List.nil_append]
      rw [take2]
      simp only [List.headD_cons, List.getD_cons_succ, List.getD_cons_zero, orB_num a1 a2, hN, List.map_nil, List.sum_nil]
      simp
    · obtain ⟨a1, rfl, a3⟩ := fm_node hf hk
      rw [if_neg hk, if_neg hk]
      have hm : (kidsM k).toNat = ks.length := by omega
      have key : ∀ i, i ≤ ks.length → kidsI (readS f (d + 1)) i ⟨pkL ks ++ rest, n + 1, false⟩ = (ks.take i, ⟨pkL (ks.drop i) ++ rest, n + 1 + ((ks.take i).map nodes).sum, false⟩) := by
        intro i
        induction i with
        | zero => intro _; simp [kidsI]
        | succ i ihi =>
          intro hi
          have hlt : i < ks.length := by omega
          have hS := take_nodes ks i hlt
          have hdm : depthN ks[i] ≤ dmax (ks.map depthN) := dmax_mem (List.mem_map.2 ⟨_, List.getElem_mem hlt, rfl⟩)
          rw [kidsI, ihi (by omega)]
          simp only [Bool.false_eq_true, if_false]
          rw [pkL_drop ks i hlt, List.append_assoc, ih ks[i] (List.getElem_mem hlt) f (d + 1) _ _ (a3 _ (List.getElem_mem hlt)) (by omega) (by omega) (by omega) (by omega) (by omega)]
          have hsn : ks.take (i + 1) = ks.take i ++ [ks[i]] := by rw [List.take_add_one, List.getElem?_eq_getElem hlt]; rfl
          rw [hsn]
          simp only [List.map_append, List.map_cons, List.map_nil, List.sum_append, List.sum_cons, List.sum_nil, Prod.mk.injEq, RS.mk.injEq, true_and, and_true]
          omega
      rw [hm, key ks.length (Nat.le_refl _)]
      simp only [List.take_length, List.drop_length, pkL, List.nil_append, hN, Prod.mk.injEq, RS.mk.injEq, true_and, and_true]
      omega
/-! what is read stood there -/
theorem takeS_good {n : Nat} {r : RS} (h : (takeS n r).2.bad = false) : r.bad = false ∧ n ≤ r.left.length ∧ takeS n r = (r.left.take n, ⟨r.left.drop n, r.nodes, false⟩) := by
  rw [takeS] at h ⊢
  by_cases hc : r.bad = true ∨ r.left.length < n
  · rw [if_pos hc] at h; simp at h
  · rw [if_neg hc] at h ⊢
    rw [not_or] at hc
    have hb : r.bad = false := by simpa using hc.1
    exact ⟨hb, by omega, by rw [hb]⟩
theorem kidsI_good {g : RS → T × RS} {r : RS} {i : Nat} (h : (kidsI g i r).2.bad = false) : r.bad = false := by
  cases hb : r.bad with
  | false => rfl
  | true =>
    rw [kidsI_bad g r (i := 0) hb (Nat.zero_le _)] at h
    rw [kidsI] at h
    exact h ▸ hb.symm ▸ rfl
structure Snd (d : Int) (r r' : RS) (t : T) : Prop where
  bad : r.bad = false
  fm : formedM t = true
  left : r.left = pk t ++ r'.left
  nodes : r'.nodes = r.nodes + Ev.nodes t
  few : r'.nodes ≤ 6000
  deep : d + depthN t ≤ 201
theorem rd_sound : ∀ (f : Nat) (d : Int) (r : RS), byteL r.left → 0 ≤ r.nodes → r.nodes ≤ 6000 → 1 ≤ d → d + f = 202 → 0 < f → (readS f d r).2.bad = false → Snd d r (readS f d r).2 (readS f d r).1
  | 0, _, _, _, _, _, _, _, h, _ => absurd h (by omega)
  | f + 1, d, r, hB, hn0, hn1, hd, hf, _, hbad => by
    have IH := fun r => rd_sound f (d + 1) r
    have hhead : (headS d r).bad = false := by
      rw [readS] at hbad
      split at hbad
      · exact (takeS_good hbad).1
      · exact kidsI_good hbad
    have hh2 := hhead
    simp only [headS, Bool.or_eq_false_iff, decide_eq_false_iff_not] at hh2
    obtain ⟨⟨⟨b1, b2⟩, b3⟩, b4⟩ := hh2
    obtain ⟨c1, c2, c3⟩ := takeS_good b1
    obtain ⟨left, nn, bb⟩ := r
    simp only at c1 c2 c3 hB hn0 hn1
    subst c1
    match left, c2, hB with
    | a :: l, _, hB =>
    have ha := hB a (by simp)
    rw [take1] at b2 b3
    simp only [List.headD_cons] at b2 b3
    have hw : w64 a = a := w64_id (by omega) (by omega)
    have hwn : w64 (nn + 1) = nn + 1 := w64_id (by omega) (by omega)
    rw [hw] at b2
    rw [hwn] at b3
    have hR0 : headS d ⟨a :: l, nn, false⟩ = ⟨l, nn + 1, false⟩ := by
      have e := hhead
      rw [headS, take1] at e ⊢
      simp only [hwn, RS.mk.injEq, true_and]
      simpa [hwn] using e
    have hk := kidsM_rng (by omega : 0 ≤ kidsM a)
    have hu : u8 a = a := u8_id (by omega) (by omega)
    by_cases h0 : kidsM a = 0
    · have hR : readS (f + 1) d ⟨a :: l, nn, false⟩ = (.mk a (orB ((takeS 2 ⟨l, nn + 1, false⟩).1.headD 0) ((takeS 2 ⟨l, nn + 1, false⟩).1.getD 1 0)) [], (takeS 2 ⟨l, nn + 1, false⟩).2) := by
        rw [readS, take1, List.headD_cons, hw, if_pos h0, hR0]
      rw [hR] at hbad ⊢
      obtain ⟨_, d2, d3⟩ := takeS_good hbad
      simp only at d2 d3
      match l, d2, hB with
      | x :: y :: l, _, hB =>
        rw [take2]
        simp only [List.headD_cons, List.getD_cons_succ, List.getD_cons_zero]
        have hx := hB x (by simp)
        have hy := hB y (by simp)
        rw [orB_is hx hy]
        have e1 : u8 ((x * 256 + y).fdiv 256) = x := by
          rw [Int.fdiv_eq_ediv_of_nonneg _ (by omega), u8_is]; omega
        have e2 : u8 (x * 256 + y) = y := by rw [u8_is]; omega
        refine ⟨rfl, fm_leaf_of h0 (by omega) (by omega), ?_, by rw [leaf_nodes]; rfl, by simpa using b3, by rw [leaf_depth]; omega⟩
        rw [pk, if_pos h0, hu, e1, e2]
        rfl
    · have hR : readS (f + 1) d ⟨a :: l, nn, false⟩ = (.mk a 0 (kidsI (readS f (d + 1)) (kidsM a).toNat ⟨l, nn + 1, false⟩).1, (kidsI (readS f (d + 1)) (kidsM a).toNat ⟨l, nn + 1, false⟩).2) := by
        rw [readS, take1, List.headD_cons, hw, if_neg h0, hR0]
      rw [hR] at hbad ⊢
      have hBl : byteL l := fun x hx => hB x (by simp [hx])
      have key : ∀ i, (kidsI (readS f (d + 1)) i ⟨l, nn + 1, false⟩).2.bad = false →
          l = pkL (kidsI (readS f (d + 1)) i ⟨l, nn + 1, false⟩).1 ++ (kidsI (readS f (d + 1)) i ⟨l, nn + 1, false⟩).2.left ∧ (kidsI (readS f (d + 1)) i ⟨l, nn + 1, false⟩).1.length = i ∧
          (∀ x ∈ (kidsI (readS f (d + 1)) i ⟨l, nn + 1, false⟩).1, formedM x = true ∧ d + 1 + depthN x ≤ 201) ∧
          (kidsI (readS f (d + 1)) i ⟨l, nn + 1, false⟩).2.nodes = nn + 1 + (((kidsI (readS f (d + 1)) i ⟨l, nn + 1, false⟩).1.map Ev.nodes).sum : Nat) ∧ (kidsI (readS f (d + 1)) i ⟨l, nn + 1, false⟩).2.nodes ≤ 6000 := by
        intro i
        induction i with
        | zero => intro _; simp [kidsI, pkL]; omega
        | succ i ihi =>
          intro hb
          rw [kidsI] at hb ⊢
          by_cases hbi : (kidsI (readS f (d + 1)) i ⟨l, nn + 1, false⟩).2.bad = true
          · rw [if_pos hbi, hbi] at hb; cases hb
          · rw [if_neg hbi] at hb ⊢
            obtain ⟨k1, k2, k3, k4, k5⟩ := ihi (by simpa using hbi)
            generalize kidsI (readS f (d + 1)) i ⟨l, nn + 1, false⟩ = q at *
            obtain ⟨ks, r⟩ := q
            simp only at k1 k2 k3 k4 k5 hb ⊢
            obtain ⟨s1, s2, s3, s4, s5, s6⟩ := IH r (fun x hx => hBl x (by rw [k1]; simp [hx])) (by omega) k5 (by omega) (by omega) (by omega) hb
            refine ⟨?_, by simp [k2], ?_, ?_, s5⟩
            · rw [pkL_snoc, List.append_assoc, ← s3]; exact k1
            · intro x hx
              rw [List.mem_append, List.mem_singleton] at hx
              rcases hx with hx | rfl
              · exact k3 x hx
              · exact ⟨s2, s6⟩
            · simp only [List.map_append, List.map_cons, List.map_nil, List.sum_append, List.sum_cons, List.sum_nil]
              omega
      obtain ⟨k1, k2, k3, k4, k5⟩ := key _ hbad
      generalize kidsI (readS f (d + 1)) (kidsM a).toNat ⟨l, nn + 1, false⟩ = q at *
      obtain ⟨ks, r⟩ := q
      simp only at k1 k2 k3 k4 k5 hbad ⊢
      have hks3 := kidsM_le a
      refine ⟨rfl, fm_node_of h0 (by omega) fun x hx => (k3 x hx).1, ?_, ?_, k5, ?_⟩
      · rw [pk, if_neg h0, hu, k1]; rfl
      · rw [Ev.nodes]; simp only; omega
      · rw [depthN]
        have : dmax (ks.map depthN) ≤ (200 - d).toNat := dmax_le fun x hx => by
          obtain ⟨y, hy, rfl⟩ := List.mem_map.1 hx
          have := (k3 y hy).2
          omega
        omega
end Ev
end Go.Proofs.Ytjebpfhffenbnaa
