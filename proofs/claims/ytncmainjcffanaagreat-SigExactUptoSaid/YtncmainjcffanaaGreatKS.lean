/- The document's shift (the first part of what K1 was). -/
import Derived.Test.YtncmainjcffanaaGreatQ3
import Derived.Test.YtncmainjcffanaaGreatH4
namespace Go.Proofs.YtncmainjcffanaaGreat
namespace Ev
open Go
set_option maxRecDepth 100000
set_option linter.unusedSimpArgs false
set_option linter.unusedVariables false
section
attribute [local simp] allD_map_d sks_map_d tk tn tks initA EndsM
theorem num_of {k n : Int} {ks : List T} (hfm : formedM (.mk k n ks) = true) : 0 ≤ n ∧ n ≤ 65535 := by
  rw [formedM_is] at hfm
  split at hfm
  · split at hfm
    · rw [Bool.and_eq_true, inB_iff] at hfm
      exact hfm.1
    · split at hfm
      · omega
      · cases hfm
  · cases hfm
theorem shBL_snoc (fr y k b : Int) : ∀ (l : List T) (i j : Nat) (h : j < l.length), shBL fr y k b i (l.take (j + 1)) = (shBL fr y k b i (l.take j) && shB fr y l[j] (b + bindsM k (i + j : Nat)))
  | x :: xs, i, 0, h => by simp [shBL]
  | x :: xs, i, j + 1, h => by
    have := shBL_snoc fr y k b xs (i + 1) j (by simpa using h)
    simp only [List.take_succ_cons, shBL, List.getElem_cons_succ, this, Bool.and_assoc]
    rw [show i + 1 + j = i + (j + 1) by omega]
theorem move_ok (y fr : Int) (hy : 0 ≤ y ∧ y ≤ 65535) (hfr : 0 ≤ fr ∧ fr ≤ 65535) (t : T) : ∀ b : Int, formedM t = true → 0 ≤ b → b + nodes t ≤ 4194304 → Pure Tryz.prog n_porismref01_move [.agg (cT t), .int .i64 y, .int .i64 (fr + b)] [.agg (cT (mapT (shF fr y) t b)), .bool (!shB fr y t b)] := by
  refine T.ind (p := fun t => ∀ b : Int, formedM t = true → 0 ≤ b → b + nodes t ≤ 4194304 → Pure Tryz.prog n_porismref01_move [.agg (cT t), .int .i64 y, .int .i64 (fr + b)] [.agg (cT (mapT (shF fr y) t b)), .bool (!shB fr y t b)]) ?_ t
  intro k n ks ih b hfm h0 hb
  refine p_porismref01_move rfl fun hs => ?_
  by_cases h1 : k = 1
  · subst h1
    have hks := var_leaf rfl hfm
    subst hks
    obtain ⟨n0, n1⟩ := var_formed rfl hfm
    have w1 : IntKind.i64.wrap (n + y) = n + y := wrap_id (by omega) (by omega)
    have hM : mapT (shF fr y) (.mk 1 n []) b = .mk 1 (if n < fr + b then n else n + y) [] := by rw [map_var, shF]
    have hB : shB fr y (.mk 1 n []) b = (decide (n < fr + b) || decide (n + y ≤ 65535)) := by rw [shB, if_pos rfl]
    rw [hM, hB]
    simp -dsimp [x_porismref01_move, cT]
    by_cases c : fr + b ≤ n
    · have c' : ¬ n < fr + b := by omega
      simp -dsimp [c, c', w1]
      refine wp_upto 0 (fun i st => st.s 3 = .ptr 3 1 0 ∧ st.s 8 = .ptr 8 1 0 ∧ st.s 6 = .ptr 6 1 0 ∧ st.s 9 = .d (.bool (decide (65535 < n + y))) ∧ st.s 10 = .d (.int .i64 i) ∧ st.h 3 = ⟨1, .box [.d (.int .i64 1), .d (.int .i64 n), .d (.sl 3 [])] false⟩ ∧ st.h 8 = ⟨1, .box [.d (.int .i64 1), .d (.int .i64 (n + y)), .fsl 3 []] false⟩ ∧ st.h 6 = ⟨1, .box [.d (.int .i64 0), .d (.int .i64 0), .fsl 3 []] false⟩) ?_ ?_
      · simp -dsimp
      · rintro i ⟨s, hp⟩ hi ⟨e3, e8, e6, e9, e10, k3, k8, k6⟩
        dsimp only at e3 e8 e6 e9 e10 k3 k8 k6
        have : i = 0 := by omega
        subst this
        simp -dsimp [e3, e8, e6, e9, e10, k3, k8, k6]
        exact ⟨fun h => by omega, by rw [Bool.eq_iff_iff]; simp; omega⟩
    · have c' : n < fr + b := by omega
      simp -dsimp [c, c', w1]
      refine wp_upto 0 (fun i st => st.s 3 = .ptr 3 1 0 ∧ st.s 8 = .ptr 8 1 0 ∧ st.s 6 = .ptr 6 1 0 ∧ st.s 9 = .d (.bool (decide (65535 < n))) ∧ st.s 10 = .d (.int .i64 i) ∧ st.h 3 = ⟨1, .box [.d (.int .i64 1), .d (.int .i64 n), .d (.sl 3 [])] false⟩ ∧ st.h 8 = ⟨1, .box [.d (.int .i64 1), .d (.int .i64 n), .fsl 3 []] false⟩ ∧ st.h 6 = ⟨1, .box [.d (.int .i64 0), .d (.int .i64 0), .fsl 3 []] false⟩) ?_ ?_
      · simp -dsimp
      · rintro i ⟨s, hp⟩ hi ⟨e3, e8, e6, e9, e10, k3, k8, k6⟩
        dsimp only at e3 e8 e6 e9 e10 k3 k8 k6
        have : i = 0 := by omega
        subst this
        simp -dsimp [e3, e8, e6, e9, e10, k3, k8, k6]
        exact ⟨fun h => by omega, by rw [Bool.eq_iff_iff]; simp; omega⟩
  · obtain ⟨n0, n1⟩ := num_of hfm
    have hln := (slim_of _ hfm).kids.1
    have hM : mapT (shF fr y) (.mk k n ks) b = .mk k n (mapL (shF fr y) k b 0 ks) := by rw [mapT, if_neg h1]
    have hB : shB fr y (.mk k n ks) b = shBL fr y k b 0 ks := by rw [shB, if_neg h1]
    have hl := mapL_len (shF fr y) k b ks 0
    rw [hM, hB]
    have n2 : ¬ 65535 < n := by omega
    simp -dsimp [x_porismref01_move, cT, h1, n2]
    generalize hML : mapL (shF fr y) k b 0 ks = ml at *
    refine wp_upto ks.length (fun i st => st.s 1 = .d (.int .i64 y) ∧ st.s 2 = .d (.int .i64 (fr + b)) ∧ st.s 3 = .ptr 3 1 0 ∧ st.s 8 = .ptr 8 1 0 ∧ st.s 6 = .ptr 6 1 0 ∧ st.s 9 = .d (.bool (!shBL fr y k b 0 (ks.take i))) ∧ st.s 10 = .d (.int .i64 i) ∧ st.h 3 = ⟨1, .box [.d (.int .i64 k), .d (.int .i64 n), .d (.sl 3 (ks.map eT))] false⟩ ∧
      st.h 6 = ⟨1, .box [.d (.int .i64 0), .d (.int .i64 0), .fsl 3 []] false⟩ ∧ ∃ c, st.h 8 = ⟨1, .box [.d (.int .i64 k), .d (.int .i64 n), c] false⟩ ∧ ((i = 0 ∧ c = .fsl 3 []) ∨ (0 < i ∧ ∃ v, c = .rsl 62 v ∧ st.h 62 = ⟨v, .row 3 ((ml.map eT).take i) false⟩))) ?_ ?_
    · simp -dsimp [shBL]
    · rintro i ⟨s, hp⟩ hi ⟨e1, e2, e3, e8, e6, e9, e10, k3, k6, c, k8, hc⟩
      dsimp only at e1 e2 e3 e8 e6 e9 e10 k3 k6 k8 hc
      rcases Nat.lt_or_ge i ks.length with hlt | hge
      · have w1 : IntKind.i64.wrap ((i : Int) + 1) = (i : Int) + 1 := wrap_id (by omega) (by omega)
        have hbl := binds_le k i
        have hkn := nodes_kid (k := k) (n := n) (List.getElem_mem hlt)
        have w2 : IntKind.i64.wrap (fr + b + bindsM k i) = fr + (b + bindsM k i) := by rw [wrap_id (by omega) (by omega)]; omega
        have hrec := ih ks[i] (List.getElem_mem _) (b + bindsM k i) (kids_formed hfm _ (List.getElem_mem _)) (by omega) (by omega)
        have hs1 := shBL_snoc fr y k b ks 0 i hlt
        rw [Nat.zero_add] at hs1
        have hg := mapL_get (shF fr y) k b ks 0 i hlt
        rw [Nat.zero_add] at hg
        have hn := take_next eT cT eT_eq ml i (by omega)
        simp only [hML] at hg
        rw [hg] at hn
        have hr : (min i ml.length + 1) * 40 ≤ maxRoom := by simp only [maxRoom]; omega
        generalize mapT (shF fr y) ks[i] (b + bindsM k i) = Y at *
        generalize shB fr y ks[i] (b + bindsM k i) = Z at *
        generalize hX : ks[i] = X at *
        simp only [cT] at hrec hn
        simp -dsimp [e1, e2, e3, e8, e6, e9, e10, k3, k6, k8, hlt, hX, cT]
        refine call_of (rbinds_ok k i) ?_
        simp -dsimp [e1, e2, e3, e8, e6, e9, e10, k3, k6, k8, hlt, hX, cT, w2]
        refine call_of hrec ?_
        simp -dsimp [e1, e2, e3, e8, e6, e9, e10, k3, k6, k8, hlt, hX, cT, w1, w2, hs1]
        have hb2 : (!(shBL fr y k b 0 (ks.take i) && Z)) = (!shBL fr y k b 0 (ks.take i) || !Z) := by cases shBL fr y k b 0 (ks.take i) <;> cases Z <;> rfl
        rcases hc with ⟨rfl, rfl⟩ | ⟨hi0, v, rfl, hc⟩
        · have hne : ¬ ml = [] := List.ne_nil_of_length_pos (by omega)
          simp only [List.take_zero, List.nil_append, Nat.zero_add] at hn
          have hz : shBL fr y k b 0 (ks.take 0) = true := by simp [shBL]
          rw [hz] at hs1
          rw [List.take_zero] at e9
          have hz2 : shBL fr y k b 0 [] = true := by simp [shBL]
          have h40 : 40 ≤ maxRoom := by simp only [maxRoom]; omega
          simp at hlt w1
          simp -dsimp [e1, e2, e3, e8, e6, e9, e10, k3, k6, k8, hlt, hX, cT, w1, hs1, hz2, hn, h40]
        · cases hSh : shBL fr y k b 0 (ks.take i) with
          | true =>
            rw [hSh] at hs1 e9
            simp -dsimp [e1, e2, e3, e8, e6, e9, e10, k3, k6, k8, hc, hlt, hX, cT, w1, hs1, hn, hr]
          | false =>
            rw [hSh] at hs1 e9
            simp -dsimp [e1, e2, e3, e8, e6, e9, e10, k3, k6, k8, hc, hlt, hX, cT, w1, hs1, hn, hr]
      · have e : i = ks.length := by omega
        subst e
        rw [List.take_length] at e9
        rcases hc with ⟨hz, rfl⟩ | ⟨hi0, v, rfl, hc⟩
        · have hm : ml = [] := List.length_eq_zero_iff.1 (by omega)
          have hkz : ks = [] := List.length_eq_zero_iff.1 hz
          simp -dsimp [e1, e2, e3, e8, e6, e9, e10, k3, k6, k8, hm, hkz]
        · rw [List.take_of_length_le (by simp; omega)] at hc
          simp -dsimp [e1, e2, e3, e8, e6, e9, e10, k3, k6, k8, hc]
theorem shiftE_is {t : T} {y fr : Int} (hc : checkM t = 0) (hy : 0 ≤ y ∧ y ≤ 65535) (hf : 0 ≤ fr ∧ fr ≤ 65535) : shiftE t y fr = if shB fr y t 0 = true then 0 else 6 := by
  rw [shiftE, if_pos hc, if_pos ((inB_iff _ _ _).2 hy), if_pos ((inB_iff _ _ _).2 hf), shE_is fr y t 0 0 (.inl rfl)]
theorem rshift_ok (t : T) (y fr : Int) (hn : nodes t ≤ 1048576) : Pure Tryz.prog n_porismref01_Shift [.agg (cT t), .int .i64 y, .int .i64 fr] [.agg (cT (shiftT t y fr)), .int .i64 (shiftE t y fr)] := by
  refine p_porismref01_Shift rfl fun hs => ?_
  have hC := rcheck_ok t
  simp only [cT] at hC
  simp -dsimp [x_porismref01_Shift, cT]
  refine call_of hC ?_
  by_cases hc : checkM t = 0
  case neg =>
    have hE : shiftE t y fr = checkM t := by rw [shiftE, if_neg hc]
    have hT : shiftT t y fr = zT := by rw [shiftT, hE, if_neg hc]
    simp -dsimp [hc, hE, hT, zT, cT]
  simp -dsimp [hc]
  refine call_of (rin_ok y 0 65535) ?_
  by_cases hy : inB y 0 65535 = true
  case neg =>
    have hy' : inB y 0 65535 = false := by simpa using hy
    have hE : shiftE t y fr = 1 := by rw [shiftE, if_pos hc, if_neg hy]
    have hT : shiftT t y fr = zT := by rw [shiftT, hE, if_neg (by omega)]
    simp -dsimp [hc, hy', hE, hT, zT, cT]
  simp -dsimp [hc, hy]
  refine call_of (rin_ok fr 0 65535) ?_
  by_cases hf : inB fr 0 65535 = true
  case neg =>
    have hf' : inB fr 0 65535 = false := by simpa using hf
    have hE : shiftE t y fr = 1 := by rw [shiftE, if_pos hc, if_pos hy, if_neg hf]
    have hT : shiftT t y fr = zT := by rw [shiftT, hE, if_neg (by omega)]
    simp -dsimp [hc, hy, hf', hE, hT, zT, cT]
  have hE := shiftE_is hc ((inB_iff _ _ _).1 hy) ((inB_iff _ _ _).1 hf)
  have hM := move_ok y fr ((inB_iff _ _ _).1 hy) ((inB_iff _ _ _).1 hf) t 0 (formed_of hc) (by omega) (by omega)
  rw [Int.add_zero] at hM
  simp only [cT] at hM
  simp -dsimp [hc, hy, hf]
  refine call_of hM ?_
  cases hB : shB fr y t 0 with
  | true =>
    rw [hB, if_pos rfl] at hE
    have hT : shiftT t y fr = mapT (shF fr y) t 0 := shift_at hE
    simp -dsimp [hc, hy, hf, hB, hE, hT, cT]
  | false =>
    rw [hB, if_neg (by simp)] at hE
    have hT : shiftT t y fr = zT := by rw [shiftT, hE, if_neg (by omega)]
    simp -dsimp [hc, hy, hf, hB, hE, hT, cT, zT]
end
end Ev
end Go.Proofs.YtncmainjcffanaaGreat
