/- pack: what the reader reads. -/
import Derived.Test.YtjebpfhffenbnaaZE
namespace Go.Proofs.Ytjebpfhffenbnaa
namespace Ev
open Go
set_option maxRecDepth 100000
set_option linter.unusedSimpArgs false
set_option linter.unusedVariables false
attribute [local simp] allD_map_d sks_map_d tk tn tks initA EndsM
theorem read_ok : ∀ (f : Nat) (d : Int) (v : Nat) (r : RS), 0 < f → 1 ≤ d → d + f = 202 → MutC Try.prog n_pack_reader_read [.ptr 21 v 0, .d (.int .i64 d)] [21] (rH v r) [.agg (cT (readS f d r).1)] (rH v (readS f d r).2)
  | 0, _, _, _, h, _, _ => absurd h (by omega)
  | f + 1, d, v, r, _, hd, hf => by
    have IH := read_ok f (d + 1) v
    refine r_mut Try.func31 c_pack_reader_read rfl fun h hh hl => ?_
    have hd1 : IntKind.i64.wrap (d + 1) = d + 1 := wrap_id (by omega) (by omega)
    obtain ⟨a, ha⟩ : ∃ a, (takeS 1 r).1 = [a] := by
      have := takeS_len 1 r
      match hx : (takeS 1 r).1, this with
      | [a], _ => exact ⟨a, rfl⟩
    have hT := take_ok v r 1 (by omega)
    rw [ha] at hT
    simp only [eB, List.map_cons, List.map_nil] at hT
    generalize hr1 : (takeS 1 r).2 = r1 at hT
    obtain ⟨l1, n1, b1⟩ := r1
    have hH : headS d r = ⟨l1, w64 (n1 + 1), b1 || decide (kidsM (w64 a) < 0) || decide (6000 < w64 (n1 + 1)) || decide (200 < d)⟩ := by rw [headS, hr1, ha]; rfl
    simp -dsimp [x_pack_reader_read, hh]
    refine callM_of hT (by simp [rH, hh]) ?_
    simp -dsimp [mergeK_cons, mergeK_nil, rH, hh]
    refine call_of (kids_ok _) ?_
    by_cases h0 : kidsM (IntKind.i64.wrap a) = 0
    · have hR : readS (f + 1) d r = (.mk (w64 a) (orB ((takeS 2 (headS d r)).1.headD 0) ((takeS 2 (headS d r)).1.getD 1 0)) [], (takeS 2 (headS d r)).2) := by
        rw [readS, ha, List.headD_cons, if_pos (show kidsM (w64 a) = 0 from h0)]
      rw [hR]
      obtain ⟨c0, c1, hc⟩ : ∃ c0 c1, (takeS 2 (headS d r)).1 = [c0, c1] := by
        have := takeS_len 2 (headS d r)
        match hx : (takeS 2 (headS d r)).1, this with
        | [c0, c1], _ => exact ⟨c0, c1, rfl⟩
      have hT2 := take_ok v (headS d r) 2 (by omega)
      rw [hc] at hT2 ⊢
      generalize hr2 : (takeS 2 (headS d r)).2 = r2 at hT2 ⊢
      obtain ⟨l2, n2, b2⟩ := r2
      rw [hH] at hT2
      simp only [eB, List.map_cons, List.map_nil, w64] at hT2
      have n0 : ¬ kidsM (IntKind.i64.wrap a) < 0 := by omega
      have n1' : ¬ kidsM (IntKind.i64.wrap a) > 0 := by omega
      cases b1 <;> cases hq3 : decide (6000 < IntKind.i64.wrap (n1 + 1)) <;> cases hq4 : decide (200 < d)
      all_goals
        simp only [h0, hq3, hq4, Bool.or_true, Bool.true_or, Bool.or_false, Bool.false_or, n0, decide_false] at hT2
        simp only [decide_eq_true_eq, decide_eq_false_iff_not] at hq3 hq4
        simp -dsimp [hh, n0, h0, hq3, hq4]
        refine callM_of hT2 (by simp [rH, hh, n0, h0, hq3, hq4]) ?_
        simp -dsimp [mergeK_cons, mergeK_nil, rH, hh, h0, n0, hq3, hq4]
        refine wp_upto 0 (fun i st => st.s 6 = .d (.int .i64 0) ∧ (∃ u, st.s 5 = .ptr 5 u 0 ∧ st.h 5 = ⟨u, .box [.d (.int .i64 (IntKind.i64.wrap a)), .d (.int .i64 (orB c0 c1)), .fsl 3 []] false⟩) ∧ (∃ u, st.s 4 = .ptr 4 u 0 ∧
          st.h 4 = ⟨u, .box [.d (.int .i64 0), .d (.int .i64 0), .fsl 3 []] false⟩) ∧ st.h 21 = ⟨v, .box [.d (.sl 1 (l2.map (.int .u8))), .d (.int .i64 n2), .d (.bool b2)] false⟩) ?_ ?_
        · simp -dsimp [hh]
          rfl
        · rintro i ⟨s, hpp⟩ hi ⟨e1, ⟨u, e2, e3⟩, ⟨u', e4, e5⟩, e6⟩
          dsimp only at e1 e2 e3 e4 e5 e6
          simp -dsimp [e1, e2, e3, e4, e5, e6, rH, cT]
          rfl
    · have hR : readS (f + 1) d r = (.mk (w64 a) 0 (kidsI (readS f (d + 1)) (kidsM (w64 a)).toNat (headS d r)).1, (kidsI (readS f (d + 1)) (kidsM (w64 a)).toNat (headS d r)).2) := by
        rw [readS, ha, List.headD_cons, if_neg (show ¬ kidsM (w64 a) = 0 from h0)]
      rw [hR]
      have hk3 := kidsM_le (IntKind.i64.wrap a)
      have hcase : (b1 = true) ∨ (b1 = false ∧ kidsM (IntKind.i64.wrap a) < 0) ∨ (b1 = false ∧ ¬ kidsM (IntKind.i64.wrap a) < 0 ∧ 6000 < IntKind.i64.wrap (n1 + 1)) ∨ (b1 = false ∧ ¬ kidsM (IntKind.i64.wrap a) < 0 ∧ ¬ 6000 < IntKind.i64.wrap (n1 + 1) ∧ 200 < d) ∨
          (b1 = false ∧ ¬ kidsM (IntKind.i64.wrap a) < 0 ∧ ¬ 6000 < IntKind.i64.wrap (n1 + 1) ∧ ¬ 200 < d) := by
        cases b1 <;> by_cases q2 : kidsM (IntKind.i64.wrap a) < 0 <;> by_cases q3 : 6000 < IntKind.i64.wrap (n1 + 1) <;> by_cases q4 : 200 < d <;> simp [q2, q3, q4]
      have hf0 : (headS d r).bad = false → 0 < f := fun hb => by
        rw [hH] at hb
        simp at hb
        omega
      have hbad0 : (headS d r).bad = true → ∀ i, kidsI (readS f (d + 1)) i (headS d r) = ([], headS d r) := fun hb i => kidsI_bad _ _ (i := 0) hb (Nat.zero_le _)
      have hw : w64 a = IntKind.i64.wrap a := rfl
      rw [hw]
      generalize hK : IntKind.i64.wrap a = K at *
      generalize hR0 : headS d r = R0 at *
      generalize hg : readS f (d + 1) = g at *
      have hfin : ∀ i, i ≤ (kidsM K).toNat → (kidsI g i R0).2.bad = true → kidsI g (kidsM K).toNat R0 = kidsI g i R0 := fun i hi hb => kidsI_bad g R0 hb hi
      generalize hm0 : (kidsM K).toNat = m at *
      rcases hcase with hq | hq | hq | hq | hq
      all_goals
        first
        | have hB : R0 = ⟨l1, IntKind.i64.wrap (n1 + 1), true⟩ := by (rw [hH]; simp [w64, hK, hq])
        | have hB : R0 = ⟨l1, IntKind.i64.wrap (n1 + 1), false⟩ := by (rw [hH]; simp [w64, hK, hq])
      all_goals
        simp -dsimp [hh, h0, hq]
        refine wp_upto m (fun i st => st.s 0 = .ptr 21 v 0 ∧ st.s 1 = .d (.int .i64 d) ∧ st.s 6 = .d (.int .i64 (kidsM K - i)) ∧
          (∃ u c, st.s 5 = .ptr 5 u 0 ∧ st.h 5 = ⟨u, .box [.d (.int .i64 K), .d (.int .i64 0), c] false⟩ ∧ (((kidsI g i R0).1 = [] ∧ c = .fsl 3 []) ∨ ((kidsI g i R0).1 ≠ [] ∧ ∃ q, c = .rsl 79 q ∧ st.h 79 = ⟨q, .row 3 ((kidsI g i R0).1.map eT) false⟩))) ∧
          (∃ u, st.s 4 = .ptr 4 u 0 ∧ st.h 4 = ⟨u, .box [.d (.int .i64 0), .d (.int .i64 0), .fsl 3 []] false⟩) ∧
          st.h 21 = ⟨v, .box [.d (.sl 1 ((kidsI g i R0).2.left.map (.int .u8))), .d (.int .i64 (kidsI g i R0).2.nodes), .d (.bool (kidsI g i R0).2.bad)] false⟩ ∧ (kidsI g i R0).1.length ≤ i) ?_ ?_
        · simp -dsimp [hh, kidsI, hB]
        · clear hB hq hH hT hr1 ha hl hh
          rintro i ⟨s, hpp⟩ hi ⟨e1, e2, e3, ⟨u, c, e4, e5, e6⟩, ⟨u', e7, e8⟩, e9, e10⟩
          dsimp only at e1 e2 e3 e4 e5 e6 e7 e8 e9
          by_cases hlt : i < m
          · have hpos : (i : Int) < kidsM K := by omega
            cases hb : (kidsI g i R0).2.bad
            · have hR0b : R0.bad = false := by
                cases h : R0.bad with
                | false => rfl
                | true => rw [hbad0 h i] at hb; exact absurd (hb.symm.trans h) (by simp)
              have hI := IH (kidsI g i R0).2 (hf0 hR0b) (by omega) (by omega)
              have hN : kidsI g (i + 1) R0 = ((kidsI g i R0).1 ++ [(g (kidsI g i R0).2).1], (g (kidsI g i R0).2).2) := by rw [kidsI, if_neg (by simp [hb])]
              rw [hN]
              have hw1 : IntKind.i64.wrap (kidsM K - (i : Int) - 1) = kidsM K - ((i : Int) + 1) := by rw [wrap_id (by omega) (by omega)]; omega
              clear hN hfin hbad0
              generalize (kidsI g i R0) = q at *
              obtain ⟨ks', r'⟩ := q
              generalize hg2 : g r' = q2 at *
              obtain ⟨t2, r2⟩ := q2
              simp only at hI hg2 e6 e9 e10 hb
              have hrm : (ks'.length + 1) * 40 ≤ maxRoom := by simp only [maxRoom]; omega
              have h40 : 40 ≤ maxRoom := by simp only [maxRoom]; omega
              simp -dsimp [e1, e2, e3, e4, e5, e7, e8, e9, hpos, hb, hd1]
              refine callM_of hI ?_ ?_
              · simp [rH, e9, hb]
              rcases e6 with ⟨rfl, rfl⟩ | ⟨hne, q, rfl, e6⟩
              · simp -dsimp [mergeK_cons, mergeK_nil, rH, e1, e2, e3, e4, e5, e7, e8, e9, hw1, cT, hlt, h40]
                rw [eT_eq, cT]
              · simp -dsimp [mergeK_cons, mergeK_nil, rH, e1, e2, e3, e4, e5, e6, e7, e8, e9, hw1, cT, hlt, hrm]
                exact ⟨by rw [eT_eq, cT], by omega⟩
            · rw [hfin i hi hb]
              clear hfin hbad0
              generalize (kidsI g i R0) = q at *
              obtain ⟨ks', r'⟩ := q
              simp only at e6 e9 e10 hb ⊢
              rcases e6 with ⟨rfl, rfl⟩ | ⟨hne, q, rfl, e6⟩
              · simp -dsimp [e1, e2, e3, e4, e5, e7, e8, e9, hb, hpos, rH, cT]
              · simp -dsimp [e1, e2, e3, e4, e5, e6, e7, e8, e9, hb, hpos, rH, cT]
          · have hi' : i = m := by omega
            subst hi'
            have hnpos : ¬ ((i : Int) < kidsM K) := by omega
            clear hfin hbad0
            generalize (kidsI g i R0) = q at *
            obtain ⟨ks', r'⟩ := q
            simp only at e6 e9 e10 ⊢
            rcases e6 with ⟨rfl, rfl⟩ | ⟨hne, q, rfl, e6⟩
            · simp -dsimp [e1, e2, e3, e4, e5, e7, e8, e9, hnpos, rH, cT]
            · simp -dsimp [e1, e2, e3, e4, e5, e6, e7, e8, e9, hnpos, rH, cT]
end Ev
end Go.Proofs.Ytjebpfhffenbnaa
