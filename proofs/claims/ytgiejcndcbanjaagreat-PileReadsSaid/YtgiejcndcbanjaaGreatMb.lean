/- Texts of this claim, in one. -/
import Derived.Test.YtgiejcndcbanjaaGreatMa
set_option maxRecDepth 100000
set_option linter.unusedSimpArgs false
set_option linter.unusedVariables false
namespace Go.Proofs.YtgiejcndcbanjaaGreat
namespace Ev
open Go
section
attribute [local simp] allD_map_d sks_map_d tk tn tks initA EndsM
structure RX where
  b : List Int
  at_ : Nat
  nodes : Int
  bad : Bool
def xH (v : Nat) (r : RX) : Nat → Ent := fun _ => ⟨v, .box [.d (.sl 1 (r.b.map (.int .u8))), .d (.int .i64 r.at_), .d (.int .i64 r.nodes), .d (.bool r.bad)] false⟩
theorem mutX {f : FuncId} {fn : Func} {x : XFn} (hf : Tryz.prog.funcs[f]? = some fn) (hx : cfn Tryz.prog fn = some x) {aa : List AV} {v : Nat} {r r' : RX} {rs : List D} (hl : aa.length = x.np)
    (hw : ∀ (h : Nat → Ent), h 18 = ⟨v, .box [.d (.sl 1 (r.b.map (.int .u8))), .d (.int .i64 r.at_), .d (.int .i64 r.nodes), .d (.bool r.bad)] false⟩ → r.b.length ≤ 9223372036854775807 → wpX Tryz.prog x.code (EndsM x.res rs [18] (xH v r')) ⟨initA aa, h⟩) : MutC Tryz.prog f aa [18] (xH v r) rs (xH v r') := by
  by_cases hlen : r.b.length ≤ 9223372036854775807
  · exact mut_of hm hf hx hl (fun k hk c hc => by simp [xH] at hc; rcases hc with rfl | rfl | rfl | rfl <;> exact .d _) fun G h w vs hk _ hr => hw h (hk 18 (by simp)) hlen
  · refine ⟨enters_of hf hx, fun k hk c hc => by simp [xH] at hc; rcases hc with rfl | rfl | rfl | rfl <;> exact .d _, fun G h w vs hk _ hi _ _ => (hlen ?_).elim⟩
    have he := hi.ent 18
    rw [hk 18 (by simp)] at he
    obtain ⟨b, arr, el, _, _, _, hrel, _⟩ := he
    have := ((hrel 0 _ rfl).1.d_inv).small 8
    simp [small] at this
    omega
def kidsX (g : RX → T × RX) : Nat → RX → List T × RX
  | 0, r => ([], r)
  | i + 1, r => if (kidsX g i r).2.bad = true then kidsX g i r else ((kidsX g i r).1 ++ [(g (kidsX g i r).2).1], (g (kidsX g i r).2).2)
theorem kidsX_bad (g : RX → T × RX) (r : RX) {i m : Nat} (h : (kidsX g i r).2.bad = true) (hm : i ≤ m) : kidsX g m r = kidsX g i r := by
  induction m with
  | zero => have : i = 0 := by omega
            subst this; rfl
  | succ m ih =>
    rcases Nat.lt_or_ge m i with hlt | hge
    · have : i = m + 1 := by omega
      subst this; rfl
    · rw [kidsX, ih hge, if_pos h]
def byteX (r : RX) (i : Nat) : Int := (r.b[r.at_ + i]?).getD 0
def readX : Nat → Int → RX → T × RX
  | 0, _, r => (T0, r)
  | f + 1, d, r =>
    if r.bad = true ∨ r.b.length ≤ r.at_ ∨ 6000 < w64 (r.nodes + 1) ∨ 200 < d then (T0, ⟨r.b, r.at_, w64 (r.nodes + 1), true⟩)
    else if kidsM (w64 (byteX r 0)) < 0 ∨ (kidsM (w64 (byteX r 0)) = 0 ∧ r.b.length < r.at_ + 3) then (T0, ⟨r.b, r.at_ + 1, w64 (r.nodes + 1), true⟩)
    else if kidsM (w64 (byteX r 0)) = 0 then (.mk (w64 (byteX r 0)) (orB (byteX r 1) (byteX r 2)) [], ⟨r.b, r.at_ + 3, w64 (r.nodes + 1), false⟩)
    else (.mk (w64 (byteX r 0)) 0 (kidsX (readX f (d + 1)) (kidsM (w64 (byteX r 0))).toNat ⟨r.b, r.at_ + 1, w64 (r.nodes + 1), false⟩).1, (kidsX (readX f (d + 1)) (kidsM (w64 (byteX r 0))).toNat ⟨r.b, r.at_ + 1, w64 (r.nodes + 1), false⟩).2)
theorem readX_b : ∀ (f : Nat) (d : Int) (r : RX), (readX f d r).2.b = r.b ∧ (r.at_ ≤ r.b.length → (readX f d r).2.at_ ≤ r.b.length)
  | 0, d, r => ⟨rfl, fun h => h⟩
  | f + 1, d, r => by
    have ih := readX_b f (d + 1)
    have go : ∀ (i : Nat) (q : RX), (kidsX (readX f (d + 1)) i q).2.b = q.b ∧ (q.at_ ≤ q.b.length → (kidsX (readX f (d + 1)) i q).2.at_ ≤ q.b.length) := by
      intro i
      induction i with
      | zero => intro q; exact ⟨rfl, fun h => h⟩
      | succ i ihi =>
        intro q
        rw [kidsX]
        split
        · exact ihi q
        · obtain ⟨a1, a2⟩ := ihi q
          obtain ⟨b1, b2⟩ := ih (kidsX (readX f (d + 1)) i q).2
          exact ⟨b1.trans a1, fun h => by rw [a1] at b2; exact b2 (a2 h)⟩
    rw [readX]
    split
    · exact ⟨rfl, fun h => h⟩
    · rename_i h1
      split
      · exact ⟨rfl, fun h => by show r.at_ + 1 ≤ _; omega⟩
      · rename_i h2
        split
        · rename_i h3; exact ⟨rfl, fun h => by show r.at_ + 3 ≤ _; omega⟩
        · obtain ⟨g1, g2⟩ := go (kidsM (w64 (byteX r 0))).toNat ⟨r.b, r.at_ + 1, w64 (r.nodes + 1), false⟩
          exact ⟨g1, fun h => g2 (by show r.at_ + 1 ≤ r.b.length; omega)⟩
theorem kidsX_b {f : Nat} {d : Int} (q : RX) : ∀ i, (kidsX (readX f d) i q).2.b = q.b ∧ (q.at_ ≤ q.b.length → (kidsX (readX f d) i q).2.at_ ≤ q.b.length) := by
  intro i
  induction i with
  | zero => exact ⟨rfl, fun h => h⟩
  | succ i ih =>
    rw [kidsX]
    split
    · exact ih
    · obtain ⟨a1, a2⟩ := ih
      obtain ⟨b1, b2⟩ := readX_b f d (kidsX (readX f d) i q).2
      exact ⟨b1.trans a1, fun h => by rw [a1] at b2; exact b2 (a2 h)⟩
set_option maxHeartbeats 4000000 in
theorem readX_ok : ∀ (f : Nat) (d : Int) (v : Nat) (r : RX), 0 < f → 1 ≤ d → d + f = 202 → r.b.length ≤ 1000000000 → r.at_ ≤ r.b.length → MutC Tryz.prog n_porismref01_reader_term [.ptr 18 v 0, .d (.int .i64 d)] [18] (xH v r) [.agg (cT (readX f d r).1)] (xH v (readX f d r).2)
  | 0, _, _, _, h, _, _, _, _ => absurd h (by omega)
  | f + 1, d, v, r, _, hd, hf, hbl, hat => by
    have IH := readX_ok f (d + 1) v
    refine mutX Tryz.func117 c_porismref01_reader_term rfl fun h hh hl => ?_
    have hd1 : IntKind.i64.wrap (d + 1) = d + 1 := wrap_id (by omega) (by omega)
    have ha1 : IntKind.i64.wrap ((r.at_ : Int) + 1) = (r.at_ : Int) + 1 := wrap_id (by omega) (by omega)
    have hw : ∀ n, w64 n = IntKind.i64.wrap n := fun _ => rfl
    obtain ⟨b, a, n, bd⟩ := r
    simp only at hbl hat hl ha1 hh
    rw [readX]
    simp only [hw]
    by_cases h1 : bd = true ∨ b.length ≤ a ∨ 6000 < IntKind.i64.wrap (n + 1) ∨ 200 < d
    · rw [if_pos h1]
      cases bd with
      | true => simp -dsimp [x_porismref01_reader_term, hh, xH, T0, cT]
      | false =>
        by_cases h2 : b.length ≤ a
        · have h2' : (b.length : Int) ≤ a := by omega
          simp -dsimp [x_porismref01_reader_term, hh, xH, T0, cT, h2, h2']
        · have h2' : ¬ (b.length : Int) ≤ a := by omega
          by_cases h3 : 6000 < IntKind.i64.wrap (n + 1)
          · simp -dsimp [x_porismref01_reader_term, hh, xH, T0, cT, h2, h2', h3]
          · have h4 : 200 < d := by rcases h1 with h | h | h | h; cases h; omega; omega; exact h
            simp -dsimp [x_porismref01_reader_term, hh, xH, T0, cT, h2, h2', h3, h4]
    rw [if_neg h1]
    have hb0 : bd = false := by cases bd; rfl; exact absurd (.inl rfl) h1
    subst hb0
    have h2 : ¬ b.length ≤ a := fun h => h1 (.inr (.inl h))
    have h2' : ¬ (b.length : Int) ≤ a := by omega
    have h2l : a < b.length := by omega
    have h3 : ¬ 6000 < IntKind.i64.wrap (n + 1) := fun h => h1 (.inr (.inr (.inl h)))
    have h4 : ¬ 200 < d := fun h => h1 (.inr (.inr (.inr h)))
    have e0 : byteX ⟨b, a, n, false⟩ 0 = b[a] := by show (b[a + 0]?).getD 0 = _; rw [Nat.add_zero, List.getElem?_eq_getElem h2l]; rfl
    rw [e0]
    generalize hA : b[a] = A at *
    generalize hN : IntKind.i64.wrap (n + 1) = N at *
    generalize hK : IntKind.i64.wrap A = K at *
    simp -dsimp [x_porismref01_reader_term, hh, h2, h2', h2l, h3, h4, hA, hN, ha1, hK]
    refine call_of (rkids_ok K) ?_
    have hk3 := kidsM_le K
    obtain ⟨a1, ha1n⟩ : ∃ a1 : Nat, a1 = a + 1 := ⟨_, rfl⟩
    have e1 : (a : Int) + 1 = (a1 : Int) := by omega
    have e1n : a + 1 = a1 := ha1n.symm
    rw [e1, e1n]
    by_cases k0 : kidsM K < 0
    · rw [if_pos (.inl k0)]
      simp -dsimp [hh, xH, T0, cT, k0]
    by_cases k1 : kidsM K = 0
    · by_cases k2 : b.length < a + 3
      · have k2' : IntKind.i64.wrap ((b.length : Int) - (a1 : Int)) < 2 := by rw [wrap_id (by omega) (by omega)]; omega
        rw [if_pos (.inr ⟨k1, k2⟩)]
        simp -dsimp [hh, xH, T0, cT, k0, k1, k2']
      · have k2' : ¬ IntKind.i64.wrap ((b.length : Int) - (a1 : Int)) < 2 := by rw [wrap_id (by omega) (by omega)]; omega
        have l1 : a1 < b.length := by omega
        have l2 : a1 + 1 < b.length := by omega
        have w1 : IntKind.i64.wrap ((a1 : Int) + 1) = (a1 : Int) + 1 := wrap_id (by omega) (by omega)
        have w2 : IntKind.i64.wrap ((a1 : Int) + 2) = ((a : Int) + 3) := by rw [wrap_id (by omega) (by omega)]; omega
        obtain ⟨a2, ha2n⟩ : ∃ a2 : Nat, a2 = a1 + 1 := ⟨_, rfl⟩
        have e2 : (a1 : Int) + 1 = (a2 : Int) := by omega
        have l2' : a2 < b.length := by omega
        have y1 : byteX ⟨b, a, n, false⟩ 1 = b[a1] := by show (b[a + 1]?).getD 0 = _; rw [e1n, List.getElem?_eq_getElem l1]; rfl
        have y2 : byteX ⟨b, a, n, false⟩ 2 = b[a2] := by show (b[a + 2]?).getD 0 = _; rw [show a + 2 = a2 by omega, List.getElem?_eq_getElem l2']; rfl
        have hne : ¬ (kidsM K < 0 ∨ kidsM K = 0 ∧ b.length < a + 3) := by omega
        rw [if_neg hne, if_pos k1, y1, y2]
        rw [e2] at w1
        generalize hB1 : b[a1] = B1 at *
        generalize hB2 : b[a2] = B2 at *
        simp -dsimp [hh, k0, k1, k2', l1, l2', hB1, hB2, w1, w2, e2]
        refine wp_upto 0 (fun i st => st.s 0 = .ptr 18 v 0 ∧ st.s 6 = .d (.int .i64 0) ∧ st.s 7 = .d (.int .i64 0) ∧ (∃ u, st.s 5 = .ptr 5 u 0 ∧ st.h 5 = ⟨u, .box [.d (.int .i64 K), .d (.int .i64 (orB B1 B2)), .fsl 3 []] false⟩) ∧ (∃ u, st.s 4 = .ptr 4 u 0 ∧
          st.h 4 = ⟨u, .box [.d (.int .i64 0), .d (.int .i64 0), .fsl 3 []] false⟩) ∧ st.h 18 = ⟨v, .box [.d (.sl 1 (b.map (.int .u8))), .d (.int .i64 (a + 3)), .d (.int .i64 N), .d (.bool false)] false⟩) ?_ ?_
        · simp -dsimp [hh, k1]
          rfl
        · rintro i ⟨s, hpp⟩ hi ⟨g0, g1, g2, ⟨u, g3, g4⟩, ⟨u', g5, g6⟩, g7⟩
          dsimp only at g0 g1 g2 g3 g4 g5 g6 g7
          simp -dsimp [g0, g1, g2, g3, g4, g5, g6, g7, xH, cT]
    have hne : ¬ (kidsM K < 0 ∨ kidsM K = 0 ∧ b.length < a + 3) := by omega
    rw [if_neg hne, if_neg k1]
    have hkb := fun i => kidsX_b (f := f) (d := d + 1) ⟨b, a1, N, false⟩ i
    have hf0 : 0 < f := by omega
    generalize hR0 : (⟨b, a1, N, false⟩ : RX) = R0 at *
    have hR0b : R0.b = b ∧ R0.at_ = a1 ∧ R0.nodes = N ∧ R0.bad = false := by rw [← hR0]; exact ⟨rfl, rfl, rfl, rfl⟩
    generalize hg : readX f (d + 1) = g at *
    have hfin : ∀ i, i ≤ (kidsM K).toNat → (kidsX g i R0).2.bad = true → kidsX g (kidsM K).toNat R0 = kidsX g i R0 := fun i hi hb => kidsX_bad g R0 hb hi
    generalize hm0 : (kidsM K).toNat = m at *
    simp -dsimp [hh, k0, k1]
    refine wp_upto m (fun i st => st.s 0 = .ptr 18 v 0 ∧ st.s 1 = .d (.int .i64 d) ∧ st.s 6 = .d (.int .i64 (kidsM K)) ∧ st.s 7 = .d (.int .i64 i) ∧
      (∃ u c, st.s 5 = .ptr 5 u 0 ∧ st.h 5 = ⟨u, .box [.d (.int .i64 K), .d (.int .i64 0), c] false⟩ ∧ (((kidsX g i R0).1 = [] ∧ c = .fsl 3 []) ∨ ((kidsX g i R0).1 ≠ [] ∧ ∃ q, c = .rsl 146 q ∧ st.h 146 = ⟨q, .row 3 ((kidsX g i R0).1.map eT) false⟩))) ∧
      (∃ u, st.s 4 = .ptr 4 u 0 ∧ st.h 4 = ⟨u, .box [.d (.int .i64 0), .d (.int .i64 0), .fsl 3 []] false⟩) ∧
      st.h 18 = ⟨v, .box [.d (.sl 1 ((kidsX g i R0).2.b.map (.int .u8))), .d (.int .i64 (kidsX g i R0).2.at_), .d (.int .i64 (kidsX g i R0).2.nodes), .d (.bool (kidsX g i R0).2.bad)] false⟩ ∧ (kidsX g i R0).1.length ≤ i) ?_ ?_
    · simp -dsimp [hh, kidsX, hR0b]
    · clear hh hl
      rintro i ⟨s, hpp⟩ hi ⟨e1, e2, e3, e3', ⟨u, c, e4, e5, e6⟩, ⟨u', e7, e8⟩, e9, e10⟩
      dsimp only at e1 e2 e3 e3' e4 e5 e6 e7 e8 e9
      have hkbi := hkb i
      by_cases hlt : i < m
      · have hpos : (i : Int) < kidsM K := by omega
        cases hb : (kidsX g i R0).2.bad
        · have hI := IH (kidsX g i R0).2 hf0 (by omega) (by omega) (by rw [hkbi.1, hR0b.1]; exact hbl) (by rw [hkbi.1]; exact hkbi.2 (by rw [hR0b.1, hR0b.2.1]; omega))
          have hN : kidsX g (i + 1) R0 = ((kidsX g i R0).1 ++ [(g (kidsX g i R0).2).1], (g (kidsX g i R0).2).2) := by rw [kidsX, if_neg (by simp [hb])]
          rw [hN]
          have hw1 : IntKind.i64.wrap ((i : Int) + 1) = (i : Int) + 1 := wrap_id (by omega) (by omega)
          clear hN hfin hkb hkbi
          generalize (kidsX g i R0) = q at *
          obtain ⟨ks', r'⟩ := q
          generalize hg2 : g r' = q2 at *
          obtain ⟨t2, r2⟩ := q2
          simp only at hI hg2 e6 e9 e10 hb
          have hrm : (ks'.length + 1) * 40 ≤ maxRoom := by simp only [maxRoom]; omega
          have h40 : 40 ≤ maxRoom := by simp only [maxRoom]; omega
          rcases e6 with ⟨rfl, rfl⟩ | ⟨hne, q, rfl, e6⟩
          · simp -dsimp [e1, e2, e3, e3', e4, e5, e7, e8, e9, hpos, hb, hd1]
            refine callM_of hI ?_ ?_
            · simp [xH, e9, hb]
            simp -dsimp [mergeK_cons, mergeK_nil, xH, e1, e2, e3, e3', e4, e5, e7, e8, e9, hw1, cT, hlt, h40]
            rw [eT_eq, cT]
          · simp -dsimp [e1, e2, e3, e3', e4, e5, e6, e7, e8, e9, hpos, hb, hd1]
            refine callM_of hI ?_ ?_
            · simp [xH, e9, hb]
            simp -dsimp [mergeK_cons, mergeK_nil, xH, e1, e2, e3, e3', e4, e5, e6, e7, e8, e9, hw1, cT, hlt, hrm]
            exact ⟨by rw [eT_eq, cT], by omega⟩
        · rw [hfin i hi hb]
          clear hfin hkb hkbi
          generalize (kidsX g i R0) = q at *
          obtain ⟨ks', r'⟩ := q
          simp only at e6 e9 e10 hb ⊢
          rcases e6 with ⟨rfl, rfl⟩ | ⟨hne, q, rfl, e6⟩
          · simp -dsimp [e1, e2, e3, e3', e4, e5, e7, e8, e9, hb, hpos, xH, cT]
          · simp -dsimp [e1, e2, e3, e3', e4, e5, e6, e7, e8, e9, hb, hpos, xH, cT]
      · have hi' : i = m := by omega
        subst hi'
        have hnpos : ¬ ((i : Int) < kidsM K) := by omega
        clear hfin hkb hkbi
        generalize (kidsX g i R0) = q at *
        obtain ⟨ks', r'⟩ := q
        simp only at e6 e9 e10 ⊢
        rcases e6 with ⟨rfl, rfl⟩ | ⟨hne, q, rfl, e6⟩
        · simp -dsimp [e1, e2, e3, e3', e4, e5, e7, e8, e9, hnpos, xH, cT]
        · simp -dsimp [e1, e2, e3, e3', e4, e5, e6, e7, e8, e9, hnpos, xH, cT]
end
section
attribute [local simp] allD_map_d sks_map_d tk tn tks initA EndsM
structure Sim (q : RX) (p : RS) : Prop where
  bad : q.bad = p.bad
  good : q.bad = false → p.left = q.b.drop q.at_ ∧ p.nodes = q.nodes ∧ q.at_ ≤ q.b.length ∧ 0 ≤ q.nodes ∧ q.nodes ≤ 6000
theorem readX_bad {f : Nat} {d : Int} {r : RX} (h : r.bad = true) : (readX f d r).2.bad = true := by
  cases f with
  | zero => exact h
  | succ f => rw [readX, if_pos (.inl h)]
theorem readS_head {f : Nat} {d : Int} {p : RS} (hh : (headS d p).bad = true) : (readS (f + 1) d p).2.bad = true := by
  rw [readS]
  split
  · show (takeS 2 (headS d p)).2.bad = true
    rw [takeS, if_pos (.inl hh)]
  · show (kidsI _ _ (headS d p)).2.bad = true
    rw [kidsI_bad (readS f (d + 1)) (headS d p) (i := 0) hh (Nat.zero_le _)]; exact hh
theorem readS_bad {f : Nat} {d : Int} {p : RS} (h : p.bad = true) : (readS f d p).2.bad = true := by
  cases f with
  | zero => exact h
  | succ f =>
    refine readS_head ?_
    have : (takeS 1 p).2.bad = true := by rw [takeS, if_pos (.inl h)]
    simp [headS, this]
theorem sim_bad {q : RX} {p : RS} (h1 : q.bad = true) (h2 : p.bad = true) : Sim q p := ⟨by rw [h1, h2], fun h => by rw [h1] at h; cases h⟩
theorem read_sim : ∀ (f : Nat) (d : Int) (r : RX) (p : RS), Sim r p → Sim (readX f d r).2 (readS f d p).2 ∧ ((readX f d r).2.bad = false → (readX f d r).1 = (readS f d p).1)
  | 0, _, _, _, h => ⟨h, fun _ => rfl⟩
  | f + 1, d, r, p, h => by
    have IH := read_sim f (d + 1)
    cases hb : r.bad with
    | true =>
      have hb2 : p.bad = true := h.bad ▸ hb
      exact ⟨sim_bad (readX_bad hb) (readS_bad hb2), fun hx => by rw [readX_bad hb] at hx; cases hx⟩
    | false =>
      obtain ⟨g1, g2, g3, g4, g5⟩ := h.good hb
      have hb2 : p.bad = false := h.bad ▸ hb
      obtain ⟨b, a, n, bd⟩ := r
      obtain ⟨l, n', bd'⟩ := p
      simp only at hb hb2 g1 g2 g3 g4 g5
      subst hb hb2 g1 g2
      have key : ∀ {q : T × RX} {p : T × RS}, q.2.bad = true → p.2.bad = true → Sim q.2 p.2 ∧ (q.2.bad = false → q.1 = p.1) := fun h1 h2 => ⟨sim_bad h1 h2, fun h => by rw [h1] at h; cases h⟩
      have hn1 : w64 (n' + 1) = n' + 1 := w64_id (by omega) (by omega)
      rcases Nat.lt_or_ge a b.length with hlt | hge
      case inr =>
        refine key ?_ ?_
        · rw [readX, if_pos (.inr (.inl hge))]
        · refine readS_head ?_
          have : (takeS 1 ⟨b.drop a, n', false⟩).2.bad = true := by rw [takeS, if_pos (.inr (by simp; omega))]
          simp [headS, this]
      have hd : b.drop a = b[a] :: b.drop (a + 1) := List.drop_eq_getElem_cons hlt
      have ht : takeS 1 ⟨b.drop a, n', false⟩ = ([b[a]], ⟨b.drop (a + 1), n', false⟩) := by rw [hd]; exact take1 _ _ _
      have hH : headS d ⟨b.drop a, n', false⟩ = ⟨b.drop (a + 1), n' + 1, decide (kidsM (w64 b[a]) < 0) || decide (6000 < n' + 1) || decide (200 < d)⟩ := by rw [headS, ht, hn1]; simp
      have e0 : byteX ⟨b, a, n', false⟩ 0 = b[a] := by show (b[a + 0]?).getD 0 = _; rw [Nat.add_zero, List.getElem?_eq_getElem hlt]; rfl
      by_cases h6 : 6000 < n' + 1 ∨ 200 < d
      · refine key ?_ (readS_head ?_)
        · rw [readX, if_pos (by rw [hn1]; exact .inr (.inr h6))]
        · rw [hH]; rcases h6 with h6 | h6 <;> simp [h6]
      have hne : ¬ (false = true ∨ b.length ≤ a ∨ 6000 < w64 (n' + 1) ∨ 200 < d) := by
        rw [hn1]; rintro (h | h | h | h); cases h; omega; exact h6 (.inl h); exact h6 (.inr h)
      have n6 : ¬ 6000 < n' + 1 := fun h => h6 (.inl h)
      have n2 : ¬ 200 < d := fun h => h6 (.inr h)
      by_cases k0 : kidsM (w64 b[a]) < 0
      · refine key ?_ (readS_head ?_)
        · rw [readX, if_neg hne, e0, if_pos (.inl k0)]
        · rw [hH]; simp [k0]
      have hH2 : headS d ⟨b.drop a, n', false⟩ = ⟨b.drop (a + 1), n' + 1, false⟩ := by rw [hH]; simp [k0, n6, n2]
      by_cases k1 : kidsM (w64 b[a]) = 0
      · have hS : readS (f + 1) d ⟨b.drop a, n', false⟩ = (.mk (w64 b[a]) (orB ((takeS 2 ⟨b.drop (a + 1), n' + 1, false⟩).1.headD 0) ((takeS 2 ⟨b.drop (a + 1), n' + 1, false⟩).1.getD 1 0)) [], (takeS 2 ⟨b.drop (a + 1), n' + 1, false⟩).2) := by
          rw [readS, ht, List.headD_cons, if_pos k1, hH2]
        by_cases k2 : b.length < a + 3
        · refine key ?_ ?_
          · rw [readX, if_neg hne, e0, if_pos (.inr ⟨k1, k2⟩)]
          · rw [hS]; show (takeS 2 _).2.bad = true
            rw [takeS, if_pos (.inr (by show (b.drop (a + 1)).length < 2; rw [List.length_drop]; omega))]
        · have l1 : a + 1 < b.length := by omega
          have l2 : a + 2 < b.length := by omega
          have d1 : b.drop (a + 1) = b[a + 1] :: b[a + 2] :: b.drop (a + 3) := by rw [List.drop_eq_getElem_cons l1, List.drop_eq_getElem_cons l2]
          have ht2 : takeS 2 ⟨b.drop (a + 1), n' + 1, false⟩ = ([b[a + 1], b[a + 2]], ⟨b.drop (a + 3), n' + 1, false⟩) := by rw [d1]; exact take2 _ _ _ _
          have y1 : byteX ⟨b, a, n', false⟩ 1 = b[a + 1] := by show (b[a + 1]?).getD 0 = _; rw [List.getElem?_eq_getElem l1]; rfl
          have y2 : byteX ⟨b, a, n', false⟩ 2 = b[a + 2] := by show (b[a + 2]?).getD 0 = _; rw [List.getElem?_eq_getElem l2]; rfl
          rw [hS, ht2, readX, if_neg hne, e0, if_neg (show ¬ (kidsM (w64 b[a]) < 0 ∨ (kidsM (w64 b[a]) = 0 ∧ b.length < a + 3)) by omega), if_pos k1, y1, y2, hn1]
          exact ⟨⟨rfl, fun _ => ⟨rfl, rfl, by show a + 3 ≤ b.length; omega, by show 0 ≤ n' + 1; omega, by show n' + 1 ≤ 6000; omega⟩⟩, fun _ => rfl⟩
      · have hS : readS (f + 1) d ⟨b.drop a, n', false⟩ = (.mk (w64 b[a]) 0 (kidsI (readS f (d + 1)) (kidsM (w64 b[a])).toNat ⟨b.drop (a + 1), n' + 1, false⟩).1, (kidsI (readS f (d + 1)) (kidsM (w64 b[a])).toNat ⟨b.drop (a + 1), n' + 1, false⟩).2) := by
          rw [readS, ht, List.headD_cons, if_neg k1, hH2]
        have go : ∀ i, Sim (kidsX (readX f (d + 1)) i ⟨b, a + 1, n' + 1, false⟩).2 (kidsI (readS f (d + 1)) i ⟨b.drop (a + 1), n' + 1, false⟩).2 ∧ ((kidsX (readX f (d + 1)) i ⟨b, a + 1, n' + 1, false⟩).2.bad = false → (kidsX (readX f (d + 1)) i ⟨b, a + 1, n' + 1, false⟩).1 = (kidsI (readS f (d + 1)) i ⟨b.drop (a + 1), n' + 1, false⟩).1) := by
          intro i
          induction i with
          | zero => exact ⟨⟨rfl, fun _ => ⟨rfl, rfl, by show a + 1 ≤ b.length; omega, by show 0 ≤ n' + 1; omega, by show n' + 1 ≤ 6000; omega⟩⟩, fun _ => rfl⟩
          | succ i ih =>
            obtain ⟨i1, i2⟩ := ih
            rw [kidsX, kidsI, ← i1.bad]
            by_cases hbb : (kidsX (readX f (d + 1)) i ⟨b, a + 1, n' + 1, false⟩).2.bad = true
            · rw [if_pos hbb, if_pos hbb]; exact ⟨i1, i2⟩
            · rw [if_neg hbb, if_neg hbb]
              obtain ⟨j1, j2⟩ := IH _ _ i1
              exact ⟨j1, fun hx => by
                show _ ++ [_] = _ ++ [_]
                rw [i2 (by simpa using hbb), j2 hx]⟩
        obtain ⟨s1, s2⟩ := go (kidsM (w64 b[a])).toNat
        rw [hS, readX, if_neg hne, e0, if_neg (show ¬ (kidsM (w64 b[a]) < 0 ∨ (kidsM (w64 b[a]) = 0 ∧ b.length < a + 3)) by omega), if_neg k1, hn1]
        exact ⟨s1, fun hx => by show T.mk _ _ _ = T.mk _ _ _; rw [s2 hx]⟩
theorem unpack_ok (b : List Int) (hb : b.length ≤ 1000000000) (at_ : Int) : Pure Tryz.prog n_porismref01_Unpack [eB b, .int .i64 at_] [.agg (cT (getT b at_)), .int .i64 (getN b at_), .int .i64 (getE b at_)] := by
  refine p_porismref01_Unpack rfl fun hs => ?_
  have hI := rin_ok at_ 0 b.length
  by_cases hc : at_ < 0 ∨ (b.length : Int) < at_
  · have hI0 : inB at_ 0 b.length = false := by
      cases h : inB at_ 0 b.length with
      | false => rfl
      | true => have := (inB_iff _ _ _).1 h; omega
    rw [hI0] at hI
    rw [getT, getN, getE, if_pos hc, if_pos hc, if_pos hc]
    simp -dsimp [x_porismref01_Unpack, eB]
    refine call_of hI ?_
    simp -dsimp [T0, cT]
  have hI1 : inB at_ 0 b.length = true := (inB_iff _ _ _).2 (by omega)
  rw [hI1] at hI
  obtain ⟨a, rfl⟩ : ∃ a : Nat, at_ = a := ⟨at_.toNat, by omega⟩
  have hR := readX_ok 201 1 1 ⟨b, a, 0, false⟩ (by omega) (by omega) (by omega) hb (by show a ≤ b.length; omega)
  obtain ⟨s1, s2⟩ := read_sim 201 1 ⟨b, a, 0, false⟩ ⟨b.drop a, 0, false⟩ ⟨rfl, fun _ => ⟨rfl, rfl, by show a ≤ b.length; omega, by show (0 : Int) ≤ 0; omega, by show (0 : Int) ≤ 6000; omega⟩⟩
  have hG : readS 201 1 ⟨b.drop a, 0, false⟩ = getS b a := by rw [getS, Int.toNat_natCast]
  have hB := (readX_b 201 1 ⟨b, a, 0, false⟩).1
  rw [hG] at s1 s2
  rw [getT, getN, getE, if_neg hc, if_neg hc, if_neg hc]
  generalize readX 201 1 ⟨b, a, 0, false⟩ = q at *
  generalize getS b a = p at *
  obtain ⟨t, b2, a2, n2, bd⟩ := q
  obtain ⟨u, l, n3, bd3⟩ := p
  have hbd : bd = bd3 := s1.bad
  subst hbd
  simp only at hB
  subst hB
  simp -dsimp [x_porismref01_Unpack, eB]
  refine call_of hI ?_
  simp -dsimp
  refine callM_of hR (by simp [xH]) ?_
  cases bd with
  | true => simp -dsimp [mergeK_cons, mergeK_nil, xH, T0, cT]
  | false =>
    obtain ⟨g1, g2, g3, _, _⟩ := s1.good rfl
    have ht : t = u := s2 rfl
    subst ht
    simp only at g1 g2 g3
    have hl : IntKind.i64.wrap ((b2.length : Int) - l.length) = (a2 : Int) := by rw [g1, List.length_drop, wrap_id (by omega) (by omega)]; omega
    simp -dsimp [mergeK_cons, mergeK_nil, xH, T0, cT, hl]
end
section
attribute [local simp] allD_map_d sks_map_d tk tn tks initA EndsM
theorem mutQ {f : FuncId} {fn : Func} {x : XFn} (hf : Tryz.prog.funcs[f]? = some fn) (hx : cfn Tryz.prog fn = some x) {aa : List AV} {v : Nat} {b : List Int} {p q : Nat} {bd be : Bool} {rs : List D} (hl : aa.length = x.np)
    (hw : ∀ (h : Nat → Ent), h 9 = ⟨v, .box [.d (.sl 1 (b.map (.int .u8))), .d (.int .i64 p), .d (.bool bd)] false⟩ → wpX Tryz.prog x.code (EndsM x.res rs [9] (pH v b q be)) ⟨initA aa, h⟩) : MutC Tryz.prog f aa [9] (pH v b p bd) rs (pH v b q be) :=
  mut_of hm hf hx hl (fun k hk c hc => by simp [pH] at hc; rcases hc with rfl | rfl | rfl <;> exact .d _) fun G h w vs hk _ hr => hw h (hk 9 (by simp))
theorem num2_ok (v : Nat) (b : List Int) (r : Rd) (hB : byteL b) (hb : b.length ≤ 1000000000) : MutC Tryz.prog n_porismref20_reader_byte [.ptr 9 v 0] [9] (pH v b r.p r.bad) [.int .i64 (numF b r).1] (pH v b (numF b r).2.p (numF b r).2.bad) := by
  obtain ⟨p, bd⟩ := r
  by_cases hcs : bd = true ∨ b.length ≤ p
  · rw [numF, if_pos hcs]
    refine mutQ Tryz.func34 c_porismref20_reader_byte rfl fun h hh => ?_
    cases bd
    · have g : b.length ≤ p := by simpa using hcs
      have g' : (b.length : Int) ≤ p := by omega
      simp -dsimp [x_porismref20_reader_byte, hh, g, g', pH]
    · simp -dsimp [x_porismref20_reader_byte, hh, pH]
  · have hbd : bd = false := by cases bd; rfl; exact absurd (.inl rfl) hcs
    subst hbd
    have hp : p < b.length := by omega
    rw [numF, if_neg hcs]
    simp only [List.getElem?_eq_getElem hp, Option.getD_some]
    obtain ⟨n, hn⟩ : ∃ n, b[p] = n := ⟨_, rfl⟩
    obtain ⟨h0, h1⟩ := hB b[p] (List.getElem_mem _)
    rw [hn] at h0 h1 ⊢
    refine mutQ Tryz.func34 c_porismref20_reader_byte rfl fun h hh => ?_
    have w1 : IntKind.i64.wrap ((p : Int) + 1) = (p : Int) + 1 := wrap_id (by omega) (by omega)
    have w2 : IntKind.i64.wrap (p : Int) = (p : Int) := wrap_id (by omega) (by omega)
    have hbo : b[p]? = some n := by rw [List.getElem?_eq_getElem hp, hn]
    have w3 : IntKind.i64.wrap n = n := wrap_id (by omega) (by omega)
    have g : ¬ b.length ≤ p := by omega
    have g' : ¬ (b.length : Int) ≤ p := by omega
    simp -dsimp [x_porismref20_reader_byte, hh, g, g', w1, w2, w3, hp, hn, hbo, pH]
theorem flag2_ok (v : Nat) (b : List Int) (r : Rd) (hB : byteL b) (hb : b.length ≤ 1000000000) : MutC Tryz.prog n_porismref20_reader_flag [.ptr 9 v 0] [9] (pH v b r.p r.bad) [.bool (flagF b r).1] (pH v b (flagF b r).2.p (flagF b r).2.bad) := by
  have hN := num2_ok v b r hB hb
  rw [flagF]
  generalize numF b r = q at *
  obtain ⟨n, p, bd⟩ := q
  refine mutQ Tryz.func67 c_porismref20_reader_flag rfl fun h hh => ?_
  simp only at hN
  simp -dsimp [x_porismref20_reader_flag, hh]
  refine callM_of hN (by simp -dsimp [pH, hh]) ?_
  simp -dsimp [mergeK_cons, mergeK_nil, pH]
  cases bd <;> simp -dsimp [pH]
def term2F (b : List Int) (r : Rd) : T × Rd := if r.bad = true ∨ b.length ≤ r.p then (T0, ⟨r.p, true⟩) else if (b[r.p]?).getD 0 = 0 then (T0, ⟨r.p + 1, false⟩) else if getE b r.p = 0 then (getT b r.p, ⟨(getN b r.p).toNat, false⟩) else (T0, ⟨r.p, true⟩)
theorem term2_ok (v : Nat) (b : List Int) (r : Rd) (hB : byteL b) (hb : b.length ≤ 1000000000) : MutC Tryz.prog n_porismref20_reader_term [.ptr 9 v 0] [9] (pH v b r.p r.bad) [.agg (cT (term2F b r).1)] (pH v b (term2F b r).2.p (term2F b r).2.bad) := by
  obtain ⟨p, bd⟩ := r
  by_cases hcs : bd = true ∨ b.length ≤ p
  · rw [term2F, if_pos hcs]
    refine mutQ Tryz.func65 c_porismref20_reader_term rfl fun h hh => ?_
    cases bd
    · have g : b.length ≤ p := by simpa using hcs
      have g' : (b.length : Int) ≤ p := by omega
      simp -dsimp [x_porismref20_reader_term, hh, g, g', pH, cT, T0]
    · simp -dsimp [x_porismref20_reader_term, hh, pH, cT, T0]
  · have hbd : bd = false := by cases bd; rfl; exact absurd (.inl rfl) hcs
    subst hbd
    have hp : p < b.length := by omega
    rw [term2F, if_neg hcs]
    simp only [List.getElem?_eq_getElem hp, Option.getD_some]
    have g : ¬ b.length ≤ p := by omega
    have g' : ¬ (b.length : Int) ≤ p := by omega
    have w1 : IntKind.i64.wrap ((p : Int) + 1) = (p : Int) + 1 := wrap_id (by omega) (by omega)
    obtain ⟨a, ha⟩ : ∃ a, b[p] = a := ⟨_, rfl⟩
    refine mutQ Tryz.func65 c_porismref20_reader_term rfl fun h hh => ?_
    rw [ha]
    by_cases ha0 : a = 0
    · simp -dsimp [x_porismref20_reader_term, hh, g, g', hp, ha, ha0, pH, cT, T0, w1]
    · have hG := unpack_ok b hb p
      have hnn := getN_nn hB hb p
      have hN : ((getN b p).toNat : Int) = getN b p := by omega
      rw [if_neg ha0]
      simp only [eB, cT] at hG
      simp -dsimp [x_porismref20_reader_term, hh, g, g', hp, ha, ha0]
      refine call_of hG ?_
      by_cases hE : getE b p = 0
      · simp -dsimp [hh, g, g', hp, ha, ha0, pH, cT, hN, hE]
      · simp -dsimp [hh, g, g', hp, ha, ha0, pH, cT, hN, hE, T0]
def rw2F (b : List Int) (r : Rd) : List T × Rd := repF (term2F b) (numF b r).1.toNat (numF b r).2
theorem row2_ok (v : Nat) (b : List Int) (r : Rd) (hB : byteL b) (hb : b.length ≤ 1000000000) : MutC Tryz.prog n_porismref20_reader_row [.ptr 9 v 0] [9] (pH v b r.p r.bad) [eTs (rw2F b r).1] (pH v b (rw2F b r).2.p (rw2F b r).2.bad) := by
  have hN := num2_ok v b r hB hb
  have hrng := numF_rng hB r
  rw [rw2F]
  generalize numF b r = q at *
  obtain ⟨n, R0⟩ := q
  simp only at hN hrng
  obtain ⟨m, rfl⟩ : ∃ m : Nat, n = (m : Int) := ⟨n.toNat, by omega⟩
  have hm : m < 256 := by omega
  simp only [Int.toNat_natCast]
  have hfin : ∀ i, i ≤ m → (repF (term2F b) i R0).2.bad = true → repF (term2F b) m R0 = repF (term2F b) i R0 := fun i hi hb => repF_bad _ R0 hb hi
  refine mutQ Tryz.func68 c_porismref20_reader_row rfl fun h hh => ?_
  simp -dsimp [x_porismref20_reader_row, hh]
  refine callM_of hN (by simp -dsimp [pH, hh]) ?_
  simp -dsimp [mergeK_cons, mergeK_nil, pH]
  refine wp_upto m (fun i st => st.s 0 = .ptr 9 v 0 ∧ st.s 4 = .d (.int .i64 ((m : Int) - i)) ∧ ∃ q v', q = repF (term2F b) i R0 ∧ st.s 3 = .rsl 3 v' ∧ st.h 3 = ⟨v', .row 3 (q.1.map eT) false⟩ ∧ st.h 9 = ⟨v, .box [.d (.sl 1 (b.map (.int .u8))), .d (.int .i64 q.2.p), .d (.bool q.2.bad)] false⟩) ?_ ?_
  · simp -dsimp [repF]
  · rintro i ⟨s, hp⟩ hi ⟨e1, e2, q, v', eq, e3, e4, e5⟩
    dsimp only at e1 e2 e3 e4 e5
    have hlen : q.1.length ≤ i := by rw [eq]; exact repF_len _ _ _
    rcases Nat.lt_or_ge i m with hlt | hge
    · cases hbd : q.2.bad
      · have w1 : IntKind.i64.wrap ((m : Int) - i - 1) = (m : Int) - (i + 1 : Nat) := (wrap_id (by omega) (by omega)).trans (by omega)
        have g3 : (0 : Int) < (m : Int) - i := by omega
        have hT := term2_ok v b q.2 hB hb
        have hnx : repF (term2F b) (i + 1) R0 = (q.1 ++ [(term2F b q.2).1], (term2F b q.2).2) := by rw [repF, ← eq, if_neg (by simp [hbd])]
        rw [hnx]
        generalize term2F b q.2 = z at *
        obtain ⟨t, z⟩ := z
        obtain ⟨ks, p, bd⟩ := q
        simp only at hbd hlen hT e4 e5
        subst hbd
        have hr : (ks.length + 1) * 40 ≤ maxRoom := by simp only [maxRoom]; omega
        simp -dsimp [e1, e2, e3, e4, e5, g3, hlt]
        refine callM_of hT (by simp -dsimp [pH, e5]) ?_
        simp -dsimp [mergeK_cons, mergeK_nil, pH, e1, e2, e3, e4, e5, hr, hlt, w1, cT, eT_eq]
      · rw [hfin i hi (by rw [← eq]; exact hbd), ← eq]
        have g3 : (0 : Int) < (m : Int) - i := by omega
        simp -dsimp [e1, e2, e3, e4, e5, hbd, hlt, g3, eTs, pH]
    · have e : i = m := by omega
      subst e
      rw [← eq]
      simp -dsimp [e1, e2, e3, e4, e5, eTs, pH]
def arg2F (b : List Int) (r : Rd) : Ar × Rd :=
  (fun q1 : Bool × Rd => (fun q2 : T × Rd => (fun q3 : List T × Rd => (fun q4 : Int × Rd => (fun q5 : List T × Rd => ((⟨q1.1, q2.1, q3.1, q4.1, q5.1⟩ : Ar), q5.2)) (rw2F b q4.2)) (numF b q3.2)) (rw2F b q2.2)) (term2F b q1.2)) (flagF b r)
def args2F (b : List Int) (r : Rd) : List Ar × Rd := repF (arg2F b) (numF b r).1.toNat (numF b r).2
set_option maxHeartbeats 4000000 in
theorem args2_ok (v : Nat) (b : List Int) (r : Rd) (hB : byteL b) (hb : b.length ≤ 1000000000) : MutC Tryz.prog n_porismref20_reader_args [.ptr 9 v 0] [9] (pH v b r.p r.bad) [eArs (args2F b r).1] (pH v b (args2F b r).2.p (args2F b r).2.bad) := by
  have hN := num2_ok v b r hB hb
  have hrng := numF_rng hB r
  rw [args2F]
  generalize numF b r = q at *
  obtain ⟨n, R0⟩ := q
  simp only at hN hrng
  obtain ⟨m, rfl⟩ : ∃ m : Nat, n = (m : Int) := ⟨n.toNat, by omega⟩
  have hm : m < 256 := by omega
  simp only [Int.toNat_natCast]
  have hfin : ∀ i, i ≤ m → (repF (arg2F b) i R0).2.bad = true → repF (arg2F b) m R0 = repF (arg2F b) i R0 := fun i hi hb => repF_bad _ R0 hb hi
  refine mutQ Tryz.func66 c_porismref20_reader_args rfl fun h hh => ?_
  simp -dsimp [x_porismref20_reader_args, hh]
  refine callM_of hN (by simp -dsimp [pH, hh]) ?_
  simp -dsimp [mergeK_cons, mergeK_nil, pH]
  refine wp_upto m (fun i st => st.s 0 = .ptr 9 v 0 ∧ st.s 4 = .d (.int .i64 ((m : Int) - i)) ∧ ∃ q v', q = repF (arg2F b) i R0 ∧ st.s 3 = .rsl 3 v' ∧ st.h 3 = ⟨v', .row 7 (q.1.map eAr) false⟩ ∧ st.h 9 = ⟨v, .box [.d (.sl 1 (b.map (.int .u8))), .d (.int .i64 q.2.p), .d (.bool q.2.bad)] false⟩) ?_ ?_
  · simp -dsimp [repF]
  · rintro i ⟨s, hp⟩ hi ⟨e1, e2, q, v', eq, e3, e4, e5⟩
    dsimp only at e1 e2 e3 e4 e5
    have hlen : q.1.length ≤ i := by rw [eq]; exact repF_len _ _ _
    rcases Nat.lt_or_ge i m with hlt | hge
    · cases hbd : q.2.bad
      · have w1 : IntKind.i64.wrap ((m : Int) - i - 1) = (m : Int) - (i + 1 : Nat) := (wrap_id (by omega) (by omega)).trans (by omega)
        have g3 : (0 : Int) < (m : Int) - i := by omega
        have hnx : repF (arg2F b) (i + 1) R0 = (q.1 ++ [(arg2F b q.2).1], (arg2F b q.2).2) := by rw [repF, ← eq, if_neg (by simp [hbd])]
        rw [hnx, arg2F]
        have h1 := flag2_ok v b q.2 hB hb
        generalize flagF b q.2 = q1 at *
        obtain ⟨rc, r1⟩ := q1
        have h2 := term2_ok v b r1 hB hb
        simp only at h1 ⊢
        generalize term2F b r1 = q2 at *
        obtain ⟨ty, r2⟩ := q2
        have h3 := row2_ok v b r2 hB hb
        simp only at h2 ⊢
        generalize rw2F b r2 = q3 at *
        obtain ⟨dom, r3⟩ := q3
        have h4 := num2_ok v b r3 hB hb
        simp only at h3 ⊢
        generalize numF b r3 = q4 at *
        obtain ⟨sn, r4⟩ := q4
        have h5 := row2_ok v b r4 hB hb
        simp only at h4 ⊢
        generalize rw2F b r4 = q5 at *
        obtain ⟨idx, r5⟩ := q5
        simp only at h5 ⊢
        obtain ⟨ks, p, bd⟩ := q
        simp only at hbd hlen e4 e5 h1 ⊢
        subst hbd
        simp only [eTs, cT] at h2 h3 h5
        have hr : (ks.length + 1) * 104 ≤ maxRoom := by simp only [maxRoom]; omega
        simp -dsimp [e1, e2, e3, e4, e5, g3, hlt]
        refine callM_of h1 (by simp -dsimp [pH, e5]) ?_
        simp -dsimp [mergeK_cons, mergeK_nil, pH, e1, e2, e3, e4, e5]
        refine callM_of h2 (by simp -dsimp [pH]) ?_
        simp -dsimp [mergeK_cons, mergeK_nil, pH, e1, e2, e3, e4, e5]
        refine callM_of h3 (by simp -dsimp [pH]) ?_
        simp -dsimp [mergeK_cons, mergeK_nil, pH, e1, e2, e3, e4, e5]
        refine callM_of h4 (by simp -dsimp [pH]) ?_
        simp -dsimp [mergeK_cons, mergeK_nil, pH, e1, e2, e3, e4, e5]
        refine callM_of h5 (by simp -dsimp [pH]) ?_
        simp -dsimp [mergeK_cons, mergeK_nil, pH, e1, e2, e3, e4, e5, hr, hlt, w1, cT, eTs, eAr, cAr]
      · rw [hfin i hi (by rw [← eq]; exact hbd), ← eq]
        have g3 : (0 : Int) < (m : Int) - i := by omega
        simp -dsimp [e1, e2, e3, e4, e5, hbd, hlt, g3, eArs, pH]
    · have e : i = m := by omega
      subst e
      rw [← eq]
      simp -dsimp [e1, e2, e3, e4, e5, eArs, pH]
def so2F (b : List Int) (r : Rd) : So × Rd :=
  (fun q1 : List Ar × Rd => (fun q2 : Int × Rd => (fun q3 : Bool × Rd => (fun q4 : T × Rd => ((⟨q1.1, q2.1, q3.1, q4.1⟩ : So), q4.2)) (term2F b q3.2)) (flagF b q2.2)) (numF b q1.2)) (args2F b r)
def co2F (b : List Int) (r : Rd) : Co × Rd :=
  (fun q1 : Int × Rd => (fun q2 : List Ar × Rd => (fun q3 : List T × Rd => (fun q4 : T × Rd => ((⟨q1.1, q2.1, q3.1, q4.1⟩ : Co), q4.2)) (term2F b q3.2)) (rw2F b q2.2)) (args2F b q1.2)) (numF b r)
def sos2F (b : List Int) (r : Rd) : List So × Rd := repF (so2F b) (numF b r).1.toNat (numF b r).2
def cos2F (b : List Int) (r : Rd) : List Co × Rd := repF (co2F b) (numF b r).1.toNat (numF b r).2
def block2F (b : List Int) (r : Rd) : Bl × Rd :=
  (fun q1 : List So × Rd => (fun q2 : List Co × Rd => (fun q3 : Int × Rd => ((⟨q1.1, q2.1, q3.1⟩ : Bl), q3.2)) (numF b q2.2)) (cos2F b q1.2)) (sos2F b r)
def decl2B (b : List Int) (q : Int × Rd) : De × Rd :=
  if q.1 = 1 then (⟨1, (term2F b q.2).1, T0, B0⟩, (term2F b q.2).2)
  else if q.1 = 2 then (⟨2, (term2F b q.2).1, (term2F b (term2F b q.2).2).1, B0⟩, (term2F b (term2F b q.2).2).2)
  else if q.1 = 3 then (⟨3, T0, T0, (block2F b q.2).1⟩, (block2F b q.2).2)
  else (⟨q.1, T0, T0, B0⟩, q.2)
def decl2F (b : List Int) (r : Rd) : De × Rd := ((decl2B b (numF b r)).1, ⟨(decl2B b (numF b r)).2.p, (decl2B b (numF b r)).2.bad || !rightM (decl2B b (numF b r)).1⟩)
end
section
attribute [local simp] allD_map_d sks_map_d tk tn tks initA EndsM
set_option maxHeartbeats 16000000 in
theorem decl2_blk (v : Nat) (b : List Int) (r r1 : Rd) (hB : byteL b) (hb : b.length ≤ 1000000000) (hN : MutC Tryz.prog n_porismref20_reader_byte [.ptr 9 v 0] [9] (pH v b r.p r.bad) [.int .i64 3] (pH v b r1.p r1.bad)) :
    MutC Tryz.prog n_porismref20_reader_decl [.ptr 9 v 0] [9] (pH v b r.p r.bad) [eDe ⟨3, T0, T0, (block2F b r1).1⟩] (pH v b (block2F b r1).2.p ((block2F b r1).2.bad || !rightM ⟨3, T0, T0, (block2F b r1).1⟩)) := by
  have hN1 := num2_ok v b r1 hB hb
  have hrng := numF_rng hB r1
  rw [block2F, sos2F]
  generalize numF b r1 = q at *
  obtain ⟨n, R0⟩ := q
  simp only at hN1 hrng
  obtain ⟨m, rfl⟩ : ∃ m : Nat, n = (m : Int) := ⟨n.toNat, by omega⟩
  have hm : m < 256 := by omega
  simp only [Int.toNat_natCast]
  have hfin : ∀ i, i ≤ m → (repF (so2F b) i R0).2.bad = true → repF (so2F b) m R0 = repF (so2F b) i R0 := fun i hi hb => repF_bad _ R0 hb hi
  have h80 : 80 ≤ maxRoom := by simp only [maxRoom]; omega
  have h96 : 96 ≤ maxRoom := by simp only [maxRoom]; omega
  refine mutQ Tryz.func35 c_porismref20_reader_decl rfl fun h hh => ?_
  simp -dsimp [x_porismref20_reader_decl, hh]
  generalize (h 2).ver + 1 = u2
  refine callM_of hN (by simp -dsimp [pH, hh]) ?_
  simp -dsimp [mergeK_cons, mergeK_nil, pH]
  generalize (h 3).ver + 1 = u3
  refine callM_of hN1 (by simp -dsimp [pH, hh]) ?_
  simp -dsimp [mergeK_cons, mergeK_nil, pH]
  refine wp_upto m (fun i st => st.s 0 = .ptr 9 v 0 ∧ st.s 2 = .ptr 2 u2 0 ∧ st.h 2 = ⟨u2, .box [.d (.int .i64 0), .d (.int .i64 0), .d (.int .i64 0), .fsl 3 [], .d (.int .i64 0), .d (.int .i64 0), .fsl 3 [], .fsl 6 [], .fsl 6 [], .d (.int .i64 0)] false⟩ ∧ st.s 3 = .ptr 3 u3 0 ∧ st.s 4 = .d (.int .i64 ((m : Int) - i)) ∧ ∃ q c v', q = repF (so2F b) i R0 ∧ st.h 3 = ⟨u3, .box [.d (.int .i64 3), .d (.int .i64 0), .d (.int .i64 0), .fsl 3 [], .d (.int .i64 0), .d (.int .i64 0), .fsl 3 [], c, .fsl 6 [], .d (.int .i64 0)] false⟩ ∧ cellR 58 v' eSo q.1 c st.h ∧ st.h 9 = ⟨v, .box [.d (.sl 1 (b.map (.int .u8))), .d (.int .i64 q.2.p), .d (.bool q.2.bad)] false⟩) ?_ ?_
  · simp -dsimp [repF, cellR]
  · rintro i ⟨s, hp⟩ hi ⟨e1, e2, e6, e7, e8, q, c, v', eq, e3, e4, e5⟩
    dsimp only at e1 e2 e3 e4 e5 e6 e7 e8
    have hlen : q.1.length ≤ i := by rw [eq]; exact repF_len _ _ _
    by_cases hstop : i < m ∧ q.2.bad = false
    · obtain ⟨hlt, hbd⟩ := hstop
      have w1 : IntKind.i64.wrap ((m : Int) - i - 1) = (m : Int) - (i + 1 : Nat) := (wrap_id (by omega) (by omega)).trans (by omega)
      have g3 : (0 : Int) < (m : Int) - i := by omega
      have hnx : repF (so2F b) (i + 1) R0 = (q.1 ++ [(so2F b q.2).1], (so2F b q.2).2) := by rw [repF, ← eq, if_neg (by simp [hbd])]
      rw [hnx, so2F]
      clear hfin eq
      have h1 := args2_ok v b q.2 hB hb
      generalize args2F b q.2 = q1 at *
      obtain ⟨as_, r1⟩ := q1
      have h2 := num2_ok v b r1 hB hb
      simp only at h1 ⊢
      generalize numF b r1 = q2 at *
      obtain ⟨lv, r2⟩ := q2
      have h3 := flag2_ok v b r2 hB hb
      simp only at h2 ⊢
      generalize flagF b r2 = q3 at *
      obtain ⟨dc, r3⟩ := q3
      have h4 := term2_ok v b r3 hB hb
      simp only at h3 ⊢
      generalize term2F b r3 = q4 at *
      obtain ⟨dt, r4⟩ := q4
      simp only at h4 ⊢
      obtain ⟨ks, p, bd⟩ := q
      simp only at hbd hlen e3 e4 e5 h1 ⊢
      subst hbd
      simp only [eArs, cT] at h1 h4
      have hr : (ks.length + 1) * 80 ≤ maxRoom := by simp only [maxRoom]; omega
      rcases e4 with ⟨rfl, rfl⟩ | ⟨hne, rfl, e4⟩
      · simp -dsimp [e1, e2, e3, e5, e6, e7, e8, g3, hlt]
        refine callM_of h1 (by simp -dsimp [pH, e5]) ?_
        simp -dsimp [mergeK_cons, mergeK_nil, pH, e1, e2, e3, e5, e6, e7, e8]
        refine callM_of h2 (by simp -dsimp [pH]) ?_
        simp -dsimp [mergeK_cons, mergeK_nil, pH, e1, e2, e3, e5, e6, e7, e8]
        refine callM_of h3 (by simp -dsimp [pH]) ?_
        simp -dsimp [mergeK_cons, mergeK_nil, pH, e1, e2, e3, e5, e6, e7, e8]
        refine callM_of h4 (by simp -dsimp [pH]) ?_
        simp -dsimp [mergeK_cons, mergeK_nil, pH, e1, e2, e3, e5, e6, e7, e8, h80, hlt, w1, cT, eArs, eSo, cSo, cellR]
      · simp -dsimp [e1, e2, e3, e4, e5, e6, e7, e8, g3, hlt]
        refine callM_of h1 (by simp -dsimp [pH, e5]) ?_
        simp -dsimp [mergeK_cons, mergeK_nil, pH, e1, e2, e3, e4, e5, e6, e7, e8]
        refine callM_of h2 (by simp -dsimp [pH]) ?_
        simp -dsimp [mergeK_cons, mergeK_nil, pH, e1, e2, e3, e4, e5, e6, e7, e8]
        refine callM_of h3 (by simp -dsimp [pH]) ?_
        simp -dsimp [mergeK_cons, mergeK_nil, pH, e1, e2, e3, e4, e5, e6, e7, e8]
        refine callM_of h4 (by simp -dsimp [pH]) ?_
        simp -dsimp [mergeK_cons, mergeK_nil, pH, e1, e2, e3, e4, e5, e6, e7, e8, hr, hlt, w1, cT, eArs, eSo, cSo, cellR]
    · have hq : repF (so2F b) m R0 = q := by
        rcases Nat.lt_or_ge i m with hlt | hge
        · have hbd : q.2.bad = true := by cases hbd : q.2.bad; exact absurd ⟨hlt, hbd⟩ hstop; rfl
          rw [hfin i hi (by rw [← eq]; exact hbd), ← eq]
        · have e : i = m := by omega
          rw [eq, e]
      have hend : ((0 : Int) < (m : Int) - i ∧ i < m ∧ q.2.bad = true) ∨ (m : Int) - i = 0 := by
        rcases Nat.lt_or_ge i m with hlt | hge
        · exact .inl ⟨by omega, hlt, by cases hbd : q.2.bad; exact absurd ⟨hlt, hbd⟩ hstop; rfl⟩
        · exact .inr (by omega)
      rw [hq]
      clear hfin eq hq
      have h2 := num2_ok v b q.2 hB hb
      have hrng2 := numF_rng hB q.2
      simp only [cos2F]
      generalize numF b q.2 = q2 at *
      obtain ⟨n2, R2⟩ := q2
      simp only at h2 hrng2 ⊢
      obtain ⟨m2, rfl⟩ : ∃ m2 : Nat, n2 = (m2 : Int) := ⟨n2.toNat, by omega⟩
      have hm2 : m2 < 256 := by omega
      simp only [Int.toNat_natCast]
      have hfin2 : ∀ i, i ≤ m2 → (repF (co2F b) i R2).2.bad = true → repF (co2F b) m2 R2 = repF (co2F b) i R2 := fun i hi hb => repF_bad _ R2 hb hi
      rcases hend with ⟨g3, hlt, hbd⟩ | g3 <;> first | simp -dsimp [e1, e2, e3, e5, e6, e7, e8, g3, hlt, hbd] | simp -dsimp [e1, e2, e3, e5, e6, e7, e8, g3]
      all_goals
        refine callM_of h2 (by first | simp -dsimp [pH, e5, hbd] | simp -dsimp [pH, e5]) ?_
        simp -dsimp [mergeK_cons, mergeK_nil, pH, e1, e2, e3, e5, e6, e7, e8]
        refine wp_upto m2 (fun i st => st.s 0 = .ptr 9 v 0 ∧ st.s 2 = .ptr 2 u2 0 ∧ st.h 2 = ⟨u2, .box [.d (.int .i64 0), .d (.int .i64 0), .d (.int .i64 0), .fsl 3 [], .d (.int .i64 0), .d (.int .i64 0), .fsl 3 [], .fsl 6 [], .fsl 6 [], .d (.int .i64 0)] false⟩ ∧ st.s 3 = .ptr 3 u3 0 ∧ st.s 6 = .d (.int .i64 ((m2 : Int) - i)) ∧ ∃ z c2 v2, z = repF (co2F b) i R2 ∧ st.h 3 = ⟨u3, .box [.d (.int .i64 3), .d (.int .i64 0), .d (.int .i64 0), .fsl 3 [], .d (.int .i64 0), .d (.int .i64 0), .fsl 3 [], c, c2, .d (.int .i64 0)] false⟩ ∧ cellR 58 v' eSo q.1 c st.h ∧ cellR 91 v2 eCo z.1 c2 st.h ∧ st.h 9 = ⟨v, .box [.d (.sl 1 (b.map (.int .u8))), .d (.int .i64 z.2.p), .d (.bool z.2.bad)] false⟩) ?_ ?_
        · simp -dsimp [repF, cellR, e1, e2, e6, e7]
          exact ⟨e3, e4⟩
        · clear e1 e2 e3 e4 e5 e6 e7 e8
          rintro j ⟨s, hp⟩ hj ⟨e1, e2, e6, e7, e8, z, c2, v2, eq2, e3, e4, e9, e5⟩
          dsimp only at e1 e2 e3 e4 e5 e6 e7 e8 e9
          have hlen2 : z.1.length ≤ j := by rw [eq2]; exact repF_len _ _ _
          by_cases hstop2 : j < m2 ∧ z.2.bad = false
          · obtain ⟨hlt, hbd⟩ := hstop2
            have w1 : IntKind.i64.wrap ((m2 : Int) - j - 1) = (m2 : Int) - (j + 1 : Nat) := (wrap_id (by omega) (by omega)).trans (by omega)
            have g3 : (0 : Int) < (m2 : Int) - j := by omega
            have hnx : repF (co2F b) (j + 1) R2 = (z.1 ++ [(co2F b z.2).1], (co2F b z.2).2) := by rw [repF, ← eq2, if_neg (by simp [hbd])]
            rw [hnx, co2F]
            clear hfin2 eq2
            have k1 := num2_ok v b z.2 hB hb
            generalize numF b z.2 = q1 at *
            obtain ⟨sn, r1⟩ := q1
            have k2 := args2_ok v b r1 hB hb
            simp only at k1 ⊢
            generalize args2F b r1 = q2 at *
            obtain ⟨as_, r2⟩ := q2
            have k3 := row2_ok v b r2 hB hb
            simp only at k2 ⊢
            generalize rw2F b r2 = q3 at *
            obtain ⟨ix, r3⟩ := q3
            have k4 := term2_ok v b r3 hB hb
            simp only at k3 ⊢
            generalize term2F b r3 = q4 at *
            obtain ⟨dt, r4⟩ := q4
            simp only at k4 ⊢
            obtain ⟨ks, p, bd⟩ := z
            simp only at hbd hlen2 e3 e5 e9 k1 ⊢
            subst hbd
            simp only [eArs, eTs, cT] at k2 k3 k4
            have hr : (ks.length + 1) * 96 ≤ maxRoom := by simp only [maxRoom]; omega
            simp only [cellR] at e4
            rcases e9 with ⟨rfl, rfl⟩ | ⟨hne, rfl, e9⟩
            · simp -dsimp [e1, e2, e3, e5, e6, e7, e8, g3, hlt]
              refine callM_of k1 (by simp -dsimp [pH, e5]) ?_
              simp -dsimp [mergeK_cons, mergeK_nil, pH, e1, e2, e3, e5, e6, e7, e8]
              refine callM_of k2 (by simp -dsimp [pH]) ?_
              simp -dsimp [mergeK_cons, mergeK_nil, pH, e1, e2, e3, e5, e6, e7, e8]
              refine callM_of k3 (by simp -dsimp [pH]) ?_
              simp -dsimp [mergeK_cons, mergeK_nil, pH, e1, e2, e3, e5, e6, e7, e8]
              refine callM_of k4 (by simp -dsimp [pH]) ?_
              simp -dsimp [mergeK_cons, mergeK_nil, pH, e1, e2, e3, e5, e6, e7, e8, h96, hlt, w1, cT, eArs, eTs, eCo, cCo, cellR]
              exact e4
            · simp -dsimp [e1, e2, e3, e5, e6, e7, e8, e9, g3, hlt]
              refine callM_of k1 (by simp -dsimp [pH, e5]) ?_
              simp -dsimp [mergeK_cons, mergeK_nil, pH, e1, e2, e3, e5, e6, e7, e8, e9]
              refine callM_of k2 (by simp -dsimp [pH]) ?_
              simp -dsimp [mergeK_cons, mergeK_nil, pH, e1, e2, e3, e5, e6, e7, e8, e9]
              refine callM_of k3 (by simp -dsimp [pH]) ?_
              simp -dsimp [mergeK_cons, mergeK_nil, pH, e1, e2, e3, e5, e6, e7, e8, e9]
              refine callM_of k4 (by simp -dsimp [pH]) ?_
              simp -dsimp [mergeK_cons, mergeK_nil, pH, e1, e2, e3, e5, e6, e7, e8, e9, hr, hlt, w1, cT, eArs, eTs, eCo, cCo, cellR]
              exact e4
          · have hq2 : repF (co2F b) m2 R2 = z := by
              rcases Nat.lt_or_ge j m2 with hlt | hge
              · have hbd : z.2.bad = true := by cases hbd : z.2.bad; exact absurd ⟨hlt, hbd⟩ hstop2; rfl
                rw [hfin2 j hj (by rw [← eq2]; exact hbd), ← eq2]
              · have e : j = m2 := by omega
                rw [eq2, e]
            have hend2 : ((0 : Int) < (m2 : Int) - j ∧ j < m2 ∧ z.2.bad = true) ∨ (m2 : Int) - j = 0 := by
              rcases Nat.lt_or_ge j m2 with hlt | hge
              · exact .inl ⟨by omega, hlt, by cases hbd : z.2.bad; exact absurd ⟨hlt, hbd⟩ hstop2; rfl⟩
              · exact .inr (by omega)
            rw [hq2]
            clear hfin2 eq2 hq2
            have h3 := num2_ok v b z.2 hB hb
            generalize numF b z.2 = q3 at *
            obtain ⟨el, R3⟩ := q3
            simp only at h3 ⊢
            rcases hend2 with ⟨g3, hlt, hbd⟩ | g3 <;> first | simp -dsimp [e1, e2, e3, e5, e6, e7, e8, g3, hlt, hbd] | simp -dsimp [e1, e2, e3, e5, e6, e7, e8, g3]
            all_goals
              refine callM_of h3 (by first | simp -dsimp [pH, e5, hbd] | simp -dsimp [pH, e5]) ?_
              have hR := decl20_ok ⟨3, T0, T0, ⟨q.1, z.1, el⟩⟩
              simp only [eDe, cDe, eBl, T0, B0, cT, cBl, eSos, eCos, List.cons_append, List.nil_append, T.kind, T.num, T.kids, List.map_nil] at hR ⊢
              cases hb3 : R3.bad
              all_goals
                rcases e4 with ⟨a1, rfl⟩ | ⟨_, rfl, e4⟩ <;> rcases e9 with ⟨a2, rfl⟩ | ⟨_, rfl, e9⟩
              · rw [a1, a2] at hR ⊢
                simp -dsimp [mergeK_cons, mergeK_nil, pH, e1, e2, e3, e5, e6, e7, e8, hb3]
                refine call_of hR ?_
                simp -dsimp [pH, e1, e2, e3, e5, e6, e7, e8, hb3]
              · rw [a1] at hR ⊢
                simp -dsimp [mergeK_cons, mergeK_nil, pH, e1, e2, e3, e5, e6, e7, e8, e9, hb3]
                refine call_of hR ?_
                simp -dsimp [pH, e1, e2, e3, e5, e6, e7, e8, e9, hb3]
              · rw [a2] at hR ⊢
                simp -dsimp [mergeK_cons, mergeK_nil, pH, e1, e2, e3, e4, e5, e6, e7, e8, hb3]
                refine call_of hR ?_
                simp -dsimp [pH, e1, e2, e3, e4, e5, e6, e7, e8, hb3]
              · simp -dsimp [mergeK_cons, mergeK_nil, pH, e1, e2, e3, e4, e5, e6, e7, e8, e9, hb3]
                refine call_of hR ?_
                simp -dsimp [pH, e1, e2, e3, e4, e5, e6, e7, e8, e9, hb3]
              · rw [a1, a2]
                simp -dsimp [mergeK_cons, mergeK_nil, pH, e1, e2, e3, e5, e6, e7, e8, hb3]
              · rw [a1]
                simp -dsimp [mergeK_cons, mergeK_nil, pH, e1, e2, e3, e5, e6, e7, e8, e9, hb3]
              · rw [a2]
                simp -dsimp [mergeK_cons, mergeK_nil, pH, e1, e2, e3, e4, e5, e6, e7, e8, hb3]
              · simp -dsimp [mergeK_cons, mergeK_nil, pH, e1, e2, e3, e4, e5, e6, e7, e8, e9, hb3]
end
section
attribute [local simp] allD_map_d sks_map_d tk tn tks initA EndsM
set_option maxHeartbeats 4000000 in
theorem decl2_ok (v : Nat) (b : List Int) (r : Rd) (hB : byteL b) (hb : b.length ≤ 1000000000) : MutC Tryz.prog n_porismref20_reader_decl [.ptr 9 v 0] [9] (pH v b r.p r.bad) [eDe (decl2F b r).1] (pH v b (decl2F b r).2.p (decl2F b r).2.bad) := by
  have hN := num2_ok v b r hB hb
  rw [decl2F]
  generalize numF b r = q at *
  obtain ⟨k, r1⟩ := q
  simp only at hN
  by_cases k3 : k = 3
  · subst k3
    have hB3 := decl2_blk v b r r1 hB hb hN
    have e : decl2B b (3, r1) = (⟨3, T0, T0, (block2F b r1).1⟩, (block2F b r1).2) := by
      simp only [decl2B]
      rw [if_neg (by decide), if_neg (by decide)]
      simp only [if_true]
    rw [e]
    exact hB3
  refine mutQ Tryz.func35 c_porismref20_reader_decl rfl fun h hh => ?_
  by_cases k1 : k = 1
  · subst k1
    simp only [decl2B, if_true]
    have h2 := term2_ok v b r1 hB hb
    generalize term2F b r1 = q2 at *
    obtain ⟨t, r2⟩ := q2
    simp only at h2 ⊢
    have hR := decl20_ok ⟨1, t, T0, B0⟩
    simp only [eDe, cDe, T0, B0, cT, cBl, eSos, eCos, List.cons_append, List.nil_append, T.kind, T.num, T.kids, List.map_nil] at hR h2 ⊢
    simp -dsimp [x_porismref20_reader_decl, hh]
    refine callM_of hN (by simp -dsimp [pH, hh]) ?_
    simp -dsimp [mergeK_cons, mergeK_nil, pH, hh]
    refine callM_of h2 (by simp -dsimp [pH, hh]) ?_
    cases hb2 : r2.bad
    · simp -dsimp [mergeK_cons, mergeK_nil, pH, hh, hb2]
      refine call_of hR ?_
      simp -dsimp [pH]
    · simp -dsimp [mergeK_cons, mergeK_nil, pH, hh, hb2]
  by_cases k2 : k = 2
  · subst k2
    simp only [decl2B]
    rw [if_neg (by decide)]
    simp only [if_true]
    have h2 := term2_ok v b r1 hB hb
    generalize term2F b r1 = q2 at *
    obtain ⟨t, r2⟩ := q2
    have h3 := term2_ok v b r2 hB hb
    simp only at h2 ⊢
    generalize term2F b r2 = q3 at *
    obtain ⟨u, r3⟩ := q3
    simp only at h3 ⊢
    have hR := decl20_ok ⟨2, t, u, B0⟩
    simp only [eDe, cDe, T0, B0, cT, cBl, eSos, eCos, List.cons_append, List.nil_append, T.kind, T.num, T.kids, List.map_nil] at hR h2 h3 ⊢
    simp -dsimp [x_porismref20_reader_decl, hh]
    refine callM_of hN (by simp -dsimp [pH, hh]) ?_
    simp -dsimp [mergeK_cons, mergeK_nil, pH, hh]
    refine callM_of h2 (by simp -dsimp [pH, hh]) ?_
    simp -dsimp [mergeK_cons, mergeK_nil, pH, hh]
    refine callM_of h3 (by simp -dsimp [pH, hh]) ?_
    cases hb2 : r3.bad
    · simp -dsimp [mergeK_cons, mergeK_nil, pH, hh, hb2]
      refine call_of hR ?_
      simp -dsimp [pH]
    · simp -dsimp [mergeK_cons, mergeK_nil, pH, hh, hb2]
  simp only [decl2B]
  rw [if_neg k1, if_neg k2, if_neg k3]
  have hR := decl20_ok ⟨k, T0, T0, B0⟩
  simp only [eDe, cDe, T0, B0, cT, cBl, eSos, eCos, List.cons_append, List.nil_append, T.kind, T.num, T.kids, List.map_nil] at hR ⊢
  simp -dsimp [x_porismref20_reader_decl, hh]
  refine callM_of hN (by simp -dsimp [pH, hh]) ?_
  cases hb2 : r1.bad
  · simp -dsimp [mergeK_cons, mergeK_nil, pH, hh, hb2, k1, k2, k3]
    refine call_of hR ?_
    simp -dsimp [pH]
  · simp -dsimp [mergeK_cons, mergeK_nil, pH, hh, hb2, k1, k2, k3]
def get2R (b : List Int) : List De × Rd := repF (decl2F b) (numF b ⟨0, false⟩).1.toNat (numF b ⟨0, false⟩).2
def resZ (n : Int) (Z : List De × Rd) (len : Nat) : List D := if n ≤ 60 ∧ Z.2.bad = false ∧ Z.2.p = len then [eDes Z.1, .bool true] else [eDes [], .bool false]
set_option maxHeartbeats 4000000 in
theorem read20_ok (b : List Int) (hB : byteL b) (hb : b.length ≤ 65536) : Pure Tryz.prog n_porismref20_Read [eB b] (resZ (numF b ⟨0, false⟩).1 (get2R b) b.length) := by
  refine p_porismref20_Read rfl fun hs => ?_
  have g : ¬ (65536 : Int) < b.length := by omega
  have h1 := num2_ok 1 b ⟨0, false⟩ hB (by omega)
  have hrng := numF_rng hB ⟨0, false⟩
  rw [get2R]
  generalize numF b ⟨0, false⟩ = q at *
  obtain ⟨n, R0⟩ := q
  simp only at h1 hrng ⊢
  obtain ⟨m, rfl⟩ : ∃ m : Nat, n = (m : Int) := ⟨n.toNat, by omega⟩
  have hm : m < 256 := by omega
  simp only [Int.toNat_natCast]
  have hfin : ∀ i, i ≤ m → (repF (decl2F b) i R0).2.bad = true → repF (decl2F b) m R0 = repF (decl2F b) i R0 := fun i hi hb => repF_bad _ R0 hb hi
  generalize hZ : repF (decl2F b) m R0 = Z at *
  simp -dsimp [x_porismref20_Read, eB, g]
  refine callM_of h1 (by simp -dsimp [pH]) ?_
  simp -dsimp [mergeK_cons, mergeK_nil, pH]
  by_cases g60 : (60 : Int) < m
  · have g61 : ¬ (m : Int) ≤ 60 := by omega
    simp -dsimp [g60, g61, eDes, resZ]
  have g61 : (m : Int) ≤ 60 := by omega
  simp -dsimp [g60, g61]
  refine wp_upto m (fun i st => st.s 0 = .d (.sl 1 (b.map (.int .u8))) ∧ st.s 4 = .ptr 9 1 0 ∧ st.s 5 = .d (.int .i64 ((m : Int) - i)) ∧ ∃ q v', q = repF (decl2F b) i R0 ∧ st.s 6 = .rsl 6 v' ∧ st.h 6 = ⟨v', .row 10 (q.1.map eDe) false⟩ ∧ st.h 9 = ⟨1, .box [.d (.sl 1 (b.map (.int .u8))), .d (.int .i64 q.2.p), .d (.bool q.2.bad)] false⟩) ?_ ?_
  · simp -dsimp [repF]
  · rintro i ⟨s, hp⟩ hi ⟨e0, e1, e2, q, v', eq, e3, e4, e5⟩
    dsimp only at e0 e1 e2 e3 e4 e5
    have hlen : q.1.length ≤ i := by rw [eq]; exact repF_len _ _ _
    by_cases hstop : i < m ∧ q.2.bad = false
    · obtain ⟨hlt, hbd⟩ := hstop
      have w1 : IntKind.i64.wrap ((m : Int) - i - 1) = (m : Int) - (i + 1 : Nat) := (wrap_id (by omega) (by omega)).trans (by omega)
      have g3 : (0 : Int) < (m : Int) - i := by omega
      have hnx : repF (decl2F b) (i + 1) R0 = (q.1 ++ [(decl2F b q.2).1], (decl2F b q.2).2) := by rw [repF, ← eq, if_neg (by simp [hbd])]
      rw [hnx]
      clear hfin eq
      have hD := decl2_ok 1 b q.2 hB (by omega)
      generalize decl2F b q.2 = z at *
      obtain ⟨d, z⟩ := z
      obtain ⟨ks, p, bd⟩ := q
      simp only at hbd hlen hD e4 e5 ⊢
      subst hbd
      have hr : (ks.length + 1) * 144 ≤ maxRoom := by simp only [maxRoom]; omega
      have hce : (eDe d).cells.length = 10 ∧ ∀ x ∈ (eDe d).cells, (AV.d x).one = true := by
        refine ⟨rfl, fun x hx => ?_⟩
        simp [eDe, cDe, cT, cBl, eSos, eCos, D.cells] at hx
        rcases hx with rfl | rfl | rfl | rfl | rfl | rfl | rfl | rfl | rfl | rfl <;> rfl
      simp -dsimp [e0, e1, e2, e3, e4, e5, g3, hlt]
      refine callM_of hD (by simp -dsimp [pH, e5]) ?_
      simp -dsimp [mergeK_cons, mergeK_nil, pH, e0, e1, e2, e3, e4, e5, hr, hlt, w1]
      rw [if_pos hce]
      simp -dsimp [e0, e1, e2, e3, e4, e5, hr, hlt, w1]
    · have hq : q = Z := by
        rcases Nat.lt_or_ge i m with hlt | hge
        · have hbd : q.2.bad = true := by cases hbd : q.2.bad; exact absurd ⟨hlt, hbd⟩ hstop; rfl
          rw [hfin i hi (by rw [← eq]; exact hbd), ← eq]
        · have e : i = m := by omega
          rw [eq, e, hZ]
      have hend : ((0 : Int) < (m : Int) - i ∧ i < m ∧ q.2.bad = true) ∨ (m : Int) - i = 0 := by
        rcases Nat.lt_or_ge i m with hlt | hge
        · exact .inl ⟨by omega, hlt, by cases hbd : q.2.bad; exact absurd ⟨hlt, hbd⟩ hstop; rfl⟩
        · exact .inr (by omega)
      subst hq
      clear hfin eq hstop hZ
      obtain ⟨ks, p, bd⟩ := q
      simp only at e4 e5 hend ⊢
      rcases hend with ⟨g3, hlt, rfl⟩ | g3
      · simp -dsimp [e0, e1, e2, e3, e4, e5, g3, g61, hlt, eDes, resZ]
      · cases bd
        · by_cases hpl : (p : Int) = b.length
          · have hpl' : p = b.length := by omega
            simp -dsimp [e0, e1, e2, e3, e4, e5, g3, g61, eDes, hpl, hpl', resZ]
          · have hpl' : ¬ p = b.length := by omega
            simp -dsimp [e0, e1, e2, e3, e4, e5, g3, g61, eDes, hpl, hpl', resZ]
        · simp -dsimp [e0, e1, e2, e3, e4, e5, g3, g61, eDes, resZ]
end
section
attribute [local simp] allD_map_d sks_map_d tk tn tks initA EndsM
theorem wr_callP {g : FuncId} {ds : List D} {ws : List (List Int)} (hW : Wr g ds ws) (vb v : Nat) (b : List Int) (P : List (List Int)) {aa : List AV} {dd : Option (List D)} {s : Nat → AV} {h : Nat → Ent} {d : Option Nat} {K : S → Prop} (has : aa = .ptr 26 vb 0 :: ds.map .d) (hl : b.length + P.flatten.length + ws.flatten.length ≤ 50000000)
    (h1 : h 26 = ⟨vb, .box [.rsl 3001 (v + P.length)] false⟩) (h2 : h 3001 = ⟨v + P.length, .row 1 ((b ++ P.flatten).map (.int .u8)) false⟩)
    (hk : ∀ P', P' = P ++ ws → P'.flatten.length = P.flatten.length + ws.flatten.length → K ⟨putS s d (resA []), upd (upd h 3001 ⟨v + P'.length, .row 1 ((b ++ P'.flatten).map (.int .u8)) false⟩) 26 ⟨vb, .box [.rsl 3001 (v + P'.length)] false⟩⟩) : runC Tryz.prog (some (g, [])) aa dd [26, 3001] s h d K (by exact ()) (by exact ()) (by exact ()) :=
  wr_call hW vb (v + P.length) (v + (P ++ ws).length) (b ++ P.flatten) (b ++ (P ++ ws).flatten) has (by rw [List.flatten_append, List.length_append, List.length_append]; omega) (by rw [List.length_append]; omega) (by rw [List.flatten_append, List.append_assoc]) h1 h2 (hk _ rfl (by rw [List.flatten_append, List.length_append]))
theorem wr_callPA {g : FuncId} {cs : List D} {ws : List (List Int)} (hW : Wr g [.agg cs] ws) (vb v : Nat) (b : List Int) (P : List (List Int)) {aa : List AV} {dd : Option (List D)} {s : Nat → AV} {h : Nat → Ent} {d : Option Nat} {K : S → Prop} (has : aa = [.ptr 26 vb 0, .agg (cs.map .d)]) (hl : b.length + P.flatten.length + ws.flatten.length ≤ 50000000)
    (h1 : h 26 = ⟨vb, .box [.rsl 3001 (v + P.length)] false⟩) (h2 : h 3001 = ⟨v + P.length, .row 1 ((b ++ P.flatten).map (.int .u8)) false⟩)
    (hk : ∀ P', P' = P ++ ws → P'.flatten.length = P.flatten.length + ws.flatten.length → K ⟨putS s d (resA []), upd (upd h 3001 ⟨v + P'.length, .row 1 ((b ++ P'.flatten).map (.int .u8)) false⟩) 26 ⟨vb, .box [.rsl 3001 (v + P'.length)] false⟩⟩) : runC Tryz.prog (some (g, [])) aa dd [26, 3001] s h d K (by exact ()) (by exact ()) (by exact ()) :=
  wr_callA hW vb (v + P.length) (v + (P ++ ws).length) (b ++ P.flatten) (b ++ (P ++ ws).flatten) has (by rw [List.flatten_append, List.length_append, List.length_append]; omega) (by rw [List.length_append]; omega) (by rw [List.flatten_append, List.append_assoc]) h1 h2 (hk _ rfl (by rw [List.flatten_append, List.length_append]))
def fl (is : Bool) : Int := if is then 1 else 0
def argW (a : Ar) : List (List Int) := [[fl a.rc]] ++ [pkO a.ty] ++ rowW a.dom ++ [[u8 a.sort]] ++ rowW a.idx
structure okAW (a : Ar) : Prop where
  ty : okW a.ty
  dom : ∀ t ∈ a.dom, okW t
  idx : ∀ t ∈ a.idx, okW t
def argsW (l : List Ar) : List (List Int) := [u8 l.length] :: (l.map argW).flatten
set_option maxHeartbeats 4000000 in
theorem args_wr (l : List Ar) (ho : ∀ a ∈ l, okAW a) : Wr n_pile_writer_args [eArs l] (argsW l) := by
  refine wr_of Tryz.func56 c_pile_writer_args rfl fun vb v b h hl h1 h2 hs => ?_
  have hln := hs (eArs l) (by simp)
  simp [eArs, small] at hln
  replace hln := hln.1
  simp only [argsW, List.flatten_cons, List.length_append, List.length_cons, List.length_nil] at hl
  have hle := before_le argW l
  simp -dsimp [x_pile_writer_args, h1, h2, eArs]
  refine wr_call (num_wr l.length) vb v (v + 1) b (b ++ [u8 l.length]) rfl (by simp; omega) rfl rfl h1 h2 ?_
  simp -dsimp
  obtain ⟨b', hb'⟩ : ∃ b', b' = b ++ [u8 l.length] := ⟨_, rfl⟩
  have hbl : b'.length = b.length + 1 := by rw [hb']; simp
  refine wp_upto l.length (fun i st => st.s 0 = .ptr 26 vb 0 ∧ st.s 10 = .d (.sl 7 (l.map eAr)) ∧ st.s 11 = .d (.int .i64 l.length) ∧ st.s 12 = .d (.int .i64 i) ∧
    ∃ P, P = before argW l i ∧ st.h 26 = ⟨vb, .box [.rsl 3001 (v + 1 + P.length)] false⟩ ∧ st.h 3001 = ⟨v + 1 + P.length, .row 1 ((b' ++ P.flatten).map (.int .u8)) false⟩) ?_ ?_
  · simp -dsimp [before_zero, hb']
  · rintro i ⟨s, hp⟩ hi ⟨e1, e2, e3, e4, P, eP, e5, e6⟩
    dsimp only at e1 e2 e3 e4 e5 e6
    rcases Nat.lt_or_ge i l.length with hlt | hge
    · have w1 : IntKind.i64.wrap ((i : Int) + 1) = (i : Int) + 1 := wrap_id (by omega) (by omega)
      have hok := ho l[i] (List.getElem_mem _)
      have hnx := before_next argW l hlt
      have hle1 := hle (i + 1)
      rw [← eP] at hnx
      generalize before argW l (i + 1) = PN at *
      obtain ⟨a, ha⟩ : ∃ a, l[i] = a := ⟨_, rfl⟩
      rw [ha] at hok hnx
      have hlen : PN.flatten.length = P.flatten.length + (1 + (pkO a.ty).length + (rowW a.dom).flatten.length + 1 + (rowW a.idx).flatten.length) := by
        rw [hnx, argW]; simp only [List.flatten_append, List.length_append, List.flatten_cons, List.flatten_nil, List.length_cons, List.length_nil]; omega
      have hf := flag_wr a.rc
      have hr1 := row_wr a.dom hok.dom
      have hr2 := row_wr a.idx hok.idx
      simp only [eTs] at hr1 hr2
      simp -dsimp [e1, e2, e3, e4, e5, e6, hlt, ha, eAr, cAr, cT, eTs]
      refine wr_callP hf vb (v + 1) b' P rfl (by simp only [List.flatten_cons, List.flatten_nil, List.length_append, List.length_cons, List.length_nil]; omega) (by simp -dsimp [e5]) (by simp -dsimp [e6]) fun P1 q1 k1 => ?_
      simp only [List.flatten_cons, List.flatten_nil, List.length_append, List.length_cons, List.length_nil] at k1
      simp -dsimp [e1, e2, e3, e4]
      refine wr_callPA (term_wr a.ty hok.ty.1 hok.ty.2) vb (v + 1) b' P1 rfl (by simp only [List.flatten_cons, List.flatten_nil, List.length_append, List.length_cons, List.length_nil]; omega) (by simp -dsimp) (by simp -dsimp) fun P2 q2 k2 => ?_
      simp only [List.flatten_cons, List.flatten_nil, List.length_append, List.length_cons, List.length_nil] at k2
      simp -dsimp [e1, e2, e3, e4]
      refine wr_callP hr1 vb (v + 1) b' P2 rfl (by omega) (by simp -dsimp) (by simp -dsimp) fun P3 q3 k3 => ?_
      simp -dsimp [e1, e2, e3, e4]
      refine wr_callP (num_wr a.sort) vb (v + 1) b' P3 rfl (by simp only [List.flatten_cons, List.flatten_nil, List.length_append, List.length_cons, List.length_nil]; omega) (by simp -dsimp) (by simp -dsimp) fun P4 q4 k4 => ?_
      simp only [List.flatten_cons, List.flatten_nil, List.length_append, List.length_cons, List.length_nil] at k4
      simp -dsimp [e1, e2, e3, e4]
      refine wr_callP hr2 vb (v + 1) b' P4 rfl (by omega) (by simp -dsimp) (by simp -dsimp) fun P5 q5 k5 => ?_
      have hPN : P5 = PN := by rw [q5, q4, q3, q2, q1, hnx, argW]; simp only [List.append_assoc]; rfl
      subst hPN
      simp -dsimp [e1, e2, e3, e4, hlt, w1]
    · have e : i = l.length := by omega
      subst e
      rw [before_all] at eP
      subst eP
      simp -dsimp [e1, e2, e3, e4, e5, e6, wH, argsW, hb', Nat.add_assoc, Nat.add_comm 1]
def soW (x : So) : List (List Int) := argsW x.idx ++ [[u8 x.level]] ++ [[fl x.dec]] ++ [pkO x.dty]
def coW (c : Co) : List (List Int) := [[u8 c.sort]] ++ argsW c.args ++ rowW c.idx ++ [pkO c.dec]
def blkW (b : Bl) : List (List Int) := [[u8 b.sorts.length]] ++ (b.sorts.map soW).flatten ++ [[u8 b.cons.length]] ++ (b.cons.map coW).flatten ++ [[u8 b.elim]]
structure okBW (b : Bl) : Prop where
  so : ∀ x ∈ b.sorts, (∀ a ∈ x.idx, okAW a) ∧ okW x.dty
  co : ∀ c ∈ b.cons, (∀ a ∈ c.args, okAW a) ∧ (∀ t ∈ c.idx, okW t) ∧ okW c.dec
set_option maxHeartbeats 8000000 in
theorem block_wr (B : Bl) (ho : okBW B) : Wr n_pile_writer_block [eBl B] (blkW B) := by
  refine wr_of Tryz.func29 c_pile_writer_block rfl fun vb v b h hl h1 h2 hs => ?_
  have hln := hs (eBl B) (by simp)
  simp -dsimp [eBl, cBl, eSos, eCos, small] at hln
  have hln1 := hln.1.1
  have hln2 := hln.2.1
  simp only [blkW, List.flatten_append, List.length_append, List.flatten_cons, List.flatten_nil, List.length_cons, List.length_nil] at hl
  have hle1 := before_le soW B.sorts
  have hle2 := before_le coW B.cons
  simp -dsimp [x_pile_writer_block, h1, h2, eBl, cBl, eSos, eCos]
  generalize (h 3).ver + 1 = v3
  refine wr_callP (num_wr B.sorts.length) vb v b [] rfl (by simp only [List.flatten_cons, List.flatten_nil, List.length_append, List.length_cons, List.length_nil]; omega) (by simp -dsimp [h1]) (by simp -dsimp [h2]) fun P0 q0 k0 => ?_
  simp only [List.flatten_cons, List.flatten_nil, List.length_append, List.length_cons, List.length_nil] at k0
  simp -dsimp
  refine wp_upto B.sorts.length (fun i st => st.s 0 = .ptr 26 vb 0 ∧ st.s 3 = .ptr 3 v3 0 ∧ st.h 3 = ⟨v3, .box [.d (.sl 6 (B.sorts.map eSo)), .d (.sl 6 (B.cons.map eCo)), .d (.int .i64 B.elim)] false⟩ ∧ st.s 14 = .d (.sl 6 (B.sorts.map eSo)) ∧ st.s 15 = .d (.int .i64 B.sorts.length) ∧ st.s 16 = .d (.int .i64 i) ∧
    ∃ P, P = P0 ++ before soW B.sorts i ∧ st.h 26 = ⟨vb, .box [.rsl 3001 (v + P.length)] false⟩ ∧ st.h 3001 = ⟨v + P.length, .row 1 ((b ++ P.flatten).map (.int .u8)) false⟩) ?_ ?_
  · simp -dsimp [before_zero]
  · rintro i ⟨s, hp⟩ hi ⟨e1, e2, e7, e8, e3, e4, P, eP, e5, e6⟩
    dsimp only at e1 e2 e3 e4 e5 e6 e7 e8
    rcases Nat.lt_or_ge i B.sorts.length with hlt | hge
    · have w1 : IntKind.i64.wrap ((i : Int) + 1) = (i : Int) + 1 := wrap_id (by omega) (by omega)
      have hok := ho.so B.sorts[i] (List.getElem_mem _)
      have hnx := before_next soW B.sorts hlt
      have hle := hle1 (i + 1)
      obtain ⟨a, ha⟩ : ∃ a, B.sorts[i] = a := ⟨_, rfl⟩
      rw [ha] at hok hnx
      obtain ⟨PN, hPN⟩ : ∃ PN, PN = P0 ++ before soW B.sorts (i + 1) := ⟨_, rfl⟩
      have hPN2 : PN = P ++ soW a := by rw [hPN, hnx, eP, List.append_assoc]
      have hlen2 : PN.flatten.length = P0.flatten.length + (before soW B.sorts (i + 1)).flatten.length := by rw [hPN, List.flatten_append, List.length_append]
      have hlen : PN.flatten.length = P.flatten.length + ((argsW a.idx).flatten.length + 1 + 1 + (pkO a.dty).length) := by
        rw [hPN2, soW]; simp only [List.flatten_append, List.length_append, List.flatten_cons, List.flatten_nil, List.length_cons, List.length_nil]; omega
      have hA := args_wr a.idx hok.1
      have hf := flag_wr a.dec
      simp only [eArs] at hA
      simp -dsimp [e1, e2, e3, e4, e5, e6, e7, e8, hlt, ha, eSo, cSo, eArs, cT]
      refine wr_callP hA vb v b P rfl (by omega) (by simp -dsimp [e5]) (by simp -dsimp [e6]) fun P1 q1 k1 => ?_
      simp -dsimp [e1, e2, e3, e4]
      refine wr_callP (num_wr a.level) vb v b P1 rfl (by simp only [List.flatten_cons, List.flatten_nil, List.length_append, List.length_cons, List.length_nil]; omega) (by simp -dsimp) (by simp -dsimp) fun P2 q2 k2 => ?_
      simp only [List.flatten_cons, List.flatten_nil, List.length_append, List.length_cons, List.length_nil] at k2
      simp -dsimp [e1, e2, e3, e4]
      refine wr_callP hf vb v b P2 rfl (by simp only [List.flatten_cons, List.flatten_nil, List.length_append, List.length_cons, List.length_nil]; omega) (by simp -dsimp) (by simp -dsimp) fun P3 q3 k3 => ?_
      simp only [List.flatten_cons, List.flatten_nil, List.length_append, List.length_cons, List.length_nil] at k3
      simp -dsimp [e1, e2, e3, e4]
      refine wr_callPA (term_wr a.dty hok.2.1 hok.2.2) vb v b P3 rfl (by simp only [List.flatten_cons, List.flatten_nil, List.length_append, List.length_cons, List.length_nil]; omega) (by simp -dsimp) (by simp -dsimp) fun P4 q4 k4 => ?_
      have hE : P4 = PN := by rw [q4, q3, q2, q1, hPN2, soW]; simp only [List.append_assoc]; rfl
      subst hE
      simp -dsimp [e1, e2, e3, e4, e7, e8, hlt, w1]
      rw [hPN]; simp
    · have e : i = B.sorts.length := by omega
      subst e
      rw [before_all] at eP
      have hPl : P.flatten.length = P0.flatten.length + (B.sorts.map soW).flatten.flatten.length := by rw [eP, List.flatten_append, List.length_append]
      simp -dsimp [e1, e2, e3, e4, e5, e6, e7, e8]
      refine wr_callP (num_wr B.cons.length) vb v b P rfl (by simp only [List.flatten_cons, List.flatten_nil, List.length_append, List.length_cons, List.length_nil]; omega) (by simp -dsimp [e5]) (by simp -dsimp [e6]) fun R0 r0 j0 => ?_
      simp only [List.flatten_cons, List.flatten_nil, List.length_append, List.length_cons, List.length_nil] at j0
      simp -dsimp [e1, e2, e7]
      refine wp_upto B.cons.length (fun i st => st.s 0 = .ptr 26 vb 0 ∧ st.s 3 = .ptr 3 v3 0 ∧ st.h 3 = ⟨v3, .box [.d (.sl 6 (B.sorts.map eSo)), .d (.sl 6 (B.cons.map eCo)), .d (.int .i64 B.elim)] false⟩ ∧ st.s 43 = .d (.sl 6 (B.cons.map eCo)) ∧ st.s 44 = .d (.int .i64 B.cons.length) ∧ st.s 45 = .d (.int .i64 i) ∧
        ∃ P, P = R0 ++ before coW B.cons i ∧ st.h 26 = ⟨vb, .box [.rsl 3001 (v + P.length)] false⟩ ∧ st.h 3001 = ⟨v + P.length, .row 1 ((b ++ P.flatten).map (.int .u8)) false⟩) ?_ ?_
      · simp -dsimp [before_zero, e1, e2, e7]
      · rintro i ⟨s, hp⟩ hi ⟨e1, e2, e7, e8, e3, e4, P', eP', e5, e6⟩
        dsimp only at e1 e2 e3 e4 e5 e6 e7 e8
        rcases Nat.lt_or_ge i B.cons.length with hlt | hge
        · have w1 : IntKind.i64.wrap ((i : Int) + 1) = (i : Int) + 1 := wrap_id (by omega) (by omega)
          have hok := ho.co B.cons[i] (List.getElem_mem _)
          have hnx := before_next coW B.cons hlt
          have hle := hle2 (i + 1)
          obtain ⟨a, ha⟩ : ∃ a, B.cons[i] = a := ⟨_, rfl⟩
          rw [ha] at hok hnx
          obtain ⟨PN, hPN⟩ : ∃ PN, PN = R0 ++ before coW B.cons (i + 1) := ⟨_, rfl⟩
          have hPN2 : PN = P' ++ coW a := by rw [hPN, hnx, eP', List.append_assoc]
          have hlen2 : PN.flatten.length = R0.flatten.length + (before coW B.cons (i + 1)).flatten.length := by rw [hPN, List.flatten_append, List.length_append]
          have hlen : PN.flatten.length = P'.flatten.length + (1 + (argsW a.args).flatten.length + (rowW a.idx).flatten.length + (pkO a.dec).length) := by
            rw [hPN2, coW]; simp only [List.flatten_append, List.length_append, List.flatten_cons, List.flatten_nil, List.length_cons, List.length_nil]; omega
          have hA := args_wr a.args hok.1
          have hR := row_wr a.idx hok.2.1
          simp only [eArs, eTs] at hA hR
          simp -dsimp [e1, e2, e3, e4, e5, e6, e7, e8, hlt, ha, eCo, cCo, eArs, eTs, cT]
          refine wr_callP (num_wr a.sort) vb v b P' rfl (by simp only [List.flatten_cons, List.flatten_nil, List.length_append, List.length_cons, List.length_nil]; omega) (by simp -dsimp [e5]) (by simp -dsimp [e6]) fun P1 q1 k1 => ?_
          simp only [List.flatten_cons, List.flatten_nil, List.length_append, List.length_cons, List.length_nil] at k1
          simp -dsimp [e1, e2, e3, e4]
          refine wr_callP hA vb v b P1 rfl (by omega) (by simp -dsimp) (by simp -dsimp) fun P2 q2 k2 => ?_
          simp -dsimp [e1, e2, e3, e4]
          refine wr_callP hR vb v b P2 rfl (by omega) (by simp -dsimp) (by simp -dsimp) fun P3 q3 k3 => ?_
          simp -dsimp [e1, e2, e3, e4]
          refine wr_callPA (term_wr a.dec hok.2.2.1 hok.2.2.2) vb v b P3 rfl (by simp only [List.flatten_cons, List.flatten_nil, List.length_append, List.length_cons, List.length_nil]; omega) (by simp -dsimp) (by simp -dsimp) fun P4 q4 k4 => ?_
          have hE : P4 = PN := by rw [q4, q3, q2, q1, hPN2, coW]; simp only [List.append_assoc]
          subst hE
          simp -dsimp [e1, e2, e3, e4, e7, e8, hlt, w1]
          rw [hPN]; simp
        · have e : i = B.cons.length := by omega
          subst e
          rw [before_all] at eP'
          have hPl' : P'.flatten.length = R0.flatten.length + (B.cons.map coW).flatten.flatten.length := by rw [eP', List.flatten_append, List.length_append]
          simp -dsimp [e1, e2, e3, e4, e5, e6, e7, e8]
          refine wr_callP (num_wr B.elim) vb v b P' rfl (by simp only [List.flatten_cons, List.flatten_nil, List.length_append, List.length_cons, List.length_nil]; omega) (by simp -dsimp [e5]) (by simp -dsimp [e6]) fun Q q j => ?_
          have hQ : Q = blkW B := by rw [q, eP', r0, eP, q0, blkW]; rfl
          subst hQ
          simp -dsimp [wH]
end
section
def Eats (b : List Int) (r r' : Rd) (x : List Int) : Prop := r.bad = false ∧ b.drop r.p = x ++ b.drop r'.p
theorem Eats.trans {b : List Int} {r r' r'' : Rd} {x y : List Int} (h : Eats b r r' x) (k : Eats b r' r'' y) : Eats b r r'' (x ++ y) := ⟨h.1, by rw [h.2, k.2, List.append_assoc]⟩
theorem num_sound {b : List Int} {r : Rd} (h : (numF b r).2.bad = false) : Eats b r (numF b r).2 [(numF b r).1] := by
  rw [numF] at h ⊢
  split at h
  · cases h
  · rename_i hc
    rw [if_neg hc]
    have hp : r.p < b.length := by omega
    refine ⟨by cases hr : r.bad; rfl; exact absurd (.inl hr) hc, ?_⟩
    simp only [List.getElem?_eq_getElem hp, Option.getD_some]
    exact List.drop_eq_getElem_cons hp
theorem flag_sound {b : List Int} {r : Rd} (hB : byteL b) (h : (flagF b r).2.bad = false) : Eats b r (flagF b r).2 [fl (flagF b r).1] := by
  have hr := numF_rng hB r
  rw [flagF] at h ⊢
  simp only [Bool.or_eq_false_iff, decide_eq_false_iff_not] at h
  have hs := num_sound h.1
  have e : fl (decide ((numF b r).1 = 1)) = (numF b r).1 := by
    by_cases g : (numF b r).1 = 1
    · simp [fl, g]
    · have : (numF b r).1 = 0 := by omega
      simp [fl, this]
  rw [e]
  exact ⟨hs.1, hs.2⟩
def okR (t : T) : Prop := t = T0 ∨ Gt t
theorem term_sound {b : List Int} {r : Rd} (hB : byteL b) (hb : b.length ≤ 1000000000) (h : (termF b r).2.bad = false) : Eats b r (termF b r).2 (pkO (termF b r).1) ∧ okR (termF b r).1 := by
  rw [termF] at h ⊢
  split at h
  · cases h
  · rename_i hc
    rw [if_neg hc]
    have hp : r.p < b.length := by omega
    have hbad : r.bad = false := by cases hr : r.bad; rfl; exact absurd (.inl hr) hc
    simp only [List.getElem?_eq_getElem hp, Option.getD_some] at h ⊢
    split at h
    · rename_i h0
      rw [if_pos h0]
      refine ⟨⟨hbad, ?_⟩, .inl rfl⟩
      rw [List.drop_eq_getElem_cons hp, h0]
      rfl
    · rename_i h0
      rw [if_neg h0]
      have hE : getE b r.p = 0 := by simpa using h
      obtain ⟨a0, a1, rest, hd, hf, hn, hdp, hN⟩ := get_sound hB hb hE
      have hg : Gt (getT b r.p) := ⟨hf, hn, hdp⟩
      refine ⟨⟨hbad, ?_⟩, .inr hg⟩
      have hpk : pkO (getT b r.p) = pk (getT b r.p) := by rw [pkO, hg.some]; rfl
      have hlen := congrArg List.length hd
      simp only [Int.toNat_natCast, List.length_drop, List.length_append] at hlen
      have hrest : b.drop (getN b r.p).toNat = rest := by
        have e : (getN b r.p).toNat = r.p + (pk (getT b r.p)).length := by omega
        rw [e]
        exact drop_by (by simpa using hd)
      show b.drop r.p = _ ++ b.drop (getN b r.p).toNat
      rw [hrest, hpk]
      simpa using hd
theorem rep_sound {α : Type} {b : List Int} {g : Rd → α × Rd} {enc : α → List (List Int)} {Q : α → Prop} (hg : ∀ r, (g r).2.bad = false → Eats b r (g r).2 (enc (g r).1).flatten ∧ Q (g r).1) (r : Rd) :
    ∀ m, (repF g m r).2.bad = false → Eats b r (repF g m r).2 ((repF g m r).1.map enc).flatten.flatten ∧ (repF g m r).1.length = m ∧ ∀ x ∈ (repF g m r).1, Q x
  | 0, h => ⟨⟨h, rfl⟩, rfl, fun x hx => by cases hx⟩
  | m + 1, h => by
    rw [repF] at h ⊢
    split at h
    · rename_i hc; rw [hc] at h; cases h
    · rename_i hc
      rw [if_neg hc]
      have hc' : (repF g m r).2.bad = false := by simpa using hc
      obtain ⟨h1, h2, h3⟩ := rep_sound hg r m hc'
      obtain ⟨k1, k2⟩ := hg _ h
      refine ⟨?_, by simp [h2], fun x hx => ?_⟩
      · have := h1.trans k1
        simpa using this
      · rcases List.mem_append.1 hx with hx | hx
        · exact h3 x hx
        · simp at hx; subst hx; exact k2
theorem row_sound {b : List Int} {r : Rd} (hB : byteL b) (hb : b.length ≤ 1000000000) (h : (rwF b r).2.bad = false) : Eats b r (rwF b r).2 (rowW (rwF b r).1).flatten ∧ (rwF b r).1.length < 256 ∧ ∀ t ∈ (rwF b r).1, okR t := by
  have hr := numF_rng hB r
  rw [rwF] at h ⊢
  obtain ⟨h1, h2, h3⟩ := rep_sound (b := b) (enc := fun t => [pkO t]) (Q := okR) (fun r hr => by
    have := term_sound hB hb hr
    exact ⟨by simpa using this.1, this.2⟩) (numF b r).2 _ h
  have h0 := num_sound h1.1
  have hu : u8 ((repF (termF b) (numF b r).1.toNat (numF b r).2).1.length : Nat) = (numF b r).1 := by rw [h2, u8_id (by omega) (by omega)]; omega
  refine ⟨?_, by rw [h2]; omega, h3⟩
  rw [rowW, hu]
  exact h0.trans h1
structure okRA (a : Ar) : Prop where
  ty : okR a.ty
  dom : a.dom.length < 256 ∧ ∀ t ∈ a.dom, okR t
  sort : 0 ≤ a.sort ∧ a.sort < 256
  idx : a.idx.length < 256 ∧ ∀ t ∈ a.idx, okR t
theorem arg_sound {b : List Int} {r : Rd} (hB : byteL b) (hb : b.length ≤ 1000000000) (h : (argF b r).2.bad = false) : Eats b r (argF b r).2 (argW (argF b r).1).flatten ∧ okRA (argF b r).1 := by
  rw [argF] at h ⊢
  simp only at h ⊢
  obtain ⟨k5, l5, o5⟩ := row_sound hB hb h
  have k4 := num_sound k5.1
  obtain ⟨k3, l3, o3⟩ := row_sound hB hb k4.1
  obtain ⟨k2, o2⟩ := term_sound hB hb k3.1
  have k1 := flag_sound hB k2.1
  have hr := numF_rng hB (rwF b (termF b (flagF b r).2).2).2
  refine ⟨?_, ⟨o2, ⟨l3, o3⟩, hr, ⟨l5, o5⟩⟩⟩
  have := (((k1.trans k2).trans k3).trans k4).trans k5
  rw [argW]
  simp only [u8_id hr.1 hr.2, List.flatten_append, List.flatten_cons, List.flatten_nil, List.append_nil]
  exact this
theorem args_sound {b : List Int} {r : Rd} (hB : byteL b) (hb : b.length ≤ 1000000000) (h : (argsF b r).2.bad = false) : Eats b r (argsF b r).2 (argsW (argsF b r).1).flatten ∧ (argsF b r).1.length < 256 ∧ ∀ a ∈ (argsF b r).1, okRA a := by
  have hr := numF_rng hB r
  rw [argsF] at h ⊢
  obtain ⟨h1, h2, h3⟩ := rep_sound (b := b) (enc := argW) (Q := okRA) (fun r hr => arg_sound hB hb hr) (numF b r).2 _ h
  have h0 := num_sound h1.1
  have hu : u8 ((repF (argF b) (numF b r).1.toNat (numF b r).2).1.length : Nat) = (numF b r).1 := by rw [h2, u8_id (by omega) (by omega)]; omega
  refine ⟨?_, by rw [h2]; omega, h3⟩
  rw [argsW, hu]
  exact h0.trans h1
structure okRS (x : So) : Prop where
  idx : x.idx.length < 256 ∧ ∀ a ∈ x.idx, okRA a
  level : 0 ≤ x.level ∧ x.level < 256
  dty : okR x.dty
structure okRC (c : Co) : Prop where
  sort : 0 ≤ c.sort ∧ c.sort < 256
  args : c.args.length < 256 ∧ ∀ a ∈ c.args, okRA a
  idx : c.idx.length < 256 ∧ ∀ t ∈ c.idx, okR t
  dec : okR c.dec
structure okRB (b : Bl) : Prop where
  sorts : b.sorts.length < 256 ∧ ∀ x ∈ b.sorts, okRS x
  cons : b.cons.length < 256 ∧ ∀ c ∈ b.cons, okRC c
  elim : 0 ≤ b.elim ∧ b.elim < 256
theorem so_sound {b : List Int} {r : Rd} (hB : byteL b) (hb : b.length ≤ 1000000000) (h : (soF b r).2.bad = false) : Eats b r (soF b r).2 (soW (soF b r).1).flatten ∧ okRS (soF b r).1 := by
  rw [soF] at h ⊢
  simp only at h ⊢
  obtain ⟨k4, o4⟩ := term_sound hB hb h
  have k3 := flag_sound hB k4.1
  have k2 : Eats b (argsF b r).2 (numF b (argsF b r).2).2 [(numF b (argsF b r).2).1] := num_sound k3.1
  obtain ⟨k1, l1, o1⟩ := args_sound hB hb k2.1
  have hr := numF_rng hB (argsF b r).2
  refine ⟨?_, ⟨⟨l1, o1⟩, hr, o4⟩⟩
  have := ((k1.trans k2).trans k3).trans k4
  rw [soW]
  simp only [u8_id hr.1 hr.2, List.flatten_append, List.flatten_cons, List.flatten_nil, List.append_nil]
  exact this
theorem co_sound {b : List Int} {r : Rd} (hB : byteL b) (hb : b.length ≤ 1000000000) (h : (coF b r).2.bad = false) : Eats b r (coF b r).2 (coW (coF b r).1).flatten ∧ okRC (coF b r).1 := by
  rw [coF] at h ⊢
  simp only at h ⊢
  obtain ⟨k4, o4⟩ := term_sound hB hb h
  obtain ⟨k3, l3, o3⟩ := row_sound hB hb k4.1
  obtain ⟨k2, l2, o2⟩ := args_sound hB hb k3.1
  have k1 := num_sound k2.1
  have hr := numF_rng hB r
  refine ⟨?_, ⟨hr, ⟨l2, o2⟩, ⟨l3, o3⟩, o4⟩⟩
  have := ((k1.trans k2).trans k3).trans k4
  rw [coW]
  simp only [u8_id hr.1 hr.2, List.flatten_append, List.flatten_cons, List.flatten_nil, List.append_nil]
  exact this
theorem block_sound {b : List Int} {r : Rd} (hB : byteL b) (hb : b.length ≤ 1000000000) (h : (blockF b r).2.bad = false) : Eats b r (blockF b r).2 (blkW (blockF b r).1).flatten ∧ okRB (blockF b r).1 := by
  rw [blockF, sosF] at h ⊢
  simp only [cosF] at h ⊢
  have r0 := numF_rng hB r
  have k5 := num_sound h
  obtain ⟨k4, l4, o4⟩ := rep_sound (b := b) (enc := coW) (Q := okRC) (fun r hr => co_sound hB hb hr) _ _ k5.1
  have k3 := num_sound k4.1
  obtain ⟨k2, l2, o2⟩ := rep_sound (b := b) (enc := soW) (Q := okRS) (fun r hr => so_sound hB hb hr) _ _ k3.1
  have k1 := num_sound k2.1
  generalize hq1 : repF (soF b) (numF b r).1.toNat (numF b r).2 = q1 at *
  have r1 := numF_rng hB q1.2
  generalize hq2 : repF (coF b) (numF b q1.2).1.toNat (numF b q1.2).2 = q2 at *
  have r2 := numF_rng hB q2.2
  have u1 : u8 (q1.1.length : Nat) = (numF b r).1 := by rw [l2, u8_id (by omega) (by omega)]; omega
  have u2 : u8 (q2.1.length : Nat) = (numF b q1.2).1 := by rw [l4, u8_id (by omega) (by omega)]; omega
  refine ⟨?_, ⟨⟨by rw [l2]; omega, o2⟩, ⟨by rw [l4]; omega, o4⟩, r2⟩⟩
  have := (((k1.trans k2).trans k3).trans k4).trans k5
  rw [blkW]
  simp only [u1, u2, u8_id r2.1 r2.2, List.flatten_append, List.flatten_cons, List.flatten_nil, List.append_nil]
  exact this
def okRD (d : De) : Prop := rightM d = true ∧ ((∃ t, okR t ∧ d = ⟨1, t, T0, B0⟩) ∨ (∃ t u, okR t ∧ okR u ∧ d = ⟨2, t, u, B0⟩) ∨ ∃ bl, okRB bl ∧ d = ⟨3, T0, T0, bl⟩)
theorem decl_sound {b : List Int} {r : Rd} (hB : byteL b) (hb : b.length ≤ 1000000000) (h : (declF b r).2.bad = false) : Eats b r (declF b r).2 (declW blkW (declF b r).1).flatten ∧ okRD (declF b r).1 := by
  rw [declF] at h ⊢
  simp only [Bool.or_eq_false_iff, Bool.not_eq_false'] at h
  obtain ⟨h, hr⟩ := h
  have hk := hr
  refine ⟨?_, hr, ?_⟩
  · show Eats b r _ _
    suffices hs : Eats b r (declB b (numF b r)).2 (declW blkW (declB b (numF b r)).1).flatten from ⟨hs.1, hs.2⟩
    rw [declB] at h hr ⊢
    split at h
    · rename_i k1
      rw [if_pos k1]
      have k2 := (term_sound hB hb h).1
      have k0 := num_sound k2.1
      rw [k1] at k0
      have := k0.trans k2
      simpa [declW, show u8 1 = 1 from rfl] using this
    · rename_i k1
      rw [if_neg k1]
      split at h
      · rename_i k2
        rw [if_pos k2]
        have k4 := (term_sound hB hb h).1
        have k3 := (term_sound hB hb k4.1).1
        have k0 := num_sound k3.1
        rw [k2] at k0
        have := (k0.trans k3).trans k4
        simpa [declW, show u8 2 = 2 from rfl] using this
      · rename_i k2
        rw [if_neg k2]
        split at h
        · rename_i k3
          rw [if_pos k3]
          have k4 := (block_sound hB hb h).1
          have k0 := num_sound k4.1
          rw [k3] at k0
          have := k0.trans k4
          simpa [declW, show u8 3 = 3 from rfl] using this
        · rename_i k3
          rw [if_neg k1, if_neg k2, if_neg k3] at hr
          simp [rightM, k1, k2, k3] at hr
  · rw [declB] at h hr ⊢
    split at h
    · rename_i k1
      rw [if_pos k1]
      exact .inl ⟨_, (term_sound hB hb h).2, rfl⟩
    · rename_i k1
      rw [if_neg k1]
      split at h
      · rename_i k2
        rw [if_pos k2]
        have k4 := term_sound hB hb h
        exact .inr (.inl ⟨_, _, (term_sound hB hb k4.1.1).2, k4.2, rfl⟩)
      · rename_i k2
        rw [if_neg k2]
        split at h
        · rename_i k3
          rw [if_pos k3]
          exact .inr (.inr ⟨_, (block_sound hB hb h).2, rfl⟩)
        · rename_i k3
          rw [if_neg k1, if_neg k2, if_neg k3] at hr
          simp [rightM, k1, k2, k3] at hr
theorem get_snd {b : List Int} (hB : byteL b) (hb : b.length ≤ 1000000000) (h : getOk b = true) : b = putW blkW (getR b).1 ∧ (getR b).1.length ≤ 60 ∧ ∀ d ∈ (getR b).1, okRD d := by
  rw [getOk, Bool.and_eq_true, Bool.not_eq_true', decide_eq_true_eq] at h
  obtain ⟨h, hp⟩ := h
  have hr := numF_rng hB ⟨0, false⟩
  rw [getR] at h hp ⊢
  obtain ⟨h1, h2, h3⟩ := rep_sound (b := b) (enc := declW blkW) (Q := okRD) (fun r hr => decl_sound hB hb hr) _ _ h
  have hb0 := h1.1
  simp only [Bool.or_eq_false_iff, decide_eq_false_iff_not] at hb0
  have k0 := num_sound hb0.1
  generalize repF (declF b) (numF b ⟨0, false⟩).1.toNat ⟨(numF b ⟨0, false⟩).2.p, (numF b ⟨0, false⟩).2.bad || decide (60 < (numF b ⟨0, false⟩).1)⟩ = q at *
  have hu : u8 (q.1.length : Nat) = (numF b ⟨0, false⟩).1 := by rw [h2, u8_id (by omega) (by omega)]; omega
  refine ⟨?_, by rw [h2]; omega, h3⟩
  have e1 := k0.2
  have e2 := h1.2
  simp only [hp, List.drop_length, List.append_nil, List.drop_zero] at e1 e2
  rw [putW, hu, ← e2]
  exact e1
end
section
end
section
section
attribute [local simp] allD_map_d sks_map_d tk tn tks initA EndsM
theorem sum_le_of {α : Type} (f g : α → Nat) : ∀ (l : List α), (∀ x ∈ l, f x ≤ 3 * g x) → (l.map f).sum ≤ 3 * (l.map g).sum
  | [], _ => by simp
  | x :: l, h => by
    have h1 := h x (by simp)
    have h2 := sum_le_of f g l fun y hy => h y (by simp [hy])
    simp only [List.map_cons, List.sum_cons]
    omega
theorem fl2 {α : Type} (f : α → List (List Int)) : ∀ l : List α, (l.map f).flatten.flatten.length = (l.map fun x => (f x).flatten.length).sum
  | [] => rfl
  | x :: l => by simp only [List.map_cons, List.flatten_cons, List.flatten_append, List.length_append, List.sum_cons, fl2 f l]
theorem mem_sum3 {xs : List D} {x : D} (h : x ∈ xs) : bulk x ≤ (xs.map bulk).sum := sum_mem (List.mem_map.2 ⟨x, h, rfl⟩)
theorem pkO_len (t : T) : (pkO t).length ≤ 3 * bulk (.agg (cT t)) := by
  have h1 := term_bulk t
  have h2 := pk_len t
  have h3 : 1 ≤ nodes t := by cases t; rw [nodes]; omega
  rw [pkO]
  split
  · simp; omega
  · omega
theorem rowW_len (l : List T) : (rowW l).flatten.length ≤ 3 * bulk (eTs l) := by
  have h := sum_le_of (fun t => ([pkO t] : List (List Int)).flatten.length) (fun t => bulk (eT t)) l fun t _ => by
    have := pkO_len t
    rw [← eT_eq] at this
    simpa using this
  rw [rowW, List.flatten_cons, List.length_append, fl2]
  simp only [eTs, bulk, List.map_map, Function.comp_def, List.length_cons, List.length_nil]
  omega
theorem argW_len (a : Ar) : (argW a).flatten.length ≤ 3 * bulk (eAr a) := by
  have e : bulk (eAr a) = 1 + bulk (.agg (cT a.ty)) + (bulk (eTs a.dom) + (1 + bulk (eTs a.idx))) := by
    simp only [eAr, cAr, bulk, List.map_cons, List.map_append, List.sum_cons, List.sum_append, List.map_nil, List.sum_nil, List.cons_append, cT, eTs, List.nil_append]
    omega
  have h1 := pkO_len a.ty
  have h2 := rowW_len a.dom
  have h3 := rowW_len a.idx
  rw [argW]
  simp only [List.flatten_append, List.length_append, List.flatten_cons, List.flatten_nil, List.length_cons, List.length_nil]
  omega
theorem argsW_len (l : List Ar) : (argsW l).flatten.length ≤ 3 * bulk (eArs l) := by
  have h := sum_le_of (fun a => (argW a).flatten.length) (fun a => bulk (eAr a)) l fun a _ => argW_len a
  rw [argsW, List.flatten_cons, List.length_append, fl2]
  simp only [eArs, bulk, List.map_map, Function.comp_def, List.length_cons, List.length_nil]
  omega
theorem soW_len (x : So) : (soW x).flatten.length ≤ 3 * bulk (eSo x) := by
  have e : bulk (eSo x) = bulk (eArs x.idx) + (1 + (1 + bulk (.agg (cT x.dty)))) := by
    simp only [eSo, cSo, bulk, List.map_cons, List.map_append, List.sum_cons, List.sum_append, List.map_nil, List.sum_nil, List.cons_append, cT, eArs, List.nil_append]
  have h1 := pkO_len x.dty
  have h2 := argsW_len x.idx
  rw [soW]
  simp only [List.flatten_append, List.length_append, List.flatten_cons, List.flatten_nil, List.length_cons, List.length_nil]
  omega
theorem coW_len (x : Co) : (coW x).flatten.length ≤ 3 * bulk (eCo x) := by
  have e : bulk (eCo x) = 1 + (bulk (eArs x.args) + (bulk (eTs x.idx) + bulk (.agg (cT x.dec)))) := by
    simp only [eCo, cCo, bulk, List.map_cons, List.map_append, List.sum_cons, List.sum_append, List.map_nil, List.sum_nil, List.cons_append, cT, eArs, eTs, List.nil_append]
  have h1 := pkO_len x.dec
  have h2 := argsW_len x.args
  have h3 := rowW_len x.idx
  rw [coW]
  simp only [List.flatten_append, List.length_append, List.flatten_cons, List.flatten_nil, List.length_cons, List.length_nil]
  omega
theorem blkW_len (b : Bl) : (blkW b).flatten.length ≤ 3 * bulk (eBl b) := by
  have h1 := sum_le_of (fun a => (soW a).flatten.length) (fun a => bulk (eSo a)) b.sorts fun a _ => soW_len a
  have h2 := sum_le_of (fun a => (coW a).flatten.length) (fun a => bulk (eCo a)) b.cons fun a _ => coW_len a
  rw [blkW]
  simp only [List.flatten_append, List.length_append, List.flatten_cons, List.flatten_nil, List.length_cons, List.length_nil, fl2]
  simp only [eBl, cBl, eSos, eCos, bulk, List.map_map, Function.comp_def, List.map_cons, List.map_nil, List.sum_cons, List.sum_nil]
  omega
theorem bulk_de (d : De) : bulk (eDe d) = 1 + (bulk (.agg (cT d.ty)) + (bulk (.agg (cT d.body)) + bulk (eBl d.bl))) := by
  simp only [eDe, cDe, eBl, bulk, List.map_cons, List.map_append, List.sum_cons, List.sum_append]
theorem declW_len (d : De) : (declW blkW d).flatten.length ≤ 3 * bulk (eDe d) := by
  have h1 := pkO_len d.ty
  have h2 := pkO_len d.body
  have h3 := blkW_len d.bl
  have e := bulk_de d
  rw [declW, List.flatten_cons, List.length_append]
  by_cases k1 : d.kind = 1
  · rw [if_pos k1]; simp only [List.flatten_cons, List.flatten_nil, List.length_append, List.length_cons, List.length_nil]; omega
  · by_cases k2 : d.kind = 2
    · rw [if_neg k1, if_pos k2]; simp only [List.flatten_cons, List.flatten_nil, List.length_append, List.length_cons, List.length_nil]; omega
    · rw [if_neg k1, if_neg k2]; simp only [List.length_cons, List.length_nil]; omega
theorem putW_len (l : List De) : (putW blkW l).length ≤ 3 * bulk (eDes l) := by
  have h := sum_le_of (fun a => (declW blkW a).flatten.length) (fun a => bulk (eDe a)) l fun a _ => declW_len a
  rw [putW, List.length_cons, fl2]
  simp only [eDes, bulk, List.map_map, Function.comp_def]
  omega
end
end
section
section
attribute [local simp] allD_map_d sks_map_d tk tn tks initA EndsM
theorem in_check {t : T} {v : Int} (h : inM t v = true) : checkM t = 0 := by
  rw [inM, scopeM] at h
  by_cases g : checkM t = 0
  · exact g
  · rw [if_neg g] at h; split at h <;> simp at h
theorem all_check {l : List T} {v : Int} (h : allM l v = true) : ∀ t ∈ l, checkM t = 0 := fun t ht => by
  rw [allM, Bool.not_eq_true', List.any_eq_false] at h
  have := h t ht
  exact in_check (v := v) (by simpa using this)
theorem dom_check {l : List T} {i : Int} (h : domM i l = true) : ∀ t ∈ l, checkM t = 0 := fun t ht => by
  rw [domM, allI_iff] at h
  obtain ⟨j, hj, rfl⟩ := List.mem_iff_getElem.1 ht
  exact in_check (h j hj)
theorem okW_in {l : List T} (hb : bulk (eTs l) ≤ 1048576) (h : ∀ t ∈ l, checkM t = 0) : ∀ t ∈ l, okW t := fun t ht => by
  have := (terms_bulk l).1 t ht
  exact ⟨by omega, .inr (h t ht)⟩
theorem okAW_of {b : Bl} {a : Ar} {i : Int} (hb : bulk (eAr a) ≤ 1048576) (h : argM b a i = true) : okAW a := by
  have e : bulk (eAr a) = 1 + bulk (.agg (cT a.ty)) + (bulk (eTs a.dom) + (1 + bulk (eTs a.idx))) := by
    simp only [eAr, cAr, bulk, List.map_cons, List.map_append, List.sum_cons, List.sum_append, List.map_nil, List.sum_nil, List.cons_append, cT, eTs, List.nil_append]
    omega
  have h1 := term_bulk a.ty
  rw [argM] at h
  cases hr : a.rc
  · simp only [hr, Bool.false_eq_true, if_false] at h
    cases hi : inM a.ty i
    · simp [hi] at h
    · simp only [hi, if_true] at h
      have l1 := (terms_bulk a.dom).2
      have l2 := (terms_bulk a.idx).2
      have hz : a.dom.length = 0 ∧ a.idx.length = 0 := by
        split at h
        · rename_i hw
          rw [w64, wrap_id (by omega) (by omega)] at hw
          omega
        · cases h
      refine ⟨⟨by omega, .inr (in_check hi)⟩, fun t ht => ?_, fun t ht => ?_⟩
      · rw [List.eq_nil_of_length_eq_zero hz.1] at ht; cases ht
      · rw [List.eq_nil_of_length_eq_zero hz.2] at ht; cases ht
  · simp only [hr, if_true] at h
    cases hn : noneM a.ty
    · simp [hn] at h
    · simp only [hn, if_true] at h
      split at h
      · cases h
      · split at h
        · cases h
        · split at h
          · cases h
          · split at h
            · rw [Bool.and_eq_true] at h
              exact ⟨⟨by omega, .inl hn⟩, okW_in (by omega) (dom_check h.1), okW_in (by omega) (all_check h.2)⟩
            · cases h
theorem okAWs_of {b : Bl} {l : List Ar} (hb : bulk (eArs l) ≤ 1048576) (h : rowM b l = true) : ∀ a ∈ l, okAW a := fun a ha => by
  rw [rowM] at h
  split at h
  · cases h
  · rw [allI_iff] at h
    have hm := mem_sum3 (List.mem_map.2 ⟨a, ha, rfl⟩ : eAr a ∈ l.map eAr)
    simp only [eArs, bulk] at hb
    obtain ⟨j, hj, rfl⟩ := List.mem_iff_getElem.1 ha
    exact okAW_of (by omega) (h j hj)
theorem maybe_okW {is : Bool} {t : T} {v : Int} (hb : nodes t ≤ 1048576) (h : maybeM is t v = true) : okW t := by
  rw [maybeM] at h
  cases is
  · exact ⟨by omega, .inl (by simpa using h)⟩
  · exact ⟨by omega, .inr (in_check (v := v) (by simpa using h))⟩
theorem okBW_of {b : Bl} (hb : bulk (eBl b) ≤ 1048576) (h : checkB b = 0) : okBW b := by
  obtain ⟨_, _, _, _, hs, hc⟩ := (checkB_zero b).1 h
  have e : bulk (eBl b) = bulk (eSos b.sorts) + (bulk (eCos b.cons) + 1) := by
    simp only [eBl, cBl, bulk, List.map_cons, List.sum_cons, List.map_nil, List.sum_nil, Nat.add_zero]
  refine ⟨fun x hx => ?_, fun c hx => ?_⟩
  · have hm := mem_sum3 (List.mem_map.2 ⟨x, hx, rfl⟩ : eSo x ∈ b.sorts.map eSo)
    have e1 : bulk (eSos b.sorts) = ((b.sorts.map eSo).map bulk).sum + 1 := by simp only [eSos, bulk]
    have e2 : bulk (eSo x) = bulk (eArs x.idx) + (1 + (1 + bulk (.agg (cT x.dty)))) := by
      simp only [eSo, cSo, bulk, List.map_cons, List.map_append, List.sum_cons, List.sum_append, List.map_nil, List.sum_nil, List.cons_append, cT, eArs, List.nil_append]
    have h1 := term_bulk x.dty
    obtain ⟨j, hj, hjx⟩ := List.mem_iff_getElem.1 hx
    have hsx := hs j hj
    rw [hjx, sortM] at hsx
    split at hsx
    · rename_i hr
      split at hsx
      · split at hsx
        · rename_i hmb
          exact ⟨okAWs_of (by omega) hr, maybe_okW (by omega) hmb⟩
        · cases hsx
      · cases hsx
    · cases hsx
  · have hm := mem_sum3 (List.mem_map.2 ⟨c, hx, rfl⟩ : eCo c ∈ b.cons.map eCo)
    have e1 : bulk (eCos b.cons) = ((b.cons.map eCo).map bulk).sum + 1 := by simp only [eCos, bulk]
    have e2 : bulk (eCo c) = 1 + (bulk (eArs c.args) + (bulk (eTs c.idx) + bulk (.agg (cT c.dec)))) := by
      simp only [eCo, cCo, bulk, List.map_cons, List.map_append, List.sum_cons, List.sum_append, List.map_nil, List.sum_nil, List.cons_append, cT, eArs, eTs, List.nil_append]
    have h1 := term_bulk c.dec
    have hcx := hc c hx
    rw [conM] at hcx
    split at hcx
    · cases hcx
    · split at hcx
      · rename_i hr
        split at hcx
        · cases hcx
        · split at hcx
          · split at hcx
            · rename_i ha
              exact ⟨okAWs_of (by omega) hr, okW_in (by omega) (all_check ha), maybe_okW (by omega) hcx⟩
            · cases hcx
          · cases hcx
      · cases hcx
theorem putB_ok (l : List De) (hb : bulk (eDes l) ≤ 1048576) : Pure Tryz.prog n_pile_Put [eDes l] [eB (putL blkW l), .int .i64 (putE blkW l)] := by
  have hd : ∀ d ∈ l, bulk (eDe d) ≤ 1048576 := fun d hx => by
    have hm := mem_sum3 (List.mem_map.2 ⟨d, hx, rfl⟩ : eDe d ∈ l.map eDe)
    simp only [eDes, bulk] at hb
    omega
  refine putD_ok blkW l (fun _ d hx => ?_) (fun d hx hr k1 k2 => ?_) fun _ _ => ?_
  · have := hd d hx
    have e := bulk_de d
    have h1 := term_bulk d.ty
    have h2 := term_bulk d.body
    omega
  · have := hd d hx
    have e := bulk_de d
    refine block_wr d.bl (okBW_of (by omega) ?_)
    rw [rightM, if_neg k1, if_neg k2] at hr
    split at hr
    · split at hr
      · split at hr
        · simpa using hr
        · cases hr
      · cases hr
    · cases hr
  · have := putW_len l
    omega
end
end
section
end
section
attribute [local simp] allD_map_d sks_map_d tk tn tks initA EndsM
end
section
attribute [local simp] allD_map_d sks_map_d tk tn tks initA EndsM
theorem putE_zero {bw : Bl → List (List Int)} {l : List De} (h : putE bw l = 0) : l.length ≤ 60 ∧ badD l = false ∧ (putW bw l).length ≤ 65536 ∧ putL bw l = putW bw l := by
  rw [putE] at h
  rw [putL]
  split at h
  · omega
  · rename_i h1
    rw [if_neg h1]
    split at h
    · omega
    · rename_i h2
      rw [if_neg h2]
      split at h
      · omega
      · rename_i h3
        rw [if_neg h3]
        exact ⟨by omega, by simpa using h2, by omega, rfl⟩
end
section
attribute [local simp] allD_map_d sks_map_d tk tn tks initA EndsM
theorem twinBytes_own2 (l : List Int) (hl : l.length ≤ 2000000000) : OwnC Tryz.prog n_porismkeep_TwinBytes [eB l] [.one (.row 1 (l.map (.int .u8)) false)] := by
  refine own_small hm Tryz.func16 c_porismkeep_TwinBytes rfl fun hs => ?_
  have hr : l.length ≤ maxRoom := by simp only [maxRoom]; omega
  simp -dsimp [x_porismkeep_TwinBytes, eB, hr]
end
section
attribute [local simp] allD_map_d sks_map_d tk tn tks initA EndsM
mutual
def leavesN : T → Nat
  | .mk _ _ [] => 1
  | .mk _ _ (x :: xs) => leavesN x + leavesL xs
def leavesL : List T → Nat
  | [] => 0
  | x :: xs => leavesN x + leavesL xs
end
theorem leaves_node (k n : Int) {ks : List T} (h : ks ≠ []) : leavesN (.mk k n ks) = leavesL ks := by
  match ks, h with
  | x :: xs, _ => rw [leavesN, leavesL]
theorem pkL_length : ∀ (l : List T), (∀ x ∈ l, (pk x).length = nodes x + 2 * leavesN x) → (pkL l).length = (l.map nodes).sum + 2 * leavesL l
  | [], _ => by simp [pkL, leavesL]
  | x :: l, h => by
    have h1 := h x (by simp)
    have h2 := pkL_length l fun y hy => h y (by simp [hy])
    simp [pkL, leavesL]; omega
theorem pk_length (t : T) : formedM t = true → (pk t).length = nodes t + 2 * leavesN t := by
  induction t using T.ind with
  | h k n ks ih =>
    intro hf
    by_cases hk : kidsM k = 0
    · obtain ⟨rfl, _, _⟩ := fm_leaf hf hk
      rw [pk, if_pos hk, leavesN, leaf_nodes]; rfl
    · obtain ⟨a1, _, a3⟩ := fm_node hf hk
      have h1 := pkL_length ks fun x hx => ih x hx (a3 x hx)
      have hne : ks ≠ [] := by rintro rfl; simp at a1; omega
      rw [pk, if_neg hk, leaves_node k n hne, nodes, List.length_cons]
      omega
end
section
def Sm {α : Type} (x y : α × Rd) : Prop := (x.2.bad = true ∧ y.2.bad = true) ∨ x = y
theorem num_bad {b : List Int} {r : Rd} (h : r.bad = true) : (numF b r).2.bad = true := by rw [numF, if_pos (.inl h)]
theorem flag_bad {b : List Int} {r : Rd} (h : r.bad = true) : (flagF b r).2.bad = true := by rw [flagF]; simp only [num_bad h, Bool.true_or]
theorem term_bad1 {b : List Int} {r : Rd} (h : r.bad = true) : (termF b r).2.bad = true := by rw [termF, if_pos (.inl h)]
theorem term_bad2 {b : List Int} {r : Rd} (h : r.bad = true) : (term2F b r).2.bad = true := by rw [term2F, if_pos (.inl h)]
theorem rep_bad {α : Type} {g : Rd → α × Rd} {r : Rd} (h : r.bad = true) (n : Nat) : (repF g n r).2.bad = true := by
  rw [repF_bad g r (i := 0) h (Nat.zero_le n)]; exact h
theorem rep_sm {α : Type} {f g : Rd → α × Rd} (hs : ∀ r, Sm (f r) (g r)) (hf : ∀ r, r.bad = true → (f r).2.bad = true) (hg : ∀ r, r.bad = true → (g r).2.bad = true) (r : Rd) : ∀ n, Sm (repF f n r) (repF g n r)
  | 0 => .inr rfl
  | n + 1 => by
    rcases rep_sm hs hf hg r n with ⟨h1, h2⟩ | h
    · rw [repF, repF, if_pos h1, if_pos h2]; exact .inl ⟨h1, h2⟩
    · rw [repF, repF, h]
      by_cases hb : (repF g n r).2.bad = true
      · rw [if_pos hb, if_pos hb]; exact .inr rfl
      · rw [if_neg hb, if_neg hb]
        rcases hs (repF g n r).2 with ⟨h1, h2⟩ | h3
        · exact .inl ⟨h1, h2⟩
        · rw [h3]; exact .inr rfl
theorem term_sm (b : List Int) (r : Rd) : Sm (termF b r) (term2F b r) := by
  rw [termF, term2F]
  split
  · exact .inr rfl
  · split
    · exact .inr rfl
    · split
      · rename_i h; simp only [h]; exact .inr (by simp)
      · rename_i h; exact .inl ⟨by simpa using h, rfl⟩
theorem row_bad1 {b : List Int} {r : Rd} (h : r.bad = true) : (rwF b r).2.bad = true := rep_bad (num_bad h) _
theorem arg_bad1 {b : List Int} {r : Rd} (h : r.bad = true) : (argF b r).2.bad = true := by
  rw [argF]; exact row_bad1 (num_bad (row_bad1 (term_bad1 (flag_bad h))))
theorem args_bad1 {b : List Int} {r : Rd} (h : r.bad = true) : (argsF b r).2.bad = true := rep_bad (num_bad h) _
theorem so_bad1 {b : List Int} {r : Rd} (h : r.bad = true) : (soF b r).2.bad = true := by
  rw [soF]; exact term_bad1 (flag_bad (num_bad (args_bad1 h)))
theorem co_bad1 {b : List Int} {r : Rd} (h : r.bad = true) : (coF b r).2.bad = true := by
  rw [coF]; exact term_bad1 (row_bad1 (args_bad1 (num_bad h)))
theorem sos_bad1 {b : List Int} {r : Rd} (h : r.bad = true) : (sosF b r).2.bad = true := rep_bad (num_bad h) _
theorem cos_bad1 {b : List Int} {r : Rd} (h : r.bad = true) : (cosF b r).2.bad = true := rep_bad (num_bad h) _
theorem row_bad2 {b : List Int} {r : Rd} (h : r.bad = true) : (rw2F b r).2.bad = true := rep_bad (num_bad h) _
theorem arg_bad2 {b : List Int} {r : Rd} (h : r.bad = true) : (arg2F b r).2.bad = true := by
  rw [arg2F]; exact row_bad2 (num_bad (row_bad2 (term_bad2 (flag_bad h))))
theorem args_bad2 {b : List Int} {r : Rd} (h : r.bad = true) : (args2F b r).2.bad = true := rep_bad (num_bad h) _
theorem so_bad2 {b : List Int} {r : Rd} (h : r.bad = true) : (so2F b r).2.bad = true := by
  rw [so2F]; exact term_bad2 (flag_bad (num_bad (args_bad2 h)))
theorem co_bad2 {b : List Int} {r : Rd} (h : r.bad = true) : (co2F b r).2.bad = true := by
  rw [co2F]; exact term_bad2 (row_bad2 (args_bad2 (num_bad h)))
theorem sos_bad2 {b : List Int} {r : Rd} (h : r.bad = true) : (sos2F b r).2.bad = true := rep_bad (num_bad h) _
theorem cos_bad2 {b : List Int} {r : Rd} (h : r.bad = true) : (cos2F b r).2.bad = true := rep_bad (num_bad h) _
theorem block_bad1 {b : List Int} {r : Rd} (h : r.bad = true) : (blockF b r).2.bad = true := by
  rw [blockF]; exact num_bad (cos_bad1 (sos_bad1 h))
theorem block_bad2 {b : List Int} {r : Rd} (h : r.bad = true) : (block2F b r).2.bad = true := by
  rw [block2F]; exact num_bad (cos_bad2 (sos_bad2 h))
theorem row_sm (b : List Int) (r : Rd) : Sm (rwF b r) (rw2F b r) := rep_sm (term_sm b) (fun _ h => term_bad1 h) (fun _ h => term_bad2 h) _ _
theorem arg_sm (b : List Int) (r : Rd) : Sm (argF b r) (arg2F b r) := by
  rw [argF, arg2F]
  dsimp only
  rcases term_sm b (flagF b r).2 with ⟨h1, h2⟩ | h
  · exact .inl ⟨row_bad1 (num_bad (row_bad1 h1)), row_bad2 (num_bad (row_bad2 h2))⟩
  rw [h]
  rcases row_sm b (term2F b (flagF b r).2).2 with ⟨h1, h2⟩ | h
  · exact .inl ⟨row_bad1 (num_bad h1), row_bad2 (num_bad h2)⟩
  rw [h]
  rcases row_sm b (numF b (rw2F b (term2F b (flagF b r).2).2).2).2 with ⟨h1, h2⟩ | h
  · exact .inl ⟨h1, h2⟩
  rw [h]
  exact .inr rfl
theorem args_sm (b : List Int) (r : Rd) : Sm (argsF b r) (args2F b r) := rep_sm (arg_sm b) (fun _ h => arg_bad1 h) (fun _ h => arg_bad2 h) _ _
theorem so_sm (b : List Int) (r : Rd) : Sm (soF b r) (so2F b r) := by
  rw [soF, so2F]
  dsimp only
  rcases args_sm b r with ⟨h1, h2⟩ | h
  · exact .inl ⟨term_bad1 (flag_bad (num_bad h1)), term_bad2 (flag_bad (num_bad h2))⟩
  rw [h]
  rcases term_sm b (flagF b (numF b (args2F b r).2).2).2 with ⟨h1, h2⟩ | h
  · exact .inl ⟨h1, h2⟩
  rw [h]
  exact .inr rfl
theorem co_sm (b : List Int) (r : Rd) : Sm (coF b r) (co2F b r) := by
  rw [coF, co2F]
  dsimp only
  rcases args_sm b (numF b r).2 with ⟨h1, h2⟩ | h
  · exact .inl ⟨term_bad1 (row_bad1 h1), term_bad2 (row_bad2 h2)⟩
  rw [h]
  rcases row_sm b (args2F b (numF b r).2).2 with ⟨h1, h2⟩ | h
  · exact .inl ⟨term_bad1 h1, term_bad2 h2⟩
  rw [h]
  rcases term_sm b (rw2F b (args2F b (numF b r).2).2).2 with ⟨h1, h2⟩ | h
  · exact .inl ⟨h1, h2⟩
  rw [h]
  exact .inr rfl
theorem sos_sm (b : List Int) (r : Rd) : Sm (sosF b r) (sos2F b r) := rep_sm (so_sm b) (fun _ h => so_bad1 h) (fun _ h => so_bad2 h) _ _
theorem cos_sm (b : List Int) (r : Rd) : Sm (cosF b r) (cos2F b r) := rep_sm (co_sm b) (fun _ h => co_bad1 h) (fun _ h => co_bad2 h) _ _
theorem block_sm (b : List Int) (r : Rd) : Sm (blockF b r) (block2F b r) := by
  rw [blockF, block2F]
  dsimp only
  rcases sos_sm b r with ⟨h1, h2⟩ | h
  · exact .inl ⟨num_bad (cos_bad1 h1), num_bad (cos_bad2 h2)⟩
  rw [h]
  rcases cos_sm b (sos2F b r).2 with ⟨h1, h2⟩ | h
  · exact .inl ⟨num_bad h1, num_bad h2⟩
  rw [h]
  exact .inr rfl
theorem declB_bad1 {b : List Int} {q : Int × Rd} (h : q.2.bad = true) : (declB b q).2.bad = true := by
  rw [declB]
  split
  · exact term_bad1 h
  · split
    · exact term_bad1 (term_bad1 h)
    · split
      · exact block_bad1 h
      · exact h
theorem decl_bad1 {b : List Int} {r : Rd} (h : r.bad = true) : (declF b r).2.bad = true := by
  rw [declF]
  simp only [declB_bad1 (num_bad h), Bool.true_or]
theorem declB_bad2 {b : List Int} {q : Int × Rd} (h : q.2.bad = true) : (decl2B b q).2.bad = true := by
  rw [decl2B]
  split
  · exact term_bad2 h
  · split
    · exact term_bad2 (term_bad2 h)
    · split
      · exact block_bad2 h
      · exact h
theorem decl_bad2 {b : List Int} {r : Rd} (h : r.bad = true) : (decl2F b r).2.bad = true := by
  rw [decl2F]
  simp only [declB_bad2 (num_bad h), Bool.true_or]
theorem declB_sm (b : List Int) (q : Int × Rd) : Sm (declB b q) (decl2B b q) := by
  rw [declB, decl2B]
  split
  · rcases term_sm b q.2 with ⟨h1, h2⟩ | h
    · exact .inl ⟨h1, h2⟩
    · rw [h]; exact .inr rfl
  · split
    · rcases term_sm b q.2 with ⟨h1, h2⟩ | h
      · exact .inl ⟨term_bad1 h1, term_bad2 h2⟩
      rw [h]
      rcases term_sm b (term2F b q.2).2 with ⟨h1, h2⟩ | h
      · exact .inl ⟨h1, h2⟩
      · rw [h]; exact .inr rfl
    · split
      · rcases block_sm b q.2 with ⟨h1, h2⟩ | h
        · exact .inl ⟨h1, h2⟩
        · rw [h]; exact .inr rfl
      · exact .inr rfl
theorem decl_sm (b : List Int) (r : Rd) : Sm (declF b r) (decl2F b r) := by
  rw [declF, decl2F]
  rcases declB_sm b (numF b r) with ⟨h1, h2⟩ | h
  · exact .inl ⟨by simp only [h1, Bool.true_or], by simp only [h2, Bool.true_or]⟩
  · rw [h]; exact .inr rfl
theorem get_sm (b : List Int) : ((getOk b = true ∧ getR b = get2R b ∧ (numF b ⟨0, false⟩).1 ≤ 60 ∧ (get2R b).2.bad = false ∧ (get2R b).2.p = b.length) ∨ (getOk b = false ∧ ¬ ((numF b ⟨0, false⟩).1 ≤ 60 ∧ (get2R b).2.bad = false ∧ (get2R b).2.p = b.length))) := by
  rw [getOk]
  by_cases g : (60 : Int) < (numF b ⟨0, false⟩).1
  · refine .inr ⟨?_, by omega⟩
    have : (getR b).2.bad = true := by rw [getR]; exact rep_bad (by simp [g]) _
    rw [this]; rfl
  · have e : getR b = repF (declF b) (numF b ⟨0, false⟩).1.toNat (numF b ⟨0, false⟩).2 := by
      rw [getR]; simp only [g, decide_false, Bool.or_false]
    rcases rep_sm (decl_sm b) (fun _ h => decl_bad1 h) (fun _ h => decl_bad2 h) (numF b ⟨0, false⟩).2 (numF b ⟨0, false⟩).1.toNat with ⟨h1, h2⟩ | h
    · rw [← e] at h1
      refine .inr ⟨by rw [h1]; rfl, fun hc => ?_⟩
      have : (get2R b).2.bad = true := h2
      rw [hc.2.1] at this; cases this
    · have e2 : getR b = get2R b := by rw [e, h]; rfl
      rw [e2]
      by_cases h3 : (get2R b).2.bad = false ∧ (get2R b).2.p = b.length
      · exact .inl ⟨by rw [h3.1, h3.2]; simp, rfl, by omega, h3.1, h3.2⟩
      · refine .inr ⟨?_, fun hc => h3 hc.2⟩
        cases hb : (get2R b).2.bad
        · have : ¬ (get2R b).2.p = b.length := fun hc => h3 ⟨hb, hc⟩
          simp [this]
        · rfl
theorem okR_bulk {t : T} (h : okR t) : bulk (.agg (cT t)) ≤ 3 * (pkO t).length := by
  have key : ∀ t : T, bulk (eT t) ≤ 3 * nodes t := by
    intro t
    induction t using T.rec (motive_2 := fun l => ((l.map eT).map bulk).sum ≤ 3 * (l.map nodes).sum) with
    | mk k n ks ih =>
      rw [nodes, eT]
      simp only [bulk, List.map_cons, List.map_nil, List.sum_cons, List.sum_nil]
      simp only [List.map_map, Function.comp_def] at ih
      simp only [List.map_map, Function.comp_def]
      omega
    | nil => simp
    | cons x l h1 h2 => simp only [List.map_cons, List.sum_cons]; omega
  have h1 := key t
  rw [eT_eq] at h1
  rcases h with rfl | hg
  · rw [pkO]; simp [T0, cT, bulk, noneM, bulkL, T.kind, T.num, T.kids]
  · have hpk : pkO t = pk t := by rw [pkO, hg.some]; rfl
    have := pk_length t hg.f
    rw [hpk]; omega
theorem sum_le7 {α : Type} (f g : α → Nat) : ∀ (l : List α), (∀ x ∈ l, f x ≤ 7 * g x) → (l.map f).sum ≤ 7 * (l.map g).sum
  | [], _ => by simp
  | x :: l, h => by
    have h1 := h x (by simp)
    have h2 := sum_le7 f g l fun y hy => h y (by simp [hy])
    simp only [List.map_cons, List.sum_cons]
    omega
theorem row_bulk {l : List T} (h : ∀ t ∈ l, okR t) : bulk (eTs l) ≤ 7 * (rowW l).flatten.length := by
  have h := sum_le7 (fun t => bulk (eT t)) (fun t => ([pkO t] : List (List Int)).flatten.length) l fun t ht => by
    have := okR_bulk (h t ht)
    rw [← eT_eq] at this
    simp only [List.flatten_cons, List.flatten_nil, List.append_nil]
    omega
  rw [rowW, List.flatten_cons, List.length_append, fl2]
  simp only [eTs, bulk, List.map_map, Function.comp_def, List.length_cons, List.length_nil] at h ⊢
  omega
theorem arg_bulk {a : Ar} (h : okRA a) : bulk (eAr a) ≤ 7 * (argW a).flatten.length := by
  have e : bulk (eAr a) = 1 + bulk (.agg (cT a.ty)) + (bulk (eTs a.dom) + (1 + bulk (eTs a.idx))) := by
    simp only [eAr, cAr, bulk, List.map_cons, List.map_append, List.sum_cons, List.sum_append, List.map_nil, List.sum_nil, List.cons_append, cT, eTs, List.nil_append]
    omega
  have h1 := okR_bulk h.ty
  have h2 := row_bulk h.dom.2
  have h3 := row_bulk h.idx.2
  rw [argW]
  simp only [List.flatten_append, List.length_append, List.flatten_cons, List.flatten_nil, List.length_cons, List.length_nil]
  omega
theorem args_bulk {l : List Ar} (h : ∀ a ∈ l, okRA a) : bulk (eArs l) ≤ 7 * (argsW l).flatten.length := by
  have h := sum_le7 (fun a => bulk (eAr a)) (fun a => (argW a).flatten.length) l fun a ha => arg_bulk (h a ha)
  rw [argsW, List.flatten_cons, List.length_append, fl2]
  simp only [eArs, bulk, List.map_map, Function.comp_def, List.length_cons, List.length_nil] at h ⊢
  omega
theorem so_bulk {x : So} (h : okRS x) : bulk (eSo x) ≤ 7 * (soW x).flatten.length := by
  have e : bulk (eSo x) = bulk (eArs x.idx) + (1 + (1 + bulk (.agg (cT x.dty)))) := by
    simp only [eSo, cSo, bulk, List.map_cons, List.map_append, List.sum_cons, List.sum_append, List.map_nil, List.sum_nil, List.cons_append, cT, eArs, List.nil_append]
  have h1 := okR_bulk h.dty
  have h2 := args_bulk h.idx.2
  rw [soW]
  simp only [List.flatten_append, List.length_append, List.flatten_cons, List.flatten_nil, List.length_cons, List.length_nil]
  omega
theorem co_bulk {c : Co} (h : okRC c) : bulk (eCo c) ≤ 7 * (coW c).flatten.length := by
  have e : bulk (eCo c) = 1 + (bulk (eArs c.args) + (bulk (eTs c.idx) + bulk (.agg (cT c.dec)))) := by
    simp only [eCo, cCo, bulk, List.map_cons, List.map_append, List.sum_cons, List.sum_append, List.map_nil, List.sum_nil, List.cons_append, cT, eArs, eTs, List.nil_append]
  have h1 := okR_bulk h.dec
  have h2 := args_bulk h.args.2
  have h3 := row_bulk h.idx.2
  rw [coW]
  simp only [List.flatten_append, List.length_append, List.flatten_cons, List.flatten_nil, List.length_cons, List.length_nil]
  omega
theorem blk_bulk {b : Bl} (h : okRB b) : bulk (eBl b) ≤ 7 * (blkW b).flatten.length := by
  have e : bulk (eBl b) = bulk (eSos b.sorts) + (bulk (eCos b.cons) + 1) := by
    simp only [eBl, cBl, bulk, List.map_cons, List.sum_cons, List.map_nil, List.sum_nil, Nat.add_zero]
  have h1 := sum_le7 (fun a => bulk (eSo a)) (fun a => (soW a).flatten.length) b.sorts fun a ha => so_bulk (h.sorts.2 a ha)
  have h2 := sum_le7 (fun a => bulk (eCo a)) (fun a => (coW a).flatten.length) b.cons fun a ha => co_bulk (h.cons.2 a ha)
  rw [blkW]
  simp only [List.flatten_append, List.length_append, List.flatten_cons, List.flatten_nil, List.length_cons, List.length_nil, fl2]
  simp only [e, eSos, eCos, bulk, List.map_map, Function.comp_def]
  omega
theorem decl_bulk {d : De} (h : okRD d) : bulk (eDe d) ≤ 7 * (declW blkW d).flatten.length := by
  have e := bulk_de d
  have e0 : bulk (.agg (cT T0)) = 3 := by simp [T0, cT, bulk, T.kind, T.num, T.kids]
  have eb : bulk (eBl B0) = 3 := by simp [B0, eBl, cBl, eSos, eCos, bulk]
  rcases h with ⟨_, ⟨t, h1, rfl⟩ | ⟨t, u, h1, h2, rfl⟩ | ⟨bl, h1, rfl⟩⟩
  · have := okR_bulk h1
    simp only [e0, eb] at e
    simp only [declW, if_true, List.flatten_cons, List.flatten_nil, List.length_append, List.length_cons, List.length_nil]
    omega
  · have := okR_bulk h1
    have := okR_bulk h2
    simp only [eb] at e
    rw [declW]
    rw [if_neg (by simp), if_pos rfl]
    simp only [List.flatten_cons, List.flatten_nil, List.length_append, List.length_cons, List.length_nil]
    omega
  · have := blk_bulk h1
    simp only [e0] at e
    rw [declW]
    rw [if_neg (by simp), if_neg (by simp)]
    simp only [List.flatten_cons, List.length_append, List.length_cons, List.length_nil]
    omega
theorem put_bulk {l : List De} (h : ∀ d ∈ l, okRD d) : bulk (eDes l) ≤ 7 * (putW blkW l).length := by
  have h := sum_le7 (fun a => bulk (eDe a)) (fun a => (declW blkW a).flatten.length) l fun a ha => decl_bulk (h a ha)
  rw [putW, List.length_cons, fl2]
  simp only [eDes, bulk, List.map_map, Function.comp_def] at h ⊢
  omega
attribute [local simp] allD_map_d sks_map_d tk tn tks initA EndsM
set_option maxHeartbeats 4000000 in
theorem reads22_law (b : List Int) (hB : byteL b) : Pure Tryz.prog n_porismlaw22_PileReads [eB b] [.bool true] := by
  refine p_porismlaw22_PileReads rfl fun hs => ?_
  by_cases g : (8000 : Int) < b.length
  · simp -dsimp [x_porismlaw22_PileReads, eB, g]
  have hTw := twinBytes_own2 b (by omega)
  have hG := getF_ok b hB
  have hR := read20_ok b hB (by omega)
  have n1 : ¬ (65536 : Int) < b.length := by omega
  have hK := keepBytes_ok b b
  simp only [eB, n1, if_false, decide_true] at hTw hG hR hK
  simp -dsimp [x_porismlaw22_PileReads, eB, g]
  refine callO_of hTw (by simp [rowsV, rowsC, RV.cells]) ?_
  simp -dsimp
  rcases get_sm b with ⟨h1, h2, h3⟩ | ⟨h1, h2⟩
  · obtain ⟨s1, s2, s3⟩ := get_snd hB (by omega) h1
    have hbk := put_bulk s3
    rw [← s1] at hbk
    have hP := putB_ok (getR b).1 (by omega)
    have hD := keepDecls_ok (getR b).1
    have hE : putE blkW (getR b).1 = 0 := by
      have : badD (getR b).1 = false := by
        rw [badD, List.any_eq_false]
        intro d hd
        simp [(s3 d hd).1]
      rw [putE, if_neg (by omega), this, ← s1]
      simp [n1]
    rw [hE, (putE_zero hE).2.2.2, ← s1] at hP
    rw [resZ, if_pos h3, ← h2] at hR
    simp only [h1, if_true] at hG
    simp only [eB] at hP
    generalize (getR b).1 = l at *
    simp only [eDes] at hD hP hG hR
    refine call_of hG ?_
    simp -dsimp
    refine call_of hR ?_
    simp -dsimp
    refine call_of hD ?_
    simp -dsimp
    refine call_of hK ?_
    simp -dsimp
    refine call_of hP ?_
    simp -dsimp
    refine call_of hK ?_
    simp -dsimp
    refine call_of wakes22_ok ?_
    simp -dsimp
  · rw [resZ, if_neg h2] at hR
    have hD := keepDecls_ok []
    simp only [h1, Bool.false_eq_true, if_false] at hG
    simp only [eDes, List.map_nil] at hD hG hR
    refine call_of hG ?_
    simp -dsimp
    refine call_of hR ?_
    simp -dsimp
    refine call_of hD ?_
    simp -dsimp
    refine call_of hK ?_
    simp -dsimp
    refine call_of wakes22_ok ?_
    simp -dsimp
end
end Ev
end Go.Proofs.YtgiejcndcbanjaaGreat
