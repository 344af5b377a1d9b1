/- porismkeep.Spoil: what it writes over. -/
import Derived.Test.YtncmainjcffanaaGreatN4
import Derived.WalkKit
import Derived.Deep.Heap
namespace Go.Proofs.YtncmainjcffanaaGreat
namespace Ev
open Go
set_option maxRecDepth 100000
set_option linter.unusedSimpArgs false
set_option linter.unusedVariables false
open Go.RowKit (Hid)
-- x_porismkeep_Spoil x_porismkeep_Spoils
def SpoilAt (t : T) : Prop := ∀ (St : Nat → Nat) (w : World) (v : Value), (∀ b, 0 < St b → b < w.heap.size ∧ FreeB w b) → Rel St w v (.agg (cT t)) → Calls Tryz.prog n_porismkeep_Spoil #[v] w fun e w' => e = .returned (.tuple #[]) ∧ Chg St w w'
theorem row_at {St : Nat → Nat} {w : World} {b off len cap q : Nat} {l : List T} (h : Rel St w (.slice (some ⟨b, off, none⟩) len cap) (.sl 3 (l.map eT))) (hl : l.length = len) (hq : q < len) :
    ∃ k1 n1 v1 t1, l[q]? = some t1 ∧ w.cell? ⟨b, off + q * 3, none⟩ = some (.int .i64 k1) ∧ w.cell? ⟨b, off + q * 3 + 1, none⟩ = some (.int .i64 n1) ∧ w.cell? ⟨b, off + q * 3 + 2, none⟩ = some v1 ∧ Rel St w (.agg #[.int .i64 k1, .int .i64 n1, v1]) (.agg (cT t1)) := by
  generalize hm : l.map eT = ml at h
  have hll : ml.length = l.length := by rw [← hm]; exact List.length_map ..
  cases h with
  | sl _ _ _ b' off' _ hc hm' hs ha val hv h1 hr =>
    obtain ⟨hA, _⟩ := ha (by omega)
    simp only [Option.some.injEq, Addr.mk.injEq, and_true] at hA
    obtain ⟨rfl, rfl⟩ := hA
    have hql : q < l.length := by rw [hl]; exact hq
    have hx : ml[q]? = some (.agg (cT (l[q]'hql))) := by rw [← hm, List.getElem?_map, List.getElem?_eq_getElem hql, Option.map_some, eT_eq]
    have c0 := hv q _ hx 0 _ rfl
    have c1 := hv q _ hx 1 _ rfl
    have c2 := hv q _ hx 2 _ rfl
    have r0 := hr q _ hx 0 _ rfl
    have r1 := hr q _ hx 1 _ rfl
    have r2 := hr q _ hx 2 _ rfl
    generalize val q 0 = u0 at c0 r0
    generalize val q 1 = u1 at c1 r1
    cases r0
    cases r1
    refine ⟨_, _, _, l[q]'hql, List.getElem?_eq_getElem hql, by simpa using c0, c1, c2, .agg _ _ rfl fun j c hj => ?_⟩
    match j, hj with
    | 0, hj => cases hj; exact .int _ _
    | 1, hj => cases hj; exact .int _ _
    | 2, hj => cases hj; exact r2
theorem Chg.set {St : Nat → Nat} {w : World} {b i : Nat} {k : IntKind} {n n' : Int} (h0 : 0 < St b) (hf : FreeB w b) (hv : w.cell? ⟨b, i, none⟩ = some (.int k n)) : Chg St w (w.setCell ⟨b, i, none⟩ (.int k n')).drew := by
  have ho : ∀ c, c ≠ b → (w.setCell ⟨b, i, none⟩ (.int k n')).heap[c]? = w.heap[c]? := fun c hc => Go.Deep.blk_setCell_other _ _ _ _ hc
  refine ⟨rfl, rfl, rfl, Nat.le_of_eq (Go.Deep.nblk_setCell _ _ _).symm, fun c _ h => ho c (fun e => by subst e; omega), fun c hc => ?_, fun c j v _ hj => ?_⟩
  · rcases Nat.decEq c b with hne | rfl
    · exact hc.eq (ho c hne)
    · obtain ⟨arr, el, hh⟩ := hf
      refine ⟨arr.setIfInBounds i (.int k n'), el, ?_⟩
      show (w.heap.modify c _)[c]? = _
      rw [Array.getElem?_modify, if_pos rfl, hh]
      rfl
  · show ∃ v', (w.setCell ⟨b, i, none⟩ (.int k n')).cell? ⟨c, j, none⟩ = some v' ∧ _
    rcases Nat.decEq c b with hne | rfl
    · exact ⟨v, (World.cell?_of_block (w := w) (a := ⟨c, j, none⟩) (ho c hne)).trans hj, .inl rfl⟩
    · rcases Nat.decEq j i with hne | rfl
      · exact ⟨v, (World.cell?_setCell_other w _ _ _ (by simp only [ne_eq, Addr.mk.injEq, true_and, and_true]; omega)).trans hj, .inl rfl⟩
      · rw [hv] at hj; cases hj
        exact ⟨_, World.cell?_setCell_same w _ _ hv, .inr ⟨_, _, _, rfl, rfl⟩⟩
theorem sum_mem_le : ∀ {l : List Nat} {x : Nat}, x ∈ l → x ≤ l.sum
  | a :: l, x, h => by
    rcases List.mem_cons.1 h with rfl | h
    · simp
    · have := sum_mem_le h
      simp; omega
theorem nodes_lt {k n : Int} {ks ks' : List T} {q : Nat} {t1 : T} (h : ks'[q]? = some t1) (hk : ks'.map nodes = ks.map nodes) : nodes t1 < nodes (.mk k n ks) := by
  rw [nodes, ← hk]
  have := sum_mem_le (List.mem_map_of_mem (f := nodes) (List.mem_of_getElem? h))
  omega
theorem spoil_try (t : T) (ih : ∀ t', nodes t' < nodes t → SpoilAt t') : SpoilAt t := by
  intro St w v hst hr
  obtain ⟨k, n, ks⟩ := t
  obtain ⟨v2, rfl, r2⟩ : ∃ v2, v = .agg #[.int .i64 k, .int .i64 n, v2] ∧ Rel St w v2 (.sl 3 (ks.map eT)) := by
    cases hr with
    | agg vs _ hn hr =>
      refine ⟨vs.getD 2 undef, ?_, hr 2 _ rfl⟩
      have h0 := hr 0 _ rfl
      have h1 := hr 1 _ rfl
      have hs : vs = #[vs.getD 0 undef, vs.getD 1 undef, vs.getD 2 undef] := by
        have hn3 : vs.size = 3 := by simpa [cT] using hn
        apply Array.ext
        · simp [hn3]
        · intro i h1 h2
          have : i = 0 ∨ i = 1 ∨ i = 2 := by omega
          rcases this with rfl | rfl | rfl <;> simp [Array.getD, hn3]
      generalize vs.getD 0 undef = u0 at hs h0
      generalize vs.getD 1 undef = u1 at hs h1
      cases h0
      cases h1
      exact congrArg Value.agg hs
  obtain ⟨len, hlen⟩ : ∃ len, len = ks.length := ⟨_, rfl⟩
  obtain ⟨A, cap, rfl⟩ : ∃ A cap, v2 = .slice A len cap := by
    generalize hm : ks.map eT = ml at r2
    have hll : ml.length = ks.length := by rw [← hm]; exact List.length_map ..
    cases r2
    exact ⟨_, _, by rw [hll, hlen]⟩
  have hmx : len ≤ 9223372036854775807 := by
    generalize hm : ks.map eT = ml at r2
    have hll : ml.length = ks.length := by rw [← hm]; exact List.length_map ..
    cases r2 with
    | sl _ _ _ b off _ hc hm' => omega
  rcases Nat.eq_zero_or_pos len with h0 | hpos
  · subst h0
    clear hlen
    go_enter Tryz.func21, Tryz.ntmps21
    go_wp2
    refine wp_loop_rounds 1 ?_
    rw [rounds_succ]
    go_wp2
    go_end0
    exact ⟨rfl, .of_below ((RowKit.Below.refl _ _).alloc (Nat.le_refl _) _)⟩
  obtain ⟨b, off, rfl, hroom⟩ : ∃ b off, A = some ⟨b, off, none⟩ ∧ off + len * 3 ≤ St b := by
    generalize hm : ks.map eT = ml at r2
    have hll : ml.length = ks.length := by rw [← hm]; exact List.length_map ..
    cases r2 with
    | sl _ _ _ b off _ hc hm' hs ha =>
      obtain ⟨h1, h2⟩ := ha (by omega)
      exact ⟨b, off, h1, by rw [hlen, ← hll]; exact h2⟩
  have hks : Hid (len = ks.length) := hlen
  clear hlen
  go_enter Tryz.func21, Tryz.ntmps21
  go_wp2
  go_loopw [2] (fun iv wr => ∃ (q : Nat), q ≤ len ∧ iv = .int .i64 q ∧ Hid (Chg St w wr) ∧ wr.heap[w.heap.size]? = some (.cells #[.int .i64 k, .int .i64 n, .slice (some ⟨b, off, none⟩) len cap] 28 (0, 0))) (fun iv _ => len - (RowKit.intOf iv).toNat)
  case atStart => exact ⟨0, Nat.zero_le _, rfl, Chg.of_below ((RowKit.Below.refl _ _).alloc (Nat.le_refl _) _), heap_alloc_new w _⟩
  case round =>
    obtain ⟨q, hq, rfl, hc, hbox⟩ := hrel
    have g2 : wr.cell? ⟨w.heap.size, 2, none⟩ = some (.slice (some ⟨b, off, none⟩) len cap) := by simp [World.cell?, hbox]
    have hst0 : St w.heap.size = 0 := Nat.eq_zero_of_not_pos fun hp => by have := (hst _ hp).1; omega
    rcases Nat.lt_or_ge q len with hlt | hge
    · obtain ⟨ks', hk', rk⟩ := stays_ok ks St St w wr _ (fun b hb => (hst b hb).1) r2 hc.out
      have hkl : ks'.length = len := by
        have := congrArg List.length hk'
        simp only [List.length_map] at this
        rw [this, hks.out]
      obtain ⟨k1, n1, v1, t1, hn1, c0, c1, c2, rt⟩ := row_at rk hkl hlt
      have hbw : b < wr.heap.size := Nat.lt_of_lt_of_le (hst b (by omega)).1 hc.out.size
      have hnt : nodes t1 < nodes (T.mk k n ks) := nodes_lt hn1 hk'
      have hcall := ih t1 hnt St wr _ (fun b hb => ⟨Nat.lt_of_lt_of_le (hst b hb).1 hc.out.size, hc.out.free b (hst b hb).2⟩) rt
      go_wp2_with (go_at_call 21; refine hcall.mono ?_; rintro e w1 ⟨rfl, hc1⟩)
      have hc2 := hc.out.trans hc1
      obtain ⟨n2, hn2⟩ : ∃ n2, w1.cell? ⟨b, off + q * 3 + 1, none⟩ = some (.int .i64 n2) := by
        obtain ⟨u, h1, h2⟩ := hc1.cell b _ _ hbw c1
        rcases h2 with rfl | ⟨_, _, n', he, rfl⟩
        · exact ⟨_, h1⟩
        · cases he; exact ⟨n', h1⟩
      have hbox1 : w1.heap[w.heap.size]? = some (.cells #[.int .i64 k, .int .i64 n, .slice (some ⟨b, off, none⟩) len cap] 28 (0, 0)) := (hc1.block _ (Array.getElem?_eq_some_iff.1 hbox).1 hst0).trans hbox
      have g3 : w1.cell? ⟨w.heap.size, 2, none⟩ = some (.slice (some ⟨b, off, none⟩) len cap) := by simp [World.cell?, hbox1]
      have hfz : w1.frozen? ⟨b, off + q * 3 + 1, none⟩ = false := by
        obtain ⟨arr, el, hh⟩ := hc2.free b (hst b (by omega)).2
        simp [World.frozen?, hh]
      clear c0 c1 c2 rt hcall hbox g2 rk hr r2
      have hcH : Hid (Chg St w w1) := hc2
      have hbH : Hid (w1.heap[w.heap.size]? = some (.cells #[.int .i64 k, .int .i64 n, .slice (some ⟨b, off, none⟩) len cap] 28 (0, 0))) := hbox1
      clear hc1 hc2 hbox1
      go_region
      all_goals (try go_wp2)
      have hneb : w.heap.size ≠ b := fun e => by rw [← e] at hroom; omega
      refine ⟨⟨q + 1, hlt, by simp, hcH.out.trans (Chg.set (by omega) (hcH.out.free b (hst b (by omega)).2) hn2), ?_⟩, by simp [RowKit.intOf]; omega⟩
      exact (Go.Deep.blk_setCell_other _ _ _ _ hneb).trans hbH.out
    · go_wp2
      go_end0
      exact ⟨rfl, hc.out⟩
theorem spoil_ok (t : T) : SpoilAt t := by
  have key : ∀ n, ∀ t, nodes t < n → SpoilAt t := fun n => by
    induction n with
    | zero => intro t h; omega
    | succ n ih => exact fun t h => spoil_try t fun t' h' => ih t' (by omega)
  exact key _ t (Nat.lt_succ_self _)
end Ev
end Go.Proofs.YtncmainjcffanaaGreat
