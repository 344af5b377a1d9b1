/- porismkeep.Spoils: what it writes over. -/
import Derived.Test.YtncmainjcffanaaN5
namespace Go.Proofs.Ytncmainjcffanaa
namespace Ev
open Go
set_option maxRecDepth 100000
set_option linter.unusedSimpArgs false
set_option linter.unusedVariables false
open Go.RowKit (Hid)
theorem Chg.undrew {St : Nat → Nat} {w w' : World} (h : Chg St w w'.drew) : Chg St w w' := ⟨h.os, h.tape, h.output, h.size, h.block, h.free, h.cell⟩
def SpoilsAt (ks : List T) : Prop := ∀ (St : Nat → Nat) (w : World) (v : Value), (∀ b, 0 < St b → b < w.heap.size ∧ FreeB w b) → Rel St w v (.sl 3 (ks.map eT)) → Calls Try.prog n_porismkeep_Spoils #[v] w fun e w' => e = .returned (.tuple #[]) ∧ Chg St w w'
theorem spoils_ok (ks : List T) : SpoilsAt ks := by
  intro St w v2 hst r2
  obtain ⟨len, hlen⟩ : ∃ len, len = ks.length := ⟨_, rfl⟩
  obtain ⟨A, cap, rfl⟩ : ∃ A cap, v2 = .slice A len cap := by
    generalize hm : ks.map eT = ml at r2
    have hll : ml.length = ks.length := by rw [← hm]; exact List.length_map ..
    cases r2
    exact ⟨_, _, by rw [hll, hlen]⟩
  have hmx : len ≤ 9223372036854775807 := by
    generalize hm : ks.map eT = ml at r2
    have hll : ml.length = ks.length := by rw [← hm]; exact List.length_map ..
    cases r2 with
    | sl _ _ _ b off _ hc hm' => omega
  rcases Nat.eq_zero_or_pos len with h0 | hpos
  · subst h0
    clear hlen
    go_enter Try.func25, Try.ntmps25
    go_wp2
    refine wp_loop_rounds 1 ?_
    rw [rounds_succ]
    go_wp2
    go_end0
    exact ⟨rfl, .refl _ _⟩
  obtain ⟨b, off, rfl, hroom⟩ : ∃ b off, A = some ⟨b, off, none⟩ ∧ off + len * 3 ≤ St b := by
    generalize hm : ks.map eT = ml at r2
    have hll : ml.length = ks.length := by rw [← hm]; exact List.length_map ..
    cases r2 with
    | sl _ _ _ b off _ hc hm' hs ha =>
      obtain ⟨h1, h2⟩ := ha (by omega)
      exact ⟨b, off, h1, by rw [hlen, ← hll]; exact h2⟩
  have hks : Hid (len = ks.length) := hlen
  clear hlen
  go_enter Try.func25, Try.ntmps25
  go_wp2
  go_loopw [2] (fun iv wr => ∃ (q : Nat), q ≤ len ∧ iv = .int .i64 q ∧ Hid (Chg St w wr)) (fun iv _ => len - (RowKit.intOf iv).toNat)
  case atStart => exact ⟨0, Nat.zero_le _, rfl, Chg.refl _ _⟩
  case round =>
    obtain ⟨q, hq, rfl, hc⟩ := hrel
    rcases Nat.lt_or_ge q len with hlt | hge
    · obtain ⟨ks', hk', rk⟩ := stays_ok ks St St w wr _ (fun b hb => (hst b hb).1) r2 hc.out
      have hkl : ks'.length = len := by
        have := congrArg List.length hk'
        simp only [List.length_map] at this
        rw [this, hks.out]
      obtain ⟨k1, n1, v1, t1, hn1, c0, c1, c2, rt⟩ := row_at rk hkl hlt
      have hbw : b < wr.heap.size := Nat.lt_of_lt_of_le (hst b (by omega)).1 hc.out.size
      have hcall := spoil_ok t1 St wr _ (fun b hb => ⟨Nat.lt_of_lt_of_le (hst b hb).1 hc.out.size, hc.out.free b (hst b hb).2⟩) rt
      have facts : ∀ w1 : World, Chg St wr w1 → Hid (Chg St w w1) ∧ (∃ n2, w1.cell? ⟨b, off + q * 3, none⟩ = some (.int .i64 n2)) ∧ w1.frozen? ⟨b, off + q * 3, none⟩ = false := fun w1 hc1 => by
        have hc2 := hc.out.trans hc1
        refine ⟨hc2, ?_, ?_⟩
        · obtain ⟨u, h1, h2⟩ := hc1.cell b _ _ hbw c0
          rcases h2 with rfl | ⟨_, _, n', he, rfl⟩
          · exact ⟨_, h1⟩
          · cases he; exact ⟨n', h1⟩
        · obtain ⟨arr, el, hh⟩ := hc2.free b (hst b (by omega)).2
          simp [World.frozen?, hh]
      go_wp2_with (go_at_call 24; refine hcall.mono ?_; rintro e w1 ⟨rfl, hc1⟩; obtain ⟨hcH, ⟨n2, hn2⟩, hfz⟩ := facts w1 hc1; clear hc1)
      have hb0 : 0 < St b := by omega
      refine ⟨⟨q + 1, hlt, by simp, hcH.out.trans (Chg.set hb0 (hcH.out.free b (hst b hb0).2) hn2).undrew⟩, by simp [RowKit.intOf]; omega⟩
    · go_wp2
      go_end0
      exact ⟨rfl, hc.out⟩
end Ev
end Go.Proofs.Ytncmainjcffanaa
