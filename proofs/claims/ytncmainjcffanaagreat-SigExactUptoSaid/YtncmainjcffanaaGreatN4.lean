/- Ints in new memory written over: what stands all the same. -/
import Derived.Test.YtncmainjcffanaaGreatN1
namespace Go.Proofs.YtncmainjcffanaaGreat
namespace Ev
open Go
set_option maxRecDepth 100000
set_option linter.unusedSimpArgs false
set_option linter.unusedVariables false
/-- From w on ints are written over, in blocks of which St tells that cells are read; nothing else that was there is touched. -/
structure Chg (St : Nat → Nat) (w w' : World) : Prop where
  os : w'.os = w.os
  tape : w'.tape = w.tape
  output : w'.output = w.output
  size : w.heap.size ≤ w'.heap.size
  block : ∀ b, b < w.heap.size → St b = 0 → w'.heap[b]? = w.heap[b]?
  free : ∀ b, FreeB w b → FreeB w' b
  cell : ∀ b i v, b < w.heap.size → w.cell? ⟨b, i, none⟩ = some v → ∃ v', w'.cell? ⟨b, i, none⟩ = some v' ∧ (v' = v ∨ ∃ k n n', v = .int k n ∧ v' = .int k n')
theorem Chg.refl (St : Nat → Nat) (w : World) : Chg St w w := ⟨rfl, rfl, rfl, Nat.le_refl _, fun _ _ _ => rfl, fun _ h => h, fun b i v _ h => ⟨v, h, .inl rfl⟩⟩
theorem Chg.trans {St : Nat → Nat} {w w' w'' : World} (h : Chg St w w') (k : Chg St w' w'') : Chg St w w'' :=
  ⟨k.os.trans h.os, k.tape.trans h.tape, k.output.trans h.output, Nat.le_trans h.size k.size, fun b hb h0 => (k.block b (Nat.lt_of_lt_of_le hb h.size) h0).trans (h.block b hb h0), fun b hb => k.free b (h.free b hb), fun b i v hb hv => by
    obtain ⟨v1, h1, h2⟩ := h.cell b i v hb hv
    obtain ⟨v2, k1, k2⟩ := k.cell b i v1 (Nat.lt_of_lt_of_le hb h.size) h1
    refine ⟨v2, k1, ?_⟩
    rcases h2 with rfl | ⟨q, n, n', rfl, rfl⟩
    · exact k2
    · rcases k2 with rfl | ⟨q', m, m', e, rfl⟩
      · exact .inr ⟨q, n, n', rfl, rfl⟩
      · cases e
        exact .inr ⟨q, n, m', rfl, rfl⟩⟩
/-- What changes in no block that was there. -/
theorem Chg.of_below {St : Nat → Nat} {w w' : World} (h : RowKit.Below w.heap.size w w') : Chg St w w' :=
  ⟨h.os, h.tape, h.output, h.size, fun b hb _ => h.block b hb, fun b hf => hf.eq (h.block b (by obtain ⟨_, _, hh⟩ := hf; exact (Array.getElem?_eq_some_iff.1 hh).1)), fun b i v hb hv => ⟨v, (World.cell?_of_block (w := w) (a := ⟨b, i, none⟩) (h.block b hb)).trans hv, .inl rfl⟩⟩
theorem choose_list {α : Type} {Q : Nat → α → Prop} : ∀ n, (∀ i, i < n → ∃ x, Q i x) → ∃ l : List α, l.length = n ∧ ∀ i (h : i < l.length), Q i l[i]
  | 0, _ => ⟨[], rfl, fun i h => by simp at h⟩
  | n + 1, h => by
    obtain ⟨l, hl, hq⟩ := choose_list n fun i hi => h i (by omega)
    obtain ⟨x, hx⟩ := h n (by omega)
    refine ⟨l ++ [x], by simp [hl], fun i hi => ?_⟩
    simp only [List.length_append, List.length_singleton] at hi
    rcases Nat.lt_or_ge i l.length with hlt | hge
    · rw [List.getElem_append_left hlt]; exact hq i hlt
    · have e : i = l.length := by omega
      subst e
      rw [List.getElem_append_right (Nat.le_refl _)]
      simp only [Nat.sub_self, List.getElem_cons_zero]
      rw [hl]; exact hx
/-- A row of terms is one of terms of the same shape behind. -/
def Stays (l : List T) : Prop := ∀ (St S0 : Nat → Nat) (w w' : World) (v : Value), (∀ b, 0 < St b → b < w.heap.size) → Rel St w v (.sl 3 (l.map eT)) → Chg S0 w w' → ∃ l' : List T, l'.map nodes = l.map nodes ∧ Rel St w' v (.sl 3 (l'.map eT))
theorem stays_of (l : List T) (ih : ∀ x ∈ l, Stays x.kids) : Stays l := by
  intro St S0 w w' v hst hr hc
  generalize hm : l.map eT = ml at hr
  have hll : ml.length = l.length := by rw [← hm]; exact List.length_map ..
  cases hr with
  | sl A cap _ b off _ hcp hmx hs ha val hv h1 hr =>
    have hget : ∀ i, (hi : i < l.length) → ml[i]? = some (.agg (cT l[i])) := fun i hi => by rw [← hm, List.getElem?_map, List.getElem?_eq_getElem hi, Option.map_some, eT_eq]
    have hblk : 0 < l.length → b < w.heap.size := fun hp => hst b (by have := (ha (by omega)).2; omega)
    have hone : ∀ i, i < l.length → ∃ t' : T, nodes t' = nodes (l[i]?.getD (.mk 0 0 [])) ∧ ∀ j c, (cT t')[j]? = some c → ∃ u, w'.cell? ⟨b, off + i * 3 + j, none⟩ = some u ∧ u.oneCell' = true ∧ Rel St w' u c := by
      intro i hi
      have hx := hget i hi
      obtain ⟨x, hxe⟩ : ∃ x, l[i] = x := ⟨_, rfl⟩
      have hxm : x ∈ l := by rw [← hxe]; exact List.getElem_mem _
      rw [hxe] at hx
      rw [List.getElem?_eq_getElem hi, hxe, Option.getD_some]
      have ihx := ih x hxm
      obtain ⟨k, n, ks⟩ := x
      simp only [T.kids] at ihx
      have c0 := hv i _ hx 0 (.int .i64 k) rfl
      have c1 := hv i _ hx 1 (.int .i64 n) rfl
      have c2 := hv i _ hx 2 (.sl 3 (ks.map eT)) rfl
      have r0 := hr i _ hx 0 (.int .i64 k) rfl
      have r1 := hr i _ hx 1 (.int .i64 n) rfl
      have r2 := hr i _ hx 2 (.sl 3 (ks.map eT)) rfl
      have hb := hblk (by omega)
      generalize val i 0 = v0 at c0 r0
      generalize val i 1 = v1 at c1 r1
      generalize val i 2 = v2 at c2 r2
      cases r0
      cases r1
      obtain ⟨u0, d0, e0⟩ := hc.cell b _ _ hb c0
      obtain ⟨u1, d1, e1⟩ := hc.cell b _ _ hb c1
      obtain ⟨u2, d2, e2⟩ := hc.cell b _ _ hb c2
      obtain ⟨k', rfl⟩ : ∃ k', u0 = .int .i64 k' := by
        rcases e0 with rfl | ⟨_, _, n', h, rfl⟩
        · exact ⟨_, rfl⟩
        · cases h; exact ⟨n', rfl⟩
      obtain ⟨n', rfl⟩ : ∃ n', u1 = .int .i64 n' := by
        rcases e1 with rfl | ⟨_, _, n', h, rfl⟩
        · exact ⟨_, rfl⟩
        · cases h; exact ⟨n', rfl⟩
      have hu2 : u2 = v2 := by
        rcases e2 with rfl | ⟨_, _, _, h, _⟩
        · rfl
        · rw [h] at r2; cases r2
      subst hu2
      obtain ⟨ks', hk', rk⟩ := ihx St S0 w w' u2 hst r2 hc
      refine ⟨.mk k' n' ks', ?_, fun j c hj => ?_⟩
      · rw [nodes, nodes, hk']
      · match j, hj with
        | 0, hj => cases hj; exact ⟨_, d0, rfl, .int _ _⟩
        | 1, hj => cases hj; exact ⟨_, d1, rfl, .int _ _⟩
        | 2, hj => cases hj; exact ⟨_, d2, by cases rk; rfl, rk⟩
    obtain ⟨l', hl', hq⟩ := choose_list l.length hone
    refine ⟨l', ?_, ?_⟩
    · refine List.ext_getElem (by simp [hl']) fun i h1 h2 => ?_
      simp only [List.length_map] at h1 h2
      have := (hq i h1).1
      rw [List.getElem?_eq_getElem (by omega), Option.getD_some] at this
      simpa using this
    · have hl2 : (l'.map eT).length = ml.length := by rw [List.length_map, hl', hll]
      have hgl : ∀ i, (hi : i < l'.length) → (l'.map eT)[i]? = some (.agg (cT l'[i])) := fun i hi => by rw [List.getElem?_map, List.getElem?_eq_getElem hi, Option.map_some, eT_eq]
      have hcell : ∀ i x, (l'.map eT)[i]? = some x → ∀ j c, x.cells[j]? = some c → ∃ u, w'.cell? ⟨b, off + i * 3 + j, none⟩ = some u ∧ u.oneCell' = true ∧ Rel St w' u c := by
        intro i x hx j c hj
        have hi : i < l'.length := by have := (List.getElem?_eq_some_iff.1 hx).1; simpa using this
        rw [hgl i hi] at hx
        cases hx
        exact (hq i hi).2 j c hj
      rw [← hl2]
      refine .sl A cap 3 b off _ (by omega) (by omega) (fun x hx => ?_) (fun hp => by rw [hl2] at hp ⊢; exact ha hp) (fun i j => (w'.cell? ⟨b, off + i * 3 + j, none⟩).getD undef) (fun i x hx j c hj => ?_) (fun i x hx j c hj => ?_) (fun i x hx j c hj => ?_)
      · obtain ⟨y, _, rfl⟩ := List.mem_map.1 hx
        rw [eT_cells]; rfl
      · obtain ⟨u, h1, _⟩ := hcell i x hx j c hj
        rw [h1]; rfl
      · obtain ⟨u, h1, h2, _⟩ := hcell i x hx j c hj
        rw [h1]; exact h2
      · obtain ⟨u, h1, _, h3⟩ := hcell i x hx j c hj
        rw [h1]; exact h3
theorem stays_ok (l : List T) : Stays l := stays_of l fun x _ => by
  have key : ∀ t : T, Stays t.kids := fun t => by
    refine T.ind (p := fun t => Stays t.kids) ?_ t
    intro k n ks ih
    exact stays_of ks ih
  exact key x
theorem stays_term {St S0 : Nat → Nat} {w w' : World} {v : Value} {t : T} (hst : ∀ b, 0 < St b → b < w.heap.size) (hr : Rel St w v (.agg (cT t))) (hc : Chg S0 w w') : ∃ t' : T, nodes t' = nodes t ∧ Rel St w' v (.agg (cT t')) := by
  obtain ⟨k, n, ks⟩ := t
  cases hr with
  | agg vs _ hn hr =>
    obtain ⟨ks', h1, h2⟩ := stays_ok ks St S0 w w' (vs.getD 2 undef) hst (hr 2 _ rfl) hc
    refine ⟨.mk k n ks', by rw [nodes, nodes, h1], .agg vs _ (by simpa [cT] using hn) fun j c hj => ?_⟩
    match j, hj with
    | 0, hj =>
      cases hj
      have := hr 0 _ rfl
      generalize vs.getD 0 undef = u at this ⊢
      cases this; exact .int _ _
    | 1, hj =>
      cases hj
      have := hr 1 _ rfl
      generalize vs.getD 1 undef = u at this ⊢
      cases this; exact .int _ _
    | 2, hj => cases hj; exact h2
end Ev
end Go.Proofs.YtncmainjcffanaaGreat
