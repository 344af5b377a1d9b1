/- Whatever reads as a term reads as no other; what a step keeps, told as the law of a range over a function asks for it. -/
import Derived.Test.YtnkbhmafebngjaaB5
import Derived.RangeFuncNested
namespace Go.Proofs.Ytnkbhmafebngjaa
namespace Ev
open Go Go.RowKit
set_option linter.unusedVariables false
set_option linter.unusedSimpArgs false

theorem sl_inv {St : Nat → Nat} {w : World} {v : Value} {sz : Nat} {xs : List D} (h : Rel St w v (.sl sz xs)) : ∃ A cap b off, ∃ val : Nat → Nat → Value, v = .slice A xs.length cap ∧ (0 < xs.length → A = some ⟨b, off, none⟩) ∧
    (∀ (i : Nat) x, xs[i]? = some x → ∀ (j : Nat) c, x.cells[j]? = some c → w.cell? ⟨b, off + i * sz + j, none⟩ = some (val i j) ∧ Rel St w (val i j) c) := by
  cases h with
  | sl A cap _ b off _ hc hm hs ha val hv h1 hr => exact ⟨A, cap, b, off, val, rfl, fun hp => (ha hp).1, fun i x hi j c hj => ⟨hv i x hi j c hj, hr i x hi j c hj⟩⟩
theorem T_uniq : ∀ t : T, ∀ (t' : T) (vs : Nat → Value) (St St' : Nat → Nat) (w : World), (∀ (j : Nat) c, (cT t)[j]? = some c → Rel St w (vs j) c) → (∀ (j : Nat) c, (cT t')[j]? = some c → Rel St' w (vs j) c) → t = t' := by
  refine T.ind (p := fun t => ∀ (t' : T) (vs : Nat → Value) (St St' : Nat → Nat) (w : World), (∀ (j : Nat) c, (cT t)[j]? = some c → Rel St w (vs j) c) → (∀ (j : Nat) c, (cT t')[j]? = some c → Rel St' w (vs j) c) → t = t') ?_
  rintro k n ks ih ⟨k', n', ks'⟩ vs St St' w h h'
  have a0 := h 0 _ rfl
  have b0 := h' 0 _ rfl
  have a1 := h 1 _ rfl
  have b1 := h' 1 _ rfl
  have a2 := h 2 _ rfl
  have b2 := h' 2 _ rfl
  have e0 : k = k' := by
    generalize vs 0 = v at a0 b0
    cases a0
    cases b0
    rfl
  have e1 : n = n' := by
    generalize vs 1 = v at a1 b1
    cases a1
    cases b1
    rfl
  subst e0
  subst e1
  obtain ⟨A, cap, b, off, val, hv, hA, hc⟩ := sl_inv a2
  obtain ⟨A', cap', b', off', val', hv', hA', hc'⟩ := sl_inv b2
  rw [hv] at hv'
  simp only [Value.slice.injEq, List.length_map, T.kids] at hv'
  obtain ⟨eA, el, _⟩ := hv'
  subst eA
  congr 1
  refine List.ext_getElem el fun i h1 h2 => ?_
  simp only [T.kids, List.length_map] at hA hA' hc hc'
  have q := hA (by omega)
  have q' := hA' (by omega)
  rw [q] at q'
  simp only [Option.some.injEq, Addr.mk.injEq, and_true] at q'
  obtain ⟨rfl, rfl⟩ := q'
  refine ih ks[i] (List.getElem_mem _) ks'[i] (fun j => if j < 3 then val i j else undef) St St' w (fun j c hj => ?_) (fun j c hj => ?_)
  · have hlt := (List.getElem?_eq_some_iff.1 hj).1
    have hl3 : j < 3 := by simpa [cT] using hlt
    simp only [hl3, if_true]
    exact (hc i (eT ks[i]) (by simp [h1]) j c (by rw [eT_cells]; exact hj)).2
  · have hlt := (List.getElem?_eq_some_iff.1 hj).1
    have hl3 : j < 3 := by simpa [cT] using hlt
    simp only [hl3, if_true]
    have g2 := hc' i (eT ks'[i]) (by simp [h2]) j c (by rw [eT_cells]; exact hj)
    have hj0 : ∃ c0, (cT ks[i])[j]? = some c0 := ⟨_, List.getElem?_eq_getElem (by simpa [cT] using hl3)⟩
    obtain ⟨c0, hj0⟩ := hj0
    have g1 := hc i (eT ks[i]) (by simp [h1]) j c0 (by rw [eT_cells]; exact hj0)
    have := g1.1.symm.trans g2.1
    simp only [Option.some.injEq] at this
    rw [this]
    exact g2.2
theorem PH_uniq {k : Int} {o o' : T} {G G' : GS} {h h' : Nat → Ent} {w : World} (i : Inv G h w) (i' : Inv G' h' w) (p : PH k o h) (p' : PH k o' h') (hd : G.hd 7 = G'.hd 7) : o = o' := by
  obtain ⟨_, _, cs, e, hc⟩ := p
  obtain ⟨_, _, cs', e', hc'⟩ := p'
  have a := i.ent 7
  have a' := i'.ent 7
  rw [e] at a
  rw [e'] at a'
  obtain ⟨b, arr, el, hA, hh, hs, hr, _⟩ := a
  obtain ⟨b', arr', el', hA', hh', hs', hr', _⟩ := a'
  rw [hd, hA'] at hA
  simp only [Option.some.injEq, Addr.mk.injEq, and_true] at hA
  subst hA
  rw [hh] at hh'
  simp only [Option.some.injEq, Obj.cells.injEq, and_true] at hh'
  obtain ⟨rfl, _⟩ := hh'
  have fin : ∀ {G : GS} {h : Nat → Ent} {o : T} {cs : AV}, (cs = .d (.sl 3 (o.kids.map eT)) ∨ cs = .fsl 3 (o.kids.map eT)) → (∀ (j : Nat) c, [AV.d (.int .i64 o.kind), .d (.int .i64 o.num), cs][j]? = some c → ARel G h w (arr.getD j undef) c ∧ (arr.getD j undef).oneCell' = true) →
      ∀ (j : Nat) c, (cT o)[j]? = some c → Rel G.St w (arr.getD j undef) c := by
    intro G h o cs hc hr j c hj
    have hlt := (List.getElem?_eq_some_iff.1 hj).1
    have hl3 : j < 3 := by simpa [cT] using hlt
    match j, hl3, hj with
    | 0, _, hj => cases hj; exact (hr 0 _ rfl).1.d_inv
    | 1, _, hj => cases hj; exact (hr 1 _ rfl).1.d_inv
    | 2, _, hj =>
      cases hj
      have := (hr 2 _ rfl).1
      rcases hc with rfl | rfl
      · exact this.d_inv
      · generalize arr.getD 2 undef = v at this
        cases this with
        | fsl A n _ _ hr => exact hr
  exact T_uniq o o' _ _ _ w (fin hc hr) (fin hc' hr')

theorem owns_cells {G : GS} {h : Nat → Ent} {w : World} (i : Inv G h w) {k b : Nat} (ho : Owns G k b (h k).body) : ∃ arr el, w.heap[b]? = some (.cells arr el (0, 0)) := by
  have he := i.ent k
  have go : ∀ (b' : Nat) (arr : Array Value) (el : TypeId), (G.hd k).A = some ⟨b', 0, none⟩ → w.heap[b']? = some (.cells arr el (0, 0)) → (G.hd k).A = some ⟨b, 0, none⟩ → ∃ arr el, w.heap[b]? = some (.cells arr el (0, 0)) := fun b' arr el hA hheap ho' => by
    rw [hA] at ho'
    simp only [Option.some.injEq, Addr.mk.injEq, and_true] at ho'
    subst ho'
    exact ⟨_, _, hheap⟩
  cases hb : (h k).body with
  | dead => rw [hb] at ho; exact ho.elim
  | box cs fz =>
    rw [hb] at he ho
    obtain ⟨b', arr, el, hA, hheap, _⟩ := he
    exact go b' arr el hA hheap ho
  | row sz xs fz =>
    rw [hb] at he ho
    cases fz with
    | true =>
      rcases he.2 with hc | ⟨b', arr, el, hA, hheap, _⟩
      · exact absurd hc (ho.2 rfl)
      · exact go b' arr el hA hheap ho.1
    | false =>
      rcases he with ⟨z1, _⟩ | ⟨b', arr, el, hA, hheap, _⟩
      · have := ho.1
        rw [z1] at this
        cases this
      · exact go b' arr el hA hheap ho.1
theorem Step.keepsFrom {G G' : GS} {h h' : Nat → Ent} {w w' : World} (i : Inv G h w) (s : Step G h w G' h' w') (B : Nat) : KeepsFrom B w w' :=
  ⟨s.left.size, fun b o _ hb ho => (s.left.block b (Array.getElem?_eq_some_iff.1 hb).1 fun k hk => by
    obtain ⟨arr, el, hc⟩ := owns_cells i hk
    rw [hb] at hc
    cases hc
    cases ho).1.trans hb⟩
theorem Step.kp {G0 G G' : GS} {h0 h h' : Nat → Ent} {w0 w w' : World} (t : Step G0 h0 w0 G h w) (s : Step G h w G' h' w') : Kp G0.St w w' :=
  ⟨s.left.size, fun b i hi => s.ext.keeps.cell b i (Nat.lt_of_lt_of_le hi (t.ext.keeps.st b))⟩
theorem Fr.reads {n : Nat} {G : GS} {st : S} {a : Act} {w w' : World} (hk : Reads1 w w') (fr : Fr n G st a w) : Fr n G st a w' := ⟨fr.inv.reads hk, fun i => (fr.slots i).reads hk, fr.size⟩
end Ev
end Go.Proofs.Ytnkbhmafebngjaa
