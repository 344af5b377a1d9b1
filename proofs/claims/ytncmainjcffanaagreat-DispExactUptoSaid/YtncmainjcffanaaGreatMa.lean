/- Texts of this claim, in one. -/
import Derived.Test.YtncmainjcffanaaGreatSA
import Derived.WalkKit
import Derived.Deep.Heap
import Derived.Test.YtncmainjcffanaaGreatXs
import Derived.Test.YtncmainjcffanaaGreatRA
set_option maxRecDepth 100000
set_option linter.unusedSimpArgs false
set_option linter.unusedVariables false
namespace Go.Proofs.YtncmainjcffanaaGreat
namespace Ev
open Go
section
attribute [local simp] zac zag tk tn tks
theorem zK3 (l : List T) (hl : l.length * 40 ≤ 140737488351232) (h : ∀ x ∈ l, zoc Tryz.prog zc8 [.agg (cT x)] [.agg (cT x)]) : zoc Tryz.prog zlt [eTs l] [eTs l] := by
  refine zht true hm Tryz.func127 zvr rfl fun hs n => ?_
  simp -dsimp [zlw, eTs]
  by_cases hz : l = []
  · subst hz
    simp -dsimp
  simp -dsimp [hz]
  have r1 : (l.length : Int) * 40 ≤ (zah : Int) := by simp only [zah]; omega
  have r2 : l.length ≤ zah := by simp only [zah]; omega
  simp -dsimp [hz, r1, r2]
  refine zaj l.length (fun i st => st.s 0 = .d (.sl 3 (l.map eT)) ∧ st.s 3 = .rsl 10 1 ∧ st.s 12 = .d (.int .i64 l.length) ∧ st.s 13 = .d (.int .i64 i) ∧
    st.h 10 = ⟨1, .row 3 ((l.map eT).take i ++ List.replicate (l.length - i) (D.agg [.int .i64 0, .int .i64 0, .sl 3 []])) false⟩) ?_ ?_
  · simp -dsimp
  · rintro i ⟨s, hp⟩ hi ⟨g1, g2, g3, g4, g5⟩
    dsimp only at g1 g2 g3 g4 g5
    rcases Nat.lt_or_ge i l.length with hlt | hge
    · have w1 : IntKind.i64.wrap ((i : Int) + 1) = (i : Int) + 1 := zab (by omega) (by omega)
      simp -dsimp [g1, g2, g3, g4, g5, hlt, cT]
      refine zfc (h l[i] (List.getElem_mem _)) ?_
      have q1 : (i : Int) < ((min i l.length : Nat) : Int) + ((l.length - i : Nat) : Int) := by omega
      have q2 : i < min i l.length + (l.length - i) := by omega
      have hle : (l.map eT).length = l.length := List.length_map ..
      have hfn := zs3 (l := l.map eT) (z := D.agg [.int .i64 0, .int .i64 0, .sl 3 []]) (i := i) (by rw [hle]; exact hlt)
      have hel : (l.map eT)[i]'(by rw [hle]; exact hlt) = .agg (cT l[i]) := by rw [List.getElem_map, zbq]
      rw [hel, hle] at hfn
      simp only [cT] at hfn
      simp -dsimp [g1, g2, g3, g4, g5, hlt, w1, q1, q2, cT, hfn]
    · have e : i = l.length := by omega
      subst e
      have ht : (l.map eT).take l.length = l.map eT := List.take_of_length_le (by rw [List.length_map]; exact Nat.le_refl _)
      rw [ht, Nat.sub_self, List.replicate_zero, List.append_nil] at g5
      simp -dsimp [g1, g2, g3, g4, g5]
theorem zw0 (t : T) : okT t → zoc Tryz.prog zc8 [.agg (cT t)] [.agg (cT t)] := by
  refine T.ind (p := fun t => okT t → zoc Tryz.prog zc8 [.agg (cT t)] [.agg (cT t)]) ?_ t
  intro k n ks ih h
  obtain ⟨h1, h2⟩ := h.kids
  refine zht false hm Tryz.func62 zxh rfl fun hs n => ?_
  simp -dsimp [znv, cT]
  refine zfc (zK3 ks h1 fun x hx => ih x hx (h2 x hx)) ?_
  simp -dsimp [eTs]
end
section
structure Chg (St : Nat → Nat) (w w' : World) : Prop where
  os : w'.os = w.os
  tape : w'.tape = w.tape
  output : w'.output = w.output
  size : w.heap.size ≤ w'.heap.size
  block : ∀ b, b < w.heap.size → St b = 0 → w'.heap[b]? = w.heap[b]?
  free : ∀ b, zhq w b → zhq w' b
  cell : ∀ b i v, b < w.heap.size → w.cell? ⟨b, i, none⟩ = some v → ∃ v', w'.cell? ⟨b, i, none⟩ = some v' ∧ (v' = v ∨ ∃ k n n', v = .int k n ∧ v' = .int k n')
theorem Chg.refl (St : Nat → Nat) (w : World) : Chg St w w := ⟨rfl, rfl, rfl, Nat.le_refl _, fun _ _ _ => rfl, fun _ h => h, fun b i v _ h => ⟨v, h, .inl rfl⟩⟩
theorem Chg.trans {St : Nat → Nat} {w w' w'' : World} (h : Chg St w w') (k : Chg St w' w'') : Chg St w w'' :=
  ⟨k.os.trans h.os, k.tape.trans h.tape, k.output.trans h.output, Nat.le_trans h.size k.size, fun b hb h0 => (k.block b (Nat.lt_of_lt_of_le hb h.size) h0).trans (h.block b hb h0), fun b hb => k.free b (h.free b hb), fun b i v hb hv => by
    obtain ⟨v1, h1, h2⟩ := h.cell b i v hb hv
    obtain ⟨v2, k1, k2⟩ := k.cell b i v1 (Nat.lt_of_lt_of_le hb h.size) h1
    refine ⟨v2, k1, ?_⟩
    rcases h2 with rfl | ⟨q, n, n', rfl, rfl⟩
    · exact k2
    · rcases k2 with rfl | ⟨q', m, m', e, rfl⟩
      · exact .inr ⟨q, n, n', rfl, rfl⟩
      · cases e
        exact .inr ⟨q, n, m', rfl, rfl⟩⟩
theorem Chg.of_below {St : Nat → Nat} {w w' : World} (h : RowKit.Below w.heap.size w w') : Chg St w w' :=
  ⟨h.os, h.tape, h.output, h.size, fun b hb _ => h.block b hb, fun b hf => hf.eq (h.block b (by obtain ⟨_, _, hh⟩ := hf; exact (Array.getElem?_eq_some_iff.1 hh).1)), fun b i v hb hv => ⟨v, (World.cell?_of_block (w := w) (a := ⟨b, i, none⟩) (h.block b hb)).trans hv, .inl rfl⟩⟩
theorem zxn {α : Type} {Q : Nat → α → Prop} : ∀ n, (∀ i, i < n → ∃ x, Q i x) → ∃ l : List α, l.length = n ∧ ∀ i (h : i < l.length), Q i l[i]
  | 0, _ => ⟨[], rfl, fun i h => by simp at h⟩
  | n + 1, h => by
    obtain ⟨l, hl, hq⟩ := zxn n fun i hi => h i (by omega)
    obtain ⟨x, hx⟩ := h n (by omega)
    refine ⟨l ++ [x], by simp [hl], fun i hi => ?_⟩
    simp only [List.length_append, List.length_singleton] at hi
    rcases Nat.lt_or_ge i l.length with hlt | hge
    · rw [List.getElem_append_left hlt]; exact hq i hlt
    · have e : i = l.length := by omega
      subst e
      rw [List.getElem_append_right (Nat.le_refl _)]
      simp only [Nat.sub_self, List.getElem_cons_zero]
      rw [hl]; exact hx
def zLi (l : List T) : Prop := ∀ (St S0 : Nat → Nat) (w w' : World) (v : Value), (∀ b, 0 < St b → b < w.heap.size) → Rel St w v (.sl 3 (l.map eT)) → Chg S0 w w' → ∃ l' : List T, l'.map zai = l.map zai ∧ Rel St w' v (.sl 3 (l'.map eT))
theorem zGf (l : List T) (ih : ∀ x ∈ l, zLi x.kids) : zLi l := by
  intro St S0 w w' v hst hr hc
  generalize hm : l.map eT = ml at hr
  have hll : ml.length = l.length := by rw [← hm]; exact List.length_map ..
  cases hr with
  | sl A cap _ b off _ hcp hmx hs ha val hv h1 hr =>
    have hget : ∀ i, (hi : i < l.length) → ml[i]? = some (.agg (cT l[i])) := fun i hi => by rw [← hm, List.getElem?_map, List.getElem?_eq_getElem hi, Option.map_some, zbq]
    have hblk : 0 < l.length → b < w.heap.size := fun hp => hst b (by have := (ha (by omega)).2; omega)
    have hone : ∀ i, i < l.length → ∃ t' : T, zai t' = zai (l[i]?.getD (.mk 0 0 [])) ∧ ∀ j c, (cT t')[j]? = some c → ∃ u, w'.cell? ⟨b, off + i * 3 + j, none⟩ = some u ∧ u.oneCell' = true ∧ Rel St w' u c := by
      intro i hi
      have hx := hget i hi
      obtain ⟨x, hxe⟩ : ∃ x, l[i] = x := ⟨_, rfl⟩
      have hxm : x ∈ l := by rw [← hxe]; exact List.getElem_mem _
      rw [hxe] at hx
      rw [List.getElem?_eq_getElem hi, hxe, Option.getD_some]
      have ihx := ih x hxm
      obtain ⟨k, n, ks⟩ := x
      simp only [T.kids] at ihx
      have c0 := hv i _ hx 0 (.int .i64 k) rfl
      have c1 := hv i _ hx 1 (.int .i64 n) rfl
      have c2 := hv i _ hx 2 (.sl 3 (ks.map eT)) rfl
      have r0 := hr i _ hx 0 (.int .i64 k) rfl
      have r1 := hr i _ hx 1 (.int .i64 n) rfl
      have r2 := hr i _ hx 2 (.sl 3 (ks.map eT)) rfl
      have hb := hblk (by omega)
      generalize val i 0 = v0 at c0 r0
      generalize val i 1 = v1 at c1 r1
      generalize val i 2 = v2 at c2 r2
      cases r0
      cases r1
      obtain ⟨u0, d0, e0⟩ := hc.cell b _ _ hb c0
      obtain ⟨u1, d1, e1⟩ := hc.cell b _ _ hb c1
      obtain ⟨u2, d2, e2⟩ := hc.cell b _ _ hb c2
      obtain ⟨k', rfl⟩ : ∃ k', u0 = .int .i64 k' := by
        rcases e0 with rfl | ⟨_, _, n', h, rfl⟩
        · exact ⟨_, rfl⟩
        · cases h; exact ⟨n', rfl⟩
      obtain ⟨n', rfl⟩ : ∃ n', u1 = .int .i64 n' := by
        rcases e1 with rfl | ⟨_, _, n', h, rfl⟩
        · exact ⟨_, rfl⟩
        · cases h; exact ⟨n', rfl⟩
      have hu2 : u2 = v2 := by
        rcases e2 with rfl | ⟨_, _, _, h, _⟩
        · rfl
        · rw [h] at r2; cases r2
      subst hu2
      obtain ⟨ks', hk', rk⟩ := ihx St S0 w w' u2 hst r2 hc
      refine ⟨.mk k' n' ks', ?_, fun j c hj => ?_⟩
      · rw [zai, zai, hk']
      · match j, hj with
        | 0, hj => cases hj; exact ⟨_, d0, rfl, .int _ _⟩
        | 1, hj => cases hj; exact ⟨_, d1, rfl, .int _ _⟩
        | 2, hj => cases hj; exact ⟨_, d2, by cases rk; rfl, rk⟩
    obtain ⟨l', hl', hq⟩ := zxn l.length hone
    refine ⟨l', ?_, ?_⟩
    · refine List.ext_getElem (by simp [hl']) fun i h1 h2 => ?_
      simp only [List.length_map] at h1 h2
      have := (hq i h1).1
      rw [List.getElem?_eq_getElem (by omega), Option.getD_some] at this
      simpa using this
    · have hl2 : (l'.map eT).length = ml.length := by rw [List.length_map, hl', hll]
      have hgl : ∀ i, (hi : i < l'.length) → (l'.map eT)[i]? = some (.agg (cT l'[i])) := fun i hi => by rw [List.getElem?_map, List.getElem?_eq_getElem hi, Option.map_some, zbq]
      have hcell : ∀ i x, (l'.map eT)[i]? = some x → ∀ j c, x.cells[j]? = some c → ∃ u, w'.cell? ⟨b, off + i * 3 + j, none⟩ = some u ∧ u.oneCell' = true ∧ Rel St w' u c := by
        intro i x hx j c hj
        have hi : i < l'.length := by have := (List.getElem?_eq_some_iff.1 hx).1; simpa using this
        rw [hgl i hi] at hx
        cases hx
        exact (hq i hi).2 j c hj
      rw [← hl2]
      refine .sl A cap 3 b off _ (by omega) (by omega) (fun x hx => ?_) (fun hp => by rw [hl2] at hp ⊢; exact ha hp) (fun i j => (w'.cell? ⟨b, off + i * 3 + j, none⟩).getD undef) (fun i x hx j c hj => ?_) (fun i x hx j c hj => ?_) (fun i x hx j c hj => ?_)
      · obtain ⟨y, _, rfl⟩ := List.mem_map.1 hx
        rw [zp4]; rfl
      · obtain ⟨u, h1, _⟩ := hcell i x hx j c hj
        rw [h1]; rfl
      · obtain ⟨u, h1, h2, _⟩ := hcell i x hx j c hj
        rw [h1]; exact h2
      · obtain ⟨u, h1, _, h3⟩ := hcell i x hx j c hj
        rw [h1]; exact h3
theorem zGx (l : List T) : zLi l := zGf l fun x _ => by
  have key : ∀ t : T, zLi t.kids := fun t => by
    refine T.ind (p := fun t => zLi t.kids) ?_ t
    intro k n ks ih
    exact zGf ks ih
  exact key x
end
section
open Go.RowKit (Hid)
def zAt (t : T) : Prop := ∀ (St : Nat → Nat) (w : World) (v : Value), (∀ b, 0 < St b → b < w.heap.size ∧ zhq w b) → Rel St w v (.agg (cT t)) → Calls Tryz.prog zdl #[v] w fun e w' => e = .returned (.tuple #[]) ∧ Chg St w w'
theorem zSu {St : Nat → Nat} {w : World} {b off len cap q : Nat} {l : List T} (h : Rel St w (.slice (some ⟨b, off, none⟩) len cap) (.sl 3 (l.map eT))) (hl : l.length = len) (hq : q < len) :
    ∃ k1 n1 v1 t1, l[q]? = some t1 ∧ w.cell? ⟨b, off + q * 3, none⟩ = some (.int .i64 k1) ∧ w.cell? ⟨b, off + q * 3 + 1, none⟩ = some (.int .i64 n1) ∧ w.cell? ⟨b, off + q * 3 + 2, none⟩ = some v1 ∧ Rel St w (.agg #[.int .i64 k1, .int .i64 n1, v1]) (.agg (cT t1)) := by
  generalize hm : l.map eT = ml at h
  have hll : ml.length = l.length := by rw [← hm]; exact List.length_map ..
  cases h with
  | sl _ _ _ b' off' _ hc hm' hs ha val hv h1 hr =>
    obtain ⟨hA, _⟩ := ha (by omega)
    simp only [Option.some.injEq, Addr.mk.injEq, and_true] at hA
    obtain ⟨rfl, rfl⟩ := hA
    have hql : q < l.length := by rw [hl]; exact hq
    have hx : ml[q]? = some (.agg (cT (l[q]'hql))) := by rw [← hm, List.getElem?_map, List.getElem?_eq_getElem hql, Option.map_some, zbq]
    have c0 := hv q _ hx 0 _ rfl
    have c1 := hv q _ hx 1 _ rfl
    have c2 := hv q _ hx 2 _ rfl
    have r0 := hr q _ hx 0 _ rfl
    have r1 := hr q _ hx 1 _ rfl
    have r2 := hr q _ hx 2 _ rfl
    generalize val q 0 = u0 at c0 r0
    generalize val q 1 = u1 at c1 r1
    cases r0
    cases r1
    refine ⟨_, _, _, l[q]'hql, List.getElem?_eq_getElem hql, by simpa using c0, c1, c2, .agg _ _ rfl fun j c hj => ?_⟩
    match j, hj with
    | 0, hj => cases hj; exact .int _ _
    | 1, hj => cases hj; exact .int _ _
    | 2, hj => cases hj; exact r2
theorem Chg.set {St : Nat → Nat} {w : World} {b i : Nat} {k : IntKind} {n n' : Int} (h0 : 0 < St b) (hf : zhq w b) (hv : w.cell? ⟨b, i, none⟩ = some (.int k n)) : Chg St w (w.setCell ⟨b, i, none⟩ (.int k n')).drew := by
  have ho : ∀ c, c ≠ b → (w.setCell ⟨b, i, none⟩ (.int k n')).heap[c]? = w.heap[c]? := fun c hc => Go.Deep.blk_setCell_other _ _ _ _ hc
  refine ⟨rfl, rfl, rfl, Nat.le_of_eq (Go.Deep.nblk_setCell _ _ _).symm, fun c _ h => ho c (fun e => by subst e; omega), fun c hc => ?_, fun c j v _ hj => ?_⟩
  · rcases Nat.decEq c b with hne | rfl
    · exact hc.eq (ho c hne)
    · obtain ⟨arr, el, hh⟩ := hf
      refine ⟨arr.setIfInBounds i (.int k n'), el, ?_⟩
      show (w.heap.modify c _)[c]? = _
      rw [Array.getElem?_modify, if_pos rfl, hh]
      rfl
  · show ∃ v', (w.setCell ⟨b, i, none⟩ (.int k n')).cell? ⟨c, j, none⟩ = some v' ∧ _
    rcases Nat.decEq c b with hne | rfl
    · exact ⟨v, (World.cell?_of_block (w := w) (a := ⟨c, j, none⟩) (ho c hne)).trans hj, .inl rfl⟩
    · rcases Nat.decEq j i with hne | rfl
      · exact ⟨v, (World.cell?_setCell_other w _ _ _ (by simp only [ne_eq, Addr.mk.injEq, true_and, and_true]; omega)).trans hj, .inl rfl⟩
      · rw [hv] at hj; cases hj
        exact ⟨_, World.cell?_setCell_same w _ _ hv, .inr ⟨_, _, _, rfl, rfl⟩⟩
theorem zz1 : ∀ {l : List Nat} {x : Nat}, x ∈ l → x ≤ l.sum
  | a :: l, x, h => by
    rcases List.mem_cons.1 h with rfl | h
    · simp
    · have := zz1 h
      simp; omega
theorem zOb {k n : Int} {ks ks' : List T} {q : Nat} {t1 : T} (h : ks'[q]? = some t1) (hk : ks'.map zai = ks.map zai) : zai t1 < zai (.mk k n ks) := by
  rw [zai, ← hk]
  have := zz1 (List.mem_map_of_mem (f := zai) (List.mem_of_getElem? h))
  omega
theorem zKg (t : T) (ih : ∀ t', zai t' < zai t → zAt t') : zAt t := by
  intro St w v hst hr
  obtain ⟨k, n, ks⟩ := t
  obtain ⟨v2, rfl, r2⟩ : ∃ v2, v = .agg #[.int .i64 k, .int .i64 n, v2] ∧ Rel St w v2 (.sl 3 (ks.map eT)) := by
    cases hr with
    | agg vs _ hn hr =>
      refine ⟨vs.getD 2 undef, ?_, hr 2 _ rfl⟩
      have h0 := hr 0 _ rfl
      have h1 := hr 1 _ rfl
      have hs : vs = #[vs.getD 0 undef, vs.getD 1 undef, vs.getD 2 undef] := by
        have hn3 : vs.size = 3 := by simpa [cT] using hn
        apply Array.ext
        · simp [hn3]
        · intro i h1 h2
          have : i = 0 ∨ i = 1 ∨ i = 2 := by omega
          rcases this with rfl | rfl | rfl <;> simp [Array.getD, hn3]
      generalize vs.getD 0 undef = u0 at hs h0
      generalize vs.getD 1 undef = u1 at hs h1
      cases h0
      cases h1
      exact congrArg Value.agg hs
  obtain ⟨len, hlen⟩ : ∃ len, len = ks.length := ⟨_, rfl⟩
  obtain ⟨A, cap, rfl⟩ : ∃ A cap, v2 = .slice A len cap := by
    generalize hm : ks.map eT = ml at r2
    have hll : ml.length = ks.length := by rw [← hm]; exact List.length_map ..
    cases r2
    exact ⟨_, _, by rw [hll, hlen]⟩
  have hmx : len ≤ 9223372036854775807 := by
    generalize hm : ks.map eT = ml at r2
    have hll : ml.length = ks.length := by rw [← hm]; exact List.length_map ..
    cases r2 with
    | sl _ _ _ b off _ hc hm' => omega
  rcases Nat.eq_zero_or_pos len with h0 | hpos
  · subst h0
    clear hlen
    go_enter Tryz.func21, Tryz.ntmps21
    go_wp2
    refine wp_loop_rounds 1 ?_
    rw [rounds_succ]
    go_wp2
    go_end0
    exact ⟨rfl, .of_below ((RowKit.Below.refl _ _).alloc (Nat.le_refl _) _)⟩
  obtain ⟨b, off, rfl, hroom⟩ : ∃ b off, A = some ⟨b, off, none⟩ ∧ off + len * 3 ≤ St b := by
    generalize hm : ks.map eT = ml at r2
    have hll : ml.length = ks.length := by rw [← hm]; exact List.length_map ..
    cases r2 with
    | sl _ _ _ b off _ hc hm' hs ha =>
      obtain ⟨h1, h2⟩ := ha (by omega)
      exact ⟨b, off, h1, by rw [hlen, ← hll]; exact h2⟩
  have hks : Hid (len = ks.length) := hlen
  clear hlen
  go_enter Tryz.func21, Tryz.ntmps21
  go_wp2
  go_loopw [2] (fun iv wr => ∃ (q : Nat), q ≤ len ∧ iv = .int .i64 q ∧ Hid (Chg St w wr) ∧ wr.heap[w.heap.size]? = some (.cells #[.int .i64 k, .int .i64 n, .slice (some ⟨b, off, none⟩) len cap] 28 (0, 0))) (fun iv _ => len - (RowKit.intOf iv).toNat)
  case atStart => exact ⟨0, Nat.zero_le _, rfl, Chg.of_below ((RowKit.Below.refl _ _).alloc (Nat.le_refl _) _), heap_alloc_new w _⟩
  case round =>
    obtain ⟨q, hq, rfl, hc, hbox⟩ := hrel
    have g2 : wr.cell? ⟨w.heap.size, 2, none⟩ = some (.slice (some ⟨b, off, none⟩) len cap) := by simp [World.cell?, hbox]
    have hst0 : St w.heap.size = 0 := Nat.eq_zero_of_not_pos fun hp => by have := (hst _ hp).1; omega
    rcases Nat.lt_or_ge q len with hlt | hge
    · obtain ⟨ks', hk', rk⟩ := zGx ks St St w wr _ (fun b hb => (hst b hb).1) r2 hc.out
      have hkl : ks'.length = len := by
        have := congrArg List.length hk'
        simp only [List.length_map] at this
        rw [this, hks.out]
      obtain ⟨k1, n1, v1, t1, hn1, c0, c1, c2, rt⟩ := zSu rk hkl hlt
      have hbw : b < wr.heap.size := Nat.lt_of_lt_of_le (hst b (by omega)).1 hc.out.size
      have hnt : zai t1 < zai (T.mk k n ks) := zOb hn1 hk'
      have hcall := ih t1 hnt St wr _ (fun b hb => ⟨Nat.lt_of_lt_of_le (hst b hb).1 hc.out.size, hc.out.free b (hst b hb).2⟩) rt
      go_wp2_with (go_at_call 21; refine hcall.mono ?_; rintro e w1 ⟨rfl, hc1⟩)
      have hc2 := hc.out.trans hc1
      obtain ⟨n2, hn2⟩ : ∃ n2, w1.cell? ⟨b, off + q * 3 + 1, none⟩ = some (.int .i64 n2) := by
        obtain ⟨u, h1, h2⟩ := hc1.cell b _ _ hbw c1
        rcases h2 with rfl | ⟨_, _, n', he, rfl⟩
        · exact ⟨_, h1⟩
        · cases he; exact ⟨n', h1⟩
      have hbox1 : w1.heap[w.heap.size]? = some (.cells #[.int .i64 k, .int .i64 n, .slice (some ⟨b, off, none⟩) len cap] 28 (0, 0)) := (hc1.block _ (Array.getElem?_eq_some_iff.1 hbox).1 hst0).trans hbox
      have g3 : w1.cell? ⟨w.heap.size, 2, none⟩ = some (.slice (some ⟨b, off, none⟩) len cap) := by simp [World.cell?, hbox1]
      have hfz : w1.frozen? ⟨b, off + q * 3 + 1, none⟩ = false := by
        obtain ⟨arr, el, hh⟩ := hc2.free b (hst b (by omega)).2
        simp [World.frozen?, hh]
      clear c0 c1 c2 rt hcall hbox g2 rk hr r2
      have hcH : Hid (Chg St w w1) := hc2
      have hbH : Hid (w1.heap[w.heap.size]? = some (.cells #[.int .i64 k, .int .i64 n, .slice (some ⟨b, off, none⟩) len cap] 28 (0, 0))) := hbox1
      clear hc1 hc2 hbox1
      go_region
      all_goals (try go_wp2)
      have hneb : w.heap.size ≠ b := fun e => by rw [← e] at hroom; omega
      refine ⟨⟨q + 1, hlt, by simp, hcH.out.trans (Chg.set (by omega) (hcH.out.free b (hst b (by omega)).2) hn2), ?_⟩, by simp [RowKit.intOf]; omega⟩
      exact (Go.Deep.blk_setCell_other _ _ _ _ hneb).trans hbH.out
    · go_wp2
      go_end0
      exact ⟨rfl, hc.out⟩
theorem zMz (t : T) : zAt t := by
  have key : ∀ n, ∀ t, zai t < n → zAt t := fun n => by
    induction n with
    | zero => intro t h; omega
    | succ n ih => exact fun t h => zKg t fun t' h' => ih t' (by omega)
  exact key _ t (Nat.lt_succ_self _)
end
section
open Go.RowKit (Hid)
end
section
section
variable {P : Program}
theorem zOf {o : Oper} {f : Opd} {args : List Opd} (hcop : cop P o = some (.call f args)) :
    ∃ (c : Call) (f' : Operand) (al : List Operand) (ts : List TypeId), o.op = .call c ∧ c.callee = .value f' ∧ c.args.toList = al ∧ al.length = ts.length ∧ f = copd P 0 f' ∧ args = (al.zip ts).map fun p => copd P p.2 p.1 := by
  unfold cop at hcop
  split at hcop
  case h_21 c ho =>
    obtain ⟨cal, as_, ts⟩ := c
    simp only at hcop
    split at hcop
    · obtain ⟨e, he, hh⟩ := map_some hcop; cases hh
    · split at hcop
      · obtain ⟨e, he, hcop⟩ := bind_some hcop
        obtain ⟨sz, hn, hcop⟩ := bind_some hcop
        obtain ⟨b, hb, hcop⟩ := bind_some hcop
        split at hcop
        · cases hcop
        · cases hcop
      · cases hcop
    · cases hcop
    · cases hcop
    · rename_i f'
      split at hcop
      · rename_i hl
        cases hcop
        exact ⟨_, f', as_.toList, ts.toList, ho, rfl, rfl, hl, rfl, rfl⟩
      · cases hcop
    · cases hcop
  all_goals first
    | (cases hcop; done)
    | (obtain ⟨_, _, hcop⟩ := bind_some hcop; obtain ⟨_, _, hcop⟩ := bind_some hcop; obtain ⟨_, _, hcop⟩ := bind_some hcop; split at hcop <;> cases hcop; done)
    | (obtain ⟨_, _, hcop⟩ := bind_some hcop; obtain ⟨_, _, hcop⟩ := map_some hcop; cases hcop; done)
    | (obtain ⟨_, _, hcop⟩ := map_some hcop; cases hcop; done)
    | (split at hcop <;> first
        | (cases hcop; done)
        | (obtain ⟨_, _, hcop⟩ := map_some hcop; cases hcop; done)
        | (split at hcop <;> first
            | (cases hcop; done)
            | (obtain ⟨_, _, hcop⟩ := bind_some hcop; obtain ⟨_, _, hcop⟩ := map_some hcop; cases hcop; done)
            | (obtain ⟨_, _, hcop⟩ := bind_some hcop; obtain ⟨_, _, hcop⟩ := bind_some hcop; obtain ⟨_, _, hcop⟩ := bind_some hcop; obtain ⟨_, _, hcop⟩ := bind_some hcop; split at hcop <;> cases hcop; done))
        | (obtain ⟨_, _, hcop⟩ := bind_some hcop; obtain ⟨_, _, hcop⟩ := bind_some hcop; split at hcop <;> cases hcop; done)
        | (obtain ⟨_, _, hcop⟩ := bind_some hcop; obtain ⟨_, _, hcop⟩ := bind_some hcop; obtain ⟨_, _, hcop⟩ := map_some hcop; cases hcop; done))
theorem zOi {o : Oper} {n : Nat} {g : Bool} {j : Nat} (hcop : cop P o = some (.load n g (.t j))) : ∃ t, o.op = .load t (.tmp j) ∧ sz? P t = some n ∧ ag? P t = some g := by
  unfold cop at hcop
  split at hcop
  case h_6 t x ho =>
    obtain ⟨n', hn, hcop⟩ := bind_some hcop
    obtain ⟨g', hg, hcop⟩ := map_some hcop
    cases x <;> cases hcop
    exact ⟨t, ho, hn, hg⟩
  all_goals first
    | (cases hcop; done)
    | (obtain ⟨_, _, hcop⟩ := bind_some hcop; obtain ⟨_, _, hcop⟩ := bind_some hcop; obtain ⟨_, _, hcop⟩ := bind_some hcop; split at hcop <;> cases hcop; done)
    | (obtain ⟨_, _, hcop⟩ := bind_some hcop; obtain ⟨_, _, hcop⟩ := map_some hcop; cases hcop; done)
    | (obtain ⟨_, _, hcop⟩ := map_some hcop; cases hcop; done)
    | (split at hcop <;> first
        | (cases hcop; done)
        | (obtain ⟨_, _, hcop⟩ := map_some hcop; cases hcop; done)
        | (obtain ⟨_, _, hcop⟩ := bind_some hcop; obtain ⟨_, _, hcop⟩ := map_some hcop; cases hcop; done)
        | (split at hcop <;> first
            | (cases hcop; done)
            | (obtain ⟨_, _, hcop⟩ := map_some hcop; cases hcop; done)
            | (obtain ⟨_, _, hcop⟩ := bind_some hcop; obtain ⟨_, _, hcop⟩ := map_some hcop; cases hcop; done)
            | (obtain ⟨_, _, hcop⟩ := bind_some hcop; obtain ⟨_, _, hcop⟩ := bind_some hcop; obtain ⟨_, _, hcop⟩ := bind_some hcop; obtain ⟨_, _, hcop⟩ := bind_some hcop; split at hcop <;> cases hcop; done)
            | (obtain ⟨_, _, hcop⟩ := bind_some hcop; obtain ⟨_, _, hcop⟩ := bind_some hcop; obtain ⟨_, _, hcop⟩ := bind_some hcop; split at hcop <;> cases hcop; done)
            | (split at hcop <;> cases hcop; done))
        | (obtain ⟨_, _, hcop⟩ := bind_some hcop; obtain ⟨_, _, hcop⟩ := bind_some hcop; split at hcop <;> cases hcop; done)
        | (obtain ⟨_, _, hcop⟩ := bind_some hcop; obtain ⟨_, _, hcop⟩ := bind_some hcop; obtain ⟨_, _, hcop⟩ := map_some hcop; cases hcop; done))
theorem zL2 {o : Oper} {g e1 : Nat} (hcop : cop P o = some (.call (.c (.d (.clo g []))) [.t e1])) (hent : zn5 P g) (a : Act) (w : World) : (execOp a.eval o).run P w = .ok (.enter g #[a.tmps.getD e1 undef]) w := by
  obtain ⟨c, f', al, ts, ho, hcc, hal, hl, hf, hargs⟩ := zOf hcop
  have sl : @zdw i0 ⟨fun _ => 0, fun _ => ⟨none, 0⟩⟩ za2 w a (fun _ => AV.junk) := fun i => .junk _
  have hfr := @za6 i0 P _ _ _ _ _ sl 0 f'
  rw [← hf] at hfr
  obtain ⟨vs, hfe, hvs⟩ : ∃ vs : Array Value, a.eval f' = .func (.func g) #[] vs ∧ vs.size = 0 := by
    generalize a.eval f' = v at hfr
    have := hfr.d_inv
    cases this with
    | clo _ vs _ hn hr => exact ⟨vs, rfl, by simpa using hn⟩
  obtain ⟨x, t, rfl, rfl, hx⟩ : ∃ x t, al = [x] ∧ ts = [t] ∧ copd P t x = .t e1 := by
    match al, ts, hl, hargs with
    | [x], [t], _, h => exact ⟨x, t, rfl, rfl, by simpa using h.symm⟩
    | [], [], _, h => simp at h
    | _ :: _ :: _, _ :: _ :: _, _, h => simp at h
  have hxe : x = .tmp e1 := by
    cases x <;> simp [copd] at hx
    rw [hx]
  subst hxe
  have hargs' : c.args.map a.eval ++ vs = #[a.tmps.getD e1 undef] := by
    apply Array.ext'
    have : vs.toList = [] := by simpa using hvs
    simp [hal, this, Act.eval]
  simp only [execOp, ho, resolve, hcc, Deferred.ofValue, hfe, Sem.run_bind, Sem.run_pure, Result.andThen_ok, invoke, Array.empty_append]
  rw [hargs']
  exact zpj hent _
theorem zLf {o : Oper} {t : TypeId} {j : Nat} (ho : o.op = .load t (.tmp j)) {a : Act} {w : World} {ad : Addr} {v : Value} (hu : a.tmps.getD j undef = .pointer (some ad)) (hrun : (loadVar t ad).run P w = .ok v w) : (execOp a.eval o).run P w = .ok (.value v) w := by
  have hu' : a.eval (.tmp j) = .pointer (some ad) := hu
  simp [execOp, ho, Instr.loadAt, hu', Instr.sureAddr, Sem.run_bind, Sem.run_pure, hrun]
theorem zCz {a : Act} {d i : Nat} {v : Value} (h : i ≠ d) : (a.put (some d) v).tmps.getD i undef = a.tmps.getD i undef := by
  simp only [Act.put, Array.getD_eq_getD_getElem?, Array.getElem?_setIfInBounds]
  rw [if_neg (Ne.symm h)]
theorem zRm {ops : Array Oper} {n : Nat} {l : List Oper} {x y : XOper} (h : zks P ops n l = some [x, y]) : ∃ o1 o2, l = [o1, o2] ∧ zy7 P ops n o1 = some x ∧ zy7 P ops n o2 = some y := by
  obtain ⟨hlen, hget⟩ := zp3 h
  obtain ⟨o1, o2, rfl⟩ : ∃ o1 o2, l = [o1, o2] := by
    cases l with
    | nil => simp at hlen
    | cons o1 l => cases l with
      | nil => simp at hlen
      | cons o2 l => cases l with
        | nil => exact ⟨o1, o2, rfl⟩
        | cons => simp at hlen
  obtain ⟨x', hx, hx'⟩ := hget 0 o1 rfl
  obtain ⟨y', hy, hy'⟩ := hget 1 o2 rfl
  simp only [List.getElem?_cons_zero, List.getElem?_cons_succ, Option.some.injEq] at hx hy
  subst hx
  subst hy
  exact ⟨o1, o2, rfl, hx', hy'⟩
theorem zB8 {n : Nat} {c : Code} {xs : List XOper} (hc : zcu P n c = some (.region xs none)) : ∃ id ops, c = .region id ops false ∧ zks P ops n ops.toList = some xs := by
  unfold zcu at hc
  split at hc
  case h_2 id ops dr =>
    split at hc
    · rename_i ys hys
      cases dr with
      | true =>
        simp only [if_true] at hc
        obtain ⟨ds, _, hh⟩ := map_some hc
        cases hh
      | false =>
        simp only [Bool.false_eq_true, if_false, Option.some.injEq, XCode.region.injEq, and_true] at hc
        subst hc
        exact ⟨id, ops, rfl, hys⟩
    · cases hc
  all_goals first
    | (cases hc; done)
    | (split at hc <;> cases hc; done)
    | (obtain ⟨_, _, hc⟩ := map_some hc; cases hc; done)
theorem zB9 {n : Nat} {c : Code} {x y : XCode} (hc : zcu P n c = some (.seq x y)) : ∃ a b, c = .seq a b ∧ zcu P n a = some x ∧ zcu P n b = some y := by
  unfold zcu at hc
  split at hc
  case h_3 a b =>
    split at hc
    · rename_i xa xb ha hb
      simp only [Option.some.injEq, XCode.seq.injEq] at hc
      obtain ⟨rfl, rfl⟩ := hc
      exact ⟨a, b, rfl, ha, hb⟩
    · cases hc
  all_goals first
    | (cases hc; done)
    | (split at hc <;> cases hc; done)
    | (split at hc <;> first | (cases hc; done) | (split at hc <;> first | (cases hc; done) | (obtain ⟨_, _, hc⟩ := map_some hc; cases hc; done)))
    | (obtain ⟨_, _, hc⟩ := map_some hc; cases hc; done)
theorem reg2 {n : Nat} {c : Code} {e1 e2 f : Nat} {x1 : XOp} (hc : zcu P n c = some (.region [⟨some e1, x1, none⟩, ⟨some e2, .call (.c (.d (.clo f []))) [.t e1], none⟩] none)) (hent : zn5 P f) {a : Act} {w : World} (hsz : a.tmps.size = n) {R : World → Prop}
    (hv : ∀ o, cop P o = some x1 → ∃ v, (execOp a.eval o).run P w = .ok (.value v) w ∧ Calls P f #[v] w fun e w' => e = .returned (.tuple #[]) ∧ R w') :
    c.wp P (fun e a' w' => e = .normal ∧ a'.defers = a.defers ∧ a'.tmps.size = n ∧ (∀ i, i ≠ e1 → i ≠ e2 → a'.tmps.getD i undef = a.tmps.getD i undef) ∧ R w') a w := by
  obtain ⟨id, ops, rfl, hxs⟩ := zB8 hc
  have sl : ∀ (a : Act) (w : World), @zdw i0 ⟨fun _ => 0, fun _ => ⟨none, 0⟩⟩ za2 w a (fun _ => AV.junk) := fun a w i => .junk _
  refine wp_region ?_
  rw [List.range_eq_range', ← Array.length_toList]
  generalize hl : ops.toList = l at hxs
  obtain ⟨o1, o2, rfl, h1, h2⟩ := zRm hxs
  have g0 : ops[0]? = some o1 := by rw [← Array.getElem?_toList, hl]; rfl
  have g1 : ops[1]? = some o2 := by rw [← Array.getElem?_toList, hl]; rfl
  obtain ⟨p1, p2, p3, _⟩ := zdv h1
  obtain ⟨q1, q2, q3, _⟩ := zdv h2
  simp only at p1 p2 q1 q2
  simp only [List.length_cons, List.length_nil, List.range'_succ, List.range'_zero, wpOps, g0, g1, Nat.zero_add]
  rw [@zpx i0 P _ _ _ _ _ _ _ _ _ h1 (sl a w) true rfl]
  simp only [if_true]
  refine .inl ?_
  unfold Oper.wp
  obtain ⟨v, hv, hcalls⟩ := hv o1 p2
  rw [hv, Oper.upon_value]
  rw [@zpx i0 P _ _ _ _ _ _ _ _ _ h2 (sl _ w) true rfl]
  simp only [if_true]
  refine .inl ?_
  have he : e1 < a.tmps.size := by
    rw [← p1] at p3
    simpa [hsz] using p3
  have hev : (a.put o1.dst v).tmps.getD e1 undef = v := by
    rw [← p1, zFr he, if_pos rfl]
  rw [zL2 q2 hent, hev, Oper.upon_enter]
  refine hcalls.mono ?_
  rintro e w' ⟨rfl, hR⟩
  refine ⟨trivial, ?_, ?_, fun i h1 h2 => ?_, hR⟩
  · rw [za5, za5]
  · rw [zbx, zbx]; exact hsz
  · rw [← q1, zCz h2, ← p1, zCz h1]
end
end
section
def oldA : AV → AV
  | .d (.sl sz xs) => .n false (.sl sz xs)
  | .d x => if x.flat = true then .d x else .junk
  | .ptr k v o => .ptr k v o
  | .rsl k v => .rsl k v
  | .skip => .skip
  | _ => .junk
def oldE (e : Ent) : Ent := ⟨e.ver, match e.body with | .box cs fz => .box (cs.map oldA) fz | b => b⟩
def oldS (st : S) : S := ⟨fun i => oldA (st.s i), fun k => oldE (st.h k)⟩
def zG5 : AV → AV
  | .n false x => .d x
  | .d x => if x.flat = true then .d x else .junk
  | .ptr k v o => .ptr k v o
  | .skip => .skip
  | _ => .junk
def aftE (e : Ent) : Ent := ⟨e.ver, match e.body with | .box cs false => .box (cs.map zG5) false | _ => .dead⟩
def aftS (lim : Nat) (st : S) : S := ⟨fun i => if i < lim then zG5 (st.s i) else .junk, fun k => aftE (st.h k)⟩
theorem zyw {m : Nat} {St : Nat → Nat} (h : ∀ b, 0 < St b → b < m) : cutS false m St = St := by
  funext b
  unfold cutS
  by_cases hb : m ≤ b
  · simp only [hb, decide_true, Bool.true_eq_false, if_false]
    rcases Nat.eq_zero_or_pos (St b) with h0 | h0
    · exact h0.symm
    · have := h b h0; omega
  · simp [hb]
theorem zJo {G : GS} {h : Nat → Ent} {w : World} {v : Value} {av : AV} {m : Nat} (hst : ∀ b, 0 < G.St b → b < m) (r : @ARel i0 G h w v av) : @ARel (i1 m) G (fun k => oldE (h k)) w v (oldA av) := by
  cases av with
  | d x =>
    have hr := @ARel.d_inv i0 _ _ _ _ _ r
    cases x with
    | sl sz xs =>
      refine @ARel.n (i1 m) G _ w v false _ (by cases hr; rfl) ?_
      show Rel (cutS false m G.St) w v _
      rw [zyw hst]
      exact hr
    | _ =>
      simp only [oldA]
      split
      · exact @ARel.d (i1 m) _ _ _ _ _ hr
      · exact @ARel.junk (i1 m) _ _ _ _
  | ptr k ver off =>
    cases r with
    | ptr _ _ _ _ h1 hle hv =>
      refine @ARel.ptr (i1 m) _ _ _ _ _ _ _ h1 hle fun hq cs fz hb => ?_
      simp only [oldE] at hb hq
      cases hbk : (h k).body with
      | box cs0 f0 => exact hv hq cs0 f0 hbk
      | _ => rw [hbk] at hb; cases hb
  | rsl k ver =>
    cases r with
    | rsl _ _ _ h1 hle hv =>
      refine @ARel.rsl (i1 m) _ _ _ _ _ _ h1 hle fun hq sz xs fz hb => ?_
      simp only [oldE] at hb hq
      cases hbk : (h k).body with
      | row => rw [hbk] at hb; exact hv hq sz xs fz (by rw [hbk]; exact hb)
      | _ => rw [hbk] at hb; cases hb
  | skip => cases r; exact @ARel.skip (i1 m) _ _ _
  | _ => exact @ARel.junk (i1 m) _ _ _ _
theorem zxb {G : GS} {k b : Nat} {e : Ent} : Owns G k b (oldE e).body ↔ Owns G k b e.body := by
  unfold oldE
  cases hb : e.body <;> simp [Owns]
theorem zSz {n : Nat} {G : GS} {st : S} {a : Act} {w : World} (fr : @Fr i0 n G st a w) : @Fr (i1 w.heap.size) n G (oldS st) a w := by
  have hst := (@Fr.inv i0 _ _ _ _ _ fr).st
  refine @Fr.mk (i1 w.heap.size) _ _ _ _ _ ?_ (fun i => zJo hst (@Fr.slots i0 _ _ _ _ _ fr i)) (@Fr.size i0 _ _ _ _ _ fr)
  have i := @Fr.inv i0 _ _ _ _ _ fr
  refine @Inv.mk (i1 w.heap.size) _ _ _ hst (fun k => ?_) (fun k k' b h1 h2 => @Inv.apart i0 _ _ _ i k k' b (zxb.1 h1) (zxb.1 h2)) (Nat.le_refl _)
  have he := @Inv.ent i0 _ _ _ i k
  show @zof (i1 w.heap.size) G (fun k => oldE (st.h k)) w k (oldE (st.h k)).body
  unfold oldE
  cases hb : (st.h k).body with
  | dead => exact trivial
  | box cs fz =>
    rw [hb] at he
    obtain ⟨b, arr, el, h1, h2, h3, h4, h5⟩ := he
    refine ⟨b, arr, el, h1, h2, by rw [List.length_map]; exact h3, fun j c hj => ?_, h5⟩
    rw [List.getElem?_map] at hj
    obtain ⟨c0, hc0, rfl⟩ := Option.map_eq_some_iff.1 hj
    exact ⟨zJo hst (h4 j c0 hc0).1, (h4 j c0 hc0).2⟩
  | row sz xs fz =>
    rw [hb] at he
    cases fz with
    | true => exact he
    | false => exact he
theorem zGs {G : GS} {h : Nat → Ent} {w w' : World} {v : Value} {av : AV} {m : Nat} (hst : ∀ b, 0 < G.St b → b < w.heap.size) (hc : Chg (cutS true m G.St) w w') (r : @ARel (i1 m) G h w v av) : @ARel i0 ⟨cutS false m G.St, G.hd⟩ (fun k => aftE (h k)) w' v (zG5 av) := by
  cases av with
  | d x =>
    have hr := @ARel.d_inv (i1 m) _ _ _ _ _ r
    simp only [zG5]
    split
    · rename_i hf
      exact @ARel.d i0 _ _ _ _ _ (hr.flat hf)
    · exact @ARel.junk i0 _ _ _ _
  | n q x =>
    cases r with
    | n _ _ _ h1 hr =>
      cases q with
      | true => exact @ARel.junk i0 _ _ _ _
      | false =>
        refine @ARel.d i0 _ _ _ _ _ (hr.keeps ⟨fun _ => Nat.le_refl _, fun b i hi => ?_, fun b hb hf => hc.free b hf⟩)
        have hlt : i < cutS false m G.St b := hi
        have hb : b < w.heap.size := hst b (by have := zjj false m G.St b; omega)
        refine World.cell?_of_block (w := w) (a := ⟨b, i, none⟩) (hc.block b hb ?_)
        unfold cutS at hlt ⊢
        by_cases hm : m ≤ b
        · simp [hm] at hlt
        · simp [hm]
  | ptr k ver off =>
    cases r with
    | ptr _ _ _ _ h1 hle hv =>
      refine @ARel.ptr i0 _ _ _ _ _ _ _ h1 hle fun hq cs fz hb => ?_
      simp only [aftE] at hb hq
      split at hb
      · rename_i cs0 hbk
        exact hv hq cs0 false hbk
      · cases hb
  | skip => cases r; exact @ARel.skip i0 _ _ _
  | _ => exact @ARel.junk i0 _ _ _ _
theorem zw7 {G G' : GS} {k b : Nat} {e : Ent} (hG : G'.hd = G.hd) (h : Owns G' k b (aftE e).body) : Owns G k b e.body := by
  unfold aftE at h
  cases hb : e.body with
  | dead => rw [hb] at h; exact h
  | row => rw [hb] at h; exact h.elim
  | box cs fz =>
    rw [hb] at h
    cases fz with
    | true => exact h.elim
    | false => simp only [Owns] at h ⊢; rw [← hG]; exact h
theorem zTx {n m lim : Nat} {G : GS} {st : S} {a a' : Act} {w w' : World} (fr : @Fr (i1 m) n G st a w) (hc : Chg (cutS true m G.St) w w') (hsz : a'.tmps.size = n) (hs : ∀ i, i < lim → a'.tmps.getD i undef = a.tmps.getD i undef) : @Fr i0 n ⟨cutS false m G.St, G.hd⟩ (aftS lim st) a' w' := by
  have i := @Fr.inv (i1 m) _ _ _ _ _ fr
  have hst := @Inv.st (i1 m) _ _ _ i
  refine @Fr.mk i0 _ _ _ _ _ ?_ (fun j => ?_) hsz
  · refine @Inv.mk i0 _ _ _ (fun b hb => Nat.lt_of_lt_of_le (hst b (Nat.lt_of_lt_of_le hb (zjj false m G.St b))) hc.size) (fun k => ?_) (fun k k' b h1 h2 => @Inv.apart (i1 m) _ _ _ i k k' b (zw7 rfl h1) (zw7 rfl h2)) (Nat.zero_le _)
    have he := @Inv.ent (i1 m) _ _ _ i k
    show @zof i0 ⟨cutS false m G.St, G.hd⟩ (fun k => aftE (st.h k)) w' k (aftE (st.h k)).body
    unfold aftE
    cases hb : (st.h k).body with
    | dead => exact trivial
    | row => exact trivial
    | box cs fz =>
      cases fz with
      | true => exact trivial
      | false =>
        rw [hb] at he
        obtain ⟨b, arr, el, h1, h2, h3, h4, h5⟩ := he
        have h50 : G.St b = 0 := h5
        have hbw := (Array.getElem?_eq_some_iff.1 h2).1
        have hz : ∀ q, cutS q m G.St b = 0 := fun q => Nat.eq_zero_of_not_pos fun hp => by have := zjj q m G.St b; omega
        refine ⟨b, arr, el, h1, (hc.block b hbw (hz true)).trans h2, by rw [List.length_map]; exact h3, fun j c hj => ?_, hz false⟩
        rw [List.getElem?_map] at hj
        obtain ⟨c0, hc0, rfl⟩ := Option.map_eq_some_iff.1 hj
        exact ⟨zGs hst hc (h4 j c0 hc0).1, (h4 j c0 hc0).2⟩
  · show @ARel i0 _ _ _ _ (if j < lim then zG5 (st.s j) else .junk)
    split
    · rename_i hj
      rw [hs j hj]
      exact zGs hst hc (@Fr.slots (i1 m) _ _ _ _ _ fr j)
    · exact @ARel.junk i0 _ _ _ _
end
section
structure Jn [Nw] (w0 : World) (G : GS) (h : Nat → Ent) (w : World) : Prop where
  below : RowKit.Below w0.heap.size w0 w
  own : ∀ k b, Owns G k b (h k).body → w0.heap.size ≤ b
  low : Nw.on = true → w0.heap.size ≤ Nw.n ∧ ∀ b, Nw.n ≤ b → 0 < G.St b → zhq w b
theorem Jn.step [Nw] {w0 : World} {G G' : GS} {h h' : Nat → Ent} {w w' : World} (j : Jn w0 G h w) (s : Step G h w G' h' w') : Jn w0 G' h' w' := by
  refine ⟨⟨s.left.os.trans j.below.os, s.left.tape.trans j.below.tape, s.left.output.trans j.below.output, Nat.le_trans j.below.size s.left.size, fun b hb => ?_⟩, fun k b hk => ?_, fun hon => ⟨(j.low hon).1, fun b hb h0 => ?_⟩⟩
  · exact (s.left.block b (Nat.lt_of_lt_of_le hb j.below.size) (fun k hk => by have := j.own k b hk; omega)).1.trans (j.below.block b hb)
  · rcases s.grow k b hk with ⟨k', hk'⟩ | hle
    · exact j.own k' b hk'
    · exact Nat.le_trans j.below.size hle
  · rcases Nat.eq_zero_or_pos (G.St b) with hz | hp
    · exact s.fresh b hz h0
    · exact s.ext.keeps.free b hp ((j.low hon).2 b hb hp)
def FinB (P : Program) (fn : Func) (w0 : World) : Exit → Act → World → Prop := fun e a' w' => (e = .normal ∨ e = .ret) ∧ a'.defers = [] ∧ (results fn a'.tmps).run P w' = .ok (.bool true) w' ∧ RowKit.Below w0.heap.size w0 w'
def Snd [Nw] (P : Program) (fn : Func) (res : List XRes) (w0 : World) (x : XCode) (st : S) : Prop := cres P fn.results.toList = some res → P.follows .mixedOrders = true → ∀ (c : Code) (G : GS) (a : Act) (w : World), zcu P fn.ntmps c = some x → Fr fn.ntmps G st a w → Jn w0 G st.h w → a.defers = [] → c.wp P (FinB P fn w0) a w
def Spd [Nw] (lim : Nat) (P : Program) (fn : Func) (res : List XRes) (w0 : World) (x : XCode) (st : S) : Prop := cres P fn.results.toList = some res → P.follows .mixedOrders = true → ∀ (c : Code) (G : GS) (a a' : Act) (w w' : World), zcu P fn.ntmps c = some x → Fr fn.ntmps G st a w → Jn w0 G st.h w → Chg (cutS true Nw.n G.St) w w' → a'.tmps.size = fn.ntmps → (∀ i, i < lim → a'.tmps.getD i undef = a.tmps.getD i undef) → a'.defers = [] → c.wp P (FinB P fn w0) a' w'
section
variable {P : Program} {fn : Func} {res : List XRes} {w0 : World}
theorem zIp [Nw] (hres : cres P fn.results.toList = some res) {G : GS} {st : S} {a : Act} {w : World} (fr : Fr fn.ntmps G st a w) (j : Jn w0 G st.h w) (hd : a.defers = []) {e : Ex} (h : Ends res [.bool true] e st) : FinB P fn w0 e.real a w := by
  obtain ⟨he, vs, hrv, hds⟩ := h
  obtain ⟨us, h1, h2, h3⟩ := zgc (P := P) fr.inv fr.slots _ _ _ hres hrv
  have hrel := zge fr.inv h2 h3 hds
  have hus : us = [.bool true] := by
    obtain ⟨hl, hr⟩ := hrel
    have h0 := hr 0 (.bool true) rfl
    match us, hl, h0 with
    | [u], _, h0 =>
      simp only [List.getD_cons_zero] at h0
      cases h0
      rfl
  subst hus
  refine ⟨by rcases he with rfl | rfl; exact .inl rfl; exact .inr rfl, hd, zg5 h1, j.below⟩
theorem Snd.last {nwI : Nw} {x : XCode} {st : S} (h : wpX P x (Ends res [.bool true]) st) : Snd P fn res w0 x st := fun hres hm c G a w hc fr j hd => by
  refine wp_mono (zka hm c x hc _ _ _ _ _ h fr) ?_
  rintro e a' w' ⟨ex, G', st', rfl, fr', hs, hd', hend⟩
  exact zIp hres fr' (j.step hs) (hd'.trans hd) hend
theorem Snd.seq {nwI : Nw} {x y : XCode} {st : S} (h : wpX P x (Ex.then (Snd P fn res w0 y) (Ends res [.bool true])) st) : Snd P fn res w0 (.seq x y) st := fun hres hm c G a w hc fr j hd => by
  obtain ⟨c1, c2, rfl, hc1, hc2⟩ := zB9 hc
  refine wp_seq (wp_mono (zka hm c1 x hc1 _ _ _ _ _ h fr) ?_)
  rintro e a' w' ⟨ex, G', st', rfl, fr', hs, hd', hend⟩
  cases ex with
  | normal => exact hend hres hm c2 G' a' w' hc2 fr' (j.step hs) (hd'.trans hd)
  | exit id => exact zIp hres fr' (j.step hs) (hd'.trans hd) hend
  | ret => exact zIp hres fr' (j.step hs) (hd'.trans hd) hend
theorem Snd.cut {x : XCode} {st : S} (h : ∀ m, @Snd (i1 m) P fn res w0 x (oldS st)) : @Snd i0 P fn res w0 x st := fun hres hm c G a w hc fr j hd => by
  refine h w.heap.size hres hm c G a w hc (zSz fr) ?_ hd
  refine @Jn.mk (i1 w.heap.size) _ _ _ _ (@Jn.below i0 _ _ _ _ j) (fun k b hk => @Jn.own i0 _ _ _ _ j k b (zxb.1 hk)) fun _ => ⟨(@Jn.below i0 _ _ _ _ j).size, fun b hb h0 => ?_⟩
  have := (@Fr.inv i0 _ _ _ _ _ fr).st b h0
  exact absurd hb (Nat.not_le.2 this)
theorem Spd.enter {nwI : Nw} (lim : Nat) {x : XCode} {st : S} (h : Spd lim P fn res w0 x st) : Snd P fn res w0 x st := fun hres hm c G a w hc fr j hd => h hres hm c G a a w w hc fr j (.refl _ _) fr.size (fun _ _ => rfl) hd
theorem Spd.leave {lim m : Nat} {x : XCode} {st : S} (h : @Snd i0 P fn res w0 x (aftS lim st)) : @Spd (i1 m) lim P fn res w0 x st := fun hres hm c G a a' w w' hc fr j hch hsz hs hd => by
  refine h hres hm c _ a' w' hc (zTx fr hch hsz hs) ?_ hd
  have jb := @Jn.below (i1 m) _ _ _ _ j
  have jl := (@Jn.low (i1 m) _ _ _ _ j rfl).1
  refine @Jn.mk i0 _ _ _ _ ⟨hch.os.trans jb.os, hch.tape.trans jb.tape, hch.output.trans jb.output, Nat.le_trans jb.size hch.size, fun b hb => ?_⟩ (fun k b hk => @Jn.own (i1 m) _ _ _ _ j k b (zw7 rfl hk)) fun h => by cases h
  refine (hch.block b (Nat.lt_of_lt_of_le hb jb.size) ?_).trans (jb.block b hb)
  show cutS true m G.St b = 0
  have hm : ¬ m ≤ b := fun hle => by have : w0.heap.size ≤ m := jl; omega
  simp [cutS, hm]
theorem zT3 {f : FuncId} {x : XFn} (hm : P.follows .mixedOrders = true) (hf : P.funcs[f]? = some fn) (hx : cfn P fn = some x) {ds : List D} (hl : ds.length = x.np) (hw : ∀ w0, @Snd i0 P fn x.res w0 x.code ⟨zkl ds, za2⟩) : Pure P f ds [.bool true] := by
  unfold cfn at hx
  split at hx
  · rename_i c hb
    split at hx
    · cases hx
    · rename_i hname
      split at hx
      · rename_i xc r hcc hres
        split at hx
        · rename_i hnp
          cases hx
          simp only at hl hw
          refine ⟨⟨fn, hf, hname, by rw [hb]; rfl⟩, fun St w vs hst hrel => ?_⟩
          refine calls_of_wp hf hb ?_
          have hvl : vs.length = ds.length := hrel.1
          have fr : @Fr i0 fn.ntmps ⟨St, fun _ => ⟨none, 0⟩⟩ ⟨zkl ds, za2⟩ { tmps := vs.toArray ++ Array.replicate (fn.ntmps - vs.toArray.size) undef, defers := [] } w := by
            refine ⟨⟨hst, fun k => trivial, fun k k' b h => h.elim, Nat.zero_le _⟩, fun i => ?_, by simp; omega⟩
            simp only [zkl]
            cases hd : ds[i]? with
            | none =>
              have hge : ds.length ≤ i := List.getElem?_eq_none_iff.1 hd
              have : (vs.toArray ++ Array.replicate (fn.ntmps - vs.toArray.size) undef).getD i undef = undef := by
                rw [Array.getD_eq_getD_getElem?, Array.getElem?_append_right (by simp; omega), Array.getElem?_replicate]
                split <;> rfl
              rw [this]
              exact .skip
            | some d =>
              have hlt := (List.getElem?_eq_some_iff.1 hd).1
              have : (vs.toArray ++ Array.replicate (fn.ntmps - vs.toArray.size) undef).getD i undef = vs.getD i undef := by
                rw [Array.getD_eq_getD_getElem?, Array.getElem?_append_left (by simp; omega)]
                simp
              rw [this]
              exact .d _ _ (hrel.2 i d hd)
          refine wp_mono (hw w hres hm c _ _ _ hcc fr ⟨RowKit.Below.refl _ _, fun k b h => h.elim, fun h => by cases h⟩ rfl) ?_
          rintro e a' w' ⟨he, hd, hpost, hbel⟩
          have hR : ∃ St' us', Ending.returned (.bool true) = .returned (zbe us') ∧ RelL St' w' us' [.bool true] ∧ RowKit.Below w.heap.size w w' ∧ (∀ b, b < w.heap.size → St' b = St b) ∧ (∀ b, 0 < St' b → b < w'.heap.size) ∧ (∀ b, w.heap.size ≤ b → 0 < St' b → zhq w' b) :=
            ⟨St, [.bool true], rfl, ⟨rfl, fun j d hj => by
              cases j with
              | zero => cases hj; exact .bool true
              | succ j => cases hj⟩, hbel, fun _ _ => rfl, fun b hb => Nat.lt_of_lt_of_le (hst b hb) hbel.size, fun b hb h0 => by have := hst b h0; omega⟩
          rcases he with rfl | rfl
          · exact ⟨hd, _, hpost, hR⟩
          · exact ⟨hd, _, hpost, hR⟩
        · cases hx
      · cases hx
  · cases hx
end
end
section
section
variable {fn : Func} {res : List XRes} {w0 : World}
theorem zDe : zn5 Tryz.prog zdl := ⟨_, Tryz.func21, by decide, rfl⟩
theorem zF7 {m : Nat} {G : GS} {h : Nat → Ent} {w w' : World} (i : @Inv (i1 m) G h w) (j : @Jn (i1 m) w0 G h w) (hc : Chg (cutS true m G.St) w w') : ∀ b, 0 < cutS true m G.St b → b < w'.heap.size ∧ zhq w' b := fun b hb => by
  have hg : 0 < G.St b := Nat.lt_of_lt_of_le hb (zjj true m G.St b)
  have hm : m ≤ b := by
    unfold cutS at hb
    by_cases hm : m ≤ b
    · exact hm
    · simp [hm] at hb
  exact ⟨Nat.lt_of_lt_of_le (@Inv.st (i1 m) _ _ _ i b hg) hc.size, hc.free b ((@Jn.low (i1 m) _ _ _ _ j rfl).2 b hm hg)⟩
theorem Spd.term {m lim e1 e2 j k v : Nat} {y : XCode} {st : S} {p q : Int} {ks : List T} (hj : j < lim) (h1 : lim ≤ e1) (h2 : lim ≤ e2) (hs : st.s j = .ptr k v 0) (hk : st.h k = ⟨v, .box [.d (.int .i64 p), .d (.int .i64 q), .n true (.sl 3 (ks.map eT))] false⟩) (h : @Spd (i1 m) lim Tryz.prog fn res w0 y st) :
    @Spd (i1 m) lim Tryz.prog fn res w0 (.seq (.region [⟨some e1, .load 3 true (.t j), none⟩, ⟨some e2, .call (.c (.d (.clo zdl []))) [.t e1], none⟩] none) y) st := fun hres hm c G a a' w w' hc fr jn hch hsz hsa hd => by
  obtain ⟨c1, c2, rfl, hc1, hc2⟩ := zB9 hc
  have i := @Fr.inv (i1 m) _ _ _ _ _ fr
  have hr := @Fr.slots (i1 m) _ _ _ _ _ fr j
  rw [hs] at hr
  have he := @Inv.ent (i1 m) _ _ _ i k
  rw [hk] at he
  obtain ⟨b, arr, el, hA, hh, hasz, hcells, hst0⟩ := he
  have hst0 : G.St b = 0 := hst0
  have hch : Chg (cutS true m G.St) w w' := hch
  have hp : a.tmps.getD j undef = .pointer (some ⟨b, 0, none⟩) := by
    generalize a.tmps.getD j undef = u at hr
    cases hr with
    | ptr _ _ _ _ _ _ hv =>
      obtain ⟨b', hA', hv'⟩ := hv (by rw [hk]) _ _ (by rw [hk])
      rw [hA] at hA'
      cases hA'
      exact hv'
  have hbw := (Array.getElem?_eq_some_iff.1 hh).1
  have hh' : w'.heap[b]? = some (.cells arr el (0, 0)) := (hch.block b hbw (Nat.eq_zero_of_not_pos fun hp => by have := zjj true m G.St b; omega)).trans hh
  have hc2' := (hcells 2 _ rfl).1
  have hr2 : Rel (cutS true m G.St) w (arr.getD 2 undef) (.sl 3 (ks.map eT)) := by
    generalize arr.getD 2 undef = u at hc2'
    cases hc2' with
    | n _ _ _ _ hr => exact hr
  obtain ⟨ks', _, hr'⟩ := zGx ks _ _ w w' _ (fun b hb => @Inv.st (i1 m) _ _ _ i b (Nat.lt_of_lt_of_le hb (zjj true m G.St b))) hr2 hch
  have i' : @Inv i0 ⟨cutS true m G.St, fun _ => ⟨some ⟨b, 0, none⟩, 0⟩⟩ (fun q' => if q' = k then ⟨v, .box [.d (.int .i64 p), .d (.int .i64 q), .d (.sl 3 (ks'.map eT))] false⟩ else ⟨0, .dead⟩) w' := by
    refine @Inv.mk i0 _ _ _ (fun b hb => (zF7 i jn hch b hb).1) (fun q' => ?_) (fun k1 k2 b' g1 g2 => ?_) (Nat.zero_le _)
    · by_cases hq : q' = k
      · simp only [hq, if_true]
        refine ⟨b, arr, el, rfl, hh', hasz, fun j' c' hj' => ?_, Nat.eq_zero_of_not_pos fun hp => by have := zjj true m G.St b; have : 0 < cutS true m G.St b := hp; omega⟩
        have hone : ∀ z, z < 3 → (arr.getD z undef).oneCell' = true := fun z hz => by
          match z, hz with
          | 0, _ => exact (hcells 0 _ rfl).2
          | 1, _ => exact (hcells 1 _ rfl).2
          | 2, _ => exact (hcells 2 _ rfl).2
        match j', hj' with
        | 0, hj' =>
          cases hj'
          exact ⟨@ARel.d i0 _ _ _ _ _ ((@ARel.d_inv (i1 m) _ _ _ _ _ (hcells 0 _ rfl).1).flat rfl), hone 0 (by omega)⟩
        | 1, hj' =>
          cases hj'
          exact ⟨@ARel.d i0 _ _ _ _ _ ((@ARel.d_inv (i1 m) _ _ _ _ _ (hcells 1 _ rfl).1).flat rfl), hone 1 (by omega)⟩
        | 2, hj' =>
          cases hj'
          exact ⟨@ARel.d i0 _ _ _ _ _ hr', hone 2 (by omega)⟩
      · simp only [hq, if_false]
        exact trivial
    · by_cases q1 : k1 = k
      · by_cases q2 : k2 = k
        · rw [q1, q2]
        · simp only [q2, if_false] at g2
          exact g2.elim
      · simp only [q1, if_false] at g1
        exact g1.elim
  have hptr : @ARel i0 ⟨cutS true m G.St, fun _ => ⟨some ⟨b, 0, none⟩, 0⟩⟩ (fun q' => if q' = k then ⟨v, .box [.d (.int .i64 p), .d (.int .i64 q), .d (.sl 3 (ks'.map eT))] false⟩ else ⟨0, .dead⟩) w' (a'.tmps.getD j undef) (.ptr k v 0) := by
    refine @ARel.ptr i0 _ _ _ _ _ _ _ (by rw [hsa j hj, hp]; rfl) (by simp) fun _ cs fz _ => ⟨b, rfl, by rw [hsa j hj, hp]⟩
  have hld : ∀ t, sz? Tryz.prog t = some 3 → ag? Tryz.prog t = some true → ∃ ad u, a'.tmps.getD j undef = .pointer (some ad) ∧ (loadVar t ad).run Tryz.prog w' = .ok u w' ∧ Rel (cutS true m G.St) w' u (.agg (cT (.mk p q ks'))) := fun t hn hg => by
    obtain ⟨ad, u, h1, h2, h3⟩ := @zxa i0 Tryz.prog _ _ _ i' t _ _ (.agg [.d (.int .i64 p), .d (.int .i64 q), .d (.sl 3 (ks'.map eT))]) hptr 3 true hn hg (by simp [zvw, cut, zuf])
    refine ⟨ad, u, h1, h2, ?_⟩
    cases h3 with
    | agg vs _ hn hr =>
      refine .agg vs _ (by simpa [cT] using hn) fun j c hj => ?_
      match j, hj with
      | 0, hj => cases hj; exact @ARel.d_inv i0 _ _ _ _ _ (hr 0 _ rfl)
      | 1, hj => cases hj; exact @ARel.d_inv i0 _ _ _ _ _ (hr 1 _ rfl)
      | 2, hj => cases hj; exact @ARel.d_inv i0 _ _ _ _ _ (hr 2 _ rfl)
  refine wp_seq (wp_mono (reg2 hc1 zDe hsz (R := fun w2 => Chg (cutS true m G.St) w' w2) fun o ho => ?_) ?_)
  · obtain ⟨t, ho, hn, hg⟩ := zOi ho
    obtain ⟨ad, u, hu1, hu2, hu3⟩ := hld t hn hg
    exact ⟨u, zLf ho hu1 hu2, zMz _ (cutS true m G.St) w' u (zF7 i jn hch) hu3⟩
  · rintro e a2 w2 ⟨rfl, hd2, hsz2, hsa2, hch2⟩
    exact h hres hm c2 G a a2 w w2 hc2 fr jn (hch.trans hch2) hsz2 (fun q hq => (hsa2 q (by omega) (by omega)).trans (hsa q hq)) (hd2.trans hd)
end
end
section
attribute [local simp] zac zag tk tn tks zc4 zdf
mutual
def mapT (f : Int → Int → T) : T → Int → T
  | .mk k n ks, b => if k = 1 then f n b else .mk k n (mapL f k b 0 ks)
def mapL (f : Int → Int → T) (k b : Int) : Nat → List T → List T
  | _, [] => []
  | i, x :: xs => mapT f x (b + zan k i) :: mapL f k b (i + 1) xs
end
theorem zjl (f : Int → Int → T) (k b : Int) : ∀ (l : List T) (i : Nat), (mapL f k b i l).length = l.length
  | [], i => by simp [mapL]
  | x :: xs, i => by simp [mapL, zjl f k b xs (i + 1)]
theorem zny (f : Int → Int → T) (k b : Int) : ∀ (l : List T) (i j : Nat) (h : j < l.length), (mapL f k b i l)[j]'(by rw [zjl]; exact h) = mapT f l[j] (b + zan k (i + j : Nat))
  | x :: xs, i, 0, h => by simp [mapL]
  | x :: xs, i, j + 1, h => by
    have := zny f k b xs (i + 1) j (by simpa using h)
    simp only [mapL, List.getElem_cons_succ]
    rw [this]
    congr 3
    omega
inductive VokT : T → Prop
  | mk (k n : Int) (ks : List T) (hv : k = 1 → 0 ≤ n ∧ n ≤ 65535) (hz : k = 1 ∨ k = 2 ∨ k = 3 → ks = []) (hl : ks.length ≤ 1000) (h : ∀ x ∈ ks, VokT x) : VokT (.mk k n ks)
theorem VokT.out {k n : Int} {ks : List T} (h : VokT (.mk k n ks)) : (k = 1 → (0 ≤ n ∧ n ≤ 65535) ∧ ks = []) ∧ ks.length ≤ 1000 ∧ ∀ x ∈ ks, VokT x := by
  cases h with
  | mk _ _ _ a z b c => exact ⟨fun h => ⟨a h, z (.inl h)⟩, b, c⟩
theorem VokT.leaf {k n : Int} {ks : List T} (h : VokT (.mk k n ks)) : k = 1 ∨ k = 2 ∨ k = 3 → ks = [] := by
  cases h with
  | mk _ _ _ a z b c => exact z
theorem zvo (t : T) : zaf t = true → VokT t := by
  refine T.ind (p := fun t => zaf t = true → VokT t) ?_ t
  intro k n ks ih h
  refine .mk _ _ _ (fun hk => zf4 hk h) (fun hk => ?_) (zLy _ h).kids.1 fun x hx => ih x hx (zdt h x hx)
  rw [zcb] at h
  have h0 : zho k = 0 := by rcases hk with rfl | rfl | rfl <;> rfl
  rw [h0] at h
  split at h
  · rename_i hl; simpa using hl
  · cases h
theorem zSb (f : Int → Int → T) (g : FuncId) (caps : List D) (hf : ∀ n b : Int, 0 ≤ n → n ≤ 65535 → 0 ≤ b → b ≤ 1099511627776 → Pure Tryz.prog g (.int .i64 n :: .int .i64 b :: caps) [.agg (cT (f n b))]) (t : T) : ∀ b : Int, VokT t → 0 ≤ b → b + zai t ≤ 1099511627776 →
    Pure Tryz.prog zmw [.agg (cT t), .int .i64 b, .clo g caps] [.agg (cT (mapT f t b))] := by
  refine T.ind (p := fun t => ∀ b : Int, VokT t → 0 ≤ b → b + zai t ≤ 1099511627776 → Pure Tryz.prog zmw [.agg (cT t), .int .i64 b, .clo g caps] [.agg (cT (mapT f t b))]) ?_ t
  intro k n ks ih b hvk h0 hb
  obtain ⟨hvn, hl, hsk⟩ := hvk.out
  refine zH9 rfl fun hs => ?_
  simp -dsimp [zu0, cT]
  (first | refine zal ?_ ?_ | refine zam ?_ ?_) <;> intro h1 <;> (try simp only [nrm] at h1) <;> simp -dsimp [h1]
  · have hn := (hvn h1).1
    refine zaa (hf n b hn.1 hn.2 h0 (by omega)) ?_
    rw [mapT, if_pos h1]
    simp -dsimp [h1, cT]
  have hM : mapT f (.mk k n ks) b = .mk k n (mapL f k b 0 ks) := by rw [mapT, if_neg h1]
  rw [hM]
  by_cases hz : ks = []
  · subst hz
    simp -dsimp [h1, mapL]
  simp -dsimp [h1, hz]
  have r1 : (ks.length : Int) * 40 ≤ (zah : Int) := by simp only [zah]; omega
  have r2 : ks.length ≤ zah := by simp only [zah]; omega
  have hll : (mapL f k b 0 ks).length = ks.length := zjl f k b ks 0
  simp -dsimp [h1, hz, r1, r2]
  refine zaj ks.length (fun i st => st.s 3 = .ptr 3 1 0 ∧ st.h 3 = ⟨1, .box [.d (.int .i64 k), .d (.int .i64 n), .d (.sl 3 (ks.map eT))] false⟩ ∧ st.s 1 = .d (.int .i64 b) ∧ st.s 2 = .d (.clo g caps) ∧
    st.s 6 = .ptr 6 1 0 ∧ st.h 6 = ⟨1, .box [.d (.int .i64 0), .d (.int .i64 0), .fsl 3 []] false⟩ ∧ st.s 7 = .rsl 27 1 ∧ st.s 29 = .d (.sl 3 (ks.map eT)) ∧ st.s 30 = .d (.int .i64 ks.length) ∧ st.s 31 = .d (.int .i64 i) ∧
    st.h 27 = ⟨1, .row 3 (((mapL f k b 0 ks).map eT).take i ++ List.replicate (ks.length - i) (D.agg [.int .i64 0, .int .i64 0, .sl 3 []])) false⟩) ?_ ?_
  · simp -dsimp
  · rintro i ⟨s, hp⟩ hi ⟨g1, g2, g3, g4, g5, g6, g7, g8, g9, g10, g11⟩
    dsimp only at g1 g2 g3 g4 g5 g6 g7 g8 g9 g10 g11
    rcases Nat.lt_or_ge i ks.length with hlt | hge
    · have w1 : IntKind.i64.wrap ((i : Int) + 1) = (i : Int) + 1 := zab (by omega) (by omega)
      have hbl := zgg k i
      have hnk := zfo (k := k) (n := n) (List.getElem_mem hlt : ks[i] ∈ ks)
      have w2 : IntKind.i64.wrap (b + zan k i) = b + zan k i := zab (by omega) (by omega)
      simp -dsimp [g1, g2, g3, g4, g5, g6, g7, g8, g9, g10, g11, hlt, cT]
      refine zaa (zwp k i) ?_
      simp -dsimp [g1, g2, g3, g4, g5, g6, g7, g8, g9, g10, g11, hlt, w2]
      refine zaa (ih ks[i] (List.getElem_mem _) (b + zan k i) (hsk _ (List.getElem_mem _)) (by omega) (by omega)) ?_
      have q1 : (i : Int) < ((min i ks.length : Nat) : Int) + ((ks.length - i : Nat) : Int) := by omega
      have q2 : i < min i ks.length + (ks.length - i) := by omega
      have hle : ((mapL f k b 0 ks).map eT).length = ks.length := by rw [List.length_map, hll]
      have hfn := zs3 (l := (mapL f k b 0 ks).map eT) (z := D.agg [.int .i64 0, .int .i64 0, .sl 3 []]) (i := i) (by rw [hle]; exact hlt)
      have hel : ((mapL f k b 0 ks).map eT)[i]'(by rw [hle]; exact hlt) = .agg (cT (mapT f ks[i] (b + zan k i))) := by
        rw [List.getElem_map, zny f k b ks 0 i hlt, zbq, Nat.zero_add]
      rw [hel, hle] at hfn
      simp only [cT] at hfn
      simp -dsimp [g1, g2, g3, g4, g5, g6, g7, g8, g9, g10, g11, hlt, w1, w2, hll, q1, q2, cT, hfn]
    · have e : i = ks.length := by omega
      subst e
      have ht : ((mapL f k b 0 ks).map eT).take ks.length = (mapL f k b 0 ks).map eT := List.take_of_length_le (by rw [List.length_map, hll]; exact Nat.le_refl _)
      rw [ht, Nat.sub_self, List.replicate_zero, List.append_nil] at g11
      simp -dsimp [g1, g2, g3, g4, g5, g6, g7, g8, g9, g10, g11]
def zFy (y : Int) (t : T) : T := mapT (fun n b => .mk 1 (if b ≤ n then w64 (n + y) else n) []) t 0
mutual
def zqq : T → Int → Int
  | .mk k n ks, b => zy6 k b 0 (if k = 1 ∧ b ≤ n then n else -1) ks
def zy6 (k b : Int) : Nat → Int → List T → Int
  | _, a, [] => a
  | i, a, x :: xs => zy6 k b (i + 1) (mx a (zqq x (b + zan k i))) xs
end
structure Ag where
  t : T
  size : Int
  depth : Int
  free : Int
def cAg (a : Ag) : List D := cT a.t ++ [.int .i64 a.size, .int .i64 a.depth, .int .i64 a.free]
def eAg (a : Ag) : D := .agg (cAg a)
@[simp] theorem zTj (a : Ag) : (eAg a).cells = cAg a := rfl
def zn7 (len : Nat) (u n b : Int) : Int := if n < u + b ∨ (len : Int) ≤ n - (u + b) then -1 else len - 1 - (n - (u + b))
structure St3 where
  sc : Bool
  sz : Int
  dp : Int
def zT : T := .mk 0 0 []
def zsz (l : List T) (u n b : Int) : T :=
  if 0 ≤ zn7 l.length u n b then match l[(zn7 l.length u n b).toNat]? with
    | some a => zFy (w64 (u + b)) a
    | none => zT
  else .mk 1 (if u + b ≤ n then w64 (n - l.length) else n) []
def zKp (a : T) (c : Int) : Bool := decide (0 ≤ zqq a 0) && decide (65535 < zqq a 0 + c)
mutual
def scI (l : List T) (u : Int) : T → Int → Bool
  | .mk k n ks, b => if k = 1 then (match (if 0 ≤ zn7 l.length u n b then l[(zn7 l.length u n b).toNat]? else none) with | some a => zKp a (u + b) | none => false) else scL l u k b 0 ks
def scL (l : List T) (u k b : Int) : Nat → List T → Bool
  | _, [] => false
  | i, x :: xs => scI l u x (b + zan k i) || scL l u k b (i + 1) xs
end
theorem zRk (t : T) : zaf t = true → ∀ b, -1 ≤ zqq t b ∧ zqq t b ≤ 65535 := by
  refine T.ind (p := fun t => zaf t = true → ∀ b, -1 ≤ zqq t b ∧ zqq t b ≤ 65535) ?_ t
  intro k n ks ih hfm b
  rw [zqq]
  have h0 : -1 ≤ (if k = 1 ∧ b ≤ n then n else -1) ∧ (if k = 1 ∧ b ≤ n then n else -1) ≤ 65535 := by
    split
    · rename_i h
      have := zf4 h.1 hfm
      omega
    · omega
  have hk := zdt hfm
  generalize (if k = 1 ∧ b ≤ n then n else -1) = a at h0
  have go : ∀ (l : List T) (i : Nat) (a : Int), (∀ x ∈ l, zaf x = true → ∀ b, -1 ≤ zqq x b ∧ zqq x b ≤ 65535) → (∀ x ∈ l, zaf x = true) → -1 ≤ a ∧ a ≤ 65535 → -1 ≤ zy6 k b i a l ∧ zy6 k b i a l ≤ 65535 := by
    intro l
    induction l with
    | nil => intro i a _ _ h; simpa [zy6] using h
    | cons x xs ihx =>
      intro i a h1 h2 h3
      rw [zy6]
      have hx := h1 x (by simp) (h2 x (by simp)) (b + zan k i)
      refine ihx (i + 1) _ (fun y hy => h1 y (by simp [hy])) (fun y hy => h2 y (by simp [hy])) ?_
      rw [zTm]
      omega
  exact go ks 0 a ih hk h0
theorem zQs (k : Int) (l : List T) (hl : l.length * 40 ≤ zah) : Pure Tryz.prog zc7 [.int .i64 k, eTs l] [.agg (cT (.mk k 0 l))] := by
  refine zos rfl fun hs => ?_
  simp -dsimp [zh7, cT, eTs, hl]
theorem zI9 (f g : Int → Int → T) (h : ∀ n b : Int, 0 ≤ n → n ≤ 65535 → 0 ≤ b → b ≤ 4194304 → f n b = g n b) (t : T) : ∀ b : Int, zaf t = true → 0 ≤ b → b + zai t ≤ 4194304 → mapT f t b = mapT g t b := by
  refine T.ind (p := fun t => ∀ b : Int, zaf t = true → 0 ≤ b → b + zai t ≤ 4194304 → mapT f t b = mapT g t b) ?_ t
  intro k n ks ih b hfm h0 hb
  rw [mapT, mapT]
  by_cases h1 : k = 1
  · have hn := zf4 h1 hfm
    rw [if_pos h1, if_pos h1, h n b hn.1 hn.2 h0 (by omega)]
  · rw [if_neg h1, if_neg h1]
    congr 1
    have go : ∀ (xs : List T) (i : Nat), (∀ x ∈ xs, x ∈ ks) → mapL f k b i xs = mapL g k b i xs := by
      intro xs
      induction xs with
      | nil => intro i _; simp [mapL]
      | cons x xs ihx =>
        intro i hm
        have hx := hm x (by simp)
        have hxn := zfo (k := k) (n := n) hx
        have hbl := zgg k i
        rw [mapL, mapL, ih x hx _ (zdt hfm x hx) (by omega) (by omega), ihx (i + 1) fun y hy => hm y (by simp [hy])]
    exact go ks 0 fun x hx => hx
theorem map_map (f g h : Int → Int → T) (e : Int) (hv : ∀ n b : Int, 0 ≤ n → n ≤ 65535 → 0 ≤ b → b ≤ 4194304 → mapT f (g n b) (b + e) = h n b) (t : T) : ∀ b : Int, zaf t = true → 0 ≤ b → b + zai t ≤ 4194304 → mapT f (mapT g t b) (b + e) = mapT h t b := by
  refine T.ind (p := fun t => ∀ b : Int, zaf t = true → 0 ≤ b → b + zai t ≤ 4194304 → mapT f (mapT g t b) (b + e) = mapT h t b) ?_ t
  intro k n ks ih b hfm h0 hb
  rw [mapT, mapT]
  by_cases h1 : k = 1
  · have hn := zf4 h1 hfm
    rw [if_pos h1, if_pos h1, hv n b hn.1 hn.2 h0 (by omega)]
  · rw [if_neg h1, if_neg h1, mapT, if_neg h1]
    congr 1
    have go : ∀ (xs : List T) (i : Nat), (∀ x ∈ xs, x ∈ ks) → mapL f k (b + e) i (mapL g k b i xs) = mapL h k b i xs := by
      intro xs
      induction xs with
      | nil => intro i _; simp [mapL]
      | cons x xs ihx =>
        intro i hm
        have hx := hm x (by simp)
        have hxn := zfo (k := k) (n := n) hx
        have hbl := zgg k i
        have e1 : b + e + zan k i = b + zan k i + e := by omega
        rw [mapL, mapL, mapL, e1, ih x hx _ (zdt hfm x hx) (by omega) (by omega), ihx (i + 1) fun y hy => hm y (by simp [hy])]
    exact go ks 0 fun x hx => hx
def mv (y : Int) (n b : Int) : T := .mk 1 (if b ≤ n then w64 (n + y) else n) []
theorem zNq (y : Int) (t : T) : zFy y t = mapT (mv y) t 0 := rfl
theorem zEv (f : Int → Int → T) (n b : Int) : mapT f (.mk 1 n []) b = f n b := by rw [mapT, if_pos rfl]
theorem mv_lo {y n b : Int} (h : n < b) : mv y n b = .mk 1 n [] := by rw [mv, if_neg (by omega)]
theorem mv_hi {y n b : Int} (h : b ≤ n) (hn : 0 ≤ n) (hn' : n ≤ 10000000) (hy : 0 ≤ y) (hy' : y ≤ 10000000) : mv y n b = .mk 1 (n + y) [] := by rw [mv, if_pos h, zev (by omega) (by omega)]
theorem zAx {n : Int} (h : 0 ≤ n ∧ n ≤ 65535) : zaf (.mk 1 n []) = true := by simp [zcb, zho, (zf0 n 0 65535).2 h]
end
section
section
attribute [local simp] zac zag tk tn tks zc4 zdf
theorem zGl (n : Int) : Pure Tryz.prog zkh [.int .i64 n] [.bool (decide (0 ≤ n) && decide (n ≤ 6))] := by
  refine zAc rfl fun hs => ?_
  simp -dsimp [zm1]
  (first | refine zal ?_ ?_ | refine zam ?_ ?_) <;> intro h <;> (try simp only [nrm] at h) <;> simp -dsimp [h]
def zjn (base ahead k many : Int) : Int := if base < 0 ∨ 65535 < base ∨ k < 0 ∨ many ≤ k then -1 else w64 (w64 (base + ahead) + k)
theorem zwo (a b c d : Int) : Pure Tryz.prog zf5 [.int .i64 a, .int .i64 b, .int .i64 c, .int .i64 d] [.int .i64 (zjn a b c d)] := by
  refine zAb rfl fun hs => ?_
  simp -dsimp [znb]
  (first | refine zal ?_ ?_ | refine zam ?_ ?_) <;> intro h1 <;> (try simp only [nrm] at h1) <;> simp -dsimp [h1, zjn, w64]
  (first | refine zal ?_ ?_ | refine zam ?_ ?_) <;> intro h2 <;> (try simp only [nrm] at h2) <;> simp -dsimp [h2, h1, zjn, w64]
  (first | refine zal ?_ ?_ | refine zam ?_ ?_) <;> intro h3 <;> (try simp only [nrm] at h3) <;> simp -dsimp [h3, h1, h2, zjn, w64]
  (first | refine zal ?_ ?_ | refine zam ?_ ?_) <;> intro h4 <;> (try simp only [nrm] at h4) <;> simp -dsimp [h4, h1, h2, h3, zjn, w64]
def decs (l : List So) : Nat := (l.filter (·.dec)).length
theorem zxz (l : List So) (i : Nat) (x : So) (h : l[i]? = some x) : decs (l.take (i + 1)) = decs (l.take i) + if x.dec then 1 else 0 := by
  simp only [decs, List.take_add_one, h]
  cases hd : x.dec <;> simp -dsimp [hd]
theorem zij (l : List So) : decs l ≤ l.length := List.length_filter_le _ _
theorem zAe (b : Bl) (k : Int) (h0 : 0 ≤ k) (hk : k ≤ b.sorts.length) : Pure Tryz.prog zhk [eBl b, .int .i64 k] [.int .i64 (decs (b.sorts.take k.toNat))] := by
  refine zDz rfl fun hs => ?_
  have hb : b.sorts.length ≤ 9223372036854775807 := by
    have := hs (eBl b) (by simp)
    simp -dsimp [eBl, cBl, eSos, small] at this
    exact this.1.1
  obtain ⟨m, rfl⟩ : ∃ m : Nat, k = m := ⟨k.toNat, by omega⟩
  have hm : m ≤ b.sorts.length := by omega
  simp -dsimp [zoz, eBl, cBl, eSos, eCos, h0, hk]
  refine zaj m (fun i st => st.s 11 = .d (.sl 6 ((b.sorts.take m).map eSo)) ∧ st.s 12 = .d (.int .i64 m) ∧ st.s 13 = .d (.int .i64 i) ∧ st.s 5 = .d (.int .i64 (decs (b.sorts.take i)))) ?_ ?_
  · simp -dsimp [decs, hm]
  · rintro i ⟨s, hp⟩ hi ⟨h1, h2, h3, h4⟩
    dsimp only at h1 h2 h3 h4
    rcases Nat.lt_or_ge i m with hlt | hge
    · obtain ⟨x, hx⟩ : ∃ x, b.sorts[i]? = some x := ⟨_, List.getElem?_eq_getElem (by omega)⟩
      have hx' : (b.sorts.take m)[i]? = some x := by rw [List.getElem?_take_of_lt hlt, hx]
      simp -dsimp [h1, h2, h3, h4, hlt, hx, hx', eSo, cSo, cT, eArs]
      have hd := zij (b.sorts.take i)
      rw [List.length_take] at hd
      have w1 : IntKind.i64.wrap ((i : Int) + 1) = (i : Int) + 1 := zab (by omega) (by omega)
      have w2 : IntKind.i64.wrap ((decs (b.sorts.take i) : Int) + 1) = (decs (b.sorts.take i) : Int) + 1 := zab (by omega) (by omega)
      cases hxd : x.dec <;> simp -dsimp [hxd, hlt, h1, h2, h3, h4, w1, w2, zxz _ _ _ hx]
    · have e : i = m := by omega
      subst e
      simp -dsimp [h1, h2, h3, h4]
def zu4 (b : Bl) : Int := w64 (w64 (w64 (2 * b.sorts.length) + decs b.sorts) + b.cons.length)
theorem zNt (b : Bl) : Pure Tryz.prog znq [eBl b] [.int .i64 (zu4 b)] := by
  refine zBu rfl fun hs => ?_
  simp -dsimp [znc, eBl, cBl, eSos, eCos]
  refine zaa (zAe b b.sorts.length (by omega) (by omega)) ?_
  simp -dsimp [zu4, w64]
def zbl (b : Bl) (base k : Int) : Int := zjn base 0 k b.sorts.length
theorem ztb (b : Bl) (base k : Int) : Pure Tryz.prog zc1 [eBl b, .int .i64 base, .int .i64 k] [.int .i64 (zbl b base k)] := by
  refine zy4 rfl fun hs => ?_
  simp -dsimp [zl6, eBl, cBl, eSos, eCos]
  refine zaa (zwo _ _ _ _) ?_
  simp -dsimp [zbl]
def zdy (b : Bl) (base k : Int) : Int :=
  if k < 0 then -1 else match b.sorts[k.toNat]? with
    | none => -1
    | some s => if s.dec then zjn base b.sorts.length (decs (b.sorts.take k.toNat)) b.sorts.length else -1
theorem zHv (b : Bl) (base k : Int) : Pure Tryz.prog zd8 [eBl b, .int .i64 base, .int .i64 k] [.int .i64 (zdy b base k)] := by
  refine zyi rfl fun hs => ?_
  simp -dsimp [zkt, eBl, cBl, eSos, eCos]
  (first | refine zal ?_ ?_ | refine zam ?_ ?_) <;> intro h1 <;> (try simp only [nrm] at h1) <;> simp -dsimp [h1, zdy]
  (first | refine zal ?_ ?_ | refine zam ?_ ?_) <;> intro h2 <;> (try simp only [nrm] at h2) <;> simp -dsimp [h2, h1, zdy]
  · have : b.sorts[k.toNat]? = none := List.getElem?_eq_none (by omega)
    simp -dsimp [this]
  · obtain ⟨s, hs⟩ : ∃ s, b.sorts[k.toNat]? = some s := ⟨_, List.getElem?_eq_getElem (by omega)⟩
    have h3 : 0 ≤ k := by omega
    simp -dsimp [hs, h1, h2, h3, eSo, cSo, cT, eArs]
    (first | refine zal ?_ ?_ | refine zam ?_ ?_) <;> intro h4 <;> (try simp only [nrm] at h4) <;> simp -dsimp [h4, hs, h1, h2, h3, zdy]
    · 
      refine zaa (zAe b k (by omega) (by omega)) ?_
      simp -dsimp
      refine zaa (zwo _ _ _ _) ?_
      simp -dsimp [zdy, h1, h4, hs]
def zak (b : Bl) (base k : Int) : Int := zjn base (w64 (b.sorts.length + decs b.sorts)) k b.cons.length
theorem zma (b : Bl) (base k : Int) : Pure Tryz.prog zbt [eBl b, .int .i64 base, .int .i64 k] [.int .i64 (zak b base k)] := by
  refine zrd rfl fun hs => ?_
  simp -dsimp [zhf, eBl, cBl, eSos, eCos]
  refine zaa (zAe b b.sorts.length (by omega) (by omega)) ?_
  simp -dsimp
  refine zaa (zwo _ _ _ _) ?_
  simp -dsimp [zak, w64]
def zb6 (b : Bl) (base k : Int) : Int := zjn base (w64 (w64 (b.sorts.length + decs b.sorts) + b.cons.length)) k b.sorts.length
theorem zz4 (b : Bl) (base k : Int) : Pure Tryz.prog zcn [eBl b, .int .i64 base, .int .i64 k] [.int .i64 (zb6 b base k)] := by
  refine ztc rfl fun hs => ?_
  simp -dsimp [zh4, eBl, cBl, eSos, eCos]
  refine zaa (zAe b b.sorts.length (by omega) (by omega)) ?_
  simp -dsimp
  refine zaa (zwo _ _ _ _) ?_
  simp -dsimp [zb6, w64]
end
section
attribute [local simp] zac zag tk tn tks zc4 zdf
theorem zrx (t : T) : Pure Tryz.prog zbc [.sl 3 [.agg (cT t)]] [.bool (zfy [t])] := by
  have h := zp5 [t]
  simp only [eTs, List.map_cons, List.map_nil, zbq] at h
  exact h
theorem zA7 {α : Type} {p : α → Bool} {l : List α} {i : Nat} (hlt : i < l.length) (h : (l.take i).any p = false) (hx : p l[i] = false) : (l.take (i + 1)).any p = false := by
  rw [zdd (List.getElem?_eq_getElem hlt), List.any_append, h]
  simp [hx]
theorem zyb {α : Type} {p : α → Bool} {l : List α} {i : Nat} (hlt : i < l.length) (hx : p l[i] = true) : l.any p = true := List.any_eq_true.2 ⟨l[i], List.getElem_mem _, hx⟩
def pArg (a : Ar) : Bool := zfy [a.ty] || zfy a.dom || zfy a.idx
def zhr (l : List Ar) : Bool := decide ((20 : Int) < (l.length : Int)) || l.any pArg
theorem zvp (l : List Ar) : Pure Tryz.prog zcw [eArs l] [.bool (zhr l)] := by
  refine zm0 rfl fun hs => ?_
  simp -dsimp [zes, eArs]
  (first | refine zal ?_ ?_ | refine zam ?_ ?_) <;> intro h1 <;> (try simp only [nrm] at h1) <;> simp -dsimp [h1, zhr]
  have hl : l.length ≤ 20 := by omega
  refine zaj l.length (fun i st => st.s 0 = .d (.sl 7 (l.map eAr)) ∧ st.s 3 = .d (.int .i64 i) ∧ (l.take i).any pArg = false) ?_ ?_
  · simp -dsimp
  · rintro i ⟨s, hp⟩ hi ⟨h2, h3, h5⟩
    dsimp only at h2 h3 h5
    rcases Nat.lt_or_ge i l.length with hlt | hge
    · have w1 : IntKind.i64.wrap ((i : Int) + 1) = (i : Int) + 1 := zab (by omega) (by omega)
      have ht : ∀ b, pArg l[i] = b → zfy [l[i].ty] = true ∨ zfy l[i].dom = true ∨ zfy l[i].idx = true → b = true := by
        rintro b rfl h
        simp only [pArg, Bool.or_eq_true]
        rcases h with h | h | h <;> simp [h]
      have fin : pArg l[i] = true → zhr l = true := fun h => by simp only [zhr, zyb hlt h, Bool.or_true]
      simp -dsimp [h2, h3, hlt, eAr, cAr, cT, eTs]
      refine zaa (zrx l[i].ty) ?_
      simp -dsimp [h2, h3, hlt]
      (first | refine zal ?_ ?_ | refine zam ?_ ?_) <;> intro h6 <;> (try simp only [nrm] at h6) <;> simp -dsimp [h6, h2, h3, hlt]
      · exact fin (ht _ rfl (.inl h6))
      · simp -dsimp [h2, h3, hlt, h6, eAr, cAr, cT, eTs]
        refine zaa (zp5 l[i].dom) ?_
        simp -dsimp [h2, h3, hlt, h6]
        (first | refine zal ?_ ?_ | refine zam ?_ ?_) <;> intro h7 <;> (try simp only [nrm] at h7) <;> simp -dsimp [h7, h2, h3, hlt, h6]
        · exact fin (ht _ rfl (.inr (.inl h7)))
        · simp -dsimp [h2, h3, hlt, h6, h7, eAr, cAr, cT, eTs]
          refine zaa (zp5 l[i].idx) ?_
          simp -dsimp [h2, h3, hlt, h6, h7]
          (first | refine zal ?_ ?_ | refine zam ?_ ?_) <;> intro h8 <;> (try simp only [nrm] at h8) <;> simp -dsimp [h8, h2, h3, hlt, h6, h7]
          · exact fin (ht _ rfl (.inr (.inr h8)))
          · simp -dsimp [h2, h3, hlt, h6, h7, h8, w1]
            have := zA7 hlt h5 (by simp [pArg, h6, h7, h8])
            simpa using this
    · have e : i = l.length := by omega
      subst e
      simp -dsimp [h2, h3, zhr]
      rw [List.take_length] at h5
      exact ⟨by omega, by simpa using h5⟩
def pSo (s : So) : Bool := zhr s.idx || zfy [s.dty]
def pCo (c : Co) : Bool := zhr c.args || zfy c.idx || zfy [c.dec]
def ziz (b : Bl) : Bool := decide ((10 : Int) < (b.sorts.length : Int)) || decide ((20 : Int) < (b.cons.length : Int)) || b.sorts.any pSo || b.cons.any pCo
theorem zH0 (b : Bl) : Pure Tryz.prog zhi [eBl b] [.bool (ziz b)] := by
  refine zq1 rfl fun hs => ?_
  simp -dsimp [zg6, eBl, cBl, eSos, eCos]
  (first | refine zal ?_ ?_ | refine zam ?_ ?_) <;> intro h1 <;> (try simp only [nrm] at h1) <;> simp -dsimp [h1, ziz]
  (first | refine zal ?_ ?_ | refine zam ?_ ?_) <;> intro h2 <;> (try simp only [nrm] at h2) <;> simp -dsimp [h2, ziz, h1]
  have hl : b.sorts.length ≤ 10 := by omega
  have hl2 : b.cons.length ≤ 20 := by omega
  refine zaj b.sorts.length (fun i st => st.s 1 = .ptr 1 1 0 ∧ st.h 1 = ⟨1, .box [.d (.sl 6 (b.sorts.map eSo)), .d (.sl 6 (b.cons.map eCo)), .d (.int .i64 b.elim)] false⟩ ∧ st.s 3 = .d (.int .i64 i) ∧ (b.sorts.take i).any pSo = false) ?_ ?_
  · simp -dsimp
  · rintro i ⟨s, hp⟩ hi ⟨h3, h4, h5, h6⟩
    dsimp only at h3 h4 h5 h6
    rcases Nat.lt_or_ge i b.sorts.length with hlt | hge
    · have w1 : IntKind.i64.wrap ((i : Int) + 1) = (i : Int) + 1 := zab (by omega) (by omega)
      have fin : pSo b.sorts[i] = true → ziz b = true := fun h => by simp only [ziz, zyb hlt h, Bool.or_true, Bool.true_or]
      simp -dsimp [h3, h4, h5, hlt, eSo, cSo, cT, eArs]
      refine zaa (zvp b.sorts[i].idx) ?_
      simp -dsimp [h3, h4, h5, hlt]
      (first | refine zal ?_ ?_ | refine zam ?_ ?_) <;> intro h7 <;> (try simp only [nrm] at h7) <;> simp -dsimp [h7, h3, h4, h5, hlt]
      · exact fin (by simp [pSo, h7])
      · simp -dsimp [h3, h4, h5, hlt, h7, eSo, cSo, cT, eArs]
        refine zaa (zrx b.sorts[i].dty) ?_
        simp -dsimp [h3, h4, h5, hlt, h7]
        (first | refine zal ?_ ?_ | refine zam ?_ ?_) <;> intro h8 <;> (try simp only [nrm] at h8) <;> simp -dsimp [h8, h3, h4, h5, hlt, h7]
        · exact fin (by simp [pSo, h8])
        · simp -dsimp [h3, h4, h5, hlt, h7, h8, w1]
          simpa using zA7 hlt h6 (by simp [pSo, h7, h8])
    · have e : i = b.sorts.length := by omega
      subst e
      rw [List.take_length] at h6
      simp -dsimp [h3, h4, h5]
      refine zaj b.cons.length (fun i st => st.s 1 = .ptr 1 1 0 ∧ st.h 1 = ⟨1, .box [.d (.sl 6 (b.sorts.map eSo)), .d (.sl 6 (b.cons.map eCo)), .d (.int .i64 b.elim)] false⟩ ∧ st.s 4 = .d (.int .i64 i) ∧ (b.cons.take i).any pCo = false) ?_ ?_
      · simp -dsimp [h3, h4, h5]
      · rintro i ⟨s, hp⟩ hi ⟨h3, h4, h5, h10⟩
        dsimp only at h3 h4 h5 h10
        rcases Nat.lt_or_ge i b.cons.length with hlt | hge
        · have w1 : IntKind.i64.wrap ((i : Int) + 1) = (i : Int) + 1 := zab (by omega) (by omega)
          have fin : pCo b.cons[i] = true → ziz b = true := fun h => by simp only [ziz, zyb hlt h, Bool.or_true, Bool.true_or]
          simp -dsimp [h3, h4, h5, hlt, eCo, cCo, cT, eArs, eTs]
          refine zaa (zvp b.cons[i].args) ?_
          simp -dsimp [h3, h4, h5, hlt]
          (first | refine zal ?_ ?_ | refine zam ?_ ?_) <;> intro h7 <;> (try simp only [nrm] at h7) <;> simp -dsimp [h7, h3, h4, h5, hlt]
          · exact fin (by simp [pCo, h7])
          · simp -dsimp [h3, h4, h5, hlt, h7, eCo, cCo, cT, eArs, eTs]
            refine zaa (zp5 b.cons[i].idx) ?_
            simp -dsimp [h3, h4, h5, hlt, h7]
            (first | refine zal ?_ ?_ | refine zam ?_ ?_) <;> intro h8 <;> (try simp only [nrm] at h8) <;> simp -dsimp [h8, h3, h4, h5, hlt, h7]
            · exact fin (by simp [pCo, h8])
            · simp -dsimp [h3, h4, h5, hlt, h7, h8, eCo, cCo, cT, eArs, eTs]
              refine zaa (zrx b.cons[i].dec) ?_
              simp -dsimp [h3, h4, h5, hlt, h7, h8]
              (first | refine zal ?_ ?_ | refine zam ?_ ?_) <;> intro h9 <;> (try simp only [nrm] at h9) <;> simp -dsimp [h9, h3, h4, h5, hlt, h7, h8]
              · exact fin (by simp [pCo, h9])
              · simp -dsimp [h3, h4, h5, hlt, h7, h8, h9, w1]
                simpa using zA7 hlt h10 (by simp [pCo, h7, h8, h9])
        · have e : i = b.cons.length := by omega
          subst e
          rw [List.take_length] at h10
          simp -dsimp [h3, h4, h5, ziz, h6, h10]
          exact ⟨by omega, by omega⟩
end
section
attribute [local simp] zac zag tk tn tks zc4 zdf
structure En where
  kind : Int
  many : Nat
  f : Nat
  of : Int → Int
def eEn (e : En) : D := .agg [.int .i64 e.kind, .int .i64 e.many, .clo e.f []]
def tab (b : Bl) (base : Int) : List En :=
  [⟨3, b.sorts.length, zc1, zbl b base⟩, ⟨4, b.sorts.length, zd8, zdy b base⟩, ⟨5, b.cons.length, zbt, zak b base⟩, ⟨6, b.sorts.length, zcn, zb6 b base⟩]
def hit (n : Int) (e : En) : Option Nat := (List.range e.many).find? fun k => e.of k == n
def seek (n : Int) (l : List En) : Option (Int × Int) := l.findSome? fun e => (hit n e).map fun (k : Nat) => (e.kind, (k : Int))
def ofM (b : Bl) (base n : Int) : Int × Int :=
  if base < 0 ∨ 65535 < base ∨ n < base ∨ zu4 b ≤ w64 (n - base) then (0, 0) else (seek n (tab b base)).getD (0, 0)
theorem zTz (b : Bl) (base : Int) : ∀ e ∈ tab b base, ∀ k : Int, Pure Tryz.prog e.f [eBl b, .int .i64 base, .int .i64 k] [.int .i64 (e.of k)] := by
  intro e he k
  simp only [tab, List.mem_cons, List.not_mem_nil, or_false] at he
  rcases he with rfl | rfl | rfl | rfl
  · exact ztb b base k
  · exact zHv b base k
  · exact zma b base k
  · exact zz4 b base k
theorem zNl (b : Bl) (base : Int) (hl : b.sorts.length ≤ 9223372036854775807) (hc : b.cons.length ≤ 9223372036854775807) : ∀ e ∈ tab b base, e.many ≤ 9223372036854775807 := by
  intro e he
  simp only [tab, List.mem_cons, List.not_mem_nil, or_false] at he
  rcases he with rfl | rfl | rfl | rfl <;> assumption
theorem zHf {p : Nat → Bool} {n i : Nat} (hi : i < n) (hb : ∀ j, j < i → p j = false) (h : p i = true) : (List.range n).find? p = some i := by
  rw [List.find?_eq_some_iff_append]
  refine ⟨h, List.range i, (List.range (n - i - 1)).map (· + (i + 1)), ?_, ?_⟩
  · apply List.ext_getElem
    · simp; omega
    · intro j h1 h2
      simp [List.getElem_append, List.getElem_cons]
      split
      · omega
      · omega
  · intro a ha
    simp at ha
    simp [hb a ha]
theorem zI8 {n : Int} {l : List En} {i : Nat} (hlt : i < l.length) (h : seek n (l.take i) = none) (hx : hit n l[i] = none) : seek n (l.take (i + 1)) = none := by
  rw [zdd (List.getElem?_eq_getElem hlt)]
  simp only [seek, List.findSome?_append] at h ⊢
  rw [h]
  simp [hx]
theorem zN9 {n : Int} {l : List En} {i k : Nat} (hlt : i < l.length) (h : seek n (l.take i) = none) (hx : hit n l[i] = some k) : seek n l = some (l[i].kind, (k : Int)) := by
  have e : seek n (l.take i ++ l[i] :: l.drop (i + 1)) = some (l[i].kind, (k : Int)) := by
    simp only [seek, List.findSome?_append] at h ⊢
    rw [h, List.findSome?_cons, hx]
    rfl
  rwa [List.getElem_cons_drop, List.take_append_drop] at e
theorem zMf (b : Bl) (base n : Int) : Pure Tryz.prog zkq [eBl b, .int .i64 base, .int .i64 n] [.int .i64 (ofM b base n).1, .int .i64 (ofM b base n).2] := by
  refine zIc rfl fun hs => ?_
  have hsm := hs (eBl b) (by simp)
  simp [eBl, cBl, eSos, eCos, small] at hsm
  obtain ⟨⟨hl, _⟩, hlc, _⟩ := hsm
  simp -dsimp [zud, eBl, cBl, eSos, eCos]
  (first | refine zal ?_ ?_ | refine zam ?_ ?_) <;> intro h1 <;> (try simp only [nrm] at h1) <;> simp -dsimp [h1, ofM]
  (first | refine zal ?_ ?_ | refine zam ?_ ?_) <;> intro h2 <;> (try simp only [nrm] at h2) <;> simp -dsimp [h2, ofM, h1]
  (first | refine zal ?_ ?_ | refine zam ?_ ?_) <;> intro h3 <;> (try simp only [nrm] at h3) <;> simp -dsimp [h3, ofM, h1, h2]
  refine zaa (zNt b) ?_
  simp -dsimp [h1, h2, h3]
  (first | refine zal ?_ ?_ | refine zam ?_ ?_) <;> intro h4 <;> (try simp only [nrm] at h4) <;> simp -dsimp [h4, h1, h2, h3]
  · have : ofM b base n = (0, 0) := by rw [ofM, if_pos (.inr (.inr (.inr h4)))]
    simp [this]
  have hof : ofM b base n = (seek n (tab b base)).getD (0, 0) := by
    rw [ofM, if_neg]
    rintro (h | h | h | h)
    · exact h1 h
    · exact h2 h
    · exact h3 h
    · exact h4 h
  rw [hof]
  refine zaj 4 (fun i st => st.s 1 = .d (.int .i64 base) ∧ st.s 2 = .d (.int .i64 n) ∧ st.s 3 = .ptr 3 1 0 ∧ st.h 3 = ⟨1, .box [.d (.sl 6 (b.sorts.map eSo)), .d (.sl 6 (b.cons.map eCo)), .d (.int .i64 b.elim)] false⟩ ∧
    st.s 46 = .fsl 3 ((tab b base).map eEn) ∧ st.s 47 = .d (.int .i64 4) ∧ st.s 48 = .d (.int .i64 i) ∧ seek n ((tab b base).take i) = none) ?_ ?_
  · simp -dsimp [tab, eEn, seek]
  · rintro i ⟨s, hp⟩ hi ⟨g1, g2, g3, g4, g5, g6, g7, g8⟩
    dsimp only at g1 g2 g3 g4 g5 g6 g7 g8
    have htl : (tab b base).length = 4 := rfl
    rcases Nat.lt_or_ge i 4 with hlt | hge
    · have w1 : IntKind.i64.wrap ((i : Int) + 1) = (i : Int) + 1 := zab (by omega) (by omega)
      have hlt' : i < (tab b base).length := by omega
      generalize he : (tab b base)[i] = e at *
      have hm := zNl b base hl hlc e (he ▸ List.getElem_mem _)
      have hok := zTz b base e (he ▸ List.getElem_mem _)
      have hi4 : ((i : Int) < 4) := by omega
      simp -dsimp [g1, g2, g3, g4, g5, g6, g7, hi4, hlt', he, eEn]
      refine zaj e.many (fun j st => st.s 1 = .d (.int .i64 base) ∧ st.s 2 = .d (.int .i64 n) ∧ st.s 3 = .ptr 3 1 0 ∧ st.h 3 = ⟨1, .box [.d (.sl 6 (b.sorts.map eSo)), .d (.sl 6 (b.cons.map eCo)), .d (.int .i64 b.elim)] false⟩ ∧
        st.s 46 = .fsl 3 ((tab b base).map eEn) ∧ st.s 47 = .d (.int .i64 4) ∧ st.s 48 = .d (.int .i64 i) ∧ (∃ v, st.s 9 = .ptr 9 v 0 ∧ st.h 9 = ⟨v, .box [.d (.int .i64 e.kind), .d (.int .i64 e.many), .d (.clo e.f [])] false⟩) ∧
        st.s 53 = .d (.int .i64 e.many) ∧ st.s 54 = .d (.int .i64 j) ∧ ∀ k, k < j → (e.of k == n) = false) ?_ ?_
      · simp -dsimp [g1, g2, g3, g4, g5, g6, g7]
      · rintro j ⟨s, hp⟩ hj ⟨g1, g2, g3, g4, g5, g6, g7, ⟨v, g9, g10⟩, g11, g12, g13⟩
        dsimp only at g1 g2 g3 g4 g5 g6 g7 g9 g10 g11 g12
        rcases Nat.lt_or_ge j e.many with hjl | hjg
        · have w2 : IntKind.i64.wrap ((j : Int) + 1) = (j : Int) + 1 := zab (by omega) (by omega)
          simp -dsimp [g1, g2, g3, g4, g5, g6, g7, g9, g10, g11, g12, hjl]
          refine zaa (hok j) ?_
          simp -dsimp [g1, g2, g3, g4, g5, g6, g7, g9, g10, g11, g12, hjl]
          (first | refine zal ?_ ?_ | refine zam ?_ ?_) <;> intro h5 <;> (try simp only [nrm] at h5) <;> simp -dsimp [h5, g1, g2, g3, g4, g5, g6, g7, g9, g10, g11, g12, hjl, w2]
          · have hh : hit n e = some j := zHf hjl g13 (by simpa using h5)
            have hk := zN9 hlt' g8 (by rw [he]; exact hh)
            rw [hk, he]
            simp
          · intro k hk
            rcases Nat.lt_or_ge k j with h | h
            · simpa using g13 k h
            · have : k = j := by omega
              subst this
              exact h5
        · have e2 : j = e.many := by omega
          subst e2
          simp -dsimp [g1, g2, g3, g4, g5, g6, g7, g9, g10, g11, g12, w1, hlt]
          refine zI8 hlt' g8 ?_
          rw [he]
          simp only [hit, List.find?_eq_none]
          intro k hk
          simpa using g13 k (by simpa using hk)
    · have e : i = 4 := by omega
      subst e
      simp -dsimp [g1, g2, g3, g4, g5, g6, g7]
      have : (tab b base).take 4 = tab b base := List.take_of_length_le (by omega)
      rw [this] at g8
      simp [g8]
end
section
attribute [local simp] zac zag tk tn tks zc4 zdf
theorem zBv (l : List Ar) (g : FuncId) (caps : List D) (p : Ar → Bool) (hp : ∀ x ∈ l, Pure Tryz.prog g (.agg (cAr x) :: caps) [.bool (p x)]) :
    Pure Tryz.prog ze5 [.sl 7 (l.map eAr), .clo g caps] [.int .i64 (idxF l p)] := by
  refine zoe rfl fun hs => ?_
  have hl := hs (.sl 7 (l.map eAr)) (by simp)
  simp [small] at hl
  replace hl := hl.1
  simp -dsimp [ze4]
  refine zaj l.length (fun i st => st.s 0 = .d (.sl 7 (l.map eAr)) ∧ st.s 1 = .d (.clo g caps) ∧ st.s 7 = .d (.int .i64 l.length) ∧ st.s 8 = .d (.int .i64 i) ∧ ∀ x ∈ l.take i, p x = false) ?_ ?_
  · simp -dsimp
  · rintro i ⟨s, hp'⟩ hi ⟨h1, h2, h3, h4, h5⟩
    dsimp only at h1 h2 h3 h4 h5
    rcases Nat.lt_or_ge i l.length with hlt | hge
    · have w1 : IntKind.i64.wrap ((i : Int) + 1) = (i : Int) + 1 := zab (by omega) (by omega)
      have hc : (cAr l[i]).length = 7 := rfl
      simp -dsimp [h1, h2, h3, h4, hlt, hc]
      have ht : (cAr l[i]).take 7 = cAr l[i] := List.take_of_length_le (by omega)
      refine zaa (by rw [ht]; exact hp l[i] (List.getElem_mem _)) ?_
      simp -dsimp [h1, h2, h3, h4, hlt]
      (first | refine zal ?_ ?_ | refine zam ?_ ?_) <;> intro h6 <;> (try simp only [nrm] at h6) <;> simp -dsimp [h6, h1, h2, h3, h4, hlt, w1]
      · have : l.findIdx? p = some i := by
          rw [List.findIdx?_eq_some_iff_getElem]
          refine ⟨hlt, h6, fun j hj => ?_⟩
          have := h5 l[j] (by rw [List.mem_take_iff_getElem]; exact ⟨j, by omega, rfl⟩)
          simpa using this
        simp only [idxF, this]
      · intro x hx
        rw [zdd (List.getElem?_eq_getElem hlt), List.mem_append] at hx
        rcases hx with hx | hx
        · simpa using h5 x hx
        · simp at hx; subst hx; exact h6
    · have e : i = l.length := by omega
      subst e
      rw [List.take_length] at h5
      have : l.findIdx? p = none := by
        rw [List.findIdx?_eq_none_iff]; exact h5
      simp -dsimp [h1, h2, h3, h4, idxF, this]
theorem zvx (l : List Ar) (g : FuncId) (caps : List D) (p : Ar → Bool) (hp : ∀ x ∈ l, Pure Tryz.prog g (.agg (cAr x) :: caps) [.bool (p x)]) :
    Pure Tryz.prog zd2 [.sl 7 (l.map eAr), .clo g caps] [.bool (l.any p)] := by
  refine zl4 rfl fun hs => ?_
  simp -dsimp [zd0]
  refine zaa (zBv l g caps p hp) ?_
  simp -dsimp [zFm]
theorem zAh (l : List Co) (g : FuncId) (caps : List D) (p : Co → Bool) (hp : ∀ x ∈ l, Pure Tryz.prog g (.agg (cCo x) :: caps) [.bool (p x)]) :
    Pure Tryz.prog ze1 [.sl 6 (l.map eCo), .clo g caps] [.int .i64 (idxF l p)] := by
  refine zn8 rfl fun hs => ?_
  have hl := hs (.sl 6 (l.map eCo)) (by simp)
  simp [small] at hl
  replace hl := hl.1
  simp -dsimp [ze7]
  refine zaj l.length (fun i st => st.s 0 = .d (.sl 6 (l.map eCo)) ∧ st.s 1 = .d (.clo g caps) ∧ st.s 7 = .d (.int .i64 l.length) ∧ st.s 8 = .d (.int .i64 i) ∧ ∀ x ∈ l.take i, p x = false) ?_ ?_
  · simp -dsimp
  · rintro i ⟨s, hp'⟩ hi ⟨h1, h2, h3, h4, h5⟩
    dsimp only at h1 h2 h3 h4 h5
    rcases Nat.lt_or_ge i l.length with hlt | hge
    · have w1 : IntKind.i64.wrap ((i : Int) + 1) = (i : Int) + 1 := zab (by omega) (by omega)
      have hc : (cCo l[i]).length = 6 := rfl
      simp -dsimp [h1, h2, h3, h4, hlt, hc]
      have ht : (cCo l[i]).take 6 = cCo l[i] := List.take_of_length_le (by omega)
      refine zaa (by rw [ht]; exact hp l[i] (List.getElem_mem _)) ?_
      simp -dsimp [h1, h2, h3, h4, hlt]
      (first | refine zal ?_ ?_ | refine zam ?_ ?_) <;> intro h6 <;> (try simp only [nrm] at h6) <;> simp -dsimp [h6, h1, h2, h3, h4, hlt, w1]
      · have : l.findIdx? p = some i := by
          rw [List.findIdx?_eq_some_iff_getElem]
          refine ⟨hlt, h6, fun j hj => ?_⟩
          have := h5 l[j] (by rw [List.mem_take_iff_getElem]; exact ⟨j, by omega, rfl⟩)
          simpa using this
        simp only [idxF, this]
      · intro x hx
        rw [zdd (List.getElem?_eq_getElem hlt), List.mem_append] at hx
        rcases hx with hx | hx
        · simpa using h5 x hx
        · simp at hx; subst hx; exact h6
    · have e : i = l.length := by omega
      subst e
      rw [List.take_length] at h5
      have : l.findIdx? p = none := by
        rw [List.findIdx?_eq_none_iff]; exact h5
      simp -dsimp [h1, h2, h3, h4, idxF, this]
theorem zv7 (l : List Co) (g : FuncId) (caps : List D) (p : Co → Bool) (hp : ∀ x ∈ l, Pure Tryz.prog g (.agg (cCo x) :: caps) [.bool (p x)]) :
    Pure Tryz.prog zd1 [.sl 6 (l.map eCo), .clo g caps] [.bool (l.any p)] := by
  refine zl1 rfl fun hs => ?_
  simp -dsimp [zds]
  refine zaa (zAh l g caps p hp) ?_
  simp -dsimp [zFm]
end
section
attribute [local simp] zac zag w64 tk tn tks zc4 zdf
def zx9 (t : T) : Bool := if t.kind = 0 then if t.num = 0 then decide ((t.kids.length : Int) = 0) else false else false
theorem zK6 (t : T) : Pure Tryz.prog znu [.agg (cT t)] [.bool (zx9 t)] := by
  refine zD2 rfl fun hs => ?_
  simp -dsimp [zq2, cT]
  (first | refine zal ?_ ?_ | refine zam ?_ ?_) <;> intro h1 <;> (try simp only [nrm] at h1) <;> simp -dsimp [h1, zx9]
  (first | refine zal ?_ ?_ | refine zam ?_ ?_) <;> intro h2 <;> (try simp only [nrm] at h2) <;> simp -dsimp [h2, zx9, h1]
def inM (t : T) (v : Int) : Bool := zmp t v 65536
theorem zOe (t : T) (v : Int) : Pure Tryz.prog zkp [.agg (cT t), .int .i64 v] [.bool (inM t v)] := by
  refine zHw rfl fun hs => ?_
  simp -dsimp [zu5, cT]
  refine zaa (zOh t v 65536) ?_
  simp -dsimp [inM]
theorem zR7 (t : T) (v : Int) : Pure Tryz.prog zke [.agg (cT t), .rp [.int .i64 v]] [.bool (!inM t v)] := by
  refine zA3 rfl fun hs => ?_
  simp -dsimp [znl, cT]
  refine zaa (zOe t v) ?_
  simp -dsimp
def allM (l : List T) (v : Int) : Bool := !l.any fun t => !inM t v
theorem zOl (l : List T) (v : Int) : Pure Tryz.prog zni [eTs l, .int .i64 v] [.bool (allM l v)] := by
  refine zEx rfl fun hs => ?_
  simp -dsimp [zrw, eTs]
  refine zaa (zf7 l zke [.rp [.int .i64 v]] (fun t => !inM t v) (fun x _ => zR7 x v)) ?_
  simp -dsimp [allM]
def zfl (is : Bool) (t : T) (v : Int) : Bool := if is then inM t v else zx9 t
theorem zGo (is : Bool) (t : T) (v : Int) : Pure Tryz.prog zkm [.bool is, .agg (cT t), .int .i64 v] [.bool (zfl is t v)] := by
  refine zBe rfl fun hs => ?_
  cases is with
  | false =>
    simp -dsimp [zkd, cT]
    refine zaa (zK6 t) ?_
    simp -dsimp [zfl]
  | true =>
    simp -dsimp [zkd, cT]
    refine zaa (zOe t v) ?_
    simp -dsimp [zfl]
def allI {α : Type} (p : Nat → α → Bool) : Nat → List α → Bool
  | _, [] => true
  | i, x :: xs => p i x && allI p (i + 1) xs
theorem zaq {α : Type} (p : Nat → α → Bool) : ∀ (l : List α) (i : Nat), allI p i l = true ↔ ∀ (j : Nat) (hj : j < l.length), p (i + j) l[j] = true
  | [], i => by simp [allI]
  | x :: xs, i => by
    rw [allI, Bool.and_eq_true, zaq p xs (i + 1)]
    constructor
    · rintro ⟨h1, h2⟩ j hj
      cases j with
      | zero => simpa using h1
      | succ j =>
        have := h2 j (by simpa using hj)
        have e : i + 1 + j = i + (j + 1) := by omega
        rw [e] at this
        simpa using this
    · intro h
      refine ⟨h 0 (by simp), fun j hj => ?_⟩
      have := h (j + 1) (by simpa using hj)
      have e : i + 1 + j = i + (j + 1) := by omega
      rw [e]
      simpa using this
theorem zpw {α : Type} {p : Nat → α → Bool} {l : List α} {j : Nat} (hj : j < l.length) (h : p j l[j] = false) : allI p 0 l = false := by
  cases hw : allI p 0 l with
  | false => rfl
  | true =>
    have := (zaq p l 0).1 hw j hj
    rw [Nat.zero_add, h] at this
    cases this
theorem zjr {α : Type} {p : Nat → α → Bool} {l : List α} {i : Nat} (hi : i < l.length) (h : ∀ (j : Nat) (hj : j < l.length), j < i → p j l[j] = true) (hx : p i l[i] = true) :
    ∀ (j : Nat) (hj : j < l.length), j < i + 1 → p j l[j] = true := by
  intro j hj hji
  rcases Nat.lt_or_ge j i with h' | h'
  · exact h j hj h'
  · have : j = i := by omega
    subst this
    exact hx
theorem zpy {α : Type} {p : Nat → α → Bool} {l : List α} (h : ∀ (j : Nat) (hj : j < l.length), j < l.length → p j l[j] = true) : allI p 0 l = true :=
  (zaq p l 0).2 fun j hj => by rw [Nat.zero_add]; exact h j hj hj
def domM (i : Int) (l : List T) : Bool := allI (fun j t => inM t (w64 (i + j))) 0 l
def argM (b : Bl) (a : Ar) (i : Int) : Bool :=
  if a.rc then
    if zx9 a.ty then
      if 12 < (a.dom.length : Int) then false else if a.sort < 0 then false else match b.sorts[a.sort.toNat]? with
      | none => false
      | some s => if (a.idx.length : Int) = (s.idx.length : Int) then domM i a.dom && allM a.idx (w64 (i + a.dom.length)) else false
    else false
  else if inM a.ty i then if w64 (a.dom.length + a.idx.length) = 0 then decide (a.sort = 0) else false else false
theorem zT4 (b : Bl) (a : Ar) (i : Int) : Pure Tryz.prog zrz [eBl b, .agg (cAr a), .int .i64 i] [.bool (argM b a i)] := by
  refine zEf rfl fun hs => ?_
  simp -dsimp [zrm, eBl, cBl, eSos, eCos, cAr, cT, eTs]
  cases hr : a.rc with
  | false =>
    simp -dsimp [hr]
    refine zaa (zOe a.ty i) ?_
    simp -dsimp
    (first | refine zal ?_ ?_ | refine zam ?_ ?_) <;> intro h1 <;> (try simp only [nrm] at h1) <;> simp -dsimp [h1, argM, hr]
    · (first | refine zal ?_ ?_ | refine zam ?_ ?_) <;> intro h2 <;> (try simp only [nrm] at h2) <;> simp -dsimp [h2, argM, hr, h1]
  | true =>
    simp -dsimp [hr]
    refine zaa (zK6 a.ty) ?_
    simp -dsimp
    (first | refine zal ?_ ?_ | refine zam ?_ ?_) <;> intro h1 <;> (try simp only [nrm] at h1) <;> simp -dsimp [h1, argM, hr]
    (first | refine zal ?_ ?_ | refine zam ?_ ?_) <;> intro h2 <;> (try simp only [nrm] at h2) <;> simp -dsimp [h2, argM, hr, h1]
    (first | refine zal ?_ ?_ | refine zam ?_ ?_) <;> intro h3 <;> (try simp only [nrm] at h3) <;> simp -dsimp [h3, argM, hr, h1, h2]
    (first | refine zal ?_ ?_ | refine zam ?_ ?_) <;> intro h4 <;> (try simp only [nrm] at h4) <;> simp -dsimp [h4, argM, hr, h1, h2, h3]
    · have : b.sorts[a.sort.toNat]? = none := List.getElem?_eq_none (by omega)
      simp [this]
    have hlt : a.sort.toNat < b.sorts.length := by omega
    have h0 : 0 ≤ a.sort := by omega
    have hA : argM b a i = if (a.idx.length : Int) = (b.sorts[a.sort.toNat].idx.length : Int) then domM i a.dom && allM a.idx (w64 (i + a.dom.length)) else false := by
      simp [argM, hr, h1, h2, h3, hlt]
    simp -dsimp [hr, h1, h2, h3, h4, hlt, h0, eSo, cSo, eArs, cT]
    (first | refine zal ?_ ?_ | refine zam ?_ ?_) <;> intro h5 <;> (try simp only [nrm] at h5) <;> simp -dsimp [h5, hr, h1, h2, h3, h4, hlt, h0, eSo, cSo, eArs, cT]
    · rw [hA, if_neg h5]
    rw [hA, if_pos h5]
    have hd : a.dom.length ≤ 12 := by omega
    refine zaj a.dom.length (fun j st => st.s 2 = .d (.int .i64 i) ∧ st.s 4 = .ptr 4 1 0 ∧ st.h 4 = ⟨1, .box [.d (.bool true), .d (.int .i64 a.ty.kind), .d (.int .i64 a.ty.num), .d (.sl 3 (a.ty.kids.map eT)), .d (.sl 3 (a.dom.map eT)), .d (.int .i64 a.sort), .d (.sl 3 (a.idx.map eT))] false⟩ ∧
      st.s 69 = .d (.sl 3 (a.dom.map eT)) ∧ st.s 70 = .d (.int .i64 a.dom.length) ∧ st.s 71 = .d (.int .i64 j) ∧ ∀ (k : Nat) (hk : k < a.dom.length), k < j → inM a.dom[k] (w64 (i + k)) = true) ?_ ?_
    · simp -dsimp [hr]
    · rintro j ⟨s, hp⟩ hj ⟨g1, g2, g3, g4, g5, g6, g7⟩
      dsimp only at g1 g2 g3 g4 g5 g6
      rcases Nat.lt_or_ge j a.dom.length with hlt | hge
      · have w1 : IntKind.i64.wrap ((j : Int) + 1) = (j : Int) + 1 := zab (by omega) (by omega)
        simp -dsimp [g1, g2, g3, g4, g5, g6, hlt, cT]
        refine zaa (zOe a.dom[j] _) ?_
        simp -dsimp [g1, g2, g3, g4, g5, g6, hlt]
        (first | refine zal ?_ ?_ | refine zam ?_ ?_) <;> intro h6 <;> (try simp only [nrm] at h6) <;> simp -dsimp [h6, g1, g2, g3, g4, g5, g6, hlt, w1]
        · have : domM i a.dom = false := zpw hlt h6
          simp [this]
        · exact zjr (p := fun j t => inM t (w64 (i + j))) hlt g7 h6
      · have e : j = a.dom.length := by omega
        subst e
        have : domM i a.dom = true := zpy g7
        simp -dsimp [g1, g2, g3, g4, g5, g6]
        refine zaa (zOl a.idx _) ?_
        simp -dsimp [this]
def rowM (b : Bl) (l : List Ar) : Bool := if 12 < (l.length : Int) then false else allI (fun i a => argM b a i) 0 l
theorem zOn (b : Bl) (l : List Ar) : Pure Tryz.prog zn2 [eBl b, eArs l] [.bool (rowM b l)] := by
  refine zEz rfl fun hs => ?_
  simp -dsimp [zro, eBl, cBl, eSos, eCos, eArs]
  (first | refine zal ?_ ?_ | refine zam ?_ ?_) <;> intro h1 <;> (try simp only [nrm] at h1) <;> simp -dsimp [h1, rowM]
  have hl : l.length ≤ 12 := by omega
  have hR : rowM b l = allI (fun i a => argM b a i) 0 l := by rw [rowM, if_neg h1]
  rw [hR]
  refine zaj l.length (fun i st => st.s 2 = .ptr 2 1 0 ∧ st.h 2 = ⟨1, .box [.d (.sl 6 (b.sorts.map eSo)), .d (.sl 6 (b.cons.map eCo)), .d (.int .i64 b.elim)] false⟩ ∧ st.s 10 = .d (.sl 7 (l.map eAr)) ∧ st.s 11 = .d (.int .i64 l.length) ∧ st.s 12 = .d (.int .i64 i) ∧
    ∀ (j : Nat) (hj : j < l.length), j < i → argM b l[j] j = true) ?_ ?_
  · simp -dsimp
  · rintro i ⟨s, hp⟩ hi ⟨g1, g2, g3, g4, g5, g6⟩
    dsimp only at g1 g2 g3 g4 g5
    rcases Nat.lt_or_ge i l.length with hlt | hge
    · have w1 : IntKind.i64.wrap ((i : Int) + 1) = (i : Int) + 1 := zab (by omega) (by omega)
      simp -dsimp [g1, g2, g3, g4, g5, hlt, eAr, cAr, cT, eTs]
      refine zaa (zT4 b l[i] i) ?_
      simp -dsimp [g1, g2, g3, g4, g5, hlt]
      (first | refine zal ?_ ?_ | refine zam ?_ ?_) <;> intro h6 <;> (try simp only [nrm] at h6) <;> simp -dsimp [h6, g1, g2, g3, g4, g5, hlt, w1]
      · exact zpw (p := fun i a => argM b a i) hlt h6
      · exact zjr (p := fun i a => argM b a i) hlt g6 h6
    · have e : i = l.length := by omega
      subst e
      simp -dsimp [g1, g2, g3, g4, g5, zpy (p := fun i a => argM b a i) g6]
def zim (k : Int) (s : So) (a : Ar) : Bool := if a.rc then if 0 < (a.dom.length : Int) then true else if k ≤ a.sort then true else s.dec else false
theorem zNa (k : Int) (s : So) (a : Ar) : Pure Tryz.prog zjm [.agg (cAr a), .rp [.int .i64 k], .rp (cSo s)] [.bool (zim k s a)] := by
  refine zy5 rfl fun hs => ?_
  cases hr : a.rc with
  | false =>
    simp -dsimp [zjk, cAr, cSo, cT, eTs, eArs, hr, zim]
  | true =>
    simp -dsimp [zjk, cAr, cSo, cT, eTs, eArs, hr]
    (first | refine zal ?_ ?_ | refine zam ?_ ?_) <;> intro h1 <;> (try simp only [nrm] at h1) <;> simp -dsimp [h1, zim, hr]
    (first | refine zal ?_ ?_ | refine zam ?_ ?_) <;> intro h2 <;> (try simp only [nrm] at h2) <;> simp -dsimp [h2, zim, hr, h1]
def zlx (n : Int) : Bool := decide (0 ≤ n) && decide (n ≤ 6)
def zhp (b : Bl) (k : Nat) (s : So) : Bool :=
  if rowM b s.idx then if zlx s.level then if zfl s.dec s.dty s.idx.length then !s.idx.any (zim k s) else false else false else false
theorem zRu (b : Bl) (k : Nat) (hk : k < b.sorts.length) : Pure Tryz.prog zpf [eBl b, .int .i64 k] [.bool (zhp b k b.sorts[k])] := by
  refine zDa rfl fun hs => ?_
  simp -dsimp [zpv, eBl, cBl, eSos, eCos, hk, eSo, cSo, cT, eArs]
  refine zaa (zOn b b.sorts[k].idx) ?_
  simp -dsimp
  (first | refine zal ?_ ?_ | refine zam ?_ ?_) <;> intro h1 <;> (try simp only [nrm] at h1) <;> simp -dsimp [h1, zhp]
  refine zaa (rs := [.bool (zlx b.sorts[k].level)]) (zGl b.sorts[k].level) ?_
  simp -dsimp [h1]
  (first | refine zal ?_ ?_ | refine zam ?_ ?_) <;> intro h2 <;> (try simp only [nrm] at h2) <;> simp -dsimp [h2, zhp, h1]
  refine zaa (zGo b.sorts[k].dec b.sorts[k].dty b.sorts[k].idx.length) ?_
  simp -dsimp [h1, h2]
  (first | refine zal ?_ ?_ | refine zam ?_ ?_) <;> intro h3 <;> (try simp only [nrm] at h3) <;> simp -dsimp [h3, zhp, h1, h2]
  refine zaa (zvx b.sorts[k].idx zjm [.rp [.int .i64 k], .rp (cSo b.sorts[k])] (zim k b.sorts[k]) (fun x _ => zNa k _ x)) ?_
  simp -dsimp [zhp, h1, h2, h3]
def conM (b : Bl) (c : Co) : Bool :=
  if c.sort < 0 then false else if rowM b c.args then match b.sorts[c.sort.toNat]? with
  | none => false
  | some s => if (c.idx.length : Int) = (s.idx.length : Int) then if allM c.idx c.args.length then zfl s.dec c.dec c.args.length else false else false
  else false
theorem zTc (b : Bl) (c : Co) : Pure Tryz.prog zse [eBl b, eCo c] [.bool (conM b c)] := by
  refine zD3 rfl fun hs => ?_
  simp -dsimp [zr6, eBl, cBl, eSos, eCos, eCo, cCo, cT, eArs, eTs]
  (first | refine zal ?_ ?_ | refine zam ?_ ?_) <;> intro h1 <;> (try simp only [nrm] at h1) <;> simp -dsimp [h1, conM]
  (first | refine zal ?_ ?_ | refine zam ?_ ?_) <;> intro h2 <;> (try simp only [nrm] at h2) <;> simp -dsimp [h2, conM, h1]
  · have : b.sorts[c.sort.toNat]? = none := List.getElem?_eq_none (by omega)
    simp [this]
  refine zaa (zOn b c.args) ?_
  have hlt : c.sort.toNat < b.sorts.length := by omega
  have h0 : 0 ≤ c.sort := by omega
  simp -dsimp [h1, h2]
  (first | refine zal ?_ ?_ | refine zam ?_ ?_) <;> intro h3 <;> (try simp only [nrm] at h3) <;> simp -dsimp [h3, conM, h1, h2]
  have hA : conM b c = if (c.idx.length : Int) = (b.sorts[c.sort.toNat].idx.length : Int) then if allM c.idx c.args.length then zfl b.sorts[c.sort.toNat].dec c.dec c.args.length else false else false := by
    simp [conM, h1, h3, hlt]
  simp -dsimp [h1, h2, h3, hlt, h0, eSo, cSo, eArs, cT, eTs]
  (first | refine zal ?_ ?_ | refine zam ?_ ?_) <;> intro h4 <;> (try simp only [nrm] at h4) <;> simp -dsimp [h4, h1, h2, h3, hlt, h0, eSo, cSo, eArs, cT]
  · refine zaa (zOl c.idx _) ?_
    simp -dsimp [h4]
    (first | refine zal ?_ ?_ | refine zam ?_ ?_) <;> intro h5 <;> (try simp only [nrm] at h5) <;> simp -dsimp [h5, h4]
    · refine zaa (zGo _ c.dec _) ?_
      simp -dsimp [h4, h5, hA]
    · rw [hA, if_pos h4, h5]; rfl
  · rw [hA, if_neg h4]
theorem zJ3 (b : Bl) (c : Co) : Pure Tryz.prog zit [eCo c, .rp (cBl b)] [.bool (!conM b c)] := by
  refine zxu rfl fun hs => ?_
  simp -dsimp [zkw, cBl, eSos, eCos, eCo, cCo, cT, eArs, eTs]
  refine zaa (zTc b c) ?_
  simp -dsimp
def zfq (b : Bl) : Int :=
  if (b.sorts.length : Int) < 1 then 12 else if 4 < (b.sorts.length : Int) then 12 else if 8 < (b.cons.length : Int) then 12 else if zlx b.elim then
    if allI (fun k s => zhp b k s) 0 b.sorts then if b.cons.any fun c => !conM b c then 12 else 0 else 12
  else 12
theorem zK2 (b : Bl) : Pure Tryz.prog znz [eBl b] [.int .i64 (zfq b)] := by
  refine zz7 rfl fun hs => ?_
  simp -dsimp [zmy, eBl, cBl, eSos, eCos]
  (first | refine zal ?_ ?_ | refine zam ?_ ?_) <;> intro h1 <;> (try simp only [nrm] at h1) <;> simp -dsimp [h1, zfq]
  (first | refine zal ?_ ?_ | refine zam ?_ ?_) <;> intro h2 <;> (try simp only [nrm] at h2) <;> simp -dsimp [h2, zfq, h1]
  (first | refine zal ?_ ?_ | refine zam ?_ ?_) <;> intro h3 <;> (try simp only [nrm] at h3) <;> simp -dsimp [h3, zfq, h1, h2]
  refine zaa (rs := [.bool (zlx b.elim)]) (zGl b.elim) ?_
  simp -dsimp [h1, h2, h3]
  (first | refine zal ?_ ?_ | refine zam ?_ ?_) <;> intro h4 <;> (try simp only [nrm] at h4) <;> simp -dsimp [h4, zfq, h1, h2, h3]
  have hl : b.sorts.length ≤ 4 := by omega
  have hC : zfq b = if allI (fun k s => zhp b k s) 0 b.sorts then if b.cons.any fun c => !conM b c then 12 else 0 else 12 := by
    rw [zfq, if_neg h1, if_neg h2, if_neg h3, if_pos h4]
  rw [hC]
  refine zaj b.sorts.length (fun i st => st.s 1 = .ptr 1 1 0 ∧ st.h 1 = ⟨1, .box [.d (.sl 6 (b.sorts.map eSo)), .d (.sl 6 (b.cons.map eCo)), .d (.int .i64 b.elim)] false⟩ ∧ st.s 28 = .d (.int .i64 b.sorts.length) ∧ st.s 29 = .d (.int .i64 i) ∧
    ∀ (j : Nat) (hj : j < b.sorts.length), j < i → zhp b j b.sorts[j] = true) ?_ ?_
  · simp -dsimp
  · rintro i ⟨s, hp⟩ hi ⟨g1, g2, g3, g4, g5⟩
    dsimp only at g1 g2 g3 g4
    rcases Nat.lt_or_ge i b.sorts.length with hlt | hge
    · have w1 : IntKind.i64.wrap ((i : Int) + 1) = (i : Int) + 1 := zab (by omega) (by omega)
      simp -dsimp [g1, g2, g3, g4, hlt]
      refine zaa (zRu b i hlt) ?_
      simp -dsimp [g1, g2, g3, g4, hlt]
      (first | refine zal ?_ ?_ | refine zam ?_ ?_) <;> intro h6 <;> (try simp only [nrm] at h6) <;> simp -dsimp [h6, g1, g2, g3, g4, hlt, w1]
      · intro h
        rw [zpw (p := fun k s => zhp b k s) hlt h6] at h
        cases h
      · exact zjr (p := fun k s => zhp b k s) hlt g5 h6
    · have e : i = b.sorts.length := by omega
      subst e
      have hA : allI (fun k s => zhp b k s) 0 b.sorts = true := zpy (p := fun k s => zhp b k s) g5
      simp -dsimp [g1, g2, g3, g4, hA]
      refine zaa (zv7 b.cons zit [.rp (cBl b)] (fun c => !conM b c) (fun x _ => zJ3 b x)) ?_
      simp -dsimp [g1, g2, g3, g4]
      (first | refine zal ?_ ?_ | refine zam ?_ ?_) <;> intro h7 <;> (try simp only [nrm] at h7) <;> simp -dsimp [h7, g1, g2, g3, g4, hA]
end
section
attribute [local simp] zac zag w64 tk tn tks zc4 zdf
def recA (n : Int) (l : List T) : Ar := ⟨true, zT, [], n, l⟩
theorem zS8 (n : Int) (l : List T) (hl : l.length * 40 ≤ zah) : Pure Tryz.prog zi4 [.int .i64 n, eTs l] [.agg (cAr (recA n l))] := by
  refine zvd rfl fun hs => ?_
  simp -dsimp [hl, zjf, eTs, cAr, recA, zT, cT, T.kind, T.num, T.kids]
def zL0 (b : Bl) : List D := [.int .i64 3, .int .i64 0, .int .i64 0, .sl 3 [], .int .i64 0, .int .i64 0, .sl 3 []] ++ cBl b
theorem zR5 (b : Bl) : Pure Tryz.prog zio [eBl b] [.agg (zL0 b)] := by
  refine zsj rfl fun hs => ?_
  simp -dsimp [zir, eBl, cBl, eSos, eCos, zL0]
def natB : Bl := ⟨[⟨[], 0, false, zT⟩], [⟨0, [], [], zT⟩, ⟨0, [recA 0 []], [], zT⟩], 0⟩
theorem zUn : Pure Tryz.prog zi2 [] [.agg (zL0 natB)] := by
  refine zvb rfl fun hs => ?_
  simp -dsimp [ziy]
  refine zaa (zS8 0 [] (by decide)) ?_
  simp -dsimp [cAr, recA, zT, cT, T.kind, T.num, T.kids, eTs]
  refine zaa (zR5 natB) ?_
  simp -dsimp [zL0, cBl, eSos, eCos]
end
section
attribute [local simp] zac zag tk tn tks zc4 zdf
def is64 (n : Int) : Prop := -9223372036854775808 ≤ n ∧ n < 9223372036854775808
structure Fit (b : Bl) : Prop where
  s : b.sorts.length ≤ 10
  c : b.cons.length ≤ 20
theorem zO7 {b : Bl} (h : ziz b = false) : Fit b := by
  simp only [ziz, Bool.or_eq_false_iff, decide_eq_false_iff_not] at h
  exact ⟨by omega, by omega⟩
theorem zAf {b : Bl} (hf : Fit b) : zu4 b = 2 * b.sorts.length + decs b.sorts + b.cons.length := by
  have h1 := hf.s
  have h2 := hf.c
  have h3 := zij b.sorts
  rw [zu4, zev, zev, zev] <;> (try rw [zev, zev]) <;> (try rw [zev]) <;> omega
theorem zwv {base ahead k many : Int} (h0 : 0 ≤ base) (h1 : base ≤ 65535) (h2 : 0 ≤ ahead) (h3 : ahead ≤ 1000) (h4 : many ≤ 1000) :
    zjn base ahead k many = if 0 ≤ k ∧ k < many then base + ahead + k else -1 := by
  by_cases h : 0 ≤ k ∧ k < many
  · rw [zjn, if_neg (by omega), if_pos h, zev, zev] <;> (try rw [zev]) <;> omega
  · rw [zjn, if_pos (by omega), if_neg h]
theorem zk0 {b : Bl} (hf : Fit b) {base : Int} (h0 : 0 ≤ base) (h1 : base ≤ 65535) (k : Int) : zbl b base k = if 0 ≤ k ∧ k < b.sorts.length then base + k else -1 := by
  have hs := hf.s
  rw [zbl, zwv h0 h1 (by omega) (by omega) (by omega)]
  split <;> omega
theorem ze0 {b : Bl} (hf : Fit b) {base : Int} (h0 : 0 ≤ base) (h1 : base ≤ 65535) (k : Int) : zak b base k = if 0 ≤ k ∧ k < b.cons.length then base + (b.sorts.length + decs b.sorts) + k else -1 := by
  have hs := hf.s
  have hc := hf.c
  have h3 := zij b.sorts
  rw [zak, zev (by omega) (by omega), zwv h0 h1 (by omega) (by omega) (by omega)]
theorem znw {b : Bl} (hf : Fit b) {base : Int} (h0 : 0 ≤ base) (h1 : base ≤ 65535) (k : Int) : zb6 b base k = if 0 ≤ k ∧ k < b.sorts.length then base + (b.sorts.length + decs b.sorts + b.cons.length) + k else -1 := by
  have hs := hf.s
  have hc := hf.c
  have h3 := zij b.sorts
  rw [zb6, zev (n := (b.sorts.length : Int) + decs b.sorts) (by omega) (by omega), zev (by omega) (by omega), zwv h0 h1 (by omega) (by omega) (by omega)]
theorem zvc {b : Bl} (hf : Fit b) {base : Int} (h0 : 0 ≤ base) (h1 : base ≤ 65535) (k : Int) :
    zdy b base k = if h : 0 ≤ k ∧ k < b.sorts.length then if (b.sorts[k.toNat]'(by omega)).dec then base + b.sorts.length + decs (b.sorts.take k.toNat) else -1 else -1 := by
  have hs := hf.s
  by_cases h : 0 ≤ k ∧ k < b.sorts.length
  · have hlt : k.toNat < b.sorts.length := by omega
    have h3 := zij (b.sorts.take k.toNat)
    rw [List.length_take] at h3
    rw [dif_pos h, zdy, if_neg (by omega), List.getElem?_eq_getElem hlt]
    dsimp only
    split
    · rw [zwv h0 h1 (by omega) (by omega) (by omega), if_pos (by omega)]
    · rfl
  · rw [dif_neg h, zdy]
    by_cases hk : k < 0
    · rw [if_pos hk]
    · rw [if_neg hk, List.getElem?_eq_none (by omega)]
theorem zIt : ∀ (l : List So) (j : Nat), j < decs l → ∃ (k : Nat) (hk : k < l.length), l[k].dec = true ∧ decs (l.take k) = j
  | [], j, h => by simp [decs] at h
  | s :: l, j, h => by
    cases hd : s.dec with
    | false =>
      obtain ⟨k, hk, h1, h2⟩ := zIt l j (by simpa [decs, hd] using h)
      exact ⟨k + 1, by simpa using hk, by simpa using h1, by simpa [decs, hd] using h2⟩
    | true =>
      cases j with
      | zero => exact ⟨0, by simp, by simpa using hd, by simp [decs]⟩
      | succ j =>
        obtain ⟨k, hk, h1, h2⟩ := zIt l j (by simp [decs, hd] at h; simpa [decs] using h)
        exact ⟨k + 1, by simpa using hk, by simpa using h1, by simp [decs, hd] at h2 ⊢; exact h2⟩
theorem zNu {n : Int} {e : En} {k : Nat} (h : hit n e = some k) : k < e.many ∧ e.of k = n := by
  have h1 := List.find?_some h
  have h2 := List.mem_of_find?_eq_some h
  exact ⟨by simpa using h2, by simpa using h1⟩
theorem zs5 {n : Int} {l : List En} {p : Int × Int} (h : seek n l = some p) : ∃ e ∈ l, ∃ k : Nat, k < e.many ∧ e.of k = n ∧ p = (e.kind, (k : Int)) := by
  obtain ⟨e, he, h1⟩ := List.exists_of_findSome?_eq_some h
  cases hh : hit n e with
  | none => rw [hh] at h1; cases h1
  | some k =>
    rw [hh] at h1
    obtain ⟨h2, h3⟩ := zNu hh
    exact ⟨e, he, k, h2, h3, (Option.some.inj h1).symm⟩
theorem znf {n : Int} {l : List En} {e : En} (he : e ∈ l) {k : Nat} (hk : k < e.many) (hn : e.of k = n) : ∃ p, seek n l = some p := by
  cases h : seek n l with
  | some p => exact ⟨p, rfl⟩
  | none =>
    have h1 := List.findSome?_eq_none_iff.1 h e he
    cases hh : hit n e with
    | some k => rw [hh] at h1; cases h1
    | none =>
      have h2 := List.find?_eq_none.1 hh k (by simpa using hk)
      simp [hn] at h2
theorem zSx {b : Bl} (hf : Fit b) {base : Int} (h0 : 0 ≤ base) (h1 : base ≤ 65535) {n : Int} (hn : base ≤ n) (hc : n < base + zu4 b) :
    ∃ e ∈ tab b base, ∃ k : Nat, k < e.many ∧ e.of k = n ∧ ofM b base n = (e.kind, (k : Int)) := by
  have hs := hf.s
  have hcc := hf.c
  have h3 := zij b.sorts
  have hci := zAf hf
  have hb : base ≤ 65535 := by omega
  have hso : ∃ p, seek n (tab b base) = some p := by
    by_cases c1 : n < base + b.sorts.length
    · exact znf (e := ⟨3, b.sorts.length, zc1, zbl b base⟩) (k := (n - base).toNat) (by simp [tab]) (by simp; omega) (by simp only; rw [zk0 hf h0 hb, if_pos (by omega)]; omega)
    by_cases c2 : n < base + b.sorts.length + decs b.sorts
    · obtain ⟨k, hk, d1, d2⟩ := zIt b.sorts (n - base - b.sorts.length).toNat (by omega)
      refine znf (e := ⟨4, b.sorts.length, zd8, zdy b base⟩) (k := k) (by simp [tab]) hk ?_
      simp only
      rw [zvc hf h0 hb, dif_pos (by omega), if_pos (by simpa using d1), Int.toNat_natCast, d2]
      omega
    by_cases c3 : n < base + b.sorts.length + decs b.sorts + b.cons.length
    · exact znf (e := ⟨5, b.cons.length, zbt, zak b base⟩) (k := (n - base - b.sorts.length - decs b.sorts).toNat) (by simp [tab]) (by simp; omega) (by simp only; rw [ze0 hf h0 hb, if_pos (by omega)]; omega)
    · exact znf (e := ⟨6, b.sorts.length, zcn, zb6 b base⟩) (k := (n - base - b.sorts.length - decs b.sorts - b.cons.length).toNat) (by simp [tab]) (by simp; omega) (by simp only; rw [znw hf h0 hb, if_pos (by omega)]; omega)
  obtain ⟨p, hp⟩ := hso
  obtain ⟨e, he, k, g1, g2, g3⟩ := zs5 hp
  refine ⟨e, he, k, g1, g2, ?_⟩
  rw [ofM, if_neg, hp, g3]
  · rfl
  · rw [zev (by omega) (by omega)]; omega
theorem zTk {b : Bl} (hf : Fit b) {base : Int} (h0 : 0 ≤ base) {n : Int} (hn64 : is64 n) (hn : n < base ∨ base + zu4 b ≤ n) : ofM b base n = (0, 0) := by
  obtain ⟨m1, m2⟩ := hn64
  rw [ofM, if_pos]
  rcases hn with hn | hn
  · omega
  · have := zAf hf
    rw [zev (by omega) (by omega)]
    omega
end
section
attribute [local simp] zac zag tk tn tks zc4 zdf
theorem zyl (l : List So) {a c : Nat} (h : a ≤ c) : decs (l.take a) ≤ decs (l.take c) := by
  have h1 : (l.take a).Sublist (l.take c) := List.take_sublist_take_left h
  exact (h1.filter _).length_le
theorem zBo (l : List So) {k : Nat} (hk : k < l.length) (hd : l[k].dec = true) : decs (l.take (k + 1)) = decs (l.take k) + 1 := by
  rw [zxz l k l[k] (List.getElem?_eq_getElem hk), hd]
  rfl
theorem zR8 (l : List So) {k m : Nat} (hk : k < l.length) (hm : m < l.length) (hd : l[k].dec = true) (hd' : l[m].dec = true) (h : decs (l.take k) = decs (l.take m)) : k = m := by
  rcases Nat.lt_trichotomy k m with c | c | c
  · have := zyl l (show k + 1 ≤ m from c)
    rw [zBo l hk hd] at this
    omega
  · exact c
  · have := zyl l (show m + 1 ≤ k from c)
    rw [zBo l hm hd'] at this
    omega
theorem zOs (l : List So) {k : Nat} (hk : k < l.length) (hd : l[k].dec = true) : decs (l.take k) + 1 ≤ decs l := by
  have := zyl l (show k + 1 ≤ l.length from hk)
  rw [zBo l hk hd, List.take_length] at this
  exact this
theorem zf9 {b : Bl} (hf : Fit b) {base : Int} (h0 : 0 ≤ base) (h1 : base ≤ 65535) {k n : Int} (hn : 0 ≤ n) (h : zdy b base k = n) :
    ∃ (j : Nat) (hj : j < b.sorts.length), k = j ∧ b.sorts[j].dec = true ∧ n = base + b.sorts.length + decs (b.sorts.take j) := by
  rw [zvc hf h0 h1] at h
  by_cases c : 0 ≤ k ∧ k < b.sorts.length
  · rw [dif_pos c] at h
    have hlt : k.toNat < b.sorts.length := by omega
    cases hd : b.sorts[k.toNat].dec with
    | true => rw [hd] at h; exact ⟨k.toNat, hlt, by omega, hd, by simpa using h.symm⟩
    | false => rw [hd] at h; simp at h; omega
  · rw [dif_neg c] at h; omega
theorem zh8 {b : Bl} (hf : Fit b) {base : Int} (h0 : 0 ≤ base) (h1 : base ≤ 65535) {k n : Int} (hn : 0 ≤ n) (h : zbl b base k = n) : 0 ≤ k ∧ k < b.sorts.length ∧ n = base + k := by
  rw [zk0 hf h0 h1] at h
  split at h <;> omega
theorem zcd {b : Bl} (hf : Fit b) {base : Int} (h0 : 0 ≤ base) (h1 : base ≤ 65535) {k n : Int} (hn : 0 ≤ n) (h : zak b base k = n) : 0 ≤ k ∧ k < b.cons.length ∧ n = base + (b.sorts.length + decs b.sorts) + k := by
  rw [ze0 hf h0 h1] at h
  split at h <;> omega
theorem zc0 {b : Bl} (hf : Fit b) {base : Int} (h0 : 0 ≤ base) (h1 : base ≤ 65535) {k n : Int} (hn : 0 ≤ n) (h : zb6 b base k = n) : 0 ≤ k ∧ k < b.sorts.length ∧ n = base + (b.sorts.length + decs b.sorts + b.cons.length) + k := by
  rw [znw hf h0 h1] at h
  split at h <;> omega
theorem off {b : Bl} {base : Int} (h : ¬(0 ≤ base ∧ base ≤ 65535)) (k : Int) : zbl b base k = -1 ∧ zdy b base k = -1 ∧ zak b base k = -1 ∧ zb6 b base k = -1 := by
  refine ⟨?_, ?_, ?_, ?_⟩
  · rw [zbl, zjn, if_pos (by omega)]
  · rw [zdy]
    split
    · rfl
    · split
      · rfl
      · split
        · rw [zjn, if_pos (by omega)]
        · rfl
  · rw [zak, zjn, if_pos (by omega)]
  · rw [zb6, zjn, if_pos (by omega)]
theorem zM5 {b : Bl} (hf : Fit b) {base n : Int} (hn : 0 ≤ n) {e : En} (he : e ∈ tab b base) {k : Nat} (h : e.of k = n) : ofM b base n = (e.kind, (k : Int)) := by
  by_cases hb : 0 ≤ base ∧ base ≤ 65535
  · obtain ⟨h0, h1⟩ := hb
    have hs := hf.s
    have hc := hf.c
    have hd := zij b.sorts
    have hr : base ≤ n ∧ n < base + zu4 b := by
      rw [zAf hf]
      simp only [tab, List.mem_cons, List.not_mem_nil, or_false] at he
      rcases he with rfl | rfl | rfl | rfl <;> simp only at h
      · have := zh8 hf h0 h1 hn h; omega
      · obtain ⟨j, hj, _, hd1, hd2⟩ := zf9 hf h0 h1 hn h
        have := zOs b.sorts hj hd1
        omega
      · have := zcd hf h0 h1 hn h; omega
      · have := zc0 hf h0 h1 hn h; omega
    obtain ⟨e', he', k', _, g2, g3⟩ := zSx hf h0 h1 hr.1 hr.2
    rw [g3]
    simp only [tab, List.mem_cons, List.not_mem_nil, or_false] at he he'
    have D : ∀ {j : Nat} (hj : j < b.sorts.length), b.sorts[j].dec = true → decs (b.sorts.take j) + 1 ≤ decs b.sorts := fun hj hd1 => zOs b.sorts hj hd1
    rcases he with rfl | rfl | rfl | rfl <;> rcases he' with rfl | rfl | rfl | rfl <;> simp only at h g2
    · have a1 := zh8 hf h0 h1 hn h; have a2 := zh8 hf h0 h1 hn g2
      have : k' = k := by omega
      subst this; rfl
    · have a1 := zh8 hf h0 h1 hn h; obtain ⟨j, hj, _, hd1, hd2⟩ := zf9 hf h0 h1 hn g2; omega
    · have a1 := zh8 hf h0 h1 hn h; have a2 := zcd hf h0 h1 hn g2; omega
    · have a1 := zh8 hf h0 h1 hn h; have a2 := zc0 hf h0 h1 hn g2; omega
    · obtain ⟨j, hj, _, hd1, hd2⟩ := zf9 hf h0 h1 hn h; have a1 := zh8 hf h0 h1 hn g2; omega
    · obtain ⟨j, hj, ej, hd1, hd2⟩ := zf9 hf h0 h1 hn h; obtain ⟨i, hi, ei, he1, he2⟩ := zf9 hf h0 h1 hn g2
      have : i = j := zR8 b.sorts hi hj he1 hd1 (by omega)
      have : k' = k := by omega
      subst this; rfl
    · obtain ⟨j, hj, _, hd1, hd2⟩ := zf9 hf h0 h1 hn h; have a1 := zcd hf h0 h1 hn g2; have := D hj hd1; omega
    · obtain ⟨j, hj, _, hd1, hd2⟩ := zf9 hf h0 h1 hn h; have a1 := zc0 hf h0 h1 hn g2; have := D hj hd1; omega
    · have a1 := zcd hf h0 h1 hn h; have a2 := zh8 hf h0 h1 hn g2; omega
    · have a1 := zcd hf h0 h1 hn h; obtain ⟨j, hj, _, hd1, hd2⟩ := zf9 hf h0 h1 hn g2; have := D hj hd1; omega
    · have a1 := zcd hf h0 h1 hn h; have a2 := zcd hf h0 h1 hn g2
      have : k' = k := by omega
      subst this; rfl
    · have a1 := zcd hf h0 h1 hn h; have a2 := zc0 hf h0 h1 hn g2; omega
    · have a1 := zc0 hf h0 h1 hn h; have a2 := zh8 hf h0 h1 hn g2; omega
    · have a1 := zc0 hf h0 h1 hn h; obtain ⟨j, hj, _, hd1, hd2⟩ := zf9 hf h0 h1 hn g2; have := D hj hd1; omega
    · have a1 := zc0 hf h0 h1 hn h; have a2 := zcd hf h0 h1 hn g2; omega
    · have a1 := zc0 hf h0 h1 hn h; have a2 := zc0 hf h0 h1 hn g2
      have : k' = k := by omega
      subst this; rfl
  · obtain ⟨o1, o2, o3, o4⟩ := off (b := b) hb (k : Int)
    simp only [tab, List.mem_cons, List.not_mem_nil, or_false] at he
    rcases he with rfl | rfl | rfl | rfl <;> simp only at h <;> omega
theorem zIv {b : Bl} (hf : Fit b) {base n : Int} (hn : 0 ≤ n) {k : Nat} (h : zbl b base k = n) : ofM b base n = (3, (k : Int)) := zM5 hf hn (e := ⟨3, b.sorts.length, zc1, zbl b base⟩) (by simp [tab]) h
theorem zH4 {b : Bl} (hf : Fit b) {base n : Int} (hn : 0 ≤ n) {k : Nat} (h : zdy b base k = n) : ofM b base n = (4, (k : Int)) := zM5 hf hn (e := ⟨4, b.sorts.length, zd8, zdy b base⟩) (by simp [tab]) h
theorem zy1 {b : Bl} (hf : Fit b) {base n : Int} (hn : 0 ≤ n) {k : Nat} (h : zak b base k = n) : ofM b base n = (5, (k : Int)) := zM5 hf hn (e := ⟨5, b.cons.length, zbt, zak b base⟩) (by simp [tab]) h
theorem zBr {b : Bl} (hf : Fit b) {base n : Int} (hn : 0 ≤ n) {k : Nat} (h : zb6 b base k = n) : ofM b base n = (6, (k : Int)) := zM5 hf hn (e := ⟨6, b.sorts.length, zcn, zb6 b base⟩) (by simp [tab]) h
theorem zQh {b : Bl} (hf : Fit b) {base n : Int} (hn : is64 n) (h : ∀ e ∈ tab b base, ∀ k : Nat, k < e.many → 0 ≤ n → e.of k ≠ n) : ofM b base n = (0, 0) := by
  by_cases hb : 0 ≤ base ∧ base ≤ 65535
  · by_cases hr : base ≤ n ∧ n < base + zu4 b
    · obtain ⟨e, he, k, g1, g2, _⟩ := zSx hf hb.1 hb.2 hr.1 hr.2
      exact absurd g2 (h e he k g1 (by omega))
    · exact zTk hf hb.1 hn (by omega)
  · rw [ofM, if_pos (by omega)]
end
section
attribute [local simp] zac zag tk tn tks zc4 zdf
end
end
section
theorem Snd.seqF {nwI : Nw} {P : Program} {fn : Func} {res : List XRes} {w0 : World} {x y : XCode} {st : S} (F : S → Prop) (h : ∀ K : S → Prop, (∀ st', F st' → K st') → wpX P x (Ex.then K (Ends res [.bool true])) st) (k : ∀ st', F st' → Snd P fn res w0 y st') : Snd P fn res w0 (.seq x y) st := .seq (h _ k)
def VZ (js : List Nat) (st : S) : Prop := ∀ j ∈ js, (st.h j).ver = 0
def SI (j : Nat) (q : D → AV) (b : Bl) (st : S) : Prop := st.s j = .ptr j 1 0 ∧ st.h j = ⟨1, .box [q (eSos b.sorts), q (eCos b.cons), .d (.int .i64 b.elim)] false⟩
def SK (base k : Int) (st : S) : Prop := st.s 1 = .d (.int .i64 base) ∧ st.s 2 = .d (.int .i64 k)
def SO (j e : Nat) (q : D → AV) (t : T) (n : Int) (st : S) : Prop := st.s j = .ptr j 1 0 ∧ st.h j = ⟨1, .box [.d (.int .i64 t.kind), .d (.int .i64 t.num), q (.sl 3 (t.kids.map eT))] false⟩ ∧ st.s e = .d (.int .i64 n)
def SP (j e : Nat) (t : T) (n : Int) (st : S) : Prop := st.s j = .ptr j 1 0 ∧ (∃ c, st.h j = ⟨1, .box [.d (.int .i64 t.kind), .d (.int .i64 t.num), c] false⟩ ∧ (c = .d (.sl 3 (t.kids.map eT)) ∨ (c = .fsl 3 [] ∧ t.kids = []))) ∧ st.s e = .d (.int .i64 n)
theorem SI.old {j : Nat} {b : Bl} {st : S} (h : SI j .d b st) : SI j (.n false) b (oldS st) := by
  obtain ⟨g7, g8⟩ := h
  simp [SI, oldS, oldE, oldA, Ev.D.flat, g7, g8, eSos, eCos]
theorem SK.old {base k : Int} {st : S} (h : SK base k st) : SK base k (oldS st) := by
  obtain ⟨g7, g8⟩ := h
  simp [SK, oldS, oldE, oldA, Ev.D.flat, g7, g8]
theorem SI.aft {lim j : Nat} {b : Bl} {st : S} (hj : j < lim) (h : SI j (.n false) b st) : SI j .d b (aftS lim st) := by
  obtain ⟨g7, g8⟩ := h
  simp [SI, aftS, aftE, zG5, Ev.D.flat, g7, g8, eSos, eCos, hj]
end
section
attribute [local simp] zac zag tk tn tks
theorem zjo (f : T) (l : List T) (hl : l.length ≤ 100000000) (hf : okT f) (ho : okTs l) : Pure Tryz.prog za4 [.agg (cT f), eTs l] [.agg (cT (spT f l))] := by
  refine zsg rfl fun hs => ?_
  simp -dsimp [zhb, cT, eTs]
  refine zaa (zk4 f hf) ?_
  simp -dsimp [cT]
  refine zaj l.length (fun i st => st.s 4 = .ptr 4 1 0 ∧ st.h 4 = ⟨1, .box [.d (.int .i64 0), .d (.int .i64 0), .fsl 3 []] false⟩ ∧ st.s 1 = .d (.sl 3 (l.map eT)) ∧ st.s 6 = .d (.int .i64 i) ∧
    st.s 5 = .ptr 5 1 0 ∧ ∃ cs, st.h 5 = ⟨1, .box [.d (.int .i64 (spT f (l.take i)).kind), .d (.int .i64 (spT f (l.take i)).num), cs] false⟩ ∧ (cs = .d (.sl 3 ((spT f (l.take i)).kids.map eT)) ∨ cs = .fsl 3 ((spT f (l.take i)).kids.map eT))) ?_ ?_
  · simp -dsimp [spT]
  · rintro i ⟨s, hp⟩ hi ⟨g1, g2, g3, g4, g5, cs, g6, g7⟩
    dsimp only at g1 g2 g3 g4 g5 g6
    rcases Nat.lt_or_ge i l.length with hlt | hge
    · have w1 : IntKind.i64.wrap ((i : Int) + 1) = (i : Int) + 1 := zab (by omega) (by omega)
      have hnx : spT f (l.take (i + 1)) = .mk 6 0 [spT f (l.take i), l[i]] := by
        have e : l.take (i + 1) = l.take i ++ [l[i]] := by rw [List.take_add_one, List.getElem?_eq_getElem hlt]; rfl
        rw [spT, e, List.foldl_append]
        rfl
      rw [hnx]
      generalize spT f (l.take i) = Y at g6 g7
      have hnode := zQs 6 [Y, l[i]] (by simp [zah])
      simp only [eTs, List.map_cons, List.map_nil, zbq, cT, tk, tn, tks] at hnode
      rcases g7 with rfl | rfl
      all_goals
        simp -dsimp [g1, g2, g3, g4, g5, g6, hlt, cT]
        refine zaa (zk4 l[i] (ho.2 _ (List.getElem_mem _))) ?_
        simp -dsimp [g1, g2, g3, g4, g5, g6, hlt, cT]
        refine zaa hnode ?_
        simp -dsimp [g1, g2, g3, g4, g5, g6, hlt, w1, zbq, cT]
    · have e : i = l.length := by omega
      subst e
      rw [List.take_length] at g6 g7
      rcases g7 with rfl | rfl
      · simp -dsimp [g1, g2, g3, g4, g5, g6]
      · simp -dsimp [g1, g2, g3, g4, g5, g6]
theorem zMl (k : Int) (l : List T) (t : T) (hl : l.length ≤ 100000000) (ht : okT t) (ho : okTs l) : Pure Tryz.prog zh9 [.int .i64 k, eTs l, .agg (cT t)] [.agg (cT (zcm k l t))] := by
  refine ztq rfl fun hs => ?_
  have w0 : IntKind.i64.wrap ((l.length : Int) - 1) = (l.length : Int) - 1 := zab (by omega) (by omega)
  simp -dsimp [zig, cT, eTs]
  refine zaa (zk4 t ht) ?_
  simp -dsimp [cT, w0]
  refine zaj l.length (fun i st => st.s 6 = .ptr 6 1 0 ∧ st.h 6 = ⟨1, .box [.d (.int .i64 0), .d (.int .i64 0), .fsl 3 []] false⟩ ∧ st.s 0 = .d (.int .i64 k) ∧ st.s 1 = .d (.sl 3 (l.map eT)) ∧ st.s 8 = .d (.int .i64 ((l.length : Int) - 1 - i)) ∧
    st.s 7 = .ptr 7 1 0 ∧ ∃ cs, st.h 7 = ⟨1, .box [.d (.int .i64 (zcm k (l.drop (l.length - i)) t).kind), .d (.int .i64 (zcm k (l.drop (l.length - i)) t).num), cs] false⟩ ∧
      (cs = .d (.sl 3 ((zcm k (l.drop (l.length - i)) t).kids.map eT)) ∨ cs = .fsl 3 ((zcm k (l.drop (l.length - i)) t).kids.map eT))) ?_ ?_
  · simp -dsimp [zcm]
  · rintro i ⟨s, hp⟩ hi ⟨g1, g2, g3, g4, g5, g6, cs, g7, g8⟩
    dsimp only at g1 g2 g3 g4 g5 g6 g7
    rcases Nat.lt_or_ge i l.length with hlt | hge
    · obtain ⟨m, hm⟩ : ∃ m : Nat, l.length = m + 1 + i := ⟨l.length - 1 - i, by omega⟩
      have hmi : (l.length : Int) - 1 - i = (m : Int) := by omega
      have hml : m < l.length := by omega
      have w1 : IntKind.i64.wrap ((m : Int) - 1) = (l.length : Int) - 1 - ((i + 1 : Nat) : Int) := by rw [zab (by omega) (by omega)]; omega
      have e1 : l.length - i = m + 1 := by omega
      have e2 : l.length - (i + 1) = m := by omega
      have hnx : zcm k (l.drop m) t = .mk k 0 [l[m], zcm k (l.drop (m + 1)) t] := by
        rw [List.drop_eq_getElem_cons hml]
        rfl
      rw [hmi] at g5
      rw [e1] at g7 g8
      rw [e2, hnx]
      generalize zcm k (l.drop (m + 1)) t = Y at g7 g8
      have hnode := zQs k [l[m], Y] (by simp [zah])
      simp only [eTs, List.map_cons, List.map_nil, zbq, cT, tk, tn, tks] at hnode
      rcases g8 with rfl | rfl
      all_goals
        simp -dsimp [g1, g2, g3, g4, g5, g6, g7, hml, cT]
        refine zaa (zk4 l[m] (ho.2 _ (List.getElem_mem _))) ?_
        simp -dsimp [g1, g2, g3, g4, g5, g6, g7, hml, cT]
        refine zaa hnode ?_
        simp -dsimp [g1, g2, g3, g4, g5, g6, g7, hml, w1, zbq, cT, hlt]
    · have e : i = l.length := by omega
      subst e
      have e3 : (l.length : Int) - 1 - (l.length : Int) = -1 := by omega
      rw [e3] at g5
      rw [Nat.sub_self, List.drop_zero] at g7 g8
      rcases g8 with rfl | rfl
      · simp -dsimp [g1, g2, g3, g4, g5, g6, g7]
      · simp -dsimp [g1, g2, g3, g4, g5, g6, g7]
theorem zBi (l : List T) (t : T) (hl : l.length ≤ 100000000) (ht : okT t) (hol : okTs l) : Pure Tryz.prog zc5 [eTs l, .agg (cT t)] [.agg (cT (zcm 4 l t))] := by
  refine zur rfl fun hs => ?_
  have h := zMl 4 l t hl ht hol
  simp only [cT, eTs] at h
  simp -dsimp [zje, cT, eTs]
  refine zaa h ?_
  simp -dsimp [cT]
theorem zlp (t : T) : okT t → (spA t).length ≤ 1000000 → OwnC Tryz.prog za1 [.agg (cT t)] [.agg [.d (.int .i64 (spH t).kind), .d (.int .i64 (spH t).num), .d (.sl 3 ((spH t).kids.map eT))], .one (.row 3 ((spA t).reverse.map eT) false)] := by
  refine T.ind (p := fun t => okT t → (spA t).length ≤ 1000000 → OwnC Tryz.prog za1 [.agg (cT t)] [.agg [.d (.int .i64 (spH t).kind), .d (.int .i64 (spH t).num), .d (.sl 3 ((spH t).kids.map eT))], .one (.row 3 ((spA t).reverse.map eT) false)]) ?_ t
  intro k n ks ih ho hb
  refine zop rfl fun hs => ?_
  by_cases hc : k = 6 ∧ ∃ a b, ks = [a, b]
  · obtain ⟨rfl, a, b, rfl⟩ := hc
    rw [(ziv n a b).1, (ziv n a b).2]
    rw [(ziv n a b).1, List.length_cons] at hb
    have h := ih a (by simp) (ho.kids.2 a (by simp)) (by omega)
    have hb' := zk4 b (ho.kids.2 b (by simp))
    have hr : ((spA a).length + 1) * 40 ≤ zah := by simp only [zah]; omega
    simp only [cT] at h hb'
    simp -dsimp [zdq, cT, zbq]
    refine zce h (by simp [zaz, zbv, RV.cells]) ?_
    simp -dsimp [cT, zbq]
    refine zaa hb' ?_
    simp -dsimp [cT, zbq, hr]
  · rw [(zgo hc).1, (zgo hc).2]
    have htw := zk4 (.mk k n ks) ho
    simp only [cT, tk, tn, tks] at htw
    simp -dsimp [zdq, cT]
    by_cases h6 : k = 6
    · have h2 : ¬ (ks.length : Int) = 2 := fun h => hc ⟨h6, by
        match ks, h with
        | [a, b], _ => exact ⟨a, b, rfl⟩
        | [], h => simp at h
        | [_], h => simp at h
        | _ :: _ :: _ :: _, h => simp at h; omega⟩
      simp -dsimp [h6, h2]
      rw [h6] at htw
      refine zaa htw ?_
      simp -dsimp [cT, h6]
    · simp -dsimp [h6]
      refine zaa htw ?_
      simp -dsimp [cT]
theorem zNj (n : Nat) (hn : n ≤ 65536) : Pure Tryz.prog zif [.int .i64 n] [eTs (zgs n)] := by
  refine zsl rfl fun hs => ?_
  have w0 : IntKind.i64.wrap ((n : Int) - 1) = (n : Int) - 1 := zab (by omega) (by omega)
  simp -dsimp [zih, w0]
  refine zaj n (fun i st => st.s 2 = .rsl 2 1 ∧ st.h 2 = ⟨1, .row 3 [] false⟩ ∧ st.s 0 = .d (.int .i64 n) ∧ st.s 4 = .d (.int .i64 ((n : Int) - 1 - i)) ∧ st.s 3 = .rsl 3 (1 + i) ∧ st.h 3 = ⟨1 + i, .row 3 (((zgs n).take i).map eT) false⟩) ?_ ?_
  · simp -dsimp
  · rintro i ⟨s, hp⟩ hi ⟨g1, g2, g3, g4, g5, g6⟩
    dsimp only at g1 g2 g3 g4 g5 g6
    have hvl := zs8 n
    rcases Nat.lt_or_ge i n with hlt | hge
    · have w1 : IntKind.i64.wrap ((n : Int) - 1 - i - 1) = (n : Int) - 1 - ((i + 1 : Nat) : Int) := by rw [zab (by omega) (by omega)]; omega
      have q1 : (0 : Int) ≤ (n : Int) - 1 - i := by omega
      have q1' : (i : Int) ≤ (n : Int) - 1 := by omega
      have q2 : (n : Int) ≤ 65536 := by omega
      have hg := zD1 n i (by omega)
      have hr : (min i n + 1) * 40 ≤ zah := by simp only [zah]; omega
      have htk : ((zgs n).take (i + 1)).map eT = ((zgs n).take i).map eT ++ [.agg (cT (.mk 1 ((n : Int) - 1 - i) []))] := by
        rw [zdd (List.getElem?_eq_getElem (by omega : i < (zgs n).length)), hg, List.map_append]
        simp [zbq, tV]
      rw [htk]
      simp -dsimp [g1, g2, g3, g4, g5, g6, q1, q1', q2]
      refine zaa (zRi _) ?_
      simp -dsimp [g1, g2, g3, g4, g5, g6, q1, q1', q2, hvl, hr, w1, cT, hlt]
      omega
    · have e : i = n := by omega
      subst e
      have q1 : ¬ (0 : Int) ≤ (i : Int) - 1 - i := by omega
      have q1' : ¬ (i : Int) ≤ (i : Int) - 1 := by omega
      have ht : (zgs i).take i = zgs i := List.take_of_length_le (by omega)
      rw [ht] at g6
      simp -dsimp [g1, g2, g3, g4, g5, g6, q1, q1', eTs]
end
section
section
attribute [local simp] zac zag tk tn tks zc4 zdf
theorem zT7 : Tryz.prog.cellsOf 30 = 7 := by kernel_rfl
theorem zOy : Tryz.prog.cellsOf 32 = 1 := by kernel_rfl
theorem zO6 : Tryz.prog.cellsOf 46 = 6 := by kernel_rfl
theorem zUm : Tryz.prog.cellsOf 34 = 6 := by kernel_rfl
theorem zPe : Tryz.prog.cellsOf 22 = 1 := by kernel_rfl
theorem zUc : Tryz.prog.cellsOf 23 = 1 := by kernel_rfl
theorem zQu : Tryz.prog.cellsOf 25 = 3 := by kernel_rfl
theorem y_arg : Tryz.prog.bytesOf 30 = 104 := by kernel_rfl
theorem zS3 : Tryz.prog.bytesOf 46 = 80 := by kernel_rfl
theorem y_con : Tryz.prog.bytesOf 34 = 96 := by kernel_rfl
theorem zT0 : zbd Tryz.prog 30 = true := by simp only [zbd, Tryz.underlying30]
theorem zP4 : zbd Tryz.prog 46 = true := by simp only [zbd, Tryz.underlying46]
theorem zUa : zbd Tryz.prog 34 = true := by simp only [zbd, Tryz.underlying34]
theorem zN6 : zbd Tryz.prog 25 = true := by simp only [zbd, Tryz.underlying25]
structure okAr (a : Ar) : Prop where
  ty : okT a.ty
  dom : okTs a.dom
  sort : n64 a.sort
  idx : okTs a.idx
def zyy (l : List Ar) : Prop := l.length * 104 ≤ 140737488351232 ∧ ∀ x ∈ l, okAr x
structure okSo (s : So) : Prop where
  idx : zyy s.idx
  level : n64 s.level
  dty : okT s.dty
structure okCo (c : Co) : Prop where
  sort : n64 c.sort
  args : zyy c.args
  idx : okTs c.idx
  dec : okT c.dec
structure okBl (b : Bl) : Prop where
  sortsL : b.sorts.length * 80 ≤ 140737488351232
  sorts : ∀ x ∈ b.sorts, okSo x
  consL : b.cons.length * 96 ≤ 140737488351232
  cons : ∀ x ∈ b.cons, okCo x
  elim : n64 b.elim
theorem len6 {xs : List D} (h : xs.length = 6) : ∃ a b c d e f, xs = [a, b, c, d, e, f] := by
  match xs, h with
  | [a, b, c, d, e, f], _ => exact ⟨a, b, c, d, e, f, rfl⟩
theorem len7 {xs : List D} (h : xs.length = 7) : ∃ a b c d e f g, xs = [a, b, c, d, e, f, g] := by
  match xs, h with
  | [a, b, c, d, e, f, g], _ => exact ⟨a, b, c, d, e, f, g, rfl⟩
theorem zR3 {n : Nat} {cs : List D} (h : typ Tryz.prog n 30 cs) : ∃ a : Ar, cs = cAr a ∧ okAr a := by
  cases n with
  | zero => exact h.elim
  | succ n =>
    simp only [typ, Tryz.underlying30, zT7, zJn, zOr, zzk, zFd, List.forall_mem_cons] at h
    obtain ⟨hl, h1, h2, h3, h4, h5, _⟩ := h
    obtain ⟨a, b, c, d, e, f, g, rfl⟩ := len7 hl
    obtain ⟨r, hr⟩ := zGz h1
    obtain ⟨t, ht, q1⟩ := zwn _ h2
    obtain ⟨ds, hd, q2⟩ := zyc h3
    obtain ⟨i, hi, q3⟩ := zrf h4
    obtain ⟨js, hj, q4⟩ := zyc h5
    simp at hr ht hd hi hj
    refine ⟨⟨r, t, ds, i, js⟩, ?_, ⟨q1, q2, q3, q4⟩⟩
    simp [cAr, ← ht, hr, hd, hi, hj]
theorem zGb {n : Nat} {cs : List D} (h : typ Tryz.prog n 32 cs) : ∃ l : List Ar, cs = [eArs l] ∧ zyy l := by
  obtain ⟨m, xs, rfl, hc, hb, hx⟩ := zo2 Tryz.underlying32 zT7 y_arg zT0 h
  obtain ⟨ks, rfl, hks⟩ : ∃ l : List Ar, xs = l.map eAr ∧ ∀ a ∈ l, okAr a := zzw fun x hxx => by
    obtain ⟨h4, h5⟩ := hx x hxx
    obtain ⟨t, ht, hq⟩ := zR3 h4
    exact ⟨t, hq, by rw [h5, ht]; rfl⟩
  exact ⟨ks, hc, by simpa using hb, hks⟩
theorem zMp {n : Nat} {cs : List D} (h : typ Tryz.prog n 46 cs) : ∃ a : So, cs = cSo a ∧ okSo a := by
  cases n with
  | zero => exact h.elim
  | succ n =>
    simp only [typ, Tryz.underlying46, zO6, zJn, zOr, zzk, zOy, List.forall_mem_cons] at h
    obtain ⟨hl, h1, h2, h3, h4, _⟩ := h
    obtain ⟨a, b, c, d, e, f, rfl⟩ := len6 hl
    obtain ⟨l, hq, q1⟩ := zGb h1
    obtain ⟨i, hi, q2⟩ := zrf h2
    obtain ⟨r, hr⟩ := zGz h3
    obtain ⟨t, ht, q3⟩ := zwn _ h4
    simp at hr ht hi hq
    refine ⟨⟨l, i, r, t⟩, ?_, ⟨q1, q2, q3⟩⟩
    simp [cSo, ← ht, hr, hi, hq]
theorem zQ3 {n : Nat} {cs : List D} (h : typ Tryz.prog n 34 cs) : ∃ a : Co, cs = cCo a ∧ okCo a := by
  cases n with
  | zero => exact h.elim
  | succ n =>
    simp only [typ, Tryz.underlying34, zUm, zJn, zOy, zzk, zFd, List.forall_mem_cons] at h
    obtain ⟨hl, h1, h2, h3, h4, _⟩ := h
    obtain ⟨a, b, c, d, e, f, rfl⟩ := len6 hl
    obtain ⟨i, hi, q1⟩ := zrf h1
    obtain ⟨l, hq, q2⟩ := zGb h2
    obtain ⟨js, hj, q3⟩ := zyc h3
    obtain ⟨t, ht, q4⟩ := zwn _ h4
    simp at ht hi hq hj
    refine ⟨⟨i, l, js, t⟩, ?_, ⟨q1, q2, q3, q4⟩⟩
    simp [cCo, ← ht, hi, hq, hj]
theorem zIq {n : Nat} {cs : List D} (h : typ Tryz.prog n 25 cs) : ∃ b : Bl, cs = cBl b ∧ okBl b := by
  cases n with
  | zero => exact h.elim
  | succ n =>
    simp only [typ, Tryz.underlying25, zQu, zJn, zPe, zUc, List.forall_mem_cons] at h
    obtain ⟨hl, h1, h2, h3, _⟩ := h
    obtain ⟨a, b, c, rfl⟩ := len3 hl
    obtain ⟨m, xs, rfl, hc, hb, hx⟩ := zo2 Tryz.underlying22 zO6 zS3 zP4 h1
    obtain ⟨m', ys, _, hd, hb', hy⟩ := zo2 Tryz.underlying23 zUm y_con zUa h2
    obtain ⟨i, hi, q1⟩ := zrf h3
    obtain ⟨ss, rfl, q2⟩ : ∃ l : List So, xs = l.map eSo ∧ ∀ a ∈ l, okSo a := zzw fun x hxx => by
      obtain ⟨h4, h5⟩ := hx x hxx
      obtain ⟨t, ht, hq⟩ := zMp h4
      exact ⟨t, hq, by rw [h5, ht]; rfl⟩
    obtain ⟨ks, rfl, q3⟩ : ∃ l : List Co, ys = l.map eCo ∧ ∀ a ∈ l, okCo a := zzw fun x hxx => by
      obtain ⟨h4, h5⟩ := hy x hxx
      obtain ⟨t, ht, hq⟩ := zQ3 h4
      exact ⟨t, hq, by rw [h5, ht]; rfl⟩
    simp at hc hd hi
    refine ⟨⟨ss, ks, i⟩, ?_, ⟨by simpa using hb, q2, by simpa using hb', q3, q1⟩⟩
    simp [cBl, hc, hd, hi, eSos, eCos]
theorem zJh {x : D} (h : TypD Tryz.prog 25 x) : ∃ b : Bl, x = eBl b ∧ okBl b := by
  obtain ⟨⟨n, h1⟩, h2⟩ := h
  obtain ⟨b, hb, hq⟩ := zIq h1
  exact ⟨b, by rw [zOq (h2.trans zN6), hb]; rfl, hq⟩
end
section
attribute [local simp] zac zag tk tn tks zc4 zdf
theorem zCb (l : List Ar) (h : zyy l) : OwnC Tryz.prog zck [eArs l] [.one (.row 7 (l.map eAr) false)] := by
  refine zpu rfl fun hs => ?_
  have hl := h.1
  simp -dsimp [zfp, eArs]
  refine zaj l.length (fun i st => st.s 0 = .d (.sl 7 (l.map eAr)) ∧ st.s 4 = .d (.int .i64 i) ∧ ∃ v, st.s 3 = .rsl 3 v ∧ st.h 3 = ⟨v, .row 7 ((l.map eAr).take i) false⟩) ?_ ?_
  · simp -dsimp
  · rintro i ⟨s, hp⟩ hi ⟨g1, g2, v, g3, g4⟩
    dsimp only at g1 g2 g3 g4
    rcases Nat.lt_or_ge i l.length with hlt | hge
    · have w1 : IntKind.i64.wrap ((i : Int) + 1) = (i : Int) + 1 := zab (by omega) (by omega)
      have ho := h.2 l[i] (List.getElem_mem _)
      simp -dsimp [g1, g2, g3, g4, hlt, cT, eAr, cAr, eTs]
      refine zaa (zk4 l[i].ty ho.ty) ?_
      simp -dsimp [g1, g2, g3, g4, hlt, cT, eAr, cAr, eTs]
      refine zaa (zAl l[i].dom ho.dom) ?_
      simp -dsimp [g1, g2, g3, g4, hlt, cT, eAr, cAr, eTs]
      refine zaa (zAl l[i].idx ho.idx) ?_
      have hr : (min i l.length + 1) * 104 ≤ zah := by simp only [zah]; omega
      have hn := zmt eAr cAr (fun _ => rfl) l i hlt
      simp only [cAr, cT, List.cons_append, List.nil_append, eTs] at hn
      simp -dsimp [g1, g2, g3, g4, hlt, cT, hr, hn, w1, eTs]
    · have e : i = l.length := by omega
      subst e
      simp -dsimp [g1, g2, g3, g4]
      exact List.take_of_length_le (by simp)
theorem zw8 (l : List Ar) (h : zyy l) : Pure Tryz.prog zck [eArs l] [eArs l] := (zCb l h).pure
theorem zG7 (c : Co) (h : okCo c) : Pure Tryz.prog zgq [.agg (cCo c)] [.agg (cCo c)] := by
  refine zqs rfl fun hs => ?_
  simp -dsimp [zgh, cCo, cT, eArs, eTs]
  refine zaa (zw8 c.args h.args) ?_
  simp -dsimp [eArs, eTs]
  refine zaa (zAl c.idx h.idx) ?_
  simp -dsimp [eArs, eTs]
  refine zaa (zk4 c.dec h.dec) ?_
  simp -dsimp [eArs, eTs, cT]
def rcS (l : List So) : RC := if l = [] then .d (.sl 6 []) else .row 6 (l.map eSo) false
def rcK (l : List Co) : RC := if l = [] then .d (.sl 6 []) else .row 6 (l.map eCo) false
theorem zAo (b : Bl) (h : okBl b) : OwnC Tryz.prog zde [eBl b] [.agg [rcS b.sorts, rcK b.cons, .d (.int .i64 b.elim)]] := by
  refine zog rfl fun hs => ?_
  have hl := h.sortsL
  have hl2 := h.consL
  simp -dsimp [ze2, eBl, cBl, eSos, eCos]
  refine zaj b.sorts.length (fun i st => st.s 1 = .ptr 1 1 0 ∧ st.h 1 = ⟨1, .box [.d (.sl 6 (b.sorts.map eSo)), .d (.sl 6 (b.cons.map eCo)), .d (.int .i64 b.elim)] false⟩ ∧
    st.s 2 = .ptr 2 1 0 ∧ st.h 2 = ⟨1, .box [.fsl 6 [], .fsl 6 [], .d (.int .i64 0)] false⟩ ∧ st.s 4 = .d (.int .i64 i) ∧
    st.s 3 = .ptr 3 1 0 ∧ ∃ c, st.h 3 = ⟨1, .box [c, .fsl 6 [], .d (.int .i64 b.elim)] false⟩ ∧ ((i = 0 ∧ c = .fsl 6 []) ∨ (0 < i ∧ ∃ v, c = .rsl 34 v ∧ st.h 34 = ⟨v, .row 6 ((b.sorts.map eSo).take i) false⟩))) ?_ ?_
  · simp -dsimp
  · rintro i ⟨s, hp⟩ hi ⟨g1, g2, g3, g4, g5, g6, c, g7, g8⟩
    dsimp only at g1 g2 g3 g4 g5 g6 g7 g8
    rcases Nat.lt_or_ge i b.sorts.length with hlt | hge
    · have w1 : IntKind.i64.wrap ((i : Int) + 1) = (i : Int) + 1 := zab (by omega) (by omega)
      have ho := h.sorts b.sorts[i] (List.getElem_mem _)
      simp -dsimp [g1, g2, g3, g4, g5, g6, g7, hlt, cT, eSo, cSo, eArs]
      refine zaa (zw8 b.sorts[i].idx ho.idx) ?_
      simp -dsimp [g1, g2, g3, g4, g5, g6, g7, hlt, cT, eSo, cSo, eArs]
      refine zaa (zk4 b.sorts[i].dty ho.dty) ?_
      have hr : (min i b.sorts.length + 1) * 80 ≤ zah := by simp only [zah]; omega
      have hn := zmt eSo cSo (fun _ => rfl) b.sorts i hlt
      simp only [cSo, cT, List.cons_append, List.nil_append, eArs] at hn
      rcases g8 with ⟨rfl, rfl⟩ | ⟨hi0, v, rfl, g8⟩
      · have h80 : min 1 b.sorts.length * 80 ≤ zah := by simp only [zah]; omega
        have hne : ¬ b.sorts = [] := List.ne_nil_of_length_pos hlt
        simp only [List.take_zero, List.nil_append, Nat.zero_add] at hn
        simp at hlt hn w1
        simp -dsimp [g1, g2, g3, g4, g5, g6, g7, hlt, cT, eSo, cSo, eArs, w1, h80, hn, hne]
      · simp -dsimp [g1, g2, g3, g4, g5, g6, g7, g8, hlt, cT, eSo, cSo, eArs, w1, hr, hn]
    · have e : i = b.sorts.length := by omega
      subst e
      rw [List.take_of_length_le (by simp)] at g8
      simp -dsimp [g1, g2, g3, g4, g5, g6, g7]
      clear hi g5
      refine zaj b.cons.length (fun i st => st.s 1 = .ptr 1 1 0 ∧ st.h 1 = ⟨1, .box [.d (.sl 6 (b.sorts.map eSo)), .d (.sl 6 (b.cons.map eCo)), .d (.int .i64 b.elim)] false⟩ ∧
        st.s 2 = .ptr 2 1 0 ∧ st.h 2 = ⟨1, .box [.fsl 6 [], .fsl 6 [], .d (.int .i64 0)] false⟩ ∧ st.s 6 = .d (.int .i64 i) ∧
        st.s 3 = .ptr 3 1 0 ∧ ∃ d, st.h 3 = ⟨1, .box [c, d, .d (.int .i64 b.elim)] false⟩ ∧ ((b.sorts = [] ∧ c = .fsl 6 []) ∨ (0 < b.sorts.length ∧ ∃ v, c = .rsl 34 v ∧ st.h 34 = ⟨v, .row 6 (b.sorts.map eSo) false⟩)) ∧
          ((i = 0 ∧ d = .fsl 6 []) ∨ (0 < i ∧ ∃ v, d = .rsl 52 v ∧ st.h 52 = ⟨v, .row 6 ((b.cons.map eCo).take i) false⟩))) ?_ ?_
      · simp -dsimp [g1, g2, g3, g4, g6, g7]
        simpa using g8
      · clear g1 g2 g3 g4 g6 g7 g8 s hp
        rintro i ⟨s, hp⟩ hi ⟨g1, g2, g3, g4, g5, g6, d, g7, g8, g9⟩
        dsimp only at g1 g2 g3 g4 g5 g6 g7 g8 g9
        rcases Nat.lt_or_ge i b.cons.length with hlt | hge
        · have w1 : IntKind.i64.wrap ((i : Int) + 1) = (i : Int) + 1 := zab (by omega) (by omega)
          have ho := h.cons b.cons[i] (List.getElem_mem _)
          simp -dsimp [g1, g2, g3, g4, g5, g6, g7, hlt, cT, eCo, cCo, eArs, eTs]
          refine zaa (zG7 b.cons[i] ho) ?_
          have hr : (min i b.cons.length + 1) * 96 ≤ zah := by simp only [zah]; omega
          have hn := zmt eCo cCo (fun _ => rfl) b.cons i hlt
          simp only [cCo, cT, List.cons_append, List.nil_append, eArs, eTs] at hn
          rcases g9 with ⟨rfl, rfl⟩ | ⟨hi0, v, rfl, g9⟩
          · have h96 : min 1 b.cons.length * 96 ≤ zah := by simp only [zah]; omega
            have hne : ¬ b.cons = [] := List.ne_nil_of_length_pos hlt
            simp only [List.take_zero, List.nil_append, Nat.zero_add] at hn
            simp at hlt hn w1
            simp -dsimp [g1, g2, g3, g4, g5, g6, g7, hlt, cT, eCo, cCo, eArs, eTs, w1, h96, hn, hne]
            exact g8
          · simp -dsimp [g1, g2, g3, g4, g5, g6, g7, g9, hlt, cT, eCo, cCo, eArs, eTs, w1, hr, hn]
            exact g8
        · have e : i = b.cons.length := by omega
          subst e
          rw [List.take_of_length_le (by simp)] at g9
          have hc : b.cons.length = 0 → b.cons = [] := List.length_eq_zero_iff.1
          have hS0 : rcS [] = .d (.sl 6 []) := rfl
          have hK0 : rcK [] = .d (.sl 6 []) := rfl
          rcases g8 with ⟨hz, rfl⟩ | ⟨hp1, v, rfl, g8⟩ <;> rcases g9 with ⟨hy, rfl⟩ | ⟨hp2, u, rfl, g9⟩
          · simp -dsimp [g1, g2, g3, g4, g5, g6, g7, hz, hc hy, hS0, hK0]
          · have hK : rcK b.cons = .row 6 (b.cons.map eCo) false := by rw [rcK, if_neg (List.ne_nil_of_length_pos hp2)]
            simp -dsimp [g1, g2, g3, g4, g5, g6, g7, hz, g9, hS0, hK]
          · have hS : rcS b.sorts = .row 6 (b.sorts.map eSo) false := by rw [rcS, if_neg (List.ne_nil_of_length_pos hp1)]
            simp -dsimp [g1, g2, g3, g4, g5, g6, g7, g8, hc hy, hS, hK0]
          · have hK : rcK b.cons = .row 6 (b.cons.map eCo) false := by rw [rcK, if_neg (List.ne_nil_of_length_pos hp2)]
            have hS : rcS b.sorts = .row 6 (b.sorts.map eSo) false := by rw [rcS, if_neg (List.ne_nil_of_length_pos hp1)]
            simp -dsimp [g1, g2, g3, g4, g5, g6, g7, g8, g9, hS, hK]
theorem zN7 (l : List So) : (rcS l).data = eSos l := by
  rw [rcS]; split
  · rename_i h; subst h; rfl
  · rfl
theorem zL4 (l : List Co) : (rcK l).data = eCos l := by
  rw [rcK]; split
  · rename_i h; subst h; rfl
  · rfl
theorem zCh (b : Bl) (h : okBl b) : Pure Tryz.prog zde [eBl b] [eBl b] := by
  have := (zAo b h).pure
  simp only [List.map_cons, List.map_nil, RV.data, zN7, zL4] at this
  exact this
end
section
attribute [local simp] zac zag tk tn tks zc4 zdf
theorem zEs (l : List Ar) (h : ∀ x ∈ l, Pure Tryz.prog zgv [.agg (cAr x), .agg (cAr x)] [.bool true]) : Pure Tryz.prog zec [eArs l, eArs l] [.bool true] := by
  refine zu8 rfl fun hs => ?_
  have hl := hs (eArs l) (by simp)
  simp [eArs, small] at hl
  replace hl := hl.1
  simp -dsimp [ziw, eArs]
  refine zaj l.length (fun i st => st.s 0 = .d (.sl 7 (l.map eAr)) ∧ st.s 1 = .d (.sl 7 (l.map eAr)) ∧ st.s 5 = .d (.int .i64 i)) ?_ ?_
  · simp -dsimp
  · rintro i ⟨s, hp⟩ hi ⟨g1, g2, g3⟩
    dsimp only at g1 g2 g3
    rcases Nat.lt_or_ge i l.length with hlt | hge
    · have w1 : IntKind.i64.wrap ((i : Int) + 1) = (i : Int) + 1 := zab (by omega) (by omega)
      simp -dsimp [g1, g2, g3, hlt, cT, eAr, cAr, eTs]
      refine zaa (h l[i] (List.getElem_mem _)) ?_
      simp -dsimp [g1, g2, g3, hlt, w1]
    · have e : i = l.length := by omega
      subst e
      simp -dsimp [g1, g2, g3]
theorem zG6 (a : Ar) : Pure Tryz.prog zgv [.agg (cAr a), .agg (cAr a)] [.bool true] := by
  refine zvt rfl fun hs => ?_
  simp -dsimp [zkb, cAr, cT, eTs]
  refine zaa (zdz a.ty) ?_
  simp -dsimp
  refine zaa (zon a.dom) ?_
  simp -dsimp
  refine zaa (zon a.idx) ?_
  simp -dsimp
theorem zxt (l : List Ar) : Pure Tryz.prog zec [eArs l, eArs l] [.bool true] := zEs l fun x _ => zG6 x
theorem zIb (c : Co) : Pure Tryz.prog zj0 [.agg (cCo c), .agg (cCo c)] [.bool true] := by
  refine zwf rfl fun hs => ?_
  simp -dsimp [zj3, cCo, cT, eTs, eArs]
  refine zaa (zxt c.args) ?_
  simp -dsimp
  refine zaa (zon c.idx) ?_
  simp -dsimp
  refine zaa (zdz c.dec) ?_
  simp -dsimp
theorem zBz (b : Bl) : Pure Tryz.prog ze9 [eBl b, eBl b] [.bool true] := by
  refine zs4 rfl fun hs => ?_
  have hl := hs (eBl b) (by simp)
  simp -dsimp [eBl, cBl, eSos, eCos, small] at hl
  have hl1 := hl.1.1
  have hl2 := hl.2.1
  simp -dsimp [zhu, eBl, cBl, eSos, eCos]
  refine zaj b.sorts.length (fun i st => st.s 2 = .ptr 2 1 0 ∧ st.h 2 = ⟨1, .box [.d (.sl 6 (b.sorts.map eSo)), .d (.sl 6 (b.cons.map eCo)), .d (.int .i64 b.elim)] false⟩ ∧
    st.s 3 = .ptr 3 1 0 ∧ st.h 3 = ⟨1, .box [.d (.sl 6 (b.sorts.map eSo)), .d (.sl 6 (b.cons.map eCo)), .d (.int .i64 b.elim)] false⟩ ∧ st.s 5 = .d (.int .i64 i)) ?_ ?_
  · simp -dsimp
  · rintro i ⟨s, hp⟩ hi ⟨g1, g2, g3, g4, g5⟩
    dsimp only at g1 g2 g3 g4 g5
    rcases Nat.lt_or_ge i b.sorts.length with hlt | hge
    · have w1 : IntKind.i64.wrap ((i : Int) + 1) = (i : Int) + 1 := zab (by omega) (by omega)
      simp -dsimp [g1, g2, g3, g4, g5, hlt, cT, eSo, cSo, eArs]
      refine zaa (zxt b.sorts[i].idx) ?_
      simp -dsimp [g1, g2, g3, g4, g5, hlt, w1, cT]
      refine zaa (zdz b.sorts[i].dty) ?_
      simp -dsimp [g1, g2, g3, g4, g5, hlt, w1]
    · have e : i = b.sorts.length := by omega
      subst e
      simp -dsimp [g1, g2, g3, g4, g5]
      clear hi g5
      refine zaj b.cons.length (fun i st => st.s 2 = .ptr 2 1 0 ∧ st.h 2 = ⟨1, .box [.d (.sl 6 (b.sorts.map eSo)), .d (.sl 6 (b.cons.map eCo)), .d (.int .i64 b.elim)] false⟩ ∧
        st.s 3 = .ptr 3 1 0 ∧ st.h 3 = ⟨1, .box [.d (.sl 6 (b.sorts.map eSo)), .d (.sl 6 (b.cons.map eCo)), .d (.int .i64 b.elim)] false⟩ ∧ st.s 8 = .d (.int .i64 i)) ?_ ?_
      · simp -dsimp [g1, g2, g3, g4]
      · clear g1 g2 g3 g4 s hp
        rintro i ⟨s, hp⟩ hi ⟨g1, g2, g3, g4, g5⟩
        dsimp only at g1 g2 g3 g4 g5
        rcases Nat.lt_or_ge i b.cons.length with hlt | hge
        · have w1 : IntKind.i64.wrap ((i : Int) + 1) = (i : Int) + 1 := zab (by omega) (by omega)
          simp -dsimp [g1, g2, g3, g4, g5, hlt, cT, eCo, cCo, eArs, eTs]
          refine zaa (zIb b.cons[i]) ?_
          simp -dsimp [g1, g2, g3, g4, g5, hlt, w1]
        · have e : i = b.cons.length := by omega
          subst e
          simp -dsimp [g1, g2, g3, g4, g5]
end
section
attribute [local simp] zac zag tk tn tks zc4 zdf
theorem zG8 (t : T) : ∀ v c : Int, Pure Tryz.prog zct [.agg (cT t), .int .i64 v, .int .i64 c] [.bool (zcr t v c)] := by
  refine T.ind (p := fun t => ∀ v c : Int, Pure Tryz.prog zct [.agg (cT t), .int .i64 v, .int .i64 c] [.bool (zcr t v c)]) ?_ t
  intro k n ks ih v c
  refine zqj rfl fun hs => ?_
  have hl := zja (t := .mk k n ks) (fun d hd => hs d (by simp at hd; simp [hd]))
  simp [T.kids] at hl
  simp -dsimp [zgk, cT, T.kind, T.num, T.kids]
  (first | refine zal ?_ ?_ | refine zam ?_ ?_) <;> intro h1 <;> (try simp only [nrm] at h1) <;> simp -dsimp [h1, zcr]
  (first | refine zal ?_ ?_ | refine zam ?_ ?_) <;> intro h2 <;> (try simp only [nrm] at h2) <;> simp -dsimp [h2, zcr, h1]
  (first | refine zal ?_ ?_ | refine zam ?_ ?_) <;> intro h3 <;> (try simp only [nrm] at h3) <;> simp -dsimp [h3, zcr, h1, h2]
  have hw : zcr (.mk k n ks) v c = zhx k v c 0 ks := by rw [zcr, if_neg h1, if_neg h2, if_neg h3]
  rw [hw]
  refine zaj ks.length (fun i st => st.s 3 = .ptr 3 1 0 ∧ st.h 3 = ⟨1, .box [.d (.int .i64 k), .d (.int .i64 n), .d (.sl 3 (ks.map eT))] false⟩ ∧ st.s 1 = .d (.int .i64 v) ∧ st.s 2 = .d (.int .i64 c) ∧
    st.s 7 = .d (.int .i64 i) ∧ ∀ (j : Nat) (hj : j < ks.length), j < i → zcr ks[j] (w64 (v + zan k j)) c = true) ?_ ?_
  · simp -dsimp
  · rintro i ⟨s, hp⟩ hi ⟨g1, g2, g3, g4, g5, g8⟩
    dsimp only at g1 g2 g3 g4 g5
    rcases Nat.lt_or_ge i ks.length with hlt | hge
    · have w1 : IntKind.i64.wrap ((i : Int) + 1) = (i : Int) + 1 := zab (by omega) (by omega)
      simp -dsimp [g1, g2, g3, g4, g5, hlt, cT]
      refine zaa (zt1 k i) ?_
      simp -dsimp [g1, g2, g3, g4, g5, hlt]
      refine zaa (ih ks[i] (List.getElem_mem _) (w64 (v + zan k i)) c) ?_
      simp -dsimp [g1, g2, g3, g4, g5, hlt]
      (first | refine zal ?_ ?_ | refine zam ?_ ?_) <;> intro h4 <;> (try simp only [nrm] at h4) <;> simp -dsimp [h4, g1, g2, g3, g4, g5, hlt, w1]
      · cases hw : zhx k v c 0 ks with
        | false => rfl
        | true =>
          have := (zk6 k v c ks 0).1 hw i hlt
          rw [Nat.zero_add, h4] at this
          cases this
      · intro j hj hji
        rcases Nat.lt_or_ge j i with h | h
        · exact g8 j hj h
        · have : j = i := by omega
          subst this
          exact h4
    · have e : i = ks.length := by omega
      subst e
      have : zhx k v c 0 ks = true := (zk6 k v c ks 0).2 fun j hj => by simpa using g8 j hj hj
      simp -dsimp [g1, g2, g3, g4, g5, this]
def zo4 (t : T) (v c : Int) : Bool := if v < 0 then false else if c < 0 then false else if zbp t = 0 then zcr t (if 1048576 < v then 1048576 else v) c else false
theorem zLn {t : T} {v c : Int} (h : v ≤ 65536) : zo4 t v c = zmp t v c := by
  rw [zo4, zmp, if_neg (show ¬1048576 < v by omega), if_neg (show ¬65536 < v by omega)]
theorem zK4 (t : T) (v c : Int) : Pure Tryz.prog zgw [.agg (cT t), .int .i64 v, .int .i64 c] [.bool (zo4 t v c)] := by
  refine zq9 rfl fun hs => ?_
  simp -dsimp [zg7, cT]
  (first | refine zal ?_ ?_ | refine zam ?_ ?_) <;> intro h1 <;> (try simp only [nrm] at h1) <;> simp -dsimp [h1, zo4]
  · (first | refine zal ?_ ?_ | refine zam ?_ ?_) <;> intro h2 <;> (try simp only [nrm] at h2) <;> simp -dsimp [h2, zo4, h1]
    · refine zaa (zCo t) ?_
      simp -dsimp [h1, h2]
      (first | refine zal ?_ ?_ | refine zam ?_ ?_) <;> intro h3 <;> (try simp only [nrm] at h3) <;> simp -dsimp [h3, zo4, h1, h2]
      · refine zaa (zG8 t _ _) ?_
        have hS : zo4 t v c = zcr t (if 1048576 < v then 1048576 else v) c := by rw [zo4, if_neg (by omega), if_neg (by omega), if_pos h3]
        rw [hS]
        simp -dsimp [h3]
end
section
attribute [local simp] zac zag tk tn tks zc4 zdf
theorem zlo (n lo hi : Int) : Pure Tryz.prog zaw [.int .i64 n, .int .i64 lo, .int .i64 hi] [.bool (inB n lo hi)] := by
  refine zwa rfl fun hs => ?_
  simp -dsimp [zj6, inB]
  (first | refine zal ?_ ?_ | refine zam ?_ ?_) <;> intro h1 <;> (try simp only [nrm] at h1) <;> simp -dsimp [h1]
theorem zBb (t : T) : Pure Tryz.prog zdm [.agg (cT t)] [.bool (zx9 t)] := by
  refine zss rfl fun hs => ?_
  simp -dsimp [zin, cT]
  (first | refine zal ?_ ?_ | refine zam ?_ ?_) <;> intro h1 <;> (try simp only [nrm] at h1) <;> simp -dsimp [h1, zx9]
  (first | refine zal ?_ ?_ | refine zam ?_ ?_) <;> intro h2 <;> (try simp only [nrm] at h2) <;> simp -dsimp [h2, zx9, h1]
theorem zqe (t : T) (v : Int) (hv : v ≤ 65536) : Pure Tryz.prog zbo [.agg (cT t), .int .i64 v] [.bool (inM t v)] := by
  refine ztx rfl fun hs => ?_
  simp -dsimp [zia, cT]
  refine zaa (zK4 t v 65536) ?_
  simp -dsimp [inM, zLn hv]
theorem zI3 (b : Bl) (a : Ar) (i : Int) (h0 : 0 ≤ i) (h1 : i ≤ 1000) : Pure Tryz.prog zf3 [eBl b, .agg (cAr a), .int .i64 i] [.bool (argM b a i)] := by
  refine zt8 rfl fun hs => ?_
  have hi : ((a.idx.length : Int)) ≤ 9223372036854775807 := by
    have := hs (.agg (cAr a)) (by simp)
    simp -dsimp [cAr, cT, eTs, small] at this
    omega
  simp -dsimp [zix, eBl, cBl, eSos, eCos, cAr, cT, eTs]
  cases hr : a.rc with
  | false =>
    simp -dsimp [hr]
    refine zaa (zqe a.ty i (by omega)) ?_
    simp -dsimp
    (first | refine zal ?_ ?_ | refine zam ?_ ?_) <;> intro g1 <;> (try simp only [nrm] at g1) <;> simp -dsimp [g1, argM, hr]
    (first | refine zal ?_ ?_ | refine zam ?_ ?_) <;> intro g2 <;> (try simp only [nrm] at g2) <;> simp -dsimp [g2, argM, hr, g1, w64]
  | true =>
    simp -dsimp [hr]
    refine zaa (zBb a.ty) ?_
    simp -dsimp
    (first | refine zal ?_ ?_ | refine zam ?_ ?_) <;> intro g1 <;> (try simp only [nrm] at g1) <;> simp -dsimp [g1, argM, hr]
    (first | refine zal ?_ ?_ | refine zam ?_ ?_) <;> intro g2 <;> (try simp only [nrm] at g2) <;> simp -dsimp [g2, argM, hr, g1]
    refine zaa (zlo a.sort 0 _) ?_
    have hbl : ((b.sorts.length : Int)) ≤ 9223372036854775807 := by
      have := hs (eBl b) (by simp)
      simp -dsimp [eBl, cBl, eSos, small] at this
      omega
    have wS : IntKind.i64.wrap ((b.sorts.length : Int) - 1) = (b.sorts.length : Int) - 1 := zab (by omega) (by omega)
    simp -dsimp [hr, g1, g2, wS]
    (first | refine zal ?_ ?_ | refine zam ?_ ?_) <;> intro g3 <;> (try simp only [nrm] at g3) <;> simp -dsimp [g3, hr, g1, g2, wS]
    · have h5 := (zh1 _ _ _).1 g3
      by_cases h6 : a.sort < 0
      · simp -dsimp [argM, hr, g1, g2, h6]
      · have h7 : b.sorts[a.sort.toNat]? = none := List.getElem?_eq_none (by omega)
        simp -dsimp [argM, hr, g1, g2, h6, h7]
    have h5 := (zf0 _ _ _).1 g3
    have hlt : a.sort.toNat < b.sorts.length := by omega
    have hs0 : 0 ≤ a.sort := h5.1
    have hA : argM b a i = if (a.idx.length : Int) = (b.sorts[a.sort.toNat].idx.length : Int) then domM i a.dom && allM a.idx (w64 (i + a.dom.length)) else false := by
      have : ¬a.sort < 0 := by omega
      simp [argM, hr, g1, g2, hlt, this]
    simp -dsimp [hr, g1, g2, g3, hlt, hs0, eSo, cSo, eArs, cT]
    (first | refine zal ?_ ?_ | refine zam ?_ ?_) <;> intro g4 <;> (try simp only [nrm] at g4) <;> simp -dsimp [g4, hr, g1, g2, g3, hlt, hs0, eSo, cSo, eArs, cT]
    · rw [hA, if_neg g4]
    rw [hA, if_pos g4]
    have hd : a.dom.length ≤ 12 := by omega
    refine zaj a.dom.length (fun j st => st.s 2 = .d (.int .i64 i) ∧ st.s 4 = .ptr 4 1 0 ∧ st.h 4 = ⟨1, .box [.d (.bool true), .d (.int .i64 a.ty.kind), .d (.int .i64 a.ty.num), .d (.sl 3 (a.ty.kids.map eT)), .d (.sl 3 (a.dom.map eT)), .d (.int .i64 a.sort), .d (.sl 3 (a.idx.map eT))] false⟩ ∧
      st.s 7 = .d (.int .i64 j) ∧ ∀ (k : Nat) (hk : k < a.dom.length), k < j → inM a.dom[k] (w64 (i + k)) = true) ?_ ?_
    · simp -dsimp [hr]
    · rintro j ⟨s, hp⟩ hj ⟨f1, f2, f3, f4, f7⟩
      dsimp only at f1 f2 f3 f4
      rcases Nat.lt_or_ge j a.dom.length with hlt | hge
      · have w1 : IntKind.i64.wrap ((j : Int) + 1) = (j : Int) + 1 := zab (by omega) (by omega)
        have w2 : IntKind.i64.wrap (i + (j : Int)) = i + (j : Int) := zab (by omega) (by omega)
        have w3 : w64 (i + (j : Int)) = i + (j : Int) := w2
        simp -dsimp [f1, f2, f3, f4, hlt, cT, w2]
        refine zaa (zqe a.dom[j] _ (by omega)) ?_
        simp -dsimp [f1, f2, f3, f4, hlt]
        (first | refine zal ?_ ?_ | refine zam ?_ ?_) <;> intro h6 <;> (try simp only [nrm] at h6) <;> simp -dsimp [h6, f1, f2, f3, f4, hlt, w1]
        · have : domM i a.dom = false := zpw (p := fun j t => inM t (w64 (i + j))) hlt (by rw [w3]; exact h6)
          simp [this]
        · exact zjr (p := fun j t => inM t (w64 (i + j))) hlt f7 (by rw [w3]; exact h6)
      · have e : j = a.dom.length := by omega
        subst e
        have hD : domM i a.dom = true := zpy f7
        have w2 : IntKind.i64.wrap (i + (a.dom.length : Int)) = i + (a.dom.length : Int) := zab (by omega) (by omega)
        have w3 : w64 (i + (a.dom.length : Int)) = i + (a.dom.length : Int) := w2
        rw [hD, Bool.true_and]
        simp -dsimp [f1, f2, f3, f4]
        clear f4 f7 hj
        refine zaj a.idx.length (fun j st => st.s 2 = .d (.int .i64 i) ∧ st.s 4 = .ptr 4 1 0 ∧ st.h 4 = ⟨1, .box [.d (.bool true), .d (.int .i64 a.ty.kind), .d (.int .i64 a.ty.num), .d (.sl 3 (a.ty.kids.map eT)), .d (.sl 3 (a.dom.map eT)), .d (.int .i64 a.sort), .d (.sl 3 (a.idx.map eT))] false⟩ ∧
          st.s 8 = .d (.int .i64 j) ∧ ∀ (k : Nat) (hk : k < a.idx.length), k < j → inM a.idx[k] (i + a.dom.length) = true) ?_ ?_
        · simp -dsimp [f1, f2, f3]
        · clear f1 f2 f3 s hp
          rintro j ⟨s, hp⟩ hj ⟨f1, f2, f3, f4, f7⟩
          dsimp only at f1 f2 f3 f4
          rcases Nat.lt_or_ge j a.idx.length with hlt | hge
          · have w1 : IntKind.i64.wrap ((j : Int) + 1) = (j : Int) + 1 := zab (by omega) (by omega)
            simp -dsimp [f1, f2, f3, f4, hlt, cT, w2]
            refine zaa (zqe a.idx[j] _ (by omega)) ?_
            simp -dsimp [f1, f2, f3, f4, hlt]
            (first | refine zal ?_ ?_ | refine zam ?_ ?_) <;> intro h6 <;> (try simp only [nrm] at h6) <;> simp -dsimp [h6, f1, f2, f3, f4, hlt, w1]
            · rw [allM, w3]
              have : (a.idx.any fun t => !inM t (i + a.dom.length)) = true := zyb hlt (by simp [h6])
              rw [this]; rfl
            · exact zpm (p := fun t => inM t (i + a.dom.length)) hlt f7 h6
          · have e : j = a.idx.length := by omega
            subst e
            have hI : allM a.idx (w64 (i + a.dom.length)) = true := by
              rw [allM, w3]
              have := zwi (p := fun t => inM t (i + a.dom.length)) f7
              rw [List.all_eq_not_any_not] at this
              exact this
            simp -dsimp [f1, f2, f3, f4, hI]
theorem zPt (b : Bl) (c : Co) : Pure Tryz.prog zi8 [eBl b, .agg (cCo c)] [.bool (conM b c)] := by
  refine zu1 rfl fun hs => ?_
  have hi : ((c.idx.length : Int)) ≤ 9223372036854775807 := by
    have := hs (.agg (cCo c)) (by simp)
    simp -dsimp [cCo, cT, eTs, eArs, small] at this
    omega
  have hbl : ((b.sorts.length : Int)) ≤ 9223372036854775807 := by
    have := hs (eBl b) (by simp)
    simp -dsimp [eBl, cBl, eSos, small] at this
    omega
  have wS : IntKind.i64.wrap ((b.sorts.length : Int) - 1) = (b.sorts.length : Int) - 1 := zab (by omega) (by omega)
  simp -dsimp [zi0, eBl, cBl, eSos, eCos, cCo, cT, eTs, eArs, wS]
  refine zaa (zlo c.sort 0 _) ?_
  simp -dsimp
  (first | refine zal ?_ ?_ | refine zam ?_ ?_) <;> intro g1 <;> (try simp only [nrm] at g1) <;> simp -dsimp [g1]
  · have h5 := (zh1 _ _ _).1 g1
    by_cases h6 : c.sort < 0
    · simp -dsimp [conM, h6]
    · have h7 : b.sorts[c.sort.toNat]? = none := List.getElem?_eq_none (by omega)
      simp -dsimp [conM, h6, h7]
  have h5 := (zf0 _ _ _).1 g1
  have hlt : c.sort.toNat < b.sorts.length := by omega
  have hs0 : 0 ≤ c.sort := h5.1
  have hA : conM b c = if rowM b c.args then if (c.idx.length : Int) = (b.sorts[c.sort.toNat].idx.length : Int) then if allM c.idx c.args.length then zfl b.sorts[c.sort.toNat].dec c.dec c.args.length else false else false else false := by
    have : ¬c.sort < 0 := by omega
    simp [conM, hlt, this]
  (first | refine zal ?_ ?_ | refine zam ?_ ?_) <;> intro g2 <;> (try simp only [nrm] at g2) <;> simp -dsimp [g2, g1]
  · rw [hA, rowM, if_pos g2]; rfl
  simp -dsimp [g1, g2, hlt, hs0, eSo, cSo, eArs, cT]
  (first | refine zal ?_ ?_ | refine zam ?_ ?_) <;> intro g3 <;> (try simp only [nrm] at g3) <;> simp -dsimp [g3, g1, g2]
  · rw [hA, if_neg g3]
    split <;> rfl
  have hal : c.args.length ≤ 12 := by omega
  rw [if_pos g3] at hA
  have hR : rowM b c.args = allI (fun i a => argM b a i) 0 c.args := by rw [rowM, if_neg g2]
  rw [hA]
  refine zaj c.args.length (fun i st => st.s 2 = .ptr 2 1 0 ∧ st.h 2 = ⟨1, .box [.d (.sl 6 (b.sorts.map eSo)), .d (.sl 6 (b.cons.map eCo)), .d (.int .i64 b.elim)] false⟩ ∧
    st.s 3 = .ptr 3 1 0 ∧ st.h 3 = ⟨1, .box [.d (.int .i64 c.sort), .d (.sl 7 (c.args.map eAr)), .d (.sl 3 (c.idx.map eT)), .d (.int .i64 c.dec.kind), .d (.int .i64 c.dec.num), .d (.sl 3 (c.dec.kids.map eT))] false⟩ ∧
    st.s 5 = .d (.int .i64 i) ∧ ∀ (j : Nat) (hj : j < c.args.length), j < i → argM b c.args[j] j = true) ?_ ?_
  · simp -dsimp
  · rintro i ⟨s, hp⟩ hi ⟨f1, f2, f3, f4, f5, f7⟩
    dsimp only at f1 f2 f3 f4 f5
    rcases Nat.lt_or_ge i c.args.length with hlt' | hge
    · have w1 : IntKind.i64.wrap ((i : Int) + 1) = (i : Int) + 1 := zab (by omega) (by omega)
      simp -dsimp [f1, f2, f3, f4, f5, hlt', eAr, cAr, cT, eTs]
      refine zaa (zI3 b c.args[i] i (by omega) (by omega)) ?_
      simp -dsimp [f1, f2, f3, f4, f5, hlt']
      (first | refine zal ?_ ?_ | refine zam ?_ ?_) <;> intro h6 <;> (try simp only [nrm] at h6) <;> simp -dsimp [h6, f1, f2, f3, f4, f5, hlt', w1]
      · intro h
        rw [hR, zpw (p := fun i a => argM b a i) hlt' h6] at h
        cases h
      · exact zjr (p := fun i a => argM b a i) hlt' f7 h6
    · have e : i = c.args.length := by omega
      subst e
      have hD : rowM b c.args = true := by rw [hR]; exact zpy (p := fun i a => argM b a i) f7
      rw [if_pos hD]
      simp -dsimp [f1, f2, f3, f4, f5]
      clear f5 f7 hi
      refine zaj c.idx.length (fun i st => st.s 2 = .ptr 2 1 0 ∧ st.h 2 = ⟨1, .box [.d (.sl 6 (b.sorts.map eSo)), .d (.sl 6 (b.cons.map eCo)), .d (.int .i64 b.elim)] false⟩ ∧
        st.s 3 = .ptr 3 1 0 ∧ st.h 3 = ⟨1, .box [.d (.int .i64 c.sort), .d (.sl 7 (c.args.map eAr)), .d (.sl 3 (c.idx.map eT)), .d (.int .i64 c.dec.kind), .d (.int .i64 c.dec.num), .d (.sl 3 (c.dec.kids.map eT))] false⟩ ∧
        st.s 6 = .d (.int .i64 i) ∧ ∀ (j : Nat) (hj : j < c.idx.length), j < i → inM c.idx[j] c.args.length = true) ?_ ?_
      · simp -dsimp [f1, f2, f3, f4]
      · clear f1 f2 f3 f4 s hp
        rintro i ⟨s, hp⟩ hi ⟨f1, f2, f3, f4, f5, f7⟩
        dsimp only at f1 f2 f3 f4 f5
        rcases Nat.lt_or_ge i c.idx.length with hlt' | hge
        · have w1 : IntKind.i64.wrap ((i : Int) + 1) = (i : Int) + 1 := zab (by omega) (by omega)
          simp -dsimp [f1, f2, f3, f4, f5, hlt', cT]
          refine zaa (zqe c.idx[i] _ (by omega)) ?_
          simp -dsimp [f1, f2, f3, f4, f5, hlt']
          (first | refine zal ?_ ?_ | refine zam ?_ ?_) <;> intro h6 <;> (try simp only [nrm] at h6) <;> simp -dsimp [h6, f1, f2, f3, f4, f5, hlt', w1]
          · intro h
            have : (c.idx.any fun t => !inM t c.args.length) = true := zyb hlt' (by simp [h6])
            rw [allM, this] at h
            cases h
          · exact zpm (p := fun t => inM t c.args.length) hlt' f7 h6
        · have e : i = c.idx.length := by omega
          subst e
          have hI : allM c.idx c.args.length = true := by
            rw [allM]
            have := zwi (p := fun t => inM t c.args.length) f7
            rw [List.all_eq_not_any_not] at this
            exact this
          rw [if_pos hI]
          simp -dsimp [f1, f2, f3, f4, f5, hlt, hs0, eSo, cSo, eArs, cT]
          (first | refine zal ?_ ?_ | refine zam ?_ ?_) <;> intro g6 <;> (try simp only [nrm] at g6) <;> simp -dsimp [g6, f1, f2, f3, f4, f5, zfl]
          · refine zaa (zqe c.dec _ (by omega)) ?_
            simp -dsimp [f1, f2, f3, f4, f5, zfl, g6]
          · refine zaa (zBb c.dec) ?_
            simp -dsimp [f1, f2, f3, f4, f5, zfl, g6]
theorem zbn (b : Bl) : zfq b = 0 ↔ 1 ≤ b.sorts.length ∧ b.sorts.length ≤ 4 ∧ b.cons.length ≤ 8 ∧ zlx b.elim = true ∧ (∀ (j : Nat) (hj : j < b.sorts.length), zhp b j b.sorts[j] = true) ∧ ∀ c ∈ b.cons, conM b c = true := by
  have ha : allI (fun k s => zhp b k s) 0 b.sorts = true ↔ ∀ (j : Nat) (hj : j < b.sorts.length), zhp b j b.sorts[j] = true := by
    rw [zaq]
    simp
  rw [zfq]
  by_cases h1 : (b.sorts.length : Int) < 1
  · rw [if_pos h1]
    constructor
    · intro h; simp at h
    · rintro ⟨h, _⟩; omega
  rw [if_neg h1]
  by_cases h2 : 4 < (b.sorts.length : Int)
  · rw [if_pos h2]
    constructor
    · intro h; simp at h
    · rintro ⟨_, h, _⟩; omega
  rw [if_neg h2]
  by_cases h3 : 8 < (b.cons.length : Int)
  · rw [if_pos h3]
    constructor
    · intro h; simp at h
    · rintro ⟨_, _, h, _⟩; omega
  rw [if_neg h3, ← ha]
  cases hl : zlx b.elim with
  | false => simp
  | true =>
    cases hs : allI (fun k s => zhp b k s) 0 b.sorts with
    | false => simp
    | true =>
      have hc : (b.cons.any fun c => !conM b c) = false ↔ ∀ c ∈ b.cons, conM b c = true := by
        rw [List.any_eq_false]
        simp
      cases hq : b.cons.any fun c => !conM b c with
      | false =>
        simp only [hq] at hc ⊢
        simp only [if_true]
        exact ⟨fun _ => ⟨by omega, by omega, by omega, trivial, trivial, hc.1 trivial⟩, fun _ => rfl⟩
      | true =>
        simp only [hq] at hc ⊢
        simp only [if_true]
        constructor
        · intro h; simp at h
        · rintro ⟨_, _, _, _, _, h⟩
          exact absurd (hc.2 h) (by simp)
def zmq (b : Bl) : Bool := decide (zfq b = 0)
theorem zB6 (n : Int) : zlx n = inB n 0 6 := rfl
theorem zd9 (b : Bl) (k : Nat) (s : So) : zhp b k s = true ↔ rowM b s.idx = true ∧ zlx s.level = true ∧ zfl s.dec s.dty s.idx.length = true ∧ ∀ a ∈ s.idx, zim k s a = false := by
  rw [zhp]
  cases rowM b s.idx <;> cases zlx s.level <;> cases zfl s.dec s.dty s.idx.length <;> simp
theorem zhc {b : Bl} {k : Nat} {s : So} {p : Prop} (hn : ¬p) (h : zhp b k s = true → p) : zhp b k s = false := by
  cases hq : zhp b k s with
  | false => rfl
  | true => exact absurd (h hq) hn
theorem zzc {α : Type} {p : α → Bool} {l : List α} {i : Nat} (hi : i < l.length) (h : ∀ (j : Nat) (hj : j < l.length), j < i → p l[j] = false) (hx : p l[i] = false) :
    ∀ (j : Nat) (hj : j < l.length), j < i + 1 → p l[j] = false := by
  intro j hj hji
  rcases Nat.lt_or_ge j i with h' | h'
  · exact h j hj h'
  · have : j = i := by omega
    subst this
    exact hx
def bad0 (k : Int) (a : Ar) : Bool := if a.rc then if 0 < (a.dom.length : Int) then true else decide (k ≤ a.sort) else false
theorem zMe {l : List Ar} {j : Nat} (h : j < l.length) : (l.take (j + 1)).any (·.rc) = ((l.take j).any (·.rc) || l[j].rc) := by
  rw [zdd (List.getElem?_eq_getElem h), List.any_append]
  simp
theorem zzh {k : Int} {s : So} {a : Ar} (h : bad0 k a = false) (hd : a.rc = true → s.dec = false) : zim k s a = false := by
  rw [bad0] at h
  rw [zim]
  cases hr : a.rc with
  | false => rfl
  | true =>
    simp only [hr, if_true] at h ⊢
    by_cases c : 0 < (a.dom.length : Int)
    · rw [if_pos c] at h; cases h
    · rw [if_neg c] at h ⊢
      have c2 : ¬k ≤ a.sort := by simpa using h
      rw [if_neg c2]
      exact hd hr
theorem zLa (b : Bl) : Pure Tryz.prog zhh [eBl b] [.bool (zmq b)] := by
  refine zr9 rfl fun hs => ?_
  have hbl : ((b.sorts.length : Int)) ≤ 9223372036854775807 := by
    have := hs (eBl b) (by simp)
    simp -dsimp [eBl, cBl, eSos, small] at this
    omega
  have no : ∀ {p : Prop}, ¬p → (zfq b = 0 → p) → zmq b = false := fun hn hp => by
    rw [zmq, decide_eq_false_iff_not]
    exact fun h => hn (hp h)
  simp -dsimp [zhe, eBl, cBl, eSos, eCos]
  refine zaa (zlo _ 1 4) ?_
  simp -dsimp
  (first | refine zal ?_ ?_ | refine zam ?_ ?_) <;> intro g1 <;> (try simp only [nrm] at g1) <;> simp -dsimp [g1]
  · refine no (p := 1 ≤ b.sorts.length ∧ b.sorts.length ≤ 4) ?_ fun h => ⟨((zbn b).1 h).1, ((zbn b).1 h).2.1⟩
    have := (zh1 _ _ _).1 g1
    omega
  (first | refine zal ?_ ?_ | refine zam ?_ ?_) <;> intro g2 <;> (try simp only [nrm] at g2) <;> simp -dsimp [g2, g1]
  · exact no (p := b.cons.length ≤ 8) (by omega) fun h => ((zbn b).1 h).2.2.1
  refine zaa (zlo b.elim 0 6) ?_
  simp -dsimp [g1, g2]
  (first | refine zal ?_ ?_ | refine zam ?_ ?_) <;> intro g3 <;> (try simp only [nrm] at g3) <;> simp -dsimp [g3, g1, g2]
  · exact no (p := zlx b.elim = true) (by rw [zB6, g3]; simp) fun h => ((zbn b).1 h).2.2.2.1
  have hS := (zf0 _ _ _).1 g1
  have hSl : b.sorts.length ≤ 4 := by omega
  have hCl : b.cons.length ≤ 8 := by omega
  refine zaj b.sorts.length (fun i st => st.s 1 = .ptr 1 1 0 ∧ st.h 1 = ⟨1, .box [.d (.sl 6 (b.sorts.map eSo)), .d (.sl 6 (b.cons.map eCo)), .d (.int .i64 b.elim)] false⟩ ∧ st.s 3 = .d (.int .i64 i) ∧
    ∀ (j : Nat) (hj : j < b.sorts.length), j < i → zhp b j b.sorts[j] = true) ?_ ?_
  · simp -dsimp
  · rintro i ⟨s, hp⟩ hi ⟨f1, f2, f3, f4⟩
    dsimp only at f1 f2 f3
    rcases Nat.lt_or_ge i b.sorts.length with hlt | hge
    · have w1 : IntKind.i64.wrap ((i : Int) + 1) = (i : Int) + 1 := zab (by omega) (by omega)
      simp -dsimp [f1, f2, f3, hlt, eSo, cSo, cT, eArs]
      have noS : zhp b i b.sorts[i] = false → zmq b = false := fun hx =>
        no (p := zhp b i b.sorts[i] = true) (by rw [hx]; simp) fun h => ((zbn b).1 h).2.2.2.2.1 i hlt
      have hR : ¬12 < (b.sorts[i].idx.length : Int) → rowM b b.sorts[i].idx = allI (fun i a => argM b a i) 0 b.sorts[i].idx := fun h => by rw [rowM, if_neg h]
      generalize hsi : b.sorts[i] = s at noS hR ⊢
      (first | refine zal ?_ ?_ | refine zam ?_ ?_) <;> intro g4 <;> (try simp only [nrm] at g4) <;> simp -dsimp [g4, f1, f2, f3, hlt]
      · exact noS (zhc (p := rowM b s.idx = true) (by rw [rowM, if_pos g4]; simp) fun h => ((zd9 b i s).1 h).1)
      refine zaa (zlo s.level 0 6) ?_
      simp -dsimp [g4]
      (first | refine zal ?_ ?_ | refine zam ?_ ?_) <;> intro g5 <;> (try simp only [nrm] at g5) <;> simp -dsimp [g5, f1, f2, f3, hlt, g4]
      · exact noS (zhc (p := zlx s.level = true) (by rw [zB6, g5]; simp) fun h => ((zd9 b i s).1 h).2.1)
      replace hR := hR g4
      have hsl : s.idx.length ≤ 12 := by omega
      generalize (hp 4).ver + 1 = v
      refine zaj s.idx.length (fun j st => st.s 1 = .ptr 1 1 0 ∧ st.h 1 = ⟨1, .box [.d (.sl 6 (b.sorts.map eSo)), .d (.sl 6 (b.cons.map eCo)), .d (.int .i64 b.elim)] false⟩ ∧ st.s 3 = .d (.int .i64 i) ∧
        st.s 4 = .ptr 4 v 0 ∧ st.h 4 = ⟨v, .box [.d (.sl 7 (s.idx.map eAr)), .d (.int .i64 s.level), .d (.bool s.dec), .d (.int .i64 s.dty.kind), .d (.int .i64 s.dty.num), .d (.sl 3 (s.dty.kids.map eT))] false⟩ ∧
        st.s 6 = .d (.int .i64 j) ∧ st.s 5 = .d (.bool ((s.idx.take j).any (·.rc))) ∧ (∀ (k : Nat) (hk : k < s.idx.length), k < j → argM b s.idx[k] k = true) ∧ ∀ (k : Nat) (hk : k < s.idx.length), k < j → bad0 i s.idx[k] = false) ?_ ?_
      · simp -dsimp [f1, f2, f3]
      · clear f1 f2 f3 hp
        rintro j ⟨s', hp⟩ hj ⟨e1, e2, e3, e4, e5, e6, e7, e8, e9⟩
        dsimp only at e1 e2 e3 e4 e5 e6 e7
        rcases Nat.lt_or_ge j s.idx.length with hlt' | hge
        · have w2 : IntKind.i64.wrap ((j : Int) + 1) = (j : Int) + 1 := zab (by omega) (by omega)
          simp -dsimp [e1, e2, e3, e4, e5, e6, e7, hlt', eAr, cAr, cT, eTs]
          refine zaa (zI3 b s.idx[j] j (by omega) (by omega)) ?_
          simp -dsimp [e1, e2, e3, e4, e5, e6, e7, hlt', eAr, cAr, cT, eTs]
          (first | refine zal ?_ ?_ | refine zam ?_ ?_) <;> intro c1 <;> (try simp only [nrm] at c1) <;> simp -dsimp [c1, e1, e2, e3, e4, e5, e6, e7, hlt', eAr, cAr, cT, eTs]
          · refine noS (zhc (p := rowM b s.idx = true) ?_ fun h => ((zd9 b i s).1 h).1)
            rw [hR, zpw (p := fun i a => argM b a i) hlt' c1]
            simp
          have hany := zMe hlt'
          have hbad : bad0 i s.idx[j] = true → zmq b = false := fun hb => by
            refine noS (zhc (p := zim i s s.idx[j] = false) ?_ fun h => ((zd9 b i s).1 h).2.2.2 _ (List.getElem_mem _))
            rw [bad0] at hb
            rw [zim]
            cases hr : s.idx[j].rc with
            | false => simp [hr] at hb
            | true =>
              simp only [hr, if_true] at hb ⊢
              by_cases c2 : 0 < (s.idx[j].dom.length : Int)
              · rw [if_pos c2]; simp
              · rw [if_neg c2] at hb
                have c3 : (i : Int) ≤ s.idx[j].sort := by simpa using hb
                rw [if_neg c2, if_pos c3]; simp
          generalize (s.idx.take j).any (·.rc) = R at e7 hany
          cases hr : s.idx[j].rc with
          | false =>
            rw [hr] at hany
            have hb0 : bad0 i s.idx[j] = false := by simp [bad0, hr]
            cases R <;> simp -dsimp [e1, e2, e3, e4, e5, e6, e7, hlt', eAr, cAr, cT, eTs, hr, hany, w2, c1] <;> exact ⟨zjr (p := fun i a => argM b a i) hlt' e8 c1, zzc hlt' e9 hb0⟩
          | true =>
            rw [hr] at hany
            simp -dsimp [e1, e2, e3, e4, e5, e6, e7, hlt', eAr, cAr, cT, eTs, hr, hany, w2, c1]
            (first | refine zal ?_ ?_ | refine zam ?_ ?_) <;> intro c2 <;> (try simp only [nrm] at c2) <;> simp -dsimp [c2, e1, e2, e3, e4, e5, e6, e7, hlt', eAr, cAr, cT, eTs, hr, hany, w2, c1]
            · exact hbad (by simp only [bad0, hr, if_true]; rw [if_pos (by omega)])
            (first | refine zal ?_ ?_ | refine zam ?_ ?_) <;> intro c3 <;> (try simp only [nrm] at c3) <;> simp -dsimp [c3, e1, e2, e3, e4, e5, e6, e7, hlt', eAr, cAr, cT, eTs, hr, hany, w2, c1, c2]
            · exact hbad (by simp only [bad0, hr, if_true]; rw [if_neg (by omega)]; simpa using c3)
            have hb0 : bad0 i s.idx[j] = false := by
              simp only [bad0, hr, if_true]
              rw [if_neg (by omega)]
              simp
              omega
            cases R <;> simp -dsimp [e1, e2, e3, e4, e5, e6, e7, hlt', eAr, cAr, cT, eTs, hr, hany, w2, c1, c2, c3] <;> exact ⟨zjr (p := fun i a => argM b a i) hlt' e8 c1, zzc hlt' e9 hb0⟩
        · have e : j = s.idx.length := by omega
          subst e
          rw [List.take_length] at e7
          have hRow : rowM b s.idx = true := by rw [hR]; exact zpy (p := fun i a => argM b a i) e8
          have hLev : zlx s.level = true := g5
          have hbads : ∀ a ∈ s.idx, bad0 i a = false := fun a ha => by
            obtain ⟨k, hk, rfl⟩ := List.mem_iff_getElem.1 ha
            exact e9 k hk hk
          have next : zhp b i s = true → ∀ (k : Nat) (hk : k < b.sorts.length), k < i + 1 → zhp b k b.sorts[k] = true := fun h => zjr (p := fun k s => zhp b k s) hlt f4 (by rw [hsi]; exact h)
          simp -dsimp [e1, e2, e3, e4, e5, e6, e7]
          cases hd : s.dec with
          | false =>
            simp -dsimp [e1, e2, e3, e4, e5, e6, e7, hd]
            refine zaa (zBb s.dty) ?_
            simp -dsimp [e1, e2, e3, e4, e5, e6, e7, hd]
            (first | refine zal ?_ ?_ | refine zam ?_ ?_) <;> intro c4 <;> (try simp only [nrm] at c4) <;> simp -dsimp [c4, e1, e2, e3, e4, e5, e6, e7, hd, w1]
            · exact noS (zhc (p := zfl s.dec s.dty s.idx.length = true) (by rw [zfl, hd]; simp [c4]) fun h => ((zd9 b i s).1 h).2.2.1)
            · exact ⟨hlt, next ((zd9 b i s).2 ⟨hRow, hLev, by rw [zfl, hd]; exact c4, fun a ha => zzh (hbads a ha) fun _ => hd⟩)⟩
          | true =>
            cases hrec : s.idx.any (·.rc) with
            | true =>
              rw [hrec] at e7
              simp -dsimp [e1, e2, e3, e4, e5, e6, e7, hd]
              obtain ⟨a, ha, har⟩ := List.any_eq_true.1 hrec
              refine noS (zhc (p := zim i s a = false) ?_ fun h => ((zd9 b i s).1 h).2.2.2 a ha)
              have har : a.rc = true := har
              simp [zim, har, hd]
            | false =>
              rw [hrec] at e7
              simp -dsimp [e1, e2, e3, e4, e5, e6, e7, hd]
              refine zaa (zqe s.dty _ (by omega)) ?_
              simp -dsimp [e1, e2, e3, e4, e5, e6, e7, hd]
              (first | refine zal ?_ ?_ | refine zam ?_ ?_) <;> intro c4 <;> (try simp only [nrm] at c4) <;> simp -dsimp [c4, e1, e2, e3, e4, e5, e6, e7, hd, w1]
              · exact noS (zhc (p := zfl s.dec s.dty s.idx.length = true) (by rw [zfl, hd]; simp [c4]) fun h => ((zd9 b i s).1 h).2.2.1)
              · exact ⟨hlt, next ((zd9 b i s).2 ⟨hRow, hLev, by rw [zfl, hd]; exact c4, fun a ha => zzh (hbads a ha) fun har => absurd har (by simpa using List.any_eq_false.1 hrec a ha)⟩)⟩
    · have e : i = b.sorts.length := by omega
      subst e
      simp -dsimp [f1, f2, f3]
      clear f3 hi
      refine zaj b.cons.length (fun i st => st.s 1 = .ptr 1 1 0 ∧ st.h 1 = ⟨1, .box [.d (.sl 6 (b.sorts.map eSo)), .d (.sl 6 (b.cons.map eCo)), .d (.int .i64 b.elim)] false⟩ ∧ st.s 7 = .d (.int .i64 i) ∧
        ∀ (j : Nat) (hj : j < b.cons.length), j < i → conM b b.cons[j] = true) ?_ ?_
      · simp -dsimp [f1, f2]
      · clear f1 f2 s hp
        rintro i ⟨s, hp⟩ hi ⟨f1, f2, f3, f5⟩
        dsimp only at f1 f2 f3
        rcases Nat.lt_or_ge i b.cons.length with hlt | hge
        · have w1 : IntKind.i64.wrap ((i : Int) + 1) = (i : Int) + 1 := zab (by omega) (by omega)
          simp -dsimp [f1, f2, f3, hlt, eCo, cCo, cT, eArs, eTs]
          refine zaa (zPt b b.cons[i]) ?_
          simp -dsimp [f1, f2, f3, hlt]
          (first | refine zal ?_ ?_ | refine zam ?_ ?_) <;> intro h6 <;> (try simp only [nrm] at h6) <;> simp -dsimp [h6, f1, f2, f3, hlt, w1]
          · exact no (p := conM b b.cons[i] = true) (by rw [h6]; simp) fun h => ((zbn b).1 h).2.2.2.2.2 _ (List.getElem_mem _)
          · exact zpm (p := conM b) hlt f5 h6
        · have e : i = b.cons.length := by omega
          subst e
          have hAll : zmq b = true := by
            rw [zmq, decide_eq_true_eq, zbn]
            refine ⟨by omega, by omega, hCl, g3, fun j hj => f4 j hj hj, fun c hc => ?_⟩
            obtain ⟨k, hk, rfl⟩ := List.mem_iff_getElem.1 hc
            exact f5 k hk hk
          simp -dsimp [f1, f2, f3, hAll]
end
section
attribute [local simp] zac zag tk tn tks zc4 zdf
theorem zBt (b : Bl) : Pure Tryz.prog zbf [eBl b] [.int .i64 b.sorts.length] := by
  refine zvu rfl fun hs => ?_
  simp -dsimp [zjz, eBl, cBl, eSos, eCos]
theorem zL3 {l : List So} {i : Nat} (h : l.length ≤ i) : decs (l.take i) = decs l := by rw [List.take_of_length_le h]
theorem zAk (b : Bl) (k : Int) : Pure Tryz.prog zdp [eBl b, .int .i64 k] [.int .i64 (decs (b.sorts.take k.toNat))] := by
  refine zs6 rfl fun hs => ?_
  have hbl : ((b.sorts.length : Int)) ≤ 9223372036854775807 := by
    have := hs (eBl b) (by simp)
    simp -dsimp [eBl, cBl, eSos, small] at this
    omega
  simp -dsimp [zii, eBl, cBl, eSos, eCos]
  have hl := zL3 (l := b.sorts) (i := k.toNat)
  refine zaj (min k.toNat b.sorts.length) (fun i st => st.s 1 = .d (.int .i64 k) ∧ st.s 2 = .ptr 2 1 0 ∧ st.h 2 = ⟨1, .box [.d (.sl 6 (b.sorts.map eSo)), .d (.sl 6 (b.cons.map eCo)), .d (.int .i64 b.elim)] false⟩ ∧
    st.s 6 = .d (.int .i64 i) ∧ st.s 5 = .d (.int .i64 (decs (b.sorts.take i)))) ?_ ?_
  · simp -dsimp [decs]
  · rintro i ⟨s, hp⟩ hi ⟨g1, g2, g3, g4, g5⟩
    dsimp only at g1 g2 g3 g4 g5
    rcases Nat.lt_or_ge i (min k.toNat b.sorts.length) with hlt | hge
    · have hlt1 : (i : Int) < k := by omega
      have hlt2 : i < b.sorts.length := by omega
      have hlt3 : i < k.toNat := by omega
      have w1 : IntKind.i64.wrap ((i : Int) + 1) = (i : Int) + 1 := zab (by omega) (by omega)
      have hd := zij (b.sorts.take i)
      rw [List.length_take] at hd
      have w2 : IntKind.i64.wrap ((decs (b.sorts.take i) : Int) + 1) = (decs (b.sorts.take i) : Int) + 1 := zab (by omega) (by omega)
      have hsn := zxz b.sorts i b.sorts[i] (List.getElem?_eq_getElem hlt2)
      simp -dsimp [g1, g2, g3, g4, g5, hlt1, hlt2, eSo, cSo, cT, eArs]
      cases hxd : b.sorts[i].dec <;> simp -dsimp [hlt, hxd, g1, g2, g3, g4, g5, hlt1, hlt2, hlt3, w1, w2, hsn]
    · have e : i = min k.toNat b.sorts.length := by omega
      rcases Nat.lt_or_ge k.toNat b.sorts.length with c | c
      · have e2 : i = k.toNat := by omega
        have n1 : ¬(max k 0 < k) := by omega
        clear e
        subst e2
        simp -dsimp [g1, g2, g3, g4, g5, n1]
      · have e2 : i = b.sorts.length := by omega
        rw [hl c]
        clear e
        subst e2
        rw [List.take_length] at g5
        simp -dsimp [g1, g2, g3, g4, g5]
        (first | refine zal ?_ ?_ | refine zam ?_ ?_) <;> intro n1 <;> (try simp only [nrm] at n1) <;> simp -dsimp [n1, g1, g2, g3, g4, g5]
theorem zz0 (b : Bl) (hf : Fit b) (base k : Int) : Pure Tryz.prog zd4 [eBl b, .int .i64 base, .int .i64 k] [.int .i64 (zbl b base k)] := by
  refine zqr rfl fun hs => ?_
  have hfs := hf.s
  simp -dsimp [zgn, eBl, cBl, eSos, eCos]
  refine zaa (zlo base 0 65535) ?_
  simp -dsimp
  (first | refine zal ?_ ?_ | refine zam ?_ ?_) <;> intro g1 <;> (try simp only [nrm] at g1) <;> simp -dsimp [g1]
  · have h5 := (zh1 _ _ _).1 g1
    rw [zbl, zjn, if_pos (by omega)]
  refine zaa (zBt b) ?_
  have wS : IntKind.i64.wrap ((b.sorts.length : Int) - 1) = (b.sorts.length : Int) - 1 := zab (by omega) (by omega)
  simp -dsimp [g1, wS]
  refine zaa (zlo k 0 _) ?_
  simp -dsimp [g1]
  have h5 := (zf0 _ _ _).1 g1
  rw [zk0 hf h5.1 h5.2]
  (first | refine zal ?_ ?_ | refine zam ?_ ?_) <;> intro g2 <;> (try simp only [nrm] at g2) <;> simp -dsimp [g2, g1]
  · have h6 := (zh1 _ _ _).1 g2
    intros
    omega
  have h6 := (zf0 _ _ _).1 g2
  rw [if_pos (by omega)]
  exact zab (by omega) (by omega)
theorem zqw (b : Bl) (hf : Fit b) (base k : Int) : Pure Tryz.prog zd6 [eBl b, .int .i64 base, .int .i64 k] [.int .i64 (zb6 b base k)] := by
  refine zmd rfl fun hs => ?_
  have hfs := hf.s
  have hfc := hf.c
  have hd := zij b.sorts
  simp -dsimp [zea, eBl, cBl, eSos, eCos]
  refine zaa (zlo base 0 65535) ?_
  simp -dsimp
  (first | refine zal ?_ ?_ | refine zam ?_ ?_) <;> intro g1 <;> (try simp only [nrm] at g1) <;> simp -dsimp [g1]
  · have h5 := (zh1 _ _ _).1 g1
    rw [zb6, zjn, if_pos (by omega)]
  refine zaa (zBt b) ?_
  have wS : IntKind.i64.wrap ((b.sorts.length : Int) - 1) = (b.sorts.length : Int) - 1 := zab (by omega) (by omega)
  simp -dsimp [g1, wS]
  refine zaa (zlo k 0 _) ?_
  simp -dsimp [g1]
  have h5 := (zf0 _ _ _).1 g1
  rw [znw hf h5.1 h5.2]
  (first | refine zal ?_ ?_ | refine zam ?_ ?_) <;> intro g2 <;> (try simp only [nrm] at g2) <;> simp -dsimp [g2, g1]
  · have h6 := (zh1 _ _ _).1 g2
    intros
    omega
  have h6 := (zf0 _ _ _).1 g2
  rw [if_pos (by omega)]
  refine zaa (zBt b) ?_
  simp -dsimp
  refine zaa (zBt b) ?_
  simp -dsimp
  refine zaa (zAk b b.sorts.length) ?_
  simp -dsimp
  rw [zab (n := base + (b.sorts.length : Int)) (by omega) (by omega), zab (n := base + (b.sorts.length : Int) + decs b.sorts) (by omega) (by omega), zab (n := base + (b.sorts.length : Int) + decs b.sorts + b.cons.length) (by omega) (by omega), zab (by omega) (by omega)]
  omega
theorem zpo (b : Bl) (hf : Fit b) (base k : Int) : Pure Tryz.prog zcf [eBl b, .int .i64 base, .int .i64 k] [.int .i64 (zak b base k)] := by
  refine zl9 rfl fun hs => ?_
  have hfs := hf.s
  have hfc := hf.c
  have hd := zij b.sorts
  simp -dsimp [zdx, eBl, cBl, eSos, eCos]
  refine zaa (zlo base 0 65535) ?_
  simp -dsimp
  (first | refine zal ?_ ?_ | refine zam ?_ ?_) <;> intro g1 <;> (try simp only [nrm] at g1) <;> simp -dsimp [g1]
  · have h5 := (zh1 _ _ _).1 g1
    rw [zak, zjn, if_pos (by omega)]
  have wS : IntKind.i64.wrap ((b.cons.length : Int) - 1) = (b.cons.length : Int) - 1 := zab (by omega) (by omega)
  simp -dsimp [g1, wS]
  refine zaa (zlo k 0 _) ?_
  simp -dsimp [g1]
  have h5 := (zf0 _ _ _).1 g1
  rw [ze0 hf h5.1 h5.2]
  (first | refine zal ?_ ?_ | refine zam ?_ ?_) <;> intro g2 <;> (try simp only [nrm] at g2) <;> simp -dsimp [g2, g1]
  · have h6 := (zh1 _ _ _).1 g2
    intros
    omega
  have h6 := (zf0 _ _ _).1 g2
  rw [if_pos (by omega)]
  refine zaa (zBt b) ?_
  simp -dsimp
  refine zaa (zBt b) ?_
  simp -dsimp
  refine zaa (zAk b b.sorts.length) ?_
  simp -dsimp
  rw [zab (n := base + (b.sorts.length : Int)) (by omega) (by omega), zab (n := base + (b.sorts.length : Int) + decs b.sorts) (by omega) (by omega), zab (by omega) (by omega)]
  omega
theorem zyd (b : Bl) (hf : Fit b) (base k : Int) : Pure Tryz.prog zft [eBl b, .int .i64 base, .int .i64 k] [.int .i64 (zdy b base k)] := by
  refine zok rfl fun hs => ?_
  have hfs := hf.s
  simp -dsimp [zfk, eBl, cBl, eSos, eCos]
  refine zaa (zlo base 0 65535) ?_
  simp -dsimp
  (first | refine zal ?_ ?_ | refine zam ?_ ?_) <;> intro g1 <;> (try simp only [nrm] at g1) <;> simp -dsimp [g1]
  · have h5 := (zh1 _ _ _).1 g1
    rw [zdy]
    split
    · rfl
    · split
      · rfl
      · split
        · rw [zjn, if_pos (by omega)]
        · rfl
  refine zaa (zBt b) ?_
  have wS : IntKind.i64.wrap ((b.sorts.length : Int) - 1) = (b.sorts.length : Int) - 1 := zab (by omega) (by omega)
  simp -dsimp [g1, wS]
  refine zaa (zlo k 0 _) ?_
  simp -dsimp [g1]
  have h5 := (zf0 _ _ _).1 g1
  rw [zvc hf h5.1 h5.2]
  (first | refine zal ?_ ?_ | refine zam ?_ ?_) <;> intro g2 <;> (try simp only [nrm] at g2) <;> simp -dsimp [g2, g1]
  · have h6 := (zh1 _ _ _).1 g2
    intro h
    omega
  have h6 := (zf0 _ _ _).1 g2
  have hlt : k.toNat < b.sorts.length := by omega
  rw [dif_pos (by omega)]
  simp -dsimp [g1, g2, h6.1, hlt, eSo, cSo, cT, eArs]
  (first | refine zal ?_ ?_ | refine zam ?_ ?_) <;> intro g4 <;> (try simp only [nrm] at g4) <;> simp -dsimp [g4, g1, g2, h6.1, hlt, eSo, cSo, cT, eArs]
  rw [if_pos g4]
  refine zaa (zBt b) ?_
  simp -dsimp
  refine zaa (zAk b k) ?_
  simp -dsimp
  have hd := zij (b.sorts.take k.toNat)
  rw [List.length_take] at hd
  rw [zab (n := base + (b.sorts.length : Int)) (by omega) (by omega), zab (by omega) (by omega)]
theorem zF9 (b : Bl) (hf : Fit b) (base n : Int) (hn : is64 n) : Pure Tryz.prog zdj [eBl b, .int .i64 base, .int .i64 n] [.int .i64 (ofM b base n).1, .int .i64 (ofM b base n).2] := by
  refine zwd rfl fun hs => ?_
  have hfs := hf.s
  have hfc := hf.c
  simp -dsimp [zj7, eBl, cBl, eSos, eCos]
  refine zaj b.sorts.length (fun i st => st.s 3 = .ptr 3 1 0 ∧ st.h 3 = ⟨1, .box [.d (.sl 6 (b.sorts.map eSo)), .d (.sl 6 (b.cons.map eCo)), .d (.int .i64 b.elim)] false⟩ ∧ st.s 1 = .d (.int .i64 base) ∧ st.s 2 = .d (.int .i64 n) ∧
    st.s 8 = .d (.int .i64 i) ∧ ∀ j : Nat, j < i → 0 ≤ n → zbl b base j ≠ n ∧ zdy b base j ≠ n ∧ zb6 b base j ≠ n) ?_ ?_
  · simp -dsimp
  · rintro i ⟨s, hp⟩ hi ⟨g1, g2, g3, g4, g5, g6⟩
    dsimp only at g1 g2 g3 g4 g5
    simp -dsimp [g1, g2, g3, g4, g5]
    refine zaa (zBt b) ?_
    rcases Nat.lt_or_ge i b.sorts.length with hlt | hge
    · have w1 : IntKind.i64.wrap ((i : Int) + 1) = (i : Int) + 1 := zab (by omega) (by omega)
      simp -dsimp [g1, g2, g3, g4, g5, hlt]
      refine zaa (zz0 b hf base i) ?_
      simp -dsimp [g1, g2, g3, g4, g5, hlt]
      by_cases nn : 0 ≤ n
      · by_cases c1 : zbl b base i = n
        · have ho := zIv hf nn c1
          simp -dsimp [g1, g2, g3, g4, g5, hlt, w1, c1, nn, ho]
        simp -dsimp [g1, g2, g3, g4, g5, hlt, w1, c1]
        refine zaa (zyd b hf base i) ?_
        simp -dsimp [g1, g2, g3, g4, g5, hlt, w1, c1]
        by_cases c2 : zdy b base i = n
        · have ho := zH4 hf nn c2
          simp -dsimp [g1, g2, g3, g4, g5, hlt, w1, c1, c2, nn, ho]
        simp -dsimp [g1, g2, g3, g4, g5, hlt, w1, c1, c2]
        refine zaa (zqw b hf base i) ?_
        simp -dsimp [g1, g2, g3, g4, g5, hlt, w1, c1, c2]
        by_cases c3 : zb6 b base i = n
        · have ho := zBr hf nn c3
          simp -dsimp [g1, g2, g3, g4, g5, hlt, w1, c1, c2, c3, nn, ho]
        simp -dsimp [g1, g2, g3, g4, g5, hlt, w1, c1, c2, c3]
        intro j hj hnn
        rcases Nat.lt_or_ge j i with h | h
        · exact g6 j h hnn
        · have : j = i := by omega
          subst this
          exact ⟨c1, c2, c3⟩
      · generalize decide (zbl b base i = n) = q1
        cases q1 <;> simp -dsimp [g1, g2, g3, g4, g5, hlt, w1, nn] <;> refine zaa (zyd b hf base i) ?_ <;> simp -dsimp [g1, g2, g3, g4, g5, hlt, w1, nn] <;>
          generalize decide (zdy b base i = n) = q2 <;> cases q2 <;> simp -dsimp [g1, g2, g3, g4, g5, hlt, w1, nn] <;> refine zaa (zqw b hf base i) ?_ <;> simp -dsimp [g1, g2, g3, g4, g5, hlt, w1, nn] <;>
          generalize decide (zb6 b base i = n) = q3 <;> cases q3 <;> simp -dsimp [g1, g2, g3, g4, g5, hlt, w1, nn] <;> omega
    · have e : i = b.sorts.length := by omega
      subst e
      simp -dsimp [g1, g2, g3, g4, g5]
      clear hi g5
      refine zaj b.cons.length (fun i st => st.s 3 = .ptr 3 1 0 ∧ st.h 3 = ⟨1, .box [.d (.sl 6 (b.sorts.map eSo)), .d (.sl 6 (b.cons.map eCo)), .d (.int .i64 b.elim)] false⟩ ∧ st.s 1 = .d (.int .i64 base) ∧ st.s 2 = .d (.int .i64 n) ∧
        st.s 9 = .d (.int .i64 i) ∧ ∀ j : Nat, j < i → 0 ≤ n → zak b base j ≠ n) ?_ ?_
      · simp -dsimp [g1, g2, g3, g4]
      · clear g1 g2 g3 g4 s hp
        rintro i ⟨s, hp⟩ hi ⟨g1, g2, g3, g4, g5, g7⟩
        dsimp only at g1 g2 g3 g4 g5
        rcases Nat.lt_or_ge i b.cons.length with hlt | hge
        · have w1 : IntKind.i64.wrap ((i : Int) + 1) = (i : Int) + 1 := zab (by omega) (by omega)
          simp -dsimp [g1, g2, g3, g4, g5, hlt]
          refine zaa (zpo b hf base i) ?_
          simp -dsimp [g1, g2, g3, g4, g5, hlt, w1]
          by_cases nn : 0 ≤ n
          · by_cases c1 : zak b base i = n
            · have ho := zy1 hf nn c1
              simp -dsimp [g1, g2, g3, g4, g5, hlt, w1, c1, nn, ho]
            simp -dsimp [g1, g2, g3, g4, g5, hlt, w1, c1]
            intro j hj hnn
            rcases Nat.lt_or_ge j i with h | h
            · exact g7 j h hnn
            · have : j = i := by omega
              subst this
              exact c1
          · generalize decide (zak b base i = n) = q1
            cases q1 <;> simp -dsimp [g1, g2, g3, g4, g5, hlt, w1, nn] <;> omega
        · have e : i = b.cons.length := by omega
          subst e
          have ho : ofM b base n = (0, 0) := zQh hf hn fun e he k hk nn => by
            simp only [tab, List.mem_cons, List.not_mem_nil, or_false] at he
            rcases he with rfl | rfl | rfl | rfl <;> simp only at hk ⊢
            · exact (g6 k hk nn).1
            · exact (g6 k hk nn).2.1
            · exact g7 k hk nn
            · exact (g6 k hk nn).2.2
          simp -dsimp [g1, g2, g3, g4, g5, ho]
end
section
attribute [local simp] zac zag tk tn tks zc4 zdf
end
section
attribute [local simp] zac zag tk tn tks zc4 zdf
theorem zG3 (b : Bl) : zfq b = if zmq b then 0 else 12 := by
  rw [zmq]
  by_cases h : zfq b = 0
  · simp [h]
  · have : zfq b = 12 := by
      rw [zfq] at h ⊢
      repeat' split
      all_goals first | rfl | (exfalso; apply h; simp_all)
    simp [this]
end
end
section
attribute [local simp] zac zag tk tn tks zc4 zdf
def shF (fr y n b : Int) : T := .mk 1 (if n < fr + b then n else n + y) []
mutual
def shB (fr y : Int) : T → Int → Bool
  | .mk k n ks, b => if k = 1 then decide (n < fr + b) || decide (n + y ≤ 65535) else shBL fr y k b 0 ks
def shBL (fr y k b : Int) : Nat → List T → Bool
  | _, [] => true
  | i, x :: xs => shB fr y x (b + zan k i) && shBL fr y k b (i + 1) xs
end
theorem zKj (fr y k b : Int) : ∀ (l : List T) (i : Nat), shBL fr y k b i l = true ↔ ∀ (j : Nat) (hj : j < l.length), shB fr y l[j] (b + zan k (i + j : Nat)) = true
  | [], i => by simp [shBL]
  | x :: xs, i => by
    rw [shBL, Bool.and_eq_true, zKj fr y k b xs (i + 1)]
    constructor
    · rintro ⟨h1, h2⟩ j hj
      cases j with
      | zero => simpa using h1
      | succ j =>
        have := h2 j (by simpa using hj)
        simp only [List.getElem_cons_succ]
        have e : (i + (j + 1) : Nat) = i + 1 + j := by omega
        rw [e]; exact this
    · intro h
      have h0 := h 0 (by simp)
      simp only [List.getElem_cons_zero, Nat.add_zero] at h0
      refine ⟨h0, fun j hj => ?_⟩
      have := h (j + 1) (by simpa using hj)
      simp only [List.getElem_cons_succ] at this
      have e : (i + (j + 1) : Nat) = i + 1 + j := by omega
      rw [e] at this; exact this
end
section
theorem zch (l : List So) : (AV.d (eSos l)).one = true := rfl
theorem zci (l : List Co) : (AV.d (eCos l)).one = true := rfl
theorem zcj (l : List Ar) : (AV.d (eArs l)).one = true := rfl
theorem zei (l : List T) : (AV.d (eTs l)).one = true := rfl
attribute [local simp] zac zag tk tn tks zch zci zcj zei
structure FineAr (a : Ar) : Prop where
  ty : zai a.ty ≤ 9000
  domL : a.dom.length ≤ 60
  dom : (a.dom.map zai).sum ≤ 9000
  idxL : a.idx.length ≤ 60
  idx : (a.idx.map zai).sum ≤ 9000
def zpc (l : List Ar) : Prop := l.length ≤ 20 ∧ ∀ a ∈ l, FineAr a
structure FineSo (s : So) : Prop where
  idx : zpc s.idx
  dty : zai s.dty ≤ 9000
structure FineCo (c : Co) : Prop where
  args : zpc c.args
  idxL : c.idx.length ≤ 60
  idx : (c.idx.map zai).sum ≤ 9000
  dec : zai c.dec ≤ 9000
structure FineBl (b : Bl) : Prop where
  s : b.sorts.length ≤ 10
  c : b.cons.length ≤ 20
  sorts : ∀ s ∈ b.sorts, FineSo s
  cons : ∀ c ∈ b.cons, FineCo c
theorem zE8 {xs : List D} {x : D} (h : x ∈ xs) : bulk x ≤ (xs.map bulk).sum := ze6 (List.mem_map.2 ⟨x, h, rfl⟩)
theorem zx8 {t : T} (hb : zai t ≤ 1048576) (h : zfy [t] = false) : zai t ≤ 9000 := by
  have := (zwk (l := [t]) (by simpa using hb) h).2.2
  simpa using this
theorem zR1 {a : Ar} (hb : bulk (eAr a) ≤ 1048576) (h : pArg a = false) : FineAr a := by
  have e : bulk (eAr a) = 1 + bulk (.agg (cT a.ty)) + (bulk (eTs a.dom) + (1 + bulk (eTs a.idx))) := by
    simp only [eAr, cAr, bulk, List.map_cons, List.map_append, List.sum_cons, List.sum_append, List.map_nil, List.sum_nil, List.cons_append, cT, eTs, List.nil_append]
    omega
  simp only [pArg, Bool.or_eq_false_iff] at h
  have h1 := zw3 a.ty
  have h2 := zA8 a.dom
  have h3 := zA8 a.idx
  obtain ⟨d1, _, d2⟩ := zwk (l := a.dom) (by omega) h.1.2
  obtain ⟨i1, _, i2⟩ := zwk (l := a.idx) (by omega) h.2
  exact ⟨zx8 (by omega) h.1.1, d1, d2, i1, i2⟩
theorem zFv {l : List Ar} (hb : bulk (eArs l) ≤ 1048576) (h : zhr l = false) : zpc l := by
  simp only [zhr, Bool.or_eq_false_iff, decide_eq_false_iff_not] at h
  refine ⟨by omega, fun a ha => zR1 ?_ ?_⟩
  · have := zE8 (List.mem_map.2 ⟨a, ha, rfl⟩ : eAr a ∈ l.map eAr)
    simp only [eArs, bulk] at hb
    omega
  · have := List.any_eq_false.1 h.2 a ha
    simpa using this
theorem zP5 {b : Bl} (hb : bulk (eBl b) ≤ 1048576) (h : ziz b = false) : FineBl b := by
  have hf := zO7 h
  have e : bulk (eBl b) = bulk (eSos b.sorts) + (bulk (eCos b.cons) + 1) := by simp [eBl, cBl, bulk]
  simp only [ziz, Bool.or_eq_false_iff] at h
  refine ⟨hf.s, hf.c, fun s hs => ?_, fun c hc => ?_⟩
  · have h1 := zE8 (List.mem_map.2 ⟨s, hs, rfl⟩ : eSo s ∈ b.sorts.map eSo)
    have h2 : bulk (eSos b.sorts) = ((b.sorts.map eSo).map bulk).sum + 1 := by simp [eSos, bulk]
    have h3 : bulk (eSo s) = bulk (eArs s.idx) + (1 + (1 + bulk (.agg (cT s.dty)))) := by
      simp only [eSo, cSo, bulk, List.map_cons, List.map_append, List.sum_cons, List.sum_append, List.map_nil, List.sum_nil, cT]
      omega
    have hp := List.any_eq_false.1 h.1.2 s hs
    simp only [pSo, Bool.not_eq_true, Bool.or_eq_false_iff] at hp
    have h4 := zw3 s.dty
    exact ⟨zFv (by omega) hp.1, zx8 (by omega) hp.2⟩
  · have h1 := zE8 (List.mem_map.2 ⟨c, hc, rfl⟩ : eCo c ∈ b.cons.map eCo)
    have h2 : bulk (eCos b.cons) = ((b.cons.map eCo).map bulk).sum + 1 := by simp [eCos, bulk]
    have h3 : bulk (eCo c) = 1 + (bulk (eArs c.args) + (bulk (eTs c.idx) + bulk (.agg (cT c.dec)))) := by
      simp only [eCo, cCo, bulk, List.map_cons, List.map_append, List.sum_cons, List.sum_append, List.map_nil, List.sum_nil, cT]
      omega
    have hp := List.any_eq_false.1 h.2 c hc
    simp only [pCo, Bool.not_eq_true, Bool.or_eq_false_iff] at hp
    have h4 := zw3 c.dec
    have h5 := zA8 c.idx
    obtain ⟨i1, _, i2⟩ := zwk (l := c.idx) (by omega) hp.1.2
    exact ⟨zFv (by omega) hp.1.1, i1, i2, zx8 (by omega) hp.2⟩
theorem zKt (n : Int) : Pure Tryz.prog zsk [.int .i64 n] [.agg (cT (.mk 3 n []))] := by
  refine zL9 rfl fun hs => ?_
  simp -dsimp [zA0, cT]
theorem zT9 (n : Int) : Pure Tryz.prog zAi [.int .i64 n] [.agg (cT (.mk 2 n []))] := by
  refine zM3 rfl fun hs => ?_
  simp -dsimp [zAp, cT]
def tC (n : Int) : T := .mk 3 n []
def fmT (b : Bl) (base k : Int) : T := tC (if 0 < zbl b base k then zbl b base k else 0)
theorem zHr (b : Bl) (base k : Int) : Pure Tryz.prog zou [eBl b, .int .i64 base, .int .i64 k] [.agg (cT (fmT b base k))] := by
  refine zB2 rfl fun hs => ?_
  have h := ztb b base k
  simp only [eBl, cBl] at h
  simp -dsimp [zoo, eBl, cBl]
  refine zaa h ?_
  simp -dsimp
  refine zaa (zKt _) ?_
  simp -dsimp [cT, fmT, tC]
theorem zJf (a c k m : Int) : n64 (zjn a c k m) := by
  rw [zjn]
  split
  · exact ⟨by omega, by omega⟩
  · have := zPo (w64 (a + c) + k)
    simp only [w64, n64] at this ⊢
    omega
theorem zDq (b : Bl) (base k : Int) : okT (fmT b base k) := by
  have h := zJf base 0 k b.sorts.length
  refine .mk _ _ _ ⟨by omega, by omega⟩ ?_ (by simp) (by simp)
  show n64 (if 0 < zbl b base k then zbl b base k else 0)
  split
  · exact h
  · exact ⟨by omega, by omega⟩
def zg4 (b : Bl) (base : Int) (a : Ar) : T := if a.rc = true then zcm 4 a.dom (spT (fmT b base a.sort) a.idx) else a.ty
theorem zCe (b : Bl) (base : Int) {a : Ar} (h : okAr a) : okT (zg4 b base a) := by
  rw [zg4]
  split
  · exact zwx (by omega) _ (zew _ _ (zDq _ _ _) h.idx.2) _ h.dom.2
  · exact h.ty
theorem zId (b : Bl) (base : Int) (a : Ar) (h : okAr a) (hf : FineAr a) : Pure Tryz.prog zm5 [eBl b, .int .i64 base, .agg (cAr a)] [.agg (cT (zg4 b base a))] := by
  refine zBj rfl fun hs => ?_
  have d1 := hf.domL
  have i1 := hf.idxL
  have hF := zHr b base a.sort
  have hS := zkk (fmT b base a.sort) a.idx (by omega) (zDq _ _ _) h.idx
  have hP := zJ2 a.dom (spT (fmT b base a.sort) a.idx) (by omega) (zew _ _ (zDq _ _ _) h.idx.2) h.dom
  have hT := zqa a.ty h.ty
  cases hr : a.rc with
  | false =>
    have e : zg4 b base a = a.ty := by rw [zg4, hr]; rfl
    rw [e]
    simp only [cT] at hT
    simp -dsimp [zkc, eBl, cBl, cAr, cT, hr]
    refine zaa hT ?_
    simp -dsimp
  | true =>
    have e : zg4 b base a = zcm 4 a.dom (spT (fmT b base a.sort) a.idx) := by rw [zg4, hr]; rfl
    rw [e]
    generalize zcm 4 a.dom (spT (fmT b base a.sort) a.idx) = P at hP
    generalize spT (fmT b base a.sort) a.idx = Sp at hS hP
    generalize fmT b base a.sort = F at hF hS
    simp only [eBl, cBl, cT, eTs] at hF hS hP
    simp -dsimp [zkc, eBl, cBl, cAr, cT, eTs, hr]
    refine zaa hF ?_
    simp -dsimp [hr]
    refine zaa hS ?_
    simp -dsimp [hr]
    refine zaa hP ?_
    simp -dsimp [hr]
end
section
attribute [local simp] zac zag tk tn tks zch zci zcj zei
def zda (t : T) : T := if zbp t = 0 then t else zT
end
section
section
attribute [local simp] zac zag tk tn tks zc4 zdf
theorem zTi {k n : Int} {ks : List T} (hfm : zaf (.mk k n ks) = true) : 0 ≤ n ∧ n ≤ 65535 := by
  rw [zcb] at hfm
  split at hfm
  · split at hfm
    · rw [Bool.and_eq_true, zf0] at hfm
      exact hfm.1
    · split at hfm
      · omega
      · cases hfm
  · cases hfm
theorem zDs (fr y k b : Int) : ∀ (l : List T) (i j : Nat) (h : j < l.length), shBL fr y k b i (l.take (j + 1)) = (shBL fr y k b i (l.take j) && shB fr y l[j] (b + zan k (i + j : Nat)))
  | x :: xs, i, 0, h => by simp [shBL]
  | x :: xs, i, j + 1, h => by
    have := zDs fr y k b xs (i + 1) j (by simpa using h)
    simp only [List.take_succ_cons, shBL, List.getElem_cons_succ, this, Bool.and_assoc]
    rw [show i + 1 + j = i + (j + 1) by omega]
theorem zQy (y fr : Int) (hy : 0 ≤ y ∧ y ≤ 10000000) (hfr : 0 ≤ fr ∧ fr ≤ 65535) (t : T) : ∀ b : Int, zaf t = true → 0 ≤ b → b + zai t ≤ 4194304 → Pure Tryz.prog zdo [.agg (cT t), .int .i64 y, .int .i64 (fr + b)] [.agg (cT (mapT (shF fr y) t b)), .bool (!shB fr y t b)] := by
  refine T.ind (p := fun t => ∀ b : Int, zaf t = true → 0 ≤ b → b + zai t ≤ 4194304 → Pure Tryz.prog zdo [.agg (cT t), .int .i64 y, .int .i64 (fr + b)] [.agg (cT (mapT (shF fr y) t b)), .bool (!shB fr y t b)]) ?_ t
  intro k n ks ih b hfm h0 hb
  refine ztu rfl fun hs => ?_
  by_cases h1 : k = 1
  · subst h1
    have hks := zta rfl hfm
    subst hks
    obtain ⟨n0, n1⟩ := zf4 rfl hfm
    have w1 : IntKind.i64.wrap (n + y) = n + y := zab (by omega) (by omega)
    have hM : mapT (shF fr y) (.mk 1 n []) b = .mk 1 (if n < fr + b then n else n + y) [] := by rw [zEv, shF]
    have hB : shB fr y (.mk 1 n []) b = (decide (n < fr + b) || decide (n + y ≤ 65535)) := by rw [shB, if_pos rfl]
    rw [hM, hB]
    simp -dsimp [zfd, cT]
    by_cases c : fr + b ≤ n
    · have c' : ¬ n < fr + b := by omega
      simp -dsimp [c, c', w1]
      refine zaj 0 (fun i st => st.s 3 = .ptr 3 1 0 ∧ st.s 8 = .ptr 8 1 0 ∧ st.s 6 = .ptr 6 1 0 ∧ st.s 9 = .d (.bool (decide (65535 < n + y))) ∧ st.s 10 = .d (.int .i64 i) ∧ st.h 3 = ⟨1, .box [.d (.int .i64 1), .d (.int .i64 n), .d (.sl 3 [])] false⟩ ∧ st.h 8 = ⟨1, .box [.d (.int .i64 1), .d (.int .i64 (n + y)), .fsl 3 []] false⟩ ∧ st.h 6 = ⟨1, .box [.d (.int .i64 0), .d (.int .i64 0), .fsl 3 []] false⟩) ?_ ?_
      · simp -dsimp
      · rintro i ⟨s, hp⟩ hi ⟨e3, e8, e6, e9, e10, k3, k8, k6⟩
        dsimp only at e3 e8 e6 e9 e10 k3 k8 k6
        have : i = 0 := by omega
        subst this
        simp -dsimp [e3, e8, e6, e9, e10, k3, k8, k6]
        exact ⟨fun h => by omega, by rw [Bool.eq_iff_iff]; simp; omega⟩
    · have c' : n < fr + b := by omega
      simp -dsimp [c, c', w1]
      refine zaj 0 (fun i st => st.s 3 = .ptr 3 1 0 ∧ st.s 8 = .ptr 8 1 0 ∧ st.s 6 = .ptr 6 1 0 ∧ st.s 9 = .d (.bool (decide (65535 < n))) ∧ st.s 10 = .d (.int .i64 i) ∧ st.h 3 = ⟨1, .box [.d (.int .i64 1), .d (.int .i64 n), .d (.sl 3 [])] false⟩ ∧ st.h 8 = ⟨1, .box [.d (.int .i64 1), .d (.int .i64 n), .fsl 3 []] false⟩ ∧ st.h 6 = ⟨1, .box [.d (.int .i64 0), .d (.int .i64 0), .fsl 3 []] false⟩) ?_ ?_
      · simp -dsimp
      · rintro i ⟨s, hp⟩ hi ⟨e3, e8, e6, e9, e10, k3, k8, k6⟩
        dsimp only at e3 e8 e6 e9 e10 k3 k8 k6
        have : i = 0 := by omega
        subst this
        simp -dsimp [e3, e8, e6, e9, e10, k3, k8, k6]
        exact ⟨fun h => by omega, by rw [Bool.eq_iff_iff]; simp; omega⟩
  · obtain ⟨n0, n1⟩ := zTi hfm
    have hln := (zLy _ hfm).kids.1
    have hM : mapT (shF fr y) (.mk k n ks) b = .mk k n (mapL (shF fr y) k b 0 ks) := by rw [mapT, if_neg h1]
    have hB : shB fr y (.mk k n ks) b = shBL fr y k b 0 ks := by rw [shB, if_neg h1]
    have hl := zjl (shF fr y) k b ks 0
    rw [hM, hB]
    have n2 : ¬ 65535 < n := by omega
    simp -dsimp [zfd, cT, h1, n2]
    generalize hML : mapL (shF fr y) k b 0 ks = ml at *
    refine zaj ks.length (fun i st => st.s 1 = .d (.int .i64 y) ∧ st.s 2 = .d (.int .i64 (fr + b)) ∧ st.s 3 = .ptr 3 1 0 ∧ st.s 8 = .ptr 8 1 0 ∧ st.s 6 = .ptr 6 1 0 ∧ st.s 9 = .d (.bool (!shBL fr y k b 0 (ks.take i))) ∧ st.s 10 = .d (.int .i64 i) ∧ st.h 3 = ⟨1, .box [.d (.int .i64 k), .d (.int .i64 n), .d (.sl 3 (ks.map eT))] false⟩ ∧
      st.h 6 = ⟨1, .box [.d (.int .i64 0), .d (.int .i64 0), .fsl 3 []] false⟩ ∧ ∃ c, st.h 8 = ⟨1, .box [.d (.int .i64 k), .d (.int .i64 n), c] false⟩ ∧ ((i = 0 ∧ c = .fsl 3 []) ∨ (0 < i ∧ ∃ v, c = .rsl 62 v ∧ st.h 62 = ⟨v, .row 3 ((ml.map eT).take i) false⟩))) ?_ ?_
    · simp -dsimp [shBL]
    · rintro i ⟨s, hp⟩ hi ⟨e1, e2, e3, e8, e6, e9, e10, k3, k6, c, k8, hc⟩
      dsimp only at e1 e2 e3 e8 e6 e9 e10 k3 k6 k8 hc
      rcases Nat.lt_or_ge i ks.length with hlt | hge
      · have w1 : IntKind.i64.wrap ((i : Int) + 1) = (i : Int) + 1 := zab (by omega) (by omega)
        have hbl := zgg k i
        have hkn := zfo (k := k) (n := n) (List.getElem_mem hlt)
        have w2 : IntKind.i64.wrap (fr + b + zan k i) = fr + (b + zan k i) := by rw [zab (by omega) (by omega)]; omega
        have hrec := ih ks[i] (List.getElem_mem _) (b + zan k i) (zdt hfm _ (List.getElem_mem _)) (by omega) (by omega)
        have hs1 := zDs fr y k b ks 0 i hlt
        rw [Nat.zero_add] at hs1
        have hg := zny (shF fr y) k b ks 0 i hlt
        rw [Nat.zero_add] at hg
        have hn := zmt eT cT zbq ml i (by omega)
        simp only [hML] at hg
        rw [hg] at hn
        have hr : (min i ml.length + 1) * 40 ≤ zah := by simp only [zah]; omega
        generalize mapT (shF fr y) ks[i] (b + zan k i) = Y at *
        generalize shB fr y ks[i] (b + zan k i) = Z at *
        generalize hX : ks[i] = X at *
        simp only [cT] at hrec hn
        simp -dsimp [e1, e2, e3, e8, e6, e9, e10, k3, k6, k8, hlt, hX, cT]
        refine zaa (zt1 k i) ?_
        simp -dsimp [e1, e2, e3, e8, e6, e9, e10, k3, k6, k8, hlt, hX, cT, w2]
        refine zaa hrec ?_
        simp -dsimp [e1, e2, e3, e8, e6, e9, e10, k3, k6, k8, hlt, hX, cT, w1, w2, hs1]
        have hb2 : (!(shBL fr y k b 0 (ks.take i) && Z)) = (!shBL fr y k b 0 (ks.take i) || !Z) := by cases shBL fr y k b 0 (ks.take i) <;> cases Z <;> rfl
        rcases hc with ⟨rfl, rfl⟩ | ⟨hi0, v, rfl, hc⟩
        · have hne : ¬ ml = [] := List.ne_nil_of_length_pos (by omega)
          simp only [List.take_zero, List.nil_append, Nat.zero_add] at hn
          have hz : shBL fr y k b 0 (ks.take 0) = true := by simp [shBL]
          rw [hz] at hs1
          rw [List.take_zero] at e9
          have hz2 : shBL fr y k b 0 [] = true := by simp [shBL]
          have h40 : 40 ≤ zah := by simp only [zah]; omega
          simp at hlt w1
          simp -dsimp [e1, e2, e3, e8, e6, e9, e10, k3, k6, k8, hlt, hX, cT, w1, hs1, hz2, hn, h40]
        · cases hSh : shBL fr y k b 0 (ks.take i) with
          | true =>
            rw [hSh] at hs1 e9
            simp -dsimp [e1, e2, e3, e8, e6, e9, e10, k3, k6, k8, hc, hlt, hX, cT, w1, hs1, hn, hr]
          | false =>
            rw [hSh] at hs1 e9
            simp -dsimp [e1, e2, e3, e8, e6, e9, e10, k3, k6, k8, hc, hlt, hX, cT, w1, hs1, hn, hr]
      · have e : i = ks.length := by omega
        subst e
        rw [List.take_length] at e9
        rcases hc with ⟨hz, rfl⟩ | ⟨hi0, v, rfl, hc⟩
        · have hm : ml = [] := List.length_eq_zero_iff.1 (by omega)
          have hkz : ks = [] := List.length_eq_zero_iff.1 hz
          simp -dsimp [e1, e2, e3, e8, e6, e9, e10, k3, k6, k8, hm, hkz]
        · rw [List.take_of_length_le (by simp; omega)] at hc
          simp -dsimp [e1, e2, e3, e8, e6, e9, e10, k3, k6, k8, hc]
end
end
section
section
attribute [local simp] zac zag tk tn tks zc4 zdf
theorem zFw (k b m : Int) : ∀ (l : List T) (i : Nat) (a : Int), zy6 k b i a l < m ↔ a < m ∧ ∀ (j : Nat) (hj : j < l.length), zqq l[j] (b + zan k (i + j : Nat)) < m
  | [], i, a => by simp [zy6]
  | x :: xs, i, a => by
    rw [zy6, zFw k b m xs (i + 1) _]
    have hm : mx a (zqq x (b + zan k i)) < m ↔ a < m ∧ zqq x (b + zan k i) < m := by rw [mx]; split <;> omega
    rw [hm]
    constructor
    · rintro ⟨⟨h1, h2⟩, h3⟩
      refine ⟨h1, fun j hj => ?_⟩
      match j, hj with
      | 0, _ => simpa using h2
      | j + 1, hj =>
        have := h3 j (by simpa using hj)
        simp only [List.getElem_cons_succ]
        rwa [show i + (j + 1) = i + 1 + j by omega]
    · rintro ⟨h1, h2⟩
      refine ⟨⟨h1, by have := h2 0 (by simp); simpa using this⟩, fun j hj => ?_⟩
      have := h2 (j + 1) (by simpa using hj)
      simp only [List.getElem_cons_succ] at this
      rwa [show i + (j + 1) = i + 1 + j by omega] at this
def upTo (y : Int) : Int := if 65536 - y < 0 then 0 else 65536 - y
theorem zRf (y : Int) (t : T) : ∀ b : Int, zaf t = true → 0 ≤ b → (shB 0 y t b = true ↔ zqq t b < upTo y) := by
  refine T.ind (p := fun t => ∀ b : Int, zaf t = true → 0 ≤ b → (shB 0 y t b = true ↔ zqq t b < upTo y)) ?_ t
  intro k n ks ih b hf hb
  rw [shB, zqq]
  by_cases h1 : k = 1
  · have hn := zf4 h1 hf
    have hz := zta h1 hf
    subst hz
    rw [if_pos h1, zy6]
    simp only [h1, true_and, Bool.or_eq_true, decide_eq_true_eq, upTo]
    split <;> split <;> omega
  · rw [if_neg h1, zFw, zKj]
    simp only [h1, false_and, if_false]
    constructor
    · intro h
      refine ⟨by rw [upTo]; split <;> omega, fun j hj => (ih _ (List.getElem_mem hj) _ (zdt hf _ (List.getElem_mem hj)) ?_).1 (h j hj)⟩
      have := zgg k (0 + j : Nat)
      omega
    · rintro ⟨_, h⟩ j hj
      refine (ih _ (List.getElem_mem hj) _ (zdt hf _ (List.getElem_mem hj)) ?_).2 (h j hj)
      have := zgg k (0 + j : Nat)
      omega
theorem zQm {a : T} (hf : zaf a = true) {y : Int} (hy : 0 ≤ y) : (!shB 0 y a 0) = zKp a y := by
  have h := zRf y a 0 hf (by omega)
  have h2 := zRk a hf 0
  rw [zKp, Bool.eq_iff_iff, Bool.not_eq_true', ← Bool.not_eq_true, h, upTo]
  simp only [Bool.and_eq_true, decide_eq_true_eq]
  split <;> omega
theorem zSp {y : Int} (hy : 0 ≤ y) (hy' : y ≤ 10000000) (t : T) (hf : zaf t = true) (b : Int) (hb : 0 ≤ b) (hb' : b + zai t ≤ 4194304) : mapT (shF 0 y) t b = mapT (mv y) t b :=
  zI9 _ _ (fun n c a1 a2 a3 a4 => by
    rw [shF]
    by_cases h : n < 0 + c
    · rw [if_pos h, mv_lo (by omega)]
    · rw [if_neg h, mv_hi (by omega) a1 (by omega) hy hy']) t b hf hb hb'
theorem zF3 (l : List T) (u k b : Int) : ∀ (xs : List T) (i j : Nat) (h : j < xs.length), scL l u k b i (xs.take (j + 1)) = (scL l u k b i (xs.take j) || scI l u xs[j] (b + zan k (i + j : Nat)))
  | x :: xs, i, 0, h => by simp [scL]
  | x :: xs, i, j + 1, h => by
    have := zF3 l u k b xs (i + 1) j (by simpa using h)
    simp only [List.take_succ_cons, scL, List.getElem_cons_succ, this, Bool.or_assoc]
    rw [show i + 1 + j = i + (j + 1) by omega]
theorem zP6 (l : List T) (hl : l.length ≤ 1000000) (hf : ∀ x ∈ l, zaf x = true ∧ zai x ≤ 4194304) (u : Int) (hu : 0 ≤ u ∧ u ≤ 65535) (t : T) : ∀ b : Int, VokT t → 0 ≤ b → b + zai t ≤ 4194304 →
    Pure Tryz.prog zeb [.agg (cT t), eTs l, .int .i64 (u + b)] [.agg (cT (mapT (zsz l u) t b)), .bool (scI l u t b)] := by
  refine T.ind (p := fun t => ∀ b : Int, VokT t → 0 ≤ b → b + zai t ≤ 4194304 → Pure Tryz.prog zeb [.agg (cT t), eTs l, .int .i64 (u + b)] [.agg (cT (mapT (zsz l u) t b)), .bool (scI l u t b)]) ?_ t
  intro k n ks ih b hv h0 hb
  obtain ⟨hvn, hln, hsk⟩ := hv.out
  refine zut rfl fun hs => ?_
  by_cases h1 : k = 1
  · subst h1
    obtain ⟨⟨n0, n1⟩, hks⟩ := hvn rfl
    subst hks
    have w1 : IntKind.i64.wrap (u + b + (l.length : Int)) = u + b + l.length := zab (by omega) (by omega)
    have hI : ∀ W : Int, zn7 l.length u n b = W → (mapT (zsz l u) (.mk 1 n []) b = (if 0 ≤ W then match l[W.toNat]? with | some a => zFy (w64 (u + b)) a | none => zT else .mk 1 (if u + b ≤ n then w64 (n - l.length) else n) [])) ∧
        scI l u (.mk 1 n []) b = (match (if 0 ≤ W then l[W.toNat]? else none) with | some a => zKp a (u + b) | none => false) := fun W hW => by
      rw [zEv, scI, if_pos rfl, zsz, hW]
      exact ⟨rfl, rfl⟩
    by_cases c1 : u + b + (l.length : Int) ≤ n
    · have w2 : IntKind.i64.wrap (n - (l.length : Int)) = n - l.length := zab (by omega) (by omega)
      obtain ⟨hI1, hI2⟩ := hI (-1) (by rw [zn7, if_pos (by omega)])
      have c2 : u + b ≤ n := by omega
      have w2' : w64 (n - (l.length : Int)) = n - l.length := w2
      rw [if_neg (by omega)] at hI1 hI2
      rw [if_pos c2, w2'] at hI1
      rw [hI1, hI2]
      simp -dsimp [zc3, cT, eTs, w1, c1, w2]
    · by_cases c2 : u + b ≤ n
      · obtain ⟨j, hj⟩ : ∃ j : Nat, (l.length : Int) - 1 - (n - (u + b)) = j := ⟨((l.length : Int) - 1 - (n - (u + b))).toNat, by omega⟩
        have hjl : j < l.length := by omega
        have hge : l[j]? = some l[j] := List.getElem?_eq_getElem hjl
        obtain ⟨hI1, hI2⟩ := hI j (by rw [zn7, if_neg (by omega)]; exact hj)
        have w2 : IntKind.i64.wrap ((l.length : Int) - 1) = l.length - 1 := zab (by omega) (by omega)
        have w3 : IntKind.i64.wrap (n - (u + b)) = n - (u + b) := zab (by omega) (by omega)
        have w4 : IntKind.i64.wrap ((l.length : Int) - 1 - (n - (u + b))) = j := by rw [zab (by omega) (by omega), hj]
        have w5 : w64 (u + b) = u + b := zev (by omega) (by omega)
        obtain ⟨fj, nj⟩ := hf _ (List.getElem_mem hjl)
        have hM := zQy (u + b) 0 (by omega) (by omega) l[j] 0 fj (by omega) (by omega)
        rw [zSp (by omega) (by omega) _ fj 0 (by omega) (by omega), zQm fj (by omega)] at hM
        rw [if_pos (by omega), Int.toNat_natCast, hge] at hI1 hI2
        simp only [w5, zNq] at hI1 hI2
        simp only [Int.add_zero] at hM
        rw [hI1, hI2]
        generalize mapT (mv (u + b)) l[j] 0 = Y at *
        generalize zKp l[j] (u + b) = Z at *
        generalize hX : l[j] = X at *
        simp only [cT] at hM
        simp -dsimp [zc3, cT, eTs, w1, c1, c2, w2, w3, w4, hjl, hge, hX]
        refine zaa hM ?_
        simp -dsimp [cT]
      · obtain ⟨hI1, hI2⟩ := hI (-1) (by rw [zn7, if_pos (by omega)])
        rw [if_neg (by omega)] at hI1 hI2
        rw [if_neg c2] at hI1
        rw [hI1, hI2]
        simp -dsimp [zc3, cT, eTs, w1, c1, c2]
        refine zaj 0 (fun i st => st.s 3 = .ptr 3 1 0 ∧ st.s 9 = .ptr 9 1 0 ∧ st.s 6 = .ptr 6 1 0 ∧ st.s 10 = .d (.bool false) ∧ st.s 11 = .d (.int .i64 i) ∧ st.h 3 = ⟨1, .box [.d (.int .i64 1), .d (.int .i64 n), .d (.sl 3 [])] false⟩ ∧ st.h 9 = ⟨1, .box [.d (.int .i64 1), .d (.int .i64 n), .fsl 3 []] false⟩ ∧ st.h 6 = ⟨1, .box [.d (.int .i64 0), .d (.int .i64 0), .fsl 3 []] false⟩) ?_ ?_
        · simp -dsimp
        · rintro i ⟨s, hp⟩ hi ⟨e3, e9, e6, e10, e11, k3, k9, k6⟩
          dsimp only at e3 e9 e6 e10 e11 k3 k9 k6
          have : i = 0 := by omega
          subst this
          simp -dsimp [e3, e9, e6, e10, e11, k3, k9, k6]
  · have hM : mapT (zsz l u) (.mk k n ks) b = .mk k n (mapL (zsz l u) k b 0 ks) := by rw [mapT, if_neg h1]
    have hB : scI l u (.mk k n ks) b = scL l u k b 0 ks := by rw [scI, if_neg h1]
    have hml := zjl (zsz l u) k b ks 0
    rw [hM, hB]
    simp -dsimp [zc3, cT, eTs, h1]
    generalize hML : mapL (zsz l u) k b 0 ks = ml at *
    refine zaj ks.length (fun i st => st.s 1 = .d (.sl 3 (l.map eT)) ∧ st.s 2 = .d (.int .i64 (u + b)) ∧ st.s 3 = .ptr 3 1 0 ∧ st.s 9 = .ptr 9 1 0 ∧ st.s 6 = .ptr 6 1 0 ∧ st.s 10 = .d (.bool (scL l u k b 0 (ks.take i))) ∧ st.s 11 = .d (.int .i64 i) ∧ st.h 3 = ⟨1, .box [.d (.int .i64 k), .d (.int .i64 n), .d (.sl 3 (ks.map eT))] false⟩ ∧
      st.h 6 = ⟨1, .box [.d (.int .i64 0), .d (.int .i64 0), .fsl 3 []] false⟩ ∧ ∃ c, st.h 9 = ⟨1, .box [.d (.int .i64 k), .d (.int .i64 n), c] false⟩ ∧ ((i = 0 ∧ c = .fsl 3 []) ∨ (0 < i ∧ ∃ v, c = .rsl 80 v ∧ st.h 80 = ⟨v, .row 3 ((ml.map eT).take i) false⟩))) ?_ ?_
    · simp -dsimp [scL]
    · rintro i ⟨s, hp⟩ hi ⟨e1, e2, e3, e9, e6, e10, e11, k3, k6, c, k9, hc⟩
      dsimp only at e1 e2 e3 e9 e6 e10 e11 k3 k6 k9 hc
      rcases Nat.lt_or_ge i ks.length with hlt | hge
      · have w1 : IntKind.i64.wrap ((i : Int) + 1) = (i : Int) + 1 := zab (by omega) (by omega)
        have hbl := zgg k i
        have hkn := zfo (k := k) (n := n) (List.getElem_mem hlt)
        have w2 : IntKind.i64.wrap (u + b + zan k i) = u + (b + zan k i) := by rw [zab (by omega) (by omega)]; omega
        have hrec := ih ks[i] (List.getElem_mem _) (b + zan k i) (hsk _ (List.getElem_mem _)) (by omega) (by omega)
        have hs1 := zF3 l u k b ks 0 i hlt
        rw [Nat.zero_add] at hs1
        have hg := zny (zsz l u) k b ks 0 i hlt
        rw [Nat.zero_add] at hg
        have hn := zmt eT cT zbq ml i (by omega)
        simp only [hML] at hg
        rw [hg] at hn
        have hr : (min i ml.length + 1) * 40 ≤ zah := by simp only [zah]; omega
        generalize mapT (zsz l u) ks[i] (b + zan k i) = Y at *
        generalize scI l u ks[i] (b + zan k i) = Z at *
        generalize hX : ks[i] = X at *
        simp only [cT, eTs] at hrec hn
        simp -dsimp [e1, e2, e3, e9, e6, e10, e11, k3, k6, k9, hlt, hX, cT]
        refine zaa (zt1 k i) ?_
        simp -dsimp [e1, e2, e3, e9, e6, e10, e11, k3, k6, k9, hlt, hX, cT, w2]
        refine zaa hrec ?_
        simp -dsimp [e1, e2, e3, e9, e6, e10, e11, k3, k6, k9, hlt, hX, cT, w1, w2, hs1]
        rcases hc with ⟨rfl, rfl⟩ | ⟨hi0, v, rfl, hc⟩
        · have hne : ¬ ml = [] := List.ne_nil_of_length_pos (by omega)
          simp only [List.take_zero, List.nil_append, Nat.zero_add] at hn
          have hz2 : scL l u k b 0 [] = false := by simp [scL]
          rw [List.take_zero, hz2] at hs1
          rw [List.take_zero, hz2] at e10
          have h40 : 40 ≤ zah := by simp only [zah]; omega
          simp at hlt w1
          simp -dsimp [e1, e2, e3, e9, e6, e10, e11, k3, k6, k9, hlt, hX, cT, w1, hs1, hz2, hn, h40]
        · cases hSh : scL l u k b 0 (ks.take i) with
          | true =>
            rw [hSh] at hs1 e10
            simp -dsimp [e1, e2, e3, e9, e6, e10, e11, k3, k6, k9, hc, hlt, hX, cT, w1, hs1, hn, hr]
          | false =>
            rw [hSh] at hs1 e10
            simp -dsimp [e1, e2, e3, e9, e6, e10, e11, k3, k6, k9, hc, hlt, hX, cT, w1, hs1, hn, hr]
      · have e : i = ks.length := by omega
        subst e
        rw [List.take_length] at e10
        rcases hc with ⟨hz, rfl⟩ | ⟨hi0, v, rfl, hc⟩
        · have hm : ml = [] := List.length_eq_zero_iff.1 (by omega)
          have hkz : ks = [] := List.length_eq_zero_iff.1 hz
          simp -dsimp [e1, e2, e3, e9, e6, e10, e11, k3, k6, k9, hm, hkz]
        · rw [List.take_of_length_le (by simp; omega)] at hc
          simp -dsimp [e1, e2, e3, e9, e6, e10, e11, k3, k6, k9, hc]
theorem zQg (l : List T) (hl : l.length ≤ 1000000) (hf : ∀ x ∈ l, zaf x = true ∧ zai x ≤ 4194304) (u : Int) (hu : 0 ≤ u ∧ u ≤ 65535) (t : T) (hv : VokT t) (hb : zai t ≤ 4194304) :
    Pure Tryz.prog zhv [.agg (cT t), eTs l, .int .i64 u] [.agg (cT (mapT (zsz l u) t 0))] := by
  refine zs7 rfl fun hs => ?_
  have h := zP6 l hl hf u hu t 0 hv (by omega) (by omega)
  rw [Int.add_zero] at h
  generalize mapT (zsz l u) t 0 = R at *
  simp only [cT, eTs] at h
  simp -dsimp [zid, cT, eTs]
  refine zaa h ?_
  simp -dsimp [cT]
end
end
section
attribute [local simp] zac zag tk tn tks
theorem zDg (f : T) (l : List T) (hl : l.length ≤ 100000000) (hf : okT f) (ho : okTs l) : zoc Tryz.prog zcl [.agg (cT f), eTs l] [.agg (cT (spT f l))] := by
  refine zht false hm Tryz.func59 zvl rfl fun hs n => ?_
  simp -dsimp [zlq, cT, eTs]
  refine zfc (zw0 f hf) ?_
  simp -dsimp [cT]
  refine zaj l.length (fun i st => st.s 4 = .ptr 4 1 0 ∧ st.h 4 = ⟨1, .box [.d (.int .i64 0), .d (.int .i64 0), .fsl 3 []] false⟩ ∧ st.s 10 = .d (.sl 3 (l.map eT)) ∧ st.s 11 = .d (.int .i64 l.length) ∧ st.s 12 = .d (.int .i64 i) ∧
    st.s 5 = .ptr 5 1 0 ∧ ∃ cs, st.h 5 = ⟨1, .box [.d (.int .i64 (spT f (l.take i)).kind), .d (.int .i64 (spT f (l.take i)).num), cs] false⟩ ∧ cs = .n true (.sl 3 ((spT f (l.take i)).kids.map eT))) ?_ ?_
  · simp -dsimp [spT]
  · rintro i ⟨s, hp⟩ hi ⟨g1, g2, g3, g4, g5, g6, cs, g7, g8⟩
    dsimp only at g1 g2 g3 g4 g5 g6 g7
    rcases Nat.lt_or_ge i l.length with hlt | hge
    · have w1 : IntKind.i64.wrap ((i : Int) + 1) = (i : Int) + 1 := zab (by omega) (by omega)
      have hnx : spT f (l.take (i + 1)) = .mk 6 0 [spT f (l.take i), l[i]] := by
        have e : l.take (i + 1) = l.take i ++ [l[i]] := by rw [List.take_add_one, List.getElem?_eq_getElem hlt]; rfl
        rw [spT, e, List.foldl_append]
        rfl
      rw [hnx]
      generalize spT f (l.take i) = Y at g7 g8
      have hnode := zt7 6 [Y, l[i]]
      simp only [List.map_cons, List.map_nil, zbq, cT] at hnode
      subst g8
      simp -dsimp [g1, g2, g3, g4, g5, g6, g7, hlt, cT]
      refine zfc (zw0 l[i] (ho.2 _ (List.getElem_mem _))) ?_
      simp -dsimp [g1, g2, g3, g4, g5, g6, g7, hlt, cT]
      refine zwr (by simp -dsimp) hnode ?_
      simp -dsimp [g1, g2, g3, g4, g5, g6, g7, hlt, w1, zbq, cT]
    · have e : i = l.length := by omega
      subst e
      rw [List.take_length] at g7 g8
      subst g8
      simp -dsimp [g1, g2, g3, g4, g5, g6, g7]
end
end Ev
end Go.Proofs.YtncmainjcffanaaGreat
