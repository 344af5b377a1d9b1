/- Slices cut, structs and slices built, append. -/
import Derived.Test.YtnkbhmafebngjaaE7
import Derived.Laws.Append
namespace Go.Proofs.Ytnkbhmafebngjaa
namespace Ev
open Go
set_option linter.unusedVariables false
set_option linter.unusedSimpArgs false

section
variable {P : Program} {G : GS} {h : Nat → Ent} {w : World} {a : Act} {s : Nat → AV} {o : Oper}

theorem run_bound {v : Value} {x : AV} (r : ARel G h w v x) {n d q : Nat} (hi : idx (some x) n d = some q) (y : Nat) (hy : n ≤ y) (c : BoundsCode) : (Instr.sliceBound v y c).run P w = .ok q w ∧ q ≤ n := by
  unfold idx at hi
  split at hi
  · rename_i he; cases he
  · rename_i k z he
    simp only [Option.some.injEq] at he
    subst he
    split at hi
    · rename_i hc
      simp only [Option.some.injEq] at hi
      subst hi
      have hv := r.of_int
      subst hv
      exact ⟨by simp [Instr.sliceBound, asIntOf, show 0 ≤ z from hc.1, show z ≤ (y : Int) by omega, Sem.run_bind, Sem.run_pure], by omega⟩
    · cases hi
  · cases hi

theorem Rel.cut {St : Nat → Nat} {A : Option Addr} {n cap sz : Nat} {xs : List D} (r : Rel St w (.slice A n cap) (.sl sz xs)) (l m : Nat) (hl : l ≤ m) (hm : m ≤ xs.length) :
    n = xs.length ∧ n ≤ cap ∧ Rel St w (.slice (if cap = l then A else A.map (·.add (l * sz))) (m - l) (cap - l)) (.sl sz ((xs.take m).drop l)) := by
  cases r with
  | sl _ _ _ b off _ hc hm' hs ha val hv hone hr =>
    refine ⟨rfl, hc, ?_⟩
    have hlen : ((xs.take m).drop l).length = m - l := by simp; omega
    have hget : ∀ (i : Nat) x, ((xs.take m).drop l)[i]? = some x → xs[l + i]? = some x := by
      intro i x hi
      rw [List.getElem?_drop, List.getElem?_take] at hi
      split at hi
      · exact hi
      · cases hi
    rw [show m - l = ((xs.take m).drop l).length from hlen.symm]
    refine .sl _ _ sz b (off + l * sz) _ (by omega) (by omega) (fun x hx => hs x (List.mem_of_mem_take (List.mem_of_mem_drop hx))) (fun hp => ?_) (fun i j => val (l + i) j) (fun i x hi j c hj => ?_) (fun i x hi j c hj => hone _ x (hget i x hi) j c hj) (fun i x hi j c hj => hr _ x (hget i x hi) j c hj)
    · obtain ⟨hA, hst⟩ := ha (by omega)
      rw [if_neg (by omega), hA]
      refine ⟨by simp [add_none], ?_⟩
      rw [hlen]
      have : l * sz + (m - l) * sz ≤ xs.length * sz := by rw [← Nat.add_mul]; exact Nat.mul_le_mul_right _ (by omega)
      omega
    · have := hv _ x (hget i x hi) j c hj
      rw [show off + l * sz + i * sz + j = off + (l + i) * sz + j by rw [Nat.add_mul]; omega]
      exact this

theorem did_slice (i : Inv G h w) (sl : Slots G h w a s) (t e : TypeId) (x : Operand) (lo hi : Option Operand) {n : Nat} (ht : P.underlying t = some (.slice e)) (hn : sz? P e = some n)
    {av : AV} {h' : Nat → Ent} (dst : Option Nat) (hact : act dst ⟨s, h⟩ (.slice n (copd P t x) (lo.map (copd P 0)) (hi.map (copd P 0))) = some (av, h')) (ho : o.op = .slice t x lo hi none) : Did P G h w ((execOp a.eval o).run P w) av h' := by
  have h1 := copd_ok P sl t x
  simp only [act] at hact
  split at hact
  · rename_i sz xs hx
    split at hact
    · rename_i hsz
      subst hsz
      split at hact
      · rename_i m hm
        split at hact
        · rename_i l hl
          simp only [Option.some.injEq, Prod.mk.injEq] at hact
          obtain ⟨rfl, rfl⟩ := hact
          have hfs := frz_step i (sk h deep ((copd P t x).ev s))
          have hr := toD_ok i (sk h deep ((copd P t x).ev s)) deep h1 hx (fun _ hq => hq)
          generalize hp : a.eval x = v at hr
          cases hr with
          | sl A cap _ b off _ hc hm' hs ha val hv hone hr =>
            have hrel : Rel (frzSt G h w (sk h deep ((copd P t x).ev s))) w (.slice A xs.length cap) (.sl sz xs) := .sl A cap sz b off xs hc hm' hs ha val hv hone hr
            have hmb : m ≤ xs.length ∧ (match hi.map a.eval with | some v => (Instr.sliceBound v cap .sliceAcap) | none => pure xs.length).run P w = .ok m w := by
              cases hi with
              | none => simp [idx] at hm; subst hm; exact ⟨Nat.le_refl _, by simp [Sem.run_pure]⟩
              | some y =>
                simp only [Option.map_some] at hm ⊢
                have := run_bound (P := P) (copd_ok P sl 0 y) hm cap hc .sliceAcap
                exact ⟨this.2, this.1⟩
            have hlb : l ≤ m ∧ (match lo.map a.eval with | some v => (Instr.sliceBound v m .sliceB) | none => pure 0).run P w = .ok l w := by
              cases lo with
              | none => simp [idx] at hl; subst hl; exact ⟨Nat.zero_le _, by simp [Sem.run_pure]⟩
              | some y =>
                simp only [Option.map_some] at hl ⊢
                have := run_bound (P := P) (copd_ok P sl 0 y) hl m (Nat.le_refl _) .sliceB
                exact ⟨this.2, this.1⟩
            obtain ⟨_, _, hcut⟩ := hrel.cut l m hlb.1 hmb.1
            refine ⟨_, w, _, .inl ?_, hfs, .d _ _ hcut⟩
            have hb1 := hmb.2
            have hb2 := hlb.2
            have hsb : (Instr.sliceBounds true xs.length cap (lo.map a.eval) (hi.map a.eval) none).run P w = .ok (l, m, cap) w := by
              cases hi with
              | none =>
                cases lo with
                | none =>
                  simp [Sem.run_pure] at hb1 hb2
                  simp [Instr.sliceBounds, Sem.run_bind, Sem.run_pure, hb1, hb2]
                | some z =>
                  simp [Sem.run_pure] at hb1 hb2
                  simp [Instr.sliceBounds, Sem.run_bind, Sem.run_pure, hb1, hb2]
              | some y =>
                cases lo with
                | none =>
                  simp [Sem.run_pure] at hb1 hb2
                  simp [Instr.sliceBounds, Sem.run_bind, Sem.run_pure, hb1, hb2]
                | some z =>
                  simp [Sem.run_pure] at hb1 hb2
                  simp [Instr.sliceBounds, Sem.run_bind, Sem.run_pure, hb1, hb2]
            simp [execOp, ho, hp, Instr.sliceAt, Instr.slice, underlying, program, ht, hsb, run_sizeOf hn, Sem.run, Sem.run_bind, Sem.run_pure]
        · cases hact
      · cases hact
    · cases hact
  · cases hact

/-! ### cells laid into others -/
theorem fill_cells (off : Nat) : ∀ (vs : List Value) (k : Nat) (cs : Array Value), ((vs.zipIdx k).foldl (fun cs (p : Value × Nat) => cs.setIfInBounds (off + p.2) p.1) cs).size = cs.size ∧
    ∀ q, ((vs.zipIdx k).foldl (fun cs (p : Value × Nat) => cs.setIfInBounds (off + p.2) p.1) cs)[q]? = if off + k ≤ q ∧ q < off + k + vs.length ∧ q < cs.size then vs[q - off - k]? else cs[q]?
  | [], k, cs => by
    refine ⟨rfl, fun q => ?_⟩
    rw [if_neg (by simp; omega)]
    rfl
  | v :: vs, k, cs => by
    obtain ⟨h1, h2⟩ := fill_cells off vs (k + 1) (cs.setIfInBounds (off + k) v)
    simp only [List.zipIdx_cons, List.foldl_cons]
    refine ⟨by rw [h1]; simp, fun q => ?_⟩
    rw [h2]
    simp only [Array.size_setIfInBounds, List.length_cons]
    by_cases hq : q = off + k
    · subst hq
      rw [if_neg (by omega)]
      by_cases hs : off + k < cs.size
      · rw [if_pos ⟨by omega, by omega, hs⟩]
        simp [Array.getElem?_setIfInBounds, hs]
      · rw [if_neg (by omega)]
        rw [Array.getElem?_eq_none (by simp; omega), Array.getElem?_eq_none (by omega)]
    · by_cases hc : off + (k + 1) ≤ q ∧ q < off + (k + 1) + vs.length ∧ q < cs.size
      · rw [if_pos hc, if_pos ⟨by omega, by omega, by omega⟩, show q - off - k = (q - off - (k + 1)) + 1 by omega]
        rfl
      · rw [if_neg hc, if_neg (by omega)]
        rw [Array.getElem?_setIfInBounds, if_neg (fun e => hq e.symm)]

theorem fill_step (place : Nat → Option (Nat × Nat)) (cells : Array Value) (i off size : Nat) (v : Value) (rest : List (Nat × Value)) (hp : place i = some (off, size)) (hs : v.cells.size = size) (hle : off + size ≤ cells.size) :
    ∃ cells', Instr.fill place cells ((i, v) :: rest) = Instr.fill place cells' rest ∧ cells'.size = cells.size ∧ ∀ q, cells'.getD q undef = if off ≤ q ∧ q < off + size then v.cells.getD (q - off) undef else cells.getD q undef := by
  obtain ⟨h1, h2⟩ := fill_cells off v.cells.toList 0 cells
  refine ⟨v.cells.toList.zipIdx.foldl (fun cs (p : Value × Nat) => cs.setIfInBounds (off + p.2) p.1) cells, ?_, h1, fun q => ?_⟩
  · rw [Instr.fill]
    simp only [hp]
    rw [if_neg (by simp; omega)]
    congr 1
    rw [← Array.foldl_toList]
    simp
  · have := h2 q
    simp only [Array.getD_eq_getD_getElem?, this, Nat.add_zero, Nat.sub_zero, Array.length_toList]
    by_cases hc : off ≤ q ∧ q < off + size
    · rw [if_pos ⟨hc.1, by omega, by omega⟩, if_pos hc, Array.getElem?_toList]
    · rw [if_neg (by omega), if_neg hc]

theorem cparts_fill {fs : Array Field} (sizes : Nat → Nat) (hsz : ∀ (i : Nat) f, fs[i]? = some f → sz? P f.type = some (sizes i)) (i : Inv G h w) (sl : Slots G h w a s) : ∀ (ps : List (Nat × Operand)) (qs : List (Nat × Nat × Opd)), cparts P fs ps = some qs →
    ∀ (z r : List AV) (cells : Array Value), buildA h s z qs = some r → cells.size = z.length → (∀ (j : Nat) c, z[j]? = some c → ARel G h w (cells.getD j undef) c) →
    ∃ cells', Instr.fill (fun i => (fs[i]?).map fun f => (f.offset, sizes i)) cells (ps.map fun p => (p.1, a.eval p.2)) = some cells' ∧ cells'.size = r.length ∧ ∀ (j : Nat) c, r[j]? = some c → ARel G h w (cells'.getD j undef) c
  | [], qs, hq, z, r, cells, hb, hl, hr => by
    simp only [cparts, Option.some.injEq] at hq
    subst hq
    simp only [buildA, Option.some.injEq] at hb
    subst hb
    exact ⟨cells, rfl, hl, hr⟩
  | (k, x) :: ps, qs, hq, z, r, cells, hb, hl, hr => by
    simp only [cparts] at hq
    split at hq
    · rename_i f rs hf hrs
      have hs := hsz k f hf
      rw [hs] at hq
      simp only [Option.map_some, Option.some.injEq] at hq
      subst hq
      simp only [buildA] at hb
      split at hb
      · rename_i hc
        obtain ⟨hc1, hc2, hc3⟩ := hc
        have hx := copd_ok P sl f.type x
        obtain ⟨hx1, hx2⟩ := hx.cells_ok hc3
        obtain ⟨cells1, h1, h2, h3⟩ := fill_step (fun i => (fs[i]?).map fun f => (f.offset, sizes i)) cells k f.offset (sizes k) (a.eval x) (ps.map fun p => (p.1, a.eval p.2)) (by simp [hf]) (by omega) (by omega)
        simp only [List.map_cons]
        rw [h1]
        refine cparts_fill sizes hsz i sl ps rs hrs _ r cells1 hb (by simp [put]; omega) (fun j c hj => ?_)
        rw [put_get _ _ _ (by omega)] at hj
        rw [h3]
        rw [hc1] at hj
        split at hj
        · rename_i hcc
          rw [if_pos hcc]
          exact (hx2 _ c hj).1
        · rename_i hcc
          rw [if_neg hcc]
          exact hr j c hj
      · cases hb
    · cases hq

theorem run_places {fs : List Field} (hall : (fs.all fun f => (sz? P f.type).isSome) = true) : (fs.mapM (fun f => Prod.mk f.offset <$> sizeOf f.type)).run P w = .ok (fs.map fun f => (f.offset, (sz? P f.type).getD 0)) w := by
  induction fs with
  | nil => simp [Sem.run_pure]
  | cons f fs ih =>
    simp only [List.all_cons, Bool.and_eq_true] at hall
    obtain ⟨n, hn⟩ := Option.isSome_iff_exists.1 hall.1
    rw [List.mapM_cons]
    have h1 : (Prod.mk f.offset <$> sizeOf f.type).run P w = .ok (f.offset, n) w := by
      rw [← bind_pure_comp]
      simp [Sem.run_bind, Sem.run_pure, run_sizeOf hn]
    simp [Sem.run_bind, Sem.run_pure, run_sizeOf hn, ih hall.2, hn, Result.andThen]

theorem did_build (i : Inv G h w) (sl : Slots G h w a s) (t : TypeId) (parts : Array (Nat × Operand)) {fs : Array Field} {z : List AV} {ps : List (Nat × Nat × Opd)} (hu : P.underlying t = some (.struct fs)) (hall : (fs.toList.all fun f => (sz? P f.type).isSome) = true)
    (hz : zcells P t = some z) (hps : cparts P fs parts.toList = some ps) {av : AV} {h' : Nat → Ent} (dst : Option Nat) (hact : act dst ⟨s, h⟩ (.build z ps) = some (av, h')) (ho : o.op = .build t parts) : Did P G h w ((execOp a.eval o).run P w) av h' := by
  simp only [act] at hact
  cases hb : buildA h s z ps with
  | none => simp [hb] at hact
  | some r =>
    simp only [hb, Option.map_some, Option.some.injEq, Prod.mk.injEq] at hact
    obtain ⟨rfl, rfl⟩ := hact
    obtain ⟨zv, hzv, hsz, hrel, _⟩ := zcells_ok (G := G) (h := h) (w := w) hz
    have hszs : ∀ (k : Nat) f, fs[k]? = some f → sz? P f.type = some ((fun k => ((fs[k]?).bind fun f => sz? P f.type).getD 0) k) := by
      intro k f hf
      rw [List.all_eq_true] at hall
      obtain ⟨n, hn⟩ := Option.isSome_iff_exists.1 (hall f (Array.mem_toList_iff.2 (Array.mem_of_getElem? hf)))
      simp [hf, hn]
    obtain ⟨cells', h1, h2, h3⟩ := cparts_fill _ hszs i sl parts.toList ps hps z r zv.cells hb (by omega) hrel
    refine Did.same (v := .agg cells') i ?_ (.agg _ _ h2 h3)
    cases hi : P.info? t with
    | none => simp [hi] at hzv
    | some inf =>
      simp only [hi, Option.bind_some] at hzv
      have hpl := run_places (P := P) (w := w) hall
      have hplace : (fun (x : Nat) => Option.map (fun (f : Field) => (f.offset, (sz? P f.type).getD 0)) fs[x]?) = (fun i => (fs[i]?).map fun f => (f.offset, ((fs[i]?).bind fun f => sz? P f.type).getD 0)) := by
        funext k
        cases hf : fs[k]? with
        | none => rfl
        | some f => simp
      rw [← hplace] at h1
      simp [execOp, ho, Instr.build, zeroValue, typeInfo, underlying, program, hi, hzv, hu, Array.mapM_eq_mapM_toList, Sem.run, Sem.run_bind, Sem.run_pure, hpl, h1, Result.andThen]

/-- The parts of a slice that is built, each told as data. -/
theorem parts_fill (i : Inv G h w) (sl : Slots G h w a s) (e : TypeId) (size : Nat) (St : Nat → Nat) (ks : List Nat) (hSt : St = frzSt G h w ks) : ∀ (ps : List (Nat × Operand)) (xs r : List D) (cells : Array Value),
    partsD h s size xs (ps.map fun p => (p.1, copd P e p.2)) = some r → (∀ k ∈ partsK h s (ps.map fun p => (p.1, copd P e p.2)), k ∈ ks) → (∀ x ∈ xs, x.cells.length = size) → cells.size = xs.length * size →
    (∀ (p : Nat) x, xs[p]? = some x → ∀ (j : Nat) c, x.cells[j]? = some c → Rel St w (cells.getD (p * size + j) undef) c ∧ (cells.getD (p * size + j) undef).oneCell' = true) →
    ∃ cells', Instr.fill (fun i => some (i * size, size)) cells (ps.map fun p => (p.1, a.eval p.2)) = some cells' ∧ r.length = xs.length ∧ cells'.size = r.length * size ∧ (∀ x ∈ r, x.cells.length = size) ∧
      (∀ (p : Nat) x, r[p]? = some x → ∀ (j : Nat) c, x.cells[j]? = some c → Rel St w (cells'.getD (p * size + j) undef) c ∧ (cells'.getD (p * size + j) undef).oneCell' = true)
  | [], xs, r, cells, hp, hk, hs, hl, hr => by
    simp only [List.map_nil, partsD, Option.some.injEq] at hp
    subst hp
    exact ⟨cells, rfl, rfl, hl, hs, hr⟩
  | (q, x) :: ps, xs, r, cells, hp, hk, hs, hl, hr => by
    simp only [List.map_cons, partsD] at hp
    split at hp
    · rename_i y hy
      split at hp
      · rename_i hc
        obtain ⟨hyl, hq, hone⟩ := hc
        have hx := copd_ok P sl e x
        have hyr := toD_ok i ks deep hx hy (fun k hk' => hk k (by simp [partsK, hk']))
        rw [← hSt] at hyr
        obtain ⟨hv1, hv2⟩ := toD_cells hx hone hy hyr
        have hle : q * size + size ≤ xs.length * size := by rw [← Nat.succ_mul]; exact Nat.mul_le_mul_right _ hq
        obtain ⟨cells1, h1, h2, h3⟩ := fill_step (fun i => some (i * size, size)) cells q (q * size) size (a.eval x) (ps.map fun p => (p.1, a.eval p.2)) rfl (by omega) (by omega)
        simp only [List.map_cons]
        rw [h1]
        have := parts_fill i sl e size St ks hSt ps (xs.set q y) r cells1 hp (fun k hk' => hk k (by simp [partsK, hk'])) (fun z hz => by
          rcases List.mem_or_eq_of_mem_set hz with hz | hz
          · exact hs z hz
          · subst hz; exact hyl) (by simp; omega) (fun p z hz j c hj => by
          rw [h3]
          rw [List.getElem?_set] at hz
          split at hz
          · rename_i hpq
            subst hpq
            have hz' : z = y := by first | (rw [if_pos hq] at hz; simpa using hz.symm) | simpa using hz.symm
            subst hz'
            have hjl := (List.getElem?_eq_some_iff.1 hj).1
            rw [if_pos ⟨by omega, by omega⟩, show q * size + j - q * size = j by omega]
            exact hv2 j c hj
          · rename_i hpq
            have hjl := (cells_at hs hz hj).2.1
            have hne : ¬ (q * size ≤ p * size + j ∧ p * size + j < q * size + size) := by
              rcases Nat.lt_or_gt_of_ne hpq with hlt | hlt
              · have : q * size + size ≤ p * size := by rw [← Nat.succ_mul]; exact Nat.mul_le_mul_right _ hlt
                omega
              · have : p * size + size ≤ q * size := by rw [← Nat.succ_mul]; exact Nat.mul_le_mul_right _ hlt
                omega
            rw [if_neg hne]
            exact hr p z hz j c hj)
        simpa using this
      · cases hp
    · cases hp

/-- A new block that stays as it is. -/
theorem step_stay {G : GS} {h : Nat → Ent} {w : World} (i : Inv G h w) (arr : Array Value) (el : TypeId) : Step G h w ⟨fun b => if b = w.heap.size then arr.size else G.St b, G.hd⟩ h (w.alloc (.cells arr el)) := by
  have hst : ∀ b, b < w.heap.size → (if b = w.heap.size then arr.size else G.St b) = G.St b := fun b hb => if_neg (by omega)
  have hz : G.St w.heap.size = 0 := by
    rcases Nat.eq_zero_or_pos (G.St w.heap.size) with h0 | h0
    · exact h0
    · have := i.st _ h0; omega
  have hext : Ext G h w ⟨fun b => if b = w.heap.size then arr.size else G.St b, G.hd⟩ h (w.alloc (.cells arr el)) := by
    refine ⟨⟨fun b => ?_, fun b j hj => ?_⟩, fun _ => Nat.le_refl _, fun _ _ => ⟨rfl, Body.like_refl _⟩⟩
    · show G.St b ≤ if b = w.heap.size then arr.size else G.St b
      split
      · rename_i hb; rw [hb, hz]; exact Nat.zero_le _
      · exact Nat.le_refl _
    · have hb := i.st b (by omega)
      exact World.cell?_of_block (w := w) (a := ⟨b, j, none⟩) (heap_alloc_old w _ b hb)
  refine ⟨⟨fun b hb => ?_, fun q => ?_, i.apart⟩, hext, ⟨rfl, rfl, rfl, by simp, fun b hb _ => ⟨heap_alloc_old w _ b hb, hst b hb⟩⟩, fun q b hq => .inl ⟨q, hq⟩⟩
  · have hb' : 0 < (if b = w.heap.size then arr.size else G.St b) := hb
    split at hb'
    · rename_i h; rw [h]; simp
    · have := i.st b hb'; simp; omega
  · have he := i.ent q
    cases hb : (h q).body with
    | dead => trivial
    | box ds fz =>
      rw [hb] at he
      obtain ⟨b', arr', el', hA, hh, hsz, hrel, hs⟩ := he
      have hlt := (Array.getElem?_eq_some_iff.1 hh).1
      exact ⟨b', arr', el', hA, (heap_alloc_old w _ b' hlt).trans hh, hsz, fun j c hj => ⟨(hrel j c hj).1.ext hext, (hrel j c hj).2⟩, (hst b' hlt).trans hs⟩
    | row sz xs fz =>
      rw [hb] at he
      cases fz with
      | true =>
        refine ⟨he.1.keeps hext.keeps, ?_⟩
        rcases he.2 with hc' | ⟨b', arr', el', hA, hh, h0, hsz, hs⟩
        · exact .inl hc'
        · have hlt := (Array.getElem?_eq_some_iff.1 hh).1
          exact .inr ⟨b', arr', el', hA, (heap_alloc_old w _ b' hlt).trans hh, h0, hsz, (hst b' hlt).trans hs⟩
      | false =>
        rcases he with ⟨z1, z2, z3⟩ | ⟨b', arr', el', hA, hh, hsz, hcap, hm, hcs, hrel, hs⟩
        · exact .inl ⟨z1, z2, z3⟩
        have hlt := (Array.getElem?_eq_some_iff.1 hh).1
        exact .inr ⟨b', arr', el', hA, (heap_alloc_old w _ b' hlt).trans hh, hsz, hcap, hm, hcs, fun p x hp j c hj => ⟨(hrel p x hp j c hj).1.keeps hext.keeps, (hrel p x hp j c hj).2⟩, (hst b' hlt).trans hs⟩

theorem did_bslice (i : Inv G h w) (sl : Slots G h w a s) (t e : TypeId) (parts : Array (Nat × Operand)) {n size : Nat} {z : D} (ht : P.underlying t = some (.slice e)) (hz : zdata P e = some z) (hn : sz? P e = some size) (h0 : 0 < size) (hle : n * size ≤ 16777216)
    {av : AV} {h' : Nat → Ent} (dst : Option Nat) (hact : act dst ⟨s, h⟩ (.bslice z size n (parts.toList.map fun p => (p.1, copd P e p.2))) = some (av, h')) (ho : o.op = .buildSlice t n parts) : Did P G h w ((execOp a.eval o).run P w) av h' := by
  simp only [act] at hact
  cases hp : partsD h s size (List.replicate n z) (parts.toList.map fun p => (p.1, copd P e p.2)) with
  | none => simp [hp] at hact
  | some r =>
    simp only [hp, Option.map_some, Option.some.injEq, Prod.mk.injEq] at hact
    obtain ⟨rfl, rfl⟩ := hact
    have hfs := frz_step i (partsK h s (parts.toList.map fun p => (p.1, copd P e p.2)))
    generalize hks : partsK h s (parts.toList.map fun p => (p.1, copd P e p.2)) = ks at hfs
    obtain ⟨zv, hzv, hzs, hzl, hzr⟩ := zdata_ok (G := frzG G h w ks) (w := w) hz hn
    obtain ⟨cells', h1, h2, h3, h4, h5⟩ := parts_fill i sl e size (frzSt G h w ks) ks rfl parts.toList (List.replicate n z) r ((Array.range (n * size)).map (zv.cells[· % zv.cells.size]!)) hp (fun k hk => by rw [hks] at hk; exact hk) (fun y hy => by rw [List.eq_of_mem_replicate hy]; exact hzl) (by simp) (fun p y hy j c hj => by
      have hpl := (List.getElem?_eq_some_iff.1 hy).1
      simp at hpl
      have hyz : y = z := List.eq_of_mem_replicate (List.mem_of_getElem? hy)
      subst hyz
      have hjl := (List.getElem?_eq_some_iff.1 hj).1
      rw [modcells (n := n) (p := p) hzs h0 (show j < size by omega) hpl]
      exact hzr j c hj)
    simp only [List.length_replicate] at h2
    have hss := step_stay hfs.inv cells' e
    refine ⟨.slice (some ⟨w.heap.size, 0, none⟩) n n, _, _, .inl ?_, hfs.trans hss, ?_⟩
    · cases hi : P.info? e with
      | none => simp [hi] at hzv
      | some inf =>
        simp only [hi, Option.bind_some] at hzv
        have hlt : ¬ (16777216 < n * size) := by omega
        by_cases hn0 : n * size = 0
        · have hn00 : n = 0 := by
            rcases Nat.mul_eq_zero.1 hn0 with h | h <;> omega
          subst hn00
          simp only [Nat.zero_mul] at h1
          have harr : (Array.map (fun x => zv.cells[x % zv.cells.size]!) (Array.range 0)) = #[] := by simp
          rw [harr] at h1
          have harr' : Array.map (fun (_ : Nat) => (default : Value)) (Array.range 0) = #[] := by simp
          simp [execOp, ho, Instr.buildSlice, underlying, program, ht, run_sizeOf hn, harr', h1, newRow, newObj, Sem.run, Sem.run_bind, Sem.run_pure]
        · simp [execOp, ho, Instr.buildSlice, underlying, zeroValue, typeInfo, program, ht, hi, hzv, run_sizeOf hn, hlt, hn0, h1, newRow, newObj, Sem.run, Sem.run_bind, Sem.run_pure]
    · rw [← h2]
      refine .fsl _ _ _ _ (.sl _ _ size w.heap.size 0 r (Nat.le_refl _) ?_ h4 (fun _ => ⟨rfl, ?_⟩) (fun p j => cells'.getD (p * size + j) undef) (fun p x hp' j c hj => ?_) (fun p x hp' j c hj => (h5 p x hp' j c hj).2) (fun p x hp' j c hj => (h5 p x hp' j c hj).1.keeps hss.ext.keeps))
      · have : r.length ≤ n * size := by rw [h2]; exact Nat.le_mul_of_pos_right _ h0
        omega
      · show 0 + r.length * size ≤ if w.heap.size = w.heap.size then cells'.size else _
        simp [h3]
      · have := (cells_at h4 hp' hj).2.2
        simp only [World.cell?, heap_alloc_new]
        have hlt : p * size + j < cells'.size := by omega
        simp [hlt]

/-! ### append -/
/-- The cells of a slice's elements, one behind the other. -/
theorem elems_cells {St : Nat → Nat} {A : Option Addr} {m cap sz : Nat} {ys : List D} (r : Rel St w (.slice A m cap) (.sl sz ys)) :
    ∃ news : List Value, m = ys.length ∧ news.length = m * sz ∧ (∀ u ∈ news, u.oneCell' = true) ∧ (∀ (p : Nat) y, ys[p]? = some y → ∀ (j : Nat) c, y.cells[j]? = some c → Rel St w (news.getD (p * sz + j) undef) c) ∧
      (0 < m → ∃ ad, A = some ad ∧ ∀ (j : Nat) u, news[j]? = some u → w.cell? (ad.add j) = some u) ∧ (∀ y ∈ ys, y.cells.length = sz) ∧ (∀ b, (0 < m → A = some ⟨b, 0, none⟩) → ∀ (j : Nat) u, news[j]? = some u → w.cell? ⟨b, j, none⟩ = some u) := by
  cases r with
  | sl _ _ _ b off _ hc hm hs ha val hv hone hr =>
    have hat : ∀ q, q < ys.length * sz → 0 < sz ∧ ∃ y c, ys[q / sz]? = some y ∧ y.cells[q % sz]? = some c := by
      intro q hq
      have hsz : 0 < sz := by
        rcases Nat.eq_zero_or_pos sz with h | h
        · subst h; omega
        · exact h
      have h1 : q / sz < ys.length := Nat.div_lt_of_lt_mul (by rw [Nat.mul_comm]; exact hq)
      have h2 : q % sz < sz := Nat.mod_lt _ hsz
      have h3 := hs _ (List.getElem_mem h1)
      exact ⟨hsz, _, _, List.getElem?_eq_getElem h1, List.getElem?_eq_getElem (by omega)⟩
    have hdm : ∀ p j, j < sz → (p * sz + j) / sz = p ∧ (p * sz + j) % sz = j := by
      intro p j hj
      have hsz : 0 < sz := by omega
      refine ⟨?_, ?_⟩
      · rw [Nat.mul_comm, Nat.mul_add_div hsz, Nat.div_eq_of_lt hj]; omega
      · rw [Nat.mul_comm, Nat.mul_add_mod, Nat.mod_eq_of_lt hj]
    have hcell : ∀ q, q < ys.length * sz → w.cell? ⟨b, off + q, none⟩ = some (val (q / sz) (q % sz)) := by
      intro q hq
      obtain ⟨hsz, y, c, hy, hc'⟩ := hat q hq
      have := hv _ y hy _ c hc'
      rw [show off + q / sz * sz + q % sz = off + q by have := Nat.div_add_mod q sz; rw [Nat.mul_comm] at this; omega] at this
      exact this
    refine ⟨(List.range (ys.length * sz)).map fun q => val (q / sz) (q % sz), rfl, by simp, fun u hu => ?_, fun p y hy j c hj => ?_, fun hp => ?_, hs, fun b' hb' j u hj => ?_⟩
    · simp only [List.mem_map, List.mem_range] at hu
      obtain ⟨q, hq, rfl⟩ := hu
      obtain ⟨_, y, c, hy, hc'⟩ := hat q hq
      exact hone _ y hy _ c hc'
    · obtain ⟨h1, h2, h3⟩ := cells_at hs hy hj
      obtain ⟨e1, e2⟩ := hdm p j h2
      have : ((List.range (ys.length * sz)).map fun q => val (q / sz) (q % sz)).getD (p * sz + j) undef = val p j := by
        simp [List.getD_eq_getElem?_getD, h3, e1, e2]
      rw [this]
      exact hr p y hy j c hj
    · obtain ⟨hA, _⟩ := ha hp
      refine ⟨_, hA, fun j u hj => ?_⟩
      have hj' := (List.getElem?_eq_some_iff.1 hj).1
      simp at hj'
      simp [hj'] at hj
      rw [add_none, hcell j hj', hj]
    · have hj' := (List.getElem?_eq_some_iff.1 hj).1
      simp at hj'
      have hp : 0 < ys.length := by
        rcases Nat.eq_zero_or_pos ys.length with h | h
        · rw [h] at hj'; omega
        · exact h
      simp [hj'] at hj
      obtain ⟨hA, _⟩ := ha hp
      have := hb' hp
      rw [hA] at this
      simp only [Option.some.injEq, Addr.mk.injEq, and_true] at this
      obtain ⟨rfl, rfl⟩ := this
      have := hcell j hj'
      rw [Nat.zero_add] at this
      rw [this, hj]

/-- A slice of one's own whose elements stay, at the head of a block. -/
theorem rel_block {St : Nat → Nat} (b : Nat) (arr : Array Value) (el : TypeId) (hh : w.heap[b]? = some (.cells arr el (0, 0))) (cap sz : Nat) (xs : List D) (hc : xs.length ≤ cap) (hm : xs.length ≤ 9223372036854775807) (hs : ∀ x ∈ xs, x.cells.length = sz) (hst : xs.length * sz ≤ St b) (hle : xs.length * sz ≤ arr.size)
    (hr : ∀ (p : Nat) x, xs[p]? = some x → ∀ (j : Nat) c, x.cells[j]? = some c → Rel St w (arr.getD (p * sz + j) undef) c ∧ (arr.getD (p * sz + j) undef).oneCell' = true) : Rel St w (.slice (some ⟨b, 0, none⟩) xs.length cap) (.sl sz xs) := by
  refine .sl _ cap sz b 0 xs hc hm hs (fun _ => ⟨rfl, by omega⟩) (fun p j => arr.getD (p * sz + j) undef) (fun p x hp j c hj => ?_) (fun p x hp j c hj => (hr p x hp j c hj).2) (fun p x hp j c hj => (hr p x hp j c hj).1)
  have := (cells_at hs hp hj).2.2
  simp only [World.cell?, hh]
  have hlt : p * sz + j < arr.size := by omega
  simp [hlt]

theorem app_get {xs ys : List D} {sz : Nat} {olds news : List Value} (hs : ∀ x ∈ xs, x.cells.length = sz) (hol : olds.length = xs.length * sz) (Q : Value → D → Prop)
    (hx : ∀ (p : Nat) x, xs[p]? = some x → ∀ (j : Nat) c, x.cells[j]? = some c → Q (olds.getD (p * sz + j) undef) c) (hy : ∀ (p : Nat) y, ys[p]? = some y → ∀ (j : Nat) c, y.cells[j]? = some c → Q (news.getD (p * sz + j) undef) c) :
    ∀ (p : Nat) x, (xs ++ ys)[p]? = some x → ∀ (j : Nat) c, x.cells[j]? = some c → Q ((olds ++ news).getD (p * sz + j) undef) c := by
  intro p x hp j c hj
  rw [List.getElem?_append] at hp
  split at hp
  · rename_i hlt
    have := (cells_at hs hp hj).2.2
    have e : (olds ++ news).getD (p * sz + j) undef = olds.getD (p * sz + j) undef := by
      simp [List.getD_eq_getElem?_getD, List.getElem?_append, show p * sz + j < olds.length by omega]
    rw [e]
    exact hx p x hp j c hj
  · rename_i hge
    have hle : xs.length * sz ≤ p * sz := Nat.mul_le_mul_right _ (by omega)
    have e : (olds ++ news).getD (p * sz + j) undef = news.getD ((p - xs.length) * sz + j) undef := by
      simp only [List.getD_eq_getElem?_getD, List.getElem?_append, show ¬ p * sz + j < olds.length by omega, if_false]
      rw [show p * sz + j - olds.length = (p - xs.length) * sz + j by rw [Nat.sub_mul]; omega]
    rw [e]
    exact hy _ x hp j c hj

end
end Ev
end Go.Proofs.Ytnkbhmafebngjaa
