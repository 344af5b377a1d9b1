/- Addresses, fields, structs that are built: memory is left alone. -/
import Derived.Test.YtnkbhmafebngjaaE4
namespace Go.Proofs.Ytnkbhmafebngjaa
namespace Ev
open Go
set_option linter.unusedVariables false
set_option linter.unusedSimpArgs false

section
variable {P : Program} {G : GS} {h : Nat → Ent} {w : World} {a : Act} {s : Nat → AV} {o : Oper}

theorem did_mkf (i : Inv G h w) (sl : Slots G h w a s) (f : FuncId) (caps : Array Operand) {av : AV} {h' : Nat → Ent} (dst : Option Nat) (hact : act dst ⟨s, h⟩ (.mkf f (caps.toList.map (copd P 0))) = some (av, h'))
    (ho : o.op = .makeFunc (.func f) #[] caps) : Did P G h w ((execOp a.eval o).run P w) av h' := by
  simp only [act, Option.some.injEq, Prod.mk.injEq] at hact
  obtain ⟨rfl, rfl⟩ := hact
  refine Did.same (v := .func (.func f) #[] (caps.map a.eval)) i (by simp [execOp, ho, Instr.makeFunc, Sem.run_bind, Sem.run_pure]) (.clo _ _ _ (by simp) fun j c hj => ?_)
  simp only [List.map_map, List.getElem?_map] at hj
  cases hx : caps.toList[j]? with
  | none => simp [hx] at hj
  | some x =>
    simp only [hx, Option.map_some, Option.some.injEq, Function.comp] at hj
    subst hj
    have hlt := (List.getElem?_eq_some_iff.1 hx).1
    have : (caps.map a.eval).getD j undef = a.eval x := by
      rw [Array.getElem?_toList] at hx
      simp [Array.getD_eq_getD_getElem?, hx]
    rw [this]
    exact copd_ok P sl 0 x

theorem run_fieldAt {t : TypeId} {fs : Array Field} {f n : Nat} {fl : Field} (hu : P.underlying t = some (.struct fs)) (hf : fs[f]? = some fl) (hn : sz? P fl.type = some n) (hn0 : n ≠ 0) (b off : Nat) :
    (Instr.fieldAt t (.pointer (some ⟨b, off, none⟩)) f).run P w = .ok (.pointer (some ⟨b, off + fl.offset, none⟩)) w := by
  simp [Instr.fieldAt, underlying, program, hu, hf, Instr.sureAddr, fieldPlace, run_sizeOf hn, hn0, add_none, Sem.run, Sem.run_bind, Sem.run_pure]

theorem did_faddr (i : Inv G h w) (sl : Slots G h w a s) (t : TypeId) (x : Operand) (f : Nat) {fs : Array Field} {n : Nat} {fl : Field} (hu : P.underlying t = some (.struct fs)) (hf : fs[f]? = some fl) (hn : sz? P fl.type = some n) (hn0 : n ≠ 0)
    {av : AV} {h' : Nat → Ent} (dst : Option Nat) (hact : act dst ⟨s, h⟩ (.faddr fl.offset (copd P 0 x)) = some (av, h')) (ho : o.op = .fieldAddr t x f) : Did P G h w ((execOp a.eval o).run P w) av h' := by
  have h1 := copd_ok P sl 0 x
  simp only [act] at hact
  split at hact
  · rename_i k v off hx
    rw [hx] at h1
    split at hact
    · rename_i hver
      split at hact
      · rename_i cs fz hb
        simp only [Option.some.injEq, Prod.mk.injEq] at hact
        obtain ⟨rfl, rfl⟩ := hact
        generalize hp : a.eval x = u at h1
        cases h1 with
        | ptr _ _ _ _ hone_ hle hv =>
          obtain ⟨b, hA, hv'⟩ := hv hver cs fz hb
          subst hv'
          refine Did.same (v := .pointer (some ⟨b, off + fl.offset, none⟩)) i (by simp [execOp, ho, hp, run_fieldAt hu hf hn hn0, Sem.run_bind, Sem.run_pure]) (.ptr _ _ _ _ rfl hle fun _ cs' fz' hb' => ⟨b, hA, rfl⟩)
      · cases hact
    · cases hact
  · rename_i cs hx
    rw [hx] at h1
    split at hact
    · rename_i hle
      simp only [Option.some.injEq, Prod.mk.injEq] at hact
      obtain ⟨rfl, rfl⟩ := hact
      have h2 := h1.d_inv
      generalize hp : a.eval x = u at h2
      cases h2 with
      | rp b off _ hb val hv hone hr =>
        refine Did.same (v := .pointer (some ⟨b, off + fl.offset, none⟩)) i (by simp [execOp, ho, hp, run_fieldAt hu hf hn hn0, Sem.run_bind, Sem.run_pure]) (.d _ _ (.rp b _ _ (by simp; omega) (fun j => val (fl.offset + j)) (fun j c hj => ?_) (fun j c hj => ?_) (fun j c hj => ?_)))
        · rw [List.getElem?_drop] at hj
          rw [Nat.add_assoc]
          exact hv _ c hj
        · rw [List.getElem?_drop] at hj
          exact hone _ c hj
        · rw [List.getElem?_drop] at hj
          exact hr _ c hj
    · cases hact
  · rename_i k v sz i0 off hx
    rw [hx] at h1
    split at hact
    · rename_i hver
      split at hact
      · rename_i sz' xs hb
        simp only [Option.some.injEq, Prod.mk.injEq] at hact
        obtain ⟨rfl, rfl⟩ := hact
        generalize hp : a.eval x = u at h1
        cases h1 with
        | eptr _ _ _ _ _ _ hone_ hle hv =>
          obtain ⟨hi0, b, hA, hv'⟩ := hv hver _ xs hb
          subst hv'
          refine Did.same (v := .pointer (some ⟨b, i0 * sz + off + fl.offset, none⟩)) i (by simp [execOp, ho, hp, run_fieldAt hu hf hn hn0, Sem.run_bind, Sem.run_pure]) (.eptr _ _ _ _ _ _ rfl hle fun hq sz'' xs' hb' => ?_)
          obtain ⟨hi1, b1, hA1, _⟩ := hv hq _ xs' hb'
          rw [hA] at hA1
          simp only [Option.some.injEq, Addr.mk.injEq, and_true] at hA1
          exact ⟨hi1, b, hA, by rw [Nat.add_assoc]⟩
      · cases hact
    · cases hact
  · cases hact

theorem run_part {t : TypeId} {n : Nat} {g : Bool} (hn : sz? P t = some n) (hg : ag? P t = some g) (cs : Array Value) (off : Nat) (hle : off + n ≤ cs.size) (h1 : g = false → n = 1) :
    (part t cs off).run P w = .ok (if g then .agg (cs.extract off (off + n)) else cs.getD off undef) w := by
  unfold part
  rw [Sem.run_bind, run_isAgg hg]
  cases g with
  | true => simp [Result.andThen, run_sizeOf hn, Sem.run_bind, Sem.run_pure]
  | false =>
    have hlt : off < cs.size := by have := h1 rfl; omega
    simp [Result.andThen, Array.getElem?_eq_getElem hlt, Array.getD, hlt, Sem.run_pure]

theorem did_fld (i : Inv G h w) (sl : Slots G h w a s) (t : TypeId) (x : Operand) (f : Nat) {fs : Array Field} {n : Nat} {g : Bool} {fl : Field} (hu : P.underlying t = some (.struct fs)) (hf : fs[f]? = some fl) (hn : sz? P fl.type = some n) (hg : ag? P fl.type = some g)
    {av : AV} {h' : Nat → Ent} (dst : Option Nat) (hact : act dst ⟨s, h⟩ (.fld fl.offset n g (copd P t x)) = some (av, h')) (ho : o.op = .field t x f) : Did P G h w ((execOp a.eval o).run P w) av h' := by
  have h1 := copd_ok P sl t x
  simp only [act] at hact
  split at hact
  · rename_i cs hx
    rw [hx] at h1
    cases hc : cut fl.offset n cs with
    | none => simp [hc] at hact
    | some cs' =>
      cases hq : wrapD g cs' with
      | none => simp [hc, hq] at hact
      | some q =>
        simp only [hc, hq, Option.bind_some, Option.map_some, Option.some.injEq, Prod.mk.injEq] at hact
        obtain ⟨rfl, rfl⟩ := hact
        obtain ⟨hle, hlen, hget⟩ := cut_some hc
        have h2 := h1.d_inv
        generalize hp : a.eval x = u at h2
        cases h2 with
        | agg vs _ hsz hr =>
          have hg1 : g = false → n = 1 := by
            intro hg'
            subst hg'
            unfold wrapD at hq
            simp only [Bool.false_eq_true, if_false] at hq
            split at hq
            · simpa using hlen.symm
            · cases hq
          have hrun := run_part (w := w) hn hg vs fl.offset (by omega) hg1
          refine Did.same (v := if g then .agg (vs.extract fl.offset (fl.offset + n)) else vs.getD fl.offset undef) i (by simp [execOp, ho, hp, Instr.field, underlying, program, hu, hf, asAgg, hrun, Sem.run, Sem.run_bind, Sem.run_pure]) ?_
          cases g with
          | true =>
            simp only [wrapD, if_true, Option.some.injEq] at hq
            subst hq
            refine .d _ _ (.agg _ _ (by simp [hlen]; omega) fun j c hj => ?_)
            have hj' := (List.getElem?_eq_some_iff.1 hj).1
            rw [hget j (by omega)] at hj
            have := hr _ c hj
            have e : (vs.extract fl.offset (fl.offset + n)).getD j undef = vs.getD (fl.offset + j) undef := by
              have hlt : fl.offset + j < vs.size := by omega
              simp [Array.getD_eq_getD_getElem?, Array.getElem?_extract, show j < min (fl.offset + n) vs.size - fl.offset by omega, Array.getElem?_eq_getElem hlt]
            rw [e]
            exact this
          | false =>
            unfold wrapD at hq
            simp only [Bool.false_eq_true, if_false] at hq
            split at hq
            · rename_i c
              simp only [Option.some.injEq] at hq
              subst hq
              have := hget 0 (by have := hg1 rfl; omega)
              exact .d _ _ (hr _ c (by simpa using this.symm))
            · cases hq
  · rename_i cs hx
    rw [hx] at h1
    cases hc : cut fl.offset n cs with
    | none => simp [hc] at hact
    | some cs' =>
      cases hq : wrapA g cs' with
      | none => simp [hc, hq] at hact
      | some q =>
        simp only [hc, hq, Option.bind_some, Option.map_some, Option.some.injEq, Prod.mk.injEq] at hact
        obtain ⟨rfl, rfl⟩ := hact
        obtain ⟨hle, hlen, hget⟩ := cut_some hc
        generalize hp : a.eval x = u at h1
        cases h1 with
        | agg vs _ hsz hr =>
          have hg1 : g = false → n = 1 := by
            intro hg'
            subst hg'
            unfold wrapA at hq
            simp only [Bool.false_eq_true, if_false] at hq
            split at hq
            · simpa using hlen.symm
            · cases hq
          have hrun := run_part (w := w) hn hg vs fl.offset (by omega) hg1
          refine Did.same (v := if g then .agg (vs.extract fl.offset (fl.offset + n)) else vs.getD fl.offset undef) i (by simp [execOp, ho, hp, Instr.field, underlying, program, hu, hf, asAgg, hrun, Sem.run, Sem.run_bind, Sem.run_pure]) ?_
          cases g with
          | true =>
            simp only [wrapA, if_true, Option.some.injEq] at hq
            subst hq
            refine .agg _ _ (by simp [hlen]; omega) fun j c hj => ?_
            have hj' := (List.getElem?_eq_some_iff.1 hj).1
            rw [hget j (by omega)] at hj
            have := hr _ c hj
            have e : (vs.extract fl.offset (fl.offset + n)).getD j undef = vs.getD (fl.offset + j) undef := by
              have hlt : fl.offset + j < vs.size := by omega
              simp [Array.getD_eq_getD_getElem?, Array.getElem?_extract, show j < min (fl.offset + n) vs.size - fl.offset by omega, Array.getElem?_eq_getElem hlt]
            rw [e]
            exact this
          | false =>
            unfold wrapA at hq
            simp only [Bool.false_eq_true, if_false] at hq
            split at hq
            · rename_i c
              simp only [Option.some.injEq] at hq
              subst hq
              have := hget 0 (by have := hg1 rfl; omega)
              exact hr _ c (by simpa using this.symm)
            · cases hq
  · cases hact

/-- A slice as the value tells it: where its elements lie. -/
theorem elems_rel {G : GS} {h : Nat → Ent} {w : World} (i : Inv G h w) {v : Value} {av : AV} (r : ARel G h w v av) {sz : Nat} {xs : List D} (he : elemsA h av = some (sz, xs)) (hf : ∀ k ver, av = .rsl k ver → ∀ sz' xs', (h k).body ≠ .row sz' xs' false) :
    Rel G.St w v (.sl sz xs) := by
  unfold elemsA at he
  split at he
  · simp only [Option.some.injEq, Prod.mk.injEq] at he
    obtain ⟨rfl, rfl⟩ := he
    exact r.d_inv
  · simp only [Option.some.injEq, Prod.mk.injEq] at he
    obtain ⟨rfl, rfl⟩ := he
    cases r with | fsl A n _ _ hr => exact hr
  · rename_i k ver
    split at he
    · rename_i hver
      split at he
      · rename_i sz' xs' fz hb
        simp only [Option.some.injEq, Prod.mk.injEq] at he
        obtain ⟨rfl, rfl⟩ := he
        have hent := i.ent k
        rw [hb] at hent
        cases fz with
        | false => exact absurd hb (hf k ver rfl _ _)
        | true =>
          cases r with
          | rsl _ _ _ hone_ hle hv =>
            rw [hv hver _ _ _ hb]
            exact hent.1
      · cases he
    · cases he
  · cases he

theorem run_indexAt {t e : TypeId} {n : Nat} (ht : P.underlying t = some (.slice e)) (hn : sz? P e = some n) (b off len cap : Nat) (k : IntKind) (z : Int) (h0 : 0 ≤ z) (h1 : z < (len : Int)) :
    (Instr.indexAt t (.slice (some ⟨b, off, none⟩) len cap) (.int k z)).run P w = .ok (.pointer (some ⟨b, off + z.toNat * n, none⟩)) w := by
  simp [Instr.indexAt, asIntOf, underlying, program, ht, run_sizeOf hn, h0, h1, add_none, Sem.run, Sem.run_bind, Sem.run_pure]

theorem did_iaddr (i : Inv G h w) (sl : Slots G h w a s) (t e : TypeId) (x ix : Operand) {n : Nat} (ht : P.underlying t = some (.slice e)) (hn : sz? P e = some n)
    {av : AV} {h' : Nat → Ent} (dst : Option Nat) (hact : act dst ⟨s, h⟩ (.iaddr n (copd P t x) (copd P 0 ix)) = some (av, h')) (ho : o.op = .indexAddr t x ix) : Did P G h w ((execOp a.eval o).run P w) av h' := by
  have h1 := copd_ok P sl t x
  have h2 := copd_ok P sl 0 ix
  simp only [act] at hact
  split at hact
  · rename_i k z hz
    rw [hz] at h2
    have h3 := h2.of_int
    split at hact
    · rename_i h0
      -- elements that stay
      have main : ∀ xs y, Rel G.St w (a.eval x) (.sl n xs) → xs[z.toNat]? = some y → Did P G h w ((execOp a.eval o).run P w) (.d (.rp y.cells)) h := by
        intro xs y hr hy
        generalize hp : a.eval x = u at hr
        have hlt := (List.getElem?_eq_some_iff.1 hy).1
        cases hr with
        | sl A cap _ b off _ hc hm hs ha val hv hone hr =>
          obtain ⟨hA, hst⟩ := ha (by omega)
          subst hA
          have hyn : y.cells.length = n := hs y (List.mem_of_getElem? hy)
          have hle : z.toNat * n + n ≤ xs.length * n := by rw [← Nat.succ_mul]; exact Nat.mul_le_mul_right _ hlt
          refine Did.same (v := .pointer (some ⟨b, off + z.toNat * n, none⟩)) i (by simp [execOp, ho, hp, h3, run_indexAt ht hn b off xs.length cap k z h0 (by omega), Sem.run_bind, Sem.run_pure]) (.d _ _ (.rp b _ _ (by omega) (val z.toNat) (fun j c hj => hv _ y hy j c hj) (fun j c hj => hone _ y hy j c hj) (fun j c hj => hr _ y hy j c hj)))
      split at hact
      · rename_i k' v hx
        rw [hx] at h1
        split at hact
        · rename_i hver
          split at hact
          · rename_i sz xs hb
            split at hact
            · rename_i hc
              obtain ⟨hlt, rfl⟩ := hc
              simp only [Option.some.injEq, Prod.mk.injEq] at hact
              obtain ⟨rfl, rfl⟩ := hact
              have hent := i.ent k'
              rw [hb] at hent
              rcases hent with ⟨_, _, z3⟩ | ⟨b, arr, el, hA, _⟩
              · subst z3; simp at hlt; omega
              generalize hp : a.eval x = u at h1
              cases h1 with
              | rsl _ _ _ hone_ hle hv =>
                have hu := hv hver _ _ _ hb
                subst hu
                rw [hA] at hp
                refine Did.same (v := .pointer (some ⟨b, 0 + z.toNat * sz, none⟩)) i (by simp [execOp, ho, hp, h3, run_indexAt ht hn b 0 xs.length _ k z h0 hlt, Sem.run_bind, Sem.run_pure]) (.eptr _ _ _ _ _ _ rfl hle fun _ sz' xs' hb' => ⟨by rw [hb] at hb'; cases hb'; omega, b, hA, by simp⟩)
            · cases hact
          · rename_i sz xs hb
            split at hact
            · rename_i y hy
              split at hact
              · rename_i hs
                subst hs
                simp only [Option.some.injEq, Prod.mk.injEq] at hact
                obtain ⟨rfl, rfl⟩ := hact
                refine main xs y (elems_rel i h1 (sz := sz) (xs := xs) ?_ ?_) hy
                · simp [elemsA, hver, hb]
                · rintro _ _ ⟨rfl, rfl⟩ sz' xs' hb'
                  rw [hb] at hb'
                  cases hb'
              · cases hact
            · cases hact
          · cases hact
        · cases hact
      · rename_i hnr
        split at hact
        · rename_i sz xs he
          split at hact
          · rename_i y hy
            split at hact
            · rename_i hs
              subst hs
              simp only [Option.some.injEq, Prod.mk.injEq] at hact
              obtain ⟨rfl, rfl⟩ := hact
              exact main xs y (elems_rel i h1 he fun k ver hk => absurd hk (hnr k ver)) hy
            · cases hact
          · cases hact
        · cases hact
    · cases hact
  · cases hact

end
end Ev
end Go.Proofs.Ytnkbhmafebngjaa
