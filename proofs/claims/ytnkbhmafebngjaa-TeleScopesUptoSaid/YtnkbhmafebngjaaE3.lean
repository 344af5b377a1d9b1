/- Each operation that calls nothing does in memory what the small language tells of it: first those that leave memory alone. -/
import Derived.Test.YtnkbhmafebngjaaE2
import Derived.Laws.Sem
import Derived.Laws.Cells
namespace Go.Proofs.Ytnkbhmafebngjaa
namespace Ev
open Go
set_option linter.unusedVariables false
set_option linter.unusedSimpArgs false

/-- One step, or many. -/
structure Step (G : GS) (h : Nat → Ent) (w : World) (G' : GS) (h' : Nat → Ent) (w' : World) : Prop where
  inv : Inv G' h' w'
  ext : Ext G h w G' h' w'
  left : Left G h w G' w'
  grow : ∀ k b, Owns G' k b (h' k).body → (∃ k', Owns G k' b (h k').body) ∨ w.heap.size ≤ b

theorem Step.refl {G : GS} {h : Nat → Ent} {w : World} (i : Inv G h w) : Step G h w G h w :=
  ⟨i, .refl _ _ _, ⟨rfl, rfl, rfl, Nat.le_refl _, fun _ _ _ => ⟨rfl, rfl⟩⟩, fun k _ h => .inl ⟨k, h⟩⟩

theorem Step.trans {G G' G'' : GS} {h h' h'' : Nat → Ent} {w w' w'' : World} (s : Step G h w G' h' w') (t : Step G' h' w' G'' h'' w'') : Step G h w G'' h'' w'' := by
  refine ⟨t.inv, s.ext.trans t.ext, ⟨t.left.os.trans s.left.os, t.left.tape.trans s.left.tape, t.left.output.trans s.left.output, Nat.le_trans s.left.size t.left.size, fun b hb hn => ?_⟩, fun k b hk => ?_⟩
  · have h1 := s.left.block b hb hn
    have h2 := t.left.block b (Nat.lt_of_lt_of_le hb s.left.size) (fun k hk => by
      rcases s.grow k b hk with ⟨k', hk'⟩ | hle
      · exact hn k' hk'
      · omega)
    exact ⟨h2.1.trans h1.1, h2.2.trans h1.2⟩
  · rcases t.grow k b hk with ⟨k', hk'⟩ | hle
    · exact s.grow k' b hk'
    · exact .inr (Nat.le_trans s.left.size hle)

/-- The run of an operation comes to what is told. -/
def Did (P : Program) (G : GS) (h : Nat → Ent) (w : World) (r : Result Next) (av : AV) (h' : Nat → Ent) : Prop :=
  ∃ v w' G', (r = .ok (.value v) w' ∨ (r = .ok .skip w' ∧ v = undef)) ∧ Step G h w G' h' w' ∧ ARel G' h' w' v av

theorem Did.same {P : Program} {G : GS} {h : Nat → Ent} {w : World} {r : Result Next} {av : AV} {v : Value} (i : Inv G h w) (hr : r = .ok (.value v) w) (ha : ARel G h w v av) : Did P G h w r av h :=
  ⟨v, w, G, .inl hr, .refl i, ha⟩

def Slots (G : GS) (h : Nat → Ent) (w : World) (a : Act) (s : Nat → AV) : Prop := ∀ i, ARel G h w (a.tmps.getD i undef) (s i)

theorem Slots.ext {G G' : GS} {h h' : Nat → Ent} {w w' : World} (e : Ext G h w G' h' w') {a : Act} {s : Nat → AV} (r : Slots G h w a s) : Slots G' h' w' a s := fun i => (r i).ext e

theorem cav_ok (P : Program) (G : GS) (h : Nat → Ent) (w : World) (t : TypeId) (v : Value) : ARel G h w v (cav P t v) := by
  unfold cav
  split
  · exact .d _ _ (.int _ _)
  · exact .d _ _ (.bool _)
  · exact .d _ _ (.str _)
  · exact .d _ _ .nilp
  · exact .d _ _ (.junk _)
  · split
    · exact .fsl _ _ _ _ (.sl none 0 _ 0 0 [] (Nat.le_refl _) (by simp) (by simp) (by simp) (fun _ _ => undef) (by simp) (by simp) (by simp))
    · exact .junk _
  · exact .junk _

theorem copd_ok (P : Program) {G : GS} {h : Nat → Ent} {w : World} {a : Act} {s : Nat → AV} (sl : Slots G h w a s) (t : TypeId) (x : Operand) : ARel G h w (a.eval x) ((copd P t x).ev s) := by
  cases x with
  | tmp i => exact sl i
  | const v => exact cav_ok P G h w t v
  | func f => exact .d _ _ (.clo f #[] [] rfl (by simp))
  | global g => exact .junk _

/-! ### inversions -/
theorem ARel.of_int {G : GS} {h : Nat → Ent} {w : World} {v : Value} {k : IntKind} {n : Int} (r : ARel G h w v (.d (.int k n))) : v = .int k n := by
  cases r with | d _ _ hr => cases hr; rfl
theorem ARel.of_bool {G : GS} {h : Nat → Ent} {w : World} {v : Value} {b : Bool} (r : ARel G h w v (.d (.bool b))) : v = .bool b := by
  cases r with | d _ _ hr => cases hr; rfl

section
variable {P : Program} {G : GS} {h : Nat → Ent} {w : World} {a : Act} {s : Nat → AV} {o : Oper}

theorem did_move (i : Inv G h w) (sl : Slots G h w a s) (t : TypeId) (x : Operand) (ho : o.op = .move x ∨ o.op = .assign x) : Did P G h w ((execOp a.eval o).run P w) ((copd P t x).ev s) h := by
  refine Did.same i ?_ (copd_ok P sl t x)
  rcases ho with ho | ho <;> simp [execOp, ho, Sem.run_pure]

theorem did_pick (i : Inv G h w) (sl : Slots G h w a s) (t : TypeId) (c x y : Operand) (b : Bool) (hc : (copd P 0 c).ev s = .d (.bool b)) (ho : o.op = .pick c x y) :
    Did P G h w ((execOp a.eval o).run P w) (if b then (copd P t x).ev s else (copd P t y).ev s) h := by
  have h1 := copd_ok P sl 0 c
  rw [hc] at h1
  have h2 := h1.of_bool
  have h3 := copd_ok P sl t x
  have h4 := copd_ok P sl t y
  refine Did.same (v := if b then a.eval x else a.eval y) i ?_ ?_
  · simp [execOp, ho, h2, asBool, Sem.run_bind, Sem.run_pure]
  · cases b
    · exact h4
    · exact h3

theorem did_un (i : Inv G h w) (sl : Slots G h w a s) (t : TypeId) (op : UnOp) (x : Operand) {av : AV} {h' : Nat → Ent} (dst : Option Nat) (hact : act dst ⟨s, h⟩ (.un op (copd P t x)) = some (av, h')) (ho : o.op = .unOp op t x) :
    Did P G h w ((execOp a.eval o).run P w) av h' := by
  have h1 := copd_ok P sl t x
  simp only [act] at hact
  split at hact
  · rename_i b hx
    rw [hx] at h1
    have h2 := h1.of_bool
    obtain ⟨rfl, rfl⟩ := by simpa using hact
    exact Did.same i (by simp [execOp, ho, h2, Op.unary, Sem.run_bind, Sem.run_pure]) (.d _ _ (.bool _))
  · rename_i k n hx
    rw [hx] at h1
    have h2 := h1.of_int
    obtain ⟨rfl, rfl⟩ := by simpa using hact
    exact Did.same i (by simp [execOp, ho, h2, Op.unary, Op.intArith, Sem.run_bind, Sem.run_pure]) (.d _ _ (.int _ _))
  · cases hact

theorem did_conv (i : Inv G h w) (sl : Slots G h w a s) (src dst' : TypeId) (k : IntKind) (x : Operand) {av : AV} {h' : Nat → Ent} (dst : Option Nat) (hact : act dst ⟨s, h⟩ (.conv k (copd P src x)) = some (av, h'))
    {u : TypeDesc} (hs : P.underlying src = some u) (hd : P.underlying dst' = some (.int k)) (ho : o.op = .convert src dst' x) : Did P G h w ((execOp a.eval o).run P w) av h' := by
  have h1 := copd_ok P sl src x
  simp only [act] at hact
  split at hact
  · rename_i k' n hx
    rw [hx] at h1
    have h2 := h1.of_int
    obtain ⟨rfl, rfl⟩ := by simpa using hact
    refine Did.same i ?_ (.d _ _ (.int _ _))
    simp [execOp, ho, h2, convert, underlying, program, hs, hd, Sem.run, Sem.run_bind, Sem.run_pure, Conv.intToInt]
  · cases hact

theorem did_mm (i : Inv G h w) (sl : Slots G h w a s) (mx : Bool) (x y : Operand) (ts : Array TypeId) {av : AV} {h' : Nat → Ent} (dst : Option Nat) (hact : act dst ⟨s, h⟩ (.mm mx (copd P 0 x) (copd P 0 y)) = some (av, h'))
    (ho : o.op = .call { callee := .builtin (if mx then .max else .min), args := #[x, y], argTypes := ts }) : Did P G h w ((execOp a.eval o).run P w) av h' := by
  have h1 := copd_ok P sl 0 x
  have h2 := copd_ok P sl 0 y
  simp only [act] at hact
  split at hact
  · rename_i k p k' q hx hy
    rw [hx] at h1
    rw [hy] at h2
    have h3 := h1.of_int
    have h4 := h2.of_int
    split at hact
    · rename_i hk
      subst hk
      obtain ⟨rfl, rfl⟩ := by simpa using hact
      refine Did.same i ?_ (.d _ _ (.int _ _))
      cases mx <;> simp [execOp, ho, h3, h4, resolve, invoke, builtin, Builtin.max_, Builtin.min_, Builtin.max2, Builtin.min2, Sem.run_bind, Sem.run_pure]
    · cases hact
  · cases hact

theorem did_ext (i : Inv G h w) (sl : Slots G h w a s) (x : Operand) (n : Nat) {av : AV} {h' : Nat → Ent} (dst : Option Nat) (hact : act dst ⟨s, h⟩ (.ext (copd P 0 x) n) = some (av, h')) (ho : o.op = .extract x n) :
    Did P G h w ((execOp a.eval o).run P w) av h' := by
  have h1 := copd_ok P sl 0 x
  simp only [act] at hact
  split at hact
  · rename_i cs hx
    rw [hx] at h1
    cases hn : cs[n]? with
    | none => simp [hn] at hact
    | some c =>
      simp only [hn, Option.map_some, Option.some.injEq, Prod.mk.injEq] at hact
      obtain ⟨rfl, rfl⟩ := hact
      generalize hv : a.eval x = v at h1
      cases h1 with
      | tup vs _ hsz hr =>
        have hlt := (List.getElem?_eq_some_iff.1 hn).1
        have hlt' : n < vs.size := by omega
        refine Did.same (v := vs.getD n undef) i ?_ (hr n _ hn)
        simp [execOp, ho, hv, Instr.extract, Array.getElem?_eq_getElem hlt', Sem.run_bind, Sem.run_pure]
  · cases hact

theorem ARel.d_inv {G : GS} {h : Nat → Ent} {w : World} {v : Value} {x : D} (r : ARel G h w v (.d x)) : Rel G.St w v x := by
  cases r with | d _ _ hr => exact hr

theorem did_bin (i : Inv G h w) (sl : Slots G h w a s) (op : BinOp) (xt yt : TypeId) (x y : Operand) {av : AV} {h' : Nat → Ent} (dst : Option Nat) (hact : act dst ⟨s, h⟩ (.bin op (copd P xt x) (copd P yt y)) = some (av, h'))
    (ho : o.op = .binOp op xt x y yt) : Did P G h w ((execOp a.eval o).run P w) av h' := by
  have h1 := copd_ok P sl xt x
  have h2 := copd_ok P sl yt y
  simp only [act] at hact
  cases hb : binI op ((copd P xt x).ev s) ((copd P yt y).ev s) with
  | none => simp [hb] at hact
  | some r =>
    simp only [hb, Option.map_some, Option.some.injEq, Prod.mk.injEq] at hact
    obtain ⟨rfl, rfl⟩ := hact
    unfold binI at hb
    split at hb
    · rename_i k m hx
      split at hb
      · rename_i k' n hy
        rw [hx] at h1
        rw [hy] at h2
        have h3 := h1.of_int
        have h4 := h2.of_int
        split at hb
        · simp only [shiftD] at hb
          split at hb
          · cases hb
          · rename_i hz
            simp only [Option.some.injEq] at hb
            subst hb
            exact Did.same i (by simp [execOp, ho, h3, h4, eqGuard, binOp, Op.shift, hz, Sem.run_bind, Sem.run_pure]) (.d _ _ (.int _ _))
        · simp only [shiftD] at hb
          split at hb
          · cases hb
          · rename_i hz
            simp only [Option.some.injEq] at hb
            subst hb
            exact Did.same i (by simp [execOp, ho, h3, h4, eqGuard, binOp, Op.shift, hz, Sem.run_bind, Sem.run_pure]) (.d _ _ (.int _ _))
        · rename_i hn1 hn2
          split at hb
          · rename_i hk
            subst hk
            cases op <;> simp only [intD, Option.some.injEq, reduceCtorEq] at hb <;> first
              | (cases hb; done)
              | (exact absurd rfl hn1)
              | (exact absurd rfl hn2)
              | (subst hb
                 refine Did.same i ?_ (.d _ _ (by first | exact .int _ _ | exact .bool _))
                 simp [execOp, ho, h3, h4, eqGuard, binOp, Op.intArith, Op.intCmp, Op.intBits, Sem.run_bind, Sem.run_pure]
                 done)
              | (split at hb
                 · cases hb
                 · rename_i hz
                   simp only [Option.some.injEq] at hb
                   subst hb
                   refine Did.same i ?_ (.d _ _ (by first | exact .int _ _ | exact .bool _))
                   simp [execOp, ho, h3, h4, eqGuard, binOp, Op.intDiv, hz, Sem.run_bind, Sem.run_pure])
          · cases hb
      · cases hb
    · cases hb

theorem equal_bool {t : TypeId} (hu : P.underlying t = some .bool) (m n : Bool) : (Op.equal t (.bool m) (.bool n)).run P w = .ok (m == n) w := by
  unfold Op.equal Op.maxDepth
  unfold Op.equalIn
  simp only [underlying, program, Sem.run_bind, Sem.run, hu, Result.andThen, Sem.run_pure]

theorem did_binb (i : Inv G h w) (sl : Slots G h w a s) (op : BinOp) (xt yt : TypeId) (x y : Operand) {av : AV} {h' : Nat → Ent} (dst : Option Nat) (hact : act dst ⟨s, h⟩ (.binb op (copd P xt x) (copd P yt y)) = some (av, h'))
    (hu : P.underlying xt = some .bool) (ho : o.op = .binOp op xt x y yt) : Did P G h w ((execOp a.eval o).run P w) av h' := by
  have h1 := copd_ok P sl xt x
  have h2 := copd_ok P sl yt y
  simp only [act] at hact
  cases hb : binB op ((copd P xt x).ev s) ((copd P yt y).ev s) with
  | none => simp [hb] at hact
  | some r =>
    simp only [hb, Option.map_some, Option.some.injEq, Prod.mk.injEq] at hact
    obtain ⟨rfl, rfl⟩ := hact
    unfold binB at hb
    split at hb
    · rename_i m hx
      split at hb
      · rename_i n hy
        rw [hx] at h1
        rw [hy] at h2
        have h3 := h1.of_bool
        have h4 := h2.of_bool
        split at hb
        · simp only [Option.some.injEq] at hb
          subst hb
          exact Did.same i (by simp [execOp, ho, h3, h4, eqGuard, binOp, equal_bool hu, Sem.run_bind, Sem.run_pure]) (.d _ _ (.bool _))
        · simp only [Option.some.injEq] at hb
          subst hb
          exact Did.same i (by simp [execOp, ho, h3, h4, eqGuard, binOp, equal_bool hu, Sem.run_bind, Sem.run_pure]) (.d _ _ (.bool _))
        · cases hb
      · cases hb
    · cases hb

end
end Ev
end Go.Proofs.Ytnkbhmafebngjaa
