/- Operations that read, and leave memory alone. -/
import Derived.Test.YtnkbhmafebngjaaE3
namespace Go.Proofs.Ytnkbhmafebngjaa
namespace Ev
open Go
set_option linter.unusedVariables false
set_option linter.unusedSimpArgs false

theorem add_none (b off j : Nat) : (⟨b, off, none⟩ : Addr).add j = ⟨b, off + j, none⟩ := by
  unfold Addr.add
  split <;> simp_all

theorem cut_some {α : Type} {off n : Nat} {cs r : List α} (h : cut off n cs = some r) : off + n ≤ cs.length ∧ r.length = n ∧ ∀ j, j < n → r[j]? = cs[off + j]? := by
  unfold cut at h
  split at h
  · rename_i hle
    simp only [Option.some.injEq] at h
    subst h
    refine ⟨hle, by simp; omega, fun j hj => ?_⟩
    rw [List.getElem?_take_of_lt hj, List.getElem?_drop]
  · cases h

section
variable {P : Program} {G : GS} {h : Nat → Ent} {w : World} {a : Act} {s : Nat → AV} {o : Oper}

theorem run_isAgg {t : TypeId} {g : Bool} (hg : ag? P t = some g) : (isAgg t).run P w = .ok g w := by
  unfold ag? at hg
  cases hu : P.underlying t with
  | none => simp [hu] at hg
  | some u =>
    cases u <;> simp [hu] at hg <;> subst hg <;> simp [isAgg, underlying, program, hu, Sem.run, Sem.run_bind, Sem.run_pure]

theorem run_sizeOf {t : TypeId} {n : Nat} (hn : sz? P t = some n) : (sizeOf t).run P w = .ok n w := by
  unfold sz? at hn
  cases hi : P.info? t with
  | none => simp [hi] at hn
  | some i =>
    simp [hi] at hn
    subst hn
    simp [sizeOf, typeInfo, program, hi, Sem.run, Sem.run_bind, Sem.run_pure]

theorem run_loadVar {t : TypeId} {n : Nat} {g : Bool} (hn : sz? P t = some n) (hg : ag? P t = some g) (b off : Nat) (val : Nat → Value) (hv : ∀ j, j < n → w.cell? ⟨b, off + j, none⟩ = some (val j)) (h1 : g = false → n = 1) :
    (loadVar t ⟨b, off, none⟩).run P w = .ok (if g then .agg ((List.range n).map val).toArray else val 0) w := by
  unfold loadVar
  rw [Sem.run_bind, run_isAgg hg]
  cases g with
  | true =>
    simp only [Result.andThen, if_true, Sem.run_bind, run_sizeOf hn]
    rw [run_loadCells w ⟨b, off, none⟩ n val (fun j hj => by rw [add_none]; exact hv j hj)]
    simp [Sem.run_pure]
  | false =>
    have := hv 0 (by have := h1 rfl; omega)
    simp only [Nat.add_zero] at this
    simp [Result.andThen, load, Sem.run, this]

theorem load_core (i : Inv G h w) (t : TypeId) {u : Value} {y r : AV} (h1 : ARel G h w u y) {n : Nat} {g : Bool} (hn : sz? P t = some n) (hg : ag? P t = some g) (hl : loadA h n g y = some r) :
    ∃ ad v, u = .pointer (some ad) ∧ (loadVar t ad).run P w = .ok v w ∧ ARel G h w v r := by
    -- a place of memory whose n cells are told
    have main : ∀ (b off : Nat) (val : Nat → Value), u = .pointer (some ⟨b, off, none⟩) → (∀ j, j < n → w.cell? ⟨b, off + j, none⟩ = some (val j)) →
        ∀ (cs : List AV), cs.length = n → (∀ (j : Nat) c, cs[j]? = some c → ARel G h w (val j) c) → wrapA g cs = some r → ∃ ad v, u = .pointer (some ad) ∧ (loadVar t ad).run P w = .ok v w ∧ ARel G h w v r := by
      intro b off val ha hv cs hcs hrel hwr
      have h1' : g = false → n = 1 := by
        intro hg'
        subst hg'
        unfold wrapA at hwr
        simp only [Bool.false_eq_true, if_false] at hwr
        split at hwr
        · simpa using hcs.symm
        · cases hwr
      have hrun := run_loadVar (w := w) hn hg b off val hv h1'
      refine ⟨_, _, ha, hrun, ?_⟩
      · cases g with
        | true =>
          simp only [wrapA, if_true, Option.some.injEq] at hwr
          subst hwr
          refine .agg _ _ (by simp [hcs]) fun j c hj => ?_
          have hlt := (List.getElem?_eq_some_iff.1 hj).1
          have : ((List.range n).map val).toArray.getD j undef = val j := by simp [Array.getD, hcs ▸ hlt]
          simp only [this, if_true] at *
          exact hrel j c hj
        | false =>
          unfold wrapA at hwr
          simp only [Bool.false_eq_true, if_false] at hwr
          split at hwr
          · rename_i c
            simp only [Option.some.injEq] at hwr
            subst hwr
            exact hrel 0 c rfl
          · cases hwr
    have mainD : ∀ (b off : Nat) (val : Nat → Value), u = .pointer (some ⟨b, off, none⟩) → (∀ j, j < n → w.cell? ⟨b, off + j, none⟩ = some (val j)) →
        ∀ (cs : List D), cs.length = n → (∀ (j : Nat) c, cs[j]? = some c → Rel G.St w (val j) c) → ∀ q, wrapD g cs = some q → r = .d q → ∃ ad v, u = .pointer (some ad) ∧ (loadVar t ad).run P w = .ok v w ∧ ARel G h w v r := by
      intro b off val ha hv cs hcs hrel q hwr hq
      subst hq
      have h1' : g = false → n = 1 := by
        intro hg'
        subst hg'
        unfold wrapD at hwr
        simp only [Bool.false_eq_true, if_false] at hwr
        split at hwr
        · simpa using hcs.symm
        · cases hwr
      have hrun := run_loadVar (w := w) hn hg b off val hv h1'
      refine ⟨_, _, ha, hrun, ?_⟩
      · cases g with
        | true =>
          simp only [wrapD, if_true, Option.some.injEq] at hwr
          subst hwr
          refine .d _ _ (.agg _ _ (by simp [hcs]) fun j c hj => ?_)
          have hlt := (List.getElem?_eq_some_iff.1 hj).1
          have : ((List.range n).map val).toArray.getD j undef = val j := by simp [Array.getD, hcs ▸ hlt]
          simp only [this, if_true] at *
          exact hrel j c hj
        | false =>
          unfold wrapD at hwr
          simp only [Bool.false_eq_true, if_false] at hwr
          split at hwr
          · rename_i c
            simp only [Option.some.injEq] at hwr
            subst hwr
            exact .d _ _ (hrel 0 c rfl)
          · cases hwr
    unfold loadA at hl
    split at hl
    · -- a box
      rename_i k v off
      split at hl
      · rename_i hver
        split at hl
        · rename_i cs fz hb
          cases hc : cut off n cs with
          | none => simp [hc] at hl
          | some cs' =>
            simp only [hc, Option.bind_some] at hl
            obtain ⟨hle, hlen, hget⟩ := cut_some hc
            have he := i.ent k
            rw [hb] at he
            obtain ⟨b, arr, el, hA, hheap, hsz, hrel, _⟩ := he
            have hp : u = .pointer (some ⟨b, off, none⟩) := by
              cases h1 with
              | ptr _ _ _ _ hone_ hle' hv =>
                obtain ⟨b', hA', hv'⟩ := hv hver cs fz hb
                rw [hA] at hA'
                simp only [Option.some.injEq, Addr.mk.injEq] at hA'
                rw [hv', hA'.1]
            refine main b off (fun j => arr.getD (off + j) undef) hp (fun j hj => ?_) cs' hlen (fun j c hj => ?_) hl
            · simp only [World.cell?, hheap]
              have : off + j < arr.size := by omega
              simp [Array.getD, this]
            · have hj' := (List.getElem?_eq_some_iff.1 hj).1
              rw [hget j (by omega)] at hj
              exact (hrel _ c hj).1
        · cases hl
      · cases hl
    · -- what is only read
      rename_i cs
      cases hc : cut 0 n cs with
      | none => simp [hc] at hl
      | some cs' =>
        simp only [hc, Option.bind_some] at hl
        cases hq : wrapD g cs' with
        | none => simp [hq] at hl
        | some q =>
          simp only [hq, Option.map_some, Option.some.injEq] at hl
          obtain ⟨hle, hlen, hget⟩ := cut_some hc
          have h2 := h1.d_inv
          cases h2 with
          | rp b off _ hb val hv hone hr =>
            refine mainD b off val rfl (fun j hj => ?_) cs' hlen (fun j c hj => ?_) q hq hl.symm
            · have : j < cs.length := by omega
              exact hv j _ (List.getElem?_eq_getElem this)
            · have hj' := (List.getElem?_eq_some_iff.1 hj).1
              rw [hget j (by omega), Nat.zero_add] at hj
              exact hr j c hj
    · -- an element of an own row
      rename_i k v sz i0 off
      split at hl
      · rename_i hver
        split at hl
        · rename_i sz' xs hb
          split at hl
          · rename_i hsz
            subst hsz
            cases hx : xs[i0]? with
            | none => simp [hx] at hl
            | some y =>
              simp only [hx, Option.bind_some] at hl
              cases hc : cut off n y.cells with
              | none => simp [hc] at hl
              | some cs' =>
                simp only [hc, Option.bind_some] at hl
                cases hq : wrapD g cs' with
                | none => simp [hq] at hl
                | some q =>
                  simp only [hq, Option.map_some, Option.some.injEq] at hl
                  obtain ⟨hle, hlen, hget⟩ := cut_some hc
                  have he := i.ent k
                  rw [hb] at he
                  cases h1 with
                  | eptr _ _ _ _ _ _ hone_ hle' hv =>
                    obtain ⟨hi0, b', hA', hv'⟩ := hv hver _ _ hb
                    rcases he with ⟨z1, _, _⟩ | ⟨b, arr, el, hA, hheap, hsz, hcap, hm, hcs, hrel, _⟩
                    · rw [z1] at hA'; cases hA'
                    rw [hA] at hA'
                    simp only [Option.some.injEq, Addr.mk.injEq, and_true] at hA'
                    subst hA'
                    subst hv'
                    have hyl := hcs y (List.mem_of_getElem? hx)
                    have hin : i0 * sz' + sz' ≤ arr.size := by
                      rw [hsz, ← Nat.succ_mul]
                      exact Nat.mul_le_mul_right _ (by omega)
                    refine mainD b (i0 * sz' + off) (fun j => arr.getD (i0 * sz' + off + j) undef) rfl (fun j hj => ?_) cs' hlen (fun j c hj => ?_) q hq hl.symm
                    · simp only [World.cell?, hheap]
                      have : i0 * sz' + off + j < arr.size := by omega
                      simp [Array.getD, this]
                    · have hj' := (List.getElem?_eq_some_iff.1 hj).1
                      rw [hget j (by omega)] at hj
                      rw [Nat.add_assoc]
                      exact (hrel i0 y hx (off + j) c hj).1
          · cases hl
        · cases hl
      · cases hl
    · cases hl

theorem did_load (i : Inv G h w) (sl : Slots G h w a s) (t : TypeId) (x : Operand) {n : Nat} {g : Bool} (hn : sz? P t = some n) (hg : ag? P t = some g) {av : AV} {h' : Nat → Ent} (dst : Option Nat)
    (hact : act dst ⟨s, h⟩ (.load n g (copd P 0 x)) = some (av, h')) (ho : o.op = .load t x) : Did P G h w ((execOp a.eval o).run P w) av h' := by
  have h1 := copd_ok P sl 0 x
  simp only [act] at hact
  cases hl : loadA h n g ((copd P 0 x).ev s) with
  | none => simp [hl] at hact
  | some r =>
    simp only [hl, Option.map_some, Option.some.injEq, Prod.mk.injEq] at hact
    obtain ⟨rfl, rfl⟩ := hact
    obtain ⟨ad, v, hu, hrun, hr⟩ := load_core (P := P) i t h1 hn hg hl
    exact Did.same i (by simp [execOp, ho, Instr.loadAt, hu, Instr.sureAddr, Sem.run_bind, Sem.run_pure, hrun]) hr

theorem did_nilck (i : Inv G h w) (sl : Slots G h w a s) (x : Operand) {av : AV} {h' : Nat → Ent} (dst : Option Nat) (hact : act dst ⟨s, h⟩ (.nilck (copd P 0 x)) = some (av, h')) (ho : o.op = .nilCheck x) :
    Did P G h w ((execOp a.eval o).run P w) av h' := by
  have h1 := copd_ok P sl 0 x
  simp only [act] at hact
  split at hact
  · rename_i k v off hx
    rw [hx] at h1
    split at hact
    · rename_i hver
      split at hact
      · rename_i cs fz hb
        obtain ⟨rfl, rfl⟩ := by simpa using hact
        generalize hp : a.eval x = u at h1
        have h2 := h1
        cases h2 with
        | ptr _ _ _ _ hone_ hle hv =>
          obtain ⟨b, _, hv'⟩ := hv hver cs fz hb
          subst hv'
          exact Did.same i (by simp [execOp, ho, hp, Sem.run_pure]) h1
      · cases hact
    · cases hact
  · rename_i cs hx
    rw [hx] at h1
    obtain ⟨rfl, rfl⟩ := by simpa using hact
    have h2 := h1.d_inv
    generalize hp : a.eval x = v at h1 h2
    cases h2
    exact Did.same i (by simp [execOp, ho, hp, Sem.run_pure]) h1
  · rename_i f cs hx
    rw [hx] at h1
    obtain ⟨rfl, rfl⟩ := by simpa using hact
    have h2 := h1.d_inv
    generalize hp : a.eval x = v at h1 h2
    cases h2
    exact Did.same i (by simp [execOp, ho, hp, Sem.run_pure]) h1
  · cases hact

theorem did_len (i : Inv G h w) (sl : Slots G h w a s) (t e : TypeId) (ty : TypeId) (x : Operand) (ht : P.underlying t = some (.slice e)) {av : AV} {h' : Nat → Ent} (dst : Option Nat) (hact : act dst ⟨s, h⟩ (.len (copd P t x)) = some (av, h'))
    (ho : o.op = .call { callee := .builtin .len, args := #[x], argTypes := #[t] }) : Did P G h w ((execOp a.eval o).run P w) av h' := by
  have h1 := copd_ok P sl t x
  simp only [act] at hact
  cases hl : elemsA h ((copd P t x).ev s) with
  | none => simp [hl] at hact
  | some p =>
    obtain ⟨sz, xs⟩ := p
    simp only [hl, Option.map_some, Option.some.injEq, Prod.mk.injEq] at hact
    obtain ⟨rfl, rfl⟩ := hact
    have main : ∀ A c, a.eval x = .slice A xs.length c → Did P G h w ((execOp a.eval o).run P w) (.d (.int .i64 xs.length)) h := by
      intro A c ha
      exact Did.same i (by simp [execOp, ho, ha, resolve, invoke, builtin, Builtin.len_, underlying, program, ht, goInt, Sem.run, Sem.run_bind, Sem.run_pure]) (.d _ _ (.int _ _))
    unfold elemsA at hl
    split at hl
    · rename_i hx
      rw [hx] at h1
      simp only [Option.some.injEq, Prod.mk.injEq] at hl
      obtain ⟨rfl, rfl⟩ := hl
      have h2 := h1.d_inv
      generalize hp : a.eval x = v at h2
      cases h2
      exact main _ _ hp
    · rename_i hx
      rw [hx] at h1
      simp only [Option.some.injEq, Prod.mk.injEq] at hl
      obtain ⟨rfl, rfl⟩ := hl
      generalize hp : a.eval x = v at h1
      cases h1 with
      | fsl A n _ _ hr => cases hr; exact main _ _ hp
    · rename_i k v hx
      rw [hx] at h1
      split at hl
      · rename_i hver
        split at hl
        · rename_i szr xsr fz hb
          simp only [Option.some.injEq, Prod.mk.injEq] at hl
          obtain ⟨rfl, rfl⟩ := hl
          generalize hp : a.eval x = u at h1
          cases h1 with
          | rsl _ _ _ hone_ hle hv => exact main _ _ (hp.trans (hv hver _ _ _ hb))
        · cases hl
      · cases hl
    · cases hl

end
end Ev
end Go.Proofs.Ytnkbhmafebngjaa
