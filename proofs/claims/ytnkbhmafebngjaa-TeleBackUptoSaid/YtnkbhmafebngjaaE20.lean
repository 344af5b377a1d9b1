/- How long rows can be; loops that go up to a number. -/
import Derived.Test.YtnkbhmafebngjaaE19
namespace Go.Proofs.Ytnkbhmafebngjaa
namespace Ev
open Go
set_option linter.unusedVariables false

/-- No row is longer than rows can be, so many steps down. -/
def small : Nat → D → Prop
  | 0, _ => True
  | n + 1, .agg cs => ∀ c ∈ cs, small n c
  | n + 1, .sl sz xs => xs.length ≤ 9223372036854775807 ∧ ∀ x ∈ xs, small n x
  | n + 1, .rp cs => ∀ c ∈ cs, small n c
  | n + 1, .clo _ cs => ∀ c ∈ cs, small n c
  | _ + 1, _ => True

theorem Rel.small {St : Nat → Nat} {w : World} {v : Value} {d : D} (h : Rel St w v d) : ∀ n, small n d := by
  induction h with
  | int k n => intro n; cases n <;> trivial
  | bool b => intro n; cases n <;> trivial
  | str s => intro n; cases n <;> trivial
  | nilp => intro n; cases n <;> trivial
  | junk v => intro n; cases n <;> trivial
  | agg vs cs hn _ ih =>
    intro n
    cases n with
    | zero => trivial
    | succ n =>
      intro c hc
      obtain ⟨j, hj⟩ := List.mem_iff_getElem?.1 hc
      exact ih j c hj n
  | sl A cap sz b off xs hc hm hs ha val hv h1 hr ih =>
    intro n
    cases n with
    | zero => trivial
    | succ n =>
      refine ⟨hm, fun x hx => ?_⟩
      obtain ⟨i, hi⟩ := List.mem_iff_getElem?.1 hx
      cases n with
      | zero => trivial
      | succ n =>
        cases x with
        | agg cs =>
          intro c hc
          obtain ⟨j, hj⟩ := List.mem_iff_getElem?.1 hc
          exact ih i _ hi j c hj n
        | _ => exact ih i _ hi 0 _ rfl (n + 1)
  | rp b off cs hb val hv h1 hr ih =>
    intro n
    cases n with
    | zero => trivial
    | succ n =>
      intro c hc
      obtain ⟨j, hj⟩ := List.mem_iff_getElem?.1 hc
      exact ih j c hj n
  | clo f vs cs hn _ ih =>
    intro n
    cases n with
    | zero => trivial
    | succ n =>
      intro c hc
      obtain ⟨j, hj⟩ := List.mem_iff_getElem?.1 hc
      exact ih j c hj n

section
variable {P : Program}
theorem enters_of {f : FuncId} {fn : Func} {x : XFn} (hf : P.funcs[f]? = some fn) (hx : cfn P fn = some x) : Enters P f := by
  unfold cfn at hx
  split at hx
  · rename_i c hb
    split at hx
    · cases hx
    · rename_i hname
      exact ⟨fn, hf, hname, by rw [hb]; rfl⟩
  · cases hx

/-- The contract of a function, where rows are as long as they can be. -/
theorem pure_small {f : FuncId} {fn : Func} {x : XFn} (hm : P.follows .mixedOrders = true) (hf : P.funcs[f]? = some fn) (hx : cfn P fn = some x) {ds rs : List D} (hl : ds.length = x.np)
    (hw : (∀ d ∈ ds, small 8 d) → wpX P x.code (Ends x.res rs) ⟨initS ds, none_⟩) : Pure P f ds rs := by
  by_cases hs : ∀ d ∈ ds, small 8 d
  · exact pure_of hm hf hx hl (hw hs)
  · refine ⟨enters_of hf hx, fun St w vs hst hrel => ?_⟩
    refine (hs fun d hd => ?_).elim
    obtain ⟨j, hj⟩ := List.mem_iff_getElem?.1 hd
    exact (hrel.2 j d hj).small 8

/-- A contract may lean on what any reading of its data gives. -/
theorem Pure.of_small {f : FuncId} {ds rs : List D} (he : Enters P f) (h : (∀ d ∈ ds, small 8 d) → Pure P f ds rs) : Pure P f ds rs := by
  by_cases hs : ∀ d ∈ ds, small 8 d
  · exact h hs
  · refine ⟨he, fun St w vs hst hrel => ?_⟩
    refine (hs fun d hd => ?_).elim
    obtain ⟨j, hj⟩ := List.mem_iff_getElem?.1 hd
    exact (hrel.2 j d hj).small 8

theorem wp_while {a : XCode} {Q : Ex → S → Prop} {st : S} (I : S → Prop) (μ : S → Nat) (h0 : I st) (h : ∀ st, I st → wpX P a (Ex.then (fun st' => I st' ∧ μ st' < μ st) Q) st) : Lp P a Q st (by exact ()) (by exact ()) := ⟨I, μ, h0, h⟩
theorem wpT_mono {K K' : S → Prop} (hk : ∀ st, K st → K' st) : ∀ (os : List XOper) (ds : List (Bool × List Nat)) (i : Nat) (acc : List (Nat × List (Nat × Bool))) (st : S), wpT P os ds i acc st K → wpT P os ds i acc st K'
  | [], _, _, _, st, h => hk st h
  | o :: os, ds, i, acc, st, h => by
    simp only [wpT] at h ⊢
    refine ⟨h.1, ?_⟩
    have h := h.2
    cases hw : wants o st.s with
    | none => rw [hw] at h; exact h
    | some b =>
      rw [hw] at h
      cases b with
      | true =>
        obtain ⟨st', h1, h2⟩ := runX_exists h
        simp only [runX] at h1 ⊢
        cases hop : o.op with
        | call f args =>
          rw [hop] at h1
          obtain ⟨g, caps, rs, h', a1, a2, rfl⟩ := h1
          exact ⟨g, caps, rs, h', a1, a2, wpT_mono hk os _ _ _ _ h2⟩
        | _ =>
          rw [hop] at h1
          obtain ⟨av, h', a1, rfl⟩ := h1
          exact ⟨av, h', a1, wpT_mono hk os _ _ _ _ h2⟩
      | false => exact wpT_mono hk os _ _ _ _ h

theorem wpX_mono {Q Q' : Ex → S → Prop} (hq : ∀ e st, Q e st → Q' e st) : ∀ (x : XCode) (st : S), wpX P x Q st → wpX P x Q' st := by
  intro x
  induction x generalizing Q Q' with
  | skip => intro st h; exact hq _ _ h
  | region ops dr =>
    intro st h
    cases dr with
    | none => exact wpO_mono (fun st h => hq _ _ h) ops st h
    | some ds => exact wpT_mono (fun st h => hq _ _ h) ops ds 0 [] st h
  | seq a b iha ihb =>
    intro st h
    refine iha (fun e st h => ?_) st h
    cases e with
    | normal => exact ihb hq st h
    | exit id => exact hq _ _ h
    | ret => exact hq _ _ h
  | cond c a b iha ihb =>
    intro st h
    simp only [wpX] at h ⊢
    split at h
    · rename_i t ht
      cases t with
      | true => exact iha hq st h
      | false => exact ihb hq st h
    · exact h.elim
  | block id a iha =>
    intro st h
    refine iha (fun e st h => ?_) st h
    cases e with
    | normal => exact hq _ _ h
    | exit id' =>
      simp only [Ex.inBlock] at h ⊢
      split
      · rename_i e; rw [if_pos e] at h; exact hq _ _ h
      · rename_i e; rw [if_neg e] at h; exact hq _ _ h
    | ret => exact hq _ _ h
  | loop a iha =>
    rintro st ⟨I, μ, h0, h⟩
    refine ⟨I, μ, h0, fun st hI => iha (fun e s hs => ?_) st (h st hI)⟩
    cases e with
    | normal => exact hs
    | exit id => exact hq _ _ hs
    | ret => exact hq _ _ hs
  | exit id => intro st h; exact hq _ _ h
  | ret => intro st h; exact hq _ _ h

/-- A loop that goes up to a number. -/
theorem wp_upto {a : XCode} {Q : Ex → S → Prop} {st : S} (n : Nat) (I : Nat → S → Prop) (h0 : I 0 st) (h : ∀ i st, i ≤ n → I i st → wpX P a (Ex.then (fun st' => i < n ∧ I (i + 1) st') Q) st) : Lp P a Q st (by exact ()) (by exact ()) := by
  let p : S → Nat → Prop := fun st m => ∃ i, i ≤ n ∧ I i st ∧ m = n - i
  refine wp_loopX (fun st => ∃ i, i ≤ n ∧ I i st) (fun st => lst (p st)) ⟨0, Nat.zero_le _, h0⟩ ?_
  rintro st ⟨i, hi, hI⟩
  have hex : ∃ m, p st m := ⟨n - i, i, hi, hI, rfl⟩
  obtain ⟨⟨j, hj, hIj, e⟩, _⟩ := lst_spec hex
  refine wpX_mono (fun ex s hq => ?_) _ _ (h j st hj hIj)
  cases ex with
  | normal =>
    obtain ⟨hlt, hn⟩ := hq
    refine ⟨⟨j + 1, hlt, hn⟩, ?_⟩
    have := (lst_spec (p := p s) ⟨n - (j + 1), j + 1, hlt, hn, rfl⟩).2 (n - (j + 1)) ⟨j + 1, hlt, hn, rfl⟩
    rw [e]
    omega
  | exit id => exact hq
  | ret => exact hq
end

section
theorem avc_d (x : D) : (AV.d x).cells = x.cells.map .d := rfl
theorem avc_agg (cs : List AV) : (AV.agg cs).cells = cs := rfl
theorem avc_fsl (sz : Nat) (xs : List D) : (AV.fsl sz xs).cells = [.fsl sz xs] := rfl
theorem avc_rsl (k v : Nat) : (AV.rsl k v).cells = [.rsl k v] := rfl
theorem avc_ptr (k v o : Nat) : (AV.ptr k v o).cells = [.ptr k v o] := rfl
theorem avc_eptr (k v sz i o : Nat) : (AV.eptr k v sz i o).cells = [.eptr k v sz i o] := rfl
theorem avc_clo (f : FuncId) (cs : List AV) : (AV.clo f cs).cells = [.clo f cs] := rfl
theorem dc_agg (cs : List D) : (D.agg cs).cells = cs := rfl
theorem dc_int (k : IntKind) (n : Int) : (D.int k n).cells = [.int k n] := rfl
theorem dc_bool (b : Bool) : (D.bool b).cells = [.bool b] := rfl
theorem dc_str (s : ByteArray) : (D.str s).cells = [.str s] := rfl
theorem dc_sl (sz : Nat) (xs : List D) : (D.sl sz xs).cells = [.sl sz xs] := rfl
theorem dc_nilp : D.nilp.cells = [.nilp] := rfl
theorem dc_rp (cs : List D) : (D.rp cs).cells = [.rp cs] := rfl
theorem dc_clo (f : FuncId) (cs : List D) : (D.clo f cs).cells = [.clo f cs] := rfl
theorem on_int (k : IntKind) (n : Int) : (AV.d (.int k n)).one = true := rfl
theorem on_bool (b : Bool) : (AV.d (.bool b)).one = true := rfl
theorem on_str (s : ByteArray) : (AV.d (.str s)).one = true := rfl
theorem on_sl (sz : Nat) (xs : List D) : (AV.d (.sl sz xs)).one = true := rfl
theorem on_nilp : (AV.d .nilp).one = true := rfl
theorem on_rp (cs : List D) : (AV.d (.rp cs)).one = true := rfl
theorem on_clo (f : FuncId) (cs : List D) : (AV.d (.clo f cs)).one = true := rfl
theorem on_fsl (sz : Nat) (xs : List D) : (AV.fsl sz xs).one = true := rfl
theorem on_rsl (k v : Nat) : (AV.rsl k v).one = true := rfl
theorem on_ptr (k v o : Nat) : (AV.ptr k v o).one = true := rfl
theorem on_eptr (k v sz i o : Nat) : (AV.eptr k v sz i o).one = true := rfl
theorem on_cloA (f : FuncId) (cs : List AV) : (AV.clo f cs).one = true := rfl
end
theorem int_add (k : IntKind) (x y : Int) : intD .add k x y = some (.int k (k.wrap (x + y))) := rfl
theorem int_sub (k : IntKind) (x y : Int) : intD .sub k x y = some (.int k (k.wrap (x - y))) := rfl
theorem int_mul (k : IntKind) (x y : Int) : intD .mul k x y = some (.int k (k.wrap (x * y))) := rfl
theorem int_quo (k : IntKind) (x y : Int) : intD .quo k x y = if y = 0 then none else some (.int k (k.wrap (x.tdiv y))) := rfl
theorem int_rem (k : IntKind) (x y : Int) : intD .rem k x y = if y = 0 then none else some (.int k (x.tmod y)) := rfl
theorem int_or (k : IntKind) (x y : Int) : intD .or k x y = some (.int k (k.wrap (BitVec.ofInt k.bits x ||| BitVec.ofInt k.bits y).toNat)) := rfl
theorem int_eql (k : IntKind) (x y : Int) : intD .eql k x y = some (.bool (decide (x = y))) := by
  simp only [intD]; by_cases h : x = y <;> simp [h]
theorem int_neq (k : IntKind) (x y : Int) : intD .neq k x y = some (.bool (!decide (x = y))) := by
  simp only [intD]; by_cases h : x = y <;> simp [h]
theorem int_lss (k : IntKind) (x y : Int) : intD .lss k x y = some (.bool (decide (x < y))) := rfl
theorem int_leq (k : IntKind) (x y : Int) : intD .leq k x y = some (.bool (decide (x ≤ y))) := rfl
theorem int_gtr (k : IntKind) (x y : Int) : intD .gtr k x y = some (.bool (decide (y < x))) := rfl
theorem int_geq (k : IntKind) (x y : Int) : intD .geq k x y = some (.bool (decide (y ≤ x))) := rfl
theorem lk_hit {α : Type} (a : Nat) (v : α) (es : List (Nat × α)) : List.lookup a ((a, v) :: es) = some v := by simp [List.lookup]
theorem lk_miss {α : Type} {a b : Nat} (v : α) (es : List (Nat × α)) (h : a ≠ b) : List.lookup a ((b, v) :: es) = List.lookup a es := by
  have : (a == b) = false := by simpa using h
  simp [List.lookup, this]
section
variable (h : Nat → Ent) (cs : List AV) (f : FuncId) (k v off : Nat)
theorem toD6_agg : toD h 6 (.agg cs) = (allD (toD h 5) cs).map .agg := rfl
theorem toD5_agg : toD h 5 (.agg cs) = (allD (toD h 4) cs).map .agg := rfl
theorem toD4_agg : toD h 4 (.agg cs) = (allD (toD h 3) cs).map .agg := rfl
theorem toD6_clo : toD h 6 (.clo f cs) = (allD (toD h 5) cs).map (.clo f) := rfl
theorem toD5_clo : toD h 5 (.clo f cs) = (allD (toD h 4) cs).map (.clo f) := rfl
theorem toD4_clo : toD h 4 (.clo f cs) = (allD (toD h 3) cs).map (.clo f) := rfl
theorem toD6_ptr : toD h 6 (.ptr k v off) = if v = (h k).ver then (match (h k).body with | .box cs _ => if off ≤ cs.length then (allD (toD h 5) (cs.drop off)).map .rp else none | _ => none) else none := rfl
theorem toD5_ptr : toD h 5 (.ptr k v off) = if v = (h k).ver then (match (h k).body with | .box cs _ => if off ≤ cs.length then (allD (toD h 4) (cs.drop off)).map .rp else none | _ => none) else none := rfl
theorem toD4_ptr : toD h 4 (.ptr k v off) = if v = (h k).ver then (match (h k).body with | .box cs _ => if off ≤ cs.length then (allD (toD h 3) (cs.drop off)).map .rp else none | _ => none) else none := rfl
theorem sk6_agg : sk h 6 (.agg cs) = cs.flatMap (sk h 5) := rfl
theorem sk5_agg : sk h 5 (.agg cs) = cs.flatMap (sk h 4) := rfl
theorem sk4_agg : sk h 4 (.agg cs) = cs.flatMap (sk h 3) := rfl
theorem sk6_clo : sk h 6 (.clo f cs) = cs.flatMap (sk h 5) := rfl
theorem sk5_clo : sk h 5 (.clo f cs) = cs.flatMap (sk h 4) := rfl
theorem sk4_clo : sk h 4 (.clo f cs) = cs.flatMap (sk h 3) := rfl
theorem sk6_ptr : sk h 6 (.ptr k v off) = k :: (match (h k).body with | .box cs _ => cs.flatMap (sk h 5) | _ => []) := rfl
theorem sk5_ptr : sk h 5 (.ptr k v off) = k :: (match (h k).body with | .box cs _ => cs.flatMap (sk h 4) | _ => []) := rfl
theorem sk4_ptr : sk h 4 (.ptr k v off) = k :: (match (h k).body with | .box cs _ => cs.flatMap (sk h 3) | _ => []) := rfl
end

theorem wrap_eq (n : Int) : IntKind.i64.wrap n = if 9223372036854775808 ≤ n % 18446744073709551616 then n % 18446744073709551616 - 18446744073709551616 else n % 18446744073709551616 := by
  simp [IntKind.wrap, IntKind.bits, IntKind.signed]
theorem wrap_id {n : Int} (h1 : -9223372036854775808 ≤ n) (h2 : n ≤ 9223372036854775807) : IntKind.i64.wrap n = n := by
  rw [wrap_eq]; split <;> omega
theorem wrap_lo (n : Int) : -9223372036854775808 ≤ IntKind.i64.wrap n ∧ IntKind.i64.wrap n ≤ 9223372036854775807 := by
  rw [wrap_eq]; split <;> omega
end Ev
end Go.Proofs.Ytnkbhmafebngjaa
