/- Rules by which a proof steps through code told in the small language. -/
import Derived.Test.YtnkbhmafebngjaaE15
namespace Go.Proofs.Ytnkbhmafebngjaa
namespace Ev
open Go
set_option linter.unusedVariables false

def runA (r : Option (AV × (Nat → Ent))) (s : Nat → AV) (dst : Option Nat) (K : S → Prop) : Prop := match r with
  | some p => K ⟨putS s dst p.1, p.2⟩
  | none => False

theorem runA_iff {r : Option (AV × (Nat → Ent))} {s : Nat → AV} {dst : Option Nat} {K : S → Prop} : (∃ av h', r = some (av, h') ∧ K ⟨putS s dst av, h'⟩) = runA r s dst K := by
  apply propext
  constructor
  · rintro ⟨av, h', rfl, hk⟩
    exact hk
  · intro h
    unfold runA at h
    split at h
    · exact ⟨_, _, rfl, h⟩
    · exact h.elim

section
variable {P : Program} {dst : Option Nat} {g : Option (Nat × Bool)} {st : S} {K : S → Prop}
theorem run_mv (x : Opd) : runX P ⟨dst, .mv x, g⟩ st K = runA (act dst st (.mv x)) st.s dst K := runA_iff
theorem run_nilrow (sz : Nat) : runX P ⟨dst, .nilrow sz, g⟩ st K = runA (act dst st (.nilrow sz)) st.s dst K := runA_iff
theorem run_pick (c a b : Opd) : runX P ⟨dst, .pick c a b, g⟩ st K = runA (act dst st (.pick c a b)) st.s dst K := runA_iff
theorem run_alloc (cs : List AV) : runX P ⟨dst, .alloc cs, g⟩ st K = runA (act dst st (.alloc cs)) st.s dst K := runA_iff
theorem run_box (x : Opd) : runX P ⟨dst, .box x, g⟩ st K = runA (act dst st (.box x)) st.s dst K := runA_iff
theorem run_load (n : Nat) (ag : Bool) (a : Opd) : runX P ⟨dst, .load n ag a, g⟩ st K = runA (act dst st (.load n ag a)) st.s dst K := runA_iff
theorem run_store (n : Nat) (a x : Opd) : runX P ⟨dst, .store n a x, g⟩ st K = runA (act dst st (.store n a x)) st.s dst K := runA_iff
theorem run_nilck (x : Opd) : runX P ⟨dst, .nilck x, g⟩ st K = runA (act dst st (.nilck x)) st.s dst K := runA_iff
theorem run_bin (op : BinOp) (x y : Opd) : runX P ⟨dst, .bin op x y, g⟩ st K = runA (act dst st (.bin op x y)) st.s dst K := runA_iff
theorem run_binb (op : BinOp) (x y : Opd) : runX P ⟨dst, .binb op x y, g⟩ st K = runA (act dst st (.binb op x y)) st.s dst K := runA_iff
theorem run_un (op : UnOp) (x : Opd) : runX P ⟨dst, .un op x, g⟩ st K = runA (act dst st (.un op x)) st.s dst K := runA_iff
theorem run_conv (k : IntKind) (x : Opd) : runX P ⟨dst, .conv k x, g⟩ st K = runA (act dst st (.conv k x)) st.s dst K := runA_iff
theorem run_mkf (f : FuncId) (cs : List Opd) : runX P ⟨dst, .mkf f cs, g⟩ st K = runA (act dst st (.mkf f cs)) st.s dst K := runA_iff
theorem run_mks (z : D) (sz b : Nat) (x : Opd) : runX P ⟨dst, .mks z sz b x, g⟩ st K = runA (act dst st (.mks z sz b x)) st.s dst K := runA_iff
theorem run_slice (n : Nat) (x : Opd) (lo hi : Option Opd) : runX P ⟨dst, .slice n x lo hi, g⟩ st K = runA (act dst st (.slice n x lo hi)) st.s dst K := runA_iff
theorem run_faddr (o : Nat) (x : Opd) : runX P ⟨dst, .faddr o x, g⟩ st K = runA (act dst st (.faddr o x)) st.s dst K := runA_iff
theorem run_fld (o n : Nat) (ag : Bool) (x : Opd) : runX P ⟨dst, .fld o n ag x, g⟩ st K = runA (act dst st (.fld o n ag x)) st.s dst K := runA_iff
theorem run_iaddr (n : Nat) (x i : Opd) : runX P ⟨dst, .iaddr n x i, g⟩ st K = runA (act dst st (.iaddr n x i)) st.s dst K := runA_iff
theorem run_ext (x : Opd) (i : Nat) : runX P ⟨dst, .ext x i, g⟩ st K = runA (act dst st (.ext x i)) st.s dst K := runA_iff
theorem run_len (x : Opd) : runX P ⟨dst, .len x, g⟩ st K = runA (act dst st (.len x)) st.s dst K := runA_iff
theorem run_app (s b : Nat) (x y : Opd) : runX P ⟨dst, .app s b x y, g⟩ st K = runA (act dst st (.app s b x y)) st.s dst K := runA_iff
theorem run_mm (mx : Bool) (x y : Opd) : runX P ⟨dst, .mm mx x y, g⟩ st K = runA (act dst st (.mm mx x y)) st.s dst K := runA_iff
theorem run_build (z : List AV) (ps : List (Nat × Nat × Opd)) : runX P ⟨dst, .build z ps, g⟩ st K = runA (act dst st (.build z ps)) st.s dst K := runA_iff
theorem run_bslice (z : D) (s n : Nat) (ps : List (Nat × Opd)) : runX P ⟨dst, .bslice z s n ps, g⟩ st K = runA (act dst st (.bslice z s n ps)) st.s dst K := runA_iff
end

/-- A call: what its callee is known to come to. -/
theorem run_call {P : Program} {dst : Option Nat} {g : Option (Nat × Bool)} {st : S} {K : S → Prop} {f : Opd} {args : List Opd} {fn : FuncId} {caps : List AV} {ds rs : List D} (h1 : callee (f.ev st.s) = some (fn, caps)) (h2 : allD (toD st.h deep) (args.map (·.ev st.s) ++ caps) = some ds) (h3 : Pure P fn ds rs)
    (hk : K ⟨putS st.s dst (resA rs), frz st.h ((args.map (·.ev st.s) ++ caps).flatMap (sk st.h deep))⟩) : runX P ⟨dst, .call f args, g⟩ st K := ⟨fn, caps, rs, _, h1, .inl ⟨ds, h2, h3, rfl⟩, hk⟩

/-- A loop: what holds at each round's head, and what each round makes smaller. -/
theorem wp_loopX {P : Program} {a : XCode} {Q : Ex → S → Prop} {st : S} (I : S → Prop) (μ : S → Nat) (h0 : I st) (h : ∀ st, I st → wpX P a (Ex.then (fun st' => I st' ∧ μ st' < μ st) Q) st) : wpX P (.loop a) Q st := ⟨I, μ, h0, h⟩
theorem frz_nil (h : Nat → Ent) : frz h [] = h := by funext k; simp [frz]
end Ev
end Go.Proofs.Ytnkbhmafebngjaa
