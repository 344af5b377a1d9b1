/- What an operation hangs on: the places that it looks at, the boxes and rows that it touches. -/
import Derived.Test.YtnkbhmafebngjaaE11
namespace Go.Proofs.Ytnkbhmafebngjaa
namespace Ev
open Go
set_option linter.unusedVariables false
set_option linter.unusedSimpArgs false

def key1 : AV → List Nat
  | .ptr k _ _ => [k]
  | .eptr k _ _ _ _ => [k]
  | .rsl k _ => [k]
  | _ => []

def rd (ks : List Nat) : List (Nat × Bool) := ks.map fun k => (k, false)
def wr (ks : List Nat) : List (Nat × Bool) := ks.map fun k => (k, true)

/-- The boxes and rows that an operation reads, and those that it changes. -/
def touchOp (dst : Option Nat) (st : S) : XOp → List (Nat × Bool)
  | .nilrow _ | .alloc _ | .box _ | .mks _ _ _ _ => wr dst.toList
  | .load _ _ a | .nilck a | .faddr _ a | .len a => rd (key1 (a.ev st.s))
  | .store _ a x => wr (key1 (a.ev st.s) ++ sk st.h deep (x.ev st.s))
  | .slice _ x _ _ => wr (sk st.h deep (x.ev st.s))
  | .iaddr _ x _ => rd (key1 (x.ev st.s))
  | .app _ _ x y => wr ((match x.ev st.s with | .rsl k _ => [k] | _ => dst.toList)) ++ rd (key1 (y.ev st.s))
  | .bslice _ _ _ ps => wr (partsK st.h st.s ps)
  | .call f args => wr ((args.map (·.ev st.s) ++ (match callee (f.ev st.s) with | some (_, caps) => caps | none => [])).flatMap (sk st.h deep))
  | _ => []

def touch (o : XOper) (st : S) : List (Nat × Bool) := match wants o st.s with
  | some true => touchOp o.dst st o.op
  | _ => []

def stepX (P : Program) (o : XOper) (st st' : S) : Prop := match wants o st.s with
  | some true => runX P o st (· = st')
  | some false => st' = ⟨putS st.s o.dst .skip, st.h⟩
  | none => False

theorem sk_local {h h2 : Nat → Ent} : ∀ (n : Nat) (av : AV), (∀ k ∈ sk h n av, h2 k = h k) → toD h2 n av = toD h n av ∧ sk h2 n av = sk h n av
  | 0, av, hk => by
    cases av with
    | rsl k v => rw [toD_rsl, toD_rsl, sk_rsl, sk_rsl, hk k (by simp [sk_rsl])]; exact ⟨rfl, rfl⟩
    | _ => exact ⟨rfl, rfl⟩
  | n + 1, av, hk => by
    have hall : ∀ as : List AV, (∀ a ∈ as, ∀ k ∈ sk h n a, h2 k = h k) → allD (toD h2 n) as = allD (toD h n) as ∧ as.flatMap (sk h2 n) = as.flatMap (sk h n) := by
      intro as has
      induction as with
      | nil => exact ⟨rfl, rfl⟩
      | cons a as ih =>
        have h1 := sk_local n a (has a (by simp))
        have h3 := ih fun b hb => has b (by simp [hb])
        exact ⟨by simp only [allD, h1.1, h3.1], by simp only [List.flatMap_cons, h1.2, h3.2]⟩
    cases av with
    | rsl k v => rw [toD_rsl, toD_rsl, sk_rsl, sk_rsl, hk k (by simp [sk_rsl])]; exact ⟨rfl, rfl⟩
    | ptr k v off =>
      have hk0 := hk k (by simp [sk])
      simp only [toD, sk, hk0]
      cases hb : (h k).body with
      | box cs fz =>
        have h1 := hall cs fun a ha q hq => hk q (by simp only [sk, hb, List.mem_cons, List.mem_flatMap]; exact .inr ⟨a, ha, hq⟩)
        have h2' := hall (cs.drop off) fun a ha q hq => hk q (by simp only [sk, hb, List.mem_cons, List.mem_flatMap]; exact .inr ⟨a, List.mem_of_mem_drop ha, hq⟩)
        simp only [h1.2, h2'.1, and_self]
      | dead => exact ⟨rfl, rfl⟩
      | row _ _ _ => exact ⟨rfl, rfl⟩
    | clo f caps =>
      have h1 := hall caps fun a ha q hq => hk q (by simp only [sk, List.mem_flatMap]; exact ⟨a, ha, hq⟩)
      simp only [toD, sk, h1.1, h1.2, and_self]
    | agg cs =>
      have h1 := hall cs fun a ha q hq => hk q (by simp only [sk, List.mem_flatMap]; exact ⟨a, ha, hq⟩)
      simp only [toD, sk, h1.1, h1.2, and_self]
    | _ => exact ⟨rfl, rfl⟩

theorem skl_local {h h2 : Nat → Ent} {n : Nat} : ∀ as : List AV, (∀ k ∈ as.flatMap (sk h n), h2 k = h k) → allD (toD h2 n) as = allD (toD h n) as ∧ as.flatMap (sk h2 n) = as.flatMap (sk h n)
  | [], _ => ⟨rfl, rfl⟩
  | a :: as, hk => by
    have h1 := sk_local n a fun k hk' => hk k (by simp [hk'])
    have h3 := skl_local as fun k hk' => hk k (by simp only [List.flatMap_cons, List.mem_append]; exact .inr hk')
    exact ⟨by simp only [allD, h1.1, h3.1], by simp only [List.flatMap_cons, h1.2, h3.2]⟩

/-- The one heap, changed at some keys as the other one. -/
def merge (ks : List (Nat × Bool)) (h' h2 : Nat → Ent) : Nat → Ent := fun k => if (k, true) ∈ ks then h' k else h2 k

theorem merge_nil {ks : List (Nat × Bool)} (h' h2 : Nat → Ent) (hk : ∀ k, (k, true) ∉ ks) : merge ks h' h2 = h2 := by
  funext k
  simp [merge, hk k]

theorem mem_rd (ks : List Nat) (k : Nat) : (k, true) ∉ rd ks := by simp [rd]
theorem mem_wr (ks : List Nat) (k : Nat) : (k, true) ∈ wr ks ↔ k ∈ ks := by simp [wr]

theorem frz_at (h : Nat → Ent) (ks : List Nat) (k : Nat) : frz h ks k = if k ∈ ks then { h k with body := (h k).body.frz } else h k := rfl

theorem opd_local {s s2 : Nat → AV} {x : Opd} (hx : ∀ i ∈ opdL x, s2 i = s i) : x.ev s2 = x.ev s := by
  cases x with
  | t i => exact hx i (by simp [opdL])
  | c v => rfl

theorem opt_local {s s2 : Nat → AV} {x : Option Opd} (hx : ∀ i ∈ optL x, s2 i = s i) : x.map (·.ev s2) = x.map (·.ev s) := by
  cases x with
  | none => rfl
  | some y => simp only [Option.map_some]; rw [opd_local hx]

theorem opds_local {s s2 : Nat → AV} : ∀ xs : List Opd, (∀ i ∈ xs.flatMap opdL, s2 i = s i) → xs.map (·.ev s2) = xs.map (·.ev s)
  | [], _ => rfl
  | x :: xs, hx => by
    simp only [List.map_cons]
    rw [opd_local fun i hi => hx i (by simp [hi]), opds_local xs fun i hi => hx i (by simp only [List.flatMap_cons, List.mem_append]; exact .inr hi)]

theorem build_local {h : Nat → Ent} {h2 : Nat → Ent} {s s2 : Nat → AV} : ∀ (ps : List (Nat × Nat × Opd)) (z : List AV), (∀ i ∈ ps.flatMap fun p => opdL p.2.2, s2 i = s i) → buildA h2 s2 z ps = buildA h s z ps
  | [], z, _ => rfl
  | (o, n, x) :: ps, z, hx => by
    have e := opd_local (x := x) fun i hi => hx i (by simp [hi])
    simp only [buildA, e]
    rw [build_local ps _ fun i hi => hx i (by simp only [List.flatMap_cons, List.mem_append]; exact .inr hi)]

theorem parts_local {h h2 : Nat → Ent} {s s2 : Nat → AV} {size : Nat} : ∀ (ps : List (Nat × Opd)) (xs : List D), (∀ i ∈ ps.flatMap fun p => opdL p.2, s2 i = s i) → (∀ k ∈ partsK h s ps, h2 k = h k) → partsD h2 s2 size xs ps = partsD h s size xs ps ∧ partsK h2 s2 ps = partsK h s ps
  | [], xs, _, _ => ⟨rfl, rfl⟩
  | (n, x) :: ps, xs, hx, hk => by
    have e := opd_local (x := x) fun i hi => hx i (by simp [hi])
    have h1 := sk_local deep (x.ev s) fun k hk' => hk k (by simp [partsK, hk'])
    have h3 := fun ys => parts_local (h := h) (h2 := h2) (size := size) ps ys (fun i hi => hx i (by simp only [List.flatMap_cons, List.mem_append]; exact .inr hi)) fun k hk' => hk k (by simp [partsK, hk'])
    simp only [partsD, partsK, e, h1.1, h1.2, (h3 xs).2, true_and]
    refine ⟨?_, trivial⟩
    cases toD h deep (x.ev s) with
    | none => rfl
    | some y => simp only [(h3 _).1]

theorem elems_local {h h2 : Nat → Ent} (av : AV) (hk : ∀ k ∈ key1 av, h2 k = h k) : elemsA h2 av = elemsA h av ∧ elemsS h2 av = elemsS h av := by
  cases av with
  | rsl k v => simp only [elemsA, elemsS, hk k (by simp [key1]), and_self]
  | d x => cases x <;> exact ⟨rfl, rfl⟩
  | _ => exact ⟨rfl, rfl⟩

theorem merge_frz {h h' h2 : Nat → Ent} {ks : List Nat} (hh : ∀ k ∈ ks, h2 k = h k) : frz h2 ks = merge (wr ks) (frz h ks) h2 := by
  funext k
  simp only [merge, mem_wr, frz_at]
  by_cases hk : k ∈ ks
  · simp [hk, hh k hk]
  · simp [hk]

theorem merge_new {h h2 : Nat → Ent} {k : Nat} {b : Body} (hk : h2 k = h k) : newE h2 k b = merge (wr [k]) (newE h k b) h2 := by
  funext q
  simp only [merge, mem_wr, List.mem_singleton, newE, upd, hk]
  split <;> rfl

theorem act_local (dst : Option Nat) (st st2 : S) (x : XOp) (hs : ∀ i ∈ looksOp x, st2.s i = st.s i) (hh : ∀ k b, (k, b) ∈ touchOp dst st x → st2.h k = st.h k) {av : AV} {h' : Nat → Ent} (hact : act dst st x = some (av, h')) :
    act dst st2 x = some (av, merge (touchOp dst st x) h' st2.h) ∧ ∀ k, (k, true) ∉ touchOp dst st x → h' k = st.h k := by
  -- operations that leave the heap alone and ask it nothing
  have calm : touchOp dst st x = [] → act dst st2 x = some (av, st2.h) → h' = st.h → act dst st2 x = some (av, merge (touchOp dst st x) h' st2.h) ∧ ∀ k, (k, true) ∉ touchOp dst st x → h' k = st.h k := by
    intro ht ha he
    rw [ht, merge_nil _ _ (by simp)]
    exact ⟨ha, fun k _ => by rw [he]⟩
  have reads : ∀ ks, touchOp dst st x = rd ks → act dst st2 x = some (av, st2.h) → h' = st.h → act dst st2 x = some (av, merge (touchOp dst st x) h' st2.h) ∧ ∀ k, (k, true) ∉ touchOp dst st x → h' k = st.h k := by
    intro ks ht ha he
    rw [ht, merge_nil _ _ (mem_rd ks)]
    exact ⟨ha, fun k _ => by rw [he]⟩
  cases x with
  | mv y =>
    have e := opd_local (x := y) hs
    simp only [act, Option.some.injEq, Prod.mk.injEq] at hact
    exact calm rfl (by simp only [act, e, hact.1]) hact.2.symm
  | nilrow sz =>
    simp only [act] at hact
    cases dst with
    | none => simp at hact
    | some k =>
      have hk := hh k true (by simp [touchOp, wr])
      simp only [Option.bind_some, Option.some.injEq, Prod.mk.injEq] at hact
      obtain ⟨rfl, rfl⟩ := hact
      refine ⟨?_, fun q hq => ?_⟩
      · simp only [act, Option.bind_some, hk, touchOp, Option.toList_some]
        rw [merge_new hk]
      · simp only [touchOp, Option.toList_some, mem_wr, List.mem_singleton] at hq
        simp [newE, upd, hq]
  | pick c a b =>
    have e1 := opd_local (x := c) fun i hi => hs i (by simp [looksOp, hi])
    have e2 := opd_local (x := a) fun i hi => hs i (by simp [looksOp, hi])
    have e3 := opd_local (x := b) fun i hi => hs i (by simp [looksOp, hi])
    simp only [act] at hact
    split at hact
    · rename_i t ht
      simp only [Option.some.injEq, Prod.mk.injEq] at hact
      exact calm rfl (by simp only [act, e1, e2, e3, ht, hact.1]) hact.2.symm
    · cases hact
  | alloc cs =>
    simp only [act] at hact
    cases dst with
    | none => simp at hact
    | some k =>
      have hk := hh k true (by simp [touchOp, wr])
      simp only [Option.bind_some, Option.some.injEq, Prod.mk.injEq] at hact
      obtain ⟨rfl, rfl⟩ := hact
      refine ⟨?_, fun q hq => ?_⟩
      · simp only [act, Option.bind_some, hk, touchOp, Option.toList_some]
        rw [merge_new hk]
      · simp only [touchOp, Option.toList_some, mem_wr, List.mem_singleton] at hq
        simp [newE, upd, hq]
  | box y =>
    have e := opd_local (x := y) hs
    simp only [act] at hact
    cases dst with
    | none => simp at hact
    | some k =>
      have hk := hh k true (by simp [touchOp, wr])
      simp only [Option.bind_some] at hact
      split at hact
      · rename_i h1
        simp only [Option.some.injEq, Prod.mk.injEq] at hact
        obtain ⟨rfl, rfl⟩ := hact
        refine ⟨?_, fun q hq => ?_⟩
        · simp only [act, Option.bind_some, hk, e, h1, if_true, touchOp, Option.toList_some]
          rw [merge_new hk]
        · simp only [touchOp, Option.toList_some, mem_wr, List.mem_singleton] at hq
          simp [newE, upd, hq]
      · cases hact
  | load n ag a =>
    have e := opd_local (x := a) hs
    simp only [act] at hact
    obtain ⟨v, hv, he⟩ := map_some hact
    simp only [Prod.mk.injEq] at he
    obtain ⟨rfl, rfl⟩ := he
    refine reads _ rfl ?_ rfl
    have : loadA st2.h n ag (a.ev st.s) = loadA st.h n ag (a.ev st.s) := by
      generalize hav : a.ev st.s = y
      cases y with
      | ptr k v off => simp only [loadA, hh k false (by simp [touchOp, hav, key1, rd])]
      | eptr k v sz i off => simp only [loadA, hh k false (by simp [touchOp, hav, key1, rd])]
      | d z => cases z <;> rfl
      | _ => rfl
    simp only [act, e, this, hv, Option.map_some]
  | store n a y =>
    have e1 := opd_local (x := a) fun i hi => hs i (by simp [looksOp, hi])
    have e2 := opd_local (x := y) fun i hi => hs i (by simp [looksOp, hi])
    simp only [act] at hact
    obtain ⟨r, hv, he⟩ := map_some hact
    simp only [Prod.mk.injEq] at he
    obtain ⟨rfl, rfl⟩ := he
    have hsk := sk_local (h2 := st2.h) deep (y.ev st.s) fun k hk => hh k true (by simp [touchOp, mem_wr, hk])
    have hkk : ∀ k ∈ key1 (a.ev st.s), st2.h k = st.h k := fun k hk => hh k true (by simp [touchOp, mem_wr, hk])
    have hmem : ∀ k, (k, true) ∈ touchOp dst st (.store n a y) ↔ k ∈ key1 (a.ev st.s) ∨ k ∈ sk st.h deep (y.ev st.s) := by
      intro k; simp [touchOp, mem_wr]
    generalize ha : a.ev st.s = av at hv hkk hmem
    generalize hy : y.ev st.s = yv at hv hsk hmem
    have goal2 : ∀ r2, storeA st2.h n av yv = some r2 → (∀ k, r2 k = if k ∈ key1 av ∨ k ∈ sk st.h deep yv then r k else st2.h k) → act dst st2 (.store n a y) = some (.skip, merge (touchOp dst st (.store n a y)) r st2.h) := by
      intro r2 h2 h3
      simp only [act, e1, e2, ha, hy, h2, Option.map_some]
      congr 2
      funext k
      rw [h3 k]
      simp only [merge, hmem]
    unfold storeA at hv
    split at hv
    · rename_i k v off
      have hk0 := hkk k (by simp [key1])
      split at hv
      · rename_i hver
        split at hv
        · rename_i cs hb
          split at hv
          · rename_i hc
            simp only [Option.some.injEq] at hv
            subst hv
            refine ⟨goal2 (upd st2.h k ⟨v, .box (put off yv.cells cs) false⟩) ?_ ?_, fun q hq => ?_⟩
            · simp only [storeA, hk0, hver, if_true, hb]
              rw [if_pos hc]
            · intro q
              simp only [key1, List.mem_singleton, upd]
              by_cases hqk : q = k
              · simp [hqk]
              · by_cases hqs : q ∈ sk st.h deep yv
                · simp only [hqk, hqs, false_or, if_true, if_false]
                  exact hh q true ((hmem q).2 (.inr hqs))
                · simp [hqk, hqs]
            · simp only [hmem, key1, List.mem_singleton, not_or] at hq
              simp [upd, hq.1]
          · cases hv
        · cases hv
      · cases hv
    · rename_i k v sz p off
      have hk0 := hkk k (by simp [key1])
      split at hv
      · rename_i hver
        split at hv
        · rename_i sz' xs hb
          split at hv
          · rename_i z hz
            split at hv
            · rename_i hc
              simp only [Option.some.injEq] at hv
              subst hv
              refine ⟨goal2 (upd (frz st2.h (sk st.h deep yv)) k ⟨v, .row sz (xs.set p z) false⟩) ?_ ?_, fun q hq => ?_⟩
              · simp only [storeA, hk0, hver, if_true, hb, hsk.1, hsk.2, hz]
                rw [if_pos hc]
              · intro q
                simp only [key1, List.mem_singleton, upd, frz_at]
                by_cases hqk : q = k
                · simp [hqk]
                · by_cases hqs : q ∈ sk st.h deep yv
                  · simp only [hqk, hqs, false_or, if_true, if_false]
                    rw [hh q true ((hmem q).2 (.inr hqs))]
                  · simp [hqk, hqs]
              · simp only [hmem, key1, List.mem_singleton, not_or] at hq
                simp [upd, frz_at, hq.1, hq.2]
            · cases hv
          · cases hv
        · cases hv
      · cases hv
    · cases hv
  | nilck y =>
    have e := opd_local (x := y) hs
    simp only [act] at hact
    split at hact
    · rename_i k v off hx
      have hk0 := hh k false (by simp [touchOp, hx, key1, rd])
      split at hact
      · rename_i hver
        split at hact
        · rename_i cs fz hb
          simp only [Option.some.injEq, Prod.mk.injEq] at hact
          exact reads _ rfl (by simp only [act, e, hx, hk0, hver, if_true, hb, ← hact.1]) hact.2.symm
        · cases hact
      · cases hact
    · rename_i cs hx
      simp only [Option.some.injEq, Prod.mk.injEq] at hact
      exact reads _ rfl (by simp only [act, e, hx, ← hact.1]) hact.2.symm
    · rename_i f cs hx
      simp only [Option.some.injEq, Prod.mk.injEq] at hact
      exact reads _ rfl (by simp only [act, e, hx, ← hact.1]) hact.2.symm
    · cases hact
  | bin op y z =>
    have e1 := opd_local (x := y) fun i hi => hs i (by simp [looksOp, hi])
    have e2 := opd_local (x := z) fun i hi => hs i (by simp [looksOp, hi])
    simp only [act] at hact
    obtain ⟨v, hv, he⟩ := map_some hact
    simp only [Prod.mk.injEq] at he
    exact calm rfl (by simp only [act, e1, e2, hv, Option.map_some, he.1]) he.2.symm
  | binb op y z =>
    have e1 := opd_local (x := y) fun i hi => hs i (by simp [looksOp, hi])
    have e2 := opd_local (x := z) fun i hi => hs i (by simp [looksOp, hi])
    simp only [act] at hact
    obtain ⟨v, hv, he⟩ := map_some hact
    simp only [Prod.mk.injEq] at he
    exact calm rfl (by simp only [act, e1, e2, hv, Option.map_some, he.1]) he.2.symm
  | un op y =>
    have e := opd_local (x := y) hs
    simp only [act] at hact
    split at hact
    · rename_i b hx
      simp only [Option.some.injEq, Prod.mk.injEq] at hact
      exact calm rfl (by simp only [act, e, hx, hact.1]) hact.2.symm
    · rename_i k m hx
      simp only [Option.some.injEq, Prod.mk.injEq] at hact
      exact calm rfl (by simp only [act, e, hx, hact.1]) hact.2.symm
    · cases hact
  | conv k y =>
    have e := opd_local (x := y) hs
    simp only [act] at hact
    split at hact
    · rename_i k' m hx
      simp only [Option.some.injEq, Prod.mk.injEq] at hact
      exact calm rfl (by simp only [act, e, hx, hact.1]) hact.2.symm
    · cases hact
  | mkf f caps =>
    have e := opds_local caps hs
    simp only [act, Option.some.injEq, Prod.mk.injEq] at hact
    exact calm rfl (by simp only [act, e, hact.1]) hact.2.symm
  | mks z sz bytes y =>
    have e := opd_local (x := y) hs
    simp only [act] at hact
    cases dst with
    | none => simp at hact
    | some k =>
      have hk := hh k true (by simp [touchOp, wr])
      simp only [Option.bind_some] at hact
      split at hact
      · rename_i m hx
        split at hact
        · rename_i h1
          simp only [Option.some.injEq, Prod.mk.injEq] at hact
          obtain ⟨rfl, rfl⟩ := hact
          refine ⟨?_, fun q hq => ?_⟩
          · simp only [act, Option.bind_some, hk, e, hx, touchOp, Option.toList_some]
            rw [if_pos h1, merge_new hk]
          · simp only [touchOp, Option.toList_some, mem_wr, List.mem_singleton] at hq
            simp [newE, upd, hq]
        · cases hact
      · cases hact
  | slice size y lo hi =>
    have e1 := opd_local (x := y) fun i hi' => hs i (by simp [looksOp, hi'])
    have e2 := opt_local (x := lo) fun i hi' => hs i (by simp [looksOp, hi'])
    have e3 := opt_local (x := hi) fun i hi' => hs i (by simp [looksOp, hi'])
    have hsk := sk_local (h2 := st2.h) deep (y.ev st.s) fun k hk => hh k true (by simp [touchOp, mem_wr, hk])
    simp only [act] at hact
    split at hact
    · rename_i sz xs hx
      split at hact
      · rename_i hsz
        split at hact
        · rename_i m hm
          split at hact
          · rename_i l hl
            simp only [Option.some.injEq, Prod.mk.injEq] at hact
            obtain ⟨rfl, rfl⟩ := hact
            refine ⟨?_, fun q hq => ?_⟩
            · simp only [act, e1, e2, e3, hsk.1, hsk.2, hx, hm, hl, touchOp]
              rw [if_pos hsz]
              rw [merge_frz (h := st.h) (h' := st.h) fun k hk => hh k true (by simp [touchOp, mem_wr, hk])]
            · simp only [touchOp, mem_wr] at hq
              simp [frz_at, hq]
          · cases hact
        · cases hact
      · cases hact
    · cases hact
  | faddr off y =>
    have e := opd_local (x := y) hs
    simp only [act] at hact
    split at hact
    · rename_i k v o hx
      have hk0 := hh k false (by simp [touchOp, hx, key1, rd])
      split at hact
      · rename_i hver
        split at hact
        · rename_i cs fz hb
          simp only [Option.some.injEq, Prod.mk.injEq] at hact
          exact reads _ rfl (by simp only [act, e, hx, hk0, hver, if_true, hb, ← hact.1]) hact.2.symm
        · cases hact
      · cases hact
    · rename_i cs hx
      split at hact
      · rename_i hle
        simp only [Option.some.injEq, Prod.mk.injEq] at hact
        exact reads _ rfl (by simp only [act, e, hx]; rw [if_pos hle, ← hact.1]) hact.2.symm
      · cases hact
    · rename_i k v sz i0 o hx
      have hk0 := hh k false (by simp [touchOp, hx, key1, rd])
      split at hact
      · rename_i hver
        split at hact
        · rename_i cs fz hb
          simp only [Option.some.injEq, Prod.mk.injEq] at hact
          exact reads _ rfl (by simp only [act, e, hx, hk0, hver, if_true, hb, ← hact.1]) hact.2.symm
        · cases hact
      · cases hact
    · cases hact
  | fld off n ag y =>
    have e := opd_local (x := y) hs
    simp only [act] at hact
    split at hact
    · rename_i cs hx
      obtain ⟨c1, h1, hact⟩ := bind_some hact
      obtain ⟨v, hv, he⟩ := map_some hact
      simp only [Prod.mk.injEq] at he
      exact calm rfl (by simp only [act, e, hx, h1, Option.bind_some, hv, Option.map_some, he.1]) he.2.symm
    · rename_i cs hx
      obtain ⟨c1, h1, hact⟩ := bind_some hact
      obtain ⟨v, hv, he⟩ := map_some hact
      simp only [Prod.mk.injEq] at he
      exact calm rfl (by simp only [act, e, hx, h1, Option.bind_some, hv, Option.map_some, he.1]) he.2.symm
    · cases hact
  | iaddr size y ix =>
    have e1 := opd_local (x := y) fun i hi => hs i (by simp [looksOp, hi])
    have e2 := opd_local (x := ix) fun i hi => hs i (by simp [looksOp, hi])
    have hel := elems_local (h2 := st2.h) (y.ev st.s) fun k hk => hh k false (by simp [touchOp, rd, hk])
    have hself : ∀ k v, y.ev st.s = .rsl k v → st2.h k = st.h k := fun k v hx => hh k false (by simp [touchOp, hx, key1, rd])
    have hsame : act dst st2 (.iaddr size y ix) = (act dst st (.iaddr size y ix)).map fun p => (p.1, st2.h) := by
      simp only [act, e1, e2]
      cases hix : ix.ev st.s with
      | d z =>
        cases z with
        | int k n =>
          simp only []
          by_cases h0 : 0 ≤ n
          · simp only [h0, if_true]
            cases hy : y.ev st.s with
            | rsl k v =>
              simp only [hself k v hy]
              split
              · cases hb : (st.h k).body with
                | row sz xs fz =>
                  cases fz with
                  | false => simp only []; split <;> rfl
                  | true =>
                    simp only []
                    cases xs[n.toNat]? with
                    | none => rfl
                    | some q => simp only []; split <;> rfl
                | _ => rfl
              · rfl
            | d q =>
              have := hel.1
              rw [hy] at this
              simp only [this]
              cases elemsA st.h (.d q) with
              | none => rfl
              | some p =>
                obtain ⟨sz, xs⟩ := p
                simp only []
                cases xs[n.toNat]? with
                | none => rfl
                | some q => simp only []; split <;> rfl
            | fsl sz xs =>
              simp only [elemsA]
              cases xs[n.toNat]? with
              | none => rfl
              | some q => simp only []; split <;> rfl
            | _ => rfl
          · simp only [h0, if_false]; rfl
        | _ => rfl
      | _ => rfl
    have hh' : h' = st.h := by
      simp only [act] at hact
      split at hact
      · split at hact
        · split at hact
          · split at hact
            · split at hact
              · split at hact
                · simp only [Option.some.injEq, Prod.mk.injEq] at hact; exact hact.2.symm
                · cases hact
              · split at hact
                · split at hact
                  · simp only [Option.some.injEq, Prod.mk.injEq] at hact; exact hact.2.symm
                  · cases hact
                · cases hact
              · cases hact
            · cases hact
          · split at hact
            · split at hact
              · split at hact
                · simp only [Option.some.injEq, Prod.mk.injEq] at hact; exact hact.2.symm
                · cases hact
              · cases hact
            · cases hact
        · cases hact
      · cases hact
    exact reads _ rfl (by rw [hsame, hact]; rfl) hh'
  | ext y i =>
    have e := opd_local (x := y) hs
    simp only [act] at hact
    split at hact
    · rename_i cs hx
      obtain ⟨v, hv, he⟩ := map_some hact
      simp only [Prod.mk.injEq] at he
      exact calm rfl (by simp only [act, e, hx, hv, Option.map_some, he.1]) he.2.symm
    · cases hact
  | len y =>
    have e := opd_local (x := y) hs
    have hel := elems_local (h2 := st2.h) (y.ev st.s) fun k hk => hh k false (by simp [touchOp, rd, hk])
    simp only [act] at hact
    obtain ⟨v, hv, he⟩ := map_some hact
    simp only [Prod.mk.injEq] at he
    exact reads _ rfl (by simp only [act, e, hel.1, hv, Option.map_some, he.1]) he.2.symm
  | app size bytes y z =>
    have e1 := opd_local (x := y) fun i hi => hs i (by simp [looksOp, hi])
    have e2 := opd_local (x := z) fun i hi => hs i (by simp [looksOp, hi])
    have hel := elems_local (h2 := st2.h) (z.ev st.s) fun k hk => hh k false (by simp [touchOp, rd, hk])
    simp only [act] at hact
    split at hact
    · rename_i sy ys hz
      split at hact
      · rename_i hsy
        split at hact
        · rename_i k v hy
          have hk0 := hh k true (by simp [touchOp, hy, wr])
          split at hact
          · rename_i hver
            split at hact
            · rename_i sz xs hb
              split at hact
              · rename_i hc
                simp only [Option.some.injEq, Prod.mk.injEq] at hact
                obtain ⟨rfl, rfl⟩ := hact
                have hmem : ∀ q, (q, true) ∈ touchOp dst st (.app size bytes y z) ↔ q = k := by
                  intro q
                  simp [touchOp, hy, mem_wr, mem_rd]
                refine ⟨?_, fun q hq => ?_⟩
                · simp only [act, e1, e2, hel.2, hz, hy, hk0, hb]
                  rw [if_pos hsy, if_pos hver, if_pos hc]
                  congr 2
                  funext q
                  simp only [merge, hmem, upd]
                  split <;> rfl
                · rw [hmem] at hq
                  simp [upd, hq]
              · cases hact
            · cases hact
          · cases hact
        · rename_i sz xs hy
          cases dst with
          | none => simp at hact
          | some k =>
            have hk0 := hh k true (by simp [touchOp, hy, wr])
            simp only [Option.bind_some] at hact
            split at hact
            · rename_i hc
              simp only [Option.some.injEq, Prod.mk.injEq] at hact
              obtain ⟨rfl, rfl⟩ := hact
              have hmem : ∀ q, (q, true) ∈ touchOp (some k) st (.app size bytes y z) ↔ q = k := by
                intro q
                simp [touchOp, hy, mem_wr, mem_rd]
              refine ⟨?_, fun q hq => ?_⟩
              · simp only [act, e1, e2, hel.2, hz, hy, hk0, Option.bind_some]
                rw [if_pos hsy, if_pos hc]
                congr 2
                funext q
                simp only [merge, hmem, newE, upd, hk0]
                split <;> rfl
              · rw [hmem] at hq
                simp [newE, upd, hq]
            · cases hact
        · cases hact
      · cases hact
    · cases hact
  | mm mx y z =>
    have e1 := opd_local (x := y) fun i hi => hs i (by simp [looksOp, hi])
    have e2 := opd_local (x := z) fun i hi => hs i (by simp [looksOp, hi])
    simp only [act] at hact
    split at hact
    · rename_i k p k' q hx hy
      split at hact
      · rename_i hk
        simp only [Option.some.injEq, Prod.mk.injEq] at hact
        exact calm rfl (by simp only [act, e1, e2, hx, hy]; rw [if_pos hk, hact.1]) hact.2.symm
      · cases hact
    · cases hact
  | call f args => simp [act] at hact
  | build z ps =>
    have e := build_local (h := st.h) (h2 := st2.h) ps z hs
    simp only [act] at hact
    obtain ⟨v, hv, he⟩ := map_some hact
    simp only [Prod.mk.injEq] at he
    exact calm rfl (by simp only [act, e, hv, Option.map_some, he.1]) he.2.symm
  | bslice z size n ps =>
    have e := parts_local (h := st.h) (h2 := st2.h) (size := size) ps (List.replicate n z) hs fun k hk => hh k true (by simp [touchOp, mem_wr, hk])
    simp only [act] at hact
    obtain ⟨v, hv, he⟩ := map_some hact
    simp only [Prod.mk.injEq] at he
    obtain ⟨rfl, rfl⟩ := he
    refine ⟨?_, fun q hq => ?_⟩
    · simp only [act, e.1, e.2, hv, Option.map_some, touchOp]
      rw [merge_frz (h := st.h) (h' := st.h) fun k hk => hh k true (by simp [touchOp, mem_wr, hk])]
    · simp only [touchOp, mem_wr] at hq
      simp [frz_at, hq]

end Ev
end Go.Proofs.Ytnkbhmafebngjaa
