/- Calls that are handed rows of the caller's own, and hand these back, grown: the rows handed die. -/
import Derived.Test.YtjebpfhffenbnaaSA
import Derived.Test.YtjebpfhffenbnaaQ1
import Derived.Test.YtjebpfhffenbnaaX
namespace Go.Proofs.Ytjebpfhffenbnaa
namespace Ev
open Go
set_option maxRecDepth 100000
set_option linter.unusedSimpArgs false
set_option linter.unusedVariables false
section
variable {P : Program}

theorem kill_step {G : GS} {h : Nat → Ent} {w : World} (i : Inv G h w) (h2 : Nat → Ent) (hd : ∀ k, (h2 k).body = .dead ∧ (h k).ver < (h2 k).ver) : Step G h w G h2 w := by
  refine ⟨⟨i.st, fun k => by rw [(hd k).1]; trivial, fun k k' b h1 h3 => by rw [(hd k).1] at h1; exact h1.elim⟩, ⟨.refl _ _, fun k => Nat.le_of_lt (hd k).2, fun k hk => ?_⟩, ⟨rfl, rfl, rfl, Nat.le_refl _, fun _ _ _ => ⟨rfl, rfl⟩⟩, fun k b ho => by rw [(hd k).1] at ho; exact ho.elim⟩
  have := (hd k).2
  omega

/-- What stands at the end of a function that is handed rows, all of which die, and hands back rows. -/
def EndsK (res : List XRes) (rs : List RV) (K : List Nat) (h1 : Nat → Ent) : Ex → S → Prop := fun e st => (e = .normal ∨ e = .ret) ∧ ∃ vs, resL st res = some vs ∧ fitVs st.h rs vs ∧ (keysV rs vs).Nodup ∧ (∀ k ∈ keysV rs vs, k ∉ skVs st.h rs vs) ∧ ∀ k ∈ K, (h1 k).body = .dead ∧ (st.h k).ver < (h1 k).ver

theorem mutO_kill {f : FuncId} {fn : Func} {x : XFn} (hm : P.follows .mixedOrders = true) (hf : P.funcs[f]? = some fn) (hx : cfn P fn = some x) {aa : List AV} {rs : List RV} {K : List Nat} {h0 h1 : Nat → Ent} (hl : aa.length = x.np) (hdead : ∀ k ∈ K, (h1 k).body = .dead)
    (hw : ∀ (G : GS) (h : Nat → Ent) (w : World) (vs : List Value), (∀ k ∈ K, h k = h0 k) → vs.length = aa.length → (∀ (j : Nat) a, aa[j]? = some a → ARel G h w (vs.getD j undef) a) → wpX P x.code (EndsK x.res rs K h1) ⟨initA aa, h⟩) : MutO P f aa K h0 rs h1 := by
  have hov : ∀ k ∈ K, OverB K (h1 k).body := fun k hk => by rw [hdead k hk]; trivial
  unfold cfn at hx
  split at hx
  · rename_i c hb
    split at hx
    · cases hx
    · rename_i hname
      split at hx
      · rename_i xc r hcc hres
        split at hx
        · rename_i hnp
          cases hx
          simp only at hl hw
          refine ⟨⟨fn, hf, hname, by rw [hb]; rfl⟩, hov, fun G h w vs hk _ hi hvl hrel => ?_⟩
          refine calls_of_wp hf hb ?_
          have hw := hw G h w vs hk hvl hrel
          have fr : Fr fn.ntmps G ⟨initA aa, h⟩ { tmps := vs.toArray ++ Array.replicate (fn.ntmps - vs.toArray.size) undef, defers := [] } w := by
            refine ⟨hi, fun i => ?_, by simp; omega⟩
            simp only [initA]
            cases hd : aa[i]? with
            | none =>
              have hge : aa.length ≤ i := List.getElem?_eq_none_iff.1 hd
              have : (vs.toArray ++ Array.replicate (fn.ntmps - vs.toArray.size) undef).getD i undef = undef := by
                rw [Array.getD_eq_getD_getElem?, Array.getElem?_append_right (by simp; omega), Array.getElem?_replicate]
                split <;> rfl
              rw [this]
              exact .skip
            | some a =>
              have hlt := (List.getElem?_eq_some_iff.1 hd).1
              have : (vs.toArray ++ Array.replicate (fn.ntmps - vs.toArray.size) undef).getD i undef = vs.getD i undef := by
                rw [Array.getD_eq_getD_getElem?, Array.getElem?_append_left (by simp; omega)]
                simp
              rw [this]
              exact hrel i a hd
          refine wp_mono (code_ok hm c xc hcc _ _ _ _ _ hw fr) ?_
          rintro e a' w' ⟨ex, G', st', rfl, fr', hs, hd, hend, vs', hrv, hfit0, hnd, hap0, hK⟩
          have hfit := fitVs_ok hfit0
          have hap : ∀ k ∈ keysV rs vs', k ∉ skV st'.h rs vs' := fun k hk => by rw [skV_eq]; exact hap0 k hk
          obtain ⟨us, h1', h2, h3⟩ := results_ok (P := P) fr'.inv fr'.slots _ _ _ hres hrv
          obtain ⟨hd2, hlv, hvr, hinv, hOwn⟩ := rows_named fr'.inv hfit hnd hap
          have hall := hs.trans (frz_step fr'.inv (skV st'.h rs vs'))
          have hfv : ∀ q, (frz st'.h (skV st'.h rs vs') q).ver = (st'.h q).ver := fun q => by simp only [frz]; split <;> rfl
          have hkill := hall.trans (kill_step hall.inv (fun q => if q ∈ K then h1 q else ⟨(st'.h q).ver + 1, .dead⟩) fun q => by
            rw [hfv]
            by_cases hq : q ∈ K
            · simp only [if_pos hq]; exact hK q hq
            · simp only [if_neg hq]; refine ⟨?_, Nat.lt_succ_self _⟩; first | rfl | trivial)
          have hpost : (results fn a'.tmps).run P w' = .ok (handed us) w' := run_results h1'
          have hR : ∃ (G2 : GS) (h2 : Nat → Ent) (us' : List Value) (hd2 : Nat → Hd), Ending.returned (handed us) = .returned (handed us') ∧ us'.length = (valsV none_ 0 0 rs).length ∧
              (∀ (j : Nat) v, (valsV none_ 0 0 rs)[j]? = some v → ARel ⟨G2.St, hd2⟩ (rowsH none_ 0 (rowsV rs)) w' (us'.getD j undef) v) ∧ (∀ k ∈ K, h2 k = h1 k) ∧ (∀ k, k ∉ K → (h2 k).body = .dead) ∧ Step G h w G2 h2 w' ∧
              Inv ⟨G2.St, hd2⟩ (rowsH none_ 0 (rowsV rs)) w' ∧ ∀ k b, Owns ⟨G2.St, hd2⟩ k b (rowsH none_ 0 (rowsV rs) k).body → ((∃ q, Owns G q b (h q).body) ∨ w.heap.size ≤ b) ∧ ∀ q, ¬ Owns G2 q b (h2 q).body := by
            refine ⟨_, _, us, hd2, rfl, by rw [valsV_len, h2, hlv], fun j v hj => ?_, fun k hm => by simp only [if_pos hm], fun k hm => by simp only [if_neg hm], hkill, hinv, fun n b ho => ?_⟩
            · obtain ⟨a, ha, hr⟩ := hvr j v hj
              exact hr _ (h3 j a ha)
            · obtain ⟨k, hk, o3⟩ := hOwn n b ho
              refine ⟨hall.grow k b o3, fun q hq => ?_⟩
              by_cases hqk : q ∈ K
              · rw [if_pos hqk, hdead q hqk] at hq
                exact hq
              · rw [if_neg hqk] at hq
                exact hq
          rcases hend with rfl | rfl
          · exact ⟨hd, handed us, hpost, hR⟩
          · exact ⟨hd, handed us, hpost, hR⟩
        · cases hx
      · cases hx
  · cases hx
end
end Ev
end Go.Proofs.Ytjebpfhffenbnaa
