/- A value told as data: its boxes and rows change no more. -/
import Derived.Test.YtnkbhmafebngjaaE5
namespace Go.Proofs.Ytnkbhmafebngjaa
namespace Ev
open Go
set_option linter.unusedVariables false
set_option linter.unusedSimpArgs false

def Body.free : Body → Bool
  | .box _ fz => !fz
  | .row _ _ fz => !fz
  | .dead => false

theorem owns_lt {G : GS} {h : Nat → Ent} {w : World} (i : Inv G h w) {k b : Nat} (ho : Owns G k b (h k).body) : b < w.heap.size := by
  have he := i.ent k
  have go : ∀ (b' : Nat) (arr : Array Value) (el : TypeId), (G.hd k).A = some ⟨b', 0, none⟩ → w.heap[b']? = some (.cells arr el (0, 0)) → (G.hd k).A = some ⟨b, 0, none⟩ → b < w.heap.size := fun b' arr el hA hheap ho' => by
    rw [hA] at ho'
    simp only [Option.some.injEq, Addr.mk.injEq, and_true] at ho'
    subst ho'
    exact (Array.getElem?_eq_some_iff.1 hheap).1
  cases hb : (h k).body with
  | dead => rw [hb] at ho; exact ho.elim
  | box cs fz =>
    rw [hb] at ho he
    obtain ⟨b', arr, el, hA, hheap, _⟩ := he
    exact go b' arr el hA hheap ho
  | row sz xs fz =>
    rw [hb] at ho he
    cases fz with
    | false =>
      rcases he with ⟨z1, _⟩ | ⟨b', arr, el, hA, hheap, _⟩
      · have := ho.1; rw [z1] at this; cases this
      · exact go b' arr el hA hheap ho.1
    | true =>
      rcases he.2 with hc | ⟨b', arr, el, hA, hheap, _⟩
      · exact absurd hc (ho.2 rfl)
      · exact go b' arr el hA hheap ho.1

/-- How many cells of a box, a row stay once it changes no more. -/
def Body.cellsN : Body → Nat
  | .box cs _ => cs.length
  | .row sz xs _ => xs.length * sz
  | .dead => 0

open Classical in
noncomputable def frzSt (G : GS) (h : Nat → Ent) (_w : World) (ks : List Nat) : Nat → Nat := fun b =>
  if hx : ∃ k, k ∈ ks ∧ (h k).body.free = true ∧ Owns G k b (h k).body then max (G.St b) (h hx.choose).body.cellsN else G.St b

theorem frzSt_le (G : GS) (h : Nat → Ent) (w : World) (ks : List Nat) (b : Nat) : G.St b ≤ frzSt G h w ks b := by
  unfold frzSt
  split
  · exact Nat.le_max_left _ _
  · exact Nat.le_refl _
theorem frzSt_at {G : GS} {h : Nat → Ent} {w : World} (i : Inv G h w) {ks : List Nat} {k b : Nat} (hk : k ∈ ks) (hf : (h k).body.free = true) (ho : Owns G k b (h k).body) : frzSt G h w ks b = max (G.St b) (h k).body.cellsN := by
  unfold frzSt
  have hx : ∃ k, k ∈ ks ∧ (h k).body.free = true ∧ Owns G k b (h k).body := ⟨k, hk, hf, ho⟩
  rw [dif_pos hx]
  have := i.apart _ _ b hx.choose_spec.2.2 ho
  rw [this]

noncomputable def frzG (G : GS) (h : Nat → Ent) (w : World) (ks : List Nat) : GS := ⟨frzSt G h w ks, G.hd⟩

theorem frz_ver (h : Nat → Ent) (ks : List Nat) (k : Nat) : (frz h ks k).ver = (h k).ver := by unfold frz; split <;> rfl

theorem owns_frz {G : GS} {h : Nat → Ent} {w : World} (i : Inv G h w) {St : Nat → Nat} {k b : Nat} {ks : List Nat} (ho : Owns ⟨St, G.hd⟩ k b (frz h ks k).body) : Owns G k b (h k).body := by
  unfold frz at ho
  split at ho
  · cases hb : (h k).body with
    | dead => rw [hb] at ho; exact ho
    | box cs fz => rw [hb] at ho; exact ho
    | row sz xs fz =>
      rw [hb] at ho
      exact ⟨ho.1, fun _ => ho.2 rfl⟩
  · cases hb : (h k).body <;> (rw [hb] at ho; exact ho)

theorem frzSt_eq {G : GS} {h : Nat → Ent} {w : World} (i : Inv G h w) {ks : List Nat} {k b : Nat} (ho : Owns G k b (h k).body) (hn : k ∉ ks ∨ (h k).body.free = false) : frzSt G h w ks b = G.St b := by
  unfold frzSt
  rw [dif_neg]
  rintro ⟨k', hk', hf, ho'⟩
  have := i.apart k k' b ho ho'
  subst this
  rcases hn with hn | hn
  · exact hn hk'
  · rw [hn] at hf; cases hf

theorem frz_ext {G : GS} {h : Nat → Ent} {w : World} (ks : List Nat) : Ext G h w (frzG G h w ks) (frz h ks) w :=
  ⟨⟨frzSt_le G h w ks, fun _ _ _ => rfl⟩, fun k => by rw [frz_ver]; exact Nat.le_refl _, fun k _ => ⟨rfl, by
    unfold frz
    split
    · exact Body.like_frz _
    · exact Body.like_refl _⟩⟩

theorem frz_step {G : GS} {h : Nat → Ent} {w : World} (i : Inv G h w) (ks : List Nat) : Step G h w (frzG G h w ks) (frz h ks) w := by
  have hext := frz_ext (G := G) (h := h) (w := w) ks
  refine ⟨⟨fun b hb => ?_, fun k => ?_, fun k k' b h1 h2 => i.apart k k' b (owns_frz i h1) (owns_frz i h2)⟩, hext, ⟨rfl, rfl, rfl, Nat.le_refl _, fun b _ hn => ⟨rfl, ?_⟩⟩, fun k b ho => .inl ⟨k, owns_frz i ho⟩⟩
  · -- what stays lies in memory
    simp only [frzG, frzSt] at hb
    split at hb
    · rename_i hx
      exact owns_lt i hx.choose_spec.2.2
    · exact i.st b hb
  · -- each box, each row
    have he := i.ent k
    cases hb : (h k).body with
    | dead =>
      have hbody : (frz h ks k).body = .dead := by simp only [frz]; split <;> simp [hb, Body.frz]
      rw [hbody]
      trivial
    | box cs fz =>
      rw [hb] at he
      obtain ⟨b, arr, el, hA, hheap, hsz, hrel, hst⟩ := he
      have hown : Owns G k b (h k).body := by rw [hb]; exact hA
      by_cases hk : k ∈ ks
      · have hbody : (frz h ks k).body = .box cs true := by simp [frz, hk, hb, Body.frz]
        rw [hbody]
        refine ⟨b, arr, el, hA, hheap, hsz, fun j c hj => ⟨(hrel j c hj).1.ext hext, (hrel j c hj).2⟩, ?_⟩
        cases fz with
        | true =>
          simp only [if_true] at hst ⊢
          show frzSt G h w ks b = _
          rw [frzSt_eq i hown (.inr (by rw [hb]; rfl)), hst]
        | false =>
          simp only [if_true]
          simp only [Bool.false_eq_true, if_false] at hst
          show frzSt G h w ks b = _
          rw [frzSt_at i hk (by rw [hb]; rfl) hown, hb, hst]
          simp [Body.cellsN, hsz]
      · have hbody : (frz h ks k).body = .box cs fz := by simp [frz, hk, hb]
        rw [hbody]
        refine ⟨b, arr, el, hA, hheap, hsz, fun j c hj => ⟨(hrel j c hj).1.ext hext, (hrel j c hj).2⟩, ?_⟩
        show frzSt G h w ks b = _
        rw [frzSt_eq i hown (.inl hk), hst]
    | row sz xs fz =>
      rw [hb] at he
      cases fz with
      | true =>
        have hbody : (frz h ks k).body = .row sz xs true := by simp only [frz]; split <;> simp [hb, Body.frz]
        rw [hbody]
        refine ⟨he.1.keeps hext.keeps, ?_⟩
        by_cases hc : (G.hd k).cap = xs.length
        · exact .inl hc
        · rcases he.2 with hc' | ⟨b, arr, el, hA, hheap, hsz0, hsz, hst⟩
          · exact absurd hc' hc
          · refine .inr ⟨b, arr, el, hA, hheap, hsz0, hsz, ?_⟩
            show frzSt G h w ks b = _
            rw [frzSt_eq i (k := k) (by rw [hb]; exact ⟨hA, fun _ => hc⟩) (.inr (by rw [hb]; rfl)), hst]
      | false =>
        rcases he with ⟨z1, z2, z3⟩ | ⟨b, arr, el, hA, hheap, hsz, hcap, hm, hcs, hrel, hst⟩
        · subst z3
          by_cases hk : k ∈ ks
          · have hbody : (frz h ks k).body = .row sz [] true := by simp [frz, hk, hb, Body.frz]
            rw [hbody]
            refine ⟨?_, .inl z2⟩
            show Rel _ _ (.slice (G.hd k).A _ (G.hd k).cap) _
            rw [z1, z2]
            exact .sl none 0 sz 0 0 [] (Nat.le_refl _) (by simp) (by simp) (by simp) (fun _ _ => undef) (by simp) (by simp) (by simp)
          · have hbody : (frz h ks k).body = .row sz [] false := by simp [frz, hk, hb]
            rw [hbody]
            exact .inl ⟨z1, z2, rfl⟩
        have hown : Owns G k b (h k).body := by rw [hb]; exact ⟨hA, fun hf => by cases hf⟩
        have hcl : xs.length ≤ (G.hd k).cap := by rcases hcap with h | h <;> omega
        have hcsz : xs.length * sz ≤ arr.size := by rw [hsz]; exact Nat.mul_le_mul_right _ hcl
        by_cases hk : k ∈ ks
        · have hbody : (frz h ks k).body = .row sz xs true := by simp [frz, hk, hb, Body.frz]
          rw [hbody]
          have hst' : frzSt G h w ks b = xs.length * sz := by
            rw [frzSt_at i hk (by rw [hb]; rfl) hown, hb, hst]
            simp [Body.cellsN]
          refine ⟨?_, ?_⟩
          · refine .sl _ _ sz b 0 xs hcl hm hcs (fun _ => ⟨hA, by show 0 + _ ≤ frzSt G h w ks b; rw [hst']; omega⟩) (fun i j => arr.getD (i * sz + j) undef) (fun i x hi j c hj => ?_) (fun i x hi j c hj => (hrel i x hi j c hj).2) (fun i x hi j c hj => (hrel i x hi j c hj).1.keeps hext.keeps)
            have := (cells_at hcs hi hj).2.2
            simp only [World.cell?, hheap]
            have hlt : i * sz + j < arr.size := by omega
            simp [hlt]
          · rcases hcap with hc | ⟨h0, _⟩
            · exact .inl hc
            · exact .inr ⟨b, arr, el, hA, hheap, h0, hsz, hst'⟩
        · have hbody : (frz h ks k).body = .row sz xs false := by simp [frz, hk, hb]
          rw [hbody]
          refine .inr ⟨b, arr, el, hA, hheap, hsz, hcap, hm, hcs, fun i x hi j c hj => ⟨(hrel i x hi j c hj).1.keeps hext.keeps, (hrel i x hi j c hj).2⟩, ?_⟩
          show frzSt G h w ks b = _
          rw [frzSt_eq i hown (.inl hk), hst]
  · -- the other blocks
    show frzSt G h w ks b = G.St b
    unfold frzSt
    rw [dif_neg]
    rintro ⟨k, _, _, ho⟩
    exact hn k ho

theorem allD_some {f : AV → Option D} : ∀ {as : List AV} {xs : List D}, allD f as = some xs → as.length = xs.length ∧ ∀ (j : Nat) a, as[j]? = some a → ∃ x, xs[j]? = some x ∧ f a = some x
  | [], xs, h => by
    simp only [allD, Option.some.injEq] at h
    subst h
    simp
  | a :: as, xs, h => by
    simp only [allD] at h
    split at h
    · rename_i x hx
      split at h
      · rename_i ys hys
        simp only [Option.some.injEq] at h
        subst h
        obtain ⟨h1, h2⟩ := allD_some hys
        refine ⟨by simp [h1], fun j b hj => ?_⟩
        cases j with
        | zero =>
          simp only [List.getElem?_cons_zero, Option.some.injEq] at hj
          subst hj
          exact ⟨x, rfl, hx⟩
        | succ j => simpa using h2 j b (by simpa using hj)
      · cases h
    · cases h

theorem toD_d (h : Nat → Ent) (n : Nat) (x : D) : toD h n (.d x) = some x := by cases n <;> rfl
theorem toD_fsl (h : Nat → Ent) (n : Nat) (sz : Nat) (xs : List D) : toD h n (.fsl sz xs) = some (.sl sz xs) := by cases n <;> rfl
theorem sk_d (h : Nat → Ent) (n : Nat) (x : D) : sk h n (.d x) = [] := by cases n <;> rfl
theorem sk_fsl (h : Nat → Ent) (n : Nat) (sz : Nat) (xs : List D) : sk h n (.fsl sz xs) = [] := by cases n <;> rfl
theorem toD_rsl (h : Nat → Ent) (n k v : Nat) : toD h n (.rsl k v) = if v = (h k).ver then (match (h k).body with | .row sz xs _ => some (.sl sz xs) | _ => none) else none := by cases n <;> rfl
theorem sk_rsl (h : Nat → Ent) (n k v : Nat) : sk h n (.rsl k v) = [k] := by cases n <;> rfl

/-- What is told of a value as data is so, once its boxes and rows change no more. -/
theorem toD_ok {G : GS} {h : Nat → Ent} {w : World} (i : Inv G h w) (ks : List Nat) : ∀ (n : Nat) {v : Value} {av : AV} {x : D}, ARel G h w v av → toD h n av = some x → (∀ k ∈ sk h n av, k ∈ ks) → Rel (frzSt G h w ks) w v x := by
  have hext := frz_ext (G := G) (h := h) (w := w) ks
  have hst := frz_step i ks
  have hd : ∀ {v : Value} {x y : D} {n : Nat}, ARel G h w v (.d x) → toD h n (.d x) = some y → Rel (frzSt G h w ks) w v y := by
    intro v x y n r ht
    rw [toD_d] at ht
    cases ht
    exact r.d_inv.keeps hext.keeps
  have hf : ∀ {v : Value} {sz : Nat} {xs : List D} {y : D} {n : Nat}, ARel G h w v (.fsl sz xs) → toD h n (.fsl sz xs) = some y → Rel (frzSt G h w ks) w v y := by
    intro v sz xs y n r ht
    rw [toD_fsl] at ht
    cases ht
    cases r with | fsl A n _ _ hr => exact hr.keeps hext.keeps
  have hrow : ∀ {v : Value} {k ver : Nat} {y : D} {n : Nat}, ARel G h w v (.rsl k ver) → toD h n (.rsl k ver) = some y → (∀ q ∈ sk h n (.rsl k ver), q ∈ ks) → Rel (frzSt G h w ks) w v y := by
    intro v k ver y n r ht hk
    rw [toD_rsl] at ht
    rw [sk_rsl] at hk
    have hk' := hk k (by simp)
    split at ht
    · rename_i hver
      split at ht
      · rename_i sz xs fz hb
        cases ht
        have he := hst.inv.ent k
        have hbody : (frz h ks k).body = .row sz xs true := by simp [frz, hk', hb, Body.frz]
        rw [hbody] at he
        cases r with
        | rsl _ _ _ hone_ hle hv =>
          rw [hv hver _ _ _ hb]
          exact he.1
      · cases ht
    · cases ht
  intro n
  induction n with
  | zero =>
    intro v av x r ht hk
    cases av with
    | d y => exact hd r ht
    | fsl sz xs => exact hf r ht
    | rsl k ver => exact hrow r ht hk
    | _ => simp [toD] at ht
  | succ n ih =>
    intro v av x r ht hk
    cases av with
    | d y => exact hd r ht
    | fsl sz xs => exact hf r ht
    | rsl k ver => exact hrow r ht hk
    | ptr k ver off =>
      simp only [toD] at ht
      split at ht
      · rename_i hver
        split at ht
        · rename_i cs fz hb
          by_cases h0 : off ≤ cs.length
          case neg => simp [h0] at ht
          rw [if_pos h0] at ht
          cases ha : allD (toD h n) (cs.drop off) with
          | none => simp [ha] at ht
          | some ds =>
            simp only [ha, Option.map_some, Option.some.injEq] at ht
            subst ht
            have hk' : k ∈ ks := hk k (by simp [sk])
            have hsub : ∀ (j : Nat) (c : AV), cs[j]? = some c → ∀ q ∈ sk h n c, q ∈ ks := by
              intro j c hj q hq
              refine hk q ?_
              simp only [sk, hb, List.mem_cons, List.mem_flatMap]
              exact .inr ⟨c, List.mem_of_getElem? hj, hq⟩
            have he := hst.inv.ent k
            have hbody : (frz h ks k).body = .box cs true := by simp [frz, hk', hb, Body.frz]
            rw [hbody] at he
            obtain ⟨b, arr, el, hA, hheap, hsz, hrel, hstb⟩ := he
            have he0 := i.ent k
            rw [hb] at he0
            obtain ⟨b0, arr0, el0, hA0, hheap0, hsz0, hrel0, _⟩ := he0
            have hA' : (G.hd k).A = some ⟨b, 0, none⟩ := hA
            rw [hA'] at hA0
            simp only [Option.some.injEq, Addr.mk.injEq, and_true] at hA0
            subst hA0
            rw [hheap] at hheap0
            simp only [Option.some.injEq, Obj.cells.injEq, and_true] at hheap0
            obtain ⟨rfl, rfl⟩ := hheap0
            obtain ⟨hlen, hget⟩ := allD_some ha
            cases r with
            | ptr _ _ _ _ hone_ hle hv =>
              obtain ⟨b', hAb, hv'⟩ := hv hver cs fz hb
              rw [hA'] at hAb
              simp only [Option.some.injEq, Addr.mk.injEq, and_true] at hAb
              subst hAb
              subst hv'
              simp only [if_true] at hstb
              have hds : ds.length = cs.length - off := by rw [← hlen, List.length_drop]
              have hcell : ∀ (j : Nat) c, ds[j]? = some c → off + j < cs.length ∧ ∃ av, cs[off + j]? = some av ∧ toD h n av = some c := by
                intro j c hj
                have hj' := (List.getElem?_eq_some_iff.1 hj).1
                have hlt : off + j < cs.length := by omega
                have h1 : (cs.drop off)[j]? = some cs[off + j] := by rw [List.getElem?_drop, List.getElem?_eq_getElem hlt]
                obtain ⟨c', hc', ht'⟩ := hget j _ h1
                rw [hc'] at hj
                cases hj
                exact ⟨hlt, _, List.getElem?_eq_getElem hlt, ht'⟩
              · refine .rp b off ds ?_ (fun j => arr.getD (off + j) undef) (fun j c hj => ?_) (fun j c hj => ?_) (fun j c hj => ?_)
                · show _ ≤ frzSt G h w ks b
                  have : frzSt G h w ks b = arr.size := hstb
                  omega
                · obtain ⟨hlt, _⟩ := hcell j c hj
                  simp only [World.cell?, hheap]
                  have : off + j < arr.size := by omega
                  simp [this]
                · obtain ⟨hlt, av, hav, _⟩ := hcell j c hj
                  exact (hrel0 _ _ hav).2
                · obtain ⟨hlt, av, hav, ht'⟩ := hcell j c hj
                  exact ih (hrel0 _ _ hav).1 ht' (hsub _ _ hav)
        · cases ht
      · cases ht
    | clo f caps =>
      simp only [toD] at ht
      cases ha : allD (toD h n) caps with
      | none => simp [ha] at ht
      | some ds =>
        simp only [ha, Option.map_some, Option.some.injEq] at ht
        subst ht
        obtain ⟨hlen, hget⟩ := allD_some ha
        cases r with
        | clo _ vs _ hn hr =>
          refine .clo f vs ds (by omega) fun j c hj => ?_
          have hj' := (List.getElem?_eq_some_iff.1 hj).1
          have hlt : j < caps.length := by omega
          obtain ⟨c', hc', ht'⟩ := hget j _ (List.getElem?_eq_getElem hlt)
          rw [hc'] at hj
          cases hj
          refine ih (hr j _ (List.getElem?_eq_getElem hlt)) ht' fun q hq => hk q ?_
          simp only [sk, List.mem_flatMap]
          exact ⟨_, List.getElem_mem hlt, hq⟩
    | agg cs =>
      simp only [toD] at ht
      cases ha : allD (toD h n) cs with
      | none => simp [ha] at ht
      | some ds =>
        simp only [ha, Option.map_some, Option.some.injEq] at ht
        subst ht
        obtain ⟨hlen, hget⟩ := allD_some ha
        cases r with
        | agg vs _ hn hr =>
          refine .agg vs ds (by omega) fun j c hj => ?_
          have hj' := (List.getElem?_eq_some_iff.1 hj).1
          have hlt : j < cs.length := by omega
          obtain ⟨c', hc', ht'⟩ := hget j _ (List.getElem?_eq_getElem hlt)
          rw [hc'] at hj
          cases hj
          refine ih (hr j _ (List.getElem?_eq_getElem hlt)) ht' fun q hq => hk q ?_
          simp only [sk, List.mem_flatMap]
          exact ⟨_, List.getElem_mem hlt, hq⟩
    | _ => simp [toD] at ht

end Ev
end Go.Proofs.Ytnkbhmafebngjaa
