/- Calls that are handed boxes and rows of the caller's own: what they leave there. -/
import Derived.Test.YtnkbhmafebngjaaE10
namespace Go.Proofs.Ytnkbhmafebngjaa
namespace Ev
open Go
set_option linter.unusedVariables false
set_option linter.unusedSimpArgs false

/-- It names no other boxes and rows than these. -/
inductive Over (K : List Nat) : AV → Prop
  | d (x : D) : Over K (.d x)
  | fsl (sz : Nat) (xs : List D) : Over K (.fsl sz xs)
  | rsl (k v : Nat) (hk : k ∈ K) : Over K (.rsl k v)
  | ptr (k v o : Nat) (hk : k ∈ K) : Over K (.ptr k v o)
  | clo (f : FuncId) (cs : List AV) (h : ∀ c ∈ cs, Over K c) : Over K (.clo f cs)
  | agg (cs : List AV) (h : ∀ c ∈ cs, Over K c) : Over K (.agg cs)

def OverB (K : List Nat) : Body → Prop
  | .box cs _ => ∀ c ∈ cs, Over K c
  | _ => True

/-- The heap with these alone. -/
def only (K : List Nat) (h : Nat → Ent) : Nat → Ent := fun k => if k ∈ K then h k else ⟨(h k).ver, .dead⟩
/-- These as there, all others as here. -/
def mergeK (K : List Nat) (h1 h : Nat → Ent) : Nat → Ent := fun k => if k ∈ K then h1 k else h k

theorem only_in {K : List Nat} {h : Nat → Ent} {k : Nat} (hk : k ∈ K) : only K h k = h k := if_pos hk
theorem only_out {K : List Nat} {h : Nat → Ent} {k : Nat} (hk : k ∉ K) : only K h k = ⟨(h k).ver, .dead⟩ := if_neg hk
theorem only_ver (K : List Nat) (h : Nat → Ent) (k : Nat) : (only K h k).ver = (h k).ver := by unfold only; split <;> rfl

theorem ARel.only {G : GS} {h : Nat → Ent} {w : World} (K : List Nat) {v : Value} {a : AV} (r : ARel G h w v a) : ARel G (only K h) w v a := by
  induction r with
  | d v x hr => exact .d v x hr
  | fsl A n sz xs hr => exact .fsl A n sz xs hr
  | rsl v k ver h1 hle hv =>
    refine .rsl v k ver h1 (by rw [only_ver]; exact hle) fun hq sz xs fz hb => ?_
    rw [only_ver] at hq
    by_cases hk : k ∈ K
    · rw [only_in hk] at hb; exact hv hq sz xs fz hb
    · rw [only_out hk] at hb; cases hb
  | ptr v k ver off h1 hle hv =>
    refine .ptr v k ver off h1 (by rw [only_ver]; exact hle) fun hq cs fz hb => ?_
    rw [only_ver] at hq
    by_cases hk : k ∈ K
    · rw [only_in hk] at hb; exact hv hq cs fz hb
    · rw [only_out hk] at hb; cases hb
  | eptr v k ver sz i off h1 hle hv =>
    refine .eptr v k ver sz i off h1 (by rw [only_ver]; exact hle) fun hq sz' xs hb => ?_
    rw [only_ver] at hq
    by_cases hk : k ∈ K
    · rw [only_in hk] at hb; exact hv hq sz' xs hb
    · rw [only_out hk] at hb; cases hb
  | clo f vs cs hn _ ih => exact .clo f vs cs hn ih
  | agg vs cs hn _ ih => exact .agg vs cs hn ih
  | tup vs cs hn _ ih => exact .tup vs cs hn ih
  | skip => exact .skip
  | junk v => exact .junk v

theorem ARel.over {G G' : GS} {h h' : Nat → Ent} {w : World} {K : List Nat} (hst : G'.St = G.St) (hk : ∀ k ∈ K, h' k = h k ∧ G'.hd k = G.hd k) {v : Value} {a : AV} (r : ARel G h w v a) (o : Over K a) : ARel G' h' w v a := by
  induction r with
  | d v x hr => exact .d v x (by rw [hst]; exact hr)
  | fsl A n sz xs hr => exact .fsl A n sz xs (by rw [hst]; exact hr)
  | rsl v k ver h1 hle hv =>
    cases o with
    | rsl _ _ hm =>
      obtain ⟨e1, e2⟩ := hk k hm
      exact .rsl v k ver h1 (by rw [e1]; exact hle) (by rw [e1, e2]; exact hv)
  | ptr v k ver off h1 hle hv =>
    cases o with
    | ptr _ _ _ hm =>
      obtain ⟨e1, e2⟩ := hk k hm
      exact .ptr v k ver off h1 (by rw [e1]; exact hle) (by rw [e1, e2]; exact hv)
  | eptr v k ver sz i off h1 hle hv => cases o
  | clo f vs cs hn _ ih =>
    cases o with
    | clo _ _ ho => exact .clo f vs cs hn fun j c hj => ih j c hj (ho c (List.mem_of_getElem? hj))
  | agg vs cs hn _ ih =>
    cases o with
    | agg _ ho => exact .agg vs cs hn fun j c hj => ih j c hj (ho c (List.mem_of_getElem? hj))
  | tup vs cs hn _ ih => cases o
  | skip => cases o
  | junk v => cases o

theorem owns_only {G : GS} {h : Nat → Ent} {K : List Nat} {k b : Nat} (ho : Owns G k b (only K h k).body) : k ∈ K ∧ Owns G k b (h k).body := by
  by_cases hk : k ∈ K
  · rw [only_in hk] at ho; exact ⟨hk, ho⟩
  · rw [only_out hk] at ho; exact ho.elim

/-- Fewer boxes and rows are known: what is known of the others stands. -/
theorem only_inv {G : GS} {h : Nat → Ent} {w : World} (i : Inv G h w) (K : List Nat) : Inv G (only K h) w := by
  refine ⟨i.st, fun k => ?_, fun k k' b h1 h2 => i.apart k k' b (owns_only h1).2 (owns_only h2).2⟩
  by_cases hk : k ∈ K
  · rw [only_in hk]
    have he := i.ent k
    cases hb : (h k).body with
    | dead => trivial
    | box cs fz =>
      rw [hb] at he
      obtain ⟨b, arr, el, hA, hheap, hsz, hrel, hs⟩ := he
      exact ⟨b, arr, el, hA, hheap, hsz, fun j c hj => ⟨(hrel j c hj).1.only K, (hrel j c hj).2⟩, hs⟩
    | row sz xs fz =>
      rw [hb] at he
      cases fz with
      | true => exact he
      | false => exact he
  · rw [only_out hk]; trivial
theorem only_step {G : GS} {h : Nat → Ent} {w : World} (i : Inv G h w) (K : List Nat) : Step G h w G (fun k => if k ∈ K then h k else ⟨(h k).ver + 1, .dead⟩) w := by
  have hv : ∀ k, k ∉ K → (fun k => if k ∈ K then h k else (⟨(h k).ver + 1, .dead⟩ : Ent)) k = ⟨(h k).ver + 1, .dead⟩ := fun k hk => if_neg hk
  have hi : ∀ k, k ∈ K → (fun k => if k ∈ K then h k else (⟨(h k).ver + 1, .dead⟩ : Ent)) k = h k := fun k hk => if_pos hk
  generalize (fun k => if k ∈ K then h k else (⟨(h k).ver + 1, .dead⟩ : Ent)) = h' at hv hi ⊢
  have hext : Ext G h w G h' w := by
    refine ⟨.refl _ _, fun k => ?_, fun k hk => ⟨rfl, ?_⟩⟩
    · by_cases hm : k ∈ K
      · rw [hi k hm]; exact Nat.le_refl _
      · rw [hv k hm]; exact Nat.le_succ _
    · by_cases hm : k ∈ K
      · rw [hi k hm]; exact Body.like_refl _
      · rw [hv k hm] at hk; simp at hk
  have hown : ∀ k b, Owns G k b (h' k).body → Owns G k b (h k).body := fun k b ho => by
    by_cases hm : k ∈ K
    · rw [hi k hm] at ho; exact ho
    · rw [hv k hm] at ho; exact ho.elim
  refine ⟨⟨i.st, fun k => ?_, fun k k' b h1 h2 => i.apart k k' b (hown k b h1) (hown k' b h2)⟩, hext, ⟨rfl, rfl, rfl, Nat.le_refl _, fun _ _ _ => ⟨rfl, rfl⟩⟩, fun k b ho => .inl ⟨k, hown k b ho⟩⟩
  by_cases hm : k ∈ K
  · rw [hi k hm]
    have he := i.ent k
    cases hb : (h k).body with
    | dead => trivial
    | box cs fz =>
      rw [hb] at he
      obtain ⟨b, arr, el, hA, hheap, hsz, hrel, hs⟩ := he
      exact ⟨b, arr, el, hA, hheap, hsz, fun j c hj => ⟨(hrel j c hj).1.ext hext, (hrel j c hj).2⟩, hs⟩
    | row sz xs fz =>
      rw [hb] at he
      cases fz with
      | true => exact he
      | false => exact he
  · rw [hv k hm]; trivial

/-- THE CONTRACT OF A CALL THAT IS HANDED BOXES AND ROWS (keys K, as in h0): it hands back what reads as rs, and leaves them as in h1. -/
def MutC (P : Program) (g : FuncId) (as : List AV) (K : List Nat) (h0 : Nat → Ent) (rs : List D) (h1 : Nat → Ent) : Prop :=
  Enters P g ∧ (∀ k ∈ K, OverB K (h1 k).body) ∧ ∀ (G : GS) (h : Nat → Ent) (w : World) (vs : List Value), (∀ k ∈ K, h k = h0 k) → (∀ k, k ∉ K → (h k).body = .dead) → Inv G h w → vs.length = as.length →
    (∀ (j : Nat) a, as[j]? = some a → ARel G h w (vs.getD j undef) a) →
    Calls P g vs.toArray w fun e w' => ∃ G' h' us, e = .returned (handed us) ∧ RelL G'.St w' us rs ∧ (∀ k ∈ K, h' k = h1 k) ∧ (∀ k, k ∉ K → (h' k).body = .dead) ∧ Step G h w G' h' w'

/-- What lies beside is not touched. -/
theorem mut_frame {G G' : GS} {h h' h1 : Nat → Ent} {w w' : World} {K : List Nat} (i : Inv G h w) (hs : Step G (only K h) w G' h' w') (hk : ∀ k ∈ K, h' k = h1 k) (ho : ∀ k ∈ K, OverB K (h1 k).body) :
    Step G h w ⟨G'.St, fun k => if k ∈ K then G'.hd k else G.hd k⟩ (mergeK K h1 h) w' := by
  have hin : ∀ k, k ∈ K → mergeK K h1 h k = h' k ∧ (fun k => if k ∈ K then G'.hd k else G.hd k) k = G'.hd k := fun k hm => ⟨by simp only [mergeK, if_pos hm]; exact (hk k hm).symm, if_pos hm⟩
  have hout : ∀ k, k ∉ K → mergeK K h1 h k = h k ∧ (fun k => if k ∈ K then G'.hd k else G.hd k) k = G.hd k := fun k hm => ⟨if_neg hm, if_neg hm⟩
  generalize hm' : mergeK K h1 h = hh at hin hout ⊢
  generalize hd' : (fun k => if k ∈ K then G'.hd k else G.hd k) = hd at hin hout ⊢
  have hext : Ext G h w ⟨G'.St, hd⟩ hh w' := by
    refine ⟨hs.ext.keeps, fun k => ?_, fun k hv => ?_⟩
    · by_cases hm : k ∈ K
      · rw [(hin k hm).1]; have := hs.ext.ver k; rwa [only_in hm] at this
      · rw [(hout k hm).1]; exact Nat.le_refl _
    · by_cases hm : k ∈ K
      · rw [(hin k hm).1] at hv ⊢
        have := hs.ext.same k (by rw [only_in hm]; exact hv)
        rw [only_in hm] at this
        exact ⟨(hin k hm).2.trans this.1, this.2⟩
      · rw [(hout k hm).1]
        exact ⟨(hout k hm).2, Body.like_refl _⟩
  have ownIn : ∀ k b, k ∈ K → Owns ⟨G'.St, hd⟩ k b (hh k).body → Owns G' k b (h' k).body := fun k b hm hw => by
    rw [(hin k hm).1] at hw
    have e := (hin k hm).2
    cases hb : (h' k).body <;> rw [hb] at hw <;> simp only [Owns] at hw ⊢ <;> first | exact hw | (rw [e] at hw; exact hw)
  have ownOut : ∀ k b, k ∉ K → Owns ⟨G'.St, hd⟩ k b (hh k).body → Owns G k b (h k).body := fun k b hm hw => by
    rw [(hout k hm).1] at hw
    have e := (hout k hm).2
    cases hb : (h k).body <;> rw [hb] at hw <;> simp only [Owns] at hw ⊢ <;> first | exact hw | (rw [e] at hw; exact hw)
  have away : ∀ k b, k ∉ K → Owns G k b (h k).body → b < w.heap.size → w'.heap[b]? = w.heap[b]? ∧ G'.St b = G.St b := fun k b hm hw hlt =>
    hs.left.block b hlt fun q hq => hm (by
      obtain ⟨hq1, hq2⟩ := owns_only hq
      have := i.apart q k b hq2 hw
      exact this ▸ hq1)
  have meet : ∀ k k' b, k ∈ K → k' ∉ K → Owns G' k b (h' k).body → Owns G k' b (h k').body → False := fun k k' b h1 h2 h3 h4 => by
    have hlt := owns_lt i h4
    rcases hs.grow k b h3 with ⟨q, hq⟩ | hge
    · obtain ⟨hq1, hq2⟩ := owns_only hq
      exact h2 (i.apart q k' b hq2 h4 ▸ hq1)
    · omega
  refine ⟨⟨hs.inv.st, fun k => ?_, fun k k' b h1 h2 => ?_⟩, hext, ⟨hs.left.os, hs.left.tape, hs.left.output, hs.left.size, fun b hb hn => hs.left.block b hb fun q hq => hn q (owns_only hq).2⟩, fun k b hw => ?_⟩
  · by_cases hm : k ∈ K
    · rw [(hin k hm).1]
      have he := hs.inv.ent k
      have hov := ho k hm
      rw [← hk k hm] at hov
      cases hb : (h' k).body with
      | dead => trivial
      | box cs fz =>
        rw [hb] at he hov
        obtain ⟨b, arr, el, hA, hheap, hsz, hrel, hst⟩ := he
        exact ⟨b, arr, el, by show (hd k).A = _; rw [(hin k hm).2]; exact hA, hheap, hsz, fun j c hj => ⟨(hrel j c hj).1.over (G := G') (G' := ⟨G'.St, hd⟩) rfl hin (hov c (List.mem_of_getElem? hj)), (hrel j c hj).2⟩, hst⟩
      | row sz xs fz =>
        rw [hb] at he
        cases fz with
        | true =>
          simp only [EntOK] at he ⊢
          rw [(hin k hm).2]
          exact he
        | false =>
          simp only [EntOK] at he ⊢
          rw [(hin k hm).2]
          exact he
    · rw [(hout k hm).1]
      have he := i.ent k
      cases hb : (h k).body with
      | dead => trivial
      | box cs fz =>
        rw [hb] at he
        obtain ⟨b, arr, el, hA, hheap, hsz, hrel, hst⟩ := he
        have hlt := (Array.getElem?_eq_some_iff.1 hheap).1
        have ha := away k b hm (by rw [hb]; exact hA) hlt
        exact ⟨b, arr, el, by show (hd k).A = _; rw [(hout k hm).2]; exact hA, ha.1.trans hheap, hsz, fun j c hj => ⟨(hrel j c hj).1.ext hext, (hrel j c hj).2⟩, ha.2.trans hst⟩
      | row sz xs fz =>
        rw [hb] at he
        cases fz with
        | true =>
          simp only [EntOK] at he ⊢
          rw [(hout k hm).2]
          refine ⟨he.1.keeps hext.keeps, ?_⟩
          by_cases hcl : (G.hd k).cap = xs.length
          · exact .inl hcl
          · rcases he.2 with hc | ⟨b, arr, el, hA, hheap, h0, hsz, hst⟩
            · exact .inl hc
            · have hlt := (Array.getElem?_eq_some_iff.1 hheap).1
              have ha := away k b hm (by rw [hb]; exact ⟨hA, fun _ => hcl⟩) hlt
              exact .inr ⟨b, arr, el, hA, ha.1.trans hheap, h0, hsz, ha.2.trans hst⟩
        | false =>
          simp only [EntOK] at he ⊢
          rw [(hout k hm).2]
          rcases he with ⟨z1, z2, z3⟩ | ⟨b, arr, el, hA, hheap, hsz, hcap, hmx, hcs, hrel, hst⟩
          · exact .inl ⟨z1, z2, z3⟩
          have hlt := (Array.getElem?_eq_some_iff.1 hheap).1
          have ha := away k b hm (by rw [hb]; exact ⟨hA, fun hf => by cases hf⟩) hlt
          exact .inr ⟨b, arr, el, hA, ha.1.trans hheap, hsz, hcap, hmx, hcs, fun p x hp j c hj => ⟨(hrel p x hp j c hj).1.keeps hext.keeps, (hrel p x hp j c hj).2⟩, ha.2.trans hst⟩
  · by_cases a1 : k ∈ K <;> by_cases a2 : k' ∈ K
    · exact hs.inv.apart k k' b (ownIn k b a1 h1) (ownIn k' b a2 h2)
    · exact (meet k k' b a1 a2 (ownIn k b a1 h1) (ownOut k' b a2 h2)).elim
    · exact (meet k' k b a2 a1 (ownIn k' b a2 h2) (ownOut k b a1 h1)).elim
    · exact i.apart k k' b (ownOut k b a1 h1) (ownOut k' b a2 h2)
  · by_cases hm : k ∈ K
    · rcases hs.grow k b (ownIn k b hm hw) with ⟨q, hq⟩ | hge
      · exact .inl ⟨q, (owns_only hq).2⟩
      · exact .inr hge
    · exact .inl ⟨k, ownOut k b hm hw⟩

/-- Data that lie in no memory. -/
def D.flat : D → Bool
  | .int _ _ => true
  | .bool _ => true
  | .str _ => true
  | _ => false
theorem Rel.flat {St St' : Nat → Nat} {w w' : World} {v : Value} {d : D} (h : Rel St w v d) (hf : d.flat = true) : Rel St' w' v d := by
  cases h <;> first | (cases hf; done) | constructor
end Ev
end Go.Proofs.Ytnkbhmafebngjaa
