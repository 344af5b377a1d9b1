/- Append. -/
import Derived.Test.YtnkbhmafebngjaaE8
namespace Go.Proofs.Ytnkbhmafebngjaa
namespace Ev
open Go
set_option linter.unusedVariables false
set_option linter.unusedSimpArgs false

/-- A key is given anew; what it owned may have been written beyond what stays. -/
theorem step_gen {G : GS} {h : Nat → Ent} {w : World} (i : Inv G h w) (k : Nat) (body : Body) (hd : Hd) (St' : Nat → Nat) (w' : World)
    (hos : w'.os = w.os) (htape : w'.tape = w.tape) (hout : w'.output = w.output) (hsize : w.heap.size ≤ w'.heap.size)
    (hblock : ∀ b, b < w.heap.size → ¬ Owns G k b (h k).body → w'.heap[b]? = w.heap[b]? ∧ St' b = G.St b)
    (hcells : ∀ b, b < w.heap.size → G.St b ≤ St' b ∧ ∀ j, j < G.St b → w'.cell? ⟨b, j, none⟩ = w.cell? ⟨b, j, none⟩) (hst' : ∀ b, 0 < St' b → b < w'.heap.size)
    (hent : Ext G h w ⟨St', upd G.hd k hd⟩ (newE h k body) w' → EntOK ⟨St', upd G.hd k hd⟩ (newE h k body) w' k body)
    (hown : ∀ b, Owns ⟨St', upd G.hd k hd⟩ k b body → w.heap.size ≤ b ∨ Owns G k b (h k).body) :
    Step G h w ⟨St', upd G.hd k hd⟩ (newE h k body) w' := by
  have hk : (newE h k body k).body = body := by simp [newE, upd]
  have hother : ∀ q, q ≠ k → newE h k body q = h q ∧ upd G.hd k hd q = G.hd q := fun q hq => by simp [newE, upd, hq]
  have hext : Ext G h w ⟨St', upd G.hd k hd⟩ (newE h k body) w' := by
    refine ⟨⟨fun b => ?_, fun b j hj => ?_⟩, fun q => ?_, fun q hq => ?_⟩
    · show G.St b ≤ St' b
      rcases Nat.lt_or_ge b w.heap.size with hb | hb
      · exact (hcells b hb).1
      · have : ¬ 0 < G.St b := fun hp => by have := i.st b hp; omega
        omega
    · have hb := i.st b (by omega)
      exact (hcells b hb).2 j hj
    · by_cases hqk : q = k
      · subst hqk; simp [newE, upd]
      · rw [(hother q hqk).1]; exact Nat.le_refl _
    · by_cases hqk : q = k
      · subst hqk; simp [newE, upd] at hq
      · exact ⟨(hother q hqk).2, by rw [(hother q hqk).1]; exact Body.like_refl _⟩
  have hOw : ∀ q b, q ≠ k → (Owns ⟨St', upd G.hd k hd⟩ q b (newE h k body q).body ↔ Owns G q b (h q).body) := by
    intro q b hq
    obtain ⟨h1, h2⟩ := hother q hq
    rw [h1]
    cases (h q).body <;> simp only [Owns, h2]
  have hne : ∀ q b, q ≠ k → Owns G q b (h q).body → ¬ Owns G k b (h k).body := fun q b hq ho hk' => hq (i.apart q k b ho hk')
  refine ⟨⟨hst', fun q => ?_, fun q q' b h1 h2 => ?_⟩, hext, ⟨hos, htape, hout, hsize, fun b hb hn => hblock b hb (hn k)⟩, fun q b ho => ?_⟩
  · by_cases hq : q = k
    · subst hq; rw [hk]; exact hent hext
    · obtain ⟨h1, h2⟩ := hother q hq
      rw [h1]
      have he := i.ent q
      cases hb : (h q).body with
      | dead => trivial
      | box cs fz =>
        rw [hb] at he
        obtain ⟨b, arr, el, hA, hheap, hsz, hrel, hs⟩ := he
        have hlt := (Array.getElem?_eq_some_iff.1 hheap).1
        have hbl := hblock b hlt (hne q b hq (by rw [hb]; exact hA))
        exact ⟨b, arr, el, by show (upd G.hd k hd q).A = _; rw [h2]; exact hA, hbl.1.trans hheap, hsz, fun j c hj => ⟨(hrel j c hj).1.ext hext, (hrel j c hj).2⟩, hbl.2.trans hs⟩
      | row sz xs fz =>
        rw [hb] at he
        cases fz with
        | true =>
          refine ⟨?_, ?_⟩
          · show Rel St' w' (.slice (upd G.hd k hd q).A _ (upd G.hd k hd q).cap) _
            rw [h2]
            exact he.1.keeps hext.keeps
          · show (upd G.hd k hd q).cap = _ ∨ _
            rw [h2]
            by_cases hc : (G.hd q).cap = xs.length
            · exact .inl hc
            · rcases he.2 with hc' | ⟨b, arr, el, hA, hheap, h0, hsz, hs⟩
              · exact absurd hc' hc
              · have hlt := (Array.getElem?_eq_some_iff.1 hheap).1
                have hbl := hblock b hlt (hne q b hq (by rw [hb]; exact ⟨hA, fun _ => hc⟩))
                exact .inr ⟨b, arr, el, by show (upd G.hd k hd q).A = _; rw [h2]; exact hA, hbl.1.trans hheap, h0, by show _ = (upd G.hd k hd q).cap * _; rw [h2]; exact hsz, hbl.2.trans hs⟩
        | false =>
          rcases he with ⟨z1, z2, z3⟩ | ⟨b, arr, el, hA, hheap, hsz, hcap, hm, hcs, hrel, hs⟩
          · exact .inl ⟨by show (upd G.hd k hd q).A = _; rw [h2]; exact z1, by show (upd G.hd k hd q).cap = _; rw [h2]; exact z2, z3⟩
          have hlt := (Array.getElem?_eq_some_iff.1 hheap).1
          have hbl := hblock b hlt (hne q b hq (by rw [hb]; exact ⟨hA, fun hf => by cases hf⟩))
          exact .inr ⟨b, arr, el, by show (upd G.hd k hd q).A = _; rw [h2]; exact hA, hbl.1.trans hheap, by show _ = (upd G.hd k hd q).cap * _; rw [h2]; exact hsz, by show (upd G.hd k hd q).cap = _ ∨ _ ∧ _ ≤ (upd G.hd k hd q).cap; rw [h2]; exact hcap, hm, hcs, fun p x hp j c hj => ⟨(hrel p x hp j c hj).1.keeps hext.keeps, (hrel p x hp j c hj).2⟩, hbl.2.trans hs⟩
  · by_cases hq : q = k
    · by_cases hq' : q' = k
      · rw [hq, hq']
      · subst hq
        rw [hk] at h1
        have h3 := (hOw q' b hq').1 h2
        rcases hown b h1 with hle | ho
        · have := owns_lt i h3; omega
        · exact absurd ho (hne q' b hq' h3)
    · by_cases hq' : q' = k
      · subst hq'
        rw [hk] at h2
        have h3 := (hOw q b hq).1 h1
        rcases hown b h2 with hle | ho
        · have := owns_lt i h3; omega
        · exact absurd ho (hne q b hq h3)
      · exact i.apart q q' b ((hOw q b hq).1 h1) ((hOw q' b hq').1 h2)
  · by_cases hq : q = k
    · subst hq
      rw [hk] at ho
      rcases hown b ho with hle | ho'
      · exact .inr hle
      · exact .inl ⟨q, ho'⟩
    · exact .inl ⟨q, (hOw q b hq).1 ho⟩

section
variable {P : Program} {G : GS} {h : Nat → Ent} {w : World} {a : Act} {s : Nat → AV} {o : Oper}

/-- A row of one's own, given anew at key k: told as one that stays. -/
theorem arel_row {G' : GS} {w' : World} (k sz : Nat) (xs : List D) (hd : Hd) (hG : G'.hd k = hd) : ARel G' (newE h k (.row sz xs true)) w' (.slice hd.A xs.length hd.cap) (.rsl k ((h k).ver + 1)) := by
  refine .rsl _ _ _ rfl (by simp [newE, upd]) fun _ sz' xs' fz' hb => ?_
  have hb' : (newE h k (.row sz xs true) k).body = .row sz' xs' fz' := hb
  simp only [newE, upd, if_true, Body.row.injEq] at hb'
  rw [hG, ← hb'.2.1]

/-- The slice x (header A, n, cap), appended to at key k. -/
theorem did_app_core (i : Inv G h w) (k : Nat) (t e : TypeId) (ty : TypeId) {size bytes : Nat} (ht : P.underlying t = some (.slice e)) (hn : sz? P e = some size) (hb : byt? P e = some bytes) (hz0 : ((P.info? e).bind (·.zero)).map (·.cells.size) = some size) (h0 : 0 < size) (hb0 : 0 < bytes)
    {A B : Option Addr} {n cap m c : Nat} {xs ys : List D} (rx : Rel G.St w (.slice A n cap) (.sl size xs)) (ry : Rel G.St w (.slice B m c) (.sl size ys)) (hroom : (xs.length + ys.length) * bytes ≤ maxRoom)
    (hcap : cap = xs.length ∨ (Owns G k (A.getD ⟨0, 0, none⟩).block (h k).body ∧ ∃ b arr el, A = some ⟨b, 0, none⟩ ∧ w.heap[b]? = some (.cells arr el (0, 0)) ∧ arr.size = cap * size ∧ G.St b = xs.length * size)) :
    ∃ v' w' G', (Builtin.append_ #[t, t] ty #[.slice A n cap, .slice B m c]).run P w = .ok v' w' ∧ Step G h w G' (newE h k (.row size (xs ++ ys) true)) w' ∧ ARel G' (newE h k (.row size (xs ++ ys) true)) w' v' (.rsl k ((h k).ver + 1)) := by
  obtain ⟨news, hm, hnl, hn1, hnr, hna, hns, _⟩ := elems_cells ry
  obtain ⟨olds, hnn, hol, ho1, hor, hoa, hos, hob⟩ := elems_cells rx
  have hncap : n ≤ cap := by cases rx; assumption
  have hlen : (xs ++ ys).length = n + m := by simp; omega
  have hs : ∀ x ∈ xs ++ ys, x.cells.length = size := fun x hx => by
    rcases List.mem_append.1 hx with hx | hx
    · exact hos x hx
    · exact hns x hx
  simp only [maxRoom] at hroom
  have hroom' : n + m ≤ 140737488355328 := by
    have : (xs.length + ys.length) * 1 ≤ (xs.length + ys.length) * bytes := Nat.mul_le_mul_left _ hb0
    omega
  cases hi : P.info? e with
  | none => simp [hi] at hz0
  | some inf =>
    simp only [sz?, hi, Option.map_some, Option.some.injEq] at hn
    simp only [byt?, hi, Option.map_some, Option.some.injEq] at hb
    simp only [hi, Option.bind_some] at hz0
    obtain ⟨z, hz, hzs⟩ := Option.map_eq_some_iff.1 hz0
    rcases Nat.eq_zero_or_pos m with hm0 | hm0
    · -- nothing is appended
      have hys : ys = [] := List.eq_nil_of_length_eq_zero (by omega)
      subst hys
      have hnews : news = [] := List.eq_nil_of_length_eq_zero (by rw [hnl, hm0]; simp)
      subst hm0
      refine ⟨.slice A n cap, w, ⟨G.St, upd G.hd k ⟨A, cap⟩⟩, ?_, step_gen i k _ ⟨A, cap⟩ G.St w rfl rfl rfl (Nat.le_refl _) (fun _ _ _ => ⟨rfl, rfl⟩) (fun _ _ => ⟨Nat.le_refl _, fun _ _ => rfl⟩) i.st (fun hext => ⟨?_, ?_⟩) (fun b hob' => ?_), ?_⟩
      · cases A <;> cases B <;> simp [Builtin.append_, underlying, sizeOf, typeInfo, program, ht, hi, Builtin.lenOf, Builtin.firstCells, loadCells, loadCellsFrom, storeCells, hncap, Sem.run, Sem.run_bind, Sem.run_pure]
      · simp only [upd, if_true, List.append_nil]
        rw [← hnn]
        exact rx
      · simp only [upd, if_true, List.append_nil]
        rcases hcap with hc | ⟨_, b, arr, el, hA, hheap, hsz, hst⟩
        · exact .inl hc
        · exact .inr ⟨b, arr, el, hA, hheap, h0, hsz, hst⟩
      · have h1 := hob'.1
        simp only [upd, if_true] at h1
        rcases hcap with hc | ⟨hown, _⟩
        · exact absurd (by simp [upd, hc]) (hob'.2 rfl)
        · rw [h1] at hown
          exact .inr hown
      · have := arel_row (h := h) (G' := ⟨G.St, upd G.hd k ⟨A, cap⟩⟩) (w' := w) k size (xs ++ []) ⟨A, cap⟩ (by simp [upd])
        simpa [hnn] using this
    · obtain ⟨ad, hB, hcells⟩ := hna hm0
      subst hB
      by_cases hfit : n + m ≤ cap
      · -- there is room
        rcases hcap with hc | ⟨hown, b, arr, el, hA, hheap, hsz, hst⟩
        · omega
        · subst hA
          simp only [Option.getD_some] at hown
          have hfits : n * inf.size + news.length ≤ arr.size := by
            rw [hn, hnl, ← Nat.add_mul, hsz]; exact Nat.mul_le_mul_right _ hfit
          have hf := run_firstCells_some (P := P) w inf.size m ad m c news (by rw [hn]; exact hnl) hcells
          have hst2 := run_storeCells_at P b (n * inf.size) el news 0 arr w hheap (by simpa using hfits) hn1
          simp only [Nat.add_zero] at hst2
          have hadd : (⟨b, 0, none⟩ : Addr).add (n * inf.size) = ⟨b, n * inf.size, none⟩ := by rw [add_none, Nat.zero_add]
          have hrun : (Builtin.append_ #[t, t] ty #[.slice (some ⟨b, 0, none⟩) n cap, .slice (some ad) m c]).run P w = .ok (.slice (some ⟨b, 0, none⟩) (n + m) cap) (w.setRow b (arr.toList.take (n * inf.size) ++ news ++ arr.toList.drop (n * inf.size + news.length)).toArray) := by
            generalize w.setRow b (arr.toList.take (n * inf.size) ++ news ++ arr.toList.drop (n * inf.size + news.length)).toArray = W at hst2 ⊢
            simp [Builtin.append_, run_underlying ht, sizeOf, typeInfo, hi, Builtin.lenOf, hfit, hf, hadd, hst2]
          rw [hn] at hrun
          have hblt := (Array.getElem?_eq_some_iff.1 hheap).1
          have hput : (arr.toList.take (n * size) ++ news ++ arr.toList.drop (n * size + news.length)) = put (n * size) news arr.toList := rfl
          have hfits' : n * size + news.length ≤ arr.toList.length := by simpa [hn] using hfits
          have hgetD : ∀ q, (arr.toList.take (n * size) ++ news ++ arr.toList.drop (n * size + news.length)).toArray.getD q undef = if n * size ≤ q ∧ q < n * size + news.length then news.getD (q - n * size) undef else arr.getD q undef := by
            intro q
            rw [hput]
            have := put_get (n * size) news arr.toList hfits' q
            simp only [Array.getD_eq_getD_getElem?, List.getElem?_toArray, this]
            split
            · rw [List.getD_eq_getElem?_getD]
            · rw [Array.getElem?_toList]
          have hadd2 : (n + m) * size = n * size + news.length := by rw [hnl, Nat.add_mul]
          let St' : Nat → Nat := upd G.St b ((n + m) * size)
          have hcellold : ∀ j, j < n * size → (w.setRow b (arr.toList.take (n * size) ++ news ++ arr.toList.drop (n * size + news.length)).toArray).cell? ⟨b, j, none⟩ = w.cell? ⟨b, j, none⟩ := by
            intro j hj
            simp only [World.cell?, setRow_heap w b arr _ el _ hheap, hheap]
            have := hgetD j
            rw [if_neg (by omega)] at this
            have h1 : j < (arr.toList.take (n * size) ++ news ++ arr.toList.drop (n * size + news.length)).toArray.size := by
              simp only [List.size_toArray, List.length_append, List.length_take, List.length_drop, Array.length_toList]
              simp only [Array.length_toList] at hfits'
              omega
            have h2 : j < arr.size := by simp only [Array.length_toList] at hfits'; omega
            simp only [Array.getD, h1, h2, dif_pos] at this
            simp only [Option.isSome_none, Bool.false_eq_true, if_false]
            rw [Array.getElem?_eq_getElem h1, Array.getElem?_eq_getElem h2]
            exact congrArg some this
          refine ⟨_, _, ⟨St', upd G.hd k ⟨some ⟨b, 0, none⟩, cap⟩⟩, hrun, step_gen i k _ ⟨some ⟨b, 0, none⟩, cap⟩ St' _ rfl rfl rfl (by simp) (fun b' hb' hno => ?_) (fun b' hb' => ?_) (fun b' hb' => ?_) (fun hext => ⟨?_, ?_⟩) (fun b' hob' => ?_), ?_⟩
          · have hne : b' ≠ b := fun e => hno (e ▸ hown)
            exact ⟨setRow_other w b b' _ hne, by simp [St', upd, hne]⟩
          · by_cases hbb : b' = b
            · subst hbb
              refine ⟨by simp only [St', upd, if_true]; rw [hst, ← hnn]; exact Nat.mul_le_mul_right _ (Nat.le_add_right _ _), fun j hj => hcellold j (by rw [hst, ← hnn] at hj; exact hj)⟩
            · exact ⟨by simp [St', upd, hbb], fun j hj => setRow_cell hheap b' j hbb⟩
          · simp only [St', upd] at hb'
            split at hb'
            · rename_i e; rw [e]; simpa using hblt
            · simpa using i.st b' hb'
          · simp only [upd, if_true]
            refine rel_block b _ el (setRow_heap w b arr _ el _ hheap) cap size (xs ++ ys) (by omega) (by omega) hs ?_ ?_ ?_
            · simp [St', upd, hlen]
            · simp only [List.size_toArray, List.length_append, List.length_take, List.length_drop, Array.length_toList]
              simp only [Array.length_toList] at hfits'
              simp only [List.length_append] at hlen
              rw [hlen]
              omega
            · intro p x hp j cc hj
              rw [hgetD]
              have hkeep := hext.keeps
              rw [List.getElem?_append] at hp
              split at hp
              · rename_i hlt
                have h3 := (cells_at hos hp hj).2.2
                rw [if_neg (by rw [hnn]; omega)]
                have hv := hor p x hp j cc hj
                have hlto : p * size + j < olds.length := by rw [hol, hnn]; exact h3
                have hc' := hob b (fun _ => rfl) _ _ (List.getElem?_eq_getElem hlto)
                simp only [World.cell?, hheap] at hc'
                have h2 : p * size + j < arr.size := by simp only [Array.length_toList] at hfits'; rw [hnn] at hfits'; omega
                simp only [Option.isSome_none, Bool.false_eq_true, if_false, Array.getElem?_eq_getElem h2, Option.some.injEq] at hc'
                have e1 : arr.getD (p * size + j) undef = olds.getD (p * size + j) undef := by
                  simp [Array.getD, h2, List.getD_eq_getElem?_getD, List.getElem?_eq_getElem hlto, hc']
                rw [e1]
                exact ⟨hv.keeps hkeep, ho1 _ (by simp [List.getD_eq_getElem?_getD, List.getElem?_eq_getElem hlto])⟩
              · rename_i hge
                have h3 := (cells_at hns hp hj).2.2
                have hle : xs.length * size ≤ p * size := Nat.mul_le_mul_right _ (by omega)
                have e2 : p * size + j - n * size = (p - xs.length) * size + j := by rw [Nat.sub_mul, hnn]; omega
                rw [if_pos ⟨by rw [hnn]; omega, by rw [hnl, hnn, hm]; rw [Nat.sub_mul] at h3; omega⟩, e2]
                have hltn : (p - xs.length) * size + j < news.length := by rw [hnl, hm]; exact h3
                exact ⟨(hnr _ x hp j cc hj).keeps hkeep, hn1 _ (by simp [List.getD_eq_getElem?_getD, List.getElem?_eq_getElem hltn])⟩
          · refine .inr ⟨b, _, el, by simp [upd], setRow_heap w b arr _ el _ hheap, h0, ?_, by simp [St', upd, hlen]⟩
            simp only [upd, if_true, List.size_toArray, List.length_append, List.length_take, List.length_drop, Array.length_toList]
            simp only [Array.length_toList] at hfits'
            omega
          · have h1 := hob'.1
            simp only [upd, if_true, Option.some.injEq, Addr.mk.injEq, and_true] at h1
            subst h1
            exact .inr hown
          · have := arel_row (h := h) (G' := ⟨St', upd G.hd k ⟨some ⟨b, 0, none⟩, cap⟩⟩) (w' := w.setRow b (arr.toList.take (n * size) ++ news ++ arr.toList.drop (n * size + news.length)).toArray) k size (xs ++ ys) ⟨some ⟨b, 0, none⟩, cap⟩ (by simp [upd])
            rw [hlen] at this
            exact this
      · -- a new block
        have hrunx : ∃ (cap' : Nat) (rest : List Value), n + m ≤ cap' ∧ rest.length = (cap' - (n + m)) * size ∧
            (Builtin.append_ #[t, t] ty #[.slice A n cap, .slice (some ad) m c]).run P w = .ok (.slice (some ⟨w.heap.size, 0, none⟩) (n + m) cap') (w.drew.alloc (.cells (olds ++ news ++ rest).toArray e)) := by
          cases A with
          | none =>
            have hn0 : n = 0 := by
              rcases Nat.eq_zero_or_pos n with h | h
              · exact h
              · obtain ⟨_, h, _⟩ := hoa h; cases h
            have hc0 : cap = 0 := by
              rcases hcap with hc | ⟨_, _, _, _, h, _⟩
              · omega
              · cases h
            subst hn0
            subst hc0
            have ho0 : olds = [] := List.eq_nil_of_length_eq_zero (by simpa using hol)
            subst ho0
            have hr := run_append_nil (P := P) w t ty e inf z ht hi hz ad m c news (by rw [hn]; exact hnl) hcells hm0 (by omega) (by rw [hb]; have := hroom; rw [← hnn, ← hm] at this; simp only [Nat.zero_add] at this; omega)
            refine ⟨grownCap w m 0 e, (Builtin.zeroCells z.cells (grownCap w m 0 e - m)).toList, by have := grownCap_ge w m 0 e; omega, by simp [size_zeroCells, hzs], ?_⟩
            have harr : (news.toArray ++ Builtin.zeroCells z.cells (grownCap w m 0 e - m)) = ([] ++ news ++ (Builtin.zeroCells z.cells (grownCap w m 0 e - m)).toList).toArray := by
              apply Array.ext'
              simp
            rw [hr, harr, Nat.zero_add]
          | some bd =>
            have holds : ∀ (j : Nat) u, olds[j]? = some u → w.cell? (bd.add j) = some u := by
              intro j u hj
              have hjl := (List.getElem?_eq_some_iff.1 hj).1
              have hnp : 0 < n := by
                rcases Nat.eq_zero_or_pos n with h | h
                · rw [hol, h] at hjl; simp at hjl
                · exact h
              obtain ⟨ad', he, hc⟩ := hoa hnp
              cases he
              exact hc j u hj
            have hr := run_append_grow (P := P) w t ty e inf z ht hi hz bd n cap olds (by rw [hn]; exact hol) holds ad m c news (by rw [hn]; exact hnl) hcells (by omega) (by omega) (growslice_fits (by omega) (by rw [hb, hnn, hm]; exact hroom))
            refine ⟨grownCap w (n + m) cap e, (Builtin.zeroCells z.cells (grownCap w (n + m) cap e - (n + m))).toList, grownCap_ge w (n + m) cap e, by simp [size_zeroCells, hzs], ?_⟩
            have harr : (olds.toArray ++ news.toArray ++ Builtin.zeroCells z.cells (grownCap w (n + m) cap e - (n + m))) = (olds ++ news ++ (Builtin.zeroCells z.cells (grownCap w (n + m) cap e - (n + m))).toList).toArray := by
              apply Array.ext'
              simp
            rw [hr, harr]
        obtain ⟨cap', rest, hge, hrl, hrun⟩ := hrunx
        have hall : (olds ++ news ++ rest).toArray.size = cap' * size := by
          simp only [List.size_toArray, List.length_append, hol, hnl, hrl, ← Nat.add_mul]
          congr 1
          omega
        have hz : G.St w.heap.size = 0 := by
          rcases Nat.eq_zero_or_pos (G.St w.heap.size) with h0 | h0
          · exact h0
          · have := i.st _ h0; omega
        let St' : Nat → Nat := upd G.St w.heap.size ((n + m) * size)
        have hnew : (w.drew.alloc (.cells (olds ++ news ++ rest).toArray e)).heap[w.heap.size]? = some (.cells (olds ++ news ++ rest).toArray e (0, 0)) := heap_alloc_new w.drew _
        have hold : ∀ b', b' < w.heap.size → (w.drew.alloc (.cells (olds ++ news ++ rest).toArray e)).heap[b']? = w.heap[b']? := fun b' hb' => heap_alloc_old w.drew _ b' hb'
        refine ⟨_, _, ⟨St', upd G.hd k ⟨some ⟨w.heap.size, 0, none⟩, cap'⟩⟩, hrun, step_gen i k _ ⟨some ⟨w.heap.size, 0, none⟩, cap'⟩ St' _ rfl rfl rfl (by simp) (fun b' hb' _ => ⟨hold b' hb', by simp [St', upd, show b' ≠ w.heap.size by omega]⟩) (fun b' hb' => ⟨by simp [St', upd, show b' ≠ w.heap.size by omega], fun j hj => World.cell?_of_block (w := w) (a := ⟨b', j, none⟩) (hold b' hb')⟩) (fun b' hb' => ?_) (fun hext => ⟨?_, ?_⟩) (fun b' hob' => ?_), ?_⟩
        · simp only [St', upd] at hb'
          split at hb'
          · rename_i e; rw [e]; simp
          · have := i.st b' hb'; simp; omega
        · simp only [upd, if_true]
          refine rel_block w.heap.size _ e hnew cap' size (xs ++ ys) (by omega) (by omega) hs ?_ ?_ ?_
          · simp [St', upd, hlen]
          · rw [hall, hlen]; exact Nat.mul_le_mul_right _ hge
          · intro p x hp j cc hj
            have hkeep := hext.keeps
            have h3 := (cells_at hs hp hj).2.2
            rw [hlen] at h3
            have e1 : (olds ++ news ++ rest).toArray.getD (p * size + j) undef = (olds ++ news).getD (p * size + j) undef := by
              have hlt : p * size + j < (olds ++ news).length := by simp only [List.length_append, hol, hnl, ← Nat.add_mul]; exact h3
              simp only [Array.getD_eq_getD_getElem?, List.getElem?_toArray, List.getD_eq_getElem?_getD]
              rw [List.getElem?_append_left hlt]
            rw [e1]
            refine app_get hos (by rw [hol, hnn]) (fun v cc => Rel St' _ v cc ∧ v.oneCell' = true) (fun p x hp j cc hj => ⟨(hor p x hp j cc hj).keeps hkeep, ?_⟩) (fun p y hp j cc hj => ⟨(hnr p y hp j cc hj).keeps hkeep, ?_⟩) p x hp j cc hj
            · have h4 := (cells_at hos hp hj).2.2
              have hlto : p * size + j < olds.length := by rw [hol, hnn]; exact h4
              exact ho1 _ (by simp [List.getD_eq_getElem?_getD, List.getElem?_eq_getElem hlto])
            · have h4 := (cells_at hns hp hj).2.2
              have hltn : p * size + j < news.length := by rw [hnl, hm]; exact h4
              exact hn1 _ (by simp [List.getD_eq_getElem?_getD, List.getElem?_eq_getElem hltn])
        · exact .inr ⟨w.heap.size, _, e, by simp [upd], hnew, h0, by simp only [upd, if_true]; exact hall, by simp [St', upd, hlen]⟩
        · have h1 := hob'.1
          simp only [upd, if_true, Option.some.injEq, Addr.mk.injEq, and_true] at h1
          exact .inl (by omega)
        · have := arel_row (h := h) (G' := ⟨St', upd G.hd k ⟨some ⟨w.heap.size, 0, none⟩, cap'⟩⟩) (w' := w.drew.alloc (.cells (olds ++ news ++ rest).toArray e)) k size (xs ++ ys) ⟨some ⟨w.heap.size, 0, none⟩, cap'⟩ (by simp [upd])
          rw [hlen] at this
          exact this

theorem arel_rowf {G' : GS} {w' : World} (k sz : Nat) (xs : List D) (fz : Bool) (hd : Hd) (hG : G'.hd k = hd) : ARel G' (newE h k (.row sz xs fz)) w' (.slice hd.A xs.length hd.cap) (.rsl k ((h k).ver + 1)) := by
  refine .rsl _ _ _ rfl (by simp [newE, upd]) fun _ sz' xs' fz' hb => ?_
  have hb' : (newE h k (.row sz xs fz) k).body = .row sz' xs' fz' := hb
  simp only [newE, upd, if_true, Body.row.injEq] at hb'
  rw [hG, ← hb'.2.1]

/-- An own row at key k is appended to. -/
theorem did_app_own (i : Inv G h w) (k : Nat) (t e : TypeId) (ty : TypeId) {size bytes : Nat} (ht : P.underlying t = some (.slice e)) (hn : sz? P e = some size) (hb : byt? P e = some bytes) (hz0 : ((P.info? e).bind (·.zero)).map (·.cells.size) = some size) (h0 : 0 < size) (hb0 : 0 < bytes)
    {B : Option Addr} {m c : Nat} {xs ys : List D} (hbk : (h k).body = .row size xs false) (ry : Rel G.St w (.slice B m c) (.sl size ys)) (hroom : (xs.length + ys.length) * bytes ≤ maxRoom) :
    ∃ v' w' G', (Builtin.append_ #[t, t] ty #[.slice (G.hd k).A xs.length (G.hd k).cap, .slice B m c]).run P w = .ok v' w' ∧ Step G h w G' (newE h k (.row size (xs ++ ys) false)) w' ∧ ARel G' (newE h k (.row size (xs ++ ys) false)) w' v' (.rsl k ((h k).ver + 1)) := by
  obtain ⟨news, hm, hnl, hn1, hnr, hna, hns, _⟩ := elems_cells ry
  have hk := i.ent k
  rw [hbk] at hk
  have hlen : (xs ++ ys).length = xs.length + m := by simp; omega
  simp only [maxRoom] at hroom
  have hroom' : xs.length + m ≤ 140737488355328 := by
    have : (xs.length + ys.length) * 1 ≤ (xs.length + ys.length) * bytes := Nat.mul_le_mul_left _ hb0
    omega
  cases hi : P.info? e with
  | none => simp [hi] at hz0
  | some inf =>
    simp only [sz?, hi, Option.map_some, Option.some.injEq] at hn
    simp only [byt?, hi, Option.map_some, Option.some.injEq] at hb
    simp only [hi, Option.bind_some] at hz0
    obtain ⟨z, hz, hzs⟩ := Option.map_eq_some_iff.1 hz0
    have hncap : xs.length ≤ (G.hd k).cap := by
      rcases hk with ⟨_, _, z3⟩ | ⟨_, _, _, _, _, _, hcap, _⟩
      · subst z3; exact Nat.zero_le _
      · rcases hcap with h | h <;> omega
    rcases Nat.eq_zero_or_pos m with hm0 | hm0
    · -- nothing is appended
      have hys : ys = [] := List.eq_nil_of_length_eq_zero (by omega)
      subst hys
      have hnews : news = [] := List.eq_nil_of_length_eq_zero (by rw [hnl, hm0]; simp)
      subst hm0
      refine ⟨.slice (G.hd k).A xs.length (G.hd k).cap, w, ⟨G.St, upd G.hd k (G.hd k)⟩, ?_, step_gen i k _ (G.hd k) G.St w rfl rfl rfl (Nat.le_refl _) (fun _ _ _ => ⟨rfl, rfl⟩) (fun _ _ => ⟨Nat.le_refl _, fun _ _ => rfl⟩) i.st (fun hext => ?_) (fun b hob' => ?_), ?_⟩
      · generalize (G.hd k).A = A at hncap ⊢
        cases A <;> cases B <;> simp [Builtin.append_, underlying, sizeOf, typeInfo, program, ht, hi, Builtin.lenOf, Builtin.firstCells, loadCells, loadCellsFrom, storeCells, hncap, Sem.run, Sem.run_bind, Sem.run_pure]
      · rw [List.append_nil]
        rcases hk with ⟨z1, z2, z3⟩ | ⟨b, arr, el, hA, hheap, hsz, hcap, hmx, hcs, hrel, hst⟩
        · exact .inl ⟨by simp only [upd, if_true]; exact z1, by simp only [upd, if_true]; exact z2, z3⟩
        · exact .inr ⟨b, arr, el, by simp only [upd, if_true]; exact hA, hheap, by simp only [upd, if_true]; exact hsz, by simp only [upd, if_true]; exact hcap, hmx, hcs, fun p x hp j c hj => ⟨(hrel p x hp j c hj).1.keeps hext.keeps, (hrel p x hp j c hj).2⟩, hst⟩
      · have h1 := hob'.1
        simp only [upd, if_true] at h1
        rw [hbk]
        exact .inr ⟨h1, fun hf => by cases hf⟩
      · have := arel_rowf (h := h) (G' := ⟨G.St, upd G.hd k (G.hd k)⟩) (w' := w) k size (xs ++ []) false (G.hd k) (by simp [upd])
        simpa using this
    · obtain ⟨ad, hB, hcells⟩ := hna hm0
      subst hB
      have grow : ∀ (olds : List Value) (cap' : Nat) (rest : List Value), olds.length = xs.length * size → (∀ x ∈ xs, x.cells.length = size) → (∀ u ∈ olds, u.oneCell' = true) → (∀ (p : Nat) x, xs[p]? = some x → ∀ (j : Nat) cc, x.cells[j]? = some cc → Rel G.St w (olds.getD (p * size + j) undef) cc) →
          xs.length + m ≤ cap' → rest.length = (cap' - (xs.length + m)) * size →
          (Builtin.append_ #[t, t] ty #[.slice (G.hd k).A xs.length (G.hd k).cap, .slice (some ad) m c]).run P w = .ok (.slice (some ⟨w.heap.size, 0, none⟩) (xs.length + m) cap') (w.drew.alloc (.cells (olds ++ news ++ rest).toArray e)) →
          ∃ v' w' G', (Builtin.append_ #[t, t] ty #[.slice (G.hd k).A xs.length (G.hd k).cap, .slice (some ad) m c]).run P w = .ok v' w' ∧ Step G h w G' (newE h k (.row size (xs ++ ys) false)) w' ∧ ARel G' (newE h k (.row size (xs ++ ys) false)) w' v' (.rsl k ((h k).ver + 1)) := by
        intro olds cap' rest hol hos ho1 hor hge hrl hrun
        have hs : ∀ x ∈ xs ++ ys, x.cells.length = size := fun x hx => by
          rcases List.mem_append.1 hx with hx | hx
          · exact hos x hx
          · exact hns x hx
        have hall : (olds ++ news ++ rest).toArray.size = cap' * size := by
          simp only [List.size_toArray, List.length_append, hol, hnl, hrl, ← Nat.add_mul]
          congr 1
          omega
        have hzz : G.St w.heap.size = 0 := by
          rcases Nat.eq_zero_or_pos (G.St w.heap.size) with h0 | h0
          · exact h0
          · have := i.st _ h0; omega
        have hnew : (w.drew.alloc (.cells (olds ++ news ++ rest).toArray e)).heap[w.heap.size]? = some (.cells (olds ++ news ++ rest).toArray e (0, 0)) := heap_alloc_new w.drew _
        have hold : ∀ b', b' < w.heap.size → (w.drew.alloc (.cells (olds ++ news ++ rest).toArray e)).heap[b']? = w.heap[b']? := fun b' hb' => heap_alloc_old w.drew _ b' hb'
        refine ⟨_, _, ⟨G.St, upd G.hd k ⟨some ⟨w.heap.size, 0, none⟩, cap'⟩⟩, hrun, step_gen i k _ ⟨some ⟨w.heap.size, 0, none⟩, cap'⟩ G.St _ rfl rfl rfl (by simp) (fun b' hb' _ => ⟨hold b' hb', rfl⟩) (fun b' hb' => ⟨Nat.le_refl _, fun j hj => World.cell?_of_block (w := w) (a := ⟨b', j, none⟩) (hold b' hb')⟩) (fun b' hb' => by have := i.st b' hb'; simp; omega) (fun hext => ?_) (fun b' hob' => ?_), ?_⟩
        · refine .inr ⟨w.heap.size, _, e, by simp [upd], hnew, by simp only [upd, if_true]; exact hall, .inr ⟨h0, by simp only [upd, if_true]; rw [hlen]; exact hge⟩, by omega, hs, fun p x hp j cc hj => ?_, hzz⟩
          have hkeep := hext.keeps
          have h3 := (cells_at hs hp hj).2.2
          rw [hlen] at h3
          have e1 : (olds ++ news ++ rest).toArray.getD (p * size + j) undef = (olds ++ news).getD (p * size + j) undef := by
            have hlt : p * size + j < (olds ++ news).length := by simp only [List.length_append, hol, hnl, ← Nat.add_mul]; exact h3
            simp only [Array.getD_eq_getD_getElem?, List.getElem?_toArray, List.getD_eq_getElem?_getD]
            rw [List.getElem?_append_left hlt]
          rw [e1]
          refine app_get hos hol (fun v cc => Rel G.St _ v cc ∧ v.oneCell' = true) (fun p x hp j cc hj => ⟨(hor p x hp j cc hj).keeps hkeep, ?_⟩) (fun p y hp j cc hj => ⟨(hnr p y hp j cc hj).keeps hkeep, ?_⟩) p x hp j cc hj
          · have h4 := (cells_at hos hp hj).2.2
            have hlto : p * size + j < olds.length := by rw [hol]; exact h4
            exact ho1 _ (by simp [List.getD_eq_getElem?_getD, List.getElem?_eq_getElem hlto])
          · have h4 := (cells_at hns hp hj).2.2
            have hltn : p * size + j < news.length := by rw [hnl, hm]; exact h4
            exact hn1 _ (by simp [List.getD_eq_getElem?_getD, List.getElem?_eq_getElem hltn])
        · have h1 := hob'.1
          simp only [upd, if_true, Option.some.injEq, Addr.mk.injEq, and_true] at h1
          exact .inl (by omega)
        · have := arel_rowf (h := h) (G' := ⟨G.St, upd G.hd k ⟨some ⟨w.heap.size, 0, none⟩, cap'⟩⟩) (w' := w.drew.alloc (.cells (olds ++ news ++ rest).toArray e)) k size (xs ++ ys) false ⟨some ⟨w.heap.size, 0, none⟩, cap'⟩ (by simp [upd])
          rw [hlen] at this
          exact this
      rcases hk with ⟨z1, z2, z3⟩ | ⟨b, arr, el, hA, hheap, hsz, hcap, hmx, hcs, hrel, hst⟩
      · -- none yet
        subst z3
        refine grow [] (grownCap w m 0 e) (Builtin.zeroCells z.cells (grownCap w m 0 e - m)).toList (by simp) (by simp) (by simp) (by simp) (by have := grownCap_ge w m 0 e; simpa using this) (by simp [size_zeroCells, hzs]) ?_
        have hr := run_append_nil (P := P) w t ty e inf z ht hi hz ad m c news (by rw [hn]; exact hnl) hcells hm0 (by simp only [List.length_nil, Nat.zero_add] at hroom'; omega) (by rw [hb]; rw [← hm] at hroom; simp only [List.length_nil, Nat.zero_add] at hroom; omega)
        have harr : (news.toArray ++ Builtin.zeroCells z.cells (grownCap w m 0 e - m)) = ([] ++ news ++ (Builtin.zeroCells z.cells (grownCap w m 0 e - m)).toList).toArray := by
          apply Array.ext'
          simp
        rw [z1, z2, List.length_nil, hr, harr, Nat.zero_add]
      · have hcl : xs.length * size ≤ arr.size := by rw [hsz]; exact Nat.mul_le_mul_right _ hncap
        have hos := hcs
        by_cases hfit : xs.length + m ≤ (G.hd k).cap
        · -- there is room
          have hfits : xs.length * size + news.length ≤ arr.size := by
            rw [hnl, ← Nat.add_mul, hsz]; exact Nat.mul_le_mul_right _ hfit
          have hf := run_firstCells_some (P := P) w inf.size m ad m c news (by rw [hn]; exact hnl) hcells
          have hst2 := run_storeCells_at P b (xs.length * size) el news 0 arr w hheap (by simpa using hfits) hn1
          simp only [Nat.add_zero] at hst2
          have hadd : (⟨b, 0, none⟩ : Addr).add (xs.length * inf.size) = ⟨b, xs.length * size, none⟩ := by rw [add_none, Nat.zero_add, hn]
          have hrun : (Builtin.append_ #[t, t] ty #[.slice (some ⟨b, 0, none⟩) xs.length (G.hd k).cap, .slice (some ad) m c]).run P w = .ok (.slice (some ⟨b, 0, none⟩) (xs.length + m) (G.hd k).cap) (w.setRow b (arr.toList.take (xs.length * size) ++ news ++ arr.toList.drop (xs.length * size + news.length)).toArray) := by
            generalize w.setRow b (arr.toList.take (xs.length * size) ++ news ++ arr.toList.drop (xs.length * size + news.length)).toArray = W at hst2 ⊢
            simp [Builtin.append_, run_underlying ht, sizeOf, typeInfo, hi, Builtin.lenOf, hfit, hf, hadd, hst2]
          have hblt := (Array.getElem?_eq_some_iff.1 hheap).1
          have hput : (arr.toList.take (xs.length * size) ++ news ++ arr.toList.drop (xs.length * size + news.length)) = put (xs.length * size) news arr.toList := rfl
          have hfits' : xs.length * size + news.length ≤ arr.toList.length := by simpa using hfits
          have hgetD : ∀ q, (arr.toList.take (xs.length * size) ++ news ++ arr.toList.drop (xs.length * size + news.length)).toArray.getD q undef = if xs.length * size ≤ q ∧ q < xs.length * size + news.length then news.getD (q - xs.length * size) undef else arr.getD q undef := by
            intro q
            rw [hput]
            have := put_get (xs.length * size) news arr.toList hfits' q
            simp only [Array.getD_eq_getD_getElem?, List.getElem?_toArray, this]
            split
            · rw [List.getD_eq_getElem?_getD]
            · rw [Array.getElem?_toList]
          have hown : Owns G k b (h k).body := by rw [hbk]; exact ⟨hA, fun hf => by cases hf⟩
          have hs : ∀ x ∈ xs ++ ys, x.cells.length = size := fun x hx => by
            rcases List.mem_append.1 hx with hx | hx
            · exact hos x hx
            · exact hns x hx
          rw [hA]
          refine ⟨_, _, ⟨G.St, upd G.hd k ⟨some ⟨b, 0, none⟩, (G.hd k).cap⟩⟩, hrun, step_gen i k _ ⟨some ⟨b, 0, none⟩, (G.hd k).cap⟩ G.St _ rfl rfl rfl (by simp) (fun b' hb' hno => ?_) (fun b' hb' => ?_) (fun b' hb' => ?_) (fun hext => ?_) (fun b' hob' => ?_), ?_⟩
          · have hne : b' ≠ b := fun e => hno (e ▸ hown)
            exact ⟨setRow_other w b b' _ hne, rfl⟩
          · by_cases hbb : b' = b
            · subst hbb
              exact ⟨Nat.le_refl _, fun j hj => by omega⟩
            · exact ⟨Nat.le_refl _, fun j hj => setRow_cell hheap b' j hbb⟩
          · simpa using i.st b' hb'
          · refine .inr ⟨b, _, el, by simp [upd], setRow_heap w b arr _ el _ hheap, ?_, .inr ⟨h0, by simp only [upd, if_true]; rw [hlen]; exact hfit⟩, by omega, hs, fun p x hp j cc hj => ?_, hst⟩
            · simp only [upd, if_true, List.size_toArray, List.length_append, List.length_take, List.length_drop, Array.length_toList]
              rw [← hsz]
              omega
            · rw [hgetD]
              have hkeep := hext.keeps
              rw [List.getElem?_append] at hp
              split at hp
              · rename_i hlt
                have h3 := (cells_at hos hp hj).2.2
                rw [if_neg (by omega)]
                exact ⟨(hrel p x hp j cc hj).1.keeps hkeep, (hrel p x hp j cc hj).2⟩
              · rename_i hge
                have h3 := (cells_at hns hp hj).2.2
                have hle : xs.length * size ≤ p * size := Nat.mul_le_mul_right _ (by omega)
                have e2 : p * size + j - xs.length * size = (p - xs.length) * size + j := by rw [Nat.sub_mul]; omega
                rw [if_pos ⟨by omega, by rw [hnl, hm]; rw [Nat.sub_mul] at h3; omega⟩, e2]
                have hltn : (p - xs.length) * size + j < news.length := by rw [hnl, hm]; exact h3
                exact ⟨(hnr _ x hp j cc hj).keeps hkeep, hn1 _ (by simp [List.getD_eq_getElem?_getD, List.getElem?_eq_getElem hltn])⟩
          · have h1 := hob'.1
            simp only [upd, if_true, Option.some.injEq, Addr.mk.injEq, and_true] at h1
            subst h1
            exact .inr hown
          · have := arel_rowf (h := h) (G' := ⟨G.St, upd G.hd k ⟨some ⟨b, 0, none⟩, (G.hd k).cap⟩⟩) (w' := w.setRow b (arr.toList.take (xs.length * size) ++ news ++ arr.toList.drop (xs.length * size + news.length)).toArray) k size (xs ++ ys) false ⟨some ⟨b, 0, none⟩, (G.hd k).cap⟩ (by simp [upd])
            rw [hlen] at this
            exact this
        · -- a new block
          have hol : (arr.toList.take (xs.length * size)).length = xs.length * size := by simp only [List.length_take, Array.length_toList]; omega
          have hget : ∀ q, q < xs.length * size → (arr.toList.take (xs.length * size)).getD q undef = arr.getD q undef := by
            intro q hq
            have hqa : q < arr.size := by omega
            simp only [List.getD_eq_getElem?_getD, List.getElem?_take, hq, if_true, Array.getElem?_toList, Array.getD_eq_getD_getElem?]
          have holds : ∀ (j : Nat) u, (arr.toList.take (xs.length * size))[j]? = some u → w.cell? ((⟨b, 0, none⟩ : Addr).add j) = some u := by
            intro j u hj
            have hjl := (List.getElem?_eq_some_iff.1 hj).1
            rw [hol] at hjl
            simp only [List.getElem?_take, hjl, if_true, Array.getElem?_toList] at hj
            rw [add_none, Nat.zero_add]
            simp only [World.cell?, hheap, Option.isSome_none, Bool.false_eq_true, if_false]
            exact hj
          have ho1 : ∀ u ∈ arr.toList.take (xs.length * size), u.oneCell' = true := by
            intro u hu
            obtain ⟨q, hq⟩ := List.getElem?_of_mem hu
            have hql := (List.getElem?_eq_some_iff.1 hq).1
            rw [hol] at hql
            have e : arr.getD q undef = u := by rw [← hget q hql, List.getD_eq_getElem?_getD, hq]; rfl
            have hpl : q / size < xs.length := by rw [Nat.div_lt_iff_lt_mul h0]; exact hql
            have hjl : q % size < xs[q / size].cells.length := by rw [hos _ (List.getElem_mem hpl)]; exact Nat.mod_lt _ h0
            have := (hrel (q / size) _ (List.getElem?_eq_getElem hpl) (q % size) _ (List.getElem?_eq_getElem hjl)).2
            have e3 : q / size * size + q % size = q := by rw [Nat.mul_comm]; exact Nat.div_add_mod q size
            rw [e3, e] at this
            exact this
          refine grow (arr.toList.take (xs.length * size)) (grownCap w (xs.length + m) (G.hd k).cap e) (Builtin.zeroCells z.cells (grownCap w (xs.length + m) (G.hd k).cap e - (xs.length + m))).toList hol hos ho1 (fun p x hp j cc hj => ?_) (grownCap_ge w (xs.length + m) (G.hd k).cap e) (by simp [size_zeroCells, hzs]) ?_
          · have h3 := (cells_at hos hp hj).2.2
            rw [hget _ h3]
            exact (hrel p x hp j cc hj).1
          have hr := run_append_grow (P := P) w t ty e inf z ht hi hz ⟨b, 0, none⟩ xs.length (G.hd k).cap (arr.toList.take (xs.length * size)) (by rw [hn]; exact hol) holds ad m c news (by rw [hn]; exact hnl) hcells (by omega) (by omega) (growslice_fits (by omega) (by rw [hb, hm]; exact hroom))
          have harr : ((arr.toList.take (xs.length * size)).toArray ++ news.toArray ++ Builtin.zeroCells z.cells (grownCap w (xs.length + m) (G.hd k).cap e - (xs.length + m))) = ((arr.toList.take (xs.length * size)) ++ news ++ (Builtin.zeroCells z.cells (grownCap w (xs.length + m) (G.hd k).cap e - (xs.length + m))).toList).toArray := by
            apply Array.ext'
            simp
          rw [hA, hr, harr]

theorem elemsS_rel (i : Inv G h w) {v : Value} {av : AV} (r : ARel G h w v av) {sz : Nat} {xs : List D} (he : elemsS h av = some (sz, xs)) : Rel G.St w v (.sl sz xs) := by
  unfold elemsS at he
  split at he
  · simp only [Option.some.injEq, Prod.mk.injEq] at he
    obtain ⟨rfl, rfl⟩ := he
    exact r.d_inv
  · simp only [Option.some.injEq, Prod.mk.injEq] at he
    obtain ⟨rfl, rfl⟩ := he
    cases r with | fsl A n _ _ hr => exact hr
  · rename_i k ver
    split at he
    · rename_i hver
      split at he
      · rename_i sz' xs' hb
        simp only [Option.some.injEq, Prod.mk.injEq] at he
        obtain ⟨rfl, rfl⟩ := he
        have hent := i.ent k
        rw [hb] at hent
        cases r with
        | rsl _ _ _ hone_ hle hv =>
          rw [hv hver _ _ _ hb]
          exact hent.1
      · cases he
    · cases he
  · cases he

theorem did_app (i : Inv G h w) (sl : Slots G h w a s) (t e : TypeId) (x y : Operand) {size bytes : Nat} (ht : P.underlying t = some (.slice e)) (hn : sz? P e = some size) (hb : byt? P e = some bytes) (hz0 : ((P.info? e).bind (·.zero)).map (·.cells.size) = some size) (h0 : 0 < size) (hb0 : 0 < bytes)
    {av : AV} {h' : Nat → Ent} (dst : Option Nat) (hact : act dst ⟨s, h⟩ (.app size bytes (copd P t x) (copd P t y)) = some (av, h')) (ho : o.op = .call { callee := .builtin .append, args := #[x, y], argTypes := #[t, t] }) : Did P G h w ((execOp a.eval o).run P w) av h' := by
  have h1 := copd_ok P sl t x
  have h2 := copd_ok P sl t y
  simp only [act] at hact
  split at hact
  · rename_i sy ys hy
    split at hact
    · rename_i hsy
      subst hsy
      have ry := elemsS_rel i h2 hy
      generalize hyv : a.eval y = yv at ry
      have hys : ∃ B m c, yv = .slice B m c := by cases ry; exact ⟨_, _, _, rfl⟩
      obtain ⟨B, m, c, rfl⟩ := hys
      split at hact
      · rename_i k v hx
        rw [hx] at h1
        split at hact
        · rename_i hver
          split at hact
          · rename_i sz xs fz hbk
            split at hact
            · rename_i hc
              obtain ⟨rfl, hroom⟩ := hc
              simp only [Option.some.injEq, Prod.mk.injEq] at hact
              obtain ⟨rfl, rfl⟩ := hact
              have he := i.ent k
              rw [hbk] at he
              generalize hxv : a.eval x = xv at h1
              cases h1 with
              | rsl _ _ _ hone_ hle hv =>
                have hxe := hv hver _ _ _ hbk
                subst hxe
                cases fz with
                | false =>
                  obtain ⟨v', w', G', hrun, hs, hr⟩ := did_app_own (P := P) i k t e o.type ht hn hb hz0 h0 hb0 hbk ry hroom
                  rw [hver]
                  exact ⟨v', w', G', .inl (by simp [execOp, ho, resolve, invoke, builtin, hxv, hyv, hrun, Sem.run_bind, Sem.run_pure]), hs, hr⟩
                | true =>
                obtain ⟨v', w', G', hrun, hs, hr⟩ := did_app_core (P := P) i k t e o.type ht hn hb hz0 h0 hb0 he.1 ry hroom (by
                  by_cases hcl : (G.hd k).cap = xs.length
                  · exact .inl hcl
                  · rcases he.2 with hc | ⟨b, arr, el, hA, hheap, _, hsz, hst⟩
                    · exact .inl hc
                    · refine .inr ⟨?_, b, arr, el, hA, hheap, hsz, hst⟩
                      rw [hbk, hA]
                      exact ⟨hA, fun _ => hcl⟩)
                rw [hver]
                exact ⟨v', w', G', .inl (by simp [execOp, ho, resolve, invoke, builtin, hxv, hyv, hrun, Sem.run_bind, Sem.run_pure]), hs, hr⟩
            · cases hact
          · cases hact
        · cases hact
      · rename_i sz xs hx
        rw [hx] at h1
        cases dst with
        | none => simp at hact
        | some k =>
          simp only [Option.bind_some] at hact
          split at hact
          · rename_i hc
            obtain ⟨rfl, hroom⟩ := hc
            simp only [Option.some.injEq, Prod.mk.injEq] at hact
            obtain ⟨rfl, rfl⟩ := hact
            generalize hxv : a.eval x = xv at h1
            cases h1 with
            | fsl A n _ _ hr =>
              have hnn : n = xs.length := by cases hr; rfl
              obtain ⟨v', w', G', hrun, hs, hr'⟩ := did_app_core (P := P) i k t e o.type ht hn hb hz0 h0 hb0 hr ry hroom (.inl hnn)
              exact ⟨v', w', G', .inl (by simp [execOp, ho, resolve, invoke, builtin, hxv, hyv, hrun, Sem.run_bind, Sem.run_pure]), hs, hr'⟩
          · cases hact
      · cases hact
    · cases hact
  · cases hact

end
end Ev
end Go.Proofs.Ytnkbhmafebngjaa
