/- slices.Clone at bytes, by the shelf's contract. -/
import Derived.Test.YtjebpfhffenbnaaZA
import Derived.Shelf.SlicesE.Clone
import Derived.WalkKit
import Derived.Lib.SliceRun
namespace Go.Proofs.Ytjebpfhffenbnaa
namespace Ev
open Go
set_option maxRecDepth 100000
set_option linter.unusedSimpArgs false
set_option linter.unusedVariables false
attribute [local simp] allD_map_d sks_map_d tk tn tks initA EndsM
/-- Bytes as data. -/
def eB (l : List Int) : D := .sl 1 (l.map (.int .u8))
/-- The shelf's numbers told in ours. -/
def rhoC : Go.Shelf.Ren := ⟨fun x => if x = 41 then 29 else x, fun x => if x = 4 then 4 else if x = 22 then 26 else if x = 23 then 5 else x, fun x => x⟩
theorem laysC : SlLaysE0.n41 Try.prog rhoC where
  mixed := hm
  f41 := ⟨Try.f29.name, by kernel_rfl, Try.func29.trans (by kernel_rfl)⟩
  t4 := Try.underlying4
  a4 := Try.isAgg4
  z4 := Try.sizeOf4
  v4 := Try.zeroValue4
  t22 := Try.underlying26
  a22 := Try.isAgg26
  z22 := Try.sizeOf26
  v22 := Try.zeroValue26
theorem info_u8 : ∃ i, Try.prog.info? 5 = some i ∧ i.zero = some (.int .u8 0) ∧ i.size = 1 ∧ i.bytes = 1 := by
  obtain ⟨i, hi⟩ := Option.isSome_iff_exists.1 (by kernel_rfl : (Try.prog.info? 5).isSome = true)
  have e1 : (Try.prog.info? 5).bind (·.zero) = some (.int .u8 0) := by kernel_rfl
  have e2 : (Try.prog.info? 5).map (fun i => i.size) = some 1 := by kernel_rfl
  have e3 : (Try.prog.info? 5).map (fun i => i.bytes) = some 1 := by kernel_rfl
  rw [hi] at e1 e2 e3
  exact ⟨i, hi, e1, by simpa using e2, by simpa using e3⟩
/-- An empty slice that is not nil. -/
theorem clone_empty (a : Addr) (c : Nat) (w : World) : Calls Try.prog n_slices_Clone_byte #[.slice (some a) 0 c] w fun e w' => ∃ v', e = .returned v' ∧ w'.ownsRow w.heap.size 5 1 v' 0 [] ∧ RowKit.Below w.heap.size w w' := by
  obtain ⟨i0, hi0, hz, hs, hby⟩ := info_u8
  have mixed := hm
  have t4 := Try.underlying4; have a4 := Try.isAgg4; have z4 := Try.sizeOf4; have v4 := Try.zeroValue4
  have t22 := Try.underlying26; have a22 := Try.isAgg26; have z22 := Try.sizeOf26; have v22 := Try.zeroValue26
  have z23 := Try.sizeOf5
  have q22 : ∀ (w : World) (a : Option Addr) (n c n' c' : Nat), (binOp .eql 26 (.slice a n c) (.slice none n' c')).run Try.prog w = .ok (.bool a.isNone) w := fun w a n c n' c' => Lib.run_eql_slice_nil w _ _ a n c n' c' Try.underlying26
  have u22 : ∀ w, Sem.run Try.prog (underlying 26) w = .ok (TypeDesc.slice 5) w := run_underlying Try.underlying26
  go_enter Try.func29, Try.ntmps29
  go_wp2_with (at_builtin; refine wpList_append_own _ rfl _ _ 26 rfl w.heap.size 5 i0 (.int .u8 0) 1 1 Try.underlying26 hi0 hz hs hby rfl Nat.one_pos _ _ _ rfl (World.ownsRow_made w #[] 0 (Nat.le_refl _) (Nat.zero_le _) (by simp)) a 0 c [] rfl rfl (fun j u h => by simp at h) (fun u h => by simp at h) (by simp) (by simp) (by simp) ?_)
  intro v' w1 hown hgrow hnil
  go_wp2
  go_ret
  exact ⟨v', rfl, by simpa using hown, ((RowKit.Below.refl _ w).alloc (Nat.le_refl _) _).grown hgrow (by simp) (by intro k hk; simp [Value.ownBlock] at hk; omega)⟩
theorem rowH0 (bs : Body) : rowsH none_ 0 [bs] 0 = ⟨1, bs⟩ := rowsH_at none_ 0 [bs] (q := 0) rfl
theorem rowH1 (bs : Body) {k : Nat} (hk : k ≠ 0) : rowsH none_ 0 [bs] k = ⟨0, .dead⟩ := rowsH_out none_ 0 [bs] fun q hq e => hk (by simp only [List.length_singleton] at hq; rw [e]; simp only [nk]; omega)
theorem clone_ok (l : List Int) (hl : l.length ≤ 1000000000) : OwnC Try.prog n_slices_Clone_byte [eB l] [.one (.row 1 (l.map (.int .u8)) false)] := by
  refine ⟨⟨Try.f29, Try.func29, by decide, rfl⟩, fun St w vs hst hrel => ?_⟩
  obtain ⟨i0, hi0, hz, hs, hby⟩ := info_u8
  match vs, hrel with
  | [v], ⟨_, hrL⟩ =>
    have hr0 := hrL 0 _ rfl
    simp only [List.getD_cons_zero, eB] at hr0
    cases hr0 with
    | sl A cap sz b off xs hc hm1 hsz ha val hv h1 hr =>
      simp only [List.length_map] at hc ha ⊢
      have fin : ∀ (e : Ending) (w' : World), (∃ v', e = .returned v' ∧ w'.ownsRow w.heap.size 5 1 v' l.length (l.map (.int .u8)) ∧ RowKit.Below w.heap.size w w') →
          ∃ (G' : GS) (us : List Value), e = .returned (handed us) ∧ us.length = (valsV none_ 0 0 [.one (.row 1 (l.map (.int .u8)) false)]).length ∧ (∀ (j : Nat) v, (valsV none_ 0 0 [.one (.row 1 (l.map (.int .u8)) false)])[j]? = some v → ARel G' (rowsH none_ 0 (rowsV [.one (.row 1 (l.map (.int .u8)) false)])) w' (us.getD j undef) v) ∧
      Inv G' (rowsH none_ 0 (rowsV [.one (.row 1 (l.map (.int .u8)) false)])) w' ∧ RowKit.Below w.heap.size w w' ∧ (∀ b, b < w.heap.size → G'.St b = St b) ∧ (∀ k b, Owns G' k b (rowsH none_ 0 (rowsV [.one (.row 1 (l.map (.int .u8)) false)]) k).body → w.heap.size ≤ b) := by
        rintro e w' ⟨v', rfl, ⟨_, hown⟩, hB⟩
        have e0 : rowsV [.one (.row 1 (l.map (.int .u8)) false)] = [.row 1 (l.map (.int .u8)) false] := rfl
        rw [e0]
        have hSt0 : ∀ b, w.heap.size ≤ b → St b = 0 := fun b hb => by
          rcases Nat.eq_zero_or_pos (St b) with h | h
          · exact h
          · have := hst b h; omega
        rcases hown with ⟨rfl, hn⟩ | ⟨g, cap', cur, rfl, hg, hh, hle, hml, hcs, htk⟩
        · have hl0 : l = [] := List.eq_nil_of_length_eq_zero hn
          subst hl0
          refine ⟨⟨St, fun _ => ⟨none, 0⟩⟩, [.slice none 0 0], rfl, rfl, fun j v hj => ?_, ⟨fun b hb => Nat.lt_of_lt_of_le (hst b hb) hB.size, fun k => ?_, fun k k' b o1 o2 => ?_⟩, hB, fun _ _ => rfl, fun k b ho => ?_⟩
          · match j, hj with
            | 0, hj =>
              simp only [valsV, oneV, List.getElem?_cons_zero, Option.some.injEq] at hj
              subst hj
              refine .rsl _ _ _ rfl (by rw [show nk 0 0 = 0 from rfl, rowH0]; exact Nat.le_refl _) fun _ sz xs fz hb => ?_
              rw [show nk 0 0 = 0 from rfl, rowH0] at hb
              cases hb
              rfl
            | j + 1, hj => simp [valsV] at hj
          · by_cases hk : k = 0
            · subst hk; rw [rowH0]; exact .inl ⟨rfl, rfl, rfl⟩
            · rw [rowH1 _ hk]; trivial
          · by_cases hk : k = 0
            · subst hk; rw [rowH0] at o1; exact absurd o1.1 (by simp)
            · rw [rowH1 _ hk] at o1; exact o1.elim
          · by_cases hk : k = 0
            · subst hk; rw [rowH0] at ho; exact absurd ho.1 (by simp)
            · rw [rowH1 _ hk] at ho; exact ho.elim
        · refine ⟨⟨St, fun _ => ⟨some ⟨g, 0, none⟩, cap'⟩⟩, [.slice (some ⟨g, 0, none⟩) l.length cap'], rfl, rfl, fun j v hj => ?_, ⟨fun b hb => Nat.lt_of_lt_of_le (hst b hb) hB.size, fun k => ?_, fun k k' b o1 o2 => ?_⟩, hB, fun _ _ => rfl, fun k b ho => ?_⟩
          · match j, hj with
            | 0, hj =>
              simp only [valsV, oneV, List.getElem?_cons_zero, Option.some.injEq] at hj
              subst hj
              refine .rsl _ _ _ rfl (by rw [show nk 0 0 = 0 from rfl, rowH0]; exact Nat.le_refl _) fun _ sz xs fz hb => ?_
              rw [show nk 0 0 = 0 from rfl, rowH0] at hb
              cases hb
              simp
            | j + 1, hj => simp [valsV] at hj
          · by_cases hk : k = 0
            · subst hk
              rw [rowH0]
              refine .inr ⟨g, cur, _, rfl, hh, hcs, .inr ⟨by omega, by simpa using hle⟩, by simp; omega, ?_, ?_, hSt0 g hg⟩
              · intro x hx
                obtain ⟨y, _, rfl⟩ := List.mem_map.1 hx
                rfl
              · intro i x hi j c hj
                rw [List.getElem?_map] at hi
                cases hli : l[i]? with
                | none => rw [hli] at hi; cases hi
                | some y =>
                  rw [hli] at hi
                  cases hi
                  match j, hj with
                  | 0, hj =>
                    simp only [D.cells, List.getElem?_cons_zero, Option.some.injEq] at hj
                    subst hj
                    have hlt := (List.getElem?_eq_some_iff.1 hli).1
                    have : cur.getD (i * 1 + 0) undef = .int .u8 y := by
                      have h2 := congrArg (fun l => l[i]?) htk
                      simp only [List.getElem?_map, hli, Option.map_some, List.getElem?_take, Nat.mul_one, hlt, if_true] at h2
                      simp only [Nat.mul_one, Nat.add_zero, Array.getD_eq_getD_getElem?]
                      rw [← Array.getElem?_toList, h2]
                      rfl
                    rw [this]
                    exact ⟨.int _ _, rfl⟩
                  | j + 1, hj => simp [D.cells] at hj
            · rw [rowH1 _ hk]; trivial
          · by_cases hk : k = 0
            · by_cases hk' : k' = 0
              · rw [hk, hk']
              · rw [rowH1 _ hk'] at o2; exact o2.elim
            · rw [rowH1 _ hk] at o1; exact o1.elim
          · by_cases hk : k = 0
            · subst hk
              rw [rowH0] at ho
              have := ho.1
              simp only [Option.some.injEq, Addr.mk.injEq] at this
              rw [← this.1]; exact hg
            · rw [rowH1 _ hk] at ho; exact ho.elim
      cases A with
      | none =>
        have hl0 : l = [] := by
          cases l with
          | nil => rfl
          | cons a l => exact absurd (ha (by simp)).1 (by simp)
        subst hl0
        refine Calls.mono (AnyE.slices_Clone_nil laysC _ _ w) fun e w' he => fin e w' ?_
        obtain ⟨rfl, rfl⟩ := he
        exact ⟨_, rfl, World.ownsRow_nil _ _ _ _, RowKit.Below.refl _ _⟩
      | some a =>
        rcases Nat.eq_zero_or_pos l.length with hn | hpos
        · have hl0 : l = [] := List.eq_nil_of_length_eq_zero hn
          subst hl0
          exact Calls.mono (clone_empty a _ w) fun e w' he => fin e w' (by simpa using he)
        obtain ⟨e1, e2⟩ := ha hpos
        cases e1
        have hcell : ∀ j u, (l.map (Value.int .u8))[j]? = some u → w.cell? ⟨b, off + j, none⟩ = some u := fun j u hj => by
          rw [List.getElem?_map] at hj
          cases hlj : l[j]? with
          | none => rw [hlj] at hj; cases hj
          | some y =>
            rw [hlj] at hj
            cases hj
            have h2 : (l.map (D.int .u8))[j]? = some (.int .u8 y) := by rw [List.getElem?_map, hlj]; rfl
            have h3 := hv j _ h2 0 _ rfl
            have h4 := hr j _ h2 0 _ rfl
            simp only [Nat.mul_one, Nat.add_zero] at h3
            rw [h3]
            generalize val j 0 = u at h4
            cases h4
            rfl
        refine Calls.mono (AnyE.slices_Clone laysC i0 _ 1 1 hi0 hz hs hby rfl (by omega) Try.sizeOf5 b off l.length cap (l.map (.int .u8)) w (by simp) (by simp only [maxLen]; omega) (by omega) hcell (fun u hu => by obtain ⟨y, _, rfl⟩ := List.mem_map.1 hu; rfl)) fun e w' he => fin e w' ?_
        obtain ⟨v', rfl, h1, _, h2⟩ := he
        exact ⟨v', rfl, h1, h2⟩
end Ev
end Go.Proofs.Ytjebpfhffenbnaa
