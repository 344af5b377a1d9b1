/- Texts of this claim, in one. -/
import Derived.Test.YtjebpfhffenbnaaSA
import Derived.Test.YtjebpfhffenbnaaX
import Derived.Shelf.SlicesE.Clone
import Derived.WalkKit
import Derived.Lib.SliceRun
/- Substitution: what comes of it. -/
namespace Go.Proofs.Ytjebpfhffenbnaa
namespace Ev
open Go
set_option maxRecDepth 100000
set_option linter.unusedSimpArgs false
set_option linter.unusedVariables false
attribute [local simp] allD_map_d sks_map_d tk tn tks initA EndsM
mutual
def mapT (f : Int → Int → T) : T → Int → T
  | .mk k n ks, b => if k = 1 then f n b else .mk k n (mapL f k b 0 ks)
def mapL (f : Int → Int → T) (k b : Int) : Nat → List T → List T
  | _, [] => []
  | i, x :: xs => mapT f x (b + bindsM k i) :: mapL f k b (i + 1) xs
end
/-- An argument, with what is reckoned of it. -/
structure Ag where
  t : T
  size : Int
  depth : Int
  free : Int
def cAg (a : Ag) : List D := cT a.t ++ [.int .i64 a.size, .int .i64 a.depth, .int .i64 a.free]
def eAg (a : Ag) : D := .agg (cAg a)
@[simp] theorem eAg_cells (a : Ag) : (eAg a).cells = cAg a := rfl
structure St3 where
  sc : Bool
  sz : Int
  dp : Int
theorem small_of {G : GS} {h : Nat → Ent} {w : World} {v : Value} {d : D} (r : ARel G h w v (.d d)) : small 8 d := r.d_inv.small 8
theorem rt_ok (k : Int) (l : List T) (hl : l.length * 40 ≤ maxRoom) : Pure Try.prog n_porismref01_T [.int .i64 k, eTs l] [.agg (cT (.mk k 0 l))] := by
  refine p_porismref01_T rfl fun hs => ?_
  simp -dsimp [x_porismref01_T, cT, eTs, hl]
theorem map_map (f g h : Int → Int → T) (e : Int) (hv : ∀ n b : Int, 0 ≤ n → n ≤ 65535 → 0 ≤ b → b ≤ 4194304 → mapT f (g n b) (b + e) = h n b) (t : T) : ∀ b : Int, formedM t = true → 0 ≤ b → b + nodes t ≤ 4194304 → mapT f (mapT g t b) (b + e) = mapT h t b := by
  refine T.ind (p := fun t => ∀ b : Int, formedM t = true → 0 ≤ b → b + nodes t ≤ 4194304 → mapT f (mapT g t b) (b + e) = mapT h t b) ?_ t
  intro k n ks ih b hfm h0 hb
  rw [mapT, mapT]
  by_cases h1 : k = 1
  · have hn := var_formed h1 hfm
    rw [if_pos h1, if_pos h1, hv n b hn.1 hn.2 h0 (by omega)]
  · rw [if_neg h1, if_neg h1, mapT, if_neg h1]
    congr 1
    have go : ∀ (xs : List T) (i : Nat), (∀ x ∈ xs, x ∈ ks) → mapL f k (b + e) i (mapL g k b i xs) = mapL h k b i xs := by
      intro xs
      induction xs with
      | nil => intro i _; simp [mapL]
      | cons x xs ihx =>
        intro i hm
        have hx := hm x (by simp)
        have hxn := nodes_kid (k := k) (n := n) hx
        have hbl := binds_le k i
        have e1 : b + e + bindsM k i = b + bindsM k i + e := by omega
        rw [mapL, mapL, mapL, e1, ih x hx _ (kids_formed hfm x hx) (by omega) (by omega), ihx (i + 1) fun y hy => hm y (by simp [hy])]
    exact go ks 0 fun x hx => hx
def mv (y : Int) (n b : Int) : T := .mk 1 (if b ≤ n then w64 (n + y) else n) []
end Ev
end Go.Proofs.Ytjebpfhffenbnaa
/- Calls that are handed rows of the caller's own, and hand these back, grown: the rows handed die. -/
namespace Go.Proofs.Ytjebpfhffenbnaa
namespace Ev
open Go
set_option maxRecDepth 100000
set_option linter.unusedSimpArgs false
set_option linter.unusedVariables false
section
variable {P : Program}

theorem kill_step {G : GS} {h : Nat → Ent} {w : World} (i : Inv G h w) (h2 : Nat → Ent) (hd : ∀ k, (h2 k).body = .dead ∧ (h k).ver < (h2 k).ver) : Step G h w G h2 w := by
  refine ⟨⟨i.st, fun k => by rw [(hd k).1]; trivial, fun k k' b h1 h3 => by rw [(hd k).1] at h1; exact h1.elim⟩, ⟨.refl _ _, fun k => Nat.le_of_lt (hd k).2, fun k hk => ?_⟩, ⟨rfl, rfl, rfl, Nat.le_refl _, fun _ _ _ => ⟨rfl, rfl⟩⟩, fun k b ho => by rw [(hd k).1] at ho; exact ho.elim⟩
  have := (hd k).2
  omega

/-- What stands at the end of a function that is handed rows, all of which die, and hands back rows. -/
def EndsK (res : List XRes) (rs : List RV) (K : List Nat) (h1 : Nat → Ent) : Ex → S → Prop := fun e st => (e = .normal ∨ e = .ret) ∧ ∃ vs, resL st res = some vs ∧ fitVs st.h rs vs ∧ (keysV rs vs).Nodup ∧ (∀ k ∈ keysV rs vs, k ∉ skVs st.h rs vs) ∧ ∀ k ∈ K, (h1 k).body = .dead ∧ (st.h k).ver < (h1 k).ver

theorem mutO_kill {f : FuncId} {fn : Func} {x : XFn} (hm : P.follows .mixedOrders = true) (hf : P.funcs[f]? = some fn) (hx : cfn P fn = some x) {aa : List AV} {rs : List RV} {K : List Nat} {h0 h1 : Nat → Ent} (hl : aa.length = x.np) (hdead : ∀ k ∈ K, (h1 k).body = .dead)
    (hw : ∀ (G : GS) (h : Nat → Ent) (w : World) (vs : List Value), (∀ k ∈ K, h k = h0 k) → vs.length = aa.length → (∀ (j : Nat) a, aa[j]? = some a → ARel G h w (vs.getD j undef) a) → wpX P x.code (EndsK x.res rs K h1) ⟨initA aa, h⟩) : MutO P f aa K h0 rs h1 := by
  have hov : ∀ k ∈ K, OverB K (h1 k).body := fun k hk => by rw [hdead k hk]; trivial
  unfold cfn at hx
  split at hx
  · rename_i c hb
    split at hx
    · cases hx
    · rename_i hname
      split at hx
      · rename_i xc r hcc hres
        split at hx
        · rename_i hnp
          cases hx
          simp only at hl hw
          refine ⟨⟨fn, hf, hname, by rw [hb]; rfl⟩, hov, fun G h w vs hk _ hi hvl hrel => ?_⟩
          refine calls_of_wp hf hb ?_
          have hw := hw G h w vs hk hvl hrel
          have fr : Fr fn.ntmps G ⟨initA aa, h⟩ { tmps := vs.toArray ++ Array.replicate (fn.ntmps - vs.toArray.size) undef, defers := [] } w := by
            refine ⟨hi, fun i => ?_, by simp; omega⟩
            simp only [initA]
            cases hd : aa[i]? with
            | none =>
              have hge : aa.length ≤ i := List.getElem?_eq_none_iff.1 hd
              have : (vs.toArray ++ Array.replicate (fn.ntmps - vs.toArray.size) undef).getD i undef = undef := by
                rw [Array.getD_eq_getD_getElem?, Array.getElem?_append_right (by simp; omega), Array.getElem?_replicate]
                split <;> rfl
              rw [this]
              exact .skip
            | some a =>
              have hlt := (List.getElem?_eq_some_iff.1 hd).1
              have : (vs.toArray ++ Array.replicate (fn.ntmps - vs.toArray.size) undef).getD i undef = vs.getD i undef := by
                rw [Array.getD_eq_getD_getElem?, Array.getElem?_append_left (by simp; omega)]
                simp
              rw [this]
              exact hrel i a hd
          refine wp_mono (code_ok hm c xc hcc _ _ _ _ _ hw fr) ?_
          rintro e a' w' ⟨ex, G', st', rfl, fr', hs, hd, hend, vs', hrv, hfit0, hnd, hap0, hK⟩
          have hfit := fitVs_ok hfit0
          have hap : ∀ k ∈ keysV rs vs', k ∉ skV st'.h rs vs' := fun k hk => by rw [skV_eq]; exact hap0 k hk
          obtain ⟨us, h1', h2, h3⟩ := results_ok (P := P) fr'.inv fr'.slots _ _ _ hres hrv
          obtain ⟨hd2, hlv, hvr, hinv, hOwn⟩ := rows_named fr'.inv hfit hnd hap
          have hall := hs.trans (frz_step fr'.inv (skV st'.h rs vs'))
          have hfv : ∀ q, (frz st'.h (skV st'.h rs vs') q).ver = (st'.h q).ver := fun q => by simp only [frz]; split <;> rfl
          have hkill := hall.trans (kill_step hall.inv (fun q => if q ∈ K then h1 q else ⟨(st'.h q).ver + 1, .dead⟩) fun q => by
            rw [hfv]
            by_cases hq : q ∈ K
            · simp only [if_pos hq]; exact hK q hq
            · simp only [if_neg hq]; refine ⟨?_, Nat.lt_succ_self _⟩; first | rfl | trivial)
          have hpost : (results fn a'.tmps).run P w' = .ok (handed us) w' := run_results h1'
          have hR : ∃ (G2 : GS) (h2 : Nat → Ent) (us' : List Value) (hd2 : Nat → Hd), Ending.returned (handed us) = .returned (handed us') ∧ us'.length = (valsV none_ 0 0 rs).length ∧
              (∀ (j : Nat) v, (valsV none_ 0 0 rs)[j]? = some v → ARel ⟨G2.St, hd2⟩ (rowsH none_ 0 (rowsV rs)) w' (us'.getD j undef) v) ∧ (∀ k ∈ K, h2 k = h1 k) ∧ (∀ k, k ∉ K → (h2 k).body = .dead) ∧ Step G h w G2 h2 w' ∧
              Inv ⟨G2.St, hd2⟩ (rowsH none_ 0 (rowsV rs)) w' ∧ ∀ k b, Owns ⟨G2.St, hd2⟩ k b (rowsH none_ 0 (rowsV rs) k).body → ((∃ q, Owns G q b (h q).body) ∨ w.heap.size ≤ b) ∧ ∀ q, ¬ Owns G2 q b (h2 q).body := by
            refine ⟨_, _, us, hd2, rfl, by rw [valsV_len, h2, hlv], fun j v hj => ?_, fun k hm => by simp only [if_pos hm], fun k hm => by simp only [if_neg hm], hkill, hinv, fun n b ho => ?_⟩
            · obtain ⟨a, ha, hr⟩ := hvr j v hj
              exact hr _ (h3 j a ha)
            · obtain ⟨k, hk, o3⟩ := hOwn n b ho
              refine ⟨hall.grow k b o3, fun q hq => ?_⟩
              by_cases hqk : q ∈ K
              · rw [if_pos hqk, hdead q hqk] at hq
                exact hq
              · rw [if_neg hqk] at hq
                exact hq
          rcases hend with rfl | rfl
          · exact ⟨hd, handed us, hpost, hR⟩
          · exact ⟨hd, handed us, hpost, hR⟩
        · cases hx
      · cases hx
  · cases hx
end
end Ev
end Go.Proofs.Ytjebpfhffenbnaa
/- slices.Clone at bytes, by the shelf's contract. -/
namespace Go.Proofs.Ytjebpfhffenbnaa
namespace Ev
open Go
set_option maxRecDepth 100000
set_option linter.unusedSimpArgs false
set_option linter.unusedVariables false
attribute [local simp] allD_map_d sks_map_d tk tn tks initA EndsM
/-- Bytes as data. -/
def eB (l : List Int) : D := .sl 1 (l.map (.int .u8))
/-- The shelf's numbers told in ours. -/
def rhoC : Go.Shelf.Ren := ⟨fun x => if x = 41 then 29 else x, fun x => if x = 4 then 4 else if x = 22 then 26 else if x = 23 then 5 else x, fun x => x⟩
theorem laysC : SlLaysE0.n41 Try.prog rhoC where
  mixed := hm
  f41 := ⟨Try.f29.name, by kernel_rfl, Try.func29.trans (by kernel_rfl)⟩
  t4 := Try.underlying4
  a4 := Try.isAgg4
  z4 := Try.sizeOf4
  v4 := Try.zeroValue4
  t22 := Try.underlying26
  a22 := Try.isAgg26
  z22 := Try.sizeOf26
  v22 := Try.zeroValue26
theorem info_u8 : ∃ i, Try.prog.info? 5 = some i ∧ i.zero = some (.int .u8 0) ∧ i.size = 1 ∧ i.bytes = 1 := by
  obtain ⟨i, hi⟩ := Option.isSome_iff_exists.1 (by kernel_rfl : (Try.prog.info? 5).isSome = true)
  have e1 : (Try.prog.info? 5).bind (·.zero) = some (.int .u8 0) := by kernel_rfl
  have e2 : (Try.prog.info? 5).map (fun i => i.size) = some 1 := by kernel_rfl
  have e3 : (Try.prog.info? 5).map (fun i => i.bytes) = some 1 := by kernel_rfl
  rw [hi] at e1 e2 e3
  exact ⟨i, hi, e1, by simpa using e2, by simpa using e3⟩
/-- An empty slice that is not nil. -/
theorem clone_empty (a : Addr) (c : Nat) (w : World) : Calls Try.prog n_slices_Clone_byte #[.slice (some a) 0 c] w fun e w' => ∃ v', e = .returned v' ∧ w'.ownsRow w.heap.size 5 1 v' 0 [] ∧ RowKit.Below w.heap.size w w' := by
  obtain ⟨i0, hi0, hz, hs, hby⟩ := info_u8
  have mixed := hm
  have t4 := Try.underlying4; have a4 := Try.isAgg4; have z4 := Try.sizeOf4; have v4 := Try.zeroValue4
  have t22 := Try.underlying26; have a22 := Try.isAgg26; have z22 := Try.sizeOf26; have v22 := Try.zeroValue26
  have z23 := Try.sizeOf5
  have q22 : ∀ (w : World) (a : Option Addr) (n c n' c' : Nat), (binOp .eql 26 (.slice a n c) (.slice none n' c')).run Try.prog w = .ok (.bool a.isNone) w := fun w a n c n' c' => Lib.run_eql_slice_nil w _ _ a n c n' c' Try.underlying26
  have u22 : ∀ w, Sem.run Try.prog (underlying 26) w = .ok (TypeDesc.slice 5) w := run_underlying Try.underlying26
  go_enter Try.func29, Try.ntmps29
  go_wp2_with (at_builtin; refine wpList_append_own _ rfl _ _ 26 rfl w.heap.size 5 i0 (.int .u8 0) 1 1 Try.underlying26 hi0 hz hs hby rfl Nat.one_pos _ _ _ rfl (World.ownsRow_made w #[] 0 (Nat.le_refl _) (Nat.zero_le _) (by simp)) a 0 c [] rfl rfl (fun j u h => by simp at h) (fun u h => by simp at h) (by simp) (by simp) (by simp) ?_)
  intro v' w1 hown hgrow hnil
  go_wp2
  go_ret
  exact ⟨v', rfl, by simpa using hown, ((RowKit.Below.refl _ w).alloc (Nat.le_refl _) _).grown hgrow (by simp) (by intro k hk; simp [Value.ownBlock] at hk; omega)⟩
theorem rowH0 (bs : Body) : rowsH none_ 0 [bs] 0 = ⟨1, bs⟩ := rowsH_at none_ 0 [bs] (q := 0) rfl
theorem rowH1 (bs : Body) {k : Nat} (hk : k ≠ 0) : rowsH none_ 0 [bs] k = ⟨0, .dead⟩ := rowsH_out none_ 0 [bs] fun q hq e => hk (by simp only [List.length_singleton] at hq; rw [e]; simp only [nk]; omega)
theorem clone_ok (l : List Int) (hl : l.length ≤ 1000000000) : OwnC Try.prog n_slices_Clone_byte [eB l] [.one (.row 1 (l.map (.int .u8)) false)] := by
  refine ⟨⟨Try.f29, Try.func29, by decide, rfl⟩, fun St w vs hst hrel => ?_⟩
  obtain ⟨i0, hi0, hz, hs, hby⟩ := info_u8
  match vs, hrel with
  | [v], ⟨_, hrL⟩ =>
    have hr0 := hrL 0 _ rfl
    simp only [List.getD_cons_zero, eB] at hr0
    cases hr0 with
    | sl A cap sz b off xs hc hm1 hsz ha val hv h1 hr =>
      simp only [List.length_map] at hc ha ⊢
      have fin : ∀ (e : Ending) (w' : World), (∃ v', e = .returned v' ∧ w'.ownsRow w.heap.size 5 1 v' l.length (l.map (.int .u8)) ∧ RowKit.Below w.heap.size w w') →
          ∃ (G' : GS) (us : List Value), e = .returned (handed us) ∧ us.length = (valsV none_ 0 0 [.one (.row 1 (l.map (.int .u8)) false)]).length ∧ (∀ (j : Nat) v, (valsV none_ 0 0 [.one (.row 1 (l.map (.int .u8)) false)])[j]? = some v → ARel G' (rowsH none_ 0 (rowsV [.one (.row 1 (l.map (.int .u8)) false)])) w' (us.getD j undef) v) ∧
      Inv G' (rowsH none_ 0 (rowsV [.one (.row 1 (l.map (.int .u8)) false)])) w' ∧ RowKit.Below w.heap.size w w' ∧ (∀ b, b < w.heap.size → G'.St b = St b) ∧ (∀ k b, Owns G' k b (rowsH none_ 0 (rowsV [.one (.row 1 (l.map (.int .u8)) false)]) k).body → w.heap.size ≤ b) := by
        rintro e w' ⟨v', rfl, ⟨_, hown⟩, hB⟩
        have e0 : rowsV [.one (.row 1 (l.map (.int .u8)) false)] = [.row 1 (l.map (.int .u8)) false] := rfl
        rw [e0]
        have hSt0 : ∀ b, w.heap.size ≤ b → St b = 0 := fun b hb => by
          rcases Nat.eq_zero_or_pos (St b) with h | h
          · exact h
          · have := hst b h; omega
        rcases hown with ⟨rfl, hn⟩ | ⟨g, cap', cur, rfl, hg, hh, hle, hml, hcs, htk⟩
        · have hl0 : l = [] := List.eq_nil_of_length_eq_zero hn
          subst hl0
          refine ⟨⟨St, fun _ => ⟨none, 0⟩⟩, [.slice none 0 0], rfl, rfl, fun j v hj => ?_, ⟨fun b hb => Nat.lt_of_lt_of_le (hst b hb) hB.size, fun k => ?_, fun k k' b o1 o2 => ?_⟩, hB, fun _ _ => rfl, fun k b ho => ?_⟩
          · match j, hj with
            | 0, hj =>
              simp only [valsV, oneV, List.getElem?_cons_zero, Option.some.injEq] at hj
              subst hj
              refine .rsl _ _ _ rfl (by rw [show nk 0 0 = 0 from rfl, rowH0]; exact Nat.le_refl _) fun _ sz xs fz hb => ?_
              rw [show nk 0 0 = 0 from rfl, rowH0] at hb
              cases hb
              rfl
            | j + 1, hj => simp [valsV] at hj
          · by_cases hk : k = 0
            · subst hk; rw [rowH0]; exact .inl ⟨rfl, rfl, rfl⟩
            · rw [rowH1 _ hk]; trivial
          · by_cases hk : k = 0
            · subst hk; rw [rowH0] at o1; exact absurd o1.1 (by simp)
            · rw [rowH1 _ hk] at o1; exact o1.elim
          · by_cases hk : k = 0
            · subst hk; rw [rowH0] at ho; exact absurd ho.1 (by simp)
            · rw [rowH1 _ hk] at ho; exact ho.elim
        · refine ⟨⟨St, fun _ => ⟨some ⟨g, 0, none⟩, cap'⟩⟩, [.slice (some ⟨g, 0, none⟩) l.length cap'], rfl, rfl, fun j v hj => ?_, ⟨fun b hb => Nat.lt_of_lt_of_le (hst b hb) hB.size, fun k => ?_, fun k k' b o1 o2 => ?_⟩, hB, fun _ _ => rfl, fun k b ho => ?_⟩
          · match j, hj with
            | 0, hj =>
              simp only [valsV, oneV, List.getElem?_cons_zero, Option.some.injEq] at hj
              subst hj
              refine .rsl _ _ _ rfl (by rw [show nk 0 0 = 0 from rfl, rowH0]; exact Nat.le_refl _) fun _ sz xs fz hb => ?_
              rw [show nk 0 0 = 0 from rfl, rowH0] at hb
              cases hb
              simp
            | j + 1, hj => simp [valsV] at hj
          · by_cases hk : k = 0
            · subst hk
              rw [rowH0]
              refine .inr ⟨g, cur, _, rfl, hh, hcs, .inr ⟨by omega, by simpa using hle⟩, by simp; omega, ?_, ?_, hSt0 g hg⟩
              · intro x hx
                obtain ⟨y, _, rfl⟩ := List.mem_map.1 hx
                rfl
              · intro i x hi j c hj
                rw [List.getElem?_map] at hi
                cases hli : l[i]? with
                | none => rw [hli] at hi; cases hi
                | some y =>
                  rw [hli] at hi
                  cases hi
                  match j, hj with
                  | 0, hj =>
                    simp only [D.cells, List.getElem?_cons_zero, Option.some.injEq] at hj
                    subst hj
                    have hlt := (List.getElem?_eq_some_iff.1 hli).1
                    have : cur.getD (i * 1 + 0) undef = .int .u8 y := by
                      have h2 := congrArg (fun l => l[i]?) htk
                      simp only [List.getElem?_map, hli, Option.map_some, List.getElem?_take, Nat.mul_one, hlt, if_true] at h2
                      simp only [Nat.mul_one, Nat.add_zero, Array.getD_eq_getD_getElem?]
                      rw [← Array.getElem?_toList, h2]
                      rfl
                    rw [this]
                    exact ⟨.int _ _, rfl⟩
                  | j + 1, hj => simp [D.cells] at hj
            · rw [rowH1 _ hk]; trivial
          · by_cases hk : k = 0
            · by_cases hk' : k' = 0
              · rw [hk, hk']
              · rw [rowH1 _ hk'] at o2; exact o2.elim
            · rw [rowH1 _ hk] at o1; exact o1.elim
          · by_cases hk : k = 0
            · subst hk
              rw [rowH0] at ho
              have := ho.1
              simp only [Option.some.injEq, Addr.mk.injEq] at this
              rw [← this.1]; exact hg
            · rw [rowH1 _ hk] at ho; exact ho.elim
      cases A with
      | none =>
        have hl0 : l = [] := by
          cases l with
          | nil => rfl
          | cons a l => exact absurd (ha (by simp)).1 (by simp)
        subst hl0
        refine Calls.mono (AnyE.slices_Clone_nil laysC _ _ w) fun e w' he => fin e w' ?_
        obtain ⟨rfl, rfl⟩ := he
        exact ⟨_, rfl, World.ownsRow_nil _ _ _ _, RowKit.Below.refl _ _⟩
      | some a =>
        rcases Nat.eq_zero_or_pos l.length with hn | hpos
        · have hl0 : l = [] := List.eq_nil_of_length_eq_zero hn
          subst hl0
          exact Calls.mono (clone_empty a _ w) fun e w' he => fin e w' (by simpa using he)
        obtain ⟨e1, e2⟩ := ha hpos
        cases e1
        have hcell : ∀ j u, (l.map (Value.int .u8))[j]? = some u → w.cell? ⟨b, off + j, none⟩ = some u := fun j u hj => by
          rw [List.getElem?_map] at hj
          cases hlj : l[j]? with
          | none => rw [hlj] at hj; cases hj
          | some y =>
            rw [hlj] at hj
            cases hj
            have h2 : (l.map (D.int .u8))[j]? = some (.int .u8 y) := by rw [List.getElem?_map, hlj]; rfl
            have h3 := hv j _ h2 0 _ rfl
            have h4 := hr j _ h2 0 _ rfl
            simp only [Nat.mul_one, Nat.add_zero] at h3
            rw [h3]
            generalize val j 0 = u at h4
            cases h4
            rfl
        refine Calls.mono (AnyE.slices_Clone laysC i0 _ 1 1 hi0 hz hs hby rfl (by omega) Try.sizeOf5 b off l.length cap (l.map (.int .u8)) w (by simp) (by simp only [maxLen]; omega) (by omega) hcell (fun u hu => by obtain ⟨y, _, rfl⟩ := List.mem_map.1 hu; rfl)) fun e w' he => fin e w' ?_
        obtain ⟨v', rfl, h1, _, h2⟩ := he
        exact ⟨v', rfl, h1, h2⟩
end Ev
end Go.Proofs.Ytjebpfhffenbnaa
/- pack: a term's bytes put behind others. -/
namespace Go.Proofs.Ytjebpfhffenbnaa
namespace Ev
open Go
set_option maxRecDepth 100000
set_option linter.unusedSimpArgs false
set_option linter.unusedVariables false
attribute [local simp] allD_map_d sks_map_d tk tn tks initA EndsK
def u8 (n : Int) : Int := IntKind.u8.wrap n
mutual
/-- A term's bytes. -/
def pk : T → List Int
  | .mk k n ks => u8 k :: (if kidsM k = 0 then [u8 (n.fdiv 256), u8 n] else pkL ks)
def pkL : List T → List Int
  | [] => []
  | x :: xs => pk x ++ pkL xs
end
mutual
def cV : T → Nat
  | .mk _ _ ks => cVL ks + 4
def cVL : List T → Nat
  | [] => 0
  | x :: xs => cV x + 1 + cVL xs
end
theorem pkL_snoc : ∀ (l : List T) (x : T), pkL (l ++ [x]) = pkL l ++ pk x
  | [], x => by simp [pkL]
  | y :: l, x => by simp [pkL, pkL_snoc l x]
theorem cVL_snoc : ∀ (l : List T) (x : T), cVL (l ++ [x]) = cVL l + (cV x + 1)
  | [], x => by simp [cVL]
  | y :: l, x => by simp [cVL, cVL_snoc l x]; omega
theorem pkL_len : ∀ (l : List T), (∀ x ∈ l, (pk x).length ≤ 3 * nodes x) → (pkL l).length ≤ 3 * (l.map nodes).sum
  | [], _ => by simp [pkL]
  | x :: l, h => by
    have h1 := h x (by simp)
    have h2 := pkL_len l fun y hy => h y (by simp [hy])
    simp [pkL]; omega
theorem pk_len (t : T) : (pk t).length ≤ 3 * nodes t := by
  induction t using T.ind with
  | h k n ks ih =>
    have h1 := pkL_len ks ih
    rw [pk, nodes]
    split
    · simp; omega
    · simp; omega
theorem take_nodes (l : List T) (i : Nat) (h : i < l.length) : ((l.take i).map nodes).sum + nodes l[i] ≤ (l.map nodes).sum := by
  have e : l = l.take i ++ l[i] :: l.drop (i + 1) := by rw [List.getElem_cons_drop, List.take_append_drop]
  have e2 := congrArg (fun l => (l.map nodes).sum) e
  simp only [List.map_append, List.map_cons, List.sum_append, List.sum_cons] at e2
  omega
theorem leaf_ok (k : Int) : Pure Try.prog n_kind_Leaf [.int .i64 k] [.bool (decide (kidsM k = 0))] := by
  refine p_kind_Leaf rfl fun hs => ?_
  simp -dsimp [x_kind_Leaf]
  refine call_of (kids_ok k) ?_
  simp -dsimp
def kH (v : Nat) (b : List Int) (fz : Bool) : Nat → Ent := fun _ => ⟨v, .row 1 (b.map (.int .u8)) fz⟩
def dH (v : Nat) : Nat → Ent := fun _ => ⟨v, .dead⟩
theorem shr8 (n : Int) : binI .shr (.d (.int .i64 n)) (.d (.int .u64 8)) = some (.int .i64 (n.fdiv 256)) := rfl
theorem agg_argO {P : Program} {g : FuncId} {K : List Nat} {h0 h1 : Nat → Ent} {rs : List RV} {pre post : List AV} {cs : List D} (hm : MutO P g (pre ++ .d (.agg cs) :: post) K h0 rs h1) : MutO P g (pre ++ .agg (cs.map .d) :: post) K h0 rs h1 := by
  obtain ⟨a1, a2, a3⟩ := hm
  refine ⟨a1, a2, fun G h w vs b1 b2 b3 b4 b5 => a3 G h w vs b1 b2 b3 (by simpa using b4) fun j a hj => ?_⟩
  rw [List.getElem?_append] at hj
  split at hj
  · rename_i hlt
    exact b5 j a (by rw [List.getElem?_append_left hlt]; exact hj)
  · rename_i hge
    cases hjj : j - pre.length with
    | zero =>
      rw [hjj] at hj
      simp at hj
      subst hj
      have := b5 j (.agg (cs.map .d)) (by rw [List.getElem?_append_right (by omega), hjj]; rfl)
      generalize hq : vs.getD j undef = q at this ⊢
      generalize hz : cs.map AV.d = zs at this
      cases this with
      | agg vs' _ hn hr =>
        subst hz
        refine .d _ _ (.agg vs' cs (by simpa using hn) fun i c hi => ?_)
        exact (hr i (.d c) (by rw [List.getElem?_map, hi]; rfl)).d_inv
    | succ i =>
      rw [hjj] at hj
      exact b5 j a (by rw [List.getElem?_append_right (by omega), hjj]; simpa using hj)
theorem add_ok (t : T) : ∀ (k v : Nat) (b : List Int) (fz : Bool), k = 13 ∨ k = 35 → b.length + 3 * nodes t ≤ 1000000000 →
    MutO Try.prog n_pack_add [.rsl k v, .d (.agg (cT t))] [k] (kH v b fz) [.one (.row 1 ((b ++ pk t).map (.int .u8)) fz)] (dH (v + cV t)) := by
  induction t using T.ind with
  | h kd n ks ih =>
    intro k v b fz hk hl
    refine mutO_kill hm Try.func28 c_pack_add rfl (fun _ _ => rfl) fun G h w vs hh hlen hr => ?_
    have hs : small 8 (.agg (cT (.mk kd n ks))) := small_of (hr 1 _ rfl)
    have hks := kids_small (t := .mk kd n ks) (fun d hd => by simp at hd; subst hd; exact hs)
    have hh := hh k (by simp)
    replace hks : ks.length ≤ 9223372036854775807 := hks
    have hn : nodes (.mk kd n ks) = (ks.map nodes).sum + 1 := by rw [nodes]
    have r1 : b.length + 1 ≤ maxRoom := by simp only [maxRoom]; omega
    have r2 : b.length + 1 + 2 ≤ maxRoom := by simp only [maxRoom]; omega
    rcases hk with rfl | rfl
    · simp only [kH] at hh
      simp -dsimp [x_pack_add, cT, hh, r1]
      refine call_of (leaf_ok kd) ?_
      simp -dsimp [hh, r1]
      (first | refine Ask_b ?_ ?_ | refine Cnd_b ?_ ?_) <;> intro g1 <;> (try simp only [decide_eq_true_eq, decide_eq_false_iff_not, beq_iff_eq, beq_eq_false_iff_ne, bne_iff_ne, bne_eq_false_iff_eq, Bool.not_eq_true', Bool.not_eq_false', Bool.and_eq_true, Bool.or_eq_true, Bool.and_eq_false_iff, Bool.or_eq_false_iff] at g1) <;> simp -dsimp [g1, hh, r1, r2]
      · have hp : pk (.mk kd n ks) = [u8 kd, u8 (n.fdiv 256), u8 n] := by rw [pk, if_pos g1]
        simp -dsimp [shr8, hh, r1, r2, hp, dH, cV, u8]
        exact ⟨rfl, by omega⟩
      · have hp : pk (.mk kd n ks) = u8 kd :: pkL ks := by rw [pk, if_neg g1]
        refine wp_upto ks.length (fun i st => st.s 27 = .d (.sl 3 (ks.map eT)) ∧ st.s 28 = .d (.int .i64 ks.length) ∧ st.s 29 = .d (.int .i64 i) ∧
          ∃ q v', (q = 13 ∨ q = 35) ∧ st.s 0 = .rsl q v' ∧ st.h q = ⟨v', .row 1 ((b ++ u8 kd :: pkL (ks.take i)).map (.int .u8)) fz⟩ ∧ (st.h 13).ver ≤ v + 1 + cVL (ks.take i)) ?_ ?_
        · simp -dsimp [hh, pkL, cVL, u8]
        · rintro i ⟨s, hpp⟩ hi ⟨e1, e2, e3, q, v', hq, e4, e5, e6⟩
          dsimp only at e1 e2 e3 e4 e5 e6
          rcases Nat.lt_or_ge i ks.length with hlt | hge
          · have w1 : IntKind.i64.wrap ((i : Int) + 1) = (i : Int) + 1 := wrap_id (by omega) (by omega)
            have hsn : ks.take (i + 1) = ks.take i ++ [ks[i]] := by rw [List.take_add_one, List.getElem?_eq_getElem hlt]; rfl
            have hP : pkL (ks.take (i + 1)) = pkL (ks.take i) ++ pk ks[i] := by rw [hsn, pkL_snoc]
            have hC : cVL (ks.take (i + 1)) = cVL (ks.take i) + (cV ks[i] + 1) := by rw [hsn, cVL_snoc]
            have hL := pkL_len (ks.take i) fun x _ => pk_len x
            have hS := take_nodes ks i hlt
            have hA := ih ks[i] (List.getElem_mem _) q v' (b ++ u8 kd :: pkL (ks.take i)) fz (by omega) (by rw [List.length_append, List.length_cons]; omega)
            replace hA := agg_argO (pre := [.rsl q v']) (post := []) hA
            simp only [cT, List.map_cons, List.map_nil, List.cons_append, List.nil_append] at hA
            rcases hq with rfl | rfl
            · simp -dsimp [e1, e2, e3, e4, e5, hlt, cT]
              refine callMO_of hA ?_ (by simp [rowsV, rowsC, RV.cells]) ?_
              · simp -dsimp [kH, e5]
              · simp -dsimp [e1, e2, e3, e4, e5, hlt, cT, w1, mergeK_cons, mergeK_nil, hP, hC, dH]
                simp only [e5] at e6
                omega
            · simp -dsimp [e1, e2, e3, e4, e5, hlt, cT]
              refine callMO_of hA ?_ (by simp [rowsV, rowsC, RV.cells]) ?_
              · simp -dsimp [kH, e5]
              · simp -dsimp [e1, e2, e3, e4, e5, hlt, cT, w1, mergeK_cons, mergeK_nil, hP, hC, dH]
                first | omega | (simp only [e5] at e6; omega)
          · have e : i = ks.length := by omega
            subst e
            rw [List.take_length] at e5 e6
            have hcv : cV (.mk kd n ks) = cVL ks + 4 := by rw [cV]
            rcases hq with rfl | rfl
            · simp -dsimp [e1, e2, e3, e4, e5, hp, dH, hcv]
              first | omega | (simp only [e5] at e6; omega)
            · simp -dsimp [e1, e2, e3, e4, e5, hp, dH, hcv]
              first | omega | (simp only [e5] at e6; omega)
    · simp only [kH] at hh
      simp -dsimp [x_pack_add, cT, hh, r1]
      refine call_of (leaf_ok kd) ?_
      simp -dsimp [hh, r1]
      (first | refine Ask_b ?_ ?_ | refine Cnd_b ?_ ?_) <;> intro g1 <;> (try simp only [decide_eq_true_eq, decide_eq_false_iff_not, beq_iff_eq, beq_eq_false_iff_ne, bne_iff_ne, bne_eq_false_iff_eq, Bool.not_eq_true', Bool.not_eq_false', Bool.and_eq_true, Bool.or_eq_true, Bool.and_eq_false_iff, Bool.or_eq_false_iff] at g1) <;> simp -dsimp [g1, hh, r1, r2]
      · have hp : pk (.mk kd n ks) = [u8 kd, u8 (n.fdiv 256), u8 n] := by rw [pk, if_pos g1]
        simp -dsimp [shr8, hh, r1, r2, hp, dH, cV, u8]
        exact ⟨rfl, by omega⟩
      · have hp : pk (.mk kd n ks) = u8 kd :: pkL ks := by rw [pk, if_neg g1]
        refine wp_upto ks.length (fun i st => st.s 27 = .d (.sl 3 (ks.map eT)) ∧ st.s 28 = .d (.int .i64 ks.length) ∧ st.s 29 = .d (.int .i64 i) ∧
          ∃ q v', (q = 35 ∨ q = 35) ∧ st.s 0 = .rsl q v' ∧ st.h q = ⟨v', .row 1 ((b ++ u8 kd :: pkL (ks.take i)).map (.int .u8)) fz⟩ ∧ (st.h 35).ver ≤ v + 1 + cVL (ks.take i)) ?_ ?_
        · simp -dsimp [hh, pkL, cVL, u8]
        · rintro i ⟨s, hpp⟩ hi ⟨e1, e2, e3, q, v', hq, e4, e5, e6⟩
          dsimp only at e1 e2 e3 e4 e5 e6
          rcases Nat.lt_or_ge i ks.length with hlt | hge
          · have w1 : IntKind.i64.wrap ((i : Int) + 1) = (i : Int) + 1 := wrap_id (by omega) (by omega)
            have hsn : ks.take (i + 1) = ks.take i ++ [ks[i]] := by rw [List.take_add_one, List.getElem?_eq_getElem hlt]; rfl
            have hP : pkL (ks.take (i + 1)) = pkL (ks.take i) ++ pk ks[i] := by rw [hsn, pkL_snoc]
            have hC : cVL (ks.take (i + 1)) = cVL (ks.take i) + (cV ks[i] + 1) := by rw [hsn, cVL_snoc]
            have hL := pkL_len (ks.take i) fun x _ => pk_len x
            have hS := take_nodes ks i hlt
            have hA := ih ks[i] (List.getElem_mem _) q v' (b ++ u8 kd :: pkL (ks.take i)) fz (by omega) (by rw [List.length_append, List.length_cons]; omega)
            replace hA := agg_argO (pre := [.rsl q v']) (post := []) hA
            simp only [cT, List.map_cons, List.map_nil, List.cons_append, List.nil_append] at hA
            rcases hq with rfl | rfl
            · simp -dsimp [e1, e2, e3, e4, e5, hlt, cT]
              refine callMO_of hA ?_ (by simp [rowsV, rowsC, RV.cells]) ?_
              · simp -dsimp [kH, e5]
              · simp -dsimp [e1, e2, e3, e4, e5, hlt, cT, w1, mergeK_cons, mergeK_nil, hP, hC, dH]
                simp only [e5] at e6
                omega
            · simp -dsimp [e1, e2, e3, e4, e5, hlt, cT]
              refine callMO_of hA ?_ (by simp [rowsV, rowsC, RV.cells]) ?_
              · simp -dsimp [kH, e5]
              · simp -dsimp [e1, e2, e3, e4, e5, hlt, cT, w1, mergeK_cons, mergeK_nil, hP, hC, dH]
                first | omega | (simp only [e5] at e6; omega)
          · have e : i = ks.length := by omega
            subst e
            rw [List.take_length] at e5 e6
            have hcv : cV (.mk kd n ks) = cVL ks + 4 := by rw [cV]
            rcases hq with rfl | rfl
            · simp -dsimp [e1, e2, e3, e4, e5, hp, dH, hcv]
              first | omega | (simp only [e5] at e6; omega)
            · simp -dsimp [e1, e2, e3, e4, e5, hp, dH, hcv]
              first | omega | (simp only [e5] at e6; omega)
end Ev
end Go.Proofs.Ytjebpfhffenbnaa
/- pack.Put, bytes compared. -/
namespace Go.Proofs.Ytjebpfhffenbnaa
namespace Ev
open Go
set_option maxRecDepth 100000
set_option linter.unusedSimpArgs false
set_option linter.unusedVariables false
attribute [local simp] allD_map_d sks_map_d tk tn tks initA EndsM
def putB (b : List Int) (t : T) : List Int := if checkM t = 0 then b ++ pk t else []
theorem put_ok (b : List Int) (t : T) (hb : b.length ≤ 100000000) (hn : nodes t ≤ 100000000) : Pure Try.prog n_pack_Put [eB b, .agg (cT t)] [eB (putB b t), .int .i64 (checkM t)] := by
  refine p_pack_Put rfl fun hs => ?_
  simp -dsimp [x_pack_Put, cT, eB]
  have hC := check_ok t
  simp only [cT] at hC
  refine call_of hC ?_
  simp -dsimp
  (first | refine Ask_b ?_ ?_ | refine Cnd_b ?_ ?_) <;> intro g1 <;> (try simp only [decide_eq_true_eq, decide_eq_false_iff_not, beq_iff_eq, beq_eq_false_iff_ne, bne_iff_ne, bne_eq_false_iff_eq, Bool.not_eq_true', Bool.not_eq_false', Bool.and_eq_true, Bool.or_eq_true, Bool.and_eq_false_iff, Bool.or_eq_false_iff] at g1) <;> simp -dsimp [g1]
  · simp -dsimp [putB, g1]
  have hCl := clone_ok b (by omega)
  simp only [eB] at hCl
  refine callO_of hCl (by simp [rowsV, rowsC, RV.cells]) ?_
  simp -dsimp
  have hA := agg_argO (pre := [.rsl 13 1]) (post := []) (add_ok t 13 1 b false (by omega) (by omega))
  simp only [cT, List.map_cons, List.map_nil, List.cons_append, List.nil_append] at hA
  refine callMO_of hA ?_ (by simp [rowsV, rowsC, RV.cells]) ?_
  · simp -dsimp [kH]
  · simp -dsimp [mergeK_cons, mergeK_nil, dH, putB, g1]
end Ev
end Go.Proofs.Ytjebpfhffenbnaa
/- pack: the reader. -/
namespace Go.Proofs.Ytjebpfhffenbnaa
namespace Ev
open Go
set_option maxRecDepth 100000
set_option linter.unusedSimpArgs false
set_option linter.unusedVariables false
attribute [local simp] allD_map_d sks_map_d tk tn tks initA EndsM
structure RS where
  left : List Int
  nodes : Int
  bad : Bool
def takeS (n : Nat) (r : RS) : List Int × RS := if r.bad = true ∨ r.left.length < n then (List.replicate n 0, ⟨r.left, r.nodes, true⟩) else (r.left.take n, ⟨r.left.drop n, r.nodes, r.bad⟩)
def rH (v : Nat) (r : RS) : Nat → Ent := fun _ => ⟨v, .box [.d (.sl 1 (r.left.map (.int .u8))), .d (.int .i64 r.nodes), .d (.bool r.bad)] false⟩
theorem r_mut {f : FuncId} {fn : Func} {x : XFn} (hf : Try.prog.funcs[f]? = some fn) (hx : cfn Try.prog fn = some x) {aa : List AV} {v : Nat} {r r' : RS} {rs : List D} (hl : aa.length = x.np)
    (hw : ∀ (h : Nat → Ent), h 21 = ⟨v, .box [.d (.sl 1 (r.left.map (.int .u8))), .d (.int .i64 r.nodes), .d (.bool r.bad)] false⟩ → r.left.length ≤ 9223372036854775807 → wpX Try.prog x.code (EndsM x.res rs [21] (rH v r')) ⟨initA aa, h⟩) : MutC Try.prog f aa [21] (rH v r) rs (rH v r') := by
  by_cases hlen : r.left.length ≤ 9223372036854775807
  · exact mut_of hm hf hx hl (fun k hk c hc => by simp [rH] at hc; rcases hc with rfl | rfl | rfl <;> exact .d _) fun G h w vs hk _ hr => hw h (hk 21 (by simp)) hlen
  · refine ⟨enters_of hf hx, fun k hk c hc => by simp [rH] at hc; rcases hc with rfl | rfl | rfl <;> exact .d _, fun G h w vs hk _ hi _ _ => (hlen ?_).elim⟩
    have he := hi.ent 21
    rw [hk 21 (by simp)] at he
    obtain ⟨b, arr, el, _, _, _, hrel, _⟩ := he
    have := ((hrel 0 _ rfl).1.d_inv).small 8
    simp [small] at this
    omega
theorem take_ok (v : Nat) (r : RS) (n : Nat) (hn : n ≤ 1000) : MutC Try.prog n_pack_reader_take [.ptr 21 v 0, .d (.int .i64 n)] [21] (rH v r) [eB (takeS n r).1] (rH v (takeS n r).2) := by
  refine r_mut Try.func42 c_pack_reader_take rfl fun h hh hl => ?_
  have hr : n ≤ maxRoom := by simp only [maxRoom]; omega
  have hr2 : (n : Int) ≤ (maxRoom : Int) := by simp only [maxRoom]; omega
  have hT : (r.left.map (D.int .u8)).take r.left.length = r.left.map (D.int .u8) := List.take_of_length_le (by simp)
  simp -dsimp [x_pack_reader_take, hh]
  cases hb : r.bad
  · simp -dsimp [hh, hb]
    by_cases g : r.left.length < n
    · simp -dsimp [hh, hb, g, hr, hr2, takeS, rH, eB]
    · have g2 : n ≤ r.left.length := by omega
      simp -dsimp [hh, hb, g, g2, hr, hT, takeS, rH, eB]
  · simp -dsimp [hh, hb, hr, hr2, takeS, rH, eB]
theorem takeS_len (n : Nat) (r : RS) : (takeS n r).1.length = n := by
  rw [takeS]; split
  · simp
  · simp; omega
def kidsI (g : RS → T × RS) : Nat → RS → List T × RS
  | 0, r => ([], r)
  | i + 1, r => if (kidsI g i r).2.bad = true then kidsI g i r else ((kidsI g i r).1 ++ [(g (kidsI g i r).2).1], (g (kidsI g i r).2).2)
theorem kidsI_bad (g : RS → T × RS) (r : RS) {i m : Nat} (h : (kidsI g i r).2.bad = true) (hm : i ≤ m) : kidsI g m r = kidsI g i r := by
  induction m with
  | zero => have : i = 0 := by omega
            subst this; rfl
  | succ m ih =>
    rcases Nat.lt_or_ge m i with hlt | hge
    · have : i = m + 1 := by omega
      subst this; rfl
    · rw [kidsI, ih hge, if_pos h]
def orB (a b : Int) : Int := IntKind.i64.wrap (((IntKind.i64.wrap (IntKind.i64.wrap a * 2 ^ min 8 IntKind.i64.bits) % 2 ^ IntKind.i64.bits).toNat ||| (IntKind.i64.wrap b % 2 ^ IntKind.i64.bits).toNat : Nat) : Int)
/-- Behind a term's first byte. -/
def headS (d : Int) (r : RS) : RS := ⟨(takeS 1 r).2.left, w64 ((takeS 1 r).2.nodes + 1), (takeS 1 r).2.bad || decide (kidsM (w64 ((takeS 1 r).1.headD 0)) < 0) || decide (6000 < w64 ((takeS 1 r).2.nodes + 1)) || decide (200 < d)⟩
def readS : Nat → Int → RS → T × RS
  | 0, _, r => (.mk 0 0 [], r)
  | f + 1, d, r => if kidsM (w64 ((takeS 1 r).1.headD 0)) = 0
      then (.mk (w64 ((takeS 1 r).1.headD 0)) (orB ((takeS 2 (headS d r)).1.headD 0) ((takeS 2 (headS d r)).1.getD 1 0)) [], (takeS 2 (headS d r)).2)
      else (.mk (w64 ((takeS 1 r).1.headD 0)) 0 (kidsI (readS f (d + 1)) (kidsM (w64 ((takeS 1 r).1.headD 0))).toNat (headS d r)).1, (kidsI (readS f (d + 1)) (kidsM (w64 ((takeS 1 r).1.headD 0))).toNat (headS d r)).2)
end Ev
end Go.Proofs.Ytjebpfhffenbnaa
/- pack: what the reader reads. -/
namespace Go.Proofs.Ytjebpfhffenbnaa
namespace Ev
open Go
set_option maxRecDepth 100000
set_option linter.unusedSimpArgs false
set_option linter.unusedVariables false
attribute [local simp] allD_map_d sks_map_d tk tn tks initA EndsM
theorem read_ok : ∀ (f : Nat) (d : Int) (v : Nat) (r : RS), 0 < f → 1 ≤ d → d + f = 202 → MutC Try.prog n_pack_reader_read [.ptr 21 v 0, .d (.int .i64 d)] [21] (rH v r) [.agg (cT (readS f d r).1)] (rH v (readS f d r).2)
  | 0, _, _, _, h, _, _ => absurd h (by omega)
  | f + 1, d, v, r, _, hd, hf => by
    have IH := read_ok f (d + 1) v
    refine r_mut Try.func31 c_pack_reader_read rfl fun h hh hl => ?_
    have hd1 : IntKind.i64.wrap (d + 1) = d + 1 := wrap_id (by omega) (by omega)
    obtain ⟨a, ha⟩ : ∃ a, (takeS 1 r).1 = [a] := by
      have := takeS_len 1 r
      match hx : (takeS 1 r).1, this with
      | [a], _ => exact ⟨a, rfl⟩
    have hT := take_ok v r 1 (by omega)
    rw [ha] at hT
    simp only [eB, List.map_cons, List.map_nil] at hT
    generalize hr1 : (takeS 1 r).2 = r1 at hT
    obtain ⟨l1, n1, b1⟩ := r1
    have hH : headS d r = ⟨l1, w64 (n1 + 1), b1 || decide (kidsM (w64 a) < 0) || decide (6000 < w64 (n1 + 1)) || decide (200 < d)⟩ := by rw [headS, hr1, ha]; rfl
    simp -dsimp [x_pack_reader_read, hh]
    refine callM_of hT (by simp [rH, hh]) ?_
    simp -dsimp [mergeK_cons, mergeK_nil, rH, hh]
    refine call_of (kids_ok _) ?_
    by_cases h0 : kidsM (IntKind.i64.wrap a) = 0
    · have hR : readS (f + 1) d r = (.mk (w64 a) (orB ((takeS 2 (headS d r)).1.headD 0) ((takeS 2 (headS d r)).1.getD 1 0)) [], (takeS 2 (headS d r)).2) := by
        rw [readS, ha, List.headD_cons, if_pos (show kidsM (w64 a) = 0 from h0)]
      rw [hR]
      obtain ⟨c0, c1, hc⟩ : ∃ c0 c1, (takeS 2 (headS d r)).1 = [c0, c1] := by
        have := takeS_len 2 (headS d r)
        match hx : (takeS 2 (headS d r)).1, this with
        | [c0, c1], _ => exact ⟨c0, c1, rfl⟩
      have hT2 := take_ok v (headS d r) 2 (by omega)
      rw [hc] at hT2 ⊢
      generalize hr2 : (takeS 2 (headS d r)).2 = r2 at hT2 ⊢
      obtain ⟨l2, n2, b2⟩ := r2
      rw [hH] at hT2
      simp only [eB, List.map_cons, List.map_nil, w64] at hT2
      have n0 : ¬ kidsM (IntKind.i64.wrap a) < 0 := by omega
      have n1' : ¬ kidsM (IntKind.i64.wrap a) > 0 := by omega
      cases b1 <;> cases hq3 : decide (6000 < IntKind.i64.wrap (n1 + 1)) <;> cases hq4 : decide (200 < d)
      all_goals
        simp only [h0, hq3, hq4, Bool.or_true, Bool.true_or, Bool.or_false, Bool.false_or, n0, decide_false] at hT2
        simp only [decide_eq_true_eq, decide_eq_false_iff_not] at hq3 hq4
        simp -dsimp [hh, n0, h0, hq3, hq4]
        refine callM_of hT2 (by simp [rH, hh, n0, h0, hq3, hq4]) ?_
        simp -dsimp [mergeK_cons, mergeK_nil, rH, hh, h0, n0, hq3, hq4]
        refine wp_upto 0 (fun i st => st.s 6 = .d (.int .i64 0) ∧ (∃ u, st.s 5 = .ptr 5 u 0 ∧ st.h 5 = ⟨u, .box [.d (.int .i64 (IntKind.i64.wrap a)), .d (.int .i64 (orB c0 c1)), .fsl 3 []] false⟩) ∧ (∃ u, st.s 4 = .ptr 4 u 0 ∧
          st.h 4 = ⟨u, .box [.d (.int .i64 0), .d (.int .i64 0), .fsl 3 []] false⟩) ∧ st.h 21 = ⟨v, .box [.d (.sl 1 (l2.map (.int .u8))), .d (.int .i64 n2), .d (.bool b2)] false⟩) ?_ ?_
        · simp -dsimp [hh]
          rfl
        · rintro i ⟨s, hpp⟩ hi ⟨e1, ⟨u, e2, e3⟩, ⟨u', e4, e5⟩, e6⟩
          dsimp only at e1 e2 e3 e4 e5 e6
          simp -dsimp [e1, e2, e3, e4, e5, e6, rH, cT]
          rfl
    · have hR : readS (f + 1) d r = (.mk (w64 a) 0 (kidsI (readS f (d + 1)) (kidsM (w64 a)).toNat (headS d r)).1, (kidsI (readS f (d + 1)) (kidsM (w64 a)).toNat (headS d r)).2) := by
        rw [readS, ha, List.headD_cons, if_neg (show ¬ kidsM (w64 a) = 0 from h0)]
      rw [hR]
      have hk3 := kidsM_le (IntKind.i64.wrap a)
      have hcase : (b1 = true) ∨ (b1 = false ∧ kidsM (IntKind.i64.wrap a) < 0) ∨ (b1 = false ∧ ¬ kidsM (IntKind.i64.wrap a) < 0 ∧ 6000 < IntKind.i64.wrap (n1 + 1)) ∨ (b1 = false ∧ ¬ kidsM (IntKind.i64.wrap a) < 0 ∧ ¬ 6000 < IntKind.i64.wrap (n1 + 1) ∧ 200 < d) ∨
          (b1 = false ∧ ¬ kidsM (IntKind.i64.wrap a) < 0 ∧ ¬ 6000 < IntKind.i64.wrap (n1 + 1) ∧ ¬ 200 < d) := by
        cases b1 <;> by_cases q2 : kidsM (IntKind.i64.wrap a) < 0 <;> by_cases q3 : 6000 < IntKind.i64.wrap (n1 + 1) <;> by_cases q4 : 200 < d <;> simp [q2, q3, q4]
      have hf0 : (headS d r).bad = false → 0 < f := fun hb => by
        rw [hH] at hb
        simp at hb
        omega
      have hbad0 : (headS d r).bad = true → ∀ i, kidsI (readS f (d + 1)) i (headS d r) = ([], headS d r) := fun hb i => kidsI_bad _ _ (i := 0) hb (Nat.zero_le _)
      have hw : w64 a = IntKind.i64.wrap a := rfl
      rw [hw]
      generalize hK : IntKind.i64.wrap a = K at *
      generalize hR0 : headS d r = R0 at *
      generalize hg : readS f (d + 1) = g at *
      have hfin : ∀ i, i ≤ (kidsM K).toNat → (kidsI g i R0).2.bad = true → kidsI g (kidsM K).toNat R0 = kidsI g i R0 := fun i hi hb => kidsI_bad g R0 hb hi
      generalize hm0 : (kidsM K).toNat = m at *
      rcases hcase with hq | hq | hq | hq | hq
      all_goals
        first
        | have hB : R0 = ⟨l1, IntKind.i64.wrap (n1 + 1), true⟩ := by (rw [hH]; simp [w64, hK, hq])
        | have hB : R0 = ⟨l1, IntKind.i64.wrap (n1 + 1), false⟩ := by (rw [hH]; simp [w64, hK, hq])
      all_goals
        simp -dsimp [hh, h0, hq]
        refine wp_upto m (fun i st => st.s 0 = .ptr 21 v 0 ∧ st.s 1 = .d (.int .i64 d) ∧ st.s 6 = .d (.int .i64 (kidsM K - i)) ∧
          (∃ u c, st.s 5 = .ptr 5 u 0 ∧ st.h 5 = ⟨u, .box [.d (.int .i64 K), .d (.int .i64 0), c] false⟩ ∧ (((kidsI g i R0).1 = [] ∧ c = .fsl 3 []) ∨ ((kidsI g i R0).1 ≠ [] ∧ ∃ q, c = .rsl 79 q ∧ st.h 79 = ⟨q, .row 3 ((kidsI g i R0).1.map eT) false⟩))) ∧
          (∃ u, st.s 4 = .ptr 4 u 0 ∧ st.h 4 = ⟨u, .box [.d (.int .i64 0), .d (.int .i64 0), .fsl 3 []] false⟩) ∧
          st.h 21 = ⟨v, .box [.d (.sl 1 ((kidsI g i R0).2.left.map (.int .u8))), .d (.int .i64 (kidsI g i R0).2.nodes), .d (.bool (kidsI g i R0).2.bad)] false⟩ ∧ (kidsI g i R0).1.length ≤ i) ?_ ?_
        · simp -dsimp [hh, kidsI, hB]
        · clear hB hq hH hT hr1 ha hl hh
          rintro i ⟨s, hpp⟩ hi ⟨e1, e2, e3, ⟨u, c, e4, e5, e6⟩, ⟨u', e7, e8⟩, e9, e10⟩
          dsimp only at e1 e2 e3 e4 e5 e6 e7 e8 e9
          by_cases hlt : i < m
          · have hpos : (i : Int) < kidsM K := by omega
            cases hb : (kidsI g i R0).2.bad
            · have hR0b : R0.bad = false := by
                cases h : R0.bad with
                | false => rfl
                | true => rw [hbad0 h i] at hb; exact absurd (hb.symm.trans h) (by simp)
              have hI := IH (kidsI g i R0).2 (hf0 hR0b) (by omega) (by omega)
              have hN : kidsI g (i + 1) R0 = ((kidsI g i R0).1 ++ [(g (kidsI g i R0).2).1], (g (kidsI g i R0).2).2) := by rw [kidsI, if_neg (by simp [hb])]
              rw [hN]
              have hw1 : IntKind.i64.wrap (kidsM K - (i : Int) - 1) = kidsM K - ((i : Int) + 1) := by rw [wrap_id (by omega) (by omega)]; omega
              clear hN hfin hbad0
              generalize (kidsI g i R0) = q at *
              obtain ⟨ks', r'⟩ := q
              generalize hg2 : g r' = q2 at *
              obtain ⟨t2, r2⟩ := q2
              simp only at hI hg2 e6 e9 e10 hb
              have hrm : (ks'.length + 1) * 40 ≤ maxRoom := by simp only [maxRoom]; omega
              have h40 : 40 ≤ maxRoom := by simp only [maxRoom]; omega
              simp -dsimp [e1, e2, e3, e4, e5, e7, e8, e9, hpos, hb, hd1]
              refine callM_of hI ?_ ?_
              · simp [rH, e9, hb]
              rcases e6 with ⟨rfl, rfl⟩ | ⟨hne, q, rfl, e6⟩
              · simp -dsimp [mergeK_cons, mergeK_nil, rH, e1, e2, e3, e4, e5, e7, e8, e9, hw1, cT, hlt, h40]
                rw [eT_eq, cT]
              · simp -dsimp [mergeK_cons, mergeK_nil, rH, e1, e2, e3, e4, e5, e6, e7, e8, e9, hw1, cT, hlt, hrm]
                exact ⟨by rw [eT_eq, cT], by omega⟩
            · rw [hfin i hi hb]
              clear hfin hbad0
              generalize (kidsI g i R0) = q at *
              obtain ⟨ks', r'⟩ := q
              simp only at e6 e9 e10 hb ⊢
              rcases e6 with ⟨rfl, rfl⟩ | ⟨hne, q, rfl, e6⟩
              · simp -dsimp [e1, e2, e3, e4, e5, e7, e8, e9, hb, hpos, rH, cT]
              · simp -dsimp [e1, e2, e3, e4, e5, e6, e7, e8, e9, hb, hpos, rH, cT]
          · have hi' : i = m := by omega
            subst hi'
            have hnpos : ¬ ((i : Int) < kidsM K) := by omega
            clear hfin hbad0
            generalize (kidsI g i R0) = q at *
            obtain ⟨ks', r'⟩ := q
            simp only at e6 e9 e10 ⊢
            rcases e6 with ⟨rfl, rfl⟩ | ⟨hne, q, rfl, e6⟩
            · simp -dsimp [e1, e2, e3, e4, e5, e7, e8, e9, hnpos, rH, cT]
            · simp -dsimp [e1, e2, e3, e4, e5, e6, e7, e8, e9, hnpos, rH, cT]
end Ev
end Go.Proofs.Ytjebpfhffenbnaa
/- pack: bytes and terms, the plain laws. -/
namespace Go.Proofs.Ytjebpfhffenbnaa
namespace Ev
open Go
set_option maxRecDepth 100000
set_option linter.unusedSimpArgs false
set_option linter.unusedVariables false
theorem u8_is (n : Int) : u8 n = n % 256 := by simp [u8, IntKind.wrap, IntKind.bits, IntKind.signed]
theorem u8_id {n : Int} (h0 : 0 ≤ n) (h1 : n < 256) : u8 n = n := by rw [u8_is]; omega
def byteL (l : List Int) : Prop := ∀ x ∈ l, 0 ≤ x ∧ x < 256
theorem or_add {a b : Nat} (hb : b < 256) : (a * 256) ||| b = a * 256 + b := by
  have h := Nat.shiftLeft_add_eq_or_of_lt (b := b) (i := 8) (by omega) a
  rw [Nat.shiftLeft_eq] at h
  exact h.symm
theorem orB_is {a b : Int} (ha : 0 ≤ a ∧ a < 256) (hb : 0 ≤ b ∧ b < 256) : orB a b = a * 256 + b := by
  obtain ⟨x, rfl⟩ := Int.eq_ofNat_of_zero_le ha.1
  obtain ⟨y, rfl⟩ := Int.eq_ofNat_of_zero_le hb.1
  have e8 : (2 : Int) ^ min 8 IntKind.i64.bits = 256 := rfl
  have e64 : (2 : Int) ^ IntKind.i64.bits = 18446744073709551616 := rfl
  rw [orB, e8, e64, wrap_id (n := (x : Int)) (by omega) (by omega), wrap_id (n := (x : Int) * 256) (by omega) (by omega), wrap_id (n := (y : Int)) (by omega) (by omega)]
  have h1 : ((x : Int) * 256 % 18446744073709551616).toNat = x * 256 := by omega
  have h2 : ((y : Int) % 18446744073709551616).toNat = y := by omega
  rw [h1, h2, or_add (by omega), wrap_id (by omega) (by omega)]
  omega
theorem orB_num {n : Int} (h0 : 0 ≤ n) (h1 : n ≤ 65535) : orB (u8 (n.fdiv 256)) (u8 n) = n := by
  have e : n.fdiv 256 = n / 256 := Int.fdiv_eq_ediv_of_nonneg _ (by omega)
  rw [e, u8_is, u8_is, orB_is (by omega) (by omega)]
  omega
theorem kidsM_rng {k : Int} (h : 0 ≤ kidsM k) : 1 ≤ k ∧ k ≤ 13 := by
  rw [kidsM] at h
  simp only [isM] at h
  repeat' split at h
  all_goals first | omega | (simp at h; done) | (simp at *; omega)
theorem fm_leaf {k n : Int} {ks : List T} (h : formedM (.mk k n ks) = true) (hk : kidsM k = 0) : ks = [] ∧ 0 ≤ n ∧ n ≤ 65535 := by
  rw [formedM_is] at h
  by_cases hl : (ks.length : Int) = kidsM k
  · rw [if_pos hl, if_pos hk] at h
    simp only [Bool.and_eq_true, inB_iff] at h
    exact ⟨List.eq_nil_of_length_eq_zero (by omega), h.1⟩
  · rw [if_neg hl] at h; simp at h
theorem fm_node {k n : Int} {ks : List T} (h : formedM (.mk k n ks) = true) (hk : ¬ kidsM k = 0) : (ks.length : Int) = kidsM k ∧ n = 0 ∧ ∀ x ∈ ks, formedM x = true := by
  rw [formedM_is] at h
  by_cases hl : (ks.length : Int) = kidsM k
  · rw [if_pos hl, if_neg hk] at h
    by_cases hn : n = 0
    · rw [if_pos hn] at h
      exact ⟨hl, hn, fun x hx => (List.all_eq_true.1 h) x hx⟩
    · rw [if_neg hn] at h; simp at h
  · rw [if_neg hl] at h; simp at h
theorem fm_kind {k n : Int} {ks : List T} (h : formedM (.mk k n ks) = true) : 1 ≤ k ∧ k ≤ 13 := by
  refine kidsM_rng ?_
  rw [formedM_is] at h
  split at h
  · omega
  · simp at h
theorem fm_leaf_of {k n : Int} (hk : kidsM k = 0) (h0 : 0 ≤ n) (h1 : n ≤ 65535) : formedM (.mk k n []) = true := by
  rw [formedM_is, if_pos (by simp [hk]), if_pos hk]
  simp [inB_iff, h0, h1]
theorem fm_node_of {k : Int} {ks : List T} (hk : ¬ kidsM k = 0) (hl : (ks.length : Int) = kidsM k) (h : ∀ x ∈ ks, formedM x = true) : formedM (.mk k 0 ks) = true := by
  rw [formedM_is, if_pos hl, if_neg hk, if_pos rfl]
  exact List.all_eq_true.2 h
/-! bytes are in their range; no term's bytes begin another's -/
/-! what stands there is read -/
theorem take1 (a : Int) (l : List Int) (n : Int) : takeS 1 ⟨a :: l, n, false⟩ = ([a], ⟨l, n, false⟩) := by simp [takeS]
theorem take2 (a b : Int) (l : List Int) (n : Int) : takeS 2 ⟨a :: b :: l, n, false⟩ = ([a, b], ⟨l, n, false⟩) := by
  rw [takeS, if_neg (by simp)]; rfl
theorem pkL_drop (l : List T) (i : Nat) (h : i < l.length) : pkL (l.drop i) = pk l[i] ++ pkL (l.drop (i + 1)) := by
  rw [← List.getElem_cons_drop h, pkL]
theorem rd_good (t : T) : ∀ (f : Nat) (d n : Int) (rest : List Int), formedM t = true → 1 ≤ d → d + depthN t ≤ 201 → 0 ≤ n → n + nodes t ≤ 6000 → d + f = 202 → readS f d ⟨pk t ++ rest, n, false⟩ = (t, ⟨rest, n + nodes t, false⟩) := by
  induction t using T.ind with
  | h k nn ks ih =>
    intro f d n rest hf h1 h2 h3 h4 h5
    have r1 := fm_kind hf
    have hN : nodes (.mk k nn ks) = (ks.map nodes).sum + 1 := by rw [nodes]
    have hD : depthN (.mk k nn ks) = dmax (ks.map depthN) + 1 := by rw [depthN]
    obtain ⟨f, rfl⟩ : ∃ g, f = g + 1 := ⟨f - 1, by omega⟩
    have hw : w64 k = k := w64_id (by omega) (by omega)
    have hwn : w64 (n + 1) = n + 1 := w64_id (by omega) (by omega)
    have hu : u8 k = k := u8_id (by omega) (by omega)
    have hpk : pk (.mk k nn ks) = k :: (if kidsM k = 0 then [u8 (nn.fdiv 256), u8 nn] else pkL ks) := by rw [pk, hu]
    rw [hpk]
    have hk0 : ¬ kidsM k < 0 := by
      intro hlt
      rw [formedM_is, if_neg (by omega)] at hf
      simp at hf
    have hH : ∀ l, headS d ⟨k :: l, n, false⟩ = ⟨l, n + 1, false⟩ := fun l => by
      rw [headS, take1]
      simp only [List.headD_cons, hw, hwn]
      simp [hk0]
      omega
    rw [readS, List.cons_append, take1, List.headD_cons, hw, hH]
    by_cases hk : kidsM k = 0
    · obtain ⟨rfl, a1, a2⟩ := fm_leaf hf hk
      rw [if_pos hk, if_pos hk]
      simp only [List.cons_append, List.nil_append]
      rw [take2]
      simp only [List.headD_cons, List.getD_cons_succ, List.getD_cons_zero, orB_num a1 a2, hN, List.map_nil, List.sum_nil]
      simp
    · obtain ⟨a1, rfl, a3⟩ := fm_node hf hk
      rw [if_neg hk, if_neg hk]
      have hm : (kidsM k).toNat = ks.length := by omega
      have key : ∀ i, i ≤ ks.length → kidsI (readS f (d + 1)) i ⟨pkL ks ++ rest, n + 1, false⟩ = (ks.take i, ⟨pkL (ks.drop i) ++ rest, n + 1 + ((ks.take i).map nodes).sum, false⟩) := by
        intro i
        induction i with
        | zero => intro _; simp [kidsI]
        | succ i ihi =>
          intro hi
          have hlt : i < ks.length := by omega
          have hS := take_nodes ks i hlt
          have hdm : depthN ks[i] ≤ dmax (ks.map depthN) := dmax_mem (List.mem_map.2 ⟨_, List.getElem_mem hlt, rfl⟩)
          rw [kidsI, ihi (by omega)]
          simp only [Bool.false_eq_true, if_false]
          rw [pkL_drop ks i hlt, List.append_assoc, ih ks[i] (List.getElem_mem hlt) f (d + 1) _ _ (a3 _ (List.getElem_mem hlt)) (by omega) (by omega) (by omega) (by omega) (by omega)]
          have hsn : ks.take (i + 1) = ks.take i ++ [ks[i]] := by rw [List.take_add_one, List.getElem?_eq_getElem hlt]; rfl
          rw [hsn]
          simp only [List.map_append, List.map_cons, List.map_nil, List.sum_append, List.sum_cons, List.sum_nil, Prod.mk.injEq, RS.mk.injEq, true_and, and_true]
          omega
      rw [hm, key ks.length (Nat.le_refl _)]
      simp only [List.take_length, List.drop_length, pkL, List.nil_append, hN, Prod.mk.injEq, RS.mk.injEq, true_and, and_true]
      omega
/-! what is read stood there -/
structure Snd (d : Int) (r r' : RS) (t : T) : Prop where
  bad : r.bad = false
  fm : formedM t = true
  left : r.left = pk t ++ r'.left
  nodes : r'.nodes = r.nodes + Ev.nodes t
  few : r'.nodes ≤ 6000
  deep : d + depthN t ≤ 201
end Ev
end Go.Proofs.Ytjebpfhffenbnaa
/- pack.Get; what is compared. -/
namespace Go.Proofs.Ytjebpfhffenbnaa
namespace Ev
open Go
set_option maxRecDepth 100000
set_option linter.unusedSimpArgs false
set_option linter.unusedVariables false
attribute [local simp] allD_map_d sks_map_d tk tn tks initA EndsM
theorem take_eq_next {α : Type} {l m : List α} {i : Nat} (h1 : i < l.length) (h2 : i < m.length) (h : l.take i = m.take i) (he : l[i] = m[i]) : l.take (i + 1) = m.take (i + 1) := by
  rw [List.take_add_one, List.take_add_one, h, List.getElem?_eq_getElem h1, List.getElem?_eq_getElem h2, he]
theorem keepBytes_ok (l m : List Int) : Pure Try.prog n_porismkeep_Bytes [eB l, eB m] [.bool (decide (l = m))] := by
  refine p_porismkeep_Bytes rfl fun hs => ?_
  have hl := hs (eB l) (by simp)
  simp [eB, small] at hl
  simp -dsimp [x_porismkeep_Bytes, eB]
  (first | refine Ask_b ?_ ?_ | refine Cnd_b ?_ ?_) <;> intro g1 <;> (try simp only [decide_eq_true_eq, decide_eq_false_iff_not, beq_iff_eq, beq_eq_false_iff_ne, bne_iff_ne, bne_eq_false_iff_eq, Bool.not_eq_true', Bool.not_eq_false', Bool.and_eq_true, Bool.or_eq_true, Bool.and_eq_false_iff, Bool.or_eq_false_iff] at g1) <;> simp -dsimp [g1]
  · have : ¬ l = m := fun h => g1 (by rw [h])
    simp [this]
  replace g1 : l.length = m.length := by omega
  refine wp_upto l.length (fun i st => st.s 0 = .d (.sl 1 (l.map (.int .u8))) ∧ st.s 1 = .d (.sl 1 (m.map (.int .u8))) ∧ st.s 5 = .d (.int .i64 i) ∧ l.take i = m.take i) ?_ ?_
  · simp -dsimp
  · rintro i ⟨s, hp⟩ hi ⟨e1, e2, e3, e4⟩
    dsimp only at e1 e2 e3
    rcases Nat.lt_or_ge i l.length with hlt | hge
    · have w1 : IntKind.i64.wrap ((i : Int) + 1) = (i : Int) + 1 := wrap_id (by omega) (by omega)
      have hlt2 : i < m.length := by omega
      by_cases he : l[i] = m[i]
      · simp -dsimp [e1, e2, e3, hlt, hlt2, he, w1]
        exact take_eq_next hlt hlt2 e4 he
      · simp -dsimp [e1, e2, e3, hlt, hlt2, he, w1]
        intro h
        exact he (by simp [h])
    · have e : i = l.length := by omega
      subst e
      rw [List.take_length, g1, List.take_length] at e4
      simp -dsimp [e1, e2, e3, e4]
def T0 : T := .mk 0 0 []
/-- What is read from a place on. -/
def getS (b : List Int) (at_ : Int) : T × RS := readS 201 1 ⟨b.drop at_.toNat, 0, false⟩
def getT (b : List Int) (at_ : Int) : T := if at_ < 0 ∨ (b.length : Int) < at_ then T0 else if (getS b at_).2.bad = true then T0 else (getS b at_).1
def getN (b : List Int) (at_ : Int) : Int := if at_ < 0 ∨ (b.length : Int) < at_ then 0 else if (getS b at_).2.bad = true then 0 else IntKind.i64.wrap ((b.length : Int) - (getS b at_).2.left.length)
def getE (b : List Int) (at_ : Int) : Int := if at_ < 0 ∨ (b.length : Int) < at_ then 1 else if (getS b at_).2.bad = true then 3 else 0
theorem get_ok (b : List Int) (at_ : Int) : Pure Try.prog n_pack_Get [eB b, .int .i64 at_] [.agg (cT (getT b at_)), .int .i64 (getN b at_), .int .i64 (getE b at_)] := by
  refine p_pack_Get rfl fun hs => ?_
  simp -dsimp [x_pack_Get, eB]
  by_cases h0 : at_ < 0
  · have e1 : getT b at_ = T0 := by rw [getT, if_pos (.inl h0)]
    have e2 : getN b at_ = 0 := by rw [getN, if_pos (.inl h0)]
    have e3 : getE b at_ = 1 := by rw [getE, if_pos (.inl h0)]
    simp -dsimp [h0, e1, e2, e3, T0, cT]
  by_cases h1 : (b.length : Int) < at_
  · have e1 : getT b at_ = T0 := by rw [getT, if_pos (.inr h1)]
    have e2 : getN b at_ = 0 := by rw [getN, if_pos (.inr h1)]
    have e3 : getE b at_ = 1 := by rw [getE, if_pos (.inr h1)]
    simp -dsimp [h0, h1, e1, e2, e3, T0, cT]
  have hc : ¬ (at_ < 0 ∨ (b.length : Int) < at_) := by omega
  have h2 : 0 ≤ at_ := by omega
  have h3 : at_ ≤ (b.length : Int) := by omega
  have hR := read_ok 201 1 1 ⟨b.drop at_.toNat, 0, false⟩ (by omega) (by omega) (by omega)
  rw [show readS 201 1 ⟨b.drop at_.toNat, 0, false⟩ = getS b at_ from rfl] at hR
  rw [getT, getN, getE, if_neg hc, if_neg hc, if_neg hc]
  have hT : (b.map (D.int .u8)).take b.length = b.map (D.int .u8) := List.take_of_length_le (by simp)
  simp -dsimp [h0, h1, h2, h3, hT]
  generalize getS b at_ = q at *
  obtain ⟨t, l, n, bd⟩ := q
  refine callM_of hR (by simp [rH]) ?_
  cases bd
  · simp -dsimp [mergeK_cons, mergeK_nil, rH, h0, h1, T0, cT]
  · simp -dsimp [mergeK_cons, mergeK_nil, rH, h0, h1, T0, cT]
end Ev
end Go.Proofs.Ytjebpfhffenbnaa
/- pack: what Get tells; bytes that come in; the law's identity. -/
namespace Go.Proofs.Ytjebpfhffenbnaa
namespace Ev
open Go
set_option maxRecDepth 100000
set_option linter.unusedSimpArgs false
set_option linter.unusedVariables false
attribute [local simp] allD_map_d sks_map_d tk tn tks initA EndsM
theorem get_good {b : List Int} {at_ : Int} {t : T} {rest : List Int} (h0 : 0 ≤ at_) (h1 : at_ ≤ (b.length : Int)) (hd : b.drop at_.toNat = pk t ++ rest) (hf : formedM t = true) (hn : nodes t ≤ 6000) (hp : depthN t ≤ 200) (hl : b.length ≤ 1000000000) :
    getT b at_ = t ∧ getN b at_ = (b.length : Int) - rest.length ∧ getE b at_ = 0 := by
  have hc : ¬ (at_ < 0 ∨ (b.length : Int) < at_) := by omega
  have hG : getS b at_ = (t, ⟨rest, 0 + nodes t, false⟩) := by
    rw [getS, hd]
    exact rd_good t 201 1 0 rest hf (by omega) (by omega) (by omega) (by omega) (by omega)
  have hlen : rest.length ≤ b.length := by
    have := congrArg List.length hd
    simp at this
    omega
  rw [getT, getN, getE, if_neg hc, if_neg hc, if_neg hc, hG]
  simp only [Bool.false_eq_true, if_false]
  exact ⟨trivial, wrap_id (by omega) (by omega), trivial⟩
theorem check_of {t : T} (hf : formedM t = true) (hn : nodes t ≤ 6000) (hp : depthN t ≤ 200) : checkM t = 0 := (check_iff (by omega)).2 ⟨hn, hp, hf⟩
/-! what comes in -/
theorem typ_u8 {n : Nat} {cs : List D} (h : typ Try.prog n 5 cs) : ∃ i, cs = [.int .u8 i] ∧ 0 ≤ i ∧ i < 256 := by
  cases n with
  | zero => exact h.elim
  | succ n =>
    simp only [typ, Try.underlying5] at h
    obtain ⟨i, hi, hw⟩ := h
    refine ⟨i, hi, ?_⟩
    simp only [Lit.wf, Bool.and_eq_true, decide_eq_true_eq] at hw
    have e1 : IntKind.u8.min = 0 := by decide
    have e2 : IntKind.u8.max = 255 := by decide
    omega
theorem arg_bytes {x : D} (h : TypD Try.prog 26 x) : ∃ l : List Int, x = eB l ∧ byteL l ∧ l.length ≤ 140737488351232 := by
  obtain ⟨⟨n, h1⟩, h2⟩ := h
  have hs : isStructB Try.prog 26 = false := by simp only [isStructB, Try.underlying26]
  have hs8 : isStructB Try.prog 5 = false := by simp only [isStructB, Try.underlying5]
  have hc8 : Try.prog.cellsOf 5 = 1 := by kernel_rfl
  have hb8 : Try.prog.bytesOf 5 = 1 := by kernel_rfl
  rw [not_agg (h2.trans hs)] at h1
  cases n with
  | zero => exact h1.elim
  | succ n =>
    simp only [typ, Try.underlying26] at h1
    obtain ⟨xs, hx, _, hl, hxs⟩ := h1
    simp only [List.cons.injEq, and_true] at hx
    obtain ⟨l, rfl, hq⟩ : ∃ l : List Int, xs = l.map (.int .u8) ∧ ∀ a ∈ l, 0 ≤ a ∧ a < 256 := map_of fun x hxx => by
      obtain ⟨h4, h5⟩ := hxs x hxx
      rw [not_agg (h5.trans hs8)] at h4
      obtain ⟨i, hi, hr⟩ := typ_u8 h4
      exact ⟨i, hr, by simpa using hi⟩
    refine ⟨l, by rw [hx, hc8]; rfl, hq, ?_⟩
    rw [hb8, List.length_map, Nat.mul_one] at hl
    exact hl
/-! the identity -/
def idT : T := .mk 5 0 [.mk 2 0 [], .mk 1 0 []]
theorem idT_fm : formedM idT = true := fm_node_of (by decide) (by decide) fun x hx => by
  simp only [List.mem_cons, List.not_mem_nil, or_false] at hx
  rcases hx with rfl | rfl <;> exact fm_leaf_of (by decide) (by omega) (by omega)
theorem idT_nodes : nodes idT = 3 := by simp [idT, nodes]
theorem idT_pk : pk idT = [5, 2, 0, 0, 1, 0, 0] := rfl
theorem wakes03_ok : Pure Try.prog n_porismlaw03_wakes [] [.bool true] := by
  refine p_porismlaw03_wakes rfl fun hs => ?_
  have hd := depth_le idT
  rw [idT_nodes] at hd
  have hck : checkM idT = 0 := check_of idT_fm (by rw [idT_nodes]; omega) (by omega)
  obtain ⟨g1, g2, g3⟩ := get_good (b := pk idT) (at_ := 0) (t := idT) (rest := []) (by omega) (by omega) (by simp) idT_fm (by rw [idT_nodes]; omega) (by omega) (by simp [idT_pk])
  have hP := put_ok [] idT (by simp) (by rw [idT_nodes]; omega)
  have hG := get_ok (pk idT) 0
  have hB := keepBytes_ok (pk idT) (pk idT)
  have hK := keepTerm_ok idT
  rw [g1, g2, g3] at hG
  simp only [putB, hck, if_true, List.nil_append] at hP
  simp only [eB, idT_pk, decide_true] at hP hG hB
  simp [idT_pk] at hG hP hB
  simp -dsimp [x_porismlaw03_wakes]
  refine call_of (ru_ok 0) ?_
  simp -dsimp [cT]
  refine call_of (rv_ok 0) ?_
  simp -dsimp [cT]
  have hT := rt_ok 5 [.mk 2 0 [], .mk 1 0 []] (by simp only [maxRoom]; decide)
  simp [eTs, eT_eq, cT] at hT
  refine call_of hT ?_
  simp [idT, cT, eT_eq] at hP hG hK
  simp -dsimp [cT]
  refine call_of hP ?_
  simp -dsimp [cT]
  refine call_of hG ?_
  simp -dsimp [cT]
  refine call_of hB ?_
  simp -dsimp [cT]
  refine call_of hK ?_
  simp -dsimp [cT]
end Ev
end Go.Proofs.Ytjebpfhffenbnaa
/- The document's bytes; rows and towers of terms. -/
namespace Go.Proofs.Ytjebpfhffenbnaa
namespace Ev
open Go
set_option maxRecDepth 100000
set_option linter.unusedSimpArgs false
set_option linter.unusedVariables false
attribute [local simp] allD_map_d sks_map_d tk tn tks initA EndsM
theorem be_ok (n : Int) : Pure Try.prog n_porismref01_be [.int .i64 n, .int .i64 2] [eB [u8 (n.fdiv 256), u8 n]] := by
  refine p_porismref01_be rfl fun hs => ?_
  have h8 : binI .shr (.d (.int .i64 n)) (.d (.int .u64 8)) = some (.int .i64 (n.fdiv 256)) := rfl
  have h0 : binI .shr (.d (.int .i64 n)) (.d (.int .u64 0)) = some (.int .i64 n) := by
    simp [binI, shiftD, IntKind.bits]
  have e256 : (2 : Int) ^ min 8 IntKind.i64.bits = 256 := rfl
  have r1 : 1 ≤ maxRoom := by simp only [maxRoom]; omega
  have r2 : 2 ≤ maxRoom := by simp only [maxRoom]; omega
  have v0 : IntKind.i64.wrap 0 = 0 := by decide
  have v1 : IntKind.i64.wrap 1 = 1 := by decide
  have v8 : IntKind.i64.wrap 8 = 8 := by decide
  have vm : IntKind.i64.wrap (-1) = -1 := by decide
  have w0 : IntKind.u64.wrap 0 = 0 := by decide
  have w8 : IntKind.u64.wrap 8 = 8 := by decide
  simp -dsimp [x_porismref01_be, v1]
  refine wp_upto 2 (fun i st => st.s 0 = .d (.int .i64 n) ∧ st.s 6 = .d (.int .i64 (1 - i)) ∧ ∃ v, st.s 5 = .rsl 5 v ∧ st.h 5 = ⟨v, .row 1 (([u8 (n.fdiv 256), u8 n].take i).map (.int .u8)) false⟩) ?_ ?_
  · simp -dsimp
  · rintro i ⟨s, hp⟩ hi ⟨e1, e2, v, e3, e4⟩
    dsimp only at e1 e2 e3 e4
    match i, hi with
    | 0, _ =>
      simp at e2 e4
      simp -dsimp [e1, e2, e3, e4, h8, r1, v0, v8, w8, e256, u8]
    | 1, _ =>
      simp at e2 e4
      simp -dsimp [e1, e2, e3, e4, h0, r2, v0, vm, w0, u8]
    | 2, _ =>
      simp at e2 e4
      simp -dsimp [e1, e2, e3, e4, eB]
theorem rpack_ok (t : T) : formedM t = true → nodes t ≤ 1000000 → Pure Try.prog n_porismref01_Pack [.agg (cT t)] [eB (pk t)] := by
  induction t using T.ind with
  | h k n ks ih =>
    intro hf hn
    have hN : nodes (.mk k n ks) = (ks.map nodes).sum + 1 := by rw [nodes]
    refine p_porismref01_Pack rfl fun hs => ?_
    have hl := kids_small (t := .mk k n ks) (fun d hd => hs d hd)
    replace hl : ks.length ≤ 9223372036854775807 := hl
    have hbe := be_ok n
    simp only [eB, List.map_cons, List.map_nil] at hbe
    have r3 : 3 ≤ maxRoom := by simp only [maxRoom]; omega
    simp -dsimp [x_porismref01_Pack, cT]
    refine call_of (rkids_ok k) ?_
    by_cases hk : kidsM k = 0
    · obtain ⟨rfl, a1, a2⟩ := fm_leaf hf hk
      have hpk : pk (.mk k n []) = [u8 k, u8 (n.fdiv 256), u8 n] := by rw [pk, if_pos hk]
      simp -dsimp [hk]
      refine call_of hbe ?_
      simp -dsimp [r3]
      refine wp_upto 0 (fun i st => st.s 1 = .ptr 1 1 0 ∧ st.h 1 = ⟨1, .box [.d (.int .i64 k), .d (.int .i64 n), .d (.sl 3 [])] false⟩ ∧ st.s 4 = .d (.int .i64 0) ∧ ∃ v, st.s 3 = .rsl 17 v ∧ st.h 17 = ⟨v, .row 1 [.int .u8 (u8 k), .int .u8 (u8 (n.fdiv 256)), .int .u8 (u8 n)] true⟩) ?_ ?_
      · simp -dsimp [u8]
      · rintro i ⟨s, hp⟩ hi ⟨e1, e2, e3, v, e4, e5⟩
        dsimp only at e1 e2 e3 e4 e5
        simp -dsimp [e1, e2, e3, e4, e5, hpk, eB]
    · obtain ⟨a1, rfl, a3⟩ := fm_node hf hk
      have hpk : pk (.mk k 0 ks) = u8 k :: pkL ks := by rw [pk, if_neg hk]
      rw [hpk]
      simp -dsimp [hk]
      refine wp_upto ks.length (fun i st => st.s 1 = .ptr 1 1 0 ∧ st.h 1 = ⟨1, .box [.d (.int .i64 k), .d (.int .i64 0), .d (.sl 3 (ks.map eT))] false⟩ ∧ st.s 4 = .d (.int .i64 i) ∧
        ((i = 0 ∧ st.s 3 = .fsl 1 [.int .u8 (u8 k)]) ∨ (0 < i ∧ ∃ v, st.s 3 = .rsl 32 v ∧ st.h 32 = ⟨v, .row 1 ((u8 k :: pkL (ks.take i)).map (.int .u8)) true⟩))) ?_ ?_
      · simp -dsimp [u8]
      · rintro i ⟨s, hp⟩ hi ⟨e1, e2, e3, e4⟩
        dsimp only at e1 e2 e3 e4
        rcases Nat.lt_or_ge i ks.length with hlt | hge
        · have w1 : IntKind.i64.wrap ((i : Int) + 1) = (i : Int) + 1 := wrap_id (by omega) (by omega)
          have hsn : ks.take (i + 1) = ks.take i ++ [ks[i]] := by rw [List.take_add_one, List.getElem?_eq_getElem hlt]; rfl
          have hP1 : pkL (ks.take (i + 1)) = pkL (ks.take i) ++ pk ks[i] := by rw [hsn, pkL_snoc]
          have hS2 := take_nodes ks i hlt
          have hI := ih ks[i] (List.getElem_mem _) (a3 _ (List.getElem_mem _)) (by omega)
          simp only [eB, cT] at hI
          have hL := pkL_len (ks.take i) fun x _ => pk_len x
          have hL2 := pk_len ks[i]
          have r1 : 1 + (pk ks[i]).length ≤ maxRoom := by simp only [maxRoom]; omega
          have r2 : (pkL (ks.take i)).length + 1 + (pk ks[i]).length ≤ maxRoom := by simp only [maxRoom]; omega
          simp -dsimp [e1, e2, e3, hlt, cT]
          refine call_of hI ?_
          rcases e4 with ⟨rfl, e4⟩ | ⟨hi0, v, e4, e5⟩
          · simp [pkL] at hP1
            have hlt' : 0 < ks.length := hlt
            simp at w1
            simp -dsimp [e1, e2, e3, e4, hlt, cT, r1, w1, hP1, hlt']
          · simp -dsimp [e1, e2, e3, e4, e5, hlt, cT, r2, w1, hP1]
        · have e : i = ks.length := by omega
          subst e
          rcases e4 with ⟨hz, e4⟩ | ⟨hi0, v, e4, e5⟩
          · omega
          · rw [List.take_length] at e5
            simp -dsimp [e1, e2, e3, e4, e5, eB]
/-! rows and towers -/
end Ev
end Go.Proofs.Ytjebpfhffenbnaa
/- pack: the document's reader. -/
namespace Go.Proofs.Ytjebpfhffenbnaa
namespace Ev
open Go
set_option maxRecDepth 100000
set_option linter.unusedSimpArgs false
set_option linter.unusedVariables false
attribute [local simp] allD_map_d sks_map_d tk tn tks initA EndsM
structure RX where
  b : List Int
  at_ : Nat
  nodes : Int
  bad : Bool
def xH (v : Nat) (r : RX) : Nat → Ent := fun _ => ⟨v, .box [.d (.sl 1 (r.b.map (.int .u8))), .d (.int .i64 r.at_), .d (.int .i64 r.nodes), .d (.bool r.bad)] false⟩
theorem mutX {f : FuncId} {fn : Func} {x : XFn} (hf : Try.prog.funcs[f]? = some fn) (hx : cfn Try.prog fn = some x) {aa : List AV} {v : Nat} {r r' : RX} {rs : List D} (hl : aa.length = x.np)
    (hw : ∀ (h : Nat → Ent), h 18 = ⟨v, .box [.d (.sl 1 (r.b.map (.int .u8))), .d (.int .i64 r.at_), .d (.int .i64 r.nodes), .d (.bool r.bad)] false⟩ → r.b.length ≤ 9223372036854775807 → wpX Try.prog x.code (EndsM x.res rs [18] (xH v r')) ⟨initA aa, h⟩) : MutC Try.prog f aa [18] (xH v r) rs (xH v r') := by
  by_cases hlen : r.b.length ≤ 9223372036854775807
  · exact mut_of hm hf hx hl (fun k hk c hc => by simp [xH] at hc; rcases hc with rfl | rfl | rfl | rfl <;> exact .d _) fun G h w vs hk _ hr => hw h (hk 18 (by simp)) hlen
  · refine ⟨enters_of hf hx, fun k hk c hc => by simp [xH] at hc; rcases hc with rfl | rfl | rfl | rfl <;> exact .d _, fun G h w vs hk _ hi _ _ => (hlen ?_).elim⟩
    have he := hi.ent 18
    rw [hk 18 (by simp)] at he
    obtain ⟨b, arr, el, _, _, _, hrel, _⟩ := he
    have := ((hrel 0 _ rfl).1.d_inv).small 8
    simp [small] at this
    omega
def kidsX (g : RX → T × RX) : Nat → RX → List T × RX
  | 0, r => ([], r)
  | i + 1, r => if (kidsX g i r).2.bad = true then kidsX g i r else ((kidsX g i r).1 ++ [(g (kidsX g i r).2).1], (g (kidsX g i r).2).2)
theorem kidsX_bad (g : RX → T × RX) (r : RX) {i m : Nat} (h : (kidsX g i r).2.bad = true) (hm : i ≤ m) : kidsX g m r = kidsX g i r := by
  induction m with
  | zero => have : i = 0 := by omega
            subst this; rfl
  | succ m ih =>
    rcases Nat.lt_or_ge m i with hlt | hge
    · have : i = m + 1 := by omega
      subst this; rfl
    · rw [kidsX, ih hge, if_pos h]
def byteX (r : RX) (i : Nat) : Int := (r.b[r.at_ + i]?).getD 0
def readX : Nat → Int → RX → T × RX
  | 0, _, r => (T0, r)
  | f + 1, d, r =>
    if r.bad = true ∨ r.b.length ≤ r.at_ ∨ 6000 < w64 (r.nodes + 1) ∨ 200 < d then (T0, ⟨r.b, r.at_, w64 (r.nodes + 1), true⟩)
    else if kidsM (w64 (byteX r 0)) < 0 ∨ (kidsM (w64 (byteX r 0)) = 0 ∧ r.b.length < r.at_ + 3) then (T0, ⟨r.b, r.at_ + 1, w64 (r.nodes + 1), true⟩)
    else if kidsM (w64 (byteX r 0)) = 0 then (.mk (w64 (byteX r 0)) (orB (byteX r 1) (byteX r 2)) [], ⟨r.b, r.at_ + 3, w64 (r.nodes + 1), false⟩)
    else (.mk (w64 (byteX r 0)) 0 (kidsX (readX f (d + 1)) (kidsM (w64 (byteX r 0))).toNat ⟨r.b, r.at_ + 1, w64 (r.nodes + 1), false⟩).1, (kidsX (readX f (d + 1)) (kidsM (w64 (byteX r 0))).toNat ⟨r.b, r.at_ + 1, w64 (r.nodes + 1), false⟩).2)
theorem readX_b : ∀ (f : Nat) (d : Int) (r : RX), (readX f d r).2.b = r.b ∧ (r.at_ ≤ r.b.length → (readX f d r).2.at_ ≤ r.b.length)
  | 0, d, r => ⟨rfl, fun h => h⟩
  | f + 1, d, r => by
    have ih := readX_b f (d + 1)
    have go : ∀ (i : Nat) (q : RX), (kidsX (readX f (d + 1)) i q).2.b = q.b ∧ (q.at_ ≤ q.b.length → (kidsX (readX f (d + 1)) i q).2.at_ ≤ q.b.length) := by
      intro i
      induction i with
      | zero => intro q; exact ⟨rfl, fun h => h⟩
      | succ i ihi =>
        intro q
        rw [kidsX]
        split
        · exact ihi q
        · obtain ⟨a1, a2⟩ := ihi q
          obtain ⟨b1, b2⟩ := ih (kidsX (readX f (d + 1)) i q).2
          exact ⟨b1.trans a1, fun h => by rw [a1] at b2; exact b2 (a2 h)⟩
    rw [readX]
    split
    · exact ⟨rfl, fun h => h⟩
    · rename_i h1
      split
      · exact ⟨rfl, fun h => by show r.at_ + 1 ≤ _; omega⟩
      · rename_i h2
        split
        · rename_i h3; exact ⟨rfl, fun h => by show r.at_ + 3 ≤ _; omega⟩
        · obtain ⟨g1, g2⟩ := go (kidsM (w64 (byteX r 0))).toNat ⟨r.b, r.at_ + 1, w64 (r.nodes + 1), false⟩
          exact ⟨g1, fun h => g2 (by show r.at_ + 1 ≤ r.b.length; omega)⟩
theorem kidsX_b {f : Nat} {d : Int} (q : RX) : ∀ i, (kidsX (readX f d) i q).2.b = q.b ∧ (q.at_ ≤ q.b.length → (kidsX (readX f d) i q).2.at_ ≤ q.b.length) := by
  intro i
  induction i with
  | zero => exact ⟨rfl, fun h => h⟩
  | succ i ih =>
    rw [kidsX]
    split
    · exact ih
    · obtain ⟨a1, a2⟩ := ih
      obtain ⟨b1, b2⟩ := readX_b f d (kidsX (readX f d) i q).2
      exact ⟨b1.trans a1, fun h => by rw [a1] at b2; exact b2 (a2 h)⟩
set_option maxHeartbeats 4000000 in
theorem readX_ok : ∀ (f : Nat) (d : Int) (v : Nat) (r : RX), 0 < f → 1 ≤ d → d + f = 202 → r.b.length ≤ 1000000000 → r.at_ ≤ r.b.length → MutC Try.prog n_porismref01_reader_term [.ptr 18 v 0, .d (.int .i64 d)] [18] (xH v r) [.agg (cT (readX f d r).1)] (xH v (readX f d r).2)
  | 0, _, _, _, h, _, _, _, _ => absurd h (by omega)
  | f + 1, d, v, r, _, hd, hf, hbl, hat => by
    have IH := readX_ok f (d + 1) v
    refine mutX Try.func39 c_porismref01_reader_term rfl fun h hh hl => ?_
    have hd1 : IntKind.i64.wrap (d + 1) = d + 1 := wrap_id (by omega) (by omega)
    have ha1 : IntKind.i64.wrap ((r.at_ : Int) + 1) = (r.at_ : Int) + 1 := wrap_id (by omega) (by omega)
    have hw : ∀ n, w64 n = IntKind.i64.wrap n := fun _ => rfl
    obtain ⟨b, a, n, bd⟩ := r
    simp only at hbl hat hl ha1 hh
    rw [readX]
    simp only [hw]
    by_cases h1 : bd = true ∨ b.length ≤ a ∨ 6000 < IntKind.i64.wrap (n + 1) ∨ 200 < d
    · rw [if_pos h1]
      cases bd with
      | true => simp -dsimp [x_porismref01_reader_term, hh, xH, T0, cT]
      | false =>
        by_cases h2 : b.length ≤ a
        · have h2' : (b.length : Int) ≤ a := by omega
          simp -dsimp [x_porismref01_reader_term, hh, xH, T0, cT, h2, h2']
        · have h2' : ¬ (b.length : Int) ≤ a := by omega
          by_cases h3 : 6000 < IntKind.i64.wrap (n + 1)
          · simp -dsimp [x_porismref01_reader_term, hh, xH, T0, cT, h2, h2', h3]
          · have h4 : 200 < d := by rcases h1 with h | h | h | h; cases h; omega; omega; exact h
            simp -dsimp [x_porismref01_reader_term, hh, xH, T0, cT, h2, h2', h3, h4]
    rw [if_neg h1]
    have hb0 : bd = false := by cases bd; rfl; exact absurd (.inl rfl) h1
    subst hb0
    have h2 : ¬ b.length ≤ a := fun h => h1 (.inr (.inl h))
    have h2' : ¬ (b.length : Int) ≤ a := by omega
    have h2l : a < b.length := by omega
    have h3 : ¬ 6000 < IntKind.i64.wrap (n + 1) := fun h => h1 (.inr (.inr (.inl h)))
    have h4 : ¬ 200 < d := fun h => h1 (.inr (.inr (.inr h)))
    have e0 : byteX ⟨b, a, n, false⟩ 0 = b[a] := by show (b[a + 0]?).getD 0 = _; rw [Nat.add_zero, List.getElem?_eq_getElem h2l]; rfl
    rw [e0]
    generalize hA : b[a] = A at *
    generalize hN : IntKind.i64.wrap (n + 1) = N at *
    generalize hK : IntKind.i64.wrap A = K at *
    simp -dsimp [x_porismref01_reader_term, hh, h2, h2', h2l, h3, h4, hA, hN, ha1, hK]
    refine call_of (rkids_ok K) ?_
    have hk3 := kidsM_le K
    obtain ⟨a1, ha1n⟩ : ∃ a1 : Nat, a1 = a + 1 := ⟨_, rfl⟩
    have e1 : (a : Int) + 1 = (a1 : Int) := by omega
    have e1n : a + 1 = a1 := ha1n.symm
    rw [e1, e1n]
    by_cases k0 : kidsM K < 0
    · rw [if_pos (.inl k0)]
      simp -dsimp [hh, xH, T0, cT, k0]
    by_cases k1 : kidsM K = 0
    · by_cases k2 : b.length < a + 3
      · have k2' : IntKind.i64.wrap ((b.length : Int) - (a1 : Int)) < 2 := by rw [wrap_id (by omega) (by omega)]; omega
        rw [if_pos (.inr ⟨k1, k2⟩)]
        simp -dsimp [hh, xH, T0, cT, k0, k1, k2']
      · have k2' : ¬ IntKind.i64.wrap ((b.length : Int) - (a1 : Int)) < 2 := by rw [wrap_id (by omega) (by omega)]; omega
        have l1 : a1 < b.length := by omega
        have l2 : a1 + 1 < b.length := by omega
        have w1 : IntKind.i64.wrap ((a1 : Int) + 1) = (a1 : Int) + 1 := wrap_id (by omega) (by omega)
        have w2 : IntKind.i64.wrap ((a1 : Int) + 2) = ((a : Int) + 3) := by rw [wrap_id (by omega) (by omega)]; omega
        obtain ⟨a2, ha2n⟩ : ∃ a2 : Nat, a2 = a1 + 1 := ⟨_, rfl⟩
        have e2 : (a1 : Int) + 1 = (a2 : Int) := by omega
        have l2' : a2 < b.length := by omega
        have y1 : byteX ⟨b, a, n, false⟩ 1 = b[a1] := by show (b[a + 1]?).getD 0 = _; rw [e1n, List.getElem?_eq_getElem l1]; rfl
        have y2 : byteX ⟨b, a, n, false⟩ 2 = b[a2] := by show (b[a + 2]?).getD 0 = _; rw [show a + 2 = a2 by omega, List.getElem?_eq_getElem l2']; rfl
        have hne : ¬ (kidsM K < 0 ∨ kidsM K = 0 ∧ b.length < a + 3) := by omega
        rw [if_neg hne, if_pos k1, y1, y2]
        rw [e2] at w1
        generalize hB1 : b[a1] = B1 at *
        generalize hB2 : b[a2] = B2 at *
        simp -dsimp [hh, k0, k1, k2', l1, l2', hB1, hB2, w1, w2, e2]
        refine wp_upto 0 (fun i st => st.s 0 = .ptr 18 v 0 ∧ st.s 6 = .d (.int .i64 0) ∧ st.s 7 = .d (.int .i64 0) ∧ (∃ u, st.s 5 = .ptr 5 u 0 ∧ st.h 5 = ⟨u, .box [.d (.int .i64 K), .d (.int .i64 (orB B1 B2)), .fsl 3 []] false⟩) ∧ (∃ u, st.s 4 = .ptr 4 u 0 ∧
          st.h 4 = ⟨u, .box [.d (.int .i64 0), .d (.int .i64 0), .fsl 3 []] false⟩) ∧ st.h 18 = ⟨v, .box [.d (.sl 1 (b.map (.int .u8))), .d (.int .i64 (a + 3)), .d (.int .i64 N), .d (.bool false)] false⟩) ?_ ?_
        · simp -dsimp [hh, k1]
          rfl
        · rintro i ⟨s, hpp⟩ hi ⟨g0, g1, g2, ⟨u, g3, g4⟩, ⟨u', g5, g6⟩, g7⟩
          dsimp only at g0 g1 g2 g3 g4 g5 g6 g7
          simp -dsimp [g0, g1, g2, g3, g4, g5, g6, g7, xH, cT]
    have hne : ¬ (kidsM K < 0 ∨ kidsM K = 0 ∧ b.length < a + 3) := by omega
    rw [if_neg hne, if_neg k1]
    have hkb := fun i => kidsX_b (f := f) (d := d + 1) ⟨b, a1, N, false⟩ i
    have hf0 : 0 < f := by omega
    generalize hR0 : (⟨b, a1, N, false⟩ : RX) = R0 at *
    have hR0b : R0.b = b ∧ R0.at_ = a1 ∧ R0.nodes = N ∧ R0.bad = false := by rw [← hR0]; exact ⟨rfl, rfl, rfl, rfl⟩
    generalize hg : readX f (d + 1) = g at *
    have hfin : ∀ i, i ≤ (kidsM K).toNat → (kidsX g i R0).2.bad = true → kidsX g (kidsM K).toNat R0 = kidsX g i R0 := fun i hi hb => kidsX_bad g R0 hb hi
    generalize hm0 : (kidsM K).toNat = m at *
    simp -dsimp [hh, k0, k1]
    refine wp_upto m (fun i st => st.s 0 = .ptr 18 v 0 ∧ st.s 1 = .d (.int .i64 d) ∧ st.s 6 = .d (.int .i64 (kidsM K)) ∧ st.s 7 = .d (.int .i64 i) ∧
      (∃ u c, st.s 5 = .ptr 5 u 0 ∧ st.h 5 = ⟨u, .box [.d (.int .i64 K), .d (.int .i64 0), c] false⟩ ∧ (((kidsX g i R0).1 = [] ∧ c = .fsl 3 []) ∨ ((kidsX g i R0).1 ≠ [] ∧ ∃ q, c = .rsl 146 q ∧ st.h 146 = ⟨q, .row 3 ((kidsX g i R0).1.map eT) false⟩))) ∧
      (∃ u, st.s 4 = .ptr 4 u 0 ∧ st.h 4 = ⟨u, .box [.d (.int .i64 0), .d (.int .i64 0), .fsl 3 []] false⟩) ∧
      st.h 18 = ⟨v, .box [.d (.sl 1 ((kidsX g i R0).2.b.map (.int .u8))), .d (.int .i64 (kidsX g i R0).2.at_), .d (.int .i64 (kidsX g i R0).2.nodes), .d (.bool (kidsX g i R0).2.bad)] false⟩ ∧ (kidsX g i R0).1.length ≤ i) ?_ ?_
    · simp -dsimp [hh, kidsX, hR0b]
    · clear hh hl
      rintro i ⟨s, hpp⟩ hi ⟨e1, e2, e3, e3', ⟨u, c, e4, e5, e6⟩, ⟨u', e7, e8⟩, e9, e10⟩
      dsimp only at e1 e2 e3 e3' e4 e5 e6 e7 e8 e9
      have hkbi := hkb i
      by_cases hlt : i < m
      · have hpos : (i : Int) < kidsM K := by omega
        cases hb : (kidsX g i R0).2.bad
        · have hI := IH (kidsX g i R0).2 hf0 (by omega) (by omega) (by rw [hkbi.1, hR0b.1]; exact hbl) (by rw [hkbi.1]; exact hkbi.2 (by rw [hR0b.1, hR0b.2.1]; omega))
          have hN : kidsX g (i + 1) R0 = ((kidsX g i R0).1 ++ [(g (kidsX g i R0).2).1], (g (kidsX g i R0).2).2) := by rw [kidsX, if_neg (by simp [hb])]
          rw [hN]
          have hw1 : IntKind.i64.wrap ((i : Int) + 1) = (i : Int) + 1 := wrap_id (by omega) (by omega)
          clear hN hfin hkb hkbi
          generalize (kidsX g i R0) = q at *
          obtain ⟨ks', r'⟩ := q
          generalize hg2 : g r' = q2 at *
          obtain ⟨t2, r2⟩ := q2
          simp only at hI hg2 e6 e9 e10 hb
          have hrm : (ks'.length + 1) * 40 ≤ maxRoom := by simp only [maxRoom]; omega
          have h40 : 40 ≤ maxRoom := by simp only [maxRoom]; omega
          rcases e6 with ⟨rfl, rfl⟩ | ⟨hne, q, rfl, e6⟩
          · simp -dsimp [e1, e2, e3, e3', e4, e5, e7, e8, e9, hpos, hb, hd1]
            refine callM_of hI ?_ ?_
            · simp [xH, e9, hb]
            simp -dsimp [mergeK_cons, mergeK_nil, xH, e1, e2, e3, e3', e4, e5, e7, e8, e9, hw1, cT, hlt, h40]
            rw [eT_eq, cT]
          · simp -dsimp [e1, e2, e3, e3', e4, e5, e6, e7, e8, e9, hpos, hb, hd1]
            refine callM_of hI ?_ ?_
            · simp [xH, e9, hb]
            simp -dsimp [mergeK_cons, mergeK_nil, xH, e1, e2, e3, e3', e4, e5, e6, e7, e8, e9, hw1, cT, hlt, hrm]
            exact ⟨by rw [eT_eq, cT], by omega⟩
        · rw [hfin i hi hb]
          clear hfin hkb hkbi
          generalize (kidsX g i R0) = q at *
          obtain ⟨ks', r'⟩ := q
          simp only at e6 e9 e10 hb ⊢
          rcases e6 with ⟨rfl, rfl⟩ | ⟨hne, q, rfl, e6⟩
          · simp -dsimp [e1, e2, e3, e3', e4, e5, e7, e8, e9, hb, hpos, xH, cT]
          · simp -dsimp [e1, e2, e3, e3', e4, e5, e6, e7, e8, e9, hb, hpos, xH, cT]
      · have hi' : i = m := by omega
        subst hi'
        have hnpos : ¬ ((i : Int) < kidsM K) := by omega
        clear hfin hkb hkbi
        generalize (kidsX g i R0) = q at *
        obtain ⟨ks', r'⟩ := q
        simp only at e6 e9 e10 ⊢
        rcases e6 with ⟨rfl, rfl⟩ | ⟨hne, q, rfl, e6⟩
        · simp -dsimp [e1, e2, e3, e3', e4, e5, e7, e8, e9, hnpos, xH, cT]
        · simp -dsimp [e1, e2, e3, e3', e4, e5, e6, e7, e8, e9, hnpos, xH, cT]
end Ev
end Go.Proofs.Ytjebpfhffenbnaa
/- pack: the document's Unpack is Get. -/
namespace Go.Proofs.Ytjebpfhffenbnaa
namespace Ev
open Go
set_option maxRecDepth 100000
set_option linter.unusedSimpArgs false
set_option linter.unusedVariables false
attribute [local simp] allD_map_d sks_map_d tk tn tks initA EndsM
structure Sim (q : RX) (p : RS) : Prop where
  bad : q.bad = p.bad
  good : q.bad = false → p.left = q.b.drop q.at_ ∧ p.nodes = q.nodes ∧ q.at_ ≤ q.b.length ∧ 0 ≤ q.nodes ∧ q.nodes ≤ 6000
theorem readX_bad {f : Nat} {d : Int} {r : RX} (h : r.bad = true) : (readX f d r).2.bad = true := by
  cases f with
  | zero => exact h
  | succ f => rw [readX, if_pos (.inl h)]
theorem readS_head {f : Nat} {d : Int} {p : RS} (hh : (headS d p).bad = true) : (readS (f + 1) d p).2.bad = true := by
  rw [readS]
  split
  · show (takeS 2 (headS d p)).2.bad = true
    rw [takeS, if_pos (.inl hh)]
  · show (kidsI _ _ (headS d p)).2.bad = true
    rw [kidsI_bad (readS f (d + 1)) (headS d p) (i := 0) hh (Nat.zero_le _)]; exact hh
theorem readS_bad {f : Nat} {d : Int} {p : RS} (h : p.bad = true) : (readS f d p).2.bad = true := by
  cases f with
  | zero => exact h
  | succ f =>
    refine readS_head ?_
    have : (takeS 1 p).2.bad = true := by rw [takeS, if_pos (.inl h)]
    simp [headS, this]
theorem sim_bad {q : RX} {p : RS} (h1 : q.bad = true) (h2 : p.bad = true) : Sim q p := ⟨by rw [h1, h2], fun h => by rw [h1] at h; cases h⟩
theorem read_sim : ∀ (f : Nat) (d : Int) (r : RX) (p : RS), Sim r p → Sim (readX f d r).2 (readS f d p).2 ∧ ((readX f d r).2.bad = false → (readX f d r).1 = (readS f d p).1)
  | 0, _, _, _, h => ⟨h, fun _ => rfl⟩
  | f + 1, d, r, p, h => by
    have IH := read_sim f (d + 1)
    cases hb : r.bad with
    | true =>
      have hb2 : p.bad = true := h.bad ▸ hb
      exact ⟨sim_bad (readX_bad hb) (readS_bad hb2), fun hx => by rw [readX_bad hb] at hx; cases hx⟩
    | false =>
      obtain ⟨g1, g2, g3, g4, g5⟩ := h.good hb
      have hb2 : p.bad = false := h.bad ▸ hb
      obtain ⟨b, a, n, bd⟩ := r
      obtain ⟨l, n', bd'⟩ := p
      simp only at hb hb2 g1 g2 g3 g4 g5
      subst hb hb2 g1 g2
      have key : ∀ {q : T × RX} {p : T × RS}, q.2.bad = true → p.2.bad = true → Sim q.2 p.2 ∧ (q.2.bad = false → q.1 = p.1) := fun h1 h2 => ⟨sim_bad h1 h2, fun h => by rw [h1] at h; cases h⟩
      have hn1 : w64 (n' + 1) = n' + 1 := w64_id (by omega) (by omega)
      rcases Nat.lt_or_ge a b.length with hlt | hge
      case inr =>
        refine key ?_ ?_
        · rw [readX, if_pos (.inr (.inl hge))]
        · refine readS_head ?_
          have : (takeS 1 ⟨b.drop a, n', false⟩).2.bad = true := by rw [takeS, if_pos (.inr (by simp; omega))]
          simp [headS, this]
      have hd : b.drop a = b[a] :: b.drop (a + 1) := List.drop_eq_getElem_cons hlt
      have ht : takeS 1 ⟨b.drop a, n', false⟩ = ([b[a]], ⟨b.drop (a + 1), n', false⟩) := by rw [hd]; exact take1 _ _ _
      have hH : headS d ⟨b.drop a, n', false⟩ = ⟨b.drop (a + 1), n' + 1, decide (kidsM (w64 b[a]) < 0) || decide (6000 < n' + 1) || decide (200 < d)⟩ := by rw [headS, ht, hn1]; simp
      have e0 : byteX ⟨b, a, n', false⟩ 0 = b[a] := by show (b[a + 0]?).getD 0 = _; rw [Nat.add_zero, List.getElem?_eq_getElem hlt]; rfl
      by_cases h6 : 6000 < n' + 1 ∨ 200 < d
      · refine key ?_ (readS_head ?_)
        · rw [readX, if_pos (by rw [hn1]; exact .inr (.inr h6))]
        · rw [hH]; rcases h6 with h6 | h6 <;> simp [h6]
      have hne : ¬ (false = true ∨ b.length ≤ a ∨ 6000 < w64 (n' + 1) ∨ 200 < d) := by
        rw [hn1]; rintro (h | h | h | h); cases h; omega; exact h6 (.inl h); exact h6 (.inr h)
      have n6 : ¬ 6000 < n' + 1 := fun h => h6 (.inl h)
      have n2 : ¬ 200 < d := fun h => h6 (.inr h)
      by_cases k0 : kidsM (w64 b[a]) < 0
      · refine key ?_ (readS_head ?_)
        · rw [readX, if_neg hne, e0, if_pos (.inl k0)]
        · rw [hH]; simp [k0]
      have hH2 : headS d ⟨b.drop a, n', false⟩ = ⟨b.drop (a + 1), n' + 1, false⟩ := by rw [hH]; simp [k0, n6, n2]
      by_cases k1 : kidsM (w64 b[a]) = 0
      · have hS : readS (f + 1) d ⟨b.drop a, n', false⟩ = (.mk (w64 b[a]) (orB ((takeS 2 ⟨b.drop (a + 1), n' + 1, false⟩).1.headD 0) ((takeS 2 ⟨b.drop (a + 1), n' + 1, false⟩).1.getD 1 0)) [], (takeS 2 ⟨b.drop (a + 1), n' + 1, false⟩).2) := by
          rw [readS, ht, List.headD_cons, if_pos k1, hH2]
        by_cases k2 : b.length < a + 3
        · refine key ?_ ?_
          · rw [readX, if_neg hne, e0, if_pos (.inr ⟨k1, k2⟩)]
          · rw [hS]; show (takeS 2 _).2.bad = true
            rw [takeS, if_pos (.inr (by show (b.drop (a + 1)).length < 2; rw [List.length_drop]; omega))]
        · have l1 : a + 1 < b.length := by omega
          have l2 : a + 2 < b.length := by omega
          have d1 : b.drop (a + 1) = b[a + 1] :: b[a + 2] :: b.drop (a + 3) := by rw [List.drop_eq_getElem_cons l1, List.drop_eq_getElem_cons l2]
          have ht2 : takeS 2 ⟨b.drop (a + 1), n' + 1, false⟩ = ([b[a + 1], b[a + 2]], ⟨b.drop (a + 3), n' + 1, false⟩) := by rw [d1]; exact take2 _ _ _ _
          have y1 : byteX ⟨b, a, n', false⟩ 1 = b[a + 1] := by show (b[a + 1]?).getD 0 = _; rw [List.getElem?_eq_getElem l1]; rfl
          have y2 : byteX ⟨b, a, n', false⟩ 2 = b[a + 2] := by show (b[a + 2]?).getD 0 = _; rw [List.getElem?_eq_getElem l2]; rfl
          rw [hS, ht2, readX, if_neg hne, e0, if_neg (show ¬ (kidsM (w64 b[a]) < 0 ∨ (kidsM (w64 b[a]) = 0 ∧ b.length < a + 3)) by omega), if_pos k1, y1, y2, hn1]
          exact ⟨⟨rfl, fun _ => ⟨rfl, rfl, by show a + 3 ≤ b.length; omega, by show 0 ≤ n' + 1; omega, by show n' + 1 ≤ 6000; omega⟩⟩, fun _ => rfl⟩
      · have hS : readS (f + 1) d ⟨b.drop a, n', false⟩ = (.mk (w64 b[a]) 0 (kidsI (readS f (d + 1)) (kidsM (w64 b[a])).toNat ⟨b.drop (a + 1), n' + 1, false⟩).1, (kidsI (readS f (d + 1)) (kidsM (w64 b[a])).toNat ⟨b.drop (a + 1), n' + 1, false⟩).2) := by
          rw [readS, ht, List.headD_cons, if_neg k1, hH2]
        have go : ∀ i, Sim (kidsX (readX f (d + 1)) i ⟨b, a + 1, n' + 1, false⟩).2 (kidsI (readS f (d + 1)) i ⟨b.drop (a + 1), n' + 1, false⟩).2 ∧ ((kidsX (readX f (d + 1)) i ⟨b, a + 1, n' + 1, false⟩).2.bad = false → (kidsX (readX f (d + 1)) i ⟨b, a + 1, n' + 1, false⟩).1 = (kidsI (readS f (d + 1)) i ⟨b.drop (a + 1), n' + 1, false⟩).1) := by
          intro i
          induction i with
          | zero => exact ⟨⟨rfl, fun _ => ⟨rfl, rfl, by show a + 1 ≤ b.length; omega, by show 0 ≤ n' + 1; omega, by show n' + 1 ≤ 6000; omega⟩⟩, fun _ => rfl⟩
          | succ i ih =>
            obtain ⟨i1, i2⟩ := ih
            rw [kidsX, kidsI, ← i1.bad]
            by_cases hbb : (kidsX (readX f (d + 1)) i ⟨b, a + 1, n' + 1, false⟩).2.bad = true
            · rw [if_pos hbb, if_pos hbb]; exact ⟨i1, i2⟩
            · rw [if_neg hbb, if_neg hbb]
              obtain ⟨j1, j2⟩ := IH _ _ i1
              exact ⟨j1, fun hx => by
                show _ ++ [_] = _ ++ [_]
                rw [i2 (by simpa using hbb), j2 hx]⟩
        obtain ⟨s1, s2⟩ := go (kidsM (w64 b[a])).toNat
        rw [hS, readX, if_neg hne, e0, if_neg (show ¬ (kidsM (w64 b[a]) < 0 ∨ (kidsM (w64 b[a]) = 0 ∧ b.length < a + 3)) by omega), if_neg k1, hn1]
        exact ⟨s1, fun hx => by show T.mk _ _ _ = T.mk _ _ _; rw [s2 hx]⟩
theorem unpack_ok (b : List Int) (hb : b.length ≤ 1000000000) (at_ : Int) : Pure Try.prog n_porismref01_Unpack [eB b, .int .i64 at_] [.agg (cT (getT b at_)), .int .i64 (getN b at_), .int .i64 (getE b at_)] := by
  refine p_porismref01_Unpack rfl fun hs => ?_
  have hI := rin_ok at_ 0 b.length
  by_cases hc : at_ < 0 ∨ (b.length : Int) < at_
  · have hI0 : inB at_ 0 b.length = false := by
      cases h : inB at_ 0 b.length with
      | false => rfl
      | true => have := (inB_iff _ _ _).1 h; omega
    rw [hI0] at hI
    rw [getT, getN, getE, if_pos hc, if_pos hc, if_pos hc]
    simp -dsimp [x_porismref01_Unpack, eB]
    refine call_of hI ?_
    simp -dsimp [T0, cT]
  have hI1 : inB at_ 0 b.length = true := (inB_iff _ _ _).2 (by omega)
  rw [hI1] at hI
  obtain ⟨a, rfl⟩ : ∃ a : Nat, at_ = a := ⟨at_.toNat, by omega⟩
  have hR := readX_ok 201 1 1 ⟨b, a, 0, false⟩ (by omega) (by omega) (by omega) hb (by show a ≤ b.length; omega)
  obtain ⟨s1, s2⟩ := read_sim 201 1 ⟨b, a, 0, false⟩ ⟨b.drop a, 0, false⟩ ⟨rfl, fun _ => ⟨rfl, rfl, by show a ≤ b.length; omega, by show (0 : Int) ≤ 0; omega, by show (0 : Int) ≤ 6000; omega⟩⟩
  have hG : readS 201 1 ⟨b.drop a, 0, false⟩ = getS b a := by rw [getS, Int.toNat_natCast]
  have hB := (readX_b 201 1 ⟨b, a, 0, false⟩).1
  rw [hG] at s1 s2
  rw [getT, getN, getE, if_neg hc, if_neg hc, if_neg hc]
  generalize readX 201 1 ⟨b, a, 0, false⟩ = q at *
  generalize getS b a = p at *
  obtain ⟨t, b2, a2, n2, bd⟩ := q
  obtain ⟨u, l, n3, bd3⟩ := p
  have hbd : bd = bd3 := s1.bad
  subst hbd
  simp only at hB
  subst hB
  simp -dsimp [x_porismref01_Unpack, eB]
  refine call_of hI ?_
  simp -dsimp
  refine callM_of hR (by simp [xH]) ?_
  cases bd with
  | true => simp -dsimp [mergeK_cons, mergeK_nil, xH, T0, cT]
  | false =>
    obtain ⟨g1, g2, g3, _, _⟩ := s1.good rfl
    have ht : t = u := s2 rfl
    subst ht
    simp only at g1 g2 g3
    have hl : IntKind.i64.wrap ((b2.length : Int) - l.length) = (a2 : Int) := by rw [g1, List.length_drop, wrap_id (by omega) (by omega)]; omega
    simp -dsimp [mergeK_cons, mergeK_nil, xH, T0, cT, hl]
end Ev
end Go.Proofs.Ytjebpfhffenbnaa
/- PackReads. -/
namespace Go.Proofs.Ytjebpfhffenbnaa
namespace Ev
open Go
set_option maxRecDepth 100000
set_option linter.unusedSimpArgs false
set_option linter.unusedVariables false
attribute [local simp] allD_map_d sks_map_d tk tn tks initA EndsM
end Ev
end Go.Proofs.Ytjebpfhffenbnaa
/- PackExact. -/
namespace Go.Proofs.Ytjebpfhffenbnaa
namespace Ev
open Go
set_option maxRecDepth 100000
set_option linter.unusedSimpArgs false
set_option linter.unusedVariables false
attribute [local simp] allD_map_d sks_map_d tk tn tks initA EndsM
theorem twinBytes_own (l : List Int) (hl : l.length ≤ 2000000000) : OwnC Try.prog n_porismkeep_TwinBytes [eB l] [.one (.row 1 (l.map (.int .u8)) false)] := by
  refine own_small hm Try.func22 c_porismkeep_TwinBytes rfl fun hs => ?_
  have hr : l.length ≤ maxRoom := by simp only [maxRoom]; omega
  simp -dsimp [x_porismkeep_TwinBytes, eB, hr]
set_option maxHeartbeats 2000000 in
theorem exact03_law (b : List Int) (hB : byteL b) (t : T) (ot : okT t) (hbt : nodes t ≤ 1048576) (at_ : Int) : Pure Try.prog n_porismlaw03_PackExact [eB b, .agg (cT t), .int .i64 at_] [.bool true] := by
  refine p_porismlaw03_PackExact rfl fun hs => ?_
  have hH := heavy02_ok [t]
  simp [eTs, eT_eq, cT] at hH
  simp -dsimp [x_porismlaw03_PackExact, cT, eB]
  refine call_of hH ?_
  generalize heavy02 [t] = hv
  cases hv
  case true => simp -dsimp
  by_cases h3 : (3000 : Int) < b.length
  · simp -dsimp [h3]
  have hbl : b.length ≤ 3000 := by omega
  have hT := twinBytes_own b (by omega)
  have hTp := (twinBytes_own b (by omega)).pure
  have hU := twin_ok t ot
  have hP := put_ok b t (by omega) (by omega)
  have hC := rcheck_ok t
  have hKt := keepTerm_ok t
  have hG := get_ok b at_
  have hX := unpack_ok b (by omega) at_
  have hKu := keepTerm_ok (getT b at_)
  have hKb := keepBytes_ok b b
  have hpl := pk_len t
  simp only [decide_true] at hKb
  generalize getT b at_ = y at *
  generalize getN b at_ = n at *
  generalize getE b at_ = e at *
  simp only [eB, cT, putB] at hT hU hP hC hKt hG hX hKu hKb
  simp -dsimp [h3]
  refine callO_of hT (by simp [rowsV, rowsC, RV.cells]) ?_
  simp -dsimp
  refine call_of hU ?_
  simp -dsimp
  refine call_of hP ?_
  simp -dsimp
  refine call_of hC ?_
  by_cases hc : checkM t = 0
  · obtain ⟨c1, c2, c3⟩ := (check_iff (by omega)).1 hc
    have hPk := rpack_ok t c3 (by omega)
    have hKx := keepBytes_ok (b ++ pk t) (b ++ pk t)
    simp only [decide_true, eB, cT, List.map_append] at hPk hKx
    have r1 : b.length + (pk t).length ≤ maxRoom := by simp only [maxRoom]; omega
    simp -dsimp [hc]
    refine callO_of hT (by simp [rowsV, rowsC, RV.cells]) ?_
    simp -dsimp
    refine call_of hPk ?_
    simp -dsimp [r1]
    refine call_of hKx ?_
    simp -dsimp
    refine call_of hKt ?_
    simp -dsimp
    refine call_of hG ?_
    simp -dsimp
    refine call_of hX ?_
    simp -dsimp
    refine call_of hKu ?_
    simp -dsimp
    refine call_of hKb ?_
    simp -dsimp
    refine call_of wakes03_ok ?_
    simp -dsimp
  · simp -dsimp [hc]
    refine call_of hKt ?_
    simp -dsimp
    refine call_of hG ?_
    simp -dsimp
    refine call_of hX ?_
    simp -dsimp
    refine call_of hKu ?_
    simp -dsimp
    refine call_of hKb ?_
    simp -dsimp
    refine call_of wakes03_ok ?_
    simp -dsimp
end Ev
end Go.Proofs.Ytjebpfhffenbnaa
