/- Texts of this claim, in one. -/
import Derived.Test.YtgiejcndcbanjaaGreatSA
import Derived.Test.YtgiejcndcbanjaaGreatX
import Derived.Shelf.SlicesE.Clone
import Derived.WalkKit
import Derived.Lib.SliceRun
import Derived.Test.YtgiejcndcbanjaaGreatXs
import Derived.Test.YtgiejcndcbanjaaGreatXt
set_option maxRecDepth 100000
set_option linter.unusedSimpArgs false
set_option linter.unusedVariables false
namespace Go.Proofs.YtgiejcndcbanjaaGreat
namespace Ev
open Go
section
attribute [local simp] allD_map_d sks_map_d tk tn tks initA EndsM
mutual
def mapT (f : Int → Int → T) : T → Int → T
  | .mk k n ks, b => if k = 1 then f n b else .mk k n (mapL f k b 0 ks)
def mapL (f : Int → Int → T) (k b : Int) : Nat → List T → List T
  | _, [] => []
  | i, x :: xs => mapT f x (b + bindsM k i) :: mapL f k b (i + 1) xs
end
structure Ag where
  t : T
  size : Int
  depth : Int
  free : Int
def cAg (a : Ag) : List D := cT a.t ++ [.int .i64 a.size, .int .i64 a.depth, .int .i64 a.free]
def eAg (a : Ag) : D := .agg (cAg a)
@[simp] theorem eAg_cells (a : Ag) : (eAg a).cells = cAg a := rfl
structure St3 where
  sc : Bool
  sz : Int
  dp : Int
theorem small_of {G : GS} {h : Nat → Ent} {w : World} {v : Value} {d : D} (r : ARel G h w v (.d d)) : small 8 d := r.d_inv.small 8
theorem agg_arg {P : Program} {g : FuncId} {K : List Nat} {h0 h1 : Nat → Ent} {rs : List D} {pre post : List AV} {cs : List D} (hm : MutC P g (pre ++ .d (.agg cs) :: post) K h0 rs h1) : MutC P g (pre ++ .agg (cs.map .d) :: post) K h0 rs h1 := by
  obtain ⟨a1, a2, a3⟩ := hm
  refine ⟨a1, a2, fun G h w vs b1 b2 b3 b4 b5 => a3 G h w vs b1 b2 b3 (by simpa using b4) fun j a hj => ?_⟩
  rw [List.getElem?_append] at hj
  split at hj
  · rename_i hlt
    exact b5 j a (by rw [List.getElem?_append_left hlt]; exact hj)
  · rename_i hge
    cases hjj : j - pre.length with
    | zero =>
      rw [hjj] at hj
      simp at hj
      subst hj
      have := b5 j (.agg (cs.map .d)) (by rw [List.getElem?_append_right (by omega), hjj]; rfl)
      generalize hq : vs.getD j undef = q at this ⊢
      generalize hz : cs.map AV.d = zs at this
      cases this with
      | agg vs' _ hn hr =>
        subst hz
        refine .d _ _ (.agg vs' cs (by simpa using hn) fun i c hi => ?_)
        exact (hr i (.d c) (by rw [List.getElem?_map, hi]; rfl)).d_inv
    | succ i =>
      rw [hjj] at hj
      exact b5 j a (by rw [List.getElem?_append_right (by omega), hjj]; simpa using hj)
theorem map_map (f g h : Int → Int → T) (e : Int) (hv : ∀ n b : Int, 0 ≤ n → n ≤ 65535 → 0 ≤ b → b ≤ 4194304 → mapT f (g n b) (b + e) = h n b) (t : T) : ∀ b : Int, formedM t = true → 0 ≤ b → b + nodes t ≤ 4194304 → mapT f (mapT g t b) (b + e) = mapT h t b := by
  refine T.ind (p := fun t => ∀ b : Int, formedM t = true → 0 ≤ b → b + nodes t ≤ 4194304 → mapT f (mapT g t b) (b + e) = mapT h t b) ?_ t
  intro k n ks ih b hfm h0 hb
  rw [mapT, mapT]
  by_cases h1 : k = 1
  · have hn := var_formed h1 hfm
    rw [if_pos h1, if_pos h1, hv n b hn.1 hn.2 h0 (by omega)]
  · rw [if_neg h1, if_neg h1, mapT, if_neg h1]
    congr 1
    have go : ∀ (xs : List T) (i : Nat), (∀ x ∈ xs, x ∈ ks) → mapL f k (b + e) i (mapL g k b i xs) = mapL h k b i xs := by
      intro xs
      induction xs with
      | nil => intro i _; simp [mapL]
      | cons x xs ihx =>
        intro i hm
        have hx := hm x (by simp)
        have hxn := nodes_kid (k := k) (n := n) hx
        have hbl := binds_le k i
        have e1 : b + e + bindsM k i = b + bindsM k i + e := by omega
        rw [mapL, mapL, mapL, e1, ih x hx _ (kids_formed hfm x hx) (by omega) (by omega), ihx (i + 1) fun y hy => hm y (by simp [hy])]
    exact go ks 0 fun x hx => hx
def mv (y : Int) (n b : Int) : T := .mk 1 (if b ≤ n then w64 (n + y) else n) []
end
section
section
variable {P : Program}
theorem kill_step {G : GS} {h : Nat → Ent} {w : World} (i : Inv G h w) (h2 : Nat → Ent) (hd : ∀ k, (h2 k).body = .dead ∧ (h k).ver < (h2 k).ver) : Step G h w G h2 w := by
  refine ⟨⟨i.st, fun k => by rw [(hd k).1]; trivial, fun k k' b h1 h3 => by rw [(hd k).1] at h1; exact h1.elim⟩, ⟨.refl _ _, fun k => Nat.le_of_lt (hd k).2, fun k hk => ?_⟩, ⟨rfl, rfl, rfl, Nat.le_refl _, fun _ _ _ => ⟨rfl, rfl⟩⟩, fun k b ho => by rw [(hd k).1] at ho; exact ho.elim⟩
  have := (hd k).2
  omega
def EndsK (res : List XRes) (rs : List RV) (K : List Nat) (h1 : Nat → Ent) : Ex → S → Prop := fun e st => (e = .normal ∨ e = .ret) ∧ ∃ vs, resL st res = some vs ∧ fitVs st.h rs vs ∧ (keysV rs vs).Nodup ∧ (∀ k ∈ keysV rs vs, k ∉ skVs st.h rs vs) ∧ ∀ k ∈ K, (h1 k).body = .dead ∧ (st.h k).ver < (h1 k).ver
theorem mutO_kill {f : FuncId} {fn : Func} {x : XFn} (hm : P.follows .mixedOrders = true) (hf : P.funcs[f]? = some fn) (hx : cfn P fn = some x) {aa : List AV} {rs : List RV} {K : List Nat} {h0 h1 : Nat → Ent} (hl : aa.length = x.np) (hdead : ∀ k ∈ K, (h1 k).body = .dead)
    (hw : ∀ (G : GS) (h : Nat → Ent) (w : World) (vs : List Value), (∀ k ∈ K, h k = h0 k) → vs.length = aa.length → (∀ (j : Nat) a, aa[j]? = some a → ARel G h w (vs.getD j undef) a) → wpX P x.code (EndsK x.res rs K h1) ⟨initA aa, h⟩) : MutO P f aa K h0 rs h1 := by
  have hov : ∀ k ∈ K, OverB K (h1 k).body := fun k hk => by rw [hdead k hk]; trivial
  unfold cfn at hx
  split at hx
  · rename_i c hb
    split at hx
    · cases hx
    · rename_i hname
      split at hx
      · rename_i xc r hcc hres
        split at hx
        · rename_i hnp
          cases hx
          simp only at hl hw
          refine ⟨⟨fn, hf, hname, by rw [hb]; rfl⟩, hov, fun G h w vs hk _ hi hvl hrel => ?_⟩
          refine calls_of_wp hf hb ?_
          have hw := hw G h w vs hk hvl hrel
          have fr : Fr fn.ntmps G ⟨initA aa, h⟩ { tmps := vs.toArray ++ Array.replicate (fn.ntmps - vs.toArray.size) undef, defers := [] } w := by
            refine ⟨hi, fun i => ?_, by simp; omega⟩
            simp only [initA]
            cases hd : aa[i]? with
            | none =>
              have hge : aa.length ≤ i := List.getElem?_eq_none_iff.1 hd
              have : (vs.toArray ++ Array.replicate (fn.ntmps - vs.toArray.size) undef).getD i undef = undef := by
                rw [Array.getD_eq_getD_getElem?, Array.getElem?_append_right (by simp; omega), Array.getElem?_replicate]
                split <;> rfl
              rw [this]
              exact .skip
            | some a =>
              have hlt := (List.getElem?_eq_some_iff.1 hd).1
              have : (vs.toArray ++ Array.replicate (fn.ntmps - vs.toArray.size) undef).getD i undef = vs.getD i undef := by
                rw [Array.getD_eq_getD_getElem?, Array.getElem?_append_left (by simp; omega)]
                simp
              rw [this]
              exact hrel i a hd
          refine wp_mono (code_ok hm c xc hcc _ _ _ _ _ hw fr) ?_
          rintro e a' w' ⟨ex, G', st', rfl, fr', hs, hd, hend, vs', hrv, hfit0, hnd, hap0, hK⟩
          have hfit := fitVs_ok hfit0
          have hap : ∀ k ∈ keysV rs vs', k ∉ skV st'.h rs vs' := fun k hk => by rw [skV_eq]; exact hap0 k hk
          obtain ⟨us, h1', h2, h3⟩ := results_ok (P := P) fr'.inv fr'.slots _ _ _ hres hrv
          obtain ⟨hd2, hlv, hvr, hinv, hOwn⟩ := rows_named fr'.inv hfit hnd hap
          have hall := hs.trans (frz_step fr'.inv (skV st'.h rs vs'))
          have hfv : ∀ q, (frz st'.h (skV st'.h rs vs') q).ver = (st'.h q).ver := fun q => by simp only [frz]; split <;> rfl
          have hkill := hall.trans (kill_step hall.inv (fun q => if q ∈ K then h1 q else ⟨(st'.h q).ver + 1, .dead⟩) fun q => by
            rw [hfv]
            by_cases hq : q ∈ K
            · simp only [if_pos hq]; exact hK q hq
            · simp only [if_neg hq]; refine ⟨?_, Nat.lt_succ_self _⟩; first | rfl | trivial)
          have hpost : (results fn a'.tmps).run P w' = .ok (handed us) w' := run_results h1'
          have hR : ∃ (G2 : GS) (h2 : Nat → Ent) (us' : List Value) (hd2 : Nat → Hd), Ending.returned (handed us) = .returned (handed us') ∧ us'.length = (valsV none_ 0 0 rs).length ∧
              (∀ (j : Nat) v, (valsV none_ 0 0 rs)[j]? = some v → ARel ⟨G2.St, hd2⟩ (rowsH none_ 0 (rowsV rs)) w' (us'.getD j undef) v) ∧ (∀ k ∈ K, h2 k = h1 k) ∧ (∀ k, k ∉ K → (h2 k).body = .dead) ∧ Step G h w G2 h2 w' ∧
              Inv ⟨G2.St, hd2⟩ (rowsH none_ 0 (rowsV rs)) w' ∧ ∀ k b, Owns ⟨G2.St, hd2⟩ k b (rowsH none_ 0 (rowsV rs) k).body → ((∃ q, Owns G q b (h q).body) ∨ w.heap.size ≤ b) ∧ ∀ q, ¬ Owns G2 q b (h2 q).body := by
            refine ⟨_, _, us, hd2, rfl, by rw [valsV_len, h2, hlv], fun j v hj => ?_, fun k hm => by simp only [if_pos hm], fun k hm => by simp only [if_neg hm], hkill, hinv, fun n b ho => ?_⟩
            · obtain ⟨a, ha, hr⟩ := hvr j v hj
              exact hr _ (h3 j a ha)
            · obtain ⟨k, hk, o3⟩ := hOwn n b ho
              refine ⟨hall.grow k b o3, fun q hq => ?_⟩
              by_cases hqk : q ∈ K
              · rw [if_pos hqk, hdead q hqk] at hq
                exact hq
              · rw [if_neg hqk] at hq
                exact hq
          rcases hend with rfl | rfl
          · exact ⟨hd, handed us, hpost, hR⟩
          · exact ⟨hd, handed us, hpost, hR⟩
        · cases hx
      · cases hx
  · cases hx
end
end
section
attribute [local simp] allD_map_d sks_map_d tk tn tks initA EndsM
def eB (l : List Int) : D := .sl 1 (l.map (.int .u8))
def rhoC : Go.Shelf.Ren := ⟨fun x => if x = 41 then 87 else x, fun x => if x = 4 then 4 else if x = 22 then 37 else if x = 23 then 5 else x, fun x => x⟩
theorem laysC : SlLaysE0.n41 Tryz.prog rhoC where
  mixed := hm
  f41 := ⟨Tryz.f87.name, by kernel_rfl, Tryz.func87.trans (by kernel_rfl)⟩
  t4 := Tryz.underlying4
  a4 := Tryz.isAgg4
  z4 := Tryz.sizeOf4
  v4 := Tryz.zeroValue4
  t22 := Tryz.underlying37
  a22 := Tryz.isAgg37
  z22 := Tryz.sizeOf37
  v22 := Tryz.zeroValue37
theorem info_u8 : ∃ i, Tryz.prog.info? 5 = some i ∧ i.zero = some (.int .u8 0) ∧ i.size = 1 ∧ i.bytes = 1 := by
  obtain ⟨i, hi⟩ := Option.isSome_iff_exists.1 (by kernel_rfl : (Tryz.prog.info? 5).isSome = true)
  have e1 : (Tryz.prog.info? 5).bind (·.zero) = some (.int .u8 0) := by kernel_rfl
  have e2 : (Tryz.prog.info? 5).map (fun i => i.size) = some 1 := by kernel_rfl
  have e3 : (Tryz.prog.info? 5).map (fun i => i.bytes) = some 1 := by kernel_rfl
  rw [hi] at e1 e2 e3
  exact ⟨i, hi, e1, by simpa using e2, by simpa using e3⟩
theorem clone_empty (a : Addr) (c : Nat) (w : World) : Calls Tryz.prog n_slices_Clone_byte #[.slice (some a) 0 c] w fun e w' => ∃ v', e = .returned v' ∧ w'.ownsRow w.heap.size 5 1 v' 0 [] ∧ RowKit.Below w.heap.size w w' := by
  obtain ⟨i0, hi0, hz, hs, hby⟩ := info_u8
  have mixed := hm
  have t4 := Tryz.underlying4; have a4 := Tryz.isAgg4; have z4 := Tryz.sizeOf4; have v4 := Tryz.zeroValue4
  have t22 := Tryz.underlying37; have a22 := Tryz.isAgg37; have z22 := Tryz.sizeOf37; have v22 := Tryz.zeroValue37
  have z23 := Tryz.sizeOf5
  have q22 : ∀ (w : World) (a : Option Addr) (n c n' c' : Nat), (binOp .eql 37 (.slice a n c) (.slice none n' c')).run Tryz.prog w = .ok (.bool a.isNone) w := fun w a n c n' c' => Lib.run_eql_slice_nil w _ _ a n c n' c' Tryz.underlying37
  have u22 : ∀ w, Sem.run Tryz.prog (underlying 37) w = .ok (TypeDesc.slice 5) w := run_underlying Tryz.underlying37
  go_enter Tryz.func87, Tryz.ntmps87
  go_wp2_with (at_builtin; refine wpList_append_own _ rfl _ _ 37 rfl w.heap.size 5 i0 (.int .u8 0) 1 1 Tryz.underlying37 hi0 hz hs hby rfl Nat.one_pos _ _ _ rfl (World.ownsRow_made w #[] 0 (Nat.le_refl _) (Nat.zero_le _) (by simp)) a 0 c [] rfl rfl (fun j u h => by simp at h) (fun u h => by simp at h) (by simp) (by simp) (by simp) ?_)
  intro v' w1 hown hgrow hnil
  go_wp2
  go_ret
  exact ⟨v', rfl, by simpa using hown, ((RowKit.Below.refl _ w).alloc (Nat.le_refl _) _).grown hgrow (by simp) (by intro k hk; simp [Value.ownBlock] at hk; omega)⟩
theorem rowH0 (bs : Body) : rowsH none_ 0 [bs] 0 = ⟨1, bs⟩ := rowsH_at none_ 0 [bs] (q := 0) rfl
theorem rowH1 (bs : Body) {k : Nat} (hk : k ≠ 0) : rowsH none_ 0 [bs] k = ⟨0, .dead⟩ := rowsH_out none_ 0 [bs] fun q hq e => hk (by simp only [List.length_singleton] at hq; rw [e]; simp only [nk]; omega)
theorem clone_ok (l : List Int) (hl : l.length ≤ 1000000000) : OwnC Tryz.prog n_slices_Clone_byte [eB l] [.one (.row 1 (l.map (.int .u8)) false)] := by
  refine ⟨⟨Tryz.f87, Tryz.func87, by decide, rfl⟩, fun St w vs hst hrel => ?_⟩
  obtain ⟨i0, hi0, hz, hs, hby⟩ := info_u8
  match vs, hrel with
  | [v], ⟨_, hrL⟩ =>
    have hr0 := hrL 0 _ rfl
    simp only [List.getD_cons_zero, eB] at hr0
    cases hr0 with
    | sl A cap sz b off xs hc hm1 hsz ha val hv h1 hr =>
      simp only [List.length_map] at hc ha ⊢
      have fin : ∀ (e : Ending) (w' : World), (∃ v', e = .returned v' ∧ w'.ownsRow w.heap.size 5 1 v' l.length (l.map (.int .u8)) ∧ RowKit.Below w.heap.size w w') →
          ∃ (G' : GS) (us : List Value), e = .returned (handed us) ∧ us.length = (valsV none_ 0 0 [.one (.row 1 (l.map (.int .u8)) false)]).length ∧ (∀ (j : Nat) v, (valsV none_ 0 0 [.one (.row 1 (l.map (.int .u8)) false)])[j]? = some v → ARel G' (rowsH none_ 0 (rowsV [.one (.row 1 (l.map (.int .u8)) false)])) w' (us.getD j undef) v) ∧
      Inv G' (rowsH none_ 0 (rowsV [.one (.row 1 (l.map (.int .u8)) false)])) w' ∧ RowKit.Below w.heap.size w w' ∧ (∀ b, b < w.heap.size → G'.St b = St b) ∧ (∀ k b, Owns G' k b (rowsH none_ 0 (rowsV [.one (.row 1 (l.map (.int .u8)) false)]) k).body → w.heap.size ≤ b) := by
        rintro e w' ⟨v', rfl, ⟨_, hown⟩, hB⟩
        have e0 : rowsV [.one (.row 1 (l.map (.int .u8)) false)] = [.row 1 (l.map (.int .u8)) false] := rfl
        rw [e0]
        have hSt0 : ∀ b, w.heap.size ≤ b → St b = 0 := fun b hb => by
          rcases Nat.eq_zero_or_pos (St b) with h | h
          · exact h
          · have := hst b h; omega
        rcases hown with ⟨rfl, hn⟩ | ⟨g, cap', cur, rfl, hg, hh, hle, hml, hcs, htk⟩
        · have hl0 : l = [] := List.eq_nil_of_length_eq_zero hn
          subst hl0
          refine ⟨⟨St, fun _ => ⟨none, 0⟩⟩, [.slice none 0 0], rfl, rfl, fun j v hj => ?_, ⟨fun b hb => Nat.lt_of_lt_of_le (hst b hb) hB.size, fun k => ?_, fun k k' b o1 o2 => ?_⟩, hB, fun _ _ => rfl, fun k b ho => ?_⟩
          · match j, hj with
            | 0, hj =>
              simp only [valsV, oneV, List.getElem?_cons_zero, Option.some.injEq] at hj
              subst hj
              refine .rsl _ _ _ rfl (by rw [show nk 0 0 = 0 from rfl, rowH0]; exact Nat.le_refl _) fun _ sz xs fz hb => ?_
              rw [show nk 0 0 = 0 from rfl, rowH0] at hb
              cases hb
              rfl
            | j + 1, hj => simp [valsV] at hj
          · by_cases hk : k = 0
            · subst hk; rw [rowH0]; exact .inl ⟨rfl, rfl, rfl⟩
            · rw [rowH1 _ hk]; trivial
          · by_cases hk : k = 0
            · subst hk; rw [rowH0] at o1; exact absurd o1.1 (by simp)
            · rw [rowH1 _ hk] at o1; exact o1.elim
          · by_cases hk : k = 0
            · subst hk; rw [rowH0] at ho; exact absurd ho.1 (by simp)
            · rw [rowH1 _ hk] at ho; exact ho.elim
        · refine ⟨⟨St, fun _ => ⟨some ⟨g, 0, none⟩, cap'⟩⟩, [.slice (some ⟨g, 0, none⟩) l.length cap'], rfl, rfl, fun j v hj => ?_, ⟨fun b hb => Nat.lt_of_lt_of_le (hst b hb) hB.size, fun k => ?_, fun k k' b o1 o2 => ?_⟩, hB, fun _ _ => rfl, fun k b ho => ?_⟩
          · match j, hj with
            | 0, hj =>
              simp only [valsV, oneV, List.getElem?_cons_zero, Option.some.injEq] at hj
              subst hj
              refine .rsl _ _ _ rfl (by rw [show nk 0 0 = 0 from rfl, rowH0]; exact Nat.le_refl _) fun _ sz xs fz hb => ?_
              rw [show nk 0 0 = 0 from rfl, rowH0] at hb
              cases hb
              simp
            | j + 1, hj => simp [valsV] at hj
          · by_cases hk : k = 0
            · subst hk
              rw [rowH0]
              refine .inr ⟨g, cur, _, rfl, hh, hcs, .inr ⟨by omega, by simpa using hle⟩, by simp; omega, ?_, ?_, hSt0 g hg⟩
              · intro x hx
                obtain ⟨y, _, rfl⟩ := List.mem_map.1 hx
                rfl
              · intro i x hi j c hj
                rw [List.getElem?_map] at hi
                cases hli : l[i]? with
                | none => rw [hli] at hi; cases hi
                | some y =>
                  rw [hli] at hi
                  cases hi
                  match j, hj with
                  | 0, hj =>
                    simp only [D.cells, List.getElem?_cons_zero, Option.some.injEq] at hj
                    subst hj
                    have hlt := (List.getElem?_eq_some_iff.1 hli).1
                    have : cur.getD (i * 1 + 0) undef = .int .u8 y := by
                      have h2 := congrArg (fun l => l[i]?) htk
                      simp only [List.getElem?_map, hli, Option.map_some, List.getElem?_take, Nat.mul_one, hlt, if_true] at h2
                      simp only [Nat.mul_one, Nat.add_zero, Array.getD_eq_getD_getElem?]
                      rw [← Array.getElem?_toList, h2]
                      rfl
                    rw [this]
                    exact ⟨.int _ _, rfl⟩
                  | j + 1, hj => simp [D.cells] at hj
            · rw [rowH1 _ hk]; trivial
          · by_cases hk : k = 0
            · by_cases hk' : k' = 0
              · rw [hk, hk']
              · rw [rowH1 _ hk'] at o2; exact o2.elim
            · rw [rowH1 _ hk] at o1; exact o1.elim
          · by_cases hk : k = 0
            · subst hk
              rw [rowH0] at ho
              have := ho.1
              simp only [Option.some.injEq, Addr.mk.injEq] at this
              rw [← this.1]; exact hg
            · rw [rowH1 _ hk] at ho; exact ho.elim
      cases A with
      | none =>
        have hl0 : l = [] := by
          cases l with
          | nil => rfl
          | cons a l => exact absurd (ha (by simp)).1 (by simp)
        subst hl0
        refine Calls.mono (AnyE.slices_Clone_nil laysC _ _ w) fun e w' he => fin e w' ?_
        obtain ⟨rfl, rfl⟩ := he
        exact ⟨_, rfl, World.ownsRow_nil _ _ _ _, RowKit.Below.refl _ _⟩
      | some a =>
        rcases Nat.eq_zero_or_pos l.length with hn | hpos
        · have hl0 : l = [] := List.eq_nil_of_length_eq_zero hn
          subst hl0
          exact Calls.mono (clone_empty a _ w) fun e w' he => fin e w' (by simpa using he)
        obtain ⟨e1, e2⟩ := ha hpos
        cases e1
        have hcell : ∀ j u, (l.map (Value.int .u8))[j]? = some u → w.cell? ⟨b, off + j, none⟩ = some u := fun j u hj => by
          rw [List.getElem?_map] at hj
          cases hlj : l[j]? with
          | none => rw [hlj] at hj; cases hj
          | some y =>
            rw [hlj] at hj
            cases hj
            have h2 : (l.map (D.int .u8))[j]? = some (.int .u8 y) := by rw [List.getElem?_map, hlj]; rfl
            have h3 := hv j _ h2 0 _ rfl
            have h4 := hr j _ h2 0 _ rfl
            simp only [Nat.mul_one, Nat.add_zero] at h3
            rw [h3]
            generalize val j 0 = u at h4
            cases h4
            rfl
        refine Calls.mono (AnyE.slices_Clone laysC i0 _ 1 1 hi0 hz hs hby rfl (by omega) Tryz.sizeOf5 b off l.length cap (l.map (.int .u8)) w (by simp) (by simp only [maxLen]; omega) (by omega) hcell (fun u hu => by obtain ⟨y, _, rfl⟩ := List.mem_map.1 hu; rfl)) fun e w' he => fin e w' ?_
        obtain ⟨v', rfl, h1, _, h2⟩ := he
        exact ⟨v', rfl, h1, h2⟩
end
section
attribute [local simp] allD_map_d sks_map_d tk tn tks initA EndsK
def u8 (n : Int) : Int := IntKind.u8.wrap n
mutual
def pk : T → List Int
  | .mk k n ks => u8 k :: (if kidsM k = 0 then [u8 (n.fdiv 256), u8 n] else pkL ks)
def pkL : List T → List Int
  | [] => []
  | x :: xs => pk x ++ pkL xs
end
mutual
def cV : T → Nat
  | .mk _ _ ks => cVL ks + 4
def cVL : List T → Nat
  | [] => 0
  | x :: xs => cV x + 1 + cVL xs
end
theorem pkL_snoc : ∀ (l : List T) (x : T), pkL (l ++ [x]) = pkL l ++ pk x
  | [], x => by simp [pkL]
  | y :: l, x => by simp [pkL, pkL_snoc l x]
theorem cVL_snoc : ∀ (l : List T) (x : T), cVL (l ++ [x]) = cVL l + (cV x + 1)
  | [], x => by simp [cVL]
  | y :: l, x => by simp [cVL, cVL_snoc l x]; omega
theorem pkL_len : ∀ (l : List T), (∀ x ∈ l, (pk x).length ≤ 3 * nodes x) → (pkL l).length ≤ 3 * (l.map nodes).sum
  | [], _ => by simp [pkL]
  | x :: l, h => by
    have h1 := h x (by simp)
    have h2 := pkL_len l fun y hy => h y (by simp [hy])
    simp [pkL]; omega
theorem pk_len (t : T) : (pk t).length ≤ 3 * nodes t := by
  induction t using T.ind with
  | h k n ks ih =>
    have h1 := pkL_len ks ih
    rw [pk, nodes]
    split
    · simp; omega
    · simp; omega
theorem take_nodes (l : List T) (i : Nat) (h : i < l.length) : ((l.take i).map nodes).sum + nodes l[i] ≤ (l.map nodes).sum := by
  have e : l = l.take i ++ l[i] :: l.drop (i + 1) := by rw [List.getElem_cons_drop, List.take_append_drop]
  have e2 := congrArg (fun l => (l.map nodes).sum) e
  simp only [List.map_append, List.map_cons, List.sum_append, List.sum_cons] at e2
  omega
theorem leaf_ok (k : Int) : Pure Tryz.prog n_kind_Leaf [.int .i64 k] [.bool (decide (kidsM k = 0))] := by
  refine p_kind_Leaf rfl fun hs => ?_
  simp -dsimp [x_kind_Leaf]
  refine call_of (kids_ok k) ?_
  simp -dsimp
def kH (v : Nat) (b : List Int) (fz : Bool) : Nat → Ent := fun _ => ⟨v, .row 1 (b.map (.int .u8)) fz⟩
def dH (v : Nat) : Nat → Ent := fun _ => ⟨v, .dead⟩
theorem shr8 (n : Int) : binI .shr (.d (.int .i64 n)) (.d (.int .u64 8)) = some (.int .i64 (n.fdiv 256)) := rfl
theorem agg_argO {P : Program} {g : FuncId} {K : List Nat} {h0 h1 : Nat → Ent} {rs : List RV} {pre post : List AV} {cs : List D} (hm : MutO P g (pre ++ .d (.agg cs) :: post) K h0 rs h1) : MutO P g (pre ++ .agg (cs.map .d) :: post) K h0 rs h1 := by
  obtain ⟨a1, a2, a3⟩ := hm
  refine ⟨a1, a2, fun G h w vs b1 b2 b3 b4 b5 => a3 G h w vs b1 b2 b3 (by simpa using b4) fun j a hj => ?_⟩
  rw [List.getElem?_append] at hj
  split at hj
  · rename_i hlt
    exact b5 j a (by rw [List.getElem?_append_left hlt]; exact hj)
  · rename_i hge
    cases hjj : j - pre.length with
    | zero =>
      rw [hjj] at hj
      simp at hj
      subst hj
      have := b5 j (.agg (cs.map .d)) (by rw [List.getElem?_append_right (by omega), hjj]; rfl)
      generalize hq : vs.getD j undef = q at this ⊢
      generalize hz : cs.map AV.d = zs at this
      cases this with
      | agg vs' _ hn hr =>
        subst hz
        refine .d _ _ (.agg vs' cs (by simpa using hn) fun i c hi => ?_)
        exact (hr i (.d c) (by rw [List.getElem?_map, hi]; rfl)).d_inv
    | succ i =>
      rw [hjj] at hj
      exact b5 j a (by rw [List.getElem?_append_right (by omega), hjj]; simpa using hj)
theorem add_ok (t : T) : ∀ (k v : Nat) (b : List Int) (fz : Bool), k = 13 ∨ k = 35 → b.length + 3 * nodes t ≤ 1000000000 →
    MutO Tryz.prog n_pack_add [.rsl k v, .d (.agg (cT t))] [k] (kH v b fz) [.one (.row 1 ((b ++ pk t).map (.int .u8)) fz)] (dH (v + cV t)) := by
  induction t using T.ind with
  | h kd n ks ih =>
    intro k v b fz hk hl
    refine mutO_kill hm Tryz.func86 c_pack_add rfl (fun _ _ => rfl) fun G h w vs hh hlen hr => ?_
    have hs : small 8 (.agg (cT (.mk kd n ks))) := small_of (hr 1 _ rfl)
    have hks := kids_small (t := .mk kd n ks) (fun d hd => by simp at hd; subst hd; exact hs)
    have hh := hh k (by simp)
    replace hks : ks.length ≤ 9223372036854775807 := hks
    have hn : nodes (.mk kd n ks) = (ks.map nodes).sum + 1 := by rw [nodes]
    have r1 : b.length + 1 ≤ maxRoom := by simp only [maxRoom]; omega
    have r2 : b.length + 1 + 2 ≤ maxRoom := by simp only [maxRoom]; omega
    rcases hk with rfl | rfl
    · simp only [kH] at hh
      simp -dsimp [x_pack_add, cT, hh, r1]
      refine call_of (leaf_ok kd) ?_
      simp -dsimp [hh, r1]
      (first | refine Ask_b ?_ ?_ | refine Cnd_b ?_ ?_) <;> intro g1 <;> (try simp only [nrm] at g1) <;> simp -dsimp [g1, hh, r1, r2]
      · have hp : pk (.mk kd n ks) = [u8 kd, u8 (n.fdiv 256), u8 n] := by rw [pk, if_pos g1]
        simp -dsimp [shr8, hh, r1, r2, hp, dH, cV, u8]
        exact ⟨rfl, by omega⟩
      · have hp : pk (.mk kd n ks) = u8 kd :: pkL ks := by rw [pk, if_neg g1]
        refine wp_upto ks.length (fun i st => st.s 27 = .d (.sl 3 (ks.map eT)) ∧ st.s 28 = .d (.int .i64 ks.length) ∧ st.s 29 = .d (.int .i64 i) ∧
          ∃ q v', (q = 13 ∨ q = 35) ∧ st.s 0 = .rsl q v' ∧ st.h q = ⟨v', .row 1 ((b ++ u8 kd :: pkL (ks.take i)).map (.int .u8)) fz⟩ ∧ (st.h 13).ver ≤ v + 1 + cVL (ks.take i)) ?_ ?_
        · simp -dsimp [hh, pkL, cVL, u8]
        · rintro i ⟨s, hpp⟩ hi ⟨e1, e2, e3, q, v', hq, e4, e5, e6⟩
          dsimp only at e1 e2 e3 e4 e5 e6
          rcases Nat.lt_or_ge i ks.length with hlt | hge
          · have w1 : IntKind.i64.wrap ((i : Int) + 1) = (i : Int) + 1 := wrap_id (by omega) (by omega)
            have hsn : ks.take (i + 1) = ks.take i ++ [ks[i]] := by rw [List.take_add_one, List.getElem?_eq_getElem hlt]; rfl
            have hP : pkL (ks.take (i + 1)) = pkL (ks.take i) ++ pk ks[i] := by rw [hsn, pkL_snoc]
            have hC : cVL (ks.take (i + 1)) = cVL (ks.take i) + (cV ks[i] + 1) := by rw [hsn, cVL_snoc]
            have hL := pkL_len (ks.take i) fun x _ => pk_len x
            have hS := take_nodes ks i hlt
            have hA := ih ks[i] (List.getElem_mem _) q v' (b ++ u8 kd :: pkL (ks.take i)) fz (by omega) (by rw [List.length_append, List.length_cons]; omega)
            replace hA := agg_argO (pre := [.rsl q v']) (post := []) hA
            simp only [cT, List.map_cons, List.map_nil, List.cons_append, List.nil_append] at hA
            rcases hq with rfl | rfl
            · simp -dsimp [e1, e2, e3, e4, e5, hlt, cT]
              refine callMO_of hA ?_ (by simp [rowsV, rowsC, RV.cells]) ?_
              · simp -dsimp [kH, e5]
              · simp -dsimp [e1, e2, e3, e4, e5, hlt, cT, w1, mergeK_cons, mergeK_nil, hP, hC, dH]
                simp only [e5] at e6
                omega
            · simp -dsimp [e1, e2, e3, e4, e5, hlt, cT]
              refine callMO_of hA ?_ (by simp [rowsV, rowsC, RV.cells]) ?_
              · simp -dsimp [kH, e5]
              · simp -dsimp [e1, e2, e3, e4, e5, hlt, cT, w1, mergeK_cons, mergeK_nil, hP, hC, dH]
                first | omega | (simp only [e5] at e6; omega)
          · have e : i = ks.length := by omega
            subst e
            rw [List.take_length] at e5 e6
            have hcv : cV (.mk kd n ks) = cVL ks + 4 := by rw [cV]
            rcases hq with rfl | rfl
            · simp -dsimp [e1, e2, e3, e4, e5, hp, dH, hcv]
              first | omega | (simp only [e5] at e6; omega)
            · simp -dsimp [e1, e2, e3, e4, e5, hp, dH, hcv]
              first | omega | (simp only [e5] at e6; omega)
    · simp only [kH] at hh
      simp -dsimp [x_pack_add, cT, hh, r1]
      refine call_of (leaf_ok kd) ?_
      simp -dsimp [hh, r1]
      (first | refine Ask_b ?_ ?_ | refine Cnd_b ?_ ?_) <;> intro g1 <;> (try simp only [nrm] at g1) <;> simp -dsimp [g1, hh, r1, r2]
      · have hp : pk (.mk kd n ks) = [u8 kd, u8 (n.fdiv 256), u8 n] := by rw [pk, if_pos g1]
        simp -dsimp [shr8, hh, r1, r2, hp, dH, cV, u8]
        exact ⟨rfl, by omega⟩
      · have hp : pk (.mk kd n ks) = u8 kd :: pkL ks := by rw [pk, if_neg g1]
        refine wp_upto ks.length (fun i st => st.s 27 = .d (.sl 3 (ks.map eT)) ∧ st.s 28 = .d (.int .i64 ks.length) ∧ st.s 29 = .d (.int .i64 i) ∧
          ∃ q v', (q = 35 ∨ q = 35) ∧ st.s 0 = .rsl q v' ∧ st.h q = ⟨v', .row 1 ((b ++ u8 kd :: pkL (ks.take i)).map (.int .u8)) fz⟩ ∧ (st.h 35).ver ≤ v + 1 + cVL (ks.take i)) ?_ ?_
        · simp -dsimp [hh, pkL, cVL, u8]
        · rintro i ⟨s, hpp⟩ hi ⟨e1, e2, e3, q, v', hq, e4, e5, e6⟩
          dsimp only at e1 e2 e3 e4 e5 e6
          rcases Nat.lt_or_ge i ks.length with hlt | hge
          · have w1 : IntKind.i64.wrap ((i : Int) + 1) = (i : Int) + 1 := wrap_id (by omega) (by omega)
            have hsn : ks.take (i + 1) = ks.take i ++ [ks[i]] := by rw [List.take_add_one, List.getElem?_eq_getElem hlt]; rfl
            have hP : pkL (ks.take (i + 1)) = pkL (ks.take i) ++ pk ks[i] := by rw [hsn, pkL_snoc]
            have hC : cVL (ks.take (i + 1)) = cVL (ks.take i) + (cV ks[i] + 1) := by rw [hsn, cVL_snoc]
            have hL := pkL_len (ks.take i) fun x _ => pk_len x
            have hS := take_nodes ks i hlt
            have hA := ih ks[i] (List.getElem_mem _) q v' (b ++ u8 kd :: pkL (ks.take i)) fz (by omega) (by rw [List.length_append, List.length_cons]; omega)
            replace hA := agg_argO (pre := [.rsl q v']) (post := []) hA
            simp only [cT, List.map_cons, List.map_nil, List.cons_append, List.nil_append] at hA
            rcases hq with rfl | rfl
            · simp -dsimp [e1, e2, e3, e4, e5, hlt, cT]
              refine callMO_of hA ?_ (by simp [rowsV, rowsC, RV.cells]) ?_
              · simp -dsimp [kH, e5]
              · simp -dsimp [e1, e2, e3, e4, e5, hlt, cT, w1, mergeK_cons, mergeK_nil, hP, hC, dH]
                simp only [e5] at e6
                omega
            · simp -dsimp [e1, e2, e3, e4, e5, hlt, cT]
              refine callMO_of hA ?_ (by simp [rowsV, rowsC, RV.cells]) ?_
              · simp -dsimp [kH, e5]
              · simp -dsimp [e1, e2, e3, e4, e5, hlt, cT, w1, mergeK_cons, mergeK_nil, hP, hC, dH]
                first | omega | (simp only [e5] at e6; omega)
          · have e : i = ks.length := by omega
            subst e
            rw [List.take_length] at e5 e6
            have hcv : cV (.mk kd n ks) = cVL ks + 4 := by rw [cV]
            rcases hq with rfl | rfl
            · simp -dsimp [e1, e2, e3, e4, e5, hp, dH, hcv]
              first | omega | (simp only [e5] at e6; omega)
            · simp -dsimp [e1, e2, e3, e4, e5, hp, dH, hcv]
              first | omega | (simp only [e5] at e6; omega)
end
section
attribute [local simp] allD_map_d sks_map_d tk tn tks initA EndsM
end
section
def wH (q vb v : Nat) (l : List Int) (nil : Bool) : Nat → Ent := fun k => if k = 26 then ⟨vb, .box [if nil then .fsl 1 [] else .rsl q v] false⟩ else ⟨v, if nil then .dead else .row 1 (l.map (.int .u8)) false⟩
theorem wH_box (q vb v : Nat) (l : List Int) (nil : Bool) : wH q vb v l nil 26 = ⟨vb, .box [if nil then .fsl 1 [] else .rsl q v] false⟩ := rfl
theorem wH_row {q vb v : Nat} {l : List Int} {nil : Bool} (h : q ≠ 26) : wH q vb v l nil q = ⟨v, if nil then .dead else .row 1 (l.map (.int .u8)) false⟩ := if_neg h
section
variable {P : Program}
theorem w_inv {q q' : Nat} (h1 : q ≠ 26) (h2 : q' ≠ 26) {vb v : Nat} {l : List Int} {nil : Bool} {G G2 : GS} {h h2' : Nat → Ent} {w : World} (i : Inv G h w) (hk : ∀ k ∈ [26, q'], h k = wH q' vb v l nil k)
    (hst : G2.St = G.St) (hd1 : G2.hd 26 = G.hd 26) (hd2 : G2.hd q = G.hd q') (e1 : h2' 26 = wH q vb v l nil 26) (e2 : h2' q = wH q vb v l nil q) (e3 : ∀ k, k ≠ 26 → k ≠ q → (h2' k).body = .dead) :
    Inv G2 h2' w ∧ (∀ k b, Owns G2 k b (h2' k).body → ∃ k', Owns G k' b (h k').body ∧ (k = 26 → k' = 26) ∧ (k = q → k' = q')) := by
  have k1 := hk 26 (by simp)
  have k2 := hk q' (by simp)
  rw [wH_box] at k1 e1
  rw [wH_row h2] at k2
  rw [wH_row h1] at e2
  have hown : ∀ k b, Owns G2 k b (h2' k).body → ∃ k', Owns G k' b (h k').body ∧ (k = 26 → k' = 26) ∧ (k = q → k' = q') := fun k b ho => by
    by_cases a1 : k = 26
    · subst a1
      rw [e1] at ho
      exact ⟨26, by rw [k1]; show (G.hd 26).A = _; rw [← hd1]; exact ho, fun _ => rfl, fun h => absurd h.symm h1⟩
    · by_cases a2 : k = q
      · subst a2
        rw [e2] at ho
        refine ⟨q', ?_, fun h => absurd h a1, fun _ => rfl⟩
        rw [k2]
        cases nil with
        | true => exact ho.elim
        | false =>
          simp only [Bool.false_eq_true, if_false, Owns] at ho ⊢
          rw [hd2] at ho
          exact ho
      · rw [e3 k a1 a2] at ho
        exact ho.elim
  refine ⟨⟨by rw [hst]; exact i.st, fun k => ?_, fun k k' b o1 o2 => ?_⟩, hown⟩
  · by_cases a1 : k = 26
    · subst a1
      have he := i.ent 26
      rw [k1] at he
      rw [e1]
      obtain ⟨b, arr, el, hA, hh, hsz, hrel, hs⟩ := he
      refine ⟨b, arr, el, by rw [hd1]; exact hA, hh, by simpa using hsz, fun j c hj => ?_, by rw [hst]; exact hs⟩
      cases j with
      | succ j => simp at hj
      | zero =>
        have hr := hrel 0 _ rfl
        simp only [List.getElem?_cons_zero, Option.some.injEq] at hj
        subst hj
        refine ⟨?_, hr.2⟩
        have hr1 := hr.1
        cases nil with
        | true =>
          simp only [if_true] at hr1 ⊢
          generalize arr.getD 0 undef = z0 at hr1 ⊢
          cases hr1 with
          | fsl _ _ _ _ hr => exact .fsl _ _ _ _ (by rw [hst]; exact hr)
        | false =>
          simp only [Bool.false_eq_true, if_false] at hr1 ⊢ k2 e2
          generalize arr.getD 0 undef = z0 at hr1 ⊢
          cases hr1 with
          | rsl _ _ _ z1 z2 z3 =>
            refine .rsl _ _ _ z1 (by rw [e2]; exact Nat.le_refl _) fun hv sz xs fz hb => ?_
            rw [e2] at hb
            cases hb
            have := z3 (by rw [k2]) 1 (l.map (.int .u8)) false (by rw [k2])
            rw [hd2]
            exact this
    · by_cases a2 : k = q
      · subst a2
        have he := i.ent q'
        rw [k2] at he
        rw [e2]
        cases nil with
        | true => trivial
        | false =>
          simp only [Bool.false_eq_true, if_false, EntOK] at he ⊢
          rw [hd2, hst]
          exact he
      · rw [e3 k a1 a2]; trivial
  · obtain ⟨m, m1, m2, m3⟩ := hown k b o1
    obtain ⟨m', m1', m2', m3'⟩ := hown k' b o2
    have hm := i.apart m m' b m1 m1'
    by_cases a1 : k = 26
    · by_cases b1 : k' = 26
      · rw [a1, b1]
      · by_cases b2 : k' = q
        · have := m2 a1; have := m3' b2; omega
        · rw [e3 k' b1 b2] at o2; exact o2.elim
    · by_cases a2 : k = q
      · by_cases b1 : k' = 26
        · have := m3 a2; have := m2' b1; omega
        · by_cases b2 : k' = q
          · rw [a2, b2]
          · rw [e3 k' b1 b2] at o2; exact o2.elim
      · rw [e3 k a1 a2] at o1; exact o1.elim
theorem w_perm {g : FuncId} {ds rs : List D} {q q' : Nat} (h1 : q ≠ 26) (h2 : q' ≠ 26) {vb v v' : Nat} {l l' : List Int} {nil nil' : Bool}
    (hM : MutC P g (.ptr 26 vb 0 :: ds.map .d) [26, q] (wH q vb v l nil) rs (wH q vb v' l' nil')) : MutC P g (.ptr 26 vb 0 :: ds.map .d) [26, q'] (wH q' vb v l nil) rs (wH q' vb v' l' nil') := by
  refine ⟨hM.1, fun k hk => ?_, fun G h w vs hk hdead hi hl hr => ?_⟩
  · simp only [List.mem_cons, List.not_mem_nil, or_false] at hk
    rcases hk with rfl | rfl
    · rw [wH_box]
      intro c hc
      simp only [List.mem_singleton] at hc
      subst hc
      cases nil' with
      | true => exact .fsl _ _
      | false => exact .rsl _ _ (by simp)
    · rw [wH_row h2]
      cases nil' <;> trivial
  obtain ⟨H, hH⟩ : ∃ H : Nat → Ent, H = fun k => if k = 26 then wH q vb v l nil 26 else if k = q then wH q vb v l nil q else ⟨0, .dead⟩ := ⟨_, rfl⟩
  have eH1 : H 26 = wH q vb v l nil 26 := by rw [hH]; rfl
  have eH2 : H q = wH q vb v l nil q := by rw [hH]; simp only [if_neg h1, if_true]
  have eH3 : ∀ k, k ≠ 26 → k ≠ q → (H k).body = .dead := fun k a1 a2 => by rw [hH]; simp only [if_neg a1, if_neg a2]
  obtain ⟨G2, hG2⟩ : ∃ G2 : GS, G2 = ⟨G.St, fun k => if k = q then G.hd q' else G.hd k⟩ := ⟨_, rfl⟩
  have gS : G2.St = G.St := by rw [hG2]
  have g1 : G2.hd 26 = G.hd 26 := by rw [hG2]; exact if_neg (Ne.symm h1)
  have g2 : G2.hd q = G.hd q' := by rw [hG2]; exact if_pos rfl
  obtain ⟨hi2, ho2⟩ := w_inv h1 h2 hi hk gS g1 g2 eH1 eH2 eH3
  have hcalls := hM.2.2 G2 H w vs (fun k hm => by
    simp only [List.mem_cons, List.not_mem_nil, or_false] at hm
    rcases hm with rfl | rfl
    · exact eH1
    · exact eH2) (fun k hm => by
    simp only [List.mem_cons, List.not_mem_nil, or_false, not_or] at hm
    exact eH3 k hm.1 hm.2) hi2 hl (fun j a hj => by
    have hra := hr j a hj
    generalize vs.getD j undef = z0 at hra ⊢
    cases j with
    | zero =>
      simp only [List.getElem?_cons_zero, Option.some.injEq] at hj
      subst hj
      cases hra with
      | ptr _ _ _ _ z1 z2 z3 =>
        refine .ptr _ _ _ _ z1 (by rw [eH1]; exact Nat.le_refl _) fun hv cs fz hb => ?_
        have k1 := hk 26 (by simp)
        obtain ⟨b, y1, y2⟩ := z3 (by rw [k1]; rfl) [if nil then .fsl 1 [] else .rsl q' v] false (by rw [k1]; rfl)
        exact ⟨b, by rw [g1]; exact y1, y2⟩
    | succ j =>
      simp only [List.getElem?_cons_succ, List.getElem?_map] at hj
      cases hx : ds[j]? with
      | none => rw [hx] at hj; cases hj
      | some x =>
        rw [hx] at hj
        cases hj
        cases hra with
        | d _ _ hr => exact .d _ _ (by rw [gS]; exact hr))
  refine hcalls.mono fun e w' he => ?_
  obtain ⟨G', h', us, rfl, hus, hk', hd', hs⟩ := he
  obtain ⟨H2, hH2⟩ : ∃ H2 : Nat → Ent, H2 = fun k => if k = 26 then wH q' vb v' l' nil' 26 else if k = q' then wH q' vb v' l' nil' q' else ⟨(h k).ver + 1, .dead⟩ := ⟨_, rfl⟩
  have f1 : H2 26 = wH q' vb v' l' nil' 26 := by rw [hH2]; rfl
  have f2 : H2 q' = wH q' vb v' l' nil' q' := by rw [hH2]; simp only [if_neg h2, if_true]
  have f3 : ∀ k, k ≠ 26 → k ≠ q' → H2 k = ⟨(h k).ver + 1, .dead⟩ := fun k a1 a2 => by rw [hH2]; simp only [if_neg a1, if_neg a2]
  obtain ⟨G3, hG3⟩ : ∃ G3 : GS, G3 = ⟨G'.St, fun k => if k = q' then G'.hd q else if k = 26 then G'.hd 26 else G.hd k⟩ := ⟨_, rfl⟩
  have g3 : G3.St = G'.St := by rw [hG3]
  have g4 : G3.hd 26 = G'.hd 26 := by rw [hG3]; simp only [if_neg (Ne.symm h2), if_true]
  have g5 : G3.hd q' = G'.hd q := by rw [hG3]; exact if_pos rfl
  obtain ⟨hi3, ho3⟩ := w_inv h2 h1 hs.inv hk' g3 g4 g5 f1 f2 fun k a1 a2 => by rw [f3 k a1 a2]
  have k1 := hk 26 (by simp)
  have k2 := hk q' (by simp)
  have k1' := hk' 26 (by simp)
  have k2' := hk' q (by simp)
  refine ⟨G3, H2, us, rfl, by rw [g3]; exact hus, fun k hm => ?_, fun k hm => ?_, ⟨hi3, ⟨?_, fun k => ?_, fun k hv => ?_⟩, ⟨hs.left.os, hs.left.tape, hs.left.output, hs.left.size, fun b hb hn => ?_⟩, fun k b ho => ?_⟩⟩
  · simp only [List.mem_cons, List.not_mem_nil, or_false] at hm
    rcases hm with rfl | rfl
    · exact f1
    · exact f2
  · simp only [List.mem_cons, List.not_mem_nil, or_false, not_or] at hm
    rw [f3 k hm.1 hm.2]
  · have := hs.ext.keeps
    rw [g3]
    rw [gS] at this
    exact this
  · by_cases a1 : k = 26
    · subst a1; rw [k1, f1]; exact Nat.le_refl _
    · by_cases a2 : k = q'
      · subst a2
        have := hs.ext.ver q
        rw [eH2, k2', wH_row h1, wH_row h1] at this
        rw [k2, f2, wH_row h2, wH_row h2]
        exact this
      · rw [f3 k a1 a2]; exact Nat.le_succ _
  · by_cases a1 : k = 26
    · subst a1
      have := hs.ext.same 26 (by rw [k1', eH1]; rfl)
      rw [k1, f1]
      exact ⟨by rw [g4, this.1, g1], trivial⟩
    · by_cases a2 : k = q'
      · subst a2
        rw [k2, f2, wH_row h2, wH_row h2] at hv
        have hv' : v' = v := hv
        have := hs.ext.same q (by rw [k2', eH2, wH_row h1, wH_row h1]; exact hv')
        rw [k2, f2]
        rw [k2', eH2, wH_row h1, wH_row h1] at this
        rw [wH_row h2, wH_row h2]
        exact ⟨by rw [g5, this.1, g2], this.2⟩
      · rw [f3 k a1 a2] at hv
        simp at hv
  · have := hs.left.block b hb fun k hk2 => by
      obtain ⟨k', o, _⟩ := ho2 k b hk2
      exact hn k' o
    rw [gS] at this
    rw [g3]
    exact this
  · obtain ⟨k', o, _⟩ := ho3 k b ho
    rcases hs.grow k' b o with ⟨m, hm⟩ | hge
    · obtain ⟨m', o', _⟩ := ho2 m b hm
      exact .inl ⟨m', o'⟩
    · exact .inr hge
end
end
section
attribute [local simp] allD_map_d sks_map_d tk tn tks initA EndsM
structure RS where
  left : List Int
  nodes : Int
  bad : Bool
def takeS (n : Nat) (r : RS) : List Int × RS := if r.bad = true ∨ r.left.length < n then (List.replicate n 0, ⟨r.left, r.nodes, true⟩) else (r.left.take n, ⟨r.left.drop n, r.nodes, r.bad⟩)
def rH (v : Nat) (r : RS) : Nat → Ent := fun _ => ⟨v, .box [.d (.sl 1 (r.left.map (.int .u8))), .d (.int .i64 r.nodes), .d (.bool r.bad)] false⟩
theorem r_mut {f : FuncId} {fn : Func} {x : XFn} (hf : Tryz.prog.funcs[f]? = some fn) (hx : cfn Tryz.prog fn = some x) {aa : List AV} {v : Nat} {r r' : RS} {rs : List D} (hl : aa.length = x.np)
    (hw : ∀ (h : Nat → Ent), h 21 = ⟨v, .box [.d (.sl 1 (r.left.map (.int .u8))), .d (.int .i64 r.nodes), .d (.bool r.bad)] false⟩ → r.left.length ≤ 9223372036854775807 → wpX Tryz.prog x.code (EndsM x.res rs [21] (rH v r')) ⟨initA aa, h⟩) : MutC Tryz.prog f aa [21] (rH v r) rs (rH v r') := by
  by_cases hlen : r.left.length ≤ 9223372036854775807
  · exact mut_of hm hf hx hl (fun k hk c hc => by simp [rH] at hc; rcases hc with rfl | rfl | rfl <;> exact .d _) fun G h w vs hk _ hr => hw h (hk 21 (by simp)) hlen
  · refine ⟨enters_of hf hx, fun k hk c hc => by simp [rH] at hc; rcases hc with rfl | rfl | rfl <;> exact .d _, fun G h w vs hk _ hi _ _ => (hlen ?_).elim⟩
    have he := hi.ent 21
    rw [hk 21 (by simp)] at he
    obtain ⟨b, arr, el, _, _, _, hrel, _⟩ := he
    have := ((hrel 0 _ rfl).1.d_inv).small 8
    simp [small] at this
    omega
theorem take_ok (v : Nat) (r : RS) (n : Nat) (hn : n ≤ 1000) : MutC Tryz.prog n_pack_reader_take [.ptr 21 v 0, .d (.int .i64 n)] [21] (rH v r) [eB (takeS n r).1] (rH v (takeS n r).2) := by
  refine r_mut Tryz.func128 c_pack_reader_take rfl fun h hh hl => ?_
  have hr : n ≤ maxRoom := by simp only [maxRoom]; omega
  have hr2 : (n : Int) ≤ (maxRoom : Int) := by simp only [maxRoom]; omega
  have hT : (r.left.map (D.int .u8)).take r.left.length = r.left.map (D.int .u8) := List.take_of_length_le (by simp)
  simp -dsimp [x_pack_reader_take, hh]
  cases hb : r.bad
  · simp -dsimp [hh, hb]
    by_cases g : r.left.length < n
    · simp -dsimp [hh, hb, g, hr, hr2, takeS, rH, eB]
    · have g2 : n ≤ r.left.length := by omega
      simp -dsimp [hh, hb, g, g2, hr, hT, takeS, rH, eB]
  · simp -dsimp [hh, hb, hr, hr2, takeS, rH, eB]
theorem takeS_len (n : Nat) (r : RS) : (takeS n r).1.length = n := by
  rw [takeS]; split
  · simp
  · simp; omega
def kidsI (g : RS → T × RS) : Nat → RS → List T × RS
  | 0, r => ([], r)
  | i + 1, r => if (kidsI g i r).2.bad = true then kidsI g i r else ((kidsI g i r).1 ++ [(g (kidsI g i r).2).1], (g (kidsI g i r).2).2)
theorem kidsI_bad (g : RS → T × RS) (r : RS) {i m : Nat} (h : (kidsI g i r).2.bad = true) (hm : i ≤ m) : kidsI g m r = kidsI g i r := by
  induction m with
  | zero => have : i = 0 := by omega
            subst this; rfl
  | succ m ih =>
    rcases Nat.lt_or_ge m i with hlt | hge
    · have : i = m + 1 := by omega
      subst this; rfl
    · rw [kidsI, ih hge, if_pos h]
def orB (a b : Int) : Int := IntKind.i64.wrap (((IntKind.i64.wrap (IntKind.i64.wrap a * 2 ^ min 8 IntKind.i64.bits) % 2 ^ IntKind.i64.bits).toNat ||| (IntKind.i64.wrap b % 2 ^ IntKind.i64.bits).toNat : Nat) : Int)
def headS (d : Int) (r : RS) : RS := ⟨(takeS 1 r).2.left, w64 ((takeS 1 r).2.nodes + 1), (takeS 1 r).2.bad || decide (kidsM (w64 ((takeS 1 r).1.headD 0)) < 0) || decide (6000 < w64 ((takeS 1 r).2.nodes + 1)) || decide (200 < d)⟩
def readS : Nat → Int → RS → T × RS
  | 0, _, r => (.mk 0 0 [], r)
  | f + 1, d, r => if kidsM (w64 ((takeS 1 r).1.headD 0)) = 0
      then (.mk (w64 ((takeS 1 r).1.headD 0)) (orB ((takeS 2 (headS d r)).1.headD 0) ((takeS 2 (headS d r)).1.getD 1 0)) [], (takeS 2 (headS d r)).2)
      else (.mk (w64 ((takeS 1 r).1.headD 0)) 0 (kidsI (readS f (d + 1)) (kidsM (w64 ((takeS 1 r).1.headD 0))).toNat (headS d r)).1, (kidsI (readS f (d + 1)) (kidsM (w64 ((takeS 1 r).1.headD 0))).toNat (headS d r)).2)
end
section
attribute [local simp] allD_map_d sks_map_d tk tn tks initA EndsM
theorem read_ok : ∀ (f : Nat) (d : Int) (v : Nat) (r : RS), 0 < f → 1 ≤ d → d + f = 202 → MutC Tryz.prog n_pack_reader_read [.ptr 21 v 0, .d (.int .i64 d)] [21] (rH v r) [.agg (cT (readS f d r).1)] (rH v (readS f d r).2)
  | 0, _, _, _, h, _, _ => absurd h (by omega)
  | f + 1, d, v, r, _, hd, hf => by
    have IH := read_ok f (d + 1) v
    refine r_mut Tryz.func116 c_pack_reader_read rfl fun h hh hl => ?_
    have hd1 : IntKind.i64.wrap (d + 1) = d + 1 := wrap_id (by omega) (by omega)
    obtain ⟨a, ha⟩ : ∃ a, (takeS 1 r).1 = [a] := by
      have := takeS_len 1 r
      match hx : (takeS 1 r).1, this with
      | [a], _ => exact ⟨a, rfl⟩
    have hT := take_ok v r 1 (by omega)
    rw [ha] at hT
    simp only [eB, List.map_cons, List.map_nil] at hT
    generalize hr1 : (takeS 1 r).2 = r1 at hT
    obtain ⟨l1, n1, b1⟩ := r1
    have hH : headS d r = ⟨l1, w64 (n1 + 1), b1 || decide (kidsM (w64 a) < 0) || decide (6000 < w64 (n1 + 1)) || decide (200 < d)⟩ := by rw [headS, hr1, ha]; rfl
    simp -dsimp [x_pack_reader_read, hh]
    refine callM_of hT (by simp [rH, hh]) ?_
    simp -dsimp [mergeK_cons, mergeK_nil, rH, hh]
    refine call_of (kids_ok _) ?_
    by_cases h0 : kidsM (IntKind.i64.wrap a) = 0
    · have hR : readS (f + 1) d r = (.mk (w64 a) (orB ((takeS 2 (headS d r)).1.headD 0) ((takeS 2 (headS d r)).1.getD 1 0)) [], (takeS 2 (headS d r)).2) := by
        rw [readS, ha, List.headD_cons, if_pos (show kidsM (w64 a) = 0 from h0)]
      rw [hR]
      obtain ⟨c0, c1, hc⟩ : ∃ c0 c1, (takeS 2 (headS d r)).1 = [c0, c1] := by
        have := takeS_len 2 (headS d r)
        match hx : (takeS 2 (headS d r)).1, this with
        | [c0, c1], _ => exact ⟨c0, c1, rfl⟩
      have hT2 := take_ok v (headS d r) 2 (by omega)
      rw [hc] at hT2 ⊢
      generalize hr2 : (takeS 2 (headS d r)).2 = r2 at hT2 ⊢
      obtain ⟨l2, n2, b2⟩ := r2
      rw [hH] at hT2
      simp only [eB, List.map_cons, List.map_nil, w64] at hT2
      have n0 : ¬ kidsM (IntKind.i64.wrap a) < 0 := by omega
      have n1' : ¬ kidsM (IntKind.i64.wrap a) > 0 := by omega
      cases b1 <;> cases hq3 : decide (6000 < IntKind.i64.wrap (n1 + 1)) <;> cases hq4 : decide (200 < d)
      all_goals
        simp only [h0, hq3, hq4, Bool.or_true, Bool.true_or, Bool.or_false, Bool.false_or, n0, decide_false] at hT2
        simp only [decide_eq_true_eq, decide_eq_false_iff_not] at hq3 hq4
        simp -dsimp [hh, n0, h0, hq3, hq4]
        refine callM_of hT2 (by simp [rH, hh, n0, h0, hq3, hq4]) ?_
        simp -dsimp [mergeK_cons, mergeK_nil, rH, hh, h0, n0, hq3, hq4]
        refine wp_upto 0 (fun i st => st.s 6 = .d (.int .i64 0) ∧ (∃ u, st.s 5 = .ptr 5 u 0 ∧ st.h 5 = ⟨u, .box [.d (.int .i64 (IntKind.i64.wrap a)), .d (.int .i64 (orB c0 c1)), .fsl 3 []] false⟩) ∧ (∃ u, st.s 4 = .ptr 4 u 0 ∧
          st.h 4 = ⟨u, .box [.d (.int .i64 0), .d (.int .i64 0), .fsl 3 []] false⟩) ∧ st.h 21 = ⟨v, .box [.d (.sl 1 (l2.map (.int .u8))), .d (.int .i64 n2), .d (.bool b2)] false⟩) ?_ ?_
        · simp -dsimp [hh]
          rfl
        · rintro i ⟨s, hpp⟩ hi ⟨e1, ⟨u, e2, e3⟩, ⟨u', e4, e5⟩, e6⟩
          dsimp only at e1 e2 e3 e4 e5 e6
          simp -dsimp [e1, e2, e3, e4, e5, e6, rH, cT]
          rfl
    · have hR : readS (f + 1) d r = (.mk (w64 a) 0 (kidsI (readS f (d + 1)) (kidsM (w64 a)).toNat (headS d r)).1, (kidsI (readS f (d + 1)) (kidsM (w64 a)).toNat (headS d r)).2) := by
        rw [readS, ha, List.headD_cons, if_neg (show ¬ kidsM (w64 a) = 0 from h0)]
      rw [hR]
      have hk3 := kidsM_le (IntKind.i64.wrap a)
      have hcase : (b1 = true) ∨ (b1 = false ∧ kidsM (IntKind.i64.wrap a) < 0) ∨ (b1 = false ∧ ¬ kidsM (IntKind.i64.wrap a) < 0 ∧ 6000 < IntKind.i64.wrap (n1 + 1)) ∨ (b1 = false ∧ ¬ kidsM (IntKind.i64.wrap a) < 0 ∧ ¬ 6000 < IntKind.i64.wrap (n1 + 1) ∧ 200 < d) ∨
          (b1 = false ∧ ¬ kidsM (IntKind.i64.wrap a) < 0 ∧ ¬ 6000 < IntKind.i64.wrap (n1 + 1) ∧ ¬ 200 < d) := by
        cases b1 <;> by_cases q2 : kidsM (IntKind.i64.wrap a) < 0 <;> by_cases q3 : 6000 < IntKind.i64.wrap (n1 + 1) <;> by_cases q4 : 200 < d <;> simp [q2, q3, q4]
      have hf0 : (headS d r).bad = false → 0 < f := fun hb => by
        rw [hH] at hb
        simp at hb
        omega
      have hbad0 : (headS d r).bad = true → ∀ i, kidsI (readS f (d + 1)) i (headS d r) = ([], headS d r) := fun hb i => kidsI_bad _ _ (i := 0) hb (Nat.zero_le _)
      have hw : w64 a = IntKind.i64.wrap a := rfl
      rw [hw]
      generalize hK : IntKind.i64.wrap a = K at *
      generalize hR0 : headS d r = R0 at *
      generalize hg : readS f (d + 1) = g at *
      have hfin : ∀ i, i ≤ (kidsM K).toNat → (kidsI g i R0).2.bad = true → kidsI g (kidsM K).toNat R0 = kidsI g i R0 := fun i hi hb => kidsI_bad g R0 hb hi
      generalize hm0 : (kidsM K).toNat = m at *
      rcases hcase with hq | hq | hq | hq | hq
      all_goals
        first
        | have hB : R0 = ⟨l1, IntKind.i64.wrap (n1 + 1), true⟩ := by (rw [hH]; simp [w64, hK, hq])
        | have hB : R0 = ⟨l1, IntKind.i64.wrap (n1 + 1), false⟩ := by (rw [hH]; simp [w64, hK, hq])
      all_goals
        simp -dsimp [hh, h0, hq]
        refine wp_upto m (fun i st => st.s 0 = .ptr 21 v 0 ∧ st.s 1 = .d (.int .i64 d) ∧ st.s 6 = .d (.int .i64 (kidsM K - i)) ∧
          (∃ u c, st.s 5 = .ptr 5 u 0 ∧ st.h 5 = ⟨u, .box [.d (.int .i64 K), .d (.int .i64 0), c] false⟩ ∧ (((kidsI g i R0).1 = [] ∧ c = .fsl 3 []) ∨ ((kidsI g i R0).1 ≠ [] ∧ ∃ q, c = .rsl 79 q ∧ st.h 79 = ⟨q, .row 3 ((kidsI g i R0).1.map eT) false⟩))) ∧
          (∃ u, st.s 4 = .ptr 4 u 0 ∧ st.h 4 = ⟨u, .box [.d (.int .i64 0), .d (.int .i64 0), .fsl 3 []] false⟩) ∧
          st.h 21 = ⟨v, .box [.d (.sl 1 ((kidsI g i R0).2.left.map (.int .u8))), .d (.int .i64 (kidsI g i R0).2.nodes), .d (.bool (kidsI g i R0).2.bad)] false⟩ ∧ (kidsI g i R0).1.length ≤ i) ?_ ?_
        · simp -dsimp [hh, kidsI, hB]
        · clear hB hq hH hT hr1 ha hl hh
          rintro i ⟨s, hpp⟩ hi ⟨e1, e2, e3, ⟨u, c, e4, e5, e6⟩, ⟨u', e7, e8⟩, e9, e10⟩
          dsimp only at e1 e2 e3 e4 e5 e6 e7 e8 e9
          by_cases hlt : i < m
          · have hpos : (i : Int) < kidsM K := by omega
            cases hb : (kidsI g i R0).2.bad
            · have hR0b : R0.bad = false := by
                cases h : R0.bad with
                | false => rfl
                | true => rw [hbad0 h i] at hb; exact absurd (hb.symm.trans h) (by simp)
              have hI := IH (kidsI g i R0).2 (hf0 hR0b) (by omega) (by omega)
              have hN : kidsI g (i + 1) R0 = ((kidsI g i R0).1 ++ [(g (kidsI g i R0).2).1], (g (kidsI g i R0).2).2) := by rw [kidsI, if_neg (by simp [hb])]
              rw [hN]
              have hw1 : IntKind.i64.wrap (kidsM K - (i : Int) - 1) = kidsM K - ((i : Int) + 1) := by rw [wrap_id (by omega) (by omega)]; omega
              clear hN hfin hbad0
              generalize (kidsI g i R0) = q at *
              obtain ⟨ks', r'⟩ := q
              generalize hg2 : g r' = q2 at *
              obtain ⟨t2, r2⟩ := q2
              simp only at hI hg2 e6 e9 e10 hb
              have hrm : (ks'.length + 1) * 40 ≤ maxRoom := by simp only [maxRoom]; omega
              have h40 : 40 ≤ maxRoom := by simp only [maxRoom]; omega
              simp -dsimp [e1, e2, e3, e4, e5, e7, e8, e9, hpos, hb, hd1]
              refine callM_of hI ?_ ?_
              · simp [rH, e9, hb]
              rcases e6 with ⟨rfl, rfl⟩ | ⟨hne, q, rfl, e6⟩
              · simp -dsimp [mergeK_cons, mergeK_nil, rH, e1, e2, e3, e4, e5, e7, e8, e9, hw1, cT, hlt, h40]
                rw [eT_eq, cT]
              · simp -dsimp [mergeK_cons, mergeK_nil, rH, e1, e2, e3, e4, e5, e6, e7, e8, e9, hw1, cT, hlt, hrm]
                exact ⟨by rw [eT_eq, cT], by omega⟩
            · rw [hfin i hi hb]
              clear hfin hbad0
              generalize (kidsI g i R0) = q at *
              obtain ⟨ks', r'⟩ := q
              simp only at e6 e9 e10 hb ⊢
              rcases e6 with ⟨rfl, rfl⟩ | ⟨hne, q, rfl, e6⟩
              · simp -dsimp [e1, e2, e3, e4, e5, e7, e8, e9, hb, hpos, rH, cT]
              · simp -dsimp [e1, e2, e3, e4, e5, e6, e7, e8, e9, hb, hpos, rH, cT]
          · have hi' : i = m := by omega
            subst hi'
            have hnpos : ¬ ((i : Int) < kidsM K) := by omega
            clear hfin hbad0
            generalize (kidsI g i R0) = q at *
            obtain ⟨ks', r'⟩ := q
            simp only at e6 e9 e10 ⊢
            rcases e6 with ⟨rfl, rfl⟩ | ⟨hne, q, rfl, e6⟩
            · simp -dsimp [e1, e2, e3, e4, e5, e7, e8, e9, hnpos, rH, cT]
            · simp -dsimp [e1, e2, e3, e4, e5, e6, e7, e8, e9, hnpos, rH, cT]
end
section
theorem u8_is (n : Int) : u8 n = n % 256 := by simp [u8, IntKind.wrap, IntKind.bits, IntKind.signed]
theorem u8_id {n : Int} (h0 : 0 ≤ n) (h1 : n < 256) : u8 n = n := by rw [u8_is]; omega
def byteL (l : List Int) : Prop := ∀ x ∈ l, 0 ≤ x ∧ x < 256
theorem or_add {a b : Nat} (hb : b < 256) : (a * 256) ||| b = a * 256 + b := by
  have h := Nat.shiftLeft_add_eq_or_of_lt (b := b) (i := 8) (by omega) a
  rw [Nat.shiftLeft_eq] at h
  exact h.symm
theorem orB_is {a b : Int} (ha : 0 ≤ a ∧ a < 256) (hb : 0 ≤ b ∧ b < 256) : orB a b = a * 256 + b := by
  obtain ⟨x, rfl⟩ := Int.eq_ofNat_of_zero_le ha.1
  obtain ⟨y, rfl⟩ := Int.eq_ofNat_of_zero_le hb.1
  have e8 : (2 : Int) ^ min 8 IntKind.i64.bits = 256 := rfl
  have e64 : (2 : Int) ^ IntKind.i64.bits = 18446744073709551616 := rfl
  rw [orB, e8, e64, wrap_id (n := (x : Int)) (by omega) (by omega), wrap_id (n := (x : Int) * 256) (by omega) (by omega), wrap_id (n := (y : Int)) (by omega) (by omega)]
  have h1 : ((x : Int) * 256 % 18446744073709551616).toNat = x * 256 := by omega
  have h2 : ((y : Int) % 18446744073709551616).toNat = y := by omega
  rw [h1, h2, or_add (by omega), wrap_id (by omega) (by omega)]
  omega
theorem orB_num {n : Int} (h0 : 0 ≤ n) (h1 : n ≤ 65535) : orB (u8 (n.fdiv 256)) (u8 n) = n := by
  have e : n.fdiv 256 = n / 256 := Int.fdiv_eq_ediv_of_nonneg _ (by omega)
  rw [e, u8_is, u8_is, orB_is (by omega) (by omega)]
  omega
theorem kidsM_rng {k : Int} (h : 0 ≤ kidsM k) : 1 ≤ k ∧ k ≤ 13 := by
  rw [kidsM] at h
  simp only [isM] at h
  repeat' split at h
  all_goals first | omega | (simp at h; done) | (simp at *; omega)
theorem fm_leaf {k n : Int} {ks : List T} (h : formedM (.mk k n ks) = true) (hk : kidsM k = 0) : ks = [] ∧ 0 ≤ n ∧ n ≤ 65535 := by
  rw [formedM_is] at h
  by_cases hl : (ks.length : Int) = kidsM k
  · rw [if_pos hl, if_pos hk] at h
    simp only [Bool.and_eq_true, inB_iff] at h
    exact ⟨List.eq_nil_of_length_eq_zero (by omega), h.1⟩
  · rw [if_neg hl] at h; simp at h
theorem fm_node {k n : Int} {ks : List T} (h : formedM (.mk k n ks) = true) (hk : ¬ kidsM k = 0) : (ks.length : Int) = kidsM k ∧ n = 0 ∧ ∀ x ∈ ks, formedM x = true := by
  rw [formedM_is] at h
  by_cases hl : (ks.length : Int) = kidsM k
  · rw [if_pos hl, if_neg hk] at h
    by_cases hn : n = 0
    · rw [if_pos hn] at h
      exact ⟨hl, hn, fun x hx => (List.all_eq_true.1 h) x hx⟩
    · rw [if_neg hn] at h; simp at h
  · rw [if_neg hl] at h; simp at h
theorem fm_kind {k n : Int} {ks : List T} (h : formedM (.mk k n ks) = true) : 1 ≤ k ∧ k ≤ 13 := by
  refine kidsM_rng ?_
  rw [formedM_is] at h
  split at h
  · omega
  · simp at h
theorem fm_leaf_of {k n : Int} (hk : kidsM k = 0) (h0 : 0 ≤ n) (h1 : n ≤ 65535) : formedM (.mk k n []) = true := by
  rw [formedM_is, if_pos (by simp [hk]), if_pos hk]
  simp [inB_iff, h0, h1]
theorem fm_node_of {k : Int} {ks : List T} (hk : ¬ kidsM k = 0) (hl : (ks.length : Int) = kidsM k) (h : ∀ x ∈ ks, formedM x = true) : formedM (.mk k 0 ks) = true := by
  rw [formedM_is, if_pos hl, if_neg hk, if_pos rfl]
  exact List.all_eq_true.2 h
theorem pk_pos (t : T) : 0 < (pk t).length := by cases t; rw [pk]; simp
theorem take1 (a : Int) (l : List Int) (n : Int) : takeS 1 ⟨a :: l, n, false⟩ = ([a], ⟨l, n, false⟩) := by simp [takeS]
theorem take2 (a b : Int) (l : List Int) (n : Int) : takeS 2 ⟨a :: b :: l, n, false⟩ = ([a, b], ⟨l, n, false⟩) := by
  rw [takeS, if_neg (by simp)]; rfl
theorem pkL_drop (l : List T) (i : Nat) (h : i < l.length) : pkL (l.drop i) = pk l[i] ++ pkL (l.drop (i + 1)) := by
  rw [← List.getElem_cons_drop h, pkL]
theorem rd_good (t : T) : ∀ (f : Nat) (d n : Int) (rest : List Int), formedM t = true → 1 ≤ d → d + depthN t ≤ 201 → 0 ≤ n → n + nodes t ≤ 6000 → d + f = 202 → readS f d ⟨pk t ++ rest, n, false⟩ = (t, ⟨rest, n + nodes t, false⟩) := by
  induction t using T.ind with
  | h k nn ks ih =>
    intro f d n rest hf h1 h2 h3 h4 h5
    have r1 := fm_kind hf
    have hN : nodes (.mk k nn ks) = (ks.map nodes).sum + 1 := by rw [nodes]
    have hD : depthN (.mk k nn ks) = dmax (ks.map depthN) + 1 := by rw [depthN]
    obtain ⟨f, rfl⟩ : ∃ g, f = g + 1 := ⟨f - 1, by omega⟩
    have hw : w64 k = k := w64_id (by omega) (by omega)
    have hwn : w64 (n + 1) = n + 1 := w64_id (by omega) (by omega)
    have hu : u8 k = k := u8_id (by omega) (by omega)
    have hpk : pk (.mk k nn ks) = k :: (if kidsM k = 0 then [u8 (nn.fdiv 256), u8 nn] else pkL ks) := by rw [pk, hu]
    rw [hpk]
    have hk0 : ¬ kidsM k < 0 := by
      intro hlt
      rw [formedM_is, if_neg (by omega)] at hf
      simp at hf
    have hH : ∀ l, headS d ⟨k :: l, n, false⟩ = ⟨l, n + 1, false⟩ := fun l => by
      rw [headS, take1]
      simp only [List.headD_cons, hw, hwn]
      simp [hk0]
      omega
    rw [readS, List.cons_append, take1, List.headD_cons, hw, hH]
    by_cases hk : kidsM k = 0
    · obtain ⟨rfl, a1, a2⟩ := fm_leaf hf hk
      rw [if_pos hk, if_pos hk]
      simp only [List.cons_append, List.nil_append]
      rw [take2]
      simp only [List.headD_cons, List.getD_cons_succ, List.getD_cons_zero, orB_num a1 a2, hN, List.map_nil, List.sum_nil]
      simp
    · obtain ⟨a1, rfl, a3⟩ := fm_node hf hk
      rw [if_neg hk, if_neg hk]
      have hm : (kidsM k).toNat = ks.length := by omega
      have key : ∀ i, i ≤ ks.length → kidsI (readS f (d + 1)) i ⟨pkL ks ++ rest, n + 1, false⟩ = (ks.take i, ⟨pkL (ks.drop i) ++ rest, n + 1 + ((ks.take i).map nodes).sum, false⟩) := by
        intro i
        induction i with
        | zero => intro _; simp [kidsI]
        | succ i ihi =>
          intro hi
          have hlt : i < ks.length := by omega
          have hS := take_nodes ks i hlt
          have hdm : depthN ks[i] ≤ dmax (ks.map depthN) := dmax_mem (List.mem_map.2 ⟨_, List.getElem_mem hlt, rfl⟩)
          rw [kidsI, ihi (by omega)]
          simp only [Bool.false_eq_true, if_false]
          rw [pkL_drop ks i hlt, List.append_assoc, ih ks[i] (List.getElem_mem hlt) f (d + 1) _ _ (a3 _ (List.getElem_mem hlt)) (by omega) (by omega) (by omega) (by omega) (by omega)]
          have hsn : ks.take (i + 1) = ks.take i ++ [ks[i]] := by rw [List.take_add_one, List.getElem?_eq_getElem hlt]; rfl
          rw [hsn]
          simp only [List.map_append, List.map_cons, List.map_nil, List.sum_append, List.sum_cons, List.sum_nil, Prod.mk.injEq, RS.mk.injEq, true_and, and_true]
          omega
      rw [hm, key ks.length (Nat.le_refl _)]
      simp only [List.take_length, List.drop_length, pkL, List.nil_append, hN, Prod.mk.injEq, RS.mk.injEq, true_and, and_true]
      omega
theorem takeS_good {n : Nat} {r : RS} (h : (takeS n r).2.bad = false) : r.bad = false ∧ n ≤ r.left.length ∧ takeS n r = (r.left.take n, ⟨r.left.drop n, r.nodes, false⟩) := by
  rw [takeS] at h ⊢
  by_cases hc : r.bad = true ∨ r.left.length < n
  · rw [if_pos hc] at h; simp at h
  · rw [if_neg hc] at h ⊢
    rw [not_or] at hc
    have hb : r.bad = false := by simpa using hc.1
    exact ⟨hb, by omega, by rw [hb]⟩
theorem kidsI_good {g : RS → T × RS} {r : RS} {i : Nat} (h : (kidsI g i r).2.bad = false) : r.bad = false := by
  cases hb : r.bad with
  | false => rfl
  | true =>
    rw [kidsI_bad g r (i := 0) hb (Nat.zero_le _)] at h
    rw [kidsI] at h
    exact h ▸ hb.symm ▸ rfl
structure Snd (d : Int) (r r' : RS) (t : T) : Prop where
  bad : r.bad = false
  fm : formedM t = true
  left : r.left = pk t ++ r'.left
  nodes : r'.nodes = r.nodes + Ev.nodes t
  few : r'.nodes ≤ 6000
  deep : d + depthN t ≤ 201
theorem rd_sound : ∀ (f : Nat) (d : Int) (r : RS), byteL r.left → 0 ≤ r.nodes → r.nodes ≤ 6000 → 1 ≤ d → d + f = 202 → 0 < f → (readS f d r).2.bad = false → Snd d r (readS f d r).2 (readS f d r).1
  | 0, _, _, _, _, _, _, _, h, _ => absurd h (by omega)
  | f + 1, d, r, hB, hn0, hn1, hd, hf, _, hbad => by
    have IH := fun r => rd_sound f (d + 1) r
    have hhead : (headS d r).bad = false := by
      rw [readS] at hbad
      split at hbad
      · exact (takeS_good hbad).1
      · exact kidsI_good hbad
    have hh2 := hhead
    simp only [headS, Bool.or_eq_false_iff, decide_eq_false_iff_not] at hh2
    obtain ⟨⟨⟨b1, b2⟩, b3⟩, b4⟩ := hh2
    obtain ⟨c1, c2, c3⟩ := takeS_good b1
    obtain ⟨left, nn, bb⟩ := r
    simp only at c1 c2 c3 hB hn0 hn1
    subst c1
    match left, c2, hB with
    | a :: l, _, hB =>
    have ha := hB a (by simp)
    rw [take1] at b2 b3
    simp only [List.headD_cons] at b2 b3
    have hw : w64 a = a := w64_id (by omega) (by omega)
    have hwn : w64 (nn + 1) = nn + 1 := w64_id (by omega) (by omega)
    rw [hw] at b2
    rw [hwn] at b3
    have hR0 : headS d ⟨a :: l, nn, false⟩ = ⟨l, nn + 1, false⟩ := by
      have e := hhead
      rw [headS, take1] at e ⊢
      simp only [hwn, RS.mk.injEq, true_and]
      simpa [hwn] using e
    have hk := kidsM_rng (by omega : 0 ≤ kidsM a)
    have hu : u8 a = a := u8_id (by omega) (by omega)
    by_cases h0 : kidsM a = 0
    · have hR : readS (f + 1) d ⟨a :: l, nn, false⟩ = (.mk a (orB ((takeS 2 ⟨l, nn + 1, false⟩).1.headD 0) ((takeS 2 ⟨l, nn + 1, false⟩).1.getD 1 0)) [], (takeS 2 ⟨l, nn + 1, false⟩).2) := by
        rw [readS, take1, List.headD_cons, hw, if_pos h0, hR0]
      rw [hR] at hbad ⊢
      obtain ⟨_, d2, d3⟩ := takeS_good hbad
      simp only at d2 d3
      match l, d2, hB with
      | x :: y :: l, _, hB =>
        rw [take2]
        simp only [List.headD_cons, List.getD_cons_succ, List.getD_cons_zero]
        have hx := hB x (by simp)
        have hy := hB y (by simp)
        rw [orB_is hx hy]
        have e1 : u8 ((x * 256 + y).fdiv 256) = x := by
          rw [Int.fdiv_eq_ediv_of_nonneg _ (by omega), u8_is]; omega
        have e2 : u8 (x * 256 + y) = y := by rw [u8_is]; omega
        refine ⟨rfl, fm_leaf_of h0 (by omega) (by omega), ?_, by rw [leaf_nodes]; rfl, by simpa using b3, by rw [leaf_depth]; omega⟩
        rw [pk, if_pos h0, hu, e1, e2]
        rfl
    · have hR : readS (f + 1) d ⟨a :: l, nn, false⟩ = (.mk a 0 (kidsI (readS f (d + 1)) (kidsM a).toNat ⟨l, nn + 1, false⟩).1, (kidsI (readS f (d + 1)) (kidsM a).toNat ⟨l, nn + 1, false⟩).2) := by
        rw [readS, take1, List.headD_cons, hw, if_neg h0, hR0]
      rw [hR] at hbad ⊢
      have hBl : byteL l := fun x hx => hB x (by simp [hx])
      have key : ∀ i, (kidsI (readS f (d + 1)) i ⟨l, nn + 1, false⟩).2.bad = false →
          l = pkL (kidsI (readS f (d + 1)) i ⟨l, nn + 1, false⟩).1 ++ (kidsI (readS f (d + 1)) i ⟨l, nn + 1, false⟩).2.left ∧ (kidsI (readS f (d + 1)) i ⟨l, nn + 1, false⟩).1.length = i ∧
          (∀ x ∈ (kidsI (readS f (d + 1)) i ⟨l, nn + 1, false⟩).1, formedM x = true ∧ d + 1 + depthN x ≤ 201) ∧
          (kidsI (readS f (d + 1)) i ⟨l, nn + 1, false⟩).2.nodes = nn + 1 + (((kidsI (readS f (d + 1)) i ⟨l, nn + 1, false⟩).1.map Ev.nodes).sum : Nat) ∧ (kidsI (readS f (d + 1)) i ⟨l, nn + 1, false⟩).2.nodes ≤ 6000 := by
        intro i
        induction i with
        | zero => intro _; simp [kidsI, pkL]; omega
        | succ i ihi =>
          intro hb
          rw [kidsI] at hb ⊢
          by_cases hbi : (kidsI (readS f (d + 1)) i ⟨l, nn + 1, false⟩).2.bad = true
          · rw [if_pos hbi, hbi] at hb; cases hb
          · rw [if_neg hbi] at hb ⊢
            obtain ⟨k1, k2, k3, k4, k5⟩ := ihi (by simpa using hbi)
            generalize kidsI (readS f (d + 1)) i ⟨l, nn + 1, false⟩ = q at *
            obtain ⟨ks, r⟩ := q
            simp only at k1 k2 k3 k4 k5 hb ⊢
            obtain ⟨s1, s2, s3, s4, s5, s6⟩ := IH r (fun x hx => hBl x (by rw [k1]; simp [hx])) (by omega) k5 (by omega) (by omega) (by omega) hb
            refine ⟨?_, by simp [k2], ?_, ?_, s5⟩
            · rw [pkL_snoc, List.append_assoc, ← s3]; exact k1
            · intro x hx
              rw [List.mem_append, List.mem_singleton] at hx
              rcases hx with hx | rfl
              · exact k3 x hx
              · exact ⟨s2, s6⟩
            · simp only [List.map_append, List.map_cons, List.map_nil, List.sum_append, List.sum_cons, List.sum_nil]
              omega
      obtain ⟨k1, k2, k3, k4, k5⟩ := key _ hbad
      generalize kidsI (readS f (d + 1)) (kidsM a).toNat ⟨l, nn + 1, false⟩ = q at *
      obtain ⟨ks, r⟩ := q
      simp only at k1 k2 k3 k4 k5 hbad ⊢
      have hks3 := kidsM_le a
      refine ⟨rfl, fm_node_of h0 (by omega) fun x hx => (k3 x hx).1, ?_, ?_, k5, ?_⟩
      · rw [pk, if_neg h0, hu, k1]; rfl
      · rw [Ev.nodes]; simp only; omega
      · rw [depthN]
        have : dmax (ks.map depthN) ≤ (200 - d).toNat := dmax_le fun x hx => by
          obtain ⟨y, hy, rfl⟩ := List.mem_map.1 hx
          have := (k3 y hy).2
          omega
        omega
end
section
attribute [local simp] allD_map_d sks_map_d tk tn tks initA EndsM
noncomputable def eqT (t u : T) : Bool := @decide (t = u) (Classical.propDecidable _)
noncomputable def eqTs (l m : List T) : Bool := @decide (l = m) (Classical.propDecidable _)
theorem eqT_iff (t u : T) : eqT t u = true ↔ t = u := by simp [eqT]
theorem eqTs_iff (t u : List T) : eqTs t u = true ↔ t = u := by simp [eqTs]
theorem eqT_not (t u : T) : eqT t u = false ↔ ¬ t = u := by simp [eqT]
theorem eqTs_not (t u : List T) : eqTs t u = false ↔ ¬ t = u := by simp [eqTs]
theorem take_eq_next {α : Type} {l m : List α} {i : Nat} (h1 : i < l.length) (h2 : i < m.length) (h : l.take i = m.take i) (he : l[i] = m[i]) : l.take (i + 1) = m.take (i + 1) := by
  rw [List.take_add_one, List.take_add_one, h, List.getElem?_eq_getElem h1, List.getElem?_eq_getElem h2, he]
theorem keepBytes_ok (l m : List Int) : Pure Tryz.prog n_porismkeep_Bytes [eB l, eB m] [.bool (decide (l = m))] := by
  refine p_porismkeep_Bytes rfl fun hs => ?_
  have hl := hs (eB l) (by simp)
  simp [eB, small] at hl
  simp -dsimp [x_porismkeep_Bytes, eB]
  (first | refine Ask_b ?_ ?_ | refine Cnd_b ?_ ?_) <;> intro g1 <;> (try simp only [nrm] at g1) <;> simp -dsimp [g1]
  · have : ¬ l = m := fun h => g1 (by rw [h])
    simp [this]
  replace g1 : l.length = m.length := by omega
  refine wp_upto l.length (fun i st => st.s 0 = .d (.sl 1 (l.map (.int .u8))) ∧ st.s 1 = .d (.sl 1 (m.map (.int .u8))) ∧ st.s 5 = .d (.int .i64 i) ∧ l.take i = m.take i) ?_ ?_
  · simp -dsimp
  · rintro i ⟨s, hp⟩ hi ⟨e1, e2, e3, e4⟩
    dsimp only at e1 e2 e3
    rcases Nat.lt_or_ge i l.length with hlt | hge
    · have w1 : IntKind.i64.wrap ((i : Int) + 1) = (i : Int) + 1 := wrap_id (by omega) (by omega)
      have hlt2 : i < m.length := by omega
      by_cases he : l[i] = m[i]
      · simp -dsimp [e1, e2, e3, hlt, hlt2, he, w1]
        exact take_eq_next hlt hlt2 e4 he
      · simp -dsimp [e1, e2, e3, hlt, hlt2, he, w1]
        intro h
        exact he (by simp [h])
    · have e : i = l.length := by omega
      subst e
      rw [List.take_length, g1, List.take_length] at e4
      simp -dsimp [e1, e2, e3, e4]
theorem keepTerms2_of (l m : List T) (h : ∀ x ∈ l, ∀ y, Pure Tryz.prog n_porismkeep_Term [.agg (cT x), .agg (cT y)] [.bool (eqT x y)]) : Pure Tryz.prog n_porismkeep_Terms [eTs l, eTs m] [.bool (eqTs l m)] := by
  refine p_porismkeep_Terms rfl fun hs => ?_
  have hl := hs (eTs l) (by simp)
  simp [eTs, small] at hl
  replace hl := hl.1
  simp -dsimp [x_porismkeep_Terms, eTs]
  (first | refine Ask_b ?_ ?_ | refine Cnd_b ?_ ?_) <;> intro g1 <;> (try simp only [nrm] at g1) <;> simp -dsimp [g1]
  · exact (eqTs_not l m).2 fun h => g1 (by rw [h])
  replace g1 : l.length = m.length := by omega
  refine wp_upto l.length (fun i st => st.s 0 = .d (.sl 3 (l.map eT)) ∧ st.s 1 = .d (.sl 3 (m.map eT)) ∧ st.s 5 = .d (.int .i64 i) ∧ l.take i = m.take i) ?_ ?_
  · simp -dsimp
  · rintro i ⟨s, hp⟩ hi ⟨e1, e2, e3, e4⟩
    dsimp only at e1 e2 e3
    rcases Nat.lt_or_ge i l.length with hlt | hge
    · have w1 : IntKind.i64.wrap ((i : Int) + 1) = (i : Int) + 1 := wrap_id (by omega) (by omega)
      have hlt2 : i < m.length := by omega
      have hI := h l[i] (List.getElem_mem _) m[i]
      simp -dsimp [e1, e2, e3, hlt, hlt2, w1, cT]
      simp only [cT] at hI
      refine call_of hI ?_
      cases he : eqT l[i] m[i]
      · have hne := (eqT_not _ _).1 he
        simp -dsimp [e1, e2, e3, hlt, hlt2, w1, he]
        refine (eqTs_not l m).2 fun h => hne ?_
        simp [h]
      · have hee := (eqT_iff _ _).1 he
        simp -dsimp [e1, e2, e3, hlt, hlt2, w1, he]
        exact take_eq_next hlt hlt2 e4 hee
    · have e : i = l.length := by omega
      subst e
      rw [List.take_length, g1, List.take_length] at e4
      simp -dsimp [e1, e2, e3, e4]
      exact (eqTs_iff m m).2 rfl
theorem keepTerm2_ok (t : T) : ∀ u, Pure Tryz.prog n_porismkeep_Term [.agg (cT t), .agg (cT u)] [.bool (eqT t u)] := by
  induction t using T.ind with
  | h k n ks ih =>
    rintro ⟨k', n', ks'⟩
    refine p_porismkeep_Term rfl fun hs => ?_
    have hT := keepTerms2_of ks ks' ih
    simp only [eTs] at hT
    have hE : eqT (.mk k n ks) (.mk k' n' ks') = (decide (k = k') && decide (n = n') && eqTs ks ks') := by
      rw [Bool.eq_iff_iff]
      simp [eqT_iff, eqTs_iff, and_assoc]
    rw [hE]
    simp -dsimp [x_porismkeep_Term, cT]
    (first | refine Ask_b ?_ ?_ | refine Cnd_b ?_ ?_) <;> intro g1 <;> (try simp only [nrm] at g1) <;> simp -dsimp [g1]
    (first | refine Ask_b ?_ ?_ | refine Cnd_b ?_ ?_) <;> intro g2 <;> (try simp only [nrm] at g2) <;> simp -dsimp [g2, g1]
    refine call_of hT ?_
    simp -dsimp [g1, g2]
def T0 : T := .mk 0 0 []
def getS (b : List Int) (at_ : Int) : T × RS := readS 201 1 ⟨b.drop at_.toNat, 0, false⟩
def getT (b : List Int) (at_ : Int) : T := if at_ < 0 ∨ (b.length : Int) < at_ then T0 else if (getS b at_).2.bad = true then T0 else (getS b at_).1
def getN (b : List Int) (at_ : Int) : Int := if at_ < 0 ∨ (b.length : Int) < at_ then 0 else if (getS b at_).2.bad = true then 0 else IntKind.i64.wrap ((b.length : Int) - (getS b at_).2.left.length)
def getE (b : List Int) (at_ : Int) : Int := if at_ < 0 ∨ (b.length : Int) < at_ then 1 else if (getS b at_).2.bad = true then 3 else 0
theorem get_ok (b : List Int) (at_ : Int) : Pure Tryz.prog n_pack_Get [eB b, .int .i64 at_] [.agg (cT (getT b at_)), .int .i64 (getN b at_), .int .i64 (getE b at_)] := by
  refine p_pack_Get rfl fun hs => ?_
  simp -dsimp [x_pack_Get, eB]
  by_cases h0 : at_ < 0
  · have e1 : getT b at_ = T0 := by rw [getT, if_pos (.inl h0)]
    have e2 : getN b at_ = 0 := by rw [getN, if_pos (.inl h0)]
    have e3 : getE b at_ = 1 := by rw [getE, if_pos (.inl h0)]
    simp -dsimp [h0, e1, e2, e3, T0, cT]
  by_cases h1 : (b.length : Int) < at_
  · have e1 : getT b at_ = T0 := by rw [getT, if_pos (.inr h1)]
    have e2 : getN b at_ = 0 := by rw [getN, if_pos (.inr h1)]
    have e3 : getE b at_ = 1 := by rw [getE, if_pos (.inr h1)]
    simp -dsimp [h0, h1, e1, e2, e3, T0, cT]
  have hc : ¬ (at_ < 0 ∨ (b.length : Int) < at_) := by omega
  have h2 : 0 ≤ at_ := by omega
  have h3 : at_ ≤ (b.length : Int) := by omega
  have hR := read_ok 201 1 1 ⟨b.drop at_.toNat, 0, false⟩ (by omega) (by omega) (by omega)
  rw [show readS 201 1 ⟨b.drop at_.toNat, 0, false⟩ = getS b at_ from rfl] at hR
  rw [getT, getN, getE, if_neg hc, if_neg hc, if_neg hc]
  have hT : (b.map (D.int .u8)).take b.length = b.map (D.int .u8) := List.take_of_length_le (by simp)
  simp -dsimp [h0, h1, h2, h3, hT]
  generalize getS b at_ = q at *
  obtain ⟨t, l, n, bd⟩ := q
  refine callM_of hR (by simp [rH]) ?_
  cases bd
  · simp -dsimp [mergeK_cons, mergeK_nil, rH, h0, h1, T0, cT]
  · simp -dsimp [mergeK_cons, mergeK_nil, rH, h0, h1, T0, cT]
end
section
attribute [local simp] allD_map_d sks_map_d tk tn tks initA EndsM
theorem get_good {b : List Int} {at_ : Int} {t : T} {rest : List Int} (h0 : 0 ≤ at_) (h1 : at_ ≤ (b.length : Int)) (hd : b.drop at_.toNat = pk t ++ rest) (hf : formedM t = true) (hn : nodes t ≤ 6000) (hp : depthN t ≤ 200) (hl : b.length ≤ 1000000000) :
    getT b at_ = t ∧ getN b at_ = (b.length : Int) - rest.length ∧ getE b at_ = 0 := by
  have hc : ¬ (at_ < 0 ∨ (b.length : Int) < at_) := by omega
  have hG : getS b at_ = (t, ⟨rest, 0 + nodes t, false⟩) := by
    rw [getS, hd]
    exact rd_good t 201 1 0 rest hf (by omega) (by omega) (by omega) (by omega) (by omega)
  have hlen : rest.length ≤ b.length := by
    have := congrArg List.length hd
    simp at this
    omega
  rw [getT, getN, getE, if_neg hc, if_neg hc, if_neg hc, hG]
  simp only [Bool.false_eq_true, if_false]
  exact ⟨trivial, wrap_id (by omega) (by omega), trivial⟩
theorem get_sound {b : List Int} {at_ : Int} (hB : byteL b) (hl : b.length ≤ 1000000000) (h : getE b at_ = 0) : 0 ≤ at_ ∧ at_ ≤ (b.length : Int) ∧ ∃ rest, b.drop at_.toNat = pk (getT b at_) ++ rest ∧ formedM (getT b at_) = true ∧ nodes (getT b at_) ≤ 6000 ∧ depthN (getT b at_) ≤ 200 ∧ getN b at_ = (b.length : Int) - rest.length := by
  by_cases hc : at_ < 0 ∨ (b.length : Int) < at_
  · rw [getE, if_pos hc] at h; omega
  rw [getE, if_neg hc] at h
  rw [getT, getN, if_neg hc, if_neg hc]
  by_cases hb : (getS b at_).2.bad = true
  · rw [if_pos hb] at h; omega
  rw [if_neg hb, if_neg hb]
  have hS := rd_sound 201 1 ⟨b.drop at_.toNat, 0, false⟩ (fun x hx => hB x (List.mem_of_mem_drop hx)) (by simp) (by simp) (by omega) (by omega) (by omega) (by rw [← getS]; simpa using hb)
  rw [← getS] at hS
  generalize getS b at_ = q at *
  obtain ⟨t, l, n, bd⟩ := q
  obtain ⟨s1, s2, s3, s4, s5, s6⟩ := hS
  simp only at s1 s2 s3 s4 s5 s6 ⊢
  have hlen : l.length ≤ b.length := by
    have := congrArg List.length s3
    simp at this
    omega
  exact ⟨by omega, by omega, l, s3, s2, by omega, by omega, wrap_id (by omega) (by omega)⟩
theorem get_err {b : List Int} {at_ : Int} (h : ¬ getE b at_ = 0) : getT b at_ = T0 ∧ getN b at_ = 0 ∧ ((getE b at_ = 1 ∧ (at_ < 0 ∨ (b.length : Int) < at_)) ∨ (getE b at_ = 3 ∧ ¬ (at_ < 0 ∨ (b.length : Int) < at_))) := by
  by_cases hc : at_ < 0 ∨ (b.length : Int) < at_
  · rw [getT, getN, getE, if_pos hc, if_pos hc, if_pos hc]; exact ⟨rfl, rfl, .inl ⟨rfl, hc⟩⟩
  rw [getE, if_neg hc] at h
  rw [getT, getN, getE, if_neg hc, if_neg hc, if_neg hc]
  by_cases hb : (getS b at_).2.bad = true
  · rw [if_pos hb, if_pos hb, if_pos hb]; exact ⟨rfl, rfl, .inr ⟨rfl, hc⟩⟩
  · rw [if_neg hb] at h; exact (h rfl).elim
theorem check_of {t : T} (hf : formedM t = true) (hn : nodes t ≤ 6000) (hp : depthN t ≤ 200) : checkM t = 0 := (check_iff (by omega)).2 ⟨hn, hp, hf⟩
theorem typ_u8 {n : Nat} {cs : List D} (h : typ Tryz.prog n 5 cs) : ∃ i, cs = [.int .u8 i] ∧ 0 ≤ i ∧ i < 256 := by
  cases n with
  | zero => exact h.elim
  | succ n =>
    simp only [typ, Tryz.underlying5] at h
    obtain ⟨i, hi, hw⟩ := h
    refine ⟨i, hi, ?_⟩
    simp only [Lit.wf, Bool.and_eq_true, decide_eq_true_eq] at hw
    have e1 : IntKind.u8.min = 0 := by decide
    have e2 : IntKind.u8.max = 255 := by decide
    omega
theorem arg_bytes {x : D} (h : TypD Tryz.prog 37 x) : ∃ l : List Int, x = eB l ∧ byteL l ∧ l.length ≤ 140737488351232 := by
  obtain ⟨⟨n, h1⟩, h2⟩ := h
  have hs : isStructB Tryz.prog 37 = false := by simp only [isStructB, Tryz.underlying37]
  have hs8 : isStructB Tryz.prog 5 = false := by simp only [isStructB, Tryz.underlying5]
  have hc8 : Tryz.prog.cellsOf 5 = 1 := by kernel_rfl
  have hb8 : Tryz.prog.bytesOf 5 = 1 := by kernel_rfl
  rw [not_agg (h2.trans hs)] at h1
  cases n with
  | zero => exact h1.elim
  | succ n =>
    simp only [typ, Tryz.underlying37] at h1
    obtain ⟨xs, hx, _, hl, hxs⟩ := h1
    simp only [List.cons.injEq, and_true] at hx
    obtain ⟨l, rfl, hq⟩ : ∃ l : List Int, xs = l.map (.int .u8) ∧ ∀ a ∈ l, 0 ≤ a ∧ a < 256 := map_of fun x hxx => by
      obtain ⟨h4, h5⟩ := hxs x hxx
      rw [not_agg (h5.trans hs8)] at h4
      obtain ⟨i, hi, hr⟩ := typ_u8 h4
      exact ⟨i, hr, by simpa using hi⟩
    refine ⟨l, by rw [hx, hc8]; rfl, hq, ?_⟩
    rw [hb8, List.length_map, Nat.mul_one] at hl
    exact hl
end
section
section
attribute [local simp] allD_map_d sks_map_d tk tn tks initA EndsM
theorem level_ok (n : Int) : Pure Tryz.prog n_shape_level [.int .i64 n] [.bool (decide (0 ≤ n) && decide (n ≤ 6))] := by
  refine p_shape_level rfl fun hs => ?_
  simp -dsimp [x_shape_level]
  (first | refine Ask_b ?_ ?_ | refine Cnd_b ?_ ?_) <;> intro h <;> (try simp only [nrm] at h) <;> simp -dsimp [h]
def place (base ahead k many : Int) : Int := if base < 0 ∨ 65535 < base ∨ k < 0 ∨ many ≤ k then -1 else w64 (w64 (base + ahead) + k)
def decs (l : List So) : Nat := (l.filter (·.dec)).length
def count (b : Bl) : Int := w64 (w64 (w64 (2 * b.sorts.length) + decs b.sorts) + b.cons.length)
def former (b : Bl) (base k : Int) : Int := place base 0 k b.sorts.length
def decoder (b : Bl) (base k : Int) : Int :=
  if k < 0 then -1 else match b.sorts[k.toNat]? with
    | none => -1
    | some s => if s.dec then place base b.sorts.length (decs (b.sorts.take k.toNat)) b.sorts.length else -1
def constructor_ (b : Bl) (base k : Int) : Int := place base (w64 (b.sorts.length + decs b.sorts)) k b.cons.length
def eliminator (b : Bl) (base k : Int) : Int := place base (w64 (w64 (b.sorts.length + decs b.sorts) + b.cons.length)) k b.sorts.length
end
section
attribute [local simp] allD_map_d sks_map_d tk tn tks initA EndsM
theorem any_snoc {α : Type} {p : α → Bool} {l : List α} {i : Nat} (hlt : i < l.length) (h : (l.take i).any p = false) (hx : p l[i] = false) : (l.take (i + 1)).any p = false := by
  rw [take_snoc (List.getElem?_eq_getElem hlt), List.any_append, h]
  simp [hx]
theorem any_mem {α : Type} {p : α → Bool} {l : List α} {i : Nat} (hlt : i < l.length) (hx : p l[i] = true) : l.any p = true := List.any_eq_true.2 ⟨l[i], List.getElem_mem _, hx⟩
end
section
attribute [local simp] allD_map_d sks_map_d tk tn tks initA EndsM
structure En where
  kind : Int
  many : Nat
  f : Nat
  of : Int → Int
end
section
attribute [local simp] allD_map_d sks_map_d tk tn tks initA EndsM
theorem indexFunc_Arg (l : List Ar) (g : FuncId) (caps : List D) (p : Ar → Bool) (hp : ∀ x ∈ l, Pure Tryz.prog g (.agg (cAr x) :: caps) [.bool (p x)]) :
    Pure Tryz.prog n_slices_IndexFunc_Arg [.sl 7 (l.map eAr), .clo g caps] [.int .i64 (idxF l p)] := by
  refine p_slices_IndexFunc_Arg rfl fun hs => ?_
  have hl := hs (.sl 7 (l.map eAr)) (by simp)
  simp [small] at hl
  replace hl := hl.1
  simp -dsimp [x_slices_IndexFunc_Arg]
  refine wp_upto l.length (fun i st => st.s 0 = .d (.sl 7 (l.map eAr)) ∧ st.s 1 = .d (.clo g caps) ∧ st.s 7 = .d (.int .i64 l.length) ∧ st.s 8 = .d (.int .i64 i) ∧ ∀ x ∈ l.take i, p x = false) ?_ ?_
  · simp -dsimp
  · rintro i ⟨s, hp'⟩ hi ⟨h1, h2, h3, h4, h5⟩
    dsimp only at h1 h2 h3 h4 h5
    rcases Nat.lt_or_ge i l.length with hlt | hge
    · have w1 : IntKind.i64.wrap ((i : Int) + 1) = (i : Int) + 1 := wrap_id (by omega) (by omega)
      have hc : (cAr l[i]).length = 7 := rfl
      simp -dsimp [h1, h2, h3, h4, hlt, hc]
      have ht : (cAr l[i]).take 7 = cAr l[i] := List.take_of_length_le (by omega)
      refine call_of (by rw [ht]; exact hp l[i] (List.getElem_mem _)) ?_
      simp -dsimp [h1, h2, h3, h4, hlt]
      (first | refine Ask_b ?_ ?_ | refine Cnd_b ?_ ?_) <;> intro h6 <;> (try simp only [nrm] at h6) <;> simp -dsimp [h6, h1, h2, h3, h4, hlt, w1]
      · have : l.findIdx? p = some i := by
          rw [List.findIdx?_eq_some_iff_getElem]
          refine ⟨hlt, h6, fun j hj => ?_⟩
          have := h5 l[j] (by rw [List.mem_take_iff_getElem]; exact ⟨j, by omega, rfl⟩)
          simpa using this
        simp only [idxF, this]
      · intro x hx
        rw [take_snoc (List.getElem?_eq_getElem hlt), List.mem_append] at hx
        rcases hx with hx | hx
        · simpa using h5 x hx
        · simp at hx; subst hx; exact h6
    · have e : i = l.length := by omega
      subst e
      rw [List.take_length] at h5
      have : l.findIdx? p = none := by
        rw [List.findIdx?_eq_none_iff]; exact h5
      simp -dsimp [h1, h2, h3, h4, idxF, this]
theorem containsFunc_Arg (l : List Ar) (g : FuncId) (caps : List D) (p : Ar → Bool) (hp : ∀ x ∈ l, Pure Tryz.prog g (.agg (cAr x) :: caps) [.bool (p x)]) :
    Pure Tryz.prog n_slices_ContainsFunc_Arg [.sl 7 (l.map eAr), .clo g caps] [.bool (l.any p)] := by
  refine p_slices_ContainsFunc_Arg rfl fun hs => ?_
  simp -dsimp [x_slices_ContainsFunc_Arg]
  refine call_of (indexFunc_Arg l g caps p hp) ?_
  simp -dsimp [idxF_ge]
theorem indexFunc_Con (l : List Co) (g : FuncId) (caps : List D) (p : Co → Bool) (hp : ∀ x ∈ l, Pure Tryz.prog g (.agg (cCo x) :: caps) [.bool (p x)]) :
    Pure Tryz.prog n_slices_IndexFunc_Con [.sl 6 (l.map eCo), .clo g caps] [.int .i64 (idxF l p)] := by
  refine p_slices_IndexFunc_Con rfl fun hs => ?_
  have hl := hs (.sl 6 (l.map eCo)) (by simp)
  simp [small] at hl
  replace hl := hl.1
  simp -dsimp [x_slices_IndexFunc_Con]
  refine wp_upto l.length (fun i st => st.s 0 = .d (.sl 6 (l.map eCo)) ∧ st.s 1 = .d (.clo g caps) ∧ st.s 7 = .d (.int .i64 l.length) ∧ st.s 8 = .d (.int .i64 i) ∧ ∀ x ∈ l.take i, p x = false) ?_ ?_
  · simp -dsimp
  · rintro i ⟨s, hp'⟩ hi ⟨h1, h2, h3, h4, h5⟩
    dsimp only at h1 h2 h3 h4 h5
    rcases Nat.lt_or_ge i l.length with hlt | hge
    · have w1 : IntKind.i64.wrap ((i : Int) + 1) = (i : Int) + 1 := wrap_id (by omega) (by omega)
      have hc : (cCo l[i]).length = 6 := rfl
      simp -dsimp [h1, h2, h3, h4, hlt, hc]
      have ht : (cCo l[i]).take 6 = cCo l[i] := List.take_of_length_le (by omega)
      refine call_of (by rw [ht]; exact hp l[i] (List.getElem_mem _)) ?_
      simp -dsimp [h1, h2, h3, h4, hlt]
      (first | refine Ask_b ?_ ?_ | refine Cnd_b ?_ ?_) <;> intro h6 <;> (try simp only [nrm] at h6) <;> simp -dsimp [h6, h1, h2, h3, h4, hlt, w1]
      · have : l.findIdx? p = some i := by
          rw [List.findIdx?_eq_some_iff_getElem]
          refine ⟨hlt, h6, fun j hj => ?_⟩
          have := h5 l[j] (by rw [List.mem_take_iff_getElem]; exact ⟨j, by omega, rfl⟩)
          simpa using this
        simp only [idxF, this]
      · intro x hx
        rw [take_snoc (List.getElem?_eq_getElem hlt), List.mem_append] at hx
        rcases hx with hx | hx
        · simpa using h5 x hx
        · simp at hx; subst hx; exact h6
    · have e : i = l.length := by omega
      subst e
      rw [List.take_length] at h5
      have : l.findIdx? p = none := by
        rw [List.findIdx?_eq_none_iff]; exact h5
      simp -dsimp [h1, h2, h3, h4, idxF, this]
theorem containsFunc_Con (l : List Co) (g : FuncId) (caps : List D) (p : Co → Bool) (hp : ∀ x ∈ l, Pure Tryz.prog g (.agg (cCo x) :: caps) [.bool (p x)]) :
    Pure Tryz.prog n_slices_ContainsFunc_Con [.sl 6 (l.map eCo), .clo g caps] [.bool (l.any p)] := by
  refine p_slices_ContainsFunc_Con rfl fun hs => ?_
  simp -dsimp [x_slices_ContainsFunc_Con]
  refine call_of (indexFunc_Con l g caps p hp) ?_
  simp -dsimp [idxF_ge]
end
section
attribute [local simp] allD_map_d sks_map_d w64 tk tn tks initA EndsM
def noneM (t : T) : Bool := if t.kind = 0 then if t.num = 0 then decide ((t.kids.length : Int) = 0) else false else false
theorem none_ok (t : T) : Pure Tryz.prog n_term_None [.agg (cT t)] [.bool (noneM t)] := by
  refine p_term_None rfl fun hs => ?_
  simp -dsimp [x_term_None, cT]
  (first | refine Ask_b ?_ ?_ | refine Cnd_b ?_ ?_) <;> intro h1 <;> (try simp only [nrm] at h1) <;> simp -dsimp [h1, noneM]
  (first | refine Ask_b ?_ ?_ | refine Cnd_b ?_ ?_) <;> intro h2 <;> (try simp only [nrm] at h2) <;> simp -dsimp [h2, noneM, h1]
def inM (t : T) (v : Int) : Bool := scopeM t v 65536
theorem in_ok (t : T) (v : Int) : Pure Tryz.prog n_shape_in [.agg (cT t), .int .i64 v] [.bool (inM t v)] := by
  refine p_shape_in rfl fun hs => ?_
  simp -dsimp [x_shape_in, cT]
  refine call_of (scope_ok t v 65536) ?_
  simp -dsimp [inM]
theorem all1_ok (t : T) (v : Int) : Pure Tryz.prog n_shape_all_1 [.agg (cT t), .rp [.int .i64 v]] [.bool (!inM t v)] := by
  refine p_shape_all_1 rfl fun hs => ?_
  simp -dsimp [x_shape_all_1, cT]
  refine call_of (in_ok t v) ?_
  simp -dsimp
def allM (l : List T) (v : Int) : Bool := !l.any fun t => !inM t v
theorem all_ok (l : List T) (v : Int) : Pure Tryz.prog n_shape_all [eTs l, .int .i64 v] [.bool (allM l v)] := by
  refine p_shape_all rfl fun hs => ?_
  simp -dsimp [x_shape_all, eTs]
  refine call_of (containsFunc_Term l n_shape_all_1 [.rp [.int .i64 v]] (fun t => !inM t v) (fun x _ => all1_ok x v)) ?_
  simp -dsimp [allM]
def maybeM (is : Bool) (t : T) (v : Int) : Bool := if is then inM t v else noneM t
theorem maybe_ok (is : Bool) (t : T) (v : Int) : Pure Tryz.prog n_shape_maybe [.bool is, .agg (cT t), .int .i64 v] [.bool (maybeM is t v)] := by
  refine p_shape_maybe rfl fun hs => ?_
  cases is with
  | false =>
    simp -dsimp [x_shape_maybe, cT]
    refine call_of (none_ok t) ?_
    simp -dsimp [maybeM]
  | true =>
    simp -dsimp [x_shape_maybe, cT]
    refine call_of (in_ok t v) ?_
    simp -dsimp [maybeM]
def allI {α : Type} (p : Nat → α → Bool) : Nat → List α → Bool
  | _, [] => true
  | i, x :: xs => p i x && allI p (i + 1) xs
theorem allI_iff {α : Type} (p : Nat → α → Bool) : ∀ (l : List α) (i : Nat), allI p i l = true ↔ ∀ (j : Nat) (hj : j < l.length), p (i + j) l[j] = true
  | [], i => by simp [allI]
  | x :: xs, i => by
    rw [allI, Bool.and_eq_true, allI_iff p xs (i + 1)]
    constructor
    · rintro ⟨h1, h2⟩ j hj
      cases j with
      | zero => simpa using h1
      | succ j =>
        have := h2 j (by simpa using hj)
        have e : i + 1 + j = i + (j + 1) := by omega
        rw [e] at this
        simpa using this
    · intro h
      refine ⟨h 0 (by simp), fun j hj => ?_⟩
      have := h (j + 1) (by simpa using hj)
      have e : i + 1 + j = i + (j + 1) := by omega
      rw [e]
      simpa using this
theorem allI_not {α : Type} {p : Nat → α → Bool} {l : List α} {j : Nat} (hj : j < l.length) (h : p j l[j] = false) : allI p 0 l = false := by
  cases hw : allI p 0 l with
  | false => rfl
  | true =>
    have := (allI_iff p l 0).1 hw j hj
    rw [Nat.zero_add, h] at this
    cases this
theorem allI_next {α : Type} {p : Nat → α → Bool} {l : List α} {i : Nat} (hi : i < l.length) (h : ∀ (j : Nat) (hj : j < l.length), j < i → p j l[j] = true) (hx : p i l[i] = true) :
    ∀ (j : Nat) (hj : j < l.length), j < i + 1 → p j l[j] = true := by
  intro j hj hji
  rcases Nat.lt_or_ge j i with h' | h'
  · exact h j hj h'
  · have : j = i := by omega
    subst this
    exact hx
theorem allI_all {α : Type} {p : Nat → α → Bool} {l : List α} (h : ∀ (j : Nat) (hj : j < l.length), j < l.length → p j l[j] = true) : allI p 0 l = true :=
  (allI_iff p l 0).2 fun j hj => by rw [Nat.zero_add]; exact h j hj hj
def domM (i : Int) (l : List T) : Bool := allI (fun j t => inM t (w64 (i + j))) 0 l
def argM (b : Bl) (a : Ar) (i : Int) : Bool :=
  if a.rc then
    if noneM a.ty then
      if 12 < (a.dom.length : Int) then false else if a.sort < 0 then false else match b.sorts[a.sort.toNat]? with
      | none => false
      | some s => if (a.idx.length : Int) = (s.idx.length : Int) then domM i a.dom && allM a.idx (w64 (i + a.dom.length)) else false
    else false
  else if inM a.ty i then if w64 (a.dom.length + a.idx.length) = 0 then decide (a.sort = 0) else false else false
theorem arg_ok (b : Bl) (a : Ar) (i : Int) : Pure Tryz.prog n_shape_arg [eBl b, .agg (cAr a), .int .i64 i] [.bool (argM b a i)] := by
  refine p_shape_arg rfl fun hs => ?_
  simp -dsimp [x_shape_arg, eBl, cBl, eSos, eCos, cAr, cT, eTs]
  cases hr : a.rc with
  | false =>
    simp -dsimp [hr]
    refine call_of (in_ok a.ty i) ?_
    simp -dsimp
    (first | refine Ask_b ?_ ?_ | refine Cnd_b ?_ ?_) <;> intro h1 <;> (try simp only [nrm] at h1) <;> simp -dsimp [h1, argM, hr]
    · (first | refine Ask_b ?_ ?_ | refine Cnd_b ?_ ?_) <;> intro h2 <;> (try simp only [nrm] at h2) <;> simp -dsimp [h2, argM, hr, h1]
  | true =>
    simp -dsimp [hr]
    refine call_of (none_ok a.ty) ?_
    simp -dsimp
    (first | refine Ask_b ?_ ?_ | refine Cnd_b ?_ ?_) <;> intro h1 <;> (try simp only [nrm] at h1) <;> simp -dsimp [h1, argM, hr]
    (first | refine Ask_b ?_ ?_ | refine Cnd_b ?_ ?_) <;> intro h2 <;> (try simp only [nrm] at h2) <;> simp -dsimp [h2, argM, hr, h1]
    (first | refine Ask_b ?_ ?_ | refine Cnd_b ?_ ?_) <;> intro h3 <;> (try simp only [nrm] at h3) <;> simp -dsimp [h3, argM, hr, h1, h2]
    (first | refine Ask_b ?_ ?_ | refine Cnd_b ?_ ?_) <;> intro h4 <;> (try simp only [nrm] at h4) <;> simp -dsimp [h4, argM, hr, h1, h2, h3]
    · have : b.sorts[a.sort.toNat]? = none := List.getElem?_eq_none (by omega)
      simp [this]
    have hlt : a.sort.toNat < b.sorts.length := by omega
    have h0 : 0 ≤ a.sort := by omega
    have hA : argM b a i = if (a.idx.length : Int) = (b.sorts[a.sort.toNat].idx.length : Int) then domM i a.dom && allM a.idx (w64 (i + a.dom.length)) else false := by
      simp [argM, hr, h1, h2, h3, hlt]
    simp -dsimp [hr, h1, h2, h3, h4, hlt, h0, eSo, cSo, eArs, cT]
    (first | refine Ask_b ?_ ?_ | refine Cnd_b ?_ ?_) <;> intro h5 <;> (try simp only [nrm] at h5) <;> simp -dsimp [h5, hr, h1, h2, h3, h4, hlt, h0, eSo, cSo, eArs, cT]
    · rw [hA, if_neg h5]
    rw [hA, if_pos h5]
    have hd : a.dom.length ≤ 12 := by omega
    refine wp_upto a.dom.length (fun j st => st.s 2 = .d (.int .i64 i) ∧ st.s 4 = .ptr 4 1 0 ∧ st.h 4 = ⟨1, .box [.d (.bool true), .d (.int .i64 a.ty.kind), .d (.int .i64 a.ty.num), .d (.sl 3 (a.ty.kids.map eT)), .d (.sl 3 (a.dom.map eT)), .d (.int .i64 a.sort), .d (.sl 3 (a.idx.map eT))] false⟩ ∧
      st.s 69 = .d (.sl 3 (a.dom.map eT)) ∧ st.s 70 = .d (.int .i64 a.dom.length) ∧ st.s 71 = .d (.int .i64 j) ∧ ∀ (k : Nat) (hk : k < a.dom.length), k < j → inM a.dom[k] (w64 (i + k)) = true) ?_ ?_
    · simp -dsimp [hr]
    · rintro j ⟨s, hp⟩ hj ⟨g1, g2, g3, g4, g5, g6, g7⟩
      dsimp only at g1 g2 g3 g4 g5 g6
      rcases Nat.lt_or_ge j a.dom.length with hlt | hge
      · have w1 : IntKind.i64.wrap ((j : Int) + 1) = (j : Int) + 1 := wrap_id (by omega) (by omega)
        simp -dsimp [g1, g2, g3, g4, g5, g6, hlt, cT]
        refine call_of (in_ok a.dom[j] _) ?_
        simp -dsimp [g1, g2, g3, g4, g5, g6, hlt]
        (first | refine Ask_b ?_ ?_ | refine Cnd_b ?_ ?_) <;> intro h6 <;> (try simp only [nrm] at h6) <;> simp -dsimp [h6, g1, g2, g3, g4, g5, g6, hlt, w1]
        · have : domM i a.dom = false := allI_not hlt h6
          simp [this]
        · exact allI_next (p := fun j t => inM t (w64 (i + j))) hlt g7 h6
      · have e : j = a.dom.length := by omega
        subst e
        have : domM i a.dom = true := allI_all g7
        simp -dsimp [g1, g2, g3, g4, g5, g6]
        refine call_of (all_ok a.idx _) ?_
        simp -dsimp [this]
def rowM (b : Bl) (l : List Ar) : Bool := if 12 < (l.length : Int) then false else allI (fun i a => argM b a i) 0 l
theorem row_ok (b : Bl) (l : List Ar) : Pure Tryz.prog n_shape_row [eBl b, eArs l] [.bool (rowM b l)] := by
  refine p_shape_row rfl fun hs => ?_
  simp -dsimp [x_shape_row, eBl, cBl, eSos, eCos, eArs]
  (first | refine Ask_b ?_ ?_ | refine Cnd_b ?_ ?_) <;> intro h1 <;> (try simp only [nrm] at h1) <;> simp -dsimp [h1, rowM]
  have hl : l.length ≤ 12 := by omega
  have hR : rowM b l = allI (fun i a => argM b a i) 0 l := by rw [rowM, if_neg h1]
  rw [hR]
  refine wp_upto l.length (fun i st => st.s 2 = .ptr 2 1 0 ∧ st.h 2 = ⟨1, .box [.d (.sl 6 (b.sorts.map eSo)), .d (.sl 6 (b.cons.map eCo)), .d (.int .i64 b.elim)] false⟩ ∧ st.s 10 = .d (.sl 7 (l.map eAr)) ∧ st.s 11 = .d (.int .i64 l.length) ∧ st.s 12 = .d (.int .i64 i) ∧
    ∀ (j : Nat) (hj : j < l.length), j < i → argM b l[j] j = true) ?_ ?_
  · simp -dsimp
  · rintro i ⟨s, hp⟩ hi ⟨g1, g2, g3, g4, g5, g6⟩
    dsimp only at g1 g2 g3 g4 g5
    rcases Nat.lt_or_ge i l.length with hlt | hge
    · have w1 : IntKind.i64.wrap ((i : Int) + 1) = (i : Int) + 1 := wrap_id (by omega) (by omega)
      simp -dsimp [g1, g2, g3, g4, g5, hlt, eAr, cAr, cT, eTs]
      refine call_of (arg_ok b l[i] i) ?_
      simp -dsimp [g1, g2, g3, g4, g5, hlt]
      (first | refine Ask_b ?_ ?_ | refine Cnd_b ?_ ?_) <;> intro h6 <;> (try simp only [nrm] at h6) <;> simp -dsimp [h6, g1, g2, g3, g4, g5, hlt, w1]
      · exact allI_not (p := fun i a => argM b a i) hlt h6
      · exact allI_next (p := fun i a => argM b a i) hlt g6 h6
    · have e : i = l.length := by omega
      subst e
      simp -dsimp [g1, g2, g3, g4, g5, allI_all (p := fun i a => argM b a i) g6]
def sortBad (k : Int) (s : So) (a : Ar) : Bool := if a.rc then if 0 < (a.dom.length : Int) then true else if k ≤ a.sort then true else s.dec else false
theorem sort1_ok (k : Int) (s : So) (a : Ar) : Pure Tryz.prog n_shape_sort_1 [.agg (cAr a), .rp [.int .i64 k], .rp (cSo s)] [.bool (sortBad k s a)] := by
  refine p_shape_sort_1 rfl fun hs => ?_
  cases hr : a.rc with
  | false =>
    simp -dsimp [x_shape_sort_1, cAr, cSo, cT, eTs, eArs, hr, sortBad]
  | true =>
    simp -dsimp [x_shape_sort_1, cAr, cSo, cT, eTs, eArs, hr]
    (first | refine Ask_b ?_ ?_ | refine Cnd_b ?_ ?_) <;> intro h1 <;> (try simp only [nrm] at h1) <;> simp -dsimp [h1, sortBad, hr]
    (first | refine Ask_b ?_ ?_ | refine Cnd_b ?_ ?_) <;> intro h2 <;> (try simp only [nrm] at h2) <;> simp -dsimp [h2, sortBad, hr, h1]
def levelM (n : Int) : Bool := decide (0 ≤ n) && decide (n ≤ 6)
def sortM (b : Bl) (k : Nat) (s : So) : Bool :=
  if rowM b s.idx then if levelM s.level then if maybeM s.dec s.dty s.idx.length then !s.idx.any (sortBad k s) else false else false else false
theorem sort_ok (b : Bl) (k : Nat) (hk : k < b.sorts.length) : Pure Tryz.prog n_shape_sort [eBl b, .int .i64 k] [.bool (sortM b k b.sorts[k])] := by
  refine p_shape_sort rfl fun hs => ?_
  simp -dsimp [x_shape_sort, eBl, cBl, eSos, eCos, hk, eSo, cSo, cT, eArs]
  refine call_of (row_ok b b.sorts[k].idx) ?_
  simp -dsimp
  (first | refine Ask_b ?_ ?_ | refine Cnd_b ?_ ?_) <;> intro h1 <;> (try simp only [nrm] at h1) <;> simp -dsimp [h1, sortM]
  refine call_of (rs := [.bool (levelM b.sorts[k].level)]) (level_ok b.sorts[k].level) ?_
  simp -dsimp [h1]
  (first | refine Ask_b ?_ ?_ | refine Cnd_b ?_ ?_) <;> intro h2 <;> (try simp only [nrm] at h2) <;> simp -dsimp [h2, sortM, h1]
  refine call_of (maybe_ok b.sorts[k].dec b.sorts[k].dty b.sorts[k].idx.length) ?_
  simp -dsimp [h1, h2]
  (first | refine Ask_b ?_ ?_ | refine Cnd_b ?_ ?_) <;> intro h3 <;> (try simp only [nrm] at h3) <;> simp -dsimp [h3, sortM, h1, h2]
  refine call_of (containsFunc_Arg b.sorts[k].idx n_shape_sort_1 [.rp [.int .i64 k], .rp (cSo b.sorts[k])] (sortBad k b.sorts[k]) (fun x _ => sort1_ok k _ x)) ?_
  simp -dsimp [sortM, h1, h2, h3]
def conM (b : Bl) (c : Co) : Bool :=
  if c.sort < 0 then false else if rowM b c.args then match b.sorts[c.sort.toNat]? with
  | none => false
  | some s => if (c.idx.length : Int) = (s.idx.length : Int) then if allM c.idx c.args.length then maybeM s.dec c.dec c.args.length else false else false
  else false
theorem con_ok (b : Bl) (c : Co) : Pure Tryz.prog n_shape_con [eBl b, eCo c] [.bool (conM b c)] := by
  refine p_shape_con rfl fun hs => ?_
  simp -dsimp [x_shape_con, eBl, cBl, eSos, eCos, eCo, cCo, cT, eArs, eTs]
  (first | refine Ask_b ?_ ?_ | refine Cnd_b ?_ ?_) <;> intro h1 <;> (try simp only [nrm] at h1) <;> simp -dsimp [h1, conM]
  (first | refine Ask_b ?_ ?_ | refine Cnd_b ?_ ?_) <;> intro h2 <;> (try simp only [nrm] at h2) <;> simp -dsimp [h2, conM, h1]
  · have : b.sorts[c.sort.toNat]? = none := List.getElem?_eq_none (by omega)
    simp [this]
  refine call_of (row_ok b c.args) ?_
  have hlt : c.sort.toNat < b.sorts.length := by omega
  have h0 : 0 ≤ c.sort := by omega
  simp -dsimp [h1, h2]
  (first | refine Ask_b ?_ ?_ | refine Cnd_b ?_ ?_) <;> intro h3 <;> (try simp only [nrm] at h3) <;> simp -dsimp [h3, conM, h1, h2]
  have hA : conM b c = if (c.idx.length : Int) = (b.sorts[c.sort.toNat].idx.length : Int) then if allM c.idx c.args.length then maybeM b.sorts[c.sort.toNat].dec c.dec c.args.length else false else false := by
    simp [conM, h1, h3, hlt]
  simp -dsimp [h1, h2, h3, hlt, h0, eSo, cSo, eArs, cT, eTs]
  (first | refine Ask_b ?_ ?_ | refine Cnd_b ?_ ?_) <;> intro h4 <;> (try simp only [nrm] at h4) <;> simp -dsimp [h4, h1, h2, h3, hlt, h0, eSo, cSo, eArs, cT]
  · refine call_of (all_ok c.idx _) ?_
    simp -dsimp [h4]
    (first | refine Ask_b ?_ ?_ | refine Cnd_b ?_ ?_) <;> intro h5 <;> (try simp only [nrm] at h5) <;> simp -dsimp [h5, h4]
    · refine call_of (maybe_ok _ c.dec _) ?_
      simp -dsimp [h4, h5, hA]
    · rw [hA, if_pos h4, h5]; rfl
  · rw [hA, if_neg h4]
theorem check1_ok (b : Bl) (c : Co) : Pure Tryz.prog n_shape_Check_1 [eCo c, .rp (cBl b)] [.bool (!conM b c)] := by
  refine p_shape_Check_1 rfl fun hs => ?_
  simp -dsimp [x_shape_Check_1, cBl, eSos, eCos, eCo, cCo, cT, eArs, eTs]
  refine call_of (con_ok b c) ?_
  simp -dsimp
def checkB (b : Bl) : Int :=
  if (b.sorts.length : Int) < 1 then 12 else if 4 < (b.sorts.length : Int) then 12 else if 8 < (b.cons.length : Int) then 12 else if levelM b.elim then
    if allI (fun k s => sortM b k s) 0 b.sorts then if b.cons.any fun c => !conM b c then 12 else 0 else 12
  else 12
theorem checkB_ok (b : Bl) : Pure Tryz.prog n_shape_Check [eBl b] [.int .i64 (checkB b)] := by
  refine p_shape_Check rfl fun hs => ?_
  simp -dsimp [x_shape_Check, eBl, cBl, eSos, eCos]
  (first | refine Ask_b ?_ ?_ | refine Cnd_b ?_ ?_) <;> intro h1 <;> (try simp only [nrm] at h1) <;> simp -dsimp [h1, checkB]
  (first | refine Ask_b ?_ ?_ | refine Cnd_b ?_ ?_) <;> intro h2 <;> (try simp only [nrm] at h2) <;> simp -dsimp [h2, checkB, h1]
  (first | refine Ask_b ?_ ?_ | refine Cnd_b ?_ ?_) <;> intro h3 <;> (try simp only [nrm] at h3) <;> simp -dsimp [h3, checkB, h1, h2]
  refine call_of (rs := [.bool (levelM b.elim)]) (level_ok b.elim) ?_
  simp -dsimp [h1, h2, h3]
  (first | refine Ask_b ?_ ?_ | refine Cnd_b ?_ ?_) <;> intro h4 <;> (try simp only [nrm] at h4) <;> simp -dsimp [h4, checkB, h1, h2, h3]
  have hl : b.sorts.length ≤ 4 := by omega
  have hC : checkB b = if allI (fun k s => sortM b k s) 0 b.sorts then if b.cons.any fun c => !conM b c then 12 else 0 else 12 := by
    rw [checkB, if_neg h1, if_neg h2, if_neg h3, if_pos h4]
  rw [hC]
  refine wp_upto b.sorts.length (fun i st => st.s 1 = .ptr 1 1 0 ∧ st.h 1 = ⟨1, .box [.d (.sl 6 (b.sorts.map eSo)), .d (.sl 6 (b.cons.map eCo)), .d (.int .i64 b.elim)] false⟩ ∧ st.s 28 = .d (.int .i64 b.sorts.length) ∧ st.s 29 = .d (.int .i64 i) ∧
    ∀ (j : Nat) (hj : j < b.sorts.length), j < i → sortM b j b.sorts[j] = true) ?_ ?_
  · simp -dsimp
  · rintro i ⟨s, hp⟩ hi ⟨g1, g2, g3, g4, g5⟩
    dsimp only at g1 g2 g3 g4
    rcases Nat.lt_or_ge i b.sorts.length with hlt | hge
    · have w1 : IntKind.i64.wrap ((i : Int) + 1) = (i : Int) + 1 := wrap_id (by omega) (by omega)
      simp -dsimp [g1, g2, g3, g4, hlt]
      refine call_of (sort_ok b i hlt) ?_
      simp -dsimp [g1, g2, g3, g4, hlt]
      (first | refine Ask_b ?_ ?_ | refine Cnd_b ?_ ?_) <;> intro h6 <;> (try simp only [nrm] at h6) <;> simp -dsimp [h6, g1, g2, g3, g4, hlt, w1]
      · intro h
        rw [allI_not (p := fun k s => sortM b k s) hlt h6] at h
        cases h
      · exact allI_next (p := fun k s => sortM b k s) hlt g5 h6
    · have e : i = b.sorts.length := by omega
      subst e
      have hA : allI (fun k s => sortM b k s) 0 b.sorts = true := allI_all (p := fun k s => sortM b k s) g5
      simp -dsimp [g1, g2, g3, g4, hA]
      refine call_of (containsFunc_Con b.cons n_shape_Check_1 [.rp (cBl b)] (fun c => !conM b c) (fun x _ => check1_ok b x)) ?_
      simp -dsimp [g1, g2, g3, g4]
      (first | refine Ask_b ?_ ?_ | refine Cnd_b ?_ ?_) <;> intro h7 <;> (try simp only [nrm] at h7) <;> simp -dsimp [h7, g1, g2, g3, g4, hA]
end
section
attribute [local simp] allD_map_d sks_map_d w64 tk tn tks initA EndsM
end
section
attribute [local simp] allD_map_d sks_map_d tk tn tks initA EndsM
structure Fit (b : Bl) : Prop where
  s : b.sorts.length ≤ 10
  c : b.cons.length ≤ 20
end
section
attribute [local simp] allD_map_d sks_map_d tk tn tks initA EndsM
theorem off {b : Bl} {base : Int} (h : ¬(0 ≤ base ∧ base ≤ 65535)) (k : Int) : former b base k = -1 ∧ decoder b base k = -1 ∧ constructor_ b base k = -1 ∧ eliminator b base k = -1 := by
  refine ⟨?_, ?_, ?_, ?_⟩
  · rw [former, place, if_pos (by omega)]
  · rw [decoder]
    split
    · rfl
    · split
      · rfl
      · split
        · rw [place, if_pos (by omega)]
        · rfl
  · rw [constructor_, place, if_pos (by omega)]
  · rw [eliminator, place, if_pos (by omega)]
end
section
attribute [local simp] allD_map_d sks_map_d tk tn tks initA EndsM
end
end
section
attribute [local simp] allD_map_d sks_map_d tk tn tks initA EndsM
theorem put_own (b : List Int) (t : T) (hb : b.length ≤ 100000000) (hn : nodes t ≤ 100000000) (hc : checkM t = 0) : OwnC Tryz.prog n_pack_Put [eB b, .agg (cT t)] [.one (.row 1 ((b ++ pk t).map (.int .u8)) false), .one (.d (.int .i64 0))] := by
  refine own_small hm Tryz.func55 c_pack_Put rfl fun hs => ?_
  simp -dsimp [x_pack_Put, cT, eB]
  have hC := check_ok t
  simp only [cT, hc] at hC
  refine call_of hC ?_
  simp -dsimp
  have hCl := clone_ok b (by omega)
  simp only [eB] at hCl
  refine callO_of hCl (by simp [rowsV, rowsC, RV.cells]) ?_
  simp -dsimp
  have hA := agg_argO (pre := [.rsl 13 1]) (post := []) (add_ok t 13 1 b false (by omega) (by omega))
  simp only [cT, List.map_cons, List.map_nil, List.cons_append, List.nil_append] at hA
  refine callMO_of hA ?_ (by simp [rowsV, rowsC, RV.cells]) ?_
  · simp -dsimp [kH]
  · simp -dsimp [mergeK_cons, mergeK_nil, dH]
theorem w_over (q vb v : Nat) (l : List Int) (nil : Bool) (hq : q ≠ 26) : ∀ k ∈ [26, q], OverB [26, q] (wH q vb v l nil k).body := fun k hk => by
  simp only [List.mem_cons, List.not_mem_nil, or_false] at hk
  rcases hk with rfl | rfl
  · rw [wH_box]
    intro c hc
    simp only [List.mem_singleton] at hc
    subst hc
    cases nil with
    | true => exact .fsl _ _
    | false => exact .rsl _ _ (by simp)
  · rw [wH_row hq]
    cases nil <;> trivial
theorem num_nil (vb v : Nat) (n : Int) : MutC Tryz.prog n_pile_writer_num [.ptr 26 vb 0, .d (.int .i64 n)] [26, 3001] (wH 3001 vb v [] true) [] (wH 3001 vb (v + 2) [u8 n] false) := by
  have r1 : 1 ≤ maxRoom := by simp only [maxRoom]; omega
  refine w_perm (ds := [.int .i64 n]) (q := 12) (by decide) (by decide) ?_
  refine mut_of hm Tryz.func27 c_pile_writer_num rfl (w_over _ _ _ _ _ (by decide)) fun G h w vs hh _ _ => ?_
  have h1 := hh 26 (by simp)
  have h2 := hh 12 (by simp)
  rw [wH_box] at h1
  rw [wH_row (by decide)] at h2
  simp -dsimp [x_pile_writer_num, h1, h2, wH, u8, r1]
theorem num_3001 (vb v : Nat) (l : List Int) (n : Int) (hl : l.length ≤ 1000000000) : MutC Tryz.prog n_pile_writer_num [.ptr 26 vb 0, .d (.int .i64 n)] [26, 3001] (wH 3001 vb v l false) [] (wH 3001 vb (v + 1) (l ++ [u8 n]) false) := by
  have r1 : l.length + 1 ≤ maxRoom := by simp only [maxRoom]; omega
  refine mut_of hm Tryz.func27 c_pile_writer_num rfl (w_over _ _ _ _ _ (by decide)) fun G h w vs hh _ _ => ?_
  have h1 := hh 26 (by simp)
  have h2 := hh 3001 (by simp)
  rw [wH_box] at h1
  rw [wH_row (by decide)] at h2
  simp -dsimp [x_pile_writer_num, h1, h2, wH, u8, r1]
def pkO (t : T) : List Int := if noneM t = true then [0] else pk t
theorem term_w (vb v : Nat) (l : List Int) (t : T) (hl : l.length ≤ 50000000) (hn : nodes t ≤ 50000000) (hc : noneM t = true ∨ checkM t = 0) : MutC Tryz.prog n_pile_writer_term [.ptr 26 vb 0, .d (.agg (cT t))] [26, 3001] (wH 3001 vb v l false) [] (wH 3001 vb (v + 1) (l ++ pkO t) false) := by
  cases hN : noneM t with
  | true =>
    refine mut_of hm Tryz.func28 c_pile_writer_term rfl (w_over _ _ _ _ _ (by decide)) fun G h w vs hh _ _ => ?_
    have h1 := hh 26 (by simp)
    have h2 := hh 3001 (by simp)
    rw [wH_box] at h1
    rw [wH_row (by decide)] at h2
    have hNo := none_ok t
    simp only [cT, hN] at hNo
    have hU := num_3001 vb v l 0 (by omega)
    simp -dsimp [x_pile_writer_term, h1, h2, cT]
    refine call_of hNo ?_
    simp -dsimp [h1, h2]
    refine callM_of hU ?_ ?_
    · simp -dsimp [h1, h2, wH]
    · simp -dsimp [mergeK_cons, mergeK_nil, wH, pkO, hN, u8]
      rfl
  | false =>
    have hc0 : checkM t = 0 := by rcases hc with h | h; rw [hN] at h; cases h; exact h
    refine w_perm (ds := [.agg (cT t)]) (q := 15) (by decide) (by decide) ?_
    refine mut_of hm Tryz.func28 c_pile_writer_term rfl (w_over _ _ _ _ _ (by decide)) fun G h w vs hh _ _ => ?_
    have h1 := hh 26 (by simp)
    have h2 := hh 15 (by simp)
    rw [wH_box] at h1
    rw [wH_row (by decide)] at h2
    have hNo := none_ok t
    simp only [cT, hN] at hNo
    have hP := put_own l t (by omega) (by omega) hc0
    simp only [cT, eB] at hP
    simp -dsimp [x_pile_writer_term, h1, h2, cT]
    refine call_of hNo ?_
    simp -dsimp [h1, h2]
    refine callO_of hP (by simp [rowsV, rowsC, RV.cells]) ?_
    simp -dsimp [h1, h2, wH, pkO, hN]
end
section
attribute [local simp] allD_map_d sks_map_d tk tn tks initA EndsM
def Wr (g : FuncId) (ds : List D) (ws : List (List Int)) : Prop := ∀ (vb v : Nat) (l : List Int), l.length + ws.flatten.length ≤ 50000000 → MutC Tryz.prog g (.ptr 26 vb 0 :: ds.map .d) [26, 3001] (wH 3001 vb v l false) [] (wH 3001 vb (v + ws.length) (l ++ ws.flatten) false)
theorem num_wr (n : Int) : Wr n_pile_writer_num [.int .i64 n] [[u8 n]] := fun vb v l hl => by
  have := num_3001 vb v l n (by simp at hl; omega)
  simpa using this
theorem term_wr (t : T) (hn : nodes t ≤ 50000000) (hc : noneM t = true ∨ checkM t = 0) : Wr n_pile_writer_term [.agg (cT t)] [pkO t] := fun vb v l hl => by
  have := term_w vb v l t (by simp at hl; omega) hn hc
  simpa using this
theorem wr_of {f : FuncId} {fn : Func} {x : XFn} (hf : Tryz.prog.funcs[f]? = some fn) (hx : cfn Tryz.prog fn = some x) {ds : List D} {ws : List (List Int)} (hl : ds.length + 1 = x.np)
    (hw : ∀ (vb v : Nat) (b : List Int) (h : Nat → Ent), b.length + ws.flatten.length ≤ 50000000 → h 26 = ⟨vb, .box [.rsl 3001 v] false⟩ → h 3001 = ⟨v, .row 1 (b.map (.int .u8)) false⟩ → (∀ d ∈ ds, small 8 d) → wpX Tryz.prog x.code (EndsM x.res [] [26, 3001] (wH 3001 vb (v + ws.length) (b ++ ws.flatten) false)) ⟨initA (.ptr 26 vb 0 :: ds.map .d), h⟩) : Wr f ds ws := fun vb v b hb => by
  refine mut_of hm hf hx (by simpa using hl) (w_over _ _ _ _ _ (by decide)) fun G h w vs hh hlen hr => ?_
  have h1 := hh 26 (by simp)
  have h2 := hh 3001 (by simp)
  rw [wH_box] at h1
  rw [wH_row (by decide)] at h2
  refine hw vb v b h hb (by simpa using h1) (by simpa using h2) fun d hd => ?_
  obtain ⟨j, hj⟩ := List.mem_iff_getElem?.1 hd
  have := hr (j + 1) (.d d) (by simp [hj])
  exact this.d_inv.small 8
theorem wr_call {g : FuncId} {ds : List D} {ws : List (List Int)} (hW : Wr g ds ws) (vb v v' : Nat) (l l' : List Int) {aa : List AV} {dd : Option (List D)} {s : Nat → AV} {h : Nat → Ent} {d : Option Nat} {K : S → Prop} (has : aa = .ptr 26 vb 0 :: ds.map .d) (hl : l'.length ≤ 50000000) (hv : v' = v + ws.length) (hl' : l' = l ++ ws.flatten)
    (h1 : h 26 = ⟨vb, .box [.rsl 3001 v] false⟩) (h2 : h 3001 = ⟨v, .row 1 (l.map (.int .u8)) false⟩)
    (hk : K ⟨putS s d (resA []), upd (upd h 3001 ⟨v', .row 1 (l'.map (.int .u8)) false⟩) 26 ⟨vb, .box [.rsl 3001 v'] false⟩⟩) : runC Tryz.prog (some (g, [])) aa dd [26, 3001] s h d K (by exact ()) (by exact ()) (by exact ()) := by
  subst has hv hl'
  refine callM_of (hW vb v l (by simpa using hl)) (fun k hk => ?_) ?_
  · simp only [List.mem_cons, List.not_mem_nil, or_false] at hk
    rcases hk with rfl | rfl
    · rw [h1]; rfl
    · rw [h2]; rfl
  · rw [mergeK_cons, mergeK_cons, mergeK_nil]
    exact hk
theorem wr_callA {g : FuncId} {cs : List D} {ws : List (List Int)} (hW : Wr g [.agg cs] ws) (vb v v' : Nat) (l l' : List Int) {aa : List AV} {dd : Option (List D)} {s : Nat → AV} {h : Nat → Ent} {d : Option Nat} {K : S → Prop} (has : aa = [.ptr 26 vb 0, .agg (cs.map .d)]) (hl : l'.length ≤ 50000000) (hv : v' = v + ws.length) (hl' : l' = l ++ ws.flatten)
    (h1 : h 26 = ⟨vb, .box [.rsl 3001 v] false⟩) (h2 : h 3001 = ⟨v, .row 1 (l.map (.int .u8)) false⟩)
    (hk : K ⟨putS s d (resA []), upd (upd h 3001 ⟨v', .row 1 (l'.map (.int .u8)) false⟩) 26 ⟨vb, .box [.rsl 3001 v'] false⟩⟩) : runC Tryz.prog (some (g, [])) aa dd [26, 3001] s h d K (by exact ()) (by exact ()) (by exact ()) := by
  subst has hv hl'
  refine callM_of (agg_arg (pre := [.ptr 26 vb 0]) (post := []) (hW vb v l (by simpa using hl))) (fun k hk => ?_) ?_
  · simp only [List.mem_cons, List.not_mem_nil, or_false] at hk
    rcases hk with rfl | rfl
    · rw [h1]; rfl
    · rw [h2]; rfl
  · rw [mergeK_cons, mergeK_cons, mergeK_nil]
    exact hk
theorem flag_wr (is : Bool) : Wr n_pile_writer_flag [.bool is] [[if is then 1 else 0]] := by
  refine wr_of Tryz.func57 c_pile_writer_flag rfl fun vb v b h hl h1 h2 _ => ?_
  simp at hl
  cases is
  · simp -dsimp [x_pile_writer_flag, h1, h2]
    refine wr_call (num_wr 0) vb v (v + 1) b (b ++ [0]) rfl (by simp; omega) rfl rfl h1 h2 ?_
    simp -dsimp [wH]
  · simp -dsimp [x_pile_writer_flag, h1, h2]
    refine wr_call (num_wr 1) vb v (v + 1) b (b ++ [1]) rfl (by simp; omega) rfl rfl h1 h2 ?_
    simp -dsimp [wH]
def okW (t : T) : Prop := nodes t ≤ 50000000 ∧ (noneM t = true ∨ checkM t = 0)
def before {α : Type} (f : α → List (List Int)) (l : List α) (i : Nat) : List (List Int) := ((l.take i).map f).flatten
theorem before_zero {α : Type} (f : α → List (List Int)) (l : List α) : before f l 0 = [] := rfl
theorem before_all {α : Type} (f : α → List (List Int)) (l : List α) : before f l l.length = (l.map f).flatten := by rw [before, List.take_length]
theorem before_next {α : Type} (f : α → List (List Int)) (l : List α) {i : Nat} (h : i < l.length) : before f l (i + 1) = before f l i ++ f l[i] := by
  rw [before, before, List.take_succ_eq_append_getElem h, List.map_append, List.flatten_append]; simp
theorem before_le {α : Type} (f : α → List (List Int)) (l : List α) (i : Nat) : (before f l i).flatten.length ≤ (l.map f).flatten.flatten.length := by
  have e : (l.map f).flatten = before f l i ++ ((l.drop i).map f).flatten := by rw [before, ← List.flatten_append, ← List.map_append, List.take_append_drop]
  rw [e, List.flatten_append, List.length_append]
  exact Nat.le_add_right _ _
def rowW (l : List T) : List (List Int) := [u8 l.length] :: (l.map fun t => [pkO t]).flatten
theorem row_wr (l : List T) (ho : ∀ t ∈ l, okW t) : Wr n_pile_writer_row [eTs l] (rowW l) := by
  refine wr_of Tryz.func58 c_pile_writer_row rfl fun vb v b h hl h1 h2 hs => ?_
  have hln := hs (eTs l) (by simp)
  simp [eTs, small] at hln
  replace hln := hln.1
  simp only [rowW, List.flatten_cons, List.length_append, List.length_cons, List.length_nil] at hl
  have hle := before_le (fun t => [pkO t]) l
  simp -dsimp [x_pile_writer_row, h1, h2, eTs]
  refine wr_call (num_wr l.length) vb v (v + 1) b (b ++ [u8 l.length]) rfl (by simp; omega) rfl rfl h1 h2 ?_
  simp -dsimp
  refine wp_upto l.length (fun i st => st.s 0 = .ptr 26 vb 0 ∧ st.s 10 = .d (.sl 3 (l.map eT)) ∧ st.s 11 = .d (.int .i64 l.length) ∧ st.s 12 = .d (.int .i64 i) ∧
    ∃ P, P = before (fun t => [pkO t]) l i ∧ st.h 26 = ⟨vb, .box [.rsl 3001 (v + 1 + P.length)] false⟩ ∧ st.h 3001 = ⟨v + 1 + P.length, .row 1 ((b ++ [u8 l.length] ++ P.flatten).map (.int .u8)) false⟩) ?_ ?_
  · simp -dsimp [before_zero]
  · rintro i ⟨s, hp⟩ hi ⟨e1, e2, e3, e4, P, eP, e5, e6⟩
    dsimp only at e1 e2 e3 e4 e5 e6
    rcases Nat.lt_or_ge i l.length with hlt | hge
    · have w1 : IntKind.i64.wrap ((i : Int) + 1) = (i : Int) + 1 := wrap_id (by omega) (by omega)
      obtain ⟨o1, o2⟩ := ho l[i] (List.getElem_mem _)
      have hnx := before_next (fun t => [pkO t]) l hlt
      have hle1 := hle (i + 1)
      rw [← eP] at hnx
      generalize before (fun t => [pkO t]) l (i + 1) = P' at *
      subst hnx
      simp only [List.flatten_append, List.length_append, List.flatten_cons, List.flatten_nil, List.length_nil] at hle1
      simp -dsimp [e1, e2, e3, e4, e5, e6, hlt, eT_eq, cT]
      refine wr_callA (term_wr l[i] o1 o2) vb (v + 1 + P.length) (v + 1 + (P.length + 1)) (b ++ [u8 l.length] ++ P.flatten) (b ++ [u8 l.length] ++ P.flatten ++ pkO l[i]) rfl (by simp only [List.length_append, List.length_cons, List.length_nil]; omega) (by simp; omega) (by simp) (by simp -dsimp [e5]) (by simp -dsimp [e6]) ?_
      simp -dsimp [e1, e2, e3, e4, hlt, w1]
    · have e : i = l.length := by omega
      subst e
      rw [before_all] at eP
      subst eP
      simp -dsimp [e1, e2, e3, e4, e5, e6, wH, rowW, Nat.add_assoc, Nat.add_comm 1]
end
section
attribute [local simp] allD_map_d sks_map_d tk tn tks initA EndsM
structure De where
  kind : Int
  ty : T
  body : T
  bl : Bl
def cDe (d : De) : List D := .int .i64 d.kind :: (cT d.ty ++ (cT d.body ++ cBl d.bl))
def eDe (d : De) : D := .agg (cDe d)
def eDes (l : List De) : D := .sl 10 (l.map eDe)
theorem eqf_Sort (l : List So) (g : FuncId) : Pure Tryz.prog n_slices_EqualFunc_Sort [eSos l, .sl 6 [], .clo g []] [.bool (decide (l.length = 0))] := by
  refine p_slices_EqualFunc_Sort rfl fun hs => ?_
  cases l with
  | nil =>
    simp -dsimp [x_slices_EqualFunc_Sort, eSos]
    refine wp_upto 0 (fun i st => st.s 16 = .d (.int .i64 0) ∧ st.s 17 = .d (.int .i64 0)) ?_ ?_
    · simp -dsimp
    · rintro i ⟨s, hp⟩ hi ⟨e1, e2⟩
      dsimp only at e1 e2
      simp -dsimp [e1, e2]
  | cons a l =>
    have g : ¬ ((l.length : Int) + 1 = 0) := by omega
    simp -dsimp [x_slices_EqualFunc_Sort, eSos, g]
theorem eqf_Con (l : List Co) (g : FuncId) : Pure Tryz.prog n_slices_EqualFunc_Con [eCos l, .sl 6 [], .clo g []] [.bool (decide (l.length = 0))] := by
  refine p_slices_EqualFunc_Con rfl fun hs => ?_
  cases l with
  | nil =>
    simp -dsimp [x_slices_EqualFunc_Con, eCos]
    refine wp_upto 0 (fun i st => st.s 16 = .d (.int .i64 0) ∧ st.s 17 = .d (.int .i64 0)) ?_ ?_
    · simp -dsimp
    · rintro i ⟨s, hp⟩ hi ⟨e1, e2⟩
      dsimp only at e1 e2
      simp -dsimp [e1, e2]
  | cons a l =>
    have g : ¬ ((l.length : Int) + 1 = 0) := by omega
    simp -dsimp [x_slices_EqualFunc_Con, eCos, g]
def plainB (b : Bl) : Bool := if b.sorts.length = 0 then if b.elim = 0 then decide (b.cons.length = 0) else false else false
theorem same0_ok (b : Bl) : Pure Tryz.prog n_shape_Same [eBl b, .agg [.sl 6 [], .sl 6 [], .int .i64 0]] [.bool (plainB b)] := by
  refine p_shape_Same rfl fun hs => ?_
  simp -dsimp [x_shape_Same, eBl, cBl, eSos, eCos]
  have h1 := eqf_Sort b.sorts n_shape_Same_1
  have h2 := eqf_Con b.cons n_shape_Same_2
  simp only [eSos, eCos] at h1 h2
  refine call_of h1 ?_
  by_cases g1 : b.sorts.length = 0
  case neg => simp -dsimp [g1, plainB]
  by_cases g2 : b.elim = 0
  case neg => simp -dsimp [g1, g2, plainB]
  simp -dsimp [g1, g2]
  refine call_of h2 ?_
  simp -dsimp [g1, g2, plainB]
theorem plain_ok (d : De) : Pure Tryz.prog n_pile_plain [eDe d] [.bool (plainB d.bl)] := by
  refine p_pile_plain rfl fun hs => ?_
  have h1 := same0_ok d.bl
  simp only [eBl, cBl, eSos, eCos] at h1
  simp -dsimp [x_pile_plain, eDe, cDe, cT, cBl, eSos, eCos]
  refine call_of h1 ?_
  simp -dsimp
def rightM (d : De) : Bool :=
  if d.kind = 1 then if checkM d.ty = 0 then if noneM d.body then plainB d.bl else false else false
  else if d.kind = 2 then if checkM d.ty = 0 then if checkM d.body = 0 then plainB d.bl else false else false
  else if d.kind = 3 then if noneM d.ty then if noneM d.body then decide (checkB d.bl = 0) else false else false
  else false
theorem right_ok (d : De) : Pure Tryz.prog n_pile_right [eDe d] [.bool (rightM d)] := by
  refine p_pile_right rfl fun hs => ?_
  have hP := plain_ok d
  have hC := check_ok d.ty
  have hC2 := check_ok d.body
  have hN := none_ok d.ty
  have hN2 := none_ok d.body
  have hB := checkB_ok d.bl
  simp only [eDe, cDe, cT, cBl, eSos, eCos, eBl, List.cons_append, List.nil_append] at hP hC hC2 hN hN2 hB
  simp -dsimp [x_pile_right, eDe, cDe, cT, cBl, eSos, eCos]
  by_cases k1 : d.kind = 1
  · simp -dsimp [k1]
    rw [k1] at hP
    refine call_of hC ?_
    by_cases g1 : checkM d.ty = 0
    case neg => simp -dsimp [g1, rightM, k1]
    simp -dsimp [g1]
    refine call_of hN2 ?_
    cases g2 : noneM d.body
    case false => simp -dsimp [g1, g2, rightM, k1]
    simp -dsimp [g2]
    refine call_of hP ?_
    simp -dsimp [g1, g2, rightM, k1]
  · by_cases k2 : d.kind = 2
    · simp -dsimp [k1, k2]
      rw [k2] at hP
      refine call_of hC ?_
      by_cases g1 : checkM d.ty = 0
      case neg => simp -dsimp [g1, rightM, k2]
      simp -dsimp [g1]
      refine call_of hC2 ?_
      by_cases g2 : checkM d.body = 0
      case neg => simp -dsimp [g1, g2, rightM, k2]
      simp -dsimp [g2]
      refine call_of hP ?_
      simp -dsimp [g1, g2, rightM, k2]
    · by_cases k3 : d.kind = 3
      · simp -dsimp [k1, k2, k3]
        refine call_of hN ?_
        cases g1 : noneM d.ty
        case false => simp -dsimp [g1, rightM, k3]
        simp -dsimp [g1]
        refine call_of hN2 ?_
        cases g2 : noneM d.body
        case false => simp -dsimp [g1, g2, rightM, k3]
        simp -dsimp [g2]
        refine call_of hB ?_
        by_cases g3 : checkB d.bl = 0 <;> simp -dsimp [g1, g2, g3, rightM, k3]
      · simp -dsimp [k1, k2, k3, rightM]
theorem checkD_ok (d : De) : Pure Tryz.prog n_pile_Check [eDe d] [.int .i64 (if rightM d then 0 else 12)] := by
  refine p_pile_Check rfl fun hs => ?_
  have h1 := right_ok d
  simp only [eDe, cDe, cT, cBl, eSos, eCos, List.cons_append, List.nil_append] at h1
  simp -dsimp [x_pile_Check, eDe, cDe, cT, cBl, eSos, eCos]
  refine call_of h1 ?_
  cases rightM d <;> simp -dsimp
end
section
attribute [local simp] allD_map_d sks_map_d tk tn tks initA EndsM
def declW (bw : Bl → List (List Int)) (d : De) : List (List Int) := [u8 d.kind] :: (if d.kind = 1 then [pkO d.ty] else if d.kind = 2 then [pkO d.ty, pkO d.body] else bw d.bl)
def putW (bw : Bl → List (List Int)) (l : List De) : List Int := u8 l.length :: (l.map (declW bw)).flatten.flatten
def badD (l : List De) : Bool := l.any fun d => !rightM d
def putL (bw : Bl → List (List Int)) (l : List De) : List Int := if 60 < (l.length : Int) then [] else if badD l then [] else if 65536 < ((putW bw l).length : Int) then [] else putW bw l
def putE (bw : Bl → List (List Int)) (l : List De) : Int := if 60 < (l.length : Int) then 2 else if badD l then 12 else if 65536 < ((putW bw l).length : Int) then 4 else 0
set_option maxHeartbeats 4000000 in
theorem putD_ok (bw : Bl → List (List Int)) (l : List De) (hn : badD l = false → ∀ d ∈ l, nodes d.ty ≤ 50000000 ∧ nodes d.body ≤ 50000000)
    (hB : ∀ d ∈ l, rightM d = true → d.kind ≠ 1 → d.kind ≠ 2 → Wr n_pile_writer_block [eBl d.bl] (bw d.bl)) (hlen : l.length ≤ 60 → badD l = false → (putW bw l).length ≤ 50000000) :
    Pure Tryz.prog n_pile_Put [eDes l] [eB (putL bw l), .int .i64 (putE bw l)] := by
  refine p_pile_Put rfl fun hs => ?_
  have hln := hs (eDes l) (by simp)
  simp [eDes, small] at hln
  replace hln := hln.1
  by_cases g0 : 60 < (l.length : Int)
  · simp -dsimp [x_pile_Put, eDes, g0, putL, putE, eB]
  have g0' : l.length ≤ 60 := by omega
  have hlen := hlen g0'
  simp -dsimp [x_pile_Put, eDes, g0]
  refine wp_upto l.length (fun i st => badD (l.take i) = false ∧ st.s 0 = .d (.sl 10 (l.map eDe)) ∧ st.s 13 = .d (.sl 10 (l.map eDe)) ∧ st.s 14 = .d (.int .i64 l.length) ∧ st.s 15 = .d (.int .i64 i) ∧ ∃ v3, st.h 3001 = ⟨v3, .dead⟩) ?_ ?_
  · simp -dsimp [badD]
  · rintro i ⟨s, hp⟩ hi ⟨hb, e0, e1, e2, e3, v3, e4⟩
    dsimp only at e0 e1 e2 e3 e4
    rcases Nat.lt_or_ge i l.length with hlt | hge
    · have w1 : IntKind.i64.wrap ((i : Int) + 1) = (i : Int) + 1 := wrap_id (by omega) (by omega)
      have hC := checkD_ok l[i]
      have hx := fun h : rightM l[i] = true => any_snoc (p := fun d => !rightM d) hlt hb (by simp [h])
      have hy := fun h : rightM l[i] = false => any_mem (p := fun d => !rightM d) hlt (by simp [h])
      simp only [eDe, cDe, cT, cBl, eSos, eCos, List.cons_append, List.nil_append] at hC
      simp -dsimp [e0, e1, e2, e3, e4, hlt, eDe, cDe, cT, cBl, eSos, eCos]
      refine call_of hC ?_
      cases hr : rightM l[i]
      · simp -dsimp [hr, putL, putE, g0, badD, hy hr, eB]
      · simp -dsimp [hr, e0, e1, e2, e3, e4, w1, badD, hx hr, hlt, eDe, cDe, cT, cBl, eSos, eCos]
    · have e : i = l.length := by omega
      subst e
      have hb0 : badD l = false := by rwa [List.take_length] at hb
      have hle := before_le (declW bw) l
      have hlen := hlen hb0
      have hlen2 : (l.map (declW bw)).flatten.flatten.length + 1 ≤ 50000000 := by simpa only [putW, List.length_cons] using hlen
      simp -dsimp [e0, e1, e2, e3, e4]
      generalize (hp 26).ver + 1 = vb
      refine callMK_of (num_nil vb v3 l.length) ?_ ?_ ?_
      · simp -dsimp
      · simp -dsimp [wH, e4]
      simp -dsimp [mergeK_cons, mergeK_nil, wH, e0]
      refine wp_upto l.length (fun i st => st.s 0 = .d (.sl 10 (l.map eDe)) ∧ st.s 7 = .ptr 26 vb 0 ∧ st.s 31 = .d (.sl 10 (l.map eDe)) ∧ st.s 32 = .d (.int .i64 l.length) ∧ st.s 33 = .d (.int .i64 i) ∧
        ∃ P, P = before (declW bw) l i ∧ st.h 26 = ⟨vb, .box [.rsl 3001 (v3 + 2 + P.length)] false⟩ ∧ st.h 3001 = ⟨v3 + 2 + P.length, .row 1 (([u8 l.length] ++ P.flatten).map (.int .u8)) false⟩) ?_ ?_
      · simp -dsimp [before_zero, e0]
      · rintro i ⟨s, hp⟩ hi ⟨e0, e1, e2, e3, e4, P, eP, e5, e6⟩
        dsimp only at e0 e1 e2 e3 e4 e5 e6
        rcases Nat.lt_or_ge i l.length with hlt | hge
        · have w1 : IntKind.i64.wrap ((i : Int) + 1) = (i : Int) + 1 := wrap_id (by omega) (by omega)
          have hnx := before_next (declW bw) l hlt
          have hle1 := hle (i + 1)
          rw [← eP] at hnx
          generalize before (declW bw) l (i + 1) = P' at *
          subst hnx
          have hR : rightM l[i] = true := by
            cases hr : rightM l[i]
            · exact absurd hb0 (by rw [badD, any_mem (p := fun d => !rightM d) hlt (by simp [hr])]; simp)
            · rfl
          have hBi := hB l[i] (List.getElem_mem _) hR
          obtain ⟨n1, n2⟩ := hn hb0 l[i] (List.getElem_mem _)
          obtain ⟨d, hd⟩ : ∃ d, l[i] = d := ⟨_, rfl⟩
          rw [hd] at hR hBi n1 n2 hle1
          rw [hd]
          simp only [List.flatten_append, List.length_append, List.flatten_cons, List.flatten_nil, List.length_nil, declW, List.length_cons] at hle1
          have hN := num_wr d.kind
          simp -dsimp [e0, e1, e2, e3, e4, e5, e6, hlt, hd, eDe, cDe, cT, cBl, eSos, eCos]
          refine wr_call hN vb (v3 + 2 + P.length) (v3 + 2 + P.length + 1) ([u8 l.length] ++ P.flatten) ([u8 l.length] ++ P.flatten ++ [u8 d.kind]) rfl (by simp only [List.length_append, List.length_cons, List.length_nil]; omega) (by simp) (by simp) (by simp -dsimp [e5]) (by simp -dsimp [e6]) ?_
          by_cases k1 : d.kind = 1
          · have hok : checkM d.ty = 0 := by
              by_cases g : checkM d.ty = 0
              · exact g
              · simp [rightM, k1, g] at hR
            rw [if_pos k1] at hle1
            simp only [List.length_append, List.length_cons, List.length_nil, List.flatten_cons, List.flatten_nil] at hle1
            simp -dsimp [k1, e0, e1, e2, e3, e4, e5, e6]
            refine wr_callA (term_wr d.ty n1 (.inr hok)) vb (v3 + 2 + P.length + 1) (v3 + 2 + (P ++ declW bw d).length) ([u8 l.length] ++ P.flatten ++ [u8 d.kind]) ([u8 l.length] ++ (P ++ declW bw d).flatten) rfl (by simp only [declW, if_pos k1, List.flatten_append, List.flatten_cons, List.flatten_nil, List.length_append, List.length_cons, List.length_nil]; omega) (by simp [declW, k1]; omega) (by simp [declW, k1]) (by simp -dsimp [k1]) (by simp -dsimp [k1]) ?_
            simp -dsimp [e0, e1, e2, e3, e4, hlt, w1]
          · by_cases k2 : d.kind = 2
            · have hok : checkM d.ty = 0 ∧ checkM d.body = 0 := by
                by_cases g : checkM d.ty = 0
                · by_cases g' : checkM d.body = 0
                  · exact ⟨g, g'⟩
                  · simp [rightM, k2, g'] at hR
                · simp [rightM, k2, g] at hR
              rw [if_neg k1, if_pos k2] at hle1
              simp only [List.length_append, List.length_cons, List.length_nil, List.flatten_cons, List.flatten_nil] at hle1
              simp -dsimp [k2, e0, e1, e2, e3, e4, e5, e6]
              refine wr_callA (term_wr d.ty n1 (.inr hok.1)) vb (v3 + 2 + P.length + 1) (v3 + 2 + P.length + 2) ([u8 l.length] ++ P.flatten ++ [u8 d.kind]) ([u8 l.length] ++ P.flatten ++ [u8 d.kind] ++ pkO d.ty) rfl (by simp only [List.length_append, List.length_cons, List.length_nil]; omega) (by simp) (by simp) (by simp -dsimp [k2]) (by simp -dsimp [k2]) ?_
              simp -dsimp [k2, e0, e1, e2, e3, e4, e5, e6]
              refine wr_callA (term_wr d.body n2 (.inr hok.2)) vb (v3 + 2 + P.length + 2) (v3 + 2 + (P ++ declW bw d).length) ([u8 l.length] ++ P.flatten ++ [u8 d.kind] ++ pkO d.ty) ([u8 l.length] ++ (P ++ declW bw d).flatten) rfl (by simp only [declW, if_neg k1, if_pos k2, List.flatten_append, List.flatten_cons, List.flatten_nil, List.length_append, List.length_cons, List.length_nil]; omega) (by simp [declW, k2]; omega) (by simp [declW, k2]) (by simp -dsimp [k2]) (by simp -dsimp [k2]) ?_
              simp -dsimp [e0, e1, e2, e3, e4, hlt, w1]
            · rw [if_neg k1, if_neg k2] at hle1
              simp -dsimp [k1, k2, e0, e1, e2, e3, e4, e5, e6]
              refine wr_callA (hBi k1 k2) vb (v3 + 2 + P.length + 1) (v3 + 2 + (P ++ declW bw d).length) ([u8 l.length] ++ P.flatten ++ [u8 d.kind]) ([u8 l.length] ++ (P ++ declW bw d).flatten) rfl (by simp only [declW, if_neg k1, if_neg k2, List.flatten_append, List.flatten_cons, List.flatten_nil, List.length_append, List.length_cons, List.length_nil]; omega) (by simp [declW, k1, k2]; omega) (by simp [declW, k1, k2]) (by simp -dsimp) (by simp -dsimp) ?_
              simp -dsimp [e0, e1, e2, e3, e4, hlt, w1]
        · have e : i = l.length := by omega
          subst e
          rw [before_all] at eP
          have hPW : putW bw l = u8 l.length :: P.flatten := by rw [putW, ← eP]
          generalize P.length = n at *
          generalize P.flatten = F at *
          by_cases g3 : (65536 : Int) < (F.length : Int) + 1
          · simp -dsimp [e0, e1, e2, e3, e4, e5, e6, putL, putE, g0, hb0, eB, hPW, g3]
          · simp -dsimp [e0, e1, e2, e3, e4, e5, e6, putL, putE, g0, hb0, eB, hPW, g3]
end
section
attribute [local simp] allD_map_d sks_map_d tk tn tks initA EndsM
def pH (v : Nat) (b : List Int) (p : Nat) (bd : Bool) : Nat → Ent := fun _ => ⟨v, .box [.d (.sl 1 (b.map (.int .u8))), .d (.int .i64 p), .d (.bool bd)] false⟩
theorem mutP {f : FuncId} {fn : Func} {x : XFn} (hf : Tryz.prog.funcs[f]? = some fn) (hx : cfn Tryz.prog fn = some x) {aa : List AV} {v : Nat} {b : List Int} {p q : Nat} {bd be : Bool} {rs : List D} (hl : aa.length = x.np)
    (hw : ∀ (h : Nat → Ent), h 12 = ⟨v, .box [.d (.sl 1 (b.map (.int .u8))), .d (.int .i64 p), .d (.bool bd)] false⟩ → wpX Tryz.prog x.code (EndsM x.res rs [12] (pH v b q be)) ⟨initA aa, h⟩) : MutC Tryz.prog f aa [12] (pH v b p bd) rs (pH v b q be) :=
  mut_of hm hf hx hl (fun k hk c hc => by simp [pH] at hc; rcases hc with rfl | rfl | rfl <;> exact .d _) fun G h w vs hk _ hr => hw h (hk 12 (by simp))
theorem num_rd (v : Nat) (b : List Int) (p : Nat) (n : Int) (hp : p < b.length) (hn : b[p] = n) (h0 : 0 ≤ n) (h1 : n < 256) (hb : b.length ≤ 1000000000) : MutC Tryz.prog n_pile_reader_num [.ptr 12 v 0] [12] (pH v b p false) [.int .i64 n] (pH v b (p + 1) false) := by
  refine mutP Tryz.func32 c_pile_reader_num rfl fun h hh => ?_
  have w1 : IntKind.i64.wrap ((p : Int) + 1) = (p : Int) + 1 := wrap_id (by omega) (by omega)
  have w2 : IntKind.i64.wrap (p : Int) = (p : Int) := wrap_id (by omega) (by omega)
  have hbo : b[p]? = some n := by rw [List.getElem?_eq_getElem hp, hn]
  have w3 : IntKind.i64.wrap n = n := wrap_id (by omega) (by omega)
  have g : ¬ b.length ≤ p := by omega
  have g' : ¬ (b.length : Int) ≤ p := by omega
  simp -dsimp [x_pile_reader_num, hh, g, g', w1, w2, w3, hp, hn, hbo, pH]
theorem term_rd (v : Nat) (b : List Int) (p : Nat) (t : T) (rest : List Int) (hd : b.drop p = pk t ++ rest) (hf : formedM t = true) (hn : nodes t ≤ 6000) (hdp : depthN t ≤ 200) (hb : b.length ≤ 1000000000) :
    MutC Tryz.prog n_pile_reader_term [.ptr 12 v 0] [12] (pH v b p false) [.agg (cT t)] (pH v b (p + (pk t).length) false) := by
  refine mutP Tryz.func63 c_pile_reader_term rfl fun h hh => ?_
  have hpos := pk_pos t
  have hlen : b.length - p = (pk t).length + rest.length := by
    have := congrArg List.length hd
    simpa using this
  have hp : p < b.length := by omega
  have hp0 : ∃ a, b[p] = a ∧ ¬ a = 0 := by
    have h1 : (b.drop p)[0]? = some b[p] := by simp [List.getElem?_drop, hp]
    obtain ⟨k, n, ks⟩ := t
    obtain ⟨q1, q2⟩ := fm_kind hf
    rw [hd, pk] at h1
    have hu : u8 k = k := u8_id (by omega) (by omega)
    refine ⟨b[p], rfl, ?_⟩
    split at h1 <;> simp at h1 <;> omega
  obtain ⟨a, ha, ha0⟩ := hp0
  have hG := get_ok b p
  obtain ⟨q1, q2, q3⟩ := get_good (b := b) (at_ := p) (t := t) (rest := rest) (by omega) (by omega) (by simpa using hd) hf hn hdp hb
  rw [q1, q2, q3] at hG
  have hw : (b.length : Int) - rest.length = ((p + (pk t).length : Nat) : Int) := by omega
  rw [hw] at hG
  generalize p + (pk t).length = q at *
  simp only [eB, cT] at hG
  have g : ¬ b.length ≤ p := by omega
  have g' : ¬ (b.length : Int) ≤ p := by omega
  simp -dsimp [x_pile_reader_term, hh, g, g', hp, ha, ha0]
  refine call_of hG ?_
  simp -dsimp [hh, g, g', hp, ha, ha0, pH, cT]
end
section
attribute [local simp] allD_map_d sks_map_d tk tn tks initA EndsM
structure Rd where
  p : Nat
  bad : Bool
def numF (b : List Int) (r : Rd) : Int × Rd := if r.bad = true ∨ b.length ≤ r.p then (0, ⟨r.p, true⟩) else ((b[r.p]?).getD 0, ⟨r.p + 1, false⟩)
theorem numF_rng {b : List Int} (hB : byteL b) (r : Rd) : 0 ≤ (numF b r).1 ∧ (numF b r).1 < 256 := by
  rw [numF]
  split
  · simp
  · rename_i h
    have hp : r.p < b.length := by omega
    simp only [List.getElem?_eq_getElem hp, Option.getD_some]
    exact hB _ (List.getElem_mem _)
theorem numG_ok (v : Nat) (b : List Int) (r : Rd) (hB : byteL b) (hb : b.length ≤ 1000000000) : MutC Tryz.prog n_pile_reader_num [.ptr 12 v 0] [12] (pH v b r.p r.bad) [.int .i64 (numF b r).1] (pH v b (numF b r).2.p (numF b r).2.bad) := by
  obtain ⟨p, bd⟩ := r
  by_cases hcs : bd = true ∨ b.length ≤ p
  · rw [numF, if_pos hcs]
    refine mutP Tryz.func32 c_pile_reader_num rfl fun h hh => ?_
    cases bd
    · have g : b.length ≤ p := by simpa using hcs
      have g' : (b.length : Int) ≤ p := by omega
      simp -dsimp [x_pile_reader_num, hh, g, g', pH]
    · simp -dsimp [x_pile_reader_num, hh, pH]
  · have hbd : bd = false := by cases bd; rfl; exact absurd (.inl rfl) hcs
    subst hbd
    have hp : p < b.length := by omega
    rw [numF, if_neg hcs]
    simp only [List.getElem?_eq_getElem hp, Option.getD_some]
    obtain ⟨h0, h1⟩ := hB b[p] (List.getElem_mem _)
    exact num_rd v b p b[p] hp rfl h0 h1 hb
def flagF (b : List Int) (r : Rd) : Bool × Rd := (decide ((numF b r).1 = 1), ⟨(numF b r).2.p, (numF b r).2.bad || decide (1 < (numF b r).1)⟩)
theorem flagG_ok (v : Nat) (b : List Int) (r : Rd) (hB : byteL b) (hb : b.length ≤ 1000000000) : MutC Tryz.prog n_pile_reader_flag [.ptr 12 v 0] [12] (pH v b r.p r.bad) [.bool (flagF b r).1] (pH v b (flagF b r).2.p (flagF b r).2.bad) := by
  have hN := numG_ok v b r hB hb
  rw [flagF]
  generalize numF b r = q at *
  obtain ⟨n, p, bd⟩ := q
  refine mutP Tryz.func91 c_pile_reader_flag rfl fun h hh => ?_
  simp only at hN
  simp -dsimp [x_pile_reader_flag, hh]
  refine callM_of hN (by simp -dsimp [pH, hh]) ?_
  simp -dsimp [mergeK_cons, mergeK_nil, pH]
  cases bd <;> simp -dsimp [pH]
def termF (b : List Int) (r : Rd) : T × Rd := if r.bad = true ∨ b.length ≤ r.p then (T0, ⟨r.p, true⟩) else if (b[r.p]?).getD 0 = 0 then (T0, ⟨r.p + 1, false⟩) else (getT b r.p, ⟨(getN b r.p).toNat, decide (¬ getE b r.p = 0)⟩)
theorem getN_nn {b : List Int} (hB : byteL b) (hb : b.length ≤ 1000000000) (p : Int) : 0 ≤ getN b p := by
  by_cases h : getE b p = 0
  · obtain ⟨h0, h1, rest, hd, _, _, _, hN⟩ := get_sound hB hb h
    have := congrArg List.length hd
    simp at this
    omega
  · rw [(get_err h).2.1]; omega
theorem termG_ok (v : Nat) (b : List Int) (r : Rd) (hB : byteL b) (hb : b.length ≤ 1000000000) : MutC Tryz.prog n_pile_reader_term [.ptr 12 v 0] [12] (pH v b r.p r.bad) [.agg (cT (termF b r).1)] (pH v b (termF b r).2.p (termF b r).2.bad) := by
  obtain ⟨p, bd⟩ := r
  by_cases hcs : bd = true ∨ b.length ≤ p
  · rw [termF, if_pos hcs]
    refine mutP Tryz.func63 c_pile_reader_term rfl fun h hh => ?_
    cases bd
    · have g : b.length ≤ p := by simpa using hcs
      have g' : (b.length : Int) ≤ p := by omega
      simp -dsimp [x_pile_reader_term, hh, g, g', pH, cT, T0]
    · simp -dsimp [x_pile_reader_term, hh, pH, cT, T0]
  · have hbd : bd = false := by cases bd; rfl; exact absurd (.inl rfl) hcs
    subst hbd
    have hp : p < b.length := by omega
    rw [termF, if_neg hcs]
    simp only [List.getElem?_eq_getElem hp, Option.getD_some]
    have g : ¬ b.length ≤ p := by omega
    have g' : ¬ (b.length : Int) ≤ p := by omega
    have w1 : IntKind.i64.wrap ((p : Int) + 1) = (p : Int) + 1 := wrap_id (by omega) (by omega)
    obtain ⟨a, ha⟩ : ∃ a, b[p] = a := ⟨_, rfl⟩
    refine mutP Tryz.func63 c_pile_reader_term rfl fun h hh => ?_
    rw [ha]
    by_cases ha0 : a = 0
    · simp -dsimp [x_pile_reader_term, hh, g, g', hp, ha, ha0, pH, cT, T0, w1]
    · have hG := get_ok b p
      have hnn := getN_nn hB hb p
      have hN : ((getN b p).toNat : Int) = getN b p := by omega
      rw [if_neg ha0]
      simp only [eB, cT] at hG
      simp -dsimp [x_pile_reader_term, hh, g, g', hp, ha, ha0]
      refine call_of hG ?_
      simp -dsimp [hh, g, g', hp, ha, ha0, pH, cT, hN]
def repF {α : Type} (g : Rd → α × Rd) : Nat → Rd → List α × Rd
  | 0, r => ([], r)
  | i + 1, r => if (repF g i r).2.bad = true then repF g i r else ((repF g i r).1 ++ [(g (repF g i r).2).1], (g (repF g i r).2).2)
theorem repF_bad {α : Type} (g : Rd → α × Rd) (r : Rd) {i m : Nat} (h : (repF g i r).2.bad = true) (hm : i ≤ m) : repF g m r = repF g i r := by
  induction m with
  | zero => have : i = 0 := by omega
            subst this; rfl
  | succ m ih =>
    rcases Nat.lt_or_ge m i with hlt | hge
    · have : i = m + 1 := by omega
      subst this; rfl
    · rw [repF, ih hge, if_pos h]
theorem repF_len {α : Type} (g : Rd → α × Rd) (r : Rd) : ∀ i, (repF g i r).1.length ≤ i
  | 0 => Nat.le_refl _
  | i + 1 => by
    have := repF_len g r i
    rw [repF]
    split
    · omega
    · simp; omega
def rwF (b : List Int) (r : Rd) : List T × Rd := repF (termF b) (numF b r).1.toNat (numF b r).2
theorem rowG_ok (v : Nat) (b : List Int) (r : Rd) (hB : byteL b) (hb : b.length ≤ 1000000000) : MutC Tryz.prog n_pile_reader_row [.ptr 12 v 0] [12] (pH v b r.p r.bad) [eTs (rwF b r).1] (pH v b (rwF b r).2.p (rwF b r).2.bad) := by
  have hN := numG_ok v b r hB hb
  have hrng := numF_rng hB r
  rw [rwF]
  generalize numF b r = q at *
  obtain ⟨n, R0⟩ := q
  simp only at hN hrng
  obtain ⟨m, rfl⟩ : ∃ m : Nat, n = (m : Int) := ⟨n.toNat, by omega⟩
  have hm : m < 256 := by omega
  simp only [Int.toNat_natCast]
  have hfin : ∀ i, i ≤ m → (repF (termF b) i R0).2.bad = true → repF (termF b) m R0 = repF (termF b) i R0 := fun i hi hb => repF_bad _ R0 hb hi
  refine mutP Tryz.func92 c_pile_reader_row rfl fun h hh => ?_
  simp -dsimp [x_pile_reader_row, hh]
  refine callM_of hN (by simp -dsimp [pH, hh]) ?_
  simp -dsimp [mergeK_cons, mergeK_nil, pH]
  refine wp_upto m (fun i st => st.s 0 = .ptr 12 v 0 ∧ st.s 4 = .d (.int .i64 ((m : Int) - i)) ∧ ∃ q v', q = repF (termF b) i R0 ∧ st.s 3 = .rsl 3 v' ∧ st.h 3 = ⟨v', .row 3 (q.1.map eT) false⟩ ∧ st.h 12 = ⟨v, .box [.d (.sl 1 (b.map (.int .u8))), .d (.int .i64 q.2.p), .d (.bool q.2.bad)] false⟩) ?_ ?_
  · simp -dsimp [repF]
  · rintro i ⟨s, hp⟩ hi ⟨e1, e2, q, v', eq, e3, e4, e5⟩
    dsimp only at e1 e2 e3 e4 e5
    have hlen : q.1.length ≤ i := by rw [eq]; exact repF_len _ _ _
    rcases Nat.lt_or_ge i m with hlt | hge
    · cases hbd : q.2.bad
      · have w1 : IntKind.i64.wrap ((m : Int) - i - 1) = (m : Int) - (i + 1 : Nat) := (wrap_id (by omega) (by omega)).trans (by omega)
        have g3 : (0 : Int) < (m : Int) - i := by omega
        have hT := termG_ok v b q.2 hB hb
        have hnx : repF (termF b) (i + 1) R0 = (q.1 ++ [(termF b q.2).1], (termF b q.2).2) := by rw [repF, ← eq, if_neg (by simp [hbd])]
        rw [hnx]
        generalize termF b q.2 = z at *
        obtain ⟨t, z⟩ := z
        obtain ⟨ks, p, bd⟩ := q
        simp only at hbd hlen hT e4 e5
        subst hbd
        have hr : (ks.length + 1) * 40 ≤ maxRoom := by simp only [maxRoom]; omega
        simp -dsimp [e1, e2, e3, e4, e5, g3, hlt]
        refine callM_of hT (by simp -dsimp [pH, e5]) ?_
        simp -dsimp [mergeK_cons, mergeK_nil, pH, e1, e2, e3, e4, e5, hr, hlt, w1, cT, eT_eq]
      · rw [hfin i hi (by rw [← eq]; exact hbd), ← eq]
        have g3 : (0 : Int) < (m : Int) - i := by omega
        simp -dsimp [e1, e2, e3, e4, e5, hbd, hlt, g3, eTs, pH]
    · have e : i = m := by omega
      subst e
      rw [← eq]
      simp -dsimp [e1, e2, e3, e4, e5, eTs, pH]
end
section
attribute [local simp] allD_map_d sks_map_d tk tn tks initA EndsM
def argF (b : List Int) (r : Rd) : Ar × Rd :=
  (fun q1 : Bool × Rd => (fun q2 : T × Rd => (fun q3 : List T × Rd => (fun q4 : Int × Rd => (fun q5 : List T × Rd => ((⟨q1.1, q2.1, q3.1, q4.1, q5.1⟩ : Ar), q5.2)) (rwF b q4.2)) (numF b q3.2)) (rwF b q2.2)) (termF b q1.2)) (flagF b r)
def argsF (b : List Int) (r : Rd) : List Ar × Rd := repF (argF b) (numF b r).1.toNat (numF b r).2
set_option maxHeartbeats 4000000 in
theorem argsG_ok (v : Nat) (b : List Int) (r : Rd) (hB : byteL b) (hb : b.length ≤ 1000000000) : MutC Tryz.prog n_pile_reader_args [.ptr 12 v 0] [12] (pH v b r.p r.bad) [eArs (argsF b r).1] (pH v b (argsF b r).2.p (argsF b r).2.bad) := by
  have hN := numG_ok v b r hB hb
  have hrng := numF_rng hB r
  rw [argsF]
  generalize numF b r = q at *
  obtain ⟨n, R0⟩ := q
  simp only at hN hrng
  obtain ⟨m, rfl⟩ : ∃ m : Nat, n = (m : Int) := ⟨n.toNat, by omega⟩
  have hm : m < 256 := by omega
  simp only [Int.toNat_natCast]
  have hfin : ∀ i, i ≤ m → (repF (argF b) i R0).2.bad = true → repF (argF b) m R0 = repF (argF b) i R0 := fun i hi hb => repF_bad _ R0 hb hi
  refine mutP Tryz.func90 c_pile_reader_args rfl fun h hh => ?_
  simp -dsimp [x_pile_reader_args, hh]
  refine callM_of hN (by simp -dsimp [pH, hh]) ?_
  simp -dsimp [mergeK_cons, mergeK_nil, pH]
  refine wp_upto m (fun i st => st.s 0 = .ptr 12 v 0 ∧ st.s 4 = .d (.int .i64 ((m : Int) - i)) ∧ ∃ q v', q = repF (argF b) i R0 ∧ st.s 3 = .rsl 3 v' ∧ st.h 3 = ⟨v', .row 7 (q.1.map eAr) false⟩ ∧ st.h 12 = ⟨v, .box [.d (.sl 1 (b.map (.int .u8))), .d (.int .i64 q.2.p), .d (.bool q.2.bad)] false⟩) ?_ ?_
  · simp -dsimp [repF]
  · rintro i ⟨s, hp⟩ hi ⟨e1, e2, q, v', eq, e3, e4, e5⟩
    dsimp only at e1 e2 e3 e4 e5
    have hlen : q.1.length ≤ i := by rw [eq]; exact repF_len _ _ _
    rcases Nat.lt_or_ge i m with hlt | hge
    · cases hbd : q.2.bad
      · have w1 : IntKind.i64.wrap ((m : Int) - i - 1) = (m : Int) - (i + 1 : Nat) := (wrap_id (by omega) (by omega)).trans (by omega)
        have g3 : (0 : Int) < (m : Int) - i := by omega
        have hnx : repF (argF b) (i + 1) R0 = (q.1 ++ [(argF b q.2).1], (argF b q.2).2) := by rw [repF, ← eq, if_neg (by simp [hbd])]
        rw [hnx, argF]
        have h1 := flagG_ok v b q.2 hB hb
        generalize flagF b q.2 = q1 at *
        obtain ⟨rc, r1⟩ := q1
        have h2 := termG_ok v b r1 hB hb
        simp only at h1 ⊢
        generalize termF b r1 = q2 at *
        obtain ⟨ty, r2⟩ := q2
        have h3 := rowG_ok v b r2 hB hb
        simp only at h2 ⊢
        generalize rwF b r2 = q3 at *
        obtain ⟨dom, r3⟩ := q3
        have h4 := numG_ok v b r3 hB hb
        simp only at h3 ⊢
        generalize numF b r3 = q4 at *
        obtain ⟨sn, r4⟩ := q4
        have h5 := rowG_ok v b r4 hB hb
        simp only at h4 ⊢
        generalize rwF b r4 = q5 at *
        obtain ⟨idx, r5⟩ := q5
        simp only at h5 ⊢
        obtain ⟨ks, p, bd⟩ := q
        simp only at hbd hlen e4 e5 h1 ⊢
        subst hbd
        simp only [eTs, cT] at h2 h3 h5
        have hr : (ks.length + 1) * 104 ≤ maxRoom := by simp only [maxRoom]; omega
        simp -dsimp [e1, e2, e3, e4, e5, g3, hlt]
        refine callM_of h1 (by simp -dsimp [pH, e5]) ?_
        simp -dsimp [mergeK_cons, mergeK_nil, pH, e1, e2, e3, e4, e5]
        refine callM_of h2 (by simp -dsimp [pH]) ?_
        simp -dsimp [mergeK_cons, mergeK_nil, pH, e1, e2, e3, e4, e5]
        refine callM_of h3 (by simp -dsimp [pH]) ?_
        simp -dsimp [mergeK_cons, mergeK_nil, pH, e1, e2, e3, e4, e5]
        refine callM_of h4 (by simp -dsimp [pH]) ?_
        simp -dsimp [mergeK_cons, mergeK_nil, pH, e1, e2, e3, e4, e5]
        refine callM_of h5 (by simp -dsimp [pH]) ?_
        simp -dsimp [mergeK_cons, mergeK_nil, pH, e1, e2, e3, e4, e5, hr, hlt, w1, cT, eTs, eAr, cAr]
      · rw [hfin i hi (by rw [← eq]; exact hbd), ← eq]
        have g3 : (0 : Int) < (m : Int) - i := by omega
        simp -dsimp [e1, e2, e3, e4, e5, hbd, hlt, g3, eArs, pH]
    · have e : i = m := by omega
      subst e
      rw [← eq]
      simp -dsimp [e1, e2, e3, e4, e5, eArs, pH]
def soF (b : List Int) (r : Rd) : So × Rd :=
  (fun q1 : List Ar × Rd => (fun q2 : Int × Rd => (fun q3 : Bool × Rd => (fun q4 : T × Rd => ((⟨q1.1, q2.1, q3.1, q4.1⟩ : So), q4.2)) (termF b q3.2)) (flagF b q2.2)) (numF b q1.2)) (argsF b r)
def coF (b : List Int) (r : Rd) : Co × Rd :=
  (fun q1 : Int × Rd => (fun q2 : List Ar × Rd => (fun q3 : List T × Rd => (fun q4 : T × Rd => ((⟨q1.1, q2.1, q3.1, q4.1⟩ : Co), q4.2)) (termF b q3.2)) (rwF b q2.2)) (argsF b q1.2)) (numF b r)
def sosF (b : List Int) (r : Rd) : List So × Rd := repF (soF b) (numF b r).1.toNat (numF b r).2
def cosF (b : List Int) (r : Rd) : List Co × Rd := repF (coF b) (numF b r).1.toNat (numF b r).2
def blockF (b : List Int) (r : Rd) : Bl × Rd :=
  (fun q1 : List So × Rd => (fun q2 : List Co × Rd => (fun q3 : Int × Rd => ((⟨q1.1, q2.1, q3.1⟩ : Bl), q3.2)) (numF b q2.2)) (cosF b q1.2)) (sosF b r)
def cellR {α : Type} (k q : Nat) (e : α → D) (l : List α) (c : AV) (h : Nat → Ent) : Prop := (l = [] ∧ c = .fsl 6 []) ∨ (l ≠ [] ∧ c = .rsl k q ∧ h k = ⟨q, .row 6 (l.map e) false⟩)
set_option maxHeartbeats 16000000 in
theorem blockG_ok (v : Nat) (b : List Int) (r : Rd) (hB : byteL b) (hb : b.length ≤ 1000000000) : MutC Tryz.prog n_pile_reader_block [.ptr 12 v 0] [12] (pH v b r.p r.bad) [eBl (blockF b r).1] (pH v b (blockF b r).2.p (blockF b r).2.bad) := by
  have hN := numG_ok v b r hB hb
  have hrng := numF_rng hB r
  rw [blockF, sosF]
  generalize numF b r = q at *
  obtain ⟨n, R0⟩ := q
  simp only at hN hrng
  obtain ⟨m, rfl⟩ : ∃ m : Nat, n = (m : Int) := ⟨n.toNat, by omega⟩
  have hm : m < 256 := by omega
  simp only [Int.toNat_natCast]
  have hfin : ∀ i, i ≤ m → (repF (soF b) i R0).2.bad = true → repF (soF b) m R0 = repF (soF b) i R0 := fun i hi hb => repF_bad _ R0 hb hi
  have h80 : 80 ≤ maxRoom := by simp only [maxRoom]; omega
  have h96 : 96 ≤ maxRoom := by simp only [maxRoom]; omega
  refine mutP Tryz.func64 c_pile_reader_block rfl fun h hh => ?_
  simp -dsimp [x_pile_reader_block, hh]
  generalize (h 2).ver + 1 = u2
  generalize (h 3).ver + 1 = u3
  refine callM_of hN (by simp -dsimp [pH, hh]) ?_
  simp -dsimp [mergeK_cons, mergeK_nil, pH]
  refine wp_upto m (fun i st => st.s 0 = .ptr 12 v 0 ∧ st.s 2 = .ptr 2 u2 0 ∧ st.h 2 = ⟨u2, .box [.fsl 6 [], .fsl 6 [], .d (.int .i64 0)] false⟩ ∧ st.s 3 = .ptr 3 u3 0 ∧ st.s 4 = .d (.int .i64 ((m : Int) - i)) ∧ ∃ q c v', q = repF (soF b) i R0 ∧ st.h 3 = ⟨u3, .box [c, .fsl 6 [], .d (.int .i64 0)] false⟩ ∧ cellR 37 v' eSo q.1 c st.h ∧ st.h 12 = ⟨v, .box [.d (.sl 1 (b.map (.int .u8))), .d (.int .i64 q.2.p), .d (.bool q.2.bad)] false⟩) ?_ ?_
  · simp -dsimp [repF, cellR]
  · rintro i ⟨s, hp⟩ hi ⟨e1, e2, e6, e7, e8, q, c, v', eq, e3, e4, e5⟩
    dsimp only at e1 e2 e3 e4 e5 e6 e7 e8
    have hlen : q.1.length ≤ i := by rw [eq]; exact repF_len _ _ _
    by_cases hstop : i < m ∧ q.2.bad = false
    · obtain ⟨hlt, hbd⟩ := hstop
      have w1 : IntKind.i64.wrap ((m : Int) - i - 1) = (m : Int) - (i + 1 : Nat) := (wrap_id (by omega) (by omega)).trans (by omega)
      have g3 : (0 : Int) < (m : Int) - i := by omega
      have hnx : repF (soF b) (i + 1) R0 = (q.1 ++ [(soF b q.2).1], (soF b q.2).2) := by rw [repF, ← eq, if_neg (by simp [hbd])]
      rw [hnx, soF]
      clear hfin eq
      have h1 := argsG_ok v b q.2 hB hb
      generalize argsF b q.2 = q1 at *
      obtain ⟨as_, r1⟩ := q1
      have h2 := numG_ok v b r1 hB hb
      simp only at h1 ⊢
      generalize numF b r1 = q2 at *
      obtain ⟨lv, r2⟩ := q2
      have h3 := flagG_ok v b r2 hB hb
      simp only at h2 ⊢
      generalize flagF b r2 = q3 at *
      obtain ⟨dc, r3⟩ := q3
      have h4 := termG_ok v b r3 hB hb
      simp only at h3 ⊢
      generalize termF b r3 = q4 at *
      obtain ⟨dt, r4⟩ := q4
      simp only at h4 ⊢
      obtain ⟨ks, p, bd⟩ := q
      simp only at hbd hlen e3 e4 e5 h1 ⊢
      subst hbd
      simp only [eArs, cT] at h1 h4
      have hr : (ks.length + 1) * 80 ≤ maxRoom := by simp only [maxRoom]; omega
      rcases e4 with ⟨rfl, rfl⟩ | ⟨hne, rfl, e4⟩
      · simp -dsimp [e1, e2, e3, e5, e6, e7, e8, g3, hlt]
        refine callM_of h1 (by simp -dsimp [pH, e5]) ?_
        simp -dsimp [mergeK_cons, mergeK_nil, pH, e1, e2, e3, e5, e6, e7, e8]
        refine callM_of h2 (by simp -dsimp [pH]) ?_
        simp -dsimp [mergeK_cons, mergeK_nil, pH, e1, e2, e3, e5, e6, e7, e8]
        refine callM_of h3 (by simp -dsimp [pH]) ?_
        simp -dsimp [mergeK_cons, mergeK_nil, pH, e1, e2, e3, e5, e6, e7, e8]
        refine callM_of h4 (by simp -dsimp [pH]) ?_
        simp -dsimp [mergeK_cons, mergeK_nil, pH, e1, e2, e3, e5, e6, e7, e8, h80, hlt, w1, cT, eArs, eSo, cSo, cellR]
      · simp -dsimp [e1, e2, e3, e4, e5, e6, e7, e8, g3, hlt]
        refine callM_of h1 (by simp -dsimp [pH, e5]) ?_
        simp -dsimp [mergeK_cons, mergeK_nil, pH, e1, e2, e3, e4, e5, e6, e7, e8]
        refine callM_of h2 (by simp -dsimp [pH]) ?_
        simp -dsimp [mergeK_cons, mergeK_nil, pH, e1, e2, e3, e4, e5, e6, e7, e8]
        refine callM_of h3 (by simp -dsimp [pH]) ?_
        simp -dsimp [mergeK_cons, mergeK_nil, pH, e1, e2, e3, e4, e5, e6, e7, e8]
        refine callM_of h4 (by simp -dsimp [pH]) ?_
        simp -dsimp [mergeK_cons, mergeK_nil, pH, e1, e2, e3, e4, e5, e6, e7, e8, hr, hlt, w1, cT, eArs, eSo, cSo, cellR]
    · have hq : repF (soF b) m R0 = q := by
        rcases Nat.lt_or_ge i m with hlt | hge
        · have hbd : q.2.bad = true := by cases hbd : q.2.bad; exact absurd ⟨hlt, hbd⟩ hstop; rfl
          rw [hfin i hi (by rw [← eq]; exact hbd), ← eq]
        · have e : i = m := by omega
          rw [eq, e]
      have hend : ((0 : Int) < (m : Int) - i ∧ i < m ∧ q.2.bad = true) ∨ (m : Int) - i = 0 := by
        rcases Nat.lt_or_ge i m with hlt | hge
        · exact .inl ⟨by omega, hlt, by cases hbd : q.2.bad; exact absurd ⟨hlt, hbd⟩ hstop; rfl⟩
        · exact .inr (by omega)
      rw [hq]
      clear hfin eq hq
      have h2 := numG_ok v b q.2 hB hb
      have hrng2 := numF_rng hB q.2
      simp only [cosF]
      generalize numF b q.2 = q2 at *
      obtain ⟨n2, R2⟩ := q2
      simp only at h2 hrng2 ⊢
      obtain ⟨m2, rfl⟩ : ∃ m2 : Nat, n2 = (m2 : Int) := ⟨n2.toNat, by omega⟩
      have hm2 : m2 < 256 := by omega
      simp only [Int.toNat_natCast]
      have hfin2 : ∀ i, i ≤ m2 → (repF (coF b) i R2).2.bad = true → repF (coF b) m2 R2 = repF (coF b) i R2 := fun i hi hb => repF_bad _ R2 hb hi
      rcases hend with ⟨g3, hlt, hbd⟩ | g3 <;> first | simp -dsimp [e1, e2, e3, e5, e6, e7, e8, g3, hlt, hbd] | simp -dsimp [e1, e2, e3, e5, e6, e7, e8, g3]
      all_goals
        refine callM_of h2 (by first | simp -dsimp [pH, e5, hbd] | simp -dsimp [pH, e5]) ?_
        simp -dsimp [mergeK_cons, mergeK_nil, pH, e1, e2, e3, e5, e6, e7, e8]
        refine wp_upto m2 (fun i st => st.s 0 = .ptr 12 v 0 ∧ st.s 2 = .ptr 2 u2 0 ∧ st.h 2 = ⟨u2, .box [.fsl 6 [], .fsl 6 [], .d (.int .i64 0)] false⟩ ∧ st.s 3 = .ptr 3 u3 0 ∧ st.s 6 = .d (.int .i64 ((m2 : Int) - i)) ∧ ∃ z c2 v2, z = repF (coF b) i R2 ∧ st.h 3 = ⟨u3, .box [c, c2, .d (.int .i64 0)] false⟩ ∧ cellR 37 v' eSo q.1 c st.h ∧ cellR 68 v2 eCo z.1 c2 st.h ∧ st.h 12 = ⟨v, .box [.d (.sl 1 (b.map (.int .u8))), .d (.int .i64 z.2.p), .d (.bool z.2.bad)] false⟩) ?_ ?_
        · simp -dsimp [repF, cellR, e1, e2, e6, e7]
          exact ⟨e3, e4⟩
        · clear e1 e2 e3 e4 e5 e6 e7 e8
          rintro j ⟨s, hp⟩ hj ⟨e1, e2, e6, e7, e8, z, c2, v2, eq2, e3, e4, e9, e5⟩
          dsimp only at e1 e2 e3 e4 e5 e6 e7 e8 e9
          have hlen2 : z.1.length ≤ j := by rw [eq2]; exact repF_len _ _ _
          by_cases hstop2 : j < m2 ∧ z.2.bad = false
          · obtain ⟨hlt, hbd⟩ := hstop2
            have w1 : IntKind.i64.wrap ((m2 : Int) - j - 1) = (m2 : Int) - (j + 1 : Nat) := (wrap_id (by omega) (by omega)).trans (by omega)
            have g3 : (0 : Int) < (m2 : Int) - j := by omega
            have hnx : repF (coF b) (j + 1) R2 = (z.1 ++ [(coF b z.2).1], (coF b z.2).2) := by rw [repF, ← eq2, if_neg (by simp [hbd])]
            rw [hnx, coF]
            clear hfin2 eq2
            have k1 := numG_ok v b z.2 hB hb
            generalize numF b z.2 = q1 at *
            obtain ⟨sn, r1⟩ := q1
            have k2 := argsG_ok v b r1 hB hb
            simp only at k1 ⊢
            generalize argsF b r1 = q2 at *
            obtain ⟨as_, r2⟩ := q2
            have k3 := rowG_ok v b r2 hB hb
            simp only at k2 ⊢
            generalize rwF b r2 = q3 at *
            obtain ⟨ix, r3⟩ := q3
            have k4 := termG_ok v b r3 hB hb
            simp only at k3 ⊢
            generalize termF b r3 = q4 at *
            obtain ⟨dt, r4⟩ := q4
            simp only at k4 ⊢
            obtain ⟨ks, p, bd⟩ := z
            simp only at hbd hlen2 e3 e5 e9 k1 ⊢
            subst hbd
            simp only [eArs, eTs, cT] at k2 k3 k4
            have hr : (ks.length + 1) * 96 ≤ maxRoom := by simp only [maxRoom]; omega
            simp only [cellR] at e4
            rcases e9 with ⟨rfl, rfl⟩ | ⟨hne, rfl, e9⟩
            · simp -dsimp [e1, e2, e3, e5, e6, e7, e8, g3, hlt]
              refine callM_of k1 (by simp -dsimp [pH, e5]) ?_
              simp -dsimp [mergeK_cons, mergeK_nil, pH, e1, e2, e3, e5, e6, e7, e8]
              refine callM_of k2 (by simp -dsimp [pH]) ?_
              simp -dsimp [mergeK_cons, mergeK_nil, pH, e1, e2, e3, e5, e6, e7, e8]
              refine callM_of k3 (by simp -dsimp [pH]) ?_
              simp -dsimp [mergeK_cons, mergeK_nil, pH, e1, e2, e3, e5, e6, e7, e8]
              refine callM_of k4 (by simp -dsimp [pH]) ?_
              simp -dsimp [mergeK_cons, mergeK_nil, pH, e1, e2, e3, e5, e6, e7, e8, h96, hlt, w1, cT, eArs, eTs, eCo, cCo, cellR]
              exact e4
            · simp -dsimp [e1, e2, e3, e5, e6, e7, e8, e9, g3, hlt]
              refine callM_of k1 (by simp -dsimp [pH, e5]) ?_
              simp -dsimp [mergeK_cons, mergeK_nil, pH, e1, e2, e3, e5, e6, e7, e8, e9]
              refine callM_of k2 (by simp -dsimp [pH]) ?_
              simp -dsimp [mergeK_cons, mergeK_nil, pH, e1, e2, e3, e5, e6, e7, e8, e9]
              refine callM_of k3 (by simp -dsimp [pH]) ?_
              simp -dsimp [mergeK_cons, mergeK_nil, pH, e1, e2, e3, e5, e6, e7, e8, e9]
              refine callM_of k4 (by simp -dsimp [pH]) ?_
              simp -dsimp [mergeK_cons, mergeK_nil, pH, e1, e2, e3, e5, e6, e7, e8, e9, hr, hlt, w1, cT, eArs, eTs, eCo, cCo, cellR]
              exact e4
          · have hq2 : repF (coF b) m2 R2 = z := by
              rcases Nat.lt_or_ge j m2 with hlt | hge
              · have hbd : z.2.bad = true := by cases hbd : z.2.bad; exact absurd ⟨hlt, hbd⟩ hstop2; rfl
                rw [hfin2 j hj (by rw [← eq2]; exact hbd), ← eq2]
              · have e : j = m2 := by omega
                rw [eq2, e]
            have hend2 : ((0 : Int) < (m2 : Int) - j ∧ j < m2 ∧ z.2.bad = true) ∨ (m2 : Int) - j = 0 := by
              rcases Nat.lt_or_ge j m2 with hlt | hge
              · exact .inl ⟨by omega, hlt, by cases hbd : z.2.bad; exact absurd ⟨hlt, hbd⟩ hstop2; rfl⟩
              · exact .inr (by omega)
            rw [hq2]
            clear hfin2 eq2 hq2
            have h3 := numG_ok v b z.2 hB hb
            generalize numF b z.2 = q3 at *
            obtain ⟨el, R3⟩ := q3
            simp only at h3 ⊢
            rcases hend2 with ⟨g3, hlt, hbd⟩ | g3 <;> first | simp -dsimp [e1, e2, e3, e5, e6, e7, e8, g3, hlt, hbd] | simp -dsimp [e1, e2, e3, e5, e6, e7, e8, g3]
            all_goals
              refine callM_of h3 (by first | simp -dsimp [pH, e5, hbd] | simp -dsimp [pH, e5]) ?_
              rcases e4 with ⟨a1, rfl⟩ | ⟨_, rfl, e4⟩ <;> rcases e9 with ⟨a2, rfl⟩ | ⟨_, rfl, e9⟩
              · simp -dsimp [mergeK_cons, mergeK_nil, pH, e1, e2, e3, e5, e6, e7, e8, a1, a2, eBl, cBl, eSos, eCos]
              · simp -dsimp [mergeK_cons, mergeK_nil, pH, e1, e2, e3, e5, e6, e7, e8, a1, e9, eBl, cBl, eSos, eCos]
              · simp -dsimp [mergeK_cons, mergeK_nil, pH, e1, e2, e3, e5, e6, e7, e8, e4, a2, eBl, cBl, eSos, eCos]
              · simp -dsimp [mergeK_cons, mergeK_nil, pH, e1, e2, e3, e5, e6, e7, e8, e4, e9, eBl, cBl, eSos, eCos]
end
section
attribute [local simp] allD_map_d sks_map_d tk tn tks initA EndsM
def B0 : Bl := ⟨[], [], 0⟩
structure Gt (t : T) : Prop where
  f : formedM t = true
  n : nodes t ≤ 6000
  d : depthN t ≤ 200
theorem Gt.check {t : T} (h : Gt t) : checkM t = 0 := check_of h.f h.n h.d
theorem Gt.some {t : T} (h : Gt t) : noneM t = false := by
  have : 1 ≤ t.kind := by obtain ⟨k, n, ks⟩ := t; exact (fm_kind h.f).1
  rw [noneM, if_neg (by omega)]
theorem none0 : noneM T0 = true := by decide
def De.ax (t : T) : De := ⟨1, t, T0, B0⟩
def De.df (t u : T) : De := ⟨2, t, u, B0⟩
def Gd (d : De) : Prop := (∃ t, Gt t ∧ d = .ax t) ∨ ∃ t u, Gt t ∧ Gt u ∧ d = .df t u
theorem Gd.right {d : De} (h : Gd d) : rightM d = true := by
  rcases h with ⟨t, ht, rfl⟩ | ⟨t, u, ht, hu, rfl⟩
  · simp [rightM, De.ax, ht.check, none0, plainB, B0]
  · simp [rightM, De.df, ht.check, hu.check, plainB, B0]
def dB (d : De) : List Int := (declW (fun _ => []) d).flatten
theorem dB_ax {t : T} (h : Gt t) : dB (.ax t) = 1 :: pk t := by
  simp [dB, declW, De.ax, pkO, h.some]; rfl
theorem dB_df {t u : T} (h : Gt t) (h' : Gt u) : dB (.df t u) = 2 :: (pk t ++ pk u) := by
  simp [dB, declW, De.df, pkO, h.some, h'.some]; rfl
theorem drop_at {b : List Int} {p : Nat} {a : Int} {r : List Int} (h : b.drop p = a :: r) : ∃ (hp : p < b.length), b[p] = a ∧ b.drop (p + 1) = r := by
  have hp : p < b.length := by
    have := congrArg List.length h
    simp at this
    omega
  rw [List.drop_eq_getElem_cons hp] at h
  simp only [List.cons.injEq] at h
  exact ⟨hp, h.1, h.2⟩
theorem drop_by {b : List Int} {p : Nat} {x r : List Int} (h : b.drop p = x ++ r) : b.drop (p + x.length) = r := by
  rw [← List.drop_drop, h]; simp
set_option maxHeartbeats 4000000 in
theorem decl_rd (v : Nat) (b : List Int) (p : Nat) (d : De) (rest : List Int) (hG : Gd d) (hd : b.drop p = dB d ++ rest) (hb : b.length ≤ 1000000000) :
    MutC Tryz.prog n_pile_reader_decl [.ptr 12 v 0] [12] (pH v b p false) [eDe d] (pH v b (p + (dB d).length) false) := by
  refine mutP Tryz.func33 c_pile_reader_decl rfl fun h hh => ?_
  have hR := right_ok d
  rw [hG.right] at hR
  rcases hG with ⟨t, ht, rfl⟩ | ⟨t, u, ht, hu, rfl⟩
  · rw [dB_ax ht] at hd ⊢
    obtain ⟨hp, hp1, hd1⟩ := drop_at hd
    have h1 := num_rd v b p 1 hp hp1 (by omega) (by omega) hb
    have h2 := term_rd v b (p + 1) t rest hd1 ht.f ht.n ht.d hb
    have e : p + (1 :: pk t).length = p + 1 + (pk t).length := by simp; omega
    rw [e]
    generalize p + 1 + (pk t).length = q at *
    simp only [eDe, cDe, De.ax, T0, B0, cT, cBl, eSos, eCos, List.cons_append, List.nil_append, T.kind, T.num, T.kids, List.map_nil] at hR h2 ⊢
    simp -dsimp [x_pile_reader_decl, hh]
    refine callM_of h1 (by simp [pH, hh]) ?_
    simp -dsimp [mergeK_cons, mergeK_nil, pH, hh]
    refine callM_of h2 (by simp -dsimp [pH, hh]) ?_
    simp -dsimp [mergeK_cons, mergeK_nil, pH, hh]
    refine call_of hR ?_
    simp -dsimp [pH]
  · rw [dB_df ht hu] at hd ⊢
    obtain ⟨hp, hp1, hd1⟩ := drop_at hd
    have h1 := num_rd v b p 2 hp hp1 (by omega) (by omega) hb
    replace hd1 : b.drop (p + 1) = pk t ++ (pk u ++ rest) := by rw [hd1]; exact List.append_assoc _ _ _
    have h2 := term_rd v b (p + 1) t (pk u ++ rest) hd1 ht.f ht.n ht.d hb
    have h3 := term_rd v b (p + 1 + (pk t).length) u rest (drop_by hd1) hu.f hu.n hu.d hb
    have e : p + (2 :: (pk t ++ pk u)).length = p + 1 + (pk t).length + (pk u).length := by simp; omega
    rw [e]
    generalize p + 1 + (pk t).length = q at *
    generalize q + (pk u).length = q' at *
    simp only [eDe, cDe, De.df, T0, B0, cT, cBl, eSos, eCos, List.cons_append, List.nil_append, T.kind, T.num, T.kids, List.map_nil] at hR h2 h3 ⊢
    simp -dsimp [x_pile_reader_decl, hh]
    refine callM_of h1 (by simp [pH, hh]) ?_
    simp -dsimp [mergeK_cons, mergeK_nil, pH, hh]
    refine callM_of h2 (by simp -dsimp [pH, hh]) ?_
    simp -dsimp [mergeK_cons, mergeK_nil, pH, hh]
    refine callM_of h3 (by simp -dsimp [pH, hh]) ?_
    simp -dsimp [mergeK_cons, mergeK_nil, pH, hh]
    refine call_of hR ?_
    simp -dsimp [pH]
def bef (l : List De) (i : Nat) : List Int := ((l.take i).map dB).flatten
theorem bef_next (l : List De) {i : Nat} (h : i < l.length) : bef l (i + 1) = bef l i ++ dB l[i] := by
  rw [bef, bef, List.take_succ_eq_append_getElem h, List.map_append, List.flatten_append]; simp
theorem bef_rest (l : List De) {i : Nat} (h : i < l.length) : (l.map dB).flatten = bef l i ++ (dB l[i] ++ ((l.drop (i + 1)).map dB).flatten) := by
  rw [bef]
  have e : l = l.take i ++ (l[i] :: l.drop (i + 1)) := by rw [← List.drop_eq_getElem_cons h, List.take_append_drop]
  have e2 : l.map dB = (l.take i).map dB ++ (dB l[i] :: (l.drop (i + 1)).map dB) := by rw [← List.map_cons, ← List.map_append, ← e]
  rw [e2, List.flatten_append, List.flatten_cons]
set_option maxHeartbeats 4000000 in
theorem getD_ok (l : List De) (hG : ∀ d ∈ l, Gd d) (hl : l.length ≤ 60) (hb : ((l.map dB).flatten).length + 1 ≤ 65536) : Pure Tryz.prog n_pile_Get [eB (u8 l.length :: (l.map dB).flatten)] [eDes l, .int .i64 0] := by
  refine p_pile_Get rfl fun hs => ?_
  obtain ⟨b, hB⟩ : ∃ b, b = u8 l.length :: (l.map dB).flatten := ⟨_, rfl⟩
  rw [← hB]
  have hbl : b.length ≤ 65536 := by rw [hB]; simpa using hb
  have hbt : b.length = 1 + ((l.map dB).flatten).length := by rw [hB, List.length_cons, Nat.add_comm]
  have hu : u8 l.length = l.length := u8_id (by omega) (by omega)
  have hpos : 0 < b.length := by omega
  have hb0 : b[0] = (l.length : Int) := by subst hB; simp [hu]
  have h1 := num_rd 1 b 0 l.length hpos hb0 (by omega) (by omega) (by omega)
  have g : ¬ (65536 : Int) < b.length := by omega
  have g2 : ¬ (60 : Int) < l.length := by omega
  simp -dsimp [x_pile_Get, eB, g]
  refine callM_of h1 (by simp -dsimp [pH]) ?_
  simp -dsimp [mergeK_cons, mergeK_nil, pH, g2]
  refine wp_upto l.length (fun i st => st.s 0 = .d (.sl 1 (b.map (.int .u8))) ∧ st.s 4 = .ptr 12 1 0 ∧ st.s 5 = .d (.int .i64 ((l.length : Int) - i)) ∧ ∃ v' p, p = 1 + (bef l i).length ∧ st.s 6 = .rsl 6 v' ∧ st.h 6 = ⟨v', .row 10 ((l.take i).map eDe) false⟩ ∧
    st.h 12 = ⟨1, .box [.d (.sl 1 (b.map (.int .u8))), .d (.int .i64 p), .d (.bool false)] false⟩) ?_ ?_
  · simp -dsimp [bef]
  · rintro i ⟨s, hp⟩ hi ⟨e1, e2, e3, v', p, ep, e4, e5, e6⟩
    dsimp only at e1 e2 e3 e4 e5 e6
    rcases Nat.lt_or_ge i l.length with hlt | hge
    · have w1 : IntKind.i64.wrap ((l.length : Int) - i - 1) = (l.length : Int) - (i + 1 : Nat) := (wrap_id (by omega) (by omega)).trans (by omega)
      have g3 : (0 : Int) < (l.length : Int) - i := by omega
      have hdr : b.drop p = dB l[i] ++ ((l.drop (i + 1)).map dB).flatten := by
        rw [ep, hB, bef_rest l hlt, Nat.add_comm, List.drop_succ_cons]
        simp
      have hD := decl_rd 1 b p l[i] _ (hG _ (List.getElem_mem _)) hdr (by omega)
      have hnx := bef_next l hlt
      have hq : p + (dB l[i]).length = 1 + (bef l (i + 1)).length := by rw [hnx, List.length_append, ep]; omega
      have hr : (i + 1) * 144 ≤ maxRoom := by simp only [maxRoom]; omega
      generalize p + (dB l[i]).length = q at *
      have ht : (l.take (i + 1)).map eDe = (l.take i).map eDe ++ [eDe l[i]] := by rw [List.take_succ_eq_append_getElem hlt, List.map_append]; rfl
      have hce : (eDe l[i]).cells.length = 10 ∧ ∀ x ∈ (eDe l[i]).cells, (AV.d x).one = true := by
        generalize l[i] = d
        refine ⟨rfl, fun x hx => ?_⟩
        simp [eDe, cDe, cT, cBl, eSos, eCos, D.cells] at hx
        rcases hx with rfl | rfl | rfl | rfl | rfl | rfl | rfl | rfl | rfl | rfl <;> rfl
      have hmin : min i l.length = i := by omega
      simp -dsimp [e1, e2, e3, e4, e5, e6, g3, hlt]
      refine callM_of hD (by simp -dsimp [pH, e6]) ?_
      simp -dsimp [mergeK_cons, mergeK_nil, pH, e1, e2, e3, e4, e5, e6, hmin, hr, hlt, w1]
      rw [if_pos hce]
      simp -dsimp [e1, e2, e3, e4, e5, e6, hmin, hr, hlt, w1]
      exact ⟨by rw [← List.map_take, ← List.map_take, ht], by omega⟩
    · have e : i = l.length := by omega
      subst e
      have hpb : p = b.length := by rw [ep, hbt, bef, List.take_length]
      rw [hpb] at e6
      simp -dsimp [e1, e2, e3, e4, e5, e6, eDes]
end
section
attribute [local simp] allD_map_d sks_map_d tk tn tks initA EndsM
def declB (b : List Int) (q : Int × Rd) : De × Rd :=
  if q.1 = 1 then (⟨1, (termF b q.2).1, T0, B0⟩, (termF b q.2).2)
  else if q.1 = 2 then (⟨2, (termF b q.2).1, (termF b (termF b q.2).2).1, B0⟩, (termF b (termF b q.2).2).2)
  else if q.1 = 3 then (⟨3, T0, T0, (blockF b q.2).1⟩, (blockF b q.2).2)
  else (⟨q.1, T0, T0, B0⟩, q.2)
def declF (b : List Int) (r : Rd) : De × Rd := ((declB b (numF b r)).1, ⟨(declB b (numF b r)).2.p, (declB b (numF b r)).2.bad || !rightM (declB b (numF b r)).1⟩)
set_option maxHeartbeats 4000000 in
theorem declG_ok (v : Nat) (b : List Int) (r : Rd) (hB : byteL b) (hb : b.length ≤ 1000000000) : MutC Tryz.prog n_pile_reader_decl [.ptr 12 v 0] [12] (pH v b r.p r.bad) [eDe (declF b r).1] (pH v b (declF b r).2.p (declF b r).2.bad) := by
  have hN := numG_ok v b r hB hb
  rw [declF]
  generalize numF b r = q at *
  obtain ⟨k, r1⟩ := q
  simp only at hN
  refine mutP Tryz.func33 c_pile_reader_decl rfl fun h hh => ?_
  by_cases k1 : k = 1
  · subst k1
    simp only [declB, if_true]
    have h2 := termG_ok v b r1 hB hb
    generalize termF b r1 = q2 at *
    obtain ⟨t, r2⟩ := q2
    simp only at h2 ⊢
    have hR := right_ok ⟨1, t, T0, B0⟩
    simp only [eDe, cDe, T0, B0, cT, cBl, eSos, eCos, List.cons_append, List.nil_append, T.kind, T.num, T.kids, List.map_nil] at hR h2 ⊢
    simp -dsimp [x_pile_reader_decl, hh]
    refine callM_of hN (by simp -dsimp [pH, hh]) ?_
    simp -dsimp [mergeK_cons, mergeK_nil, pH, hh]
    refine callM_of h2 (by simp -dsimp [pH, hh]) ?_
    cases hb2 : r2.bad
    · simp -dsimp [mergeK_cons, mergeK_nil, pH, hh, hb2]
      refine call_of hR ?_
      simp -dsimp [pH]
    · simp -dsimp [mergeK_cons, mergeK_nil, pH, hh, hb2]
  by_cases k2 : k = 2
  · subst k2
    simp only [declB]
    rw [if_neg (by decide)]
    simp only [if_true]
    have h2 := termG_ok v b r1 hB hb
    generalize termF b r1 = q2 at *
    obtain ⟨t, r2⟩ := q2
    have h3 := termG_ok v b r2 hB hb
    simp only at h2 ⊢
    generalize termF b r2 = q3 at *
    obtain ⟨u, r3⟩ := q3
    simp only at h3 ⊢
    have hR := right_ok ⟨2, t, u, B0⟩
    simp only [eDe, cDe, T0, B0, cT, cBl, eSos, eCos, List.cons_append, List.nil_append, T.kind, T.num, T.kids, List.map_nil] at hR h2 h3 ⊢
    simp -dsimp [x_pile_reader_decl, hh]
    refine callM_of hN (by simp -dsimp [pH, hh]) ?_
    simp -dsimp [mergeK_cons, mergeK_nil, pH, hh]
    refine callM_of h2 (by simp -dsimp [pH, hh]) ?_
    simp -dsimp [mergeK_cons, mergeK_nil, pH, hh]
    refine callM_of h3 (by simp -dsimp [pH, hh]) ?_
    cases hb2 : r3.bad
    · simp -dsimp [mergeK_cons, mergeK_nil, pH, hh, hb2]
      refine call_of hR ?_
      simp -dsimp [pH]
    · simp -dsimp [mergeK_cons, mergeK_nil, pH, hh, hb2]
  by_cases k3 : k = 3
  · subst k3
    simp only [declB]
    rw [if_neg (by decide), if_neg (by decide)]
    simp only [if_true]
    have h2 := blockG_ok v b r1 hB hb
    generalize blockF b r1 = q2 at *
    obtain ⟨bl, r2⟩ := q2
    simp only at h2 ⊢
    have hR := right_ok ⟨3, T0, T0, bl⟩
    simp only [eDe, cDe, eBl, T0, B0, cT, cBl, eSos, eCos, List.cons_append, List.nil_append, T.kind, T.num, T.kids, List.map_nil] at hR h2 ⊢
    simp -dsimp [x_pile_reader_decl, hh]
    refine callM_of hN (by simp -dsimp [pH, hh]) ?_
    simp -dsimp [mergeK_cons, mergeK_nil, pH, hh]
    refine callM_of h2 (by simp -dsimp [pH, hh]) ?_
    cases hb2 : r2.bad
    · simp -dsimp [mergeK_cons, mergeK_nil, pH, hh, hb2]
      refine call_of hR ?_
      simp -dsimp [pH]
    · simp -dsimp [mergeK_cons, mergeK_nil, pH, hh, hb2]
  · simp only [declB]
    rw [if_neg k1, if_neg k2, if_neg k3]
    have hR := right_ok ⟨k, T0, T0, B0⟩
    simp only [eDe, cDe, T0, B0, cT, cBl, eSos, eCos, List.cons_append, List.nil_append, T.kind, T.num, T.kids, List.map_nil] at hR ⊢
    simp -dsimp [x_pile_reader_decl, hh]
    refine callM_of hN (by simp -dsimp [pH, hh]) ?_
    cases hb2 : r1.bad
    · simp -dsimp [mergeK_cons, mergeK_nil, pH, hh, hb2, k1, k2, k3]
      refine call_of hR ?_
      simp -dsimp [pH]
    · simp -dsimp [mergeK_cons, mergeK_nil, pH, hh, hb2, k1, k2, k3]
def getR (b : List Int) : List De × Rd := repF (declF b) (numF b ⟨0, false⟩).1.toNat ⟨(numF b ⟨0, false⟩).2.p, (numF b ⟨0, false⟩).2.bad || decide (60 < (numF b ⟨0, false⟩).1)⟩
def getOk (b : List Int) : Bool := !(getR b).2.bad && decide ((getR b).2.p = b.length)
set_option maxHeartbeats 4000000 in
theorem getF_ok (b : List Int) (hB : byteL b) : Pure Tryz.prog n_pile_Get [eB b] [if 65536 < (b.length : Int) then eDes [] else if getOk b then eDes (getR b).1 else eDes [], .int .i64 (if 65536 < (b.length : Int) then 3 else if getOk b then 0 else 3)] := by
  refine p_pile_Get rfl fun hs => ?_
  by_cases g : (65536 : Int) < b.length
  · simp -dsimp [x_pile_Get, eB, g, eDes]
  have hb : b.length ≤ 1000000000 := by omega
  have h1 := numG_ok 1 b ⟨0, false⟩ hB hb
  have hrng := numF_rng hB ⟨0, false⟩
  rw [getOk, getR]
  generalize numF b ⟨0, false⟩ = q at *
  obtain ⟨n, p0, b0⟩ := q
  simp only at h1 hrng ⊢
  obtain ⟨m, rfl⟩ : ∃ m : Nat, n = (m : Int) := ⟨n.toNat, by omega⟩
  have hm : m < 256 := by omega
  simp only [Int.toNat_natCast]
  obtain ⟨R0, hR0⟩ : ∃ R0 : Rd, R0 = ⟨p0, b0 || decide (60 < (m : Int))⟩ := ⟨_, rfl⟩
  rw [← hR0]
  have hR0p : R0.p = p0 ∧ R0.bad = (b0 || decide (60 < (m : Int))) := by rw [hR0]; exact ⟨rfl, rfl⟩
  have hfin : ∀ i, i ≤ m → (repF (declF b) i R0).2.bad = true → repF (declF b) m R0 = repF (declF b) i R0 := fun i hi hb => repF_bad _ R0 hb hi
  clear hR0
  simp -dsimp [x_pile_Get, eB, g]
  refine callM_of h1 (by simp -dsimp [pH]) ?_
  have hbd0 : (b0 = true ∧ R0.bad = true) ∨ (b0 = false ∧ R0.bad = decide (60 < (m : Int))) := by
    cases b0
    · exact .inr ⟨rfl, by rw [hR0p.2]; simp⟩
    · exact .inl ⟨rfl, by rw [hR0p.2]; simp⟩
  have hR0q := hR0p.1
  clear hR0p
  subst hR0q
  rcases hbd0 with ⟨rfl, hbR⟩ | ⟨rfl, hbR⟩ <;> simp -dsimp [mergeK_cons, mergeK_nil, pH]
  all_goals
    refine wp_upto m (fun i st => st.s 0 = .d (.sl 1 (b.map (.int .u8))) ∧ st.s 4 = .ptr 12 1 0 ∧ st.s 5 = .d (.int .i64 ((m : Int) - i)) ∧ ∃ q v', q = repF (declF b) i R0 ∧ st.s 6 = .rsl 6 v' ∧ st.h 6 = ⟨v', .row 10 (q.1.map eDe) false⟩ ∧ st.h 12 = ⟨1, .box [.d (.sl 1 (b.map (.int .u8))), .d (.int .i64 q.2.p), .d (.bool q.2.bad)] false⟩) ?_ ?_
    · simp -dsimp [repF, hbR]
    · rintro i ⟨s, hp⟩ hi ⟨e0, e1, e2, q, v', eq, e3, e4, e5⟩
      dsimp only at e0 e1 e2 e3 e4 e5
      have hlen : q.1.length ≤ i := by rw [eq]; exact repF_len _ _ _
      by_cases hstop : i < m ∧ q.2.bad = false
      · obtain ⟨hlt, hbd⟩ := hstop
        have w1 : IntKind.i64.wrap ((m : Int) - i - 1) = (m : Int) - (i + 1 : Nat) := (wrap_id (by omega) (by omega)).trans (by omega)
        have g3 : (0 : Int) < (m : Int) - i := by omega
        have hnx : repF (declF b) (i + 1) R0 = (q.1 ++ [(declF b q.2).1], (declF b q.2).2) := by rw [repF, ← eq, if_neg (by simp [hbd])]
        rw [hnx]
        clear hfin eq
        have hD := declG_ok 1 b q.2 hB hb
        generalize declF b q.2 = z at *
        obtain ⟨d, z⟩ := z
        obtain ⟨ks, p, bd⟩ := q
        simp only at hbd hlen hD e4 e5 ⊢
        subst hbd
        have hr : (ks.length + 1) * 144 ≤ maxRoom := by simp only [maxRoom]; omega
        have hce : (eDe d).cells.length = 10 ∧ ∀ x ∈ (eDe d).cells, (AV.d x).one = true := by
          refine ⟨rfl, fun x hx => ?_⟩
          simp [eDe, cDe, cT, cBl, eSos, eCos, D.cells] at hx
          rcases hx with rfl | rfl | rfl | rfl | rfl | rfl | rfl | rfl | rfl | rfl <;> rfl
        simp -dsimp [e0, e1, e2, e3, e4, e5, g3, hlt]
        refine callM_of hD (by simp -dsimp [pH, e5]) ?_
        simp -dsimp [mergeK_cons, mergeK_nil, pH, e0, e1, e2, e3, e4, e5, hr, hlt, w1]
        rw [if_pos hce]
        simp -dsimp [e0, e1, e2, e3, e4, e5, hr, hlt, w1]
      · have hq : repF (declF b) m R0 = q := by
          rcases Nat.lt_or_ge i m with hlt | hge
          · have hbd : q.2.bad = true := by cases hbd : q.2.bad; exact absurd ⟨hlt, hbd⟩ hstop; rfl
            rw [hfin i hi (by rw [← eq]; exact hbd), ← eq]
          · have e : i = m := by omega
            rw [eq, e]
        have hend : ((0 : Int) < (m : Int) - i ∧ i < m ∧ q.2.bad = true) ∨ (m : Int) - i = 0 := by
          rcases Nat.lt_or_ge i m with hlt | hge
          · exact .inl ⟨by omega, hlt, by cases hbd : q.2.bad; exact absurd ⟨hlt, hbd⟩ hstop; rfl⟩
          · exact .inr (by omega)
        rw [hq]
        clear hfin eq hq hstop
        obtain ⟨ks, p, bd⟩ := q
        simp only at e4 e5 hend ⊢
        rcases hend with ⟨g3, hlt, rfl⟩ | g3
        · simp -dsimp [e0, e1, e2, e3, e4, e5, g3, hlt, eDes]
        · cases bd
          · by_cases hpl : (p : Int) = b.length
            · have hpl' : p = b.length := by omega
              simp -dsimp [e0, e1, e2, e3, e4, e5, g3, eDes, hpl, hpl']
            · have hpl' : ¬ p = b.length := by omega
              simp -dsimp [e0, e1, e2, e3, e4, e5, g3, eDes, hpl, hpl']
          · simp -dsimp [e0, e1, e2, e3, e4, e5, g3, eDes]
end
section
section
attribute [local simp] allD_map_d sks_map_d tk tn tks initA EndsM
structure okAr (a : Ar) : Prop where
  ty : okT a.ty
  dom : okTs a.dom
  sort : n64 a.sort
  idx : okTs a.idx
def okArs (l : List Ar) : Prop := l.length * 104 ≤ 140737488351232 ∧ ∀ x ∈ l, okAr x
structure okSo (s : So) : Prop where
  idx : okArs s.idx
  level : n64 s.level
  dty : okT s.dty
structure okCo (c : Co) : Prop where
  sort : n64 c.sort
  args : okArs c.args
  idx : okTs c.idx
  dec : okT c.dec
structure okBl (b : Bl) : Prop where
  sortsL : b.sorts.length * 80 ≤ 140737488351232
  sorts : ∀ x ∈ b.sorts, okSo x
  consL : b.cons.length * 96 ≤ 140737488351232
  cons : ∀ x ∈ b.cons, okCo x
  elim : n64 b.elim
end
section
attribute [local simp] allD_map_d sks_map_d tk tn tks initA EndsM
end
section
attribute [local simp] allD_map_d sks_map_d tk tn tks initA EndsM
theorem keepArgs_of (l : List Ar) (h : ∀ x ∈ l, Pure Tryz.prog n_porismkeep_Arg [.agg (cAr x), .agg (cAr x)] [.bool true]) : Pure Tryz.prog n_porismkeep_Args [eArs l, eArs l] [.bool true] := by
  refine p_porismkeep_Args rfl fun hs => ?_
  have hl := hs (eArs l) (by simp)
  simp [eArs, small] at hl
  replace hl := hl.1
  simp -dsimp [x_porismkeep_Args, eArs]
  refine wp_upto l.length (fun i st => st.s 0 = .d (.sl 7 (l.map eAr)) ∧ st.s 1 = .d (.sl 7 (l.map eAr)) ∧ st.s 5 = .d (.int .i64 i)) ?_ ?_
  · simp -dsimp
  · rintro i ⟨s, hp⟩ hi ⟨g1, g2, g3⟩
    dsimp only at g1 g2 g3
    rcases Nat.lt_or_ge i l.length with hlt | hge
    · have w1 : IntKind.i64.wrap ((i : Int) + 1) = (i : Int) + 1 := wrap_id (by omega) (by omega)
      simp -dsimp [g1, g2, g3, hlt, cT, eAr, cAr, eTs]
      refine call_of (h l[i] (List.getElem_mem _)) ?_
      simp -dsimp [g1, g2, g3, hlt, w1]
    · have e : i = l.length := by omega
      subst e
      simp -dsimp [g1, g2, g3]
theorem keepArg_ok (a : Ar) : Pure Tryz.prog n_porismkeep_Arg [.agg (cAr a), .agg (cAr a)] [.bool true] := by
  refine p_porismkeep_Arg rfl fun hs => ?_
  simp -dsimp [x_porismkeep_Arg, cAr, cT, eTs]
  refine call_of (keepTerm_ok a.ty) ?_
  simp -dsimp
  refine call_of (keepTerms_ok a.dom) ?_
  simp -dsimp
  refine call_of (keepTerms_ok a.idx) ?_
  simp -dsimp
theorem keepArgs_ok (l : List Ar) : Pure Tryz.prog n_porismkeep_Args [eArs l, eArs l] [.bool true] := keepArgs_of l fun x _ => keepArg_ok x
theorem keepCon_ok (c : Co) : Pure Tryz.prog n_porismkeep_Con [.agg (cCo c), .agg (cCo c)] [.bool true] := by
  refine p_porismkeep_Con rfl fun hs => ?_
  simp -dsimp [x_porismkeep_Con, cCo, cT, eTs, eArs]
  refine call_of (keepArgs_ok c.args) ?_
  simp -dsimp
  refine call_of (keepTerms_ok c.idx) ?_
  simp -dsimp
  refine call_of (keepTerm_ok c.dec) ?_
  simp -dsimp
theorem keepBlock_ok (b : Bl) : Pure Tryz.prog n_porismkeep_Block [eBl b, eBl b] [.bool true] := by
  refine p_porismkeep_Block rfl fun hs => ?_
  have hl := hs (eBl b) (by simp)
  simp -dsimp [eBl, cBl, eSos, eCos, small] at hl
  have hl1 := hl.1.1
  have hl2 := hl.2.1
  simp -dsimp [x_porismkeep_Block, eBl, cBl, eSos, eCos]
  refine wp_upto b.sorts.length (fun i st => st.s 2 = .ptr 2 1 0 ∧ st.h 2 = ⟨1, .box [.d (.sl 6 (b.sorts.map eSo)), .d (.sl 6 (b.cons.map eCo)), .d (.int .i64 b.elim)] false⟩ ∧
    st.s 3 = .ptr 3 1 0 ∧ st.h 3 = ⟨1, .box [.d (.sl 6 (b.sorts.map eSo)), .d (.sl 6 (b.cons.map eCo)), .d (.int .i64 b.elim)] false⟩ ∧ st.s 5 = .d (.int .i64 i)) ?_ ?_
  · simp -dsimp
  · rintro i ⟨s, hp⟩ hi ⟨g1, g2, g3, g4, g5⟩
    dsimp only at g1 g2 g3 g4 g5
    rcases Nat.lt_or_ge i b.sorts.length with hlt | hge
    · have w1 : IntKind.i64.wrap ((i : Int) + 1) = (i : Int) + 1 := wrap_id (by omega) (by omega)
      simp -dsimp [g1, g2, g3, g4, g5, hlt, cT, eSo, cSo, eArs]
      refine call_of (keepArgs_ok b.sorts[i].idx) ?_
      simp -dsimp [g1, g2, g3, g4, g5, hlt, w1, cT]
      refine call_of (keepTerm_ok b.sorts[i].dty) ?_
      simp -dsimp [g1, g2, g3, g4, g5, hlt, w1]
    · have e : i = b.sorts.length := by omega
      subst e
      simp -dsimp [g1, g2, g3, g4, g5]
      clear hi g5
      refine wp_upto b.cons.length (fun i st => st.s 2 = .ptr 2 1 0 ∧ st.h 2 = ⟨1, .box [.d (.sl 6 (b.sorts.map eSo)), .d (.sl 6 (b.cons.map eCo)), .d (.int .i64 b.elim)] false⟩ ∧
        st.s 3 = .ptr 3 1 0 ∧ st.h 3 = ⟨1, .box [.d (.sl 6 (b.sorts.map eSo)), .d (.sl 6 (b.cons.map eCo)), .d (.int .i64 b.elim)] false⟩ ∧ st.s 8 = .d (.int .i64 i)) ?_ ?_
      · simp -dsimp [g1, g2, g3, g4]
      · clear g1 g2 g3 g4 s hp
        rintro i ⟨s, hp⟩ hi ⟨g1, g2, g3, g4, g5⟩
        dsimp only at g1 g2 g3 g4 g5
        rcases Nat.lt_or_ge i b.cons.length with hlt | hge
        · have w1 : IntKind.i64.wrap ((i : Int) + 1) = (i : Int) + 1 := wrap_id (by omega) (by omega)
          simp -dsimp [g1, g2, g3, g4, g5, hlt, cT, eCo, cCo, eArs, eTs]
          refine call_of (keepCon_ok b.cons[i]) ?_
          simp -dsimp [g1, g2, g3, g4, g5, hlt, w1]
        · have e : i = b.cons.length := by omega
          subst e
          simp -dsimp [g1, g2, g3, g4, g5]
end
section
attribute [local simp] allD_map_d sks_map_d tk tn tks initA EndsM
theorem rscoped_ok (t : T) : ∀ v c : Int, Pure Tryz.prog n_porismref01_scoped [.agg (cT t), .int .i64 v, .int .i64 c] [.bool (withinM t v c)] := by
  refine T.ind (p := fun t => ∀ v c : Int, Pure Tryz.prog n_porismref01_scoped [.agg (cT t), .int .i64 v, .int .i64 c] [.bool (withinM t v c)]) ?_ t
  intro k n ks ih v c
  refine p_porismref01_scoped rfl fun hs => ?_
  have hl := kids_small (t := .mk k n ks) (fun d hd => hs d (by simp at hd; simp [hd]))
  simp [T.kids] at hl
  simp -dsimp [x_porismref01_scoped, cT, T.kind, T.num, T.kids]
  (first | refine Ask_b ?_ ?_ | refine Cnd_b ?_ ?_) <;> intro h1 <;> (try simp only [nrm] at h1) <;> simp -dsimp [h1, withinM]
  (first | refine Ask_b ?_ ?_ | refine Cnd_b ?_ ?_) <;> intro h2 <;> (try simp only [nrm] at h2) <;> simp -dsimp [h2, withinM, h1]
  (first | refine Ask_b ?_ ?_ | refine Cnd_b ?_ ?_) <;> intro h3 <;> (try simp only [nrm] at h3) <;> simp -dsimp [h3, withinM, h1, h2]
  have hw : withinM (.mk k n ks) v c = withinL k v c 0 ks := by rw [withinM, if_neg h1, if_neg h2, if_neg h3]
  rw [hw]
  refine wp_upto ks.length (fun i st => st.s 3 = .ptr 3 1 0 ∧ st.h 3 = ⟨1, .box [.d (.int .i64 k), .d (.int .i64 n), .d (.sl 3 (ks.map eT))] false⟩ ∧ st.s 1 = .d (.int .i64 v) ∧ st.s 2 = .d (.int .i64 c) ∧
    st.s 7 = .d (.int .i64 i) ∧ ∀ (j : Nat) (hj : j < ks.length), j < i → withinM ks[j] (w64 (v + bindsM k j)) c = true) ?_ ?_
  · simp -dsimp
  · rintro i ⟨s, hp⟩ hi ⟨g1, g2, g3, g4, g5, g8⟩
    dsimp only at g1 g2 g3 g4 g5
    rcases Nat.lt_or_ge i ks.length with hlt | hge
    · have w1 : IntKind.i64.wrap ((i : Int) + 1) = (i : Int) + 1 := wrap_id (by omega) (by omega)
      simp -dsimp [g1, g2, g3, g4, g5, hlt, cT]
      refine call_of (rbinds_ok k i) ?_
      simp -dsimp [g1, g2, g3, g4, g5, hlt]
      refine call_of (ih ks[i] (List.getElem_mem _) (w64 (v + bindsM k i)) c) ?_
      simp -dsimp [g1, g2, g3, g4, g5, hlt]
      (first | refine Ask_b ?_ ?_ | refine Cnd_b ?_ ?_) <;> intro h4 <;> (try simp only [nrm] at h4) <;> simp -dsimp [h4, g1, g2, g3, g4, g5, hlt, w1]
      · cases hw : withinL k v c 0 ks with
        | false => rfl
        | true =>
          have := (withinL_iff k v c ks 0).1 hw i hlt
          rw [Nat.zero_add, h4] at this
          cases this
      · intro j hj hji
        rcases Nat.lt_or_ge j i with h | h
        · exact g8 j hj h
        · have : j = i := by omega
          subst this
          exact h4
    · have e : i = ks.length := by omega
      subst e
      have : withinL k v c 0 ks = true := (withinL_iff k v c ks 0).2 fun j hj => by simpa using g8 j hj hj
      simp -dsimp [g1, g2, g3, g4, g5, this]
def rscopeM (t : T) (v c : Int) : Bool := if v < 0 then false else if c < 0 then false else if checkM t = 0 then withinM t (if 1048576 < v then 1048576 else v) c else false
theorem rscope_is {t : T} {v c : Int} (h : v ≤ 65536) : rscopeM t v c = scopeM t v c := by
  rw [rscopeM, scopeM, if_neg (show ¬1048576 < v by omega), if_neg (show ¬65536 < v by omega)]
theorem rscope_ok (t : T) (v c : Int) : Pure Tryz.prog n_porismref01_Scope [.agg (cT t), .int .i64 v, .int .i64 c] [.bool (rscopeM t v c)] := by
  refine p_porismref01_Scope rfl fun hs => ?_
  simp -dsimp [x_porismref01_Scope, cT]
  (first | refine Ask_b ?_ ?_ | refine Cnd_b ?_ ?_) <;> intro h1 <;> (try simp only [nrm] at h1) <;> simp -dsimp [h1, rscopeM]
  · (first | refine Ask_b ?_ ?_ | refine Cnd_b ?_ ?_) <;> intro h2 <;> (try simp only [nrm] at h2) <;> simp -dsimp [h2, rscopeM, h1]
    · refine call_of (rcheck_ok t) ?_
      simp -dsimp [h1, h2]
      (first | refine Ask_b ?_ ?_ | refine Cnd_b ?_ ?_) <;> intro h3 <;> (try simp only [nrm] at h3) <;> simp -dsimp [h3, rscopeM, h1, h2]
      · refine call_of (rscoped_ok t _ _) ?_
        have hS : rscopeM t v c = withinM t (if 1048576 < v then 1048576 else v) c := by rw [rscopeM, if_neg (by omega), if_neg (by omega), if_pos h3]
        rw [hS]
        simp -dsimp [h3]
end
section
attribute [local simp] allD_map_d sks_map_d tk tn tks initA EndsM
theorem in7_ok (n lo hi : Int) : Pure Tryz.prog n_porismref07_in [.int .i64 n, .int .i64 lo, .int .i64 hi] [.bool (inB n lo hi)] := by
  refine p_porismref07_in rfl fun hs => ?_
  simp -dsimp [x_porismref07_in, inB]
  (first | refine Ask_b ?_ ?_ | refine Cnd_b ?_ ?_) <;> intro h1 <;> (try simp only [nrm] at h1) <;> simp -dsimp [h1]
theorem none7_ok (t : T) : Pure Tryz.prog n_porismref07_none [.agg (cT t)] [.bool (noneM t)] := by
  refine p_porismref07_none rfl fun hs => ?_
  simp -dsimp [x_porismref07_none, cT]
  (first | refine Ask_b ?_ ?_ | refine Cnd_b ?_ ?_) <;> intro h1 <;> (try simp only [nrm] at h1) <;> simp -dsimp [h1, noneM]
  (first | refine Ask_b ?_ ?_ | refine Cnd_b ?_ ?_) <;> intro h2 <;> (try simp only [nrm] at h2) <;> simp -dsimp [h2, noneM, h1]
theorem open7_ok (t : T) (v : Int) (hv : v ≤ 65536) : Pure Tryz.prog n_porismref07_open [.agg (cT t), .int .i64 v] [.bool (inM t v)] := by
  refine p_porismref07_open rfl fun hs => ?_
  simp -dsimp [x_porismref07_open, cT]
  refine call_of (rscope_ok t v 65536) ?_
  simp -dsimp [inM, rscope_is hv]
theorem arg7_ok (b : Bl) (a : Ar) (i : Int) (h0 : 0 ≤ i) (h1 : i ≤ 1000) : Pure Tryz.prog n_porismref07_arg [eBl b, .agg (cAr a), .int .i64 i] [.bool (argM b a i)] := by
  refine p_porismref07_arg rfl fun hs => ?_
  have hi : ((a.idx.length : Int)) ≤ 9223372036854775807 := by
    have := hs (.agg (cAr a)) (by simp)
    simp -dsimp [cAr, cT, eTs, small] at this
    omega
  simp -dsimp [x_porismref07_arg, eBl, cBl, eSos, eCos, cAr, cT, eTs]
  cases hr : a.rc with
  | false =>
    simp -dsimp [hr]
    refine call_of (open7_ok a.ty i (by omega)) ?_
    simp -dsimp
    (first | refine Ask_b ?_ ?_ | refine Cnd_b ?_ ?_) <;> intro g1 <;> (try simp only [nrm] at g1) <;> simp -dsimp [g1, argM, hr]
    (first | refine Ask_b ?_ ?_ | refine Cnd_b ?_ ?_) <;> intro g2 <;> (try simp only [nrm] at g2) <;> simp -dsimp [g2, argM, hr, g1, w64]
  | true =>
    simp -dsimp [hr]
    refine call_of (none7_ok a.ty) ?_
    simp -dsimp
    (first | refine Ask_b ?_ ?_ | refine Cnd_b ?_ ?_) <;> intro g1 <;> (try simp only [nrm] at g1) <;> simp -dsimp [g1, argM, hr]
    (first | refine Ask_b ?_ ?_ | refine Cnd_b ?_ ?_) <;> intro g2 <;> (try simp only [nrm] at g2) <;> simp -dsimp [g2, argM, hr, g1]
    refine call_of (in7_ok a.sort 0 _) ?_
    have hbl : ((b.sorts.length : Int)) ≤ 9223372036854775807 := by
      have := hs (eBl b) (by simp)
      simp -dsimp [eBl, cBl, eSos, small] at this
      omega
    have wS : IntKind.i64.wrap ((b.sorts.length : Int) - 1) = (b.sorts.length : Int) - 1 := wrap_id (by omega) (by omega)
    simp -dsimp [hr, g1, g2, wS]
    (first | refine Ask_b ?_ ?_ | refine Cnd_b ?_ ?_) <;> intro g3 <;> (try simp only [nrm] at g3) <;> simp -dsimp [g3, hr, g1, g2, wS]
    · have h5 := (inB_not _ _ _).1 g3
      by_cases h6 : a.sort < 0
      · simp -dsimp [argM, hr, g1, g2, h6]
      · have h7 : b.sorts[a.sort.toNat]? = none := List.getElem?_eq_none (by omega)
        simp -dsimp [argM, hr, g1, g2, h6, h7]
    have h5 := (inB_iff _ _ _).1 g3
    have hlt : a.sort.toNat < b.sorts.length := by omega
    have hs0 : 0 ≤ a.sort := h5.1
    have hA : argM b a i = if (a.idx.length : Int) = (b.sorts[a.sort.toNat].idx.length : Int) then domM i a.dom && allM a.idx (w64 (i + a.dom.length)) else false := by
      have : ¬a.sort < 0 := by omega
      simp [argM, hr, g1, g2, hlt, this]
    simp -dsimp [hr, g1, g2, g3, hlt, hs0, eSo, cSo, eArs, cT]
    (first | refine Ask_b ?_ ?_ | refine Cnd_b ?_ ?_) <;> intro g4 <;> (try simp only [nrm] at g4) <;> simp -dsimp [g4, hr, g1, g2, g3, hlt, hs0, eSo, cSo, eArs, cT]
    · rw [hA, if_neg g4]
    rw [hA, if_pos g4]
    have hd : a.dom.length ≤ 12 := by omega
    refine wp_upto a.dom.length (fun j st => st.s 2 = .d (.int .i64 i) ∧ st.s 4 = .ptr 4 1 0 ∧ st.h 4 = ⟨1, .box [.d (.bool true), .d (.int .i64 a.ty.kind), .d (.int .i64 a.ty.num), .d (.sl 3 (a.ty.kids.map eT)), .d (.sl 3 (a.dom.map eT)), .d (.int .i64 a.sort), .d (.sl 3 (a.idx.map eT))] false⟩ ∧
      st.s 7 = .d (.int .i64 j) ∧ ∀ (k : Nat) (hk : k < a.dom.length), k < j → inM a.dom[k] (w64 (i + k)) = true) ?_ ?_
    · simp -dsimp [hr]
    · rintro j ⟨s, hp⟩ hj ⟨f1, f2, f3, f4, f7⟩
      dsimp only at f1 f2 f3 f4
      rcases Nat.lt_or_ge j a.dom.length with hlt | hge
      · have w1 : IntKind.i64.wrap ((j : Int) + 1) = (j : Int) + 1 := wrap_id (by omega) (by omega)
        have w2 : IntKind.i64.wrap (i + (j : Int)) = i + (j : Int) := wrap_id (by omega) (by omega)
        have w3 : w64 (i + (j : Int)) = i + (j : Int) := w2
        simp -dsimp [f1, f2, f3, f4, hlt, cT, w2]
        refine call_of (open7_ok a.dom[j] _ (by omega)) ?_
        simp -dsimp [f1, f2, f3, f4, hlt]
        (first | refine Ask_b ?_ ?_ | refine Cnd_b ?_ ?_) <;> intro h6 <;> (try simp only [nrm] at h6) <;> simp -dsimp [h6, f1, f2, f3, f4, hlt, w1]
        · have : domM i a.dom = false := allI_not (p := fun j t => inM t (w64 (i + j))) hlt (by rw [w3]; exact h6)
          simp [this]
        · exact allI_next (p := fun j t => inM t (w64 (i + j))) hlt f7 (by rw [w3]; exact h6)
      · have e : j = a.dom.length := by omega
        subst e
        have hD : domM i a.dom = true := allI_all f7
        have w2 : IntKind.i64.wrap (i + (a.dom.length : Int)) = i + (a.dom.length : Int) := wrap_id (by omega) (by omega)
        have w3 : w64 (i + (a.dom.length : Int)) = i + (a.dom.length : Int) := w2
        rw [hD, Bool.true_and]
        simp -dsimp [f1, f2, f3, f4]
        clear f4 f7 hj
        refine wp_upto a.idx.length (fun j st => st.s 2 = .d (.int .i64 i) ∧ st.s 4 = .ptr 4 1 0 ∧ st.h 4 = ⟨1, .box [.d (.bool true), .d (.int .i64 a.ty.kind), .d (.int .i64 a.ty.num), .d (.sl 3 (a.ty.kids.map eT)), .d (.sl 3 (a.dom.map eT)), .d (.int .i64 a.sort), .d (.sl 3 (a.idx.map eT))] false⟩ ∧
          st.s 8 = .d (.int .i64 j) ∧ ∀ (k : Nat) (hk : k < a.idx.length), k < j → inM a.idx[k] (i + a.dom.length) = true) ?_ ?_
        · simp -dsimp [f1, f2, f3]
        · clear f1 f2 f3 s hp
          rintro j ⟨s, hp⟩ hj ⟨f1, f2, f3, f4, f7⟩
          dsimp only at f1 f2 f3 f4
          rcases Nat.lt_or_ge j a.idx.length with hlt | hge
          · have w1 : IntKind.i64.wrap ((j : Int) + 1) = (j : Int) + 1 := wrap_id (by omega) (by omega)
            simp -dsimp [f1, f2, f3, f4, hlt, cT, w2]
            refine call_of (open7_ok a.idx[j] _ (by omega)) ?_
            simp -dsimp [f1, f2, f3, f4, hlt]
            (first | refine Ask_b ?_ ?_ | refine Cnd_b ?_ ?_) <;> intro h6 <;> (try simp only [nrm] at h6) <;> simp -dsimp [h6, f1, f2, f3, f4, hlt, w1]
            · rw [allM, w3]
              have : (a.idx.any fun t => !inM t (i + a.dom.length)) = true := any_mem hlt (by simp [h6])
              rw [this]; rfl
            · exact upto_next (p := fun t => inM t (i + a.dom.length)) hlt f7 h6
          · have e : j = a.idx.length := by omega
            subst e
            have hI : allM a.idx (w64 (i + a.dom.length)) = true := by
              rw [allM, w3]
              have := all_next (p := fun t => inM t (i + a.dom.length)) f7
              rw [List.all_eq_not_any_not] at this
              exact this
            simp -dsimp [f1, f2, f3, f4, hI]
theorem con7_ok (b : Bl) (c : Co) : Pure Tryz.prog n_porismref07_con [eBl b, .agg (cCo c)] [.bool (conM b c)] := by
  refine p_porismref07_con rfl fun hs => ?_
  have hi : ((c.idx.length : Int)) ≤ 9223372036854775807 := by
    have := hs (.agg (cCo c)) (by simp)
    simp -dsimp [cCo, cT, eTs, eArs, small] at this
    omega
  have hbl : ((b.sorts.length : Int)) ≤ 9223372036854775807 := by
    have := hs (eBl b) (by simp)
    simp -dsimp [eBl, cBl, eSos, small] at this
    omega
  have wS : IntKind.i64.wrap ((b.sorts.length : Int) - 1) = (b.sorts.length : Int) - 1 := wrap_id (by omega) (by omega)
  simp -dsimp [x_porismref07_con, eBl, cBl, eSos, eCos, cCo, cT, eTs, eArs, wS]
  refine call_of (in7_ok c.sort 0 _) ?_
  simp -dsimp
  (first | refine Ask_b ?_ ?_ | refine Cnd_b ?_ ?_) <;> intro g1 <;> (try simp only [nrm] at g1) <;> simp -dsimp [g1]
  · have h5 := (inB_not _ _ _).1 g1
    by_cases h6 : c.sort < 0
    · simp -dsimp [conM, h6]
    · have h7 : b.sorts[c.sort.toNat]? = none := List.getElem?_eq_none (by omega)
      simp -dsimp [conM, h6, h7]
  have h5 := (inB_iff _ _ _).1 g1
  have hlt : c.sort.toNat < b.sorts.length := by omega
  have hs0 : 0 ≤ c.sort := h5.1
  have hA : conM b c = if rowM b c.args then if (c.idx.length : Int) = (b.sorts[c.sort.toNat].idx.length : Int) then if allM c.idx c.args.length then maybeM b.sorts[c.sort.toNat].dec c.dec c.args.length else false else false else false := by
    have : ¬c.sort < 0 := by omega
    simp [conM, hlt, this]
  (first | refine Ask_b ?_ ?_ | refine Cnd_b ?_ ?_) <;> intro g2 <;> (try simp only [nrm] at g2) <;> simp -dsimp [g2, g1]
  · rw [hA, rowM, if_pos g2]; rfl
  simp -dsimp [g1, g2, hlt, hs0, eSo, cSo, eArs, cT]
  (first | refine Ask_b ?_ ?_ | refine Cnd_b ?_ ?_) <;> intro g3 <;> (try simp only [nrm] at g3) <;> simp -dsimp [g3, g1, g2]
  · rw [hA, if_neg g3]
    split <;> rfl
  have hal : c.args.length ≤ 12 := by omega
  rw [if_pos g3] at hA
  have hR : rowM b c.args = allI (fun i a => argM b a i) 0 c.args := by rw [rowM, if_neg g2]
  rw [hA]
  refine wp_upto c.args.length (fun i st => st.s 2 = .ptr 2 1 0 ∧ st.h 2 = ⟨1, .box [.d (.sl 6 (b.sorts.map eSo)), .d (.sl 6 (b.cons.map eCo)), .d (.int .i64 b.elim)] false⟩ ∧
    st.s 3 = .ptr 3 1 0 ∧ st.h 3 = ⟨1, .box [.d (.int .i64 c.sort), .d (.sl 7 (c.args.map eAr)), .d (.sl 3 (c.idx.map eT)), .d (.int .i64 c.dec.kind), .d (.int .i64 c.dec.num), .d (.sl 3 (c.dec.kids.map eT))] false⟩ ∧
    st.s 5 = .d (.int .i64 i) ∧ ∀ (j : Nat) (hj : j < c.args.length), j < i → argM b c.args[j] j = true) ?_ ?_
  · simp -dsimp
  · rintro i ⟨s, hp⟩ hi ⟨f1, f2, f3, f4, f5, f7⟩
    dsimp only at f1 f2 f3 f4 f5
    rcases Nat.lt_or_ge i c.args.length with hlt' | hge
    · have w1 : IntKind.i64.wrap ((i : Int) + 1) = (i : Int) + 1 := wrap_id (by omega) (by omega)
      simp -dsimp [f1, f2, f3, f4, f5, hlt', eAr, cAr, cT, eTs]
      refine call_of (arg7_ok b c.args[i] i (by omega) (by omega)) ?_
      simp -dsimp [f1, f2, f3, f4, f5, hlt']
      (first | refine Ask_b ?_ ?_ | refine Cnd_b ?_ ?_) <;> intro h6 <;> (try simp only [nrm] at h6) <;> simp -dsimp [h6, f1, f2, f3, f4, f5, hlt', w1]
      · intro h
        rw [hR, allI_not (p := fun i a => argM b a i) hlt' h6] at h
        cases h
      · exact allI_next (p := fun i a => argM b a i) hlt' f7 h6
    · have e : i = c.args.length := by omega
      subst e
      have hD : rowM b c.args = true := by rw [hR]; exact allI_all (p := fun i a => argM b a i) f7
      rw [if_pos hD]
      simp -dsimp [f1, f2, f3, f4, f5]
      clear f5 f7 hi
      refine wp_upto c.idx.length (fun i st => st.s 2 = .ptr 2 1 0 ∧ st.h 2 = ⟨1, .box [.d (.sl 6 (b.sorts.map eSo)), .d (.sl 6 (b.cons.map eCo)), .d (.int .i64 b.elim)] false⟩ ∧
        st.s 3 = .ptr 3 1 0 ∧ st.h 3 = ⟨1, .box [.d (.int .i64 c.sort), .d (.sl 7 (c.args.map eAr)), .d (.sl 3 (c.idx.map eT)), .d (.int .i64 c.dec.kind), .d (.int .i64 c.dec.num), .d (.sl 3 (c.dec.kids.map eT))] false⟩ ∧
        st.s 6 = .d (.int .i64 i) ∧ ∀ (j : Nat) (hj : j < c.idx.length), j < i → inM c.idx[j] c.args.length = true) ?_ ?_
      · simp -dsimp [f1, f2, f3, f4]
      · clear f1 f2 f3 f4 s hp
        rintro i ⟨s, hp⟩ hi ⟨f1, f2, f3, f4, f5, f7⟩
        dsimp only at f1 f2 f3 f4 f5
        rcases Nat.lt_or_ge i c.idx.length with hlt' | hge
        · have w1 : IntKind.i64.wrap ((i : Int) + 1) = (i : Int) + 1 := wrap_id (by omega) (by omega)
          simp -dsimp [f1, f2, f3, f4, f5, hlt', cT]
          refine call_of (open7_ok c.idx[i] _ (by omega)) ?_
          simp -dsimp [f1, f2, f3, f4, f5, hlt']
          (first | refine Ask_b ?_ ?_ | refine Cnd_b ?_ ?_) <;> intro h6 <;> (try simp only [nrm] at h6) <;> simp -dsimp [h6, f1, f2, f3, f4, f5, hlt', w1]
          · intro h
            have : (c.idx.any fun t => !inM t c.args.length) = true := any_mem hlt' (by simp [h6])
            rw [allM, this] at h
            cases h
          · exact upto_next (p := fun t => inM t c.args.length) hlt' f7 h6
        · have e : i = c.idx.length := by omega
          subst e
          have hI : allM c.idx c.args.length = true := by
            rw [allM]
            have := all_next (p := fun t => inM t c.args.length) f7
            rw [List.all_eq_not_any_not] at this
            exact this
          rw [if_pos hI]
          simp -dsimp [f1, f2, f3, f4, f5, hlt, hs0, eSo, cSo, eArs, cT]
          (first | refine Ask_b ?_ ?_ | refine Cnd_b ?_ ?_) <;> intro g6 <;> (try simp only [nrm] at g6) <;> simp -dsimp [g6, f1, f2, f3, f4, f5, maybeM]
          · refine call_of (open7_ok c.dec _ (by omega)) ?_
            simp -dsimp [f1, f2, f3, f4, f5, maybeM, g6]
          · refine call_of (none7_ok c.dec) ?_
            simp -dsimp [f1, f2, f3, f4, f5, maybeM, g6]
theorem checkB_zero (b : Bl) : checkB b = 0 ↔ 1 ≤ b.sorts.length ∧ b.sorts.length ≤ 4 ∧ b.cons.length ≤ 8 ∧ levelM b.elim = true ∧ (∀ (j : Nat) (hj : j < b.sorts.length), sortM b j b.sorts[j] = true) ∧ ∀ c ∈ b.cons, conM b c = true := by
  have ha : allI (fun k s => sortM b k s) 0 b.sorts = true ↔ ∀ (j : Nat) (hj : j < b.sorts.length), sortM b j b.sorts[j] = true := by
    rw [allI_iff]
    simp
  rw [checkB]
  by_cases h1 : (b.sorts.length : Int) < 1
  · rw [if_pos h1]
    constructor
    · intro h; simp at h
    · rintro ⟨h, _⟩; omega
  rw [if_neg h1]
  by_cases h2 : 4 < (b.sorts.length : Int)
  · rw [if_pos h2]
    constructor
    · intro h; simp at h
    · rintro ⟨_, h, _⟩; omega
  rw [if_neg h2]
  by_cases h3 : 8 < (b.cons.length : Int)
  · rw [if_pos h3]
    constructor
    · intro h; simp at h
    · rintro ⟨_, _, h, _⟩; omega
  rw [if_neg h3, ← ha]
  cases hl : levelM b.elim with
  | false => simp
  | true =>
    cases hs : allI (fun k s => sortM b k s) 0 b.sorts with
    | false => simp
    | true =>
      have hc : (b.cons.any fun c => !conM b c) = false ↔ ∀ c ∈ b.cons, conM b c = true := by
        rw [List.any_eq_false]
        simp
      cases hq : b.cons.any fun c => !conM b c with
      | false =>
        simp only [hq] at hc ⊢
        simp only [if_true]
        exact ⟨fun _ => ⟨by omega, by omega, by omega, trivial, trivial, hc.1 trivial⟩, fun _ => rfl⟩
      | true =>
        simp only [hq] at hc ⊢
        simp only [if_true]
        constructor
        · intro h; simp at h
        · rintro ⟨_, _, _, _, _, h⟩
          exact absurd (hc.2 h) (by simp)
def shapeR (b : Bl) : Bool := decide (checkB b = 0)
theorem levelM_is (n : Int) : levelM n = inB n 0 6 := rfl
theorem sortM_true (b : Bl) (k : Nat) (s : So) : sortM b k s = true ↔ rowM b s.idx = true ∧ levelM s.level = true ∧ maybeM s.dec s.dty s.idx.length = true ∧ ∀ a ∈ s.idx, sortBad k s a = false := by
  rw [sortM]
  cases rowM b s.idx <;> cases levelM s.level <;> cases maybeM s.dec s.dty s.idx.length <;> simp
theorem sortM_false {b : Bl} {k : Nat} {s : So} {p : Prop} (hn : ¬p) (h : sortM b k s = true → p) : sortM b k s = false := by
  cases hq : sortM b k s with
  | false => rfl
  | true => exact absurd (h hq) hn
theorem upto_nextF {α : Type} {p : α → Bool} {l : List α} {i : Nat} (hi : i < l.length) (h : ∀ (j : Nat) (hj : j < l.length), j < i → p l[j] = false) (hx : p l[i] = false) :
    ∀ (j : Nat) (hj : j < l.length), j < i + 1 → p l[j] = false := by
  intro j hj hji
  rcases Nat.lt_or_ge j i with h' | h'
  · exact h j hj h'
  · have : j = i := by omega
    subst this
    exact hx
def bad0 (k : Int) (a : Ar) : Bool := if a.rc then if 0 < (a.dom.length : Int) then true else decide (k ≤ a.sort) else false
theorem any_take {l : List Ar} {j : Nat} (h : j < l.length) : (l.take (j + 1)).any (·.rc) = ((l.take j).any (·.rc) || l[j].rc) := by
  rw [take_snoc (List.getElem?_eq_getElem h), List.any_append]
  simp
theorem sortBad_of {k : Int} {s : So} {a : Ar} (h : bad0 k a = false) (hd : a.rc = true → s.dec = false) : sortBad k s a = false := by
  rw [bad0] at h
  rw [sortBad]
  cases hr : a.rc with
  | false => rfl
  | true =>
    simp only [hr, if_true] at h ⊢
    by_cases c : 0 < (a.dom.length : Int)
    · rw [if_pos c] at h; cases h
    · rw [if_neg c] at h ⊢
      have c2 : ¬k ≤ a.sort := by simpa using h
      rw [if_neg c2]
      exact hd hr
theorem shape7_ok (b : Bl) : Pure Tryz.prog n_porismref07_Shape [eBl b] [.bool (shapeR b)] := by
  refine p_porismref07_Shape rfl fun hs => ?_
  have hbl : ((b.sorts.length : Int)) ≤ 9223372036854775807 := by
    have := hs (eBl b) (by simp)
    simp -dsimp [eBl, cBl, eSos, small] at this
    omega
  have no : ∀ {p : Prop}, ¬p → (checkB b = 0 → p) → shapeR b = false := fun hn hp => by
    rw [shapeR, decide_eq_false_iff_not]
    exact fun h => hn (hp h)
  simp -dsimp [x_porismref07_Shape, eBl, cBl, eSos, eCos]
  refine call_of (in7_ok _ 1 4) ?_
  simp -dsimp
  (first | refine Ask_b ?_ ?_ | refine Cnd_b ?_ ?_) <;> intro g1 <;> (try simp only [nrm] at g1) <;> simp -dsimp [g1]
  · refine no (p := 1 ≤ b.sorts.length ∧ b.sorts.length ≤ 4) ?_ fun h => ⟨((checkB_zero b).1 h).1, ((checkB_zero b).1 h).2.1⟩
    have := (inB_not _ _ _).1 g1
    omega
  (first | refine Ask_b ?_ ?_ | refine Cnd_b ?_ ?_) <;> intro g2 <;> (try simp only [nrm] at g2) <;> simp -dsimp [g2, g1]
  · exact no (p := b.cons.length ≤ 8) (by omega) fun h => ((checkB_zero b).1 h).2.2.1
  refine call_of (in7_ok b.elim 0 6) ?_
  simp -dsimp [g1, g2]
  (first | refine Ask_b ?_ ?_ | refine Cnd_b ?_ ?_) <;> intro g3 <;> (try simp only [nrm] at g3) <;> simp -dsimp [g3, g1, g2]
  · exact no (p := levelM b.elim = true) (by rw [levelM_is, g3]; simp) fun h => ((checkB_zero b).1 h).2.2.2.1
  have hS := (inB_iff _ _ _).1 g1
  have hSl : b.sorts.length ≤ 4 := by omega
  have hCl : b.cons.length ≤ 8 := by omega
  refine wp_upto b.sorts.length (fun i st => st.s 1 = .ptr 1 1 0 ∧ st.h 1 = ⟨1, .box [.d (.sl 6 (b.sorts.map eSo)), .d (.sl 6 (b.cons.map eCo)), .d (.int .i64 b.elim)] false⟩ ∧ st.s 3 = .d (.int .i64 i) ∧
    ∀ (j : Nat) (hj : j < b.sorts.length), j < i → sortM b j b.sorts[j] = true) ?_ ?_
  · simp -dsimp
  · rintro i ⟨s, hp⟩ hi ⟨f1, f2, f3, f4⟩
    dsimp only at f1 f2 f3
    rcases Nat.lt_or_ge i b.sorts.length with hlt | hge
    · have w1 : IntKind.i64.wrap ((i : Int) + 1) = (i : Int) + 1 := wrap_id (by omega) (by omega)
      simp -dsimp [f1, f2, f3, hlt, eSo, cSo, cT, eArs]
      have noS : sortM b i b.sorts[i] = false → shapeR b = false := fun hx =>
        no (p := sortM b i b.sorts[i] = true) (by rw [hx]; simp) fun h => ((checkB_zero b).1 h).2.2.2.2.1 i hlt
      have hR : ¬12 < (b.sorts[i].idx.length : Int) → rowM b b.sorts[i].idx = allI (fun i a => argM b a i) 0 b.sorts[i].idx := fun h => by rw [rowM, if_neg h]
      generalize hsi : b.sorts[i] = s at noS hR ⊢
      (first | refine Ask_b ?_ ?_ | refine Cnd_b ?_ ?_) <;> intro g4 <;> (try simp only [nrm] at g4) <;> simp -dsimp [g4, f1, f2, f3, hlt]
      · exact noS (sortM_false (p := rowM b s.idx = true) (by rw [rowM, if_pos g4]; simp) fun h => ((sortM_true b i s).1 h).1)
      refine call_of (in7_ok s.level 0 6) ?_
      simp -dsimp [g4]
      (first | refine Ask_b ?_ ?_ | refine Cnd_b ?_ ?_) <;> intro g5 <;> (try simp only [nrm] at g5) <;> simp -dsimp [g5, f1, f2, f3, hlt, g4]
      · exact noS (sortM_false (p := levelM s.level = true) (by rw [levelM_is, g5]; simp) fun h => ((sortM_true b i s).1 h).2.1)
      replace hR := hR g4
      have hsl : s.idx.length ≤ 12 := by omega
      generalize (hp 4).ver + 1 = v
      refine wp_upto s.idx.length (fun j st => st.s 1 = .ptr 1 1 0 ∧ st.h 1 = ⟨1, .box [.d (.sl 6 (b.sorts.map eSo)), .d (.sl 6 (b.cons.map eCo)), .d (.int .i64 b.elim)] false⟩ ∧ st.s 3 = .d (.int .i64 i) ∧
        st.s 4 = .ptr 4 v 0 ∧ st.h 4 = ⟨v, .box [.d (.sl 7 (s.idx.map eAr)), .d (.int .i64 s.level), .d (.bool s.dec), .d (.int .i64 s.dty.kind), .d (.int .i64 s.dty.num), .d (.sl 3 (s.dty.kids.map eT))] false⟩ ∧
        st.s 6 = .d (.int .i64 j) ∧ st.s 5 = .d (.bool ((s.idx.take j).any (·.rc))) ∧ (∀ (k : Nat) (hk : k < s.idx.length), k < j → argM b s.idx[k] k = true) ∧ ∀ (k : Nat) (hk : k < s.idx.length), k < j → bad0 i s.idx[k] = false) ?_ ?_
      · simp -dsimp [f1, f2, f3]
      · clear f1 f2 f3 hp
        rintro j ⟨s', hp⟩ hj ⟨e1, e2, e3, e4, e5, e6, e7, e8, e9⟩
        dsimp only at e1 e2 e3 e4 e5 e6 e7
        rcases Nat.lt_or_ge j s.idx.length with hlt' | hge
        · have w2 : IntKind.i64.wrap ((j : Int) + 1) = (j : Int) + 1 := wrap_id (by omega) (by omega)
          simp -dsimp [e1, e2, e3, e4, e5, e6, e7, hlt', eAr, cAr, cT, eTs]
          refine call_of (arg7_ok b s.idx[j] j (by omega) (by omega)) ?_
          simp -dsimp [e1, e2, e3, e4, e5, e6, e7, hlt', eAr, cAr, cT, eTs]
          (first | refine Ask_b ?_ ?_ | refine Cnd_b ?_ ?_) <;> intro c1 <;> (try simp only [nrm] at c1) <;> simp -dsimp [c1, e1, e2, e3, e4, e5, e6, e7, hlt', eAr, cAr, cT, eTs]
          · refine noS (sortM_false (p := rowM b s.idx = true) ?_ fun h => ((sortM_true b i s).1 h).1)
            rw [hR, allI_not (p := fun i a => argM b a i) hlt' c1]
            simp
          have hany := any_take hlt'
          have hbad : bad0 i s.idx[j] = true → shapeR b = false := fun hb => by
            refine noS (sortM_false (p := sortBad i s s.idx[j] = false) ?_ fun h => ((sortM_true b i s).1 h).2.2.2 _ (List.getElem_mem _))
            rw [bad0] at hb
            rw [sortBad]
            cases hr : s.idx[j].rc with
            | false => simp [hr] at hb
            | true =>
              simp only [hr, if_true] at hb ⊢
              by_cases c2 : 0 < (s.idx[j].dom.length : Int)
              · rw [if_pos c2]; simp
              · rw [if_neg c2] at hb
                have c3 : (i : Int) ≤ s.idx[j].sort := by simpa using hb
                rw [if_neg c2, if_pos c3]; simp
          generalize (s.idx.take j).any (·.rc) = R at e7 hany
          cases hr : s.idx[j].rc with
          | false =>
            rw [hr] at hany
            have hb0 : bad0 i s.idx[j] = false := by simp [bad0, hr]
            cases R <;> simp -dsimp [e1, e2, e3, e4, e5, e6, e7, hlt', eAr, cAr, cT, eTs, hr, hany, w2, c1] <;> exact ⟨allI_next (p := fun i a => argM b a i) hlt' e8 c1, upto_nextF hlt' e9 hb0⟩
          | true =>
            rw [hr] at hany
            simp -dsimp [e1, e2, e3, e4, e5, e6, e7, hlt', eAr, cAr, cT, eTs, hr, hany, w2, c1]
            (first | refine Ask_b ?_ ?_ | refine Cnd_b ?_ ?_) <;> intro c2 <;> (try simp only [nrm] at c2) <;> simp -dsimp [c2, e1, e2, e3, e4, e5, e6, e7, hlt', eAr, cAr, cT, eTs, hr, hany, w2, c1]
            · exact hbad (by simp only [bad0, hr, if_true]; rw [if_pos (by omega)])
            (first | refine Ask_b ?_ ?_ | refine Cnd_b ?_ ?_) <;> intro c3 <;> (try simp only [nrm] at c3) <;> simp -dsimp [c3, e1, e2, e3, e4, e5, e6, e7, hlt', eAr, cAr, cT, eTs, hr, hany, w2, c1, c2]
            · exact hbad (by simp only [bad0, hr, if_true]; rw [if_neg (by omega)]; simpa using c3)
            have hb0 : bad0 i s.idx[j] = false := by
              simp only [bad0, hr, if_true]
              rw [if_neg (by omega)]
              simp
              omega
            cases R <;> simp -dsimp [e1, e2, e3, e4, e5, e6, e7, hlt', eAr, cAr, cT, eTs, hr, hany, w2, c1, c2, c3] <;> exact ⟨allI_next (p := fun i a => argM b a i) hlt' e8 c1, upto_nextF hlt' e9 hb0⟩
        · have e : j = s.idx.length := by omega
          subst e
          rw [List.take_length] at e7
          have hRow : rowM b s.idx = true := by rw [hR]; exact allI_all (p := fun i a => argM b a i) e8
          have hLev : levelM s.level = true := g5
          have hbads : ∀ a ∈ s.idx, bad0 i a = false := fun a ha => by
            obtain ⟨k, hk, rfl⟩ := List.mem_iff_getElem.1 ha
            exact e9 k hk hk
          have next : sortM b i s = true → ∀ (k : Nat) (hk : k < b.sorts.length), k < i + 1 → sortM b k b.sorts[k] = true := fun h => allI_next (p := fun k s => sortM b k s) hlt f4 (by rw [hsi]; exact h)
          simp -dsimp [e1, e2, e3, e4, e5, e6, e7]
          cases hd : s.dec with
          | false =>
            simp -dsimp [e1, e2, e3, e4, e5, e6, e7, hd]
            refine call_of (none7_ok s.dty) ?_
            simp -dsimp [e1, e2, e3, e4, e5, e6, e7, hd]
            (first | refine Ask_b ?_ ?_ | refine Cnd_b ?_ ?_) <;> intro c4 <;> (try simp only [nrm] at c4) <;> simp -dsimp [c4, e1, e2, e3, e4, e5, e6, e7, hd, w1]
            · exact noS (sortM_false (p := maybeM s.dec s.dty s.idx.length = true) (by rw [maybeM, hd]; simp [c4]) fun h => ((sortM_true b i s).1 h).2.2.1)
            · exact ⟨hlt, next ((sortM_true b i s).2 ⟨hRow, hLev, by rw [maybeM, hd]; exact c4, fun a ha => sortBad_of (hbads a ha) fun _ => hd⟩)⟩
          | true =>
            cases hrec : s.idx.any (·.rc) with
            | true =>
              rw [hrec] at e7
              simp -dsimp [e1, e2, e3, e4, e5, e6, e7, hd]
              obtain ⟨a, ha, har⟩ := List.any_eq_true.1 hrec
              refine noS (sortM_false (p := sortBad i s a = false) ?_ fun h => ((sortM_true b i s).1 h).2.2.2 a ha)
              have har : a.rc = true := har
              simp [sortBad, har, hd]
            | false =>
              rw [hrec] at e7
              simp -dsimp [e1, e2, e3, e4, e5, e6, e7, hd]
              refine call_of (open7_ok s.dty _ (by omega)) ?_
              simp -dsimp [e1, e2, e3, e4, e5, e6, e7, hd]
              (first | refine Ask_b ?_ ?_ | refine Cnd_b ?_ ?_) <;> intro c4 <;> (try simp only [nrm] at c4) <;> simp -dsimp [c4, e1, e2, e3, e4, e5, e6, e7, hd, w1]
              · exact noS (sortM_false (p := maybeM s.dec s.dty s.idx.length = true) (by rw [maybeM, hd]; simp [c4]) fun h => ((sortM_true b i s).1 h).2.2.1)
              · exact ⟨hlt, next ((sortM_true b i s).2 ⟨hRow, hLev, by rw [maybeM, hd]; exact c4, fun a ha => sortBad_of (hbads a ha) fun har => absurd har (by simpa using List.any_eq_false.1 hrec a ha)⟩)⟩
    · have e : i = b.sorts.length := by omega
      subst e
      simp -dsimp [f1, f2, f3]
      clear f3 hi
      refine wp_upto b.cons.length (fun i st => st.s 1 = .ptr 1 1 0 ∧ st.h 1 = ⟨1, .box [.d (.sl 6 (b.sorts.map eSo)), .d (.sl 6 (b.cons.map eCo)), .d (.int .i64 b.elim)] false⟩ ∧ st.s 7 = .d (.int .i64 i) ∧
        ∀ (j : Nat) (hj : j < b.cons.length), j < i → conM b b.cons[j] = true) ?_ ?_
      · simp -dsimp [f1, f2]
      · clear f1 f2 s hp
        rintro i ⟨s, hp⟩ hi ⟨f1, f2, f3, f5⟩
        dsimp only at f1 f2 f3
        rcases Nat.lt_or_ge i b.cons.length with hlt | hge
        · have w1 : IntKind.i64.wrap ((i : Int) + 1) = (i : Int) + 1 := wrap_id (by omega) (by omega)
          simp -dsimp [f1, f2, f3, hlt, eCo, cCo, cT, eArs, eTs]
          refine call_of (con7_ok b b.cons[i]) ?_
          simp -dsimp [f1, f2, f3, hlt]
          (first | refine Ask_b ?_ ?_ | refine Cnd_b ?_ ?_) <;> intro h6 <;> (try simp only [nrm] at h6) <;> simp -dsimp [h6, f1, f2, f3, hlt, w1]
          · exact no (p := conM b b.cons[i] = true) (by rw [h6]; simp) fun h => ((checkB_zero b).1 h).2.2.2.2.2 _ (List.getElem_mem _)
          · exact upto_next (p := conM b) hlt f5 h6
        · have e : i = b.cons.length := by omega
          subst e
          have hAll : shapeR b = true := by
            rw [shapeR, decide_eq_true_eq, checkB_zero]
            refine ⟨by omega, by omega, hCl, g3, fun j hj => f4 j hj hj, fun c hc => ?_⟩
            obtain ⟨k, hk, rfl⟩ := List.mem_iff_getElem.1 hc
            exact f5 k hk hk
          simp -dsimp [f1, f2, f3, hAll]
end
section
attribute [local simp] allD_map_d sks_map_d tk tn tks initA EndsM
end
section
attribute [local simp] allD_map_d sks_map_d tk tn tks initA EndsM
end
section
attribute [local simp] allD_map_d sks_map_d tk tn tks initA EndsM
end
end
section
attribute [local simp] allD_map_d sks_map_d tk tn tks initA EndsM
theorem keepDecl_ok (d : De) : Pure Tryz.prog n_porismkeep_Decl [eDe d, eDe d] [.bool true] := by
  refine p_porismkeep_Decl rfl fun hs => ?_
  have h1 := keepTerm_ok d.ty
  have h2 := keepTerm_ok d.body
  have h3 := keepBlock_ok d.bl
  simp only [cT, eBl, cBl, eSos, eCos] at h1 h2 h3
  simp -dsimp [x_porismkeep_Decl, eDe, cDe, cT, cBl, eSos, eCos]
  refine call_of h1 ?_
  simp -dsimp
  refine call_of h2 ?_
  simp -dsimp
  refine call_of h3 ?_
  simp -dsimp
theorem keepDecls_ok (l : List De) : Pure Tryz.prog n_porismkeep_Decls [eDes l, eDes l] [.bool true] := by
  refine p_porismkeep_Decls rfl fun hs => ?_
  have hl := hs (eDes l) (by simp)
  simp [eDes, small] at hl
  replace hl := hl.1
  simp -dsimp [x_porismkeep_Decls, eDes]
  refine wp_upto l.length (fun i st => st.s 0 = .d (.sl 10 (l.map eDe)) ∧ st.s 1 = .d (.sl 10 (l.map eDe)) ∧ st.s 5 = .d (.int .i64 i)) ?_ ?_
  · simp -dsimp
  · rintro i ⟨s, hp⟩ hi ⟨g1, g2, g3⟩
    dsimp only at g1 g2 g3
    rcases Nat.lt_or_ge i l.length with hlt | hge
    · have w1 : IntKind.i64.wrap ((i : Int) + 1) = (i : Int) + 1 := wrap_id (by omega) (by omega)
      have hD := keepDecl_ok l[i]
      simp only [eDe, cDe, cT, cBl, eSos, eCos, List.cons_append, List.nil_append] at hD
      simp -dsimp [g1, g2, g3, hlt, eDe, cDe, cT, cBl, eSos, eCos]
      refine call_of hD ?_
      simp -dsimp [g1, g2, g3, hlt, w1, eDe, cDe, cT, cBl, eSos, eCos]
    · have e : i = l.length := by omega
      subst e
      simp -dsimp [g1, g2, g3]
def uT (n : Int) : T := .mk 2 n []
theorem u_ok (n : Int) : Pure Tryz.prog n_porismref01_U [.int .i64 n] [.agg (cT (uT n))] := by
  refine p_porismref01_U rfl fun hs => ?_
  simp -dsimp [x_porismref01_U, cT, uT]
theorem uT_gt {n : Int} (h0 : 0 ≤ n) (h1 : n ≤ 65535) : Gt (uT n) := ⟨fm_leaf_of (by decide) h0 h1, by simp [uT, nodes], by simp [uT, depthN, dmax]⟩
theorem uT_pk {n : Int} (h0 : 0 ≤ n) (h1 : n ≤ 255) : pk (uT n) = [2, 0, n] := by
  rw [uT, pk, if_pos (by decide)]
  have : n.fdiv 256 = 0 := by rw [Int.fdiv_eq_ediv_of_nonneg _ (by omega)]; omega
  rw [this, u8_id h0 (by omega)]
  rfl
end
section
attribute [local simp] allD_map_d sks_map_d tk tn tks initA EndsM
def W0 : Bl → List (List Int) := fun _ => []
theorem putG_ok (l : List De) (hl : l.length ≤ 60) (hG : ∀ d ∈ l, Gd d) (hb : ((l.map dB).flatten).length + 1 ≤ 65536) : Pure Tryz.prog n_pile_Put [eDes l] [eB (u8 l.length :: (l.map dB).flatten), .int .i64 0] := by
  have hW : putW W0 l = u8 l.length :: (l.map dB).flatten := by
    rw [putW]
    congr 1
    induction l with
    | nil => rfl
    | cons d l ih =>
      simp only [List.map_cons, List.flatten_cons, List.flatten_append, List.length_append, List.length_cons] at hb hl ⊢
      rw [ih (by omega) (fun x hx => hG x (by simp [hx])) (by omega)]
      rfl
  have hbad : badD l = false := by
    rw [badD, List.any_eq_false]
    intro d hd
    simp [(hG d hd).right]
  have hlen : (putW W0 l).length ≤ 65536 := by rw [hW]; simpa using hb
  have h := putD_ok W0 l (fun _ d hd => by
    rcases hG d hd with ⟨t, ht, rfl⟩ | ⟨t, u, ht, hu, rfl⟩
    · have := ht.n
      exact ⟨by show nodes t ≤ _; omega, by show nodes T0 ≤ _; simp [T0, nodes]⟩
    · have := ht.n
      have := hu.n
      exact ⟨by show nodes t ≤ _; omega, by show nodes u ≤ _; omega⟩) (fun d hd _ k1 k2 => by
    rcases hG d hd with ⟨t, ht, rfl⟩ | ⟨t, u, ht, hu, rfl⟩
    · exact (k1 rfl).elim
    · exact (k2 rfl).elim) fun _ _ => by omega
  have e1 : putL W0 l = putW W0 l := by rw [putL, if_neg (by omega), hbad]; simp only [Bool.false_eq_true, if_false]; rw [if_neg (by omega)]
  have e2 : putE W0 l = 0 := by rw [putE, if_neg (by omega), hbad]; simp only [Bool.false_eq_true, if_false]; rw [if_neg (by omega)]
  rw [e1, e2, hW] at h
  exact h
theorem wakes22_ok : Pure Tryz.prog n_porismlaw22_wakes [] [.bool true] := by
  refine p_porismlaw22_wakes rfl fun hs => ?_
  have hU := u_ok 0
  have ht := uT_gt (n := 0) (by omega) (by omega)
  have hdB : ([De.ax (uT 0)].map dB).flatten = [1, 2, 0, 0] := by simp [dB_ax ht, uT_pk]
  have hP := putG_ok [.ax (uT 0)] (by simp) (fun d hd => by simp at hd; subst hd; exact .inl ⟨_, ht, rfl⟩) (by rw [hdB]; simp)
  have hG := getD_ok [.ax (uT 0)] (fun d hd => by simp at hd; subst hd; exact .inl ⟨_, ht, rfl⟩) (by simp) (by rw [hdB]; simp)
  have hD := keepDecls_ok [.ax (uT 0)]
  have hB := keepBytes_ok [1, 1, 2, 0, 0] [1, 1, 2, 0, 0]
  have hC := checkD_ok (.ax (uT 0))
  have hR : rightM (.ax (uT 0)) = true := Gd.right (.inl ⟨_, ht, rfl⟩)
  have hu : u8 ([De.ax (uT 0)].length : Nat) = 1 := rfl
  rw [hdB, hu] at hP hG
  rw [hR] at hC
  simp only [eDes, eB, List.map_cons, List.map_nil, eDe, cDe, De.ax, uT, T0, B0, cT, cBl, eSos, eCos, T.kind, T.num, T.kids, List.cons_append, List.nil_append, decide_true, if_true] at hU hP hG hD hB hC
  simp -dsimp [x_porismlaw22_wakes]
  refine call_of hU ?_
  simp -dsimp
  refine call_of hP ?_
  simp -dsimp
  refine call_of hG ?_
  simp -dsimp
  refine call_of hB ?_
  simp -dsimp
  refine call_of hD ?_
  simp -dsimp
  refine call_of hC ?_
  simp -dsimp
end
section
section
attribute [local simp] allD_map_d sks_map_d tk tn tks initA EndsM
structure okDe (d : De) : Prop where
  kind : n64 d.kind
  ty : okT d.ty
  body : okT d.body
  bl : okBl d.bl
theorem none_iff (t : T) : noneM t = true ↔ t = T0 := by
  obtain ⟨k, n, ks⟩ := t
  simp [noneM, T0, T.kind, T.num, T.kids]
theorem none_bad {t : T} (h : noneM t = true) : ¬ checkM t = 0 := by
  rw [(none_iff t).1 h]
  intro hc
  have := (fm_kind (((check_iff (t := T0) (by simp [T0, nodes])).1 hc).2.2)).1
  omega
theorem none20_ok (t : T) : Pure Tryz.prog n_porismref20_none [.agg (cT t)] [.bool (noneM t)] := by
  refine p_porismref20_none rfl fun hs => ?_
  have h := keepTerm2_ok t T0
  have e : eqT t T0 = noneM t := by
    rw [Bool.eq_iff_iff, eqT_iff, none_iff]
  rw [e] at h
  simp only [cT, T0, T.kind, T.num, T.kids, List.map_nil] at h
  simp -dsimp [x_porismref20_none, cT]
  refine call_of h ?_
  simp -dsimp
theorem plain_iff (b : Bl) : plainB b = true ↔ b = B0 := by
  obtain ⟨s, c, e⟩ := b
  rw [plainB]
  simp only [B0]
  constructor
  · intro h
    split at h
    · split at h
      · simp at h
        rename_i h1 h2
        simp at h1 h2
        rw [h1, h2, h]
      · cases h
    · cases h
  · intro h
    cases h
    rfl
theorem keepBlock0_ok (b : Bl) : Pure Tryz.prog n_porismkeep_Block [eBl b, .agg [.sl 6 [], .sl 6 [], .int .i64 0]] [.bool (plainB b)] := by
  cases g : plainB b
  · refine p_porismkeep_Block rfl fun hs => ?_
    have hn : ¬ b = B0 := fun h => by rw [(plain_iff b).2 h] at g; cases g
    obtain ⟨s, c, e⟩ := b
    simp -dsimp [x_porismkeep_Block, eBl, cBl, eSos, eCos]
    cases s with
    | cons a l =>
      have g : ¬ ((l.length : Int) + 1 = 0) := by omega
      simp -dsimp [g]
    | nil =>
      cases c with
      | cons a l =>
        have g : ¬ ((l.length : Int) + 1 = 0) := by omega
        simp -dsimp [g]
      | nil =>
        have g : ¬ e = 0 := fun h => hn (by rw [h]; rfl)
        simp -dsimp [g]
  · have := (plain_iff b).1 g
    subst this
    exact keepBlock_ok B0
def finM (d : De) (n : Int) : Int := if plainB d.bl then n else -1
def restM (d : De) (n : Int) : Int := if noneM d.body then finM d n else if checkM d.body = 0 then finM d (n + 2) else -1
def partsM (d : De) : Int := if noneM d.ty then restM d 0 else if checkM d.ty = 0 then restM d 1 else -1
theorem parts_ok (d : De) : Pure Tryz.prog n_porismref20_parts [eDe d] [.int .i64 (partsM d)] := by
  refine p_porismref20_parts rfl fun hs => ?_
  have h1 := none20_ok d.ty
  have h2 := none20_ok d.body
  have h3 := rcheck_ok d.ty
  have h4 := rcheck_ok d.body
  have h5 := keepBlock0_ok d.bl
  simp only [cT, eBl, cBl, eSos, eCos] at h1 h2 h3 h4 h5
  simp -dsimp [x_porismref20_parts, eDe, cDe, cT, cBl, eSos, eCos]
  refine call_of h1 ?_
  cases g1 : noneM d.ty
  · simp -dsimp
    refine call_of h3 ?_
    by_cases g3 : checkM d.ty = 0
    case neg => simp -dsimp [g3, partsM, g1]
    simp -dsimp [g3]
    refine call_of h2 ?_
    cases g2 : noneM d.body
    · simp -dsimp
      refine call_of h4 ?_
      by_cases g4 : checkM d.body = 0
      case neg => simp -dsimp [g4, g3, partsM, restM, g1, g2]
      simp -dsimp [g4]
      refine call_of h5 ?_
      cases g5 : plainB d.bl
      · simp -dsimp [g4, g3, partsM, restM, finM, g1, g2, g5]
      · simp -dsimp [g4, g3, partsM, restM, finM, g1, g2, g5]
        try rfl
    · simp -dsimp
      refine call_of h5 ?_
      cases g5 : plainB d.bl
      · simp -dsimp [g3, partsM, restM, finM, g1, g2, g5]
      · simp -dsimp [g3, partsM, restM, finM, g1, g2, g5]
  · simp -dsimp
    refine call_of h2 ?_
    cases g2 : noneM d.body
    · simp -dsimp
      refine call_of h4 ?_
      by_cases g4 : checkM d.body = 0
      case neg => simp -dsimp [g4, partsM, restM, g1, g2]
      simp -dsimp [g4]
      refine call_of h5 ?_
      cases g5 : plainB d.bl
      · simp -dsimp [g4, partsM, restM, finM, g1, g2, g5]
      · simp -dsimp [g4, partsM, restM, finM, g1, g2, g5]
        try rfl
    · simp -dsimp
      refine call_of h5 ?_
      cases g5 : plainB d.bl
      · simp -dsimp [partsM, restM, finM, g1, g2, g5]
      · simp -dsimp [partsM, restM, finM, g1, g2, g5]
theorem right_parts (d : De) : rightM d = if d.kind = 1 then decide (partsM d = 1) else if d.kind = 2 then decide (partsM d = 3) else if d.kind = 3 then if noneM d.ty then if noneM d.body then shapeR d.bl else false else false else false := by
  rw [rightM]
  by_cases k1 : d.kind = 1
  · rw [if_pos k1, if_pos k1, partsM, restM, restM, finM, finM, finM, finM]
    cases g1 : noneM d.ty
    · by_cases g3 : checkM d.ty = 0 <;> cases g2 : noneM d.body <;> by_cases g4 : checkM d.body = 0 <;> cases g5 : plainB d.bl <;> simp [g3, g4]
    · have g3 := none_bad g1
      cases g2 : noneM d.body <;> by_cases g4 : checkM d.body = 0 <;> cases g5 : plainB d.bl <;> simp [g3, g4]
  · rw [if_neg k1, if_neg k1]
    by_cases k2 : d.kind = 2
    · rw [if_pos k2, if_pos k2, partsM, restM, restM, finM, finM, finM, finM]
      cases g1 : noneM d.ty
      · by_cases g3 : checkM d.ty = 0
        · cases g2 : noneM d.body
          · by_cases g4 : checkM d.body = 0 <;> cases g5 : plainB d.bl <;> simp [g3, g4]
          · have g4 := none_bad g2
            cases g5 : plainB d.bl <;> simp [g3, g4]
        · cases g2 : noneM d.body <;> by_cases g4 : checkM d.body = 0 <;> cases g5 : plainB d.bl <;> simp [g3, g4]
      · have g3 := none_bad g1
        cases g2 : noneM d.body <;> by_cases g4 : checkM d.body = 0 <;> cases g5 : plainB d.bl <;> simp [g3, g4]
    · rw [if_neg k2, if_neg k2]
      rfl
theorem decl20_ok (d : De) : Pure Tryz.prog n_porismref20_Decl [eDe d] [.bool (rightM d)] := by
  refine p_porismref20_Decl rfl fun hs => ?_
  have h0 := parts_ok d
  have h1 := none20_ok d.ty
  have h2 := none20_ok d.body
  have h5 := shape7_ok d.bl
  simp only [eDe, cDe, cT, eBl, cBl, eSos, eCos, List.cons_append, List.nil_append] at h0 h1 h2 h5
  rw [right_parts]
  simp -dsimp [x_porismref20_Decl, eDe, cDe, cT, cBl, eSos, eCos]
  refine call_of h0 ?_
  by_cases k1 : d.kind = 1
  · simp -dsimp [k1]
  · by_cases k2 : d.kind = 2
    · simp -dsimp [k1, k2]
    · by_cases k3 : d.kind = 3
      · simp -dsimp [k1, k2, k3]
        refine call_of h1 ?_
        cases g1 : noneM d.ty
        case false => simp -dsimp [g1, k1, k2, k3]
        simp -dsimp [g1]
        refine call_of h2 ?_
        cases g2 : noneM d.body
        case false => simp -dsimp [g1, g2, k1, k2, k3]
        simp -dsimp [g2]
        refine call_of h5 ?_
        simp -dsimp [g1, g2, k1, k2, k3]
      · simp -dsimp [k1, k2, k3]
end
end
section
attribute [local simp] allD_map_d sks_map_d tk tn tks initA EndsM
end
end Ev
end Go.Proofs.YtgiejcndcbanjaaGreat
