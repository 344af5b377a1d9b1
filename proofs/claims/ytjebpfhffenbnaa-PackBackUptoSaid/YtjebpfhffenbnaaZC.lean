/- pack: a term's bytes put behind others. -/
import Derived.Test.YtjebpfhffenbnaaZB
namespace Go.Proofs.Ytjebpfhffenbnaa
namespace Ev
open Go
set_option maxRecDepth 100000
set_option linter.unusedSimpArgs false
set_option linter.unusedVariables false
attribute [local simp] allD_map_d sks_map_d tk tn tks initA EndsK
def u8 (n : Int) : Int := IntKind.u8.wrap n
mutual
/-- A term's bytes. -/
def pk : T → List Int
  | .mk k n ks => u8 k :: (if kidsM k = 0 then [u8 (n.fdiv 256), u8 n] else pkL ks)
def pkL : List T → List Int
  | [] => []
  | x :: xs => pk x ++ pkL xs
end
mutual
def cV : T → Nat
  | .mk _ _ ks => cVL ks + 4
def cVL : List T → Nat
  | [] => 0
  | x :: xs => cV x + 1 + cVL xs
end
theorem pkL_snoc : ∀ (l : List T) (x : T), pkL (l ++ [x]) = pkL l ++ pk x
  | [], x => by simp [pkL]
  | y :: l, x => by simp [pkL, pkL_snoc l x]
theorem cVL_snoc : ∀ (l : List T) (x : T), cVL (l ++ [x]) = cVL l + (cV x + 1)
  | [], x => by simp [cVL]
  | y :: l, x => by simp [cVL, cVL_snoc l x]; omega
theorem pkL_len : ∀ (l : List T), (∀ x ∈ l, (pk x).length ≤ 3 * nodes x) → (pkL l).length ≤ 3 * (l.map nodes).sum
  | [], _ => by simp [pkL]
  | x :: l, h => by
    have h1 := h x (by simp)
    have h2 := pkL_len l fun y hy => h y (by simp [hy])
    simp [pkL]; omega
theorem pk_len (t : T) : (pk t).length ≤ 3 * nodes t := by
  induction t using T.ind with
  | h k n ks ih =>
    have h1 := pkL_len ks ih
    rw [pk, nodes]
    split
    · simp; omega
    · simp; omega
theorem take_nodes (l : List T) (i : Nat) (h : i < l.length) : ((l.take i).map nodes).sum + nodes l[i] ≤ (l.map nodes).sum := by
  have e : l = l.take i ++ l[i] :: l.drop (i + 1) := by rw [List.getElem_cons_drop, List.take_append_drop]
  have e2 := congrArg (fun l => (l.map nodes).sum) e
  simp only [List.map_append, List.map_cons, List.sum_append, List.sum_cons] at e2
  omega
theorem leaf_ok (k : Int) : Pure Try.prog n_kind_Leaf [.int .i64 k] [.bool (decide (kidsM k = 0))] := by
  refine p_kind_Leaf rfl fun hs => ?_
  simp -dsimp [x_kind_Leaf]
  refine call_of (kids_ok k) ?_
  simp -dsimp
def kH (v : Nat) (b : List Int) (fz : Bool) : Nat → Ent := fun _ => ⟨v, .row 1 (b.map (.int .u8)) fz⟩
def dH (v : Nat) : Nat → Ent := fun _ => ⟨v, .dead⟩
theorem shr8 (n : Int) : binI .shr (.d (.int .i64 n)) (.d (.int .u64 8)) = some (.int .i64 (n.fdiv 256)) := rfl
theorem agg_argO {P : Program} {g : FuncId} {K : List Nat} {h0 h1 : Nat → Ent} {rs : List RV} {pre post : List AV} {cs : List D} (hm : MutO P g (pre ++ .d (.agg cs) :: post) K h0 rs h1) : MutO P g (pre ++ .agg (cs.map .d) :: post) K h0 rs h1 := by
  obtain ⟨a1, a2, a3⟩ := hm
  refine ⟨a1, a2, fun G h w vs b1 b2 b3 b4 b5 => a3 G h w vs b1 b2 b3 (by simpa using b4) fun j a hj => ?_⟩
  rw [List.getElem?_append] at hj
  split at hj
  · rename_i hlt
    exact b5 j a (by rw [List.getElem?_append_left hlt]; exact hj)
  · rename_i hge
    cases hjj : j - pre.length with
    | zero =>
      rw [hjj] at hj
      simp at hj
      subst hj
      have := b5 j (.agg (cs.map .d)) (by rw [List.getElem?_append_right (by omega), hjj]; rfl)
      generalize hq : vs.getD j undef = q at this ⊢
      generalize hz : cs.map AV.d = zs at this
      cases this with
      | agg vs' _ hn hr =>
        subst hz
        refine .d _ _ (.agg vs' cs (by simpa using hn) fun i c hi => ?_)
        exact (hr i (.d c) (by rw [List.getElem?_map, hi]; rfl)).d_inv
    | succ i =>
      rw [hjj] at hj
      exact b5 j a (by rw [List.getElem?_append_right (by omega), hjj]; simpa using hj)
theorem add_ok (t : T) : ∀ (k v : Nat) (b : List Int) (fz : Bool), k = 13 ∨ k = 35 → b.length + 3 * nodes t ≤ 1000000000 →
    MutO Try.prog n_pack_add [.rsl k v, .d (.agg (cT t))] [k] (kH v b fz) [.one (.row 1 ((b ++ pk t).map (.int .u8)) fz)] (dH (v + cV t)) := by
  induction t using T.ind with
  | h kd n ks ih =>
    intro k v b fz hk hl
    refine mutO_kill hm Try.func28 c_pack_add rfl (fun _ _ => rfl) fun G h w vs hh hlen hr => ?_
    have hs : small 8 (.agg (cT (.mk kd n ks))) := small_of (hr 1 _ rfl)
    have hks := kids_small (t := .mk kd n ks) (fun d hd => by simp at hd; subst hd; exact hs)
    have hh := hh k (by simp)
    replace hks : ks.length ≤ 9223372036854775807 := hks
    have hn : nodes (.mk kd n ks) = (ks.map nodes).sum + 1 := by rw [nodes]
    have r1 : b.length + 1 ≤ maxRoom := by simp only [maxRoom]; omega
    have r2 : b.length + 1 + 2 ≤ maxRoom := by simp only [maxRoom]; omega
    rcases hk with rfl | rfl
    · simp only [kH] at hh
      simp -dsimp [x_pack_add, cT, hh, r1]
      refine call_of (leaf_ok kd) ?_
      simp -dsimp [hh, r1]
      (first | refine Ask_b ?_ ?_ | refine Cnd_b ?_ ?_) <;> intro g1 <;> (try simp only [decide_eq_true_eq, decide_eq_false_iff_not, beq_iff_eq, beq_eq_false_iff_ne, bne_iff_ne, bne_eq_false_iff_eq, Bool.not_eq_true', Bool.not_eq_false', Bool.and_eq_true, Bool.or_eq_true, Bool.and_eq_false_iff, Bool.or_eq_false_iff] at g1) <;> simp -dsimp [g1, hh, r1, r2]
      · have hp : pk (.mk kd n ks) = [u8 kd, u8 (n.fdiv 256), u8 n] := by rw [pk, if_pos g1]
        simp -dsimp [shr8, hh, r1, r2, hp, dH, cV, u8]
        exact ⟨rfl, by omega⟩
      · have hp : pk (.mk kd n ks) = u8 kd :: pkL ks := by rw [pk, if_neg g1]
        refine wp_upto ks.length (fun i st => st.s 27 = .d (.sl 3 (ks.map eT)) ∧ st.s 28 = .d (.int .i64 ks.length) ∧ st.s 29 = .d (.int .i64 i) ∧
          ∃ q v', (q = 13 ∨ q = 35) ∧ st.s 0 = .rsl q v' ∧ st.h q = ⟨v', .row 1 ((b ++ u8 kd :: pkL (ks.take i)).map (.int .u8)) fz⟩ ∧ (st.h 13).ver ≤ v + 1 + cVL (ks.take i)) ?_ ?_
        · simp -dsimp [hh, pkL, cVL, u8]
        · rintro i ⟨s, hpp⟩ hi ⟨e1, e2, e3, q, v', hq, e4, e5, e6⟩
          dsimp only at e1 e2 e3 e4 e5 e6
          rcases Nat.lt_or_ge i ks.length with hlt | hge
          · have w1 : IntKind.i64.wrap ((i : Int) + 1) = (i : Int) + 1 := wrap_id (by omega) (by omega)
            have hsn : ks.take (i + 1) = ks.take i ++ [ks[i]] := by rw [List.take_add_one, List.getElem?_eq_getElem hlt]; rfl
            have hP : pkL (ks.take (i + 1)) = pkL (ks.take i) ++ pk ks[i] := by rw [hsn, pkL_snoc]
            have hC : cVL (ks.take (i + 1)) = cVL (ks.take i) + (cV ks[i] + 1) := by rw [hsn, cVL_snoc]
            have hL := pkL_len (ks.take i) fun x _ => pk_len x
            have hS := take_nodes ks i hlt
            have hA := ih ks[i] (List.getElem_mem _) q v' (b ++ u8 kd :: pkL (ks.take i)) fz (by omega) (by rw [List.length_append, List.length_cons]; omega)
            replace hA := agg_argO (pre := [.rsl q v']) (post := []) hA
            simp only [cT, List.map_cons, List.map_nil, List.cons_append, List.nil_append] at hA
            rcases hq with rfl | rfl
            · simp -dsimp [e1, e2, e3, e4, e5, hlt, cT]
              refine callMO_of hA ?_ (by simp [rowsV, rowsC, RV.cells]) ?_
              · simp -dsimp [kH, e5]
              · simp -dsimp [e1, e2, e3, e4, e5, hlt, cT, w1, mergeK_cons, mergeK_nil, hP, hC, dH]
                simp only [e5] at e6
                omega
            · simp -dsimp [e1, e2, e3, e4, e5, hlt, cT]
              refine callMO_of hA ?_ (by simp [rowsV, rowsC, RV.cells]) ?_
              · simp -dsimp [kH, e5]
              · simp -dsimp [e1, e2, e3, e4, e5, hlt, cT, w1, mergeK_cons, mergeK_nil, hP, hC, dH]
                first | omega | (simp only [e5] at e6; omega)
          · have e : i = ks.length := by omega
            subst e
            rw [List.take_length] at e5 e6
            have hcv : cV (.mk kd n ks) = cVL ks + 4 := by rw [cV]
            rcases hq with rfl | rfl
            · simp -dsimp [e1, e2, e3, e4, e5, hp, dH, hcv]
              first | omega | (simp only [e5] at e6; omega)
            · simp -dsimp [e1, e2, e3, e4, e5, hp, dH, hcv]
              first | omega | (simp only [e5] at e6; omega)
    · simp only [kH] at hh
      simp -dsimp [x_pack_add, cT, hh, r1]
      refine call_of (leaf_ok kd) ?_
      simp -dsimp [hh, r1]
      (first | refine Ask_b ?_ ?_ | refine Cnd_b ?_ ?_) <;> intro g1 <;> (try simp only [decide_eq_true_eq, decide_eq_false_iff_not, beq_iff_eq, beq_eq_false_iff_ne, bne_iff_ne, bne_eq_false_iff_eq, Bool.not_eq_true', Bool.not_eq_false', Bool.and_eq_true, Bool.or_eq_true, Bool.and_eq_false_iff, Bool.or_eq_false_iff] at g1) <;> simp -dsimp [g1, hh, r1, r2]
      · have hp : pk (.mk kd n ks) = [u8 kd, u8 (n.fdiv 256), u8 n] := by rw [pk, if_pos g1]
        simp -dsimp [shr8, hh, r1, r2, hp, dH, cV, u8]
        exact ⟨rfl, by omega⟩
      · have hp : pk (.mk kd n ks) = u8 kd :: pkL ks := by rw [pk, if_neg g1]
        refine wp_upto ks.length (fun i st => st.s 27 = .d (.sl 3 (ks.map eT)) ∧ st.s 28 = .d (.int .i64 ks.length) ∧ st.s 29 = .d (.int .i64 i) ∧
          ∃ q v', (q = 35 ∨ q = 35) ∧ st.s 0 = .rsl q v' ∧ st.h q = ⟨v', .row 1 ((b ++ u8 kd :: pkL (ks.take i)).map (.int .u8)) fz⟩ ∧ (st.h 35).ver ≤ v + 1 + cVL (ks.take i)) ?_ ?_
        · simp -dsimp [hh, pkL, cVL, u8]
        · rintro i ⟨s, hpp⟩ hi ⟨e1, e2, e3, q, v', hq, e4, e5, e6⟩
          dsimp only at e1 e2 e3 e4 e5 e6
          rcases Nat.lt_or_ge i ks.length with hlt | hge
          · have w1 : IntKind.i64.wrap ((i : Int) + 1) = (i : Int) + 1 := wrap_id (by omega) (by omega)
            have hsn : ks.take (i + 1) = ks.take i ++ [ks[i]] := by rw [List.take_add_one, List.getElem?_eq_getElem hlt]; rfl
            have hP : pkL (ks.take (i + 1)) = pkL (ks.take i) ++ pk ks[i] := by rw [hsn, pkL_snoc]
            have hC : cVL (ks.take (i + 1)) = cVL (ks.take i) + (cV ks[i] + 1) := by rw [hsn, cVL_snoc]
            have hL := pkL_len (ks.take i) fun x _ => pk_len x
            have hS := take_nodes ks i hlt
            have hA := ih ks[i] (List.getElem_mem _) q v' (b ++ u8 kd :: pkL (ks.take i)) fz (by omega) (by rw [List.length_append, List.length_cons]; omega)
            replace hA := agg_argO (pre := [.rsl q v']) (post := []) hA
            simp only [cT, List.map_cons, List.map_nil, List.cons_append, List.nil_append] at hA
            rcases hq with rfl | rfl
            · simp -dsimp [e1, e2, e3, e4, e5, hlt, cT]
              refine callMO_of hA ?_ (by simp [rowsV, rowsC, RV.cells]) ?_
              · simp -dsimp [kH, e5]
              · simp -dsimp [e1, e2, e3, e4, e5, hlt, cT, w1, mergeK_cons, mergeK_nil, hP, hC, dH]
                simp only [e5] at e6
                omega
            · simp -dsimp [e1, e2, e3, e4, e5, hlt, cT]
              refine callMO_of hA ?_ (by simp [rowsV, rowsC, RV.cells]) ?_
              · simp -dsimp [kH, e5]
              · simp -dsimp [e1, e2, e3, e4, e5, hlt, cT, w1, mergeK_cons, mergeK_nil, hP, hC, dH]
                first | omega | (simp only [e5] at e6; omega)
          · have e : i = ks.length := by omega
            subst e
            rw [List.take_length] at e5 e6
            have hcv : cV (.mk kd n ks) = cVL ks + 4 := by rw [cV]
            rcases hq with rfl | rfl
            · simp -dsimp [e1, e2, e3, e4, e5, hp, dH, hcv]
              first | omega | (simp only [e5] at e6; omega)
            · simp -dsimp [e1, e2, e3, e4, e5, hp, dH, hcv]
              first | omega | (simp only [e5] at e6; omega)
end Ev
end Go.Proofs.Ytjebpfhffenbnaa
