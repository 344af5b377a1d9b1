/- pack: the reader. -/
import Derived.Test.YtjebpfhffenbnaaZD
namespace Go.Proofs.Ytjebpfhffenbnaa
namespace Ev
open Go
set_option maxRecDepth 100000
set_option linter.unusedSimpArgs false
set_option linter.unusedVariables false
attribute [local simp] allD_map_d sks_map_d tk tn tks initA EndsM
structure RS where
  left : List Int
  nodes : Int
  bad : Bool
def takeS (n : Nat) (r : RS) : List Int × RS := if r.bad = true ∨ r.left.length < n then (List.replicate n 0, ⟨r.left, r.nodes, true⟩) else (r.left.take n, ⟨r.left.drop n, r.nodes, r.bad⟩)
def rH (v : Nat) (r : RS) : Nat → Ent := fun _ => ⟨v, .box [.d (.sl 1 (r.left.map (.int .u8))), .d (.int .i64 r.nodes), .d (.bool r.bad)] false⟩
theorem r_mut {f : FuncId} {fn : Func} {x : XFn} (hf : Try.prog.funcs[f]? = some fn) (hx : cfn Try.prog fn = some x) {aa : List AV} {v : Nat} {r r' : RS} {rs : List D} (hl : aa.length = x.np)
    (hw : ∀ (h : Nat → Ent), h 21 = ⟨v, .box [.d (.sl 1 (r.left.map (.int .u8))), .d (.int .i64 r.nodes), .d (.bool r.bad)] false⟩ → r.left.length ≤ 9223372036854775807 → wpX Try.prog x.code (EndsM x.res rs [21] (rH v r')) ⟨initA aa, h⟩) : MutC Try.prog f aa [21] (rH v r) rs (rH v r') := by
  by_cases hlen : r.left.length ≤ 9223372036854775807
  · exact mut_of hm hf hx hl (fun k hk c hc => by simp [rH] at hc; rcases hc with rfl | rfl | rfl <;> exact .d _) fun G h w vs hk _ hr => hw h (hk 21 (by simp)) hlen
  · refine ⟨enters_of hf hx, fun k hk c hc => by simp [rH] at hc; rcases hc with rfl | rfl | rfl <;> exact .d _, fun G h w vs hk _ hi _ _ => (hlen ?_).elim⟩
    have he := hi.ent 21
    rw [hk 21 (by simp)] at he
    obtain ⟨b, arr, el, _, _, _, hrel, _⟩ := he
    have := ((hrel 0 _ rfl).1.d_inv).small 8
    simp [small] at this
    omega
theorem take_ok (v : Nat) (r : RS) (n : Nat) (hn : n ≤ 1000) : MutC Try.prog n_pack_reader_take [.ptr 21 v 0, .d (.int .i64 n)] [21] (rH v r) [eB (takeS n r).1] (rH v (takeS n r).2) := by
  refine r_mut Try.func42 c_pack_reader_take rfl fun h hh hl => ?_
  have hr : n ≤ maxRoom := by simp only [maxRoom]; omega
  have hr2 : (n : Int) ≤ (maxRoom : Int) := by simp only [maxRoom]; omega
  have hT : (r.left.map (D.int .u8)).take r.left.length = r.left.map (D.int .u8) := List.take_of_length_le (by simp)
  simp -dsimp [x_pack_reader_take, hh]
  cases hb : r.bad
  · simp -dsimp [hh, hb]
    by_cases g : r.left.length < n
    · simp -dsimp [hh, hb, g, hr, hr2, takeS, rH, eB]
    · have g2 : n ≤ r.left.length := by omega
      simp -dsimp [hh, hb, g, g2, hr, hT, takeS, rH, eB]
  · simp -dsimp [hh, hb, hr, hr2, takeS, rH, eB]
theorem takeS_len (n : Nat) (r : RS) : (takeS n r).1.length = n := by
  rw [takeS]; split
  · simp
  · simp; omega
def kidsI (g : RS → T × RS) : Nat → RS → List T × RS
  | 0, r => ([], r)
  | i + 1, r => if (kidsI g i r).2.bad = true then kidsI g i r else ((kidsI g i r).1 ++ [(g (kidsI g i r).2).1], (g (kidsI g i r).2).2)
theorem kidsI_bad (g : RS → T × RS) (r : RS) {i m : Nat} (h : (kidsI g i r).2.bad = true) (hm : i ≤ m) : kidsI g m r = kidsI g i r := by
  induction m with
  | zero => have : i = 0 := by omega
            subst this; rfl
  | succ m ih =>
    rcases Nat.lt_or_ge m i with hlt | hge
    · have : i = m + 1 := by omega
      subst this; rfl
    · rw [kidsI, ih hge, if_pos h]
def orB (a b : Int) : Int := IntKind.i64.wrap (((IntKind.i64.wrap (IntKind.i64.wrap a * 2 ^ min 8 IntKind.i64.bits) % 2 ^ IntKind.i64.bits).toNat ||| (IntKind.i64.wrap b % 2 ^ IntKind.i64.bits).toNat : Nat) : Int)
/-- Behind a term's first byte. -/
def headS (d : Int) (r : RS) : RS := ⟨(takeS 1 r).2.left, w64 ((takeS 1 r).2.nodes + 1), (takeS 1 r).2.bad || decide (kidsM (w64 ((takeS 1 r).1.headD 0)) < 0) || decide (6000 < w64 ((takeS 1 r).2.nodes + 1)) || decide (200 < d)⟩
def readS : Nat → Int → RS → T × RS
  | 0, _, r => (.mk 0 0 [], r)
  | f + 1, d, r => if kidsM (w64 ((takeS 1 r).1.headD 0)) = 0
      then (.mk (w64 ((takeS 1 r).1.headD 0)) (orB ((takeS 2 (headS d r)).1.headD 0) ((takeS 2 (headS d r)).1.getD 1 0)) [], (takeS 2 (headS d r)).2)
      else (.mk (w64 ((takeS 1 r).1.headD 0)) 0 (kidsI (readS f (d + 1)) (kidsM (w64 ((takeS 1 r).1.headD 0))).toNat (headS d r)).1, (kidsI (readS f (d + 1)) (kidsM (w64 ((takeS 1 r).1.headD 0))).toNat (headS d r)).2)
end Ev
end Go.Proofs.Ytjebpfhffenbnaa
