/- Equations by which code told in the small language is stepped through. What goes on behind a step is kept from the simplifier until the step itself is told. -/
import Derived.Test.YtnkbhmafebngjaaE16
namespace Go.Proofs.Ytnkbhmafebngjaa
namespace Ev
open Go
set_option linter.unusedVariables false

/-- A tag: it hangs on what is not to be touched yet. -/
def Tg.{u} {α : Sort u} (_ : α) : Type := Unit

/-- A fork at a bool. -/
def Cnd (c : AV) (A B : Prop) (_ : Tg A) (_ : Tg B) : Prop := match c with
  | .d (.bool t) => if t then A else B
  | _ => False
theorem Cnd_t {A B : Prop} : Cnd (.d (.bool true)) A B (by exact ()) (by exact ()) = A := of_eq_true (eq_self _)
theorem Cnd_f {A B : Prop} : Cnd (.d (.bool false)) A B (by exact ()) (by exact ()) = B := of_eq_true (eq_self _)
theorem Cnd_b {t : Bool} {A B : Prop} (h1 : t = true → A) (h2 : t = false → B) : Cnd (.d (.bool t)) A B (by exact ()) (by exact ()) := by cases t <;> simp_all [Cnd]

/-- A guard. -/
def Ask (c : AV) (b : Bool) (A B : Prop) (_ : Tg A) (_ : Tg B) : Prop := match c with
  | .d (.bool t) => if t = b then A else B
  | .skip => B
  | _ => False
section
variable {A B : Prop}
theorem Ask_tt : Ask (.d (.bool true)) true A B (by exact ()) (by exact ()) = A := of_eq_true (eq_self _)
theorem Ask_ff : Ask (.d (.bool false)) false A B (by exact ()) (by exact ()) = A := of_eq_true (eq_self _)
theorem Ask_tf : Ask (.d (.bool true)) false A B (by exact ()) (by exact ()) = B := of_eq_true (eq_self _)
theorem Ask_ft : Ask (.d (.bool false)) true A B (by exact ()) (by exact ()) = B := of_eq_true (eq_self _)
theorem Ask_skip {b : Bool} : Ask .skip b A B (by exact ()) (by exact ()) = B := of_eq_true (eq_self _)
theorem Ask_b {t b : Bool} (h1 : t = true → Ask (.d (.bool true)) b A B (by exact ()) (by exact ())) (h2 : t = false → Ask (.d (.bool false)) b A B (by exact ()) (by exact ())) : Ask (.d (.bool t)) b A B (by exact ()) (by exact ()) := by cases t <;> simp_all
end

/-- A touch told first. -/
def Tch (t : List (Nat × Bool)) (F : List (Nat × Bool) → Prop) (_ : Tg F) : Prop := F t
theorem Tch_nil {F : List (Nat × Bool) → Prop} : Tch [] F (by exact ()) = F [] := of_eq_true (eq_self _)
theorem Tch_cons {y : Nat × Bool} {xs : List (Nat × Bool)} {F : List (Nat × Bool) → Prop} : Tch (y :: xs) F (by exact ()) = F (y :: xs) := of_eq_true (eq_self _)
def Chk (c : Bool) (A : Prop) (_ : Tg A) : Prop := c = true ∧ A
theorem Chk_t {A : Prop} : Chk true A (by exact ()) = A := by simp [Chk]

/-- An operation told first. -/
def runB (r : Option (AV × (Nat → Ent))) (s : Nat → AV) (d : Option Nat) (K : S → Prop) (_ : Tg s) (_ : Tg K) : Prop := runA r s d K
section
variable {s : Nat → AV} {K : S → Prop}
theorem runB_some {v : AV} {h : Nat → Ent} {i : Nat} : runB (some (v, h)) s (some i) K (by exact ()) (by exact ()) = K ⟨upd s i v, h⟩ := of_eq_true (eq_self _)
theorem runB_none {v : AV} {h : Nat → Ent} : runB (some (v, h)) s none K (by exact ()) (by exact ()) = K ⟨s, h⟩ := of_eq_true (eq_self _)
/-- What an operation gives where a condition holds. -/
theorem runB_if {c : Prop} [Decidable c] {r r' : Option (AV × (Nat → Ent))} {d : Option Nat} (h : c) (k : runB r s d K (by exact ()) (by exact ())) : runB (if c then r else r') s d K (by exact ()) (by exact ()) := by rw [if_pos h]; exact k
end

/-- A loop. -/
def Lp (P : Program) (a : XCode) (Q : Ex → S → Prop) (st : S) (_ : Tg Q) (_ : Tg a) : Prop := wpX P (.loop a) Q st

/-- A call, its callee and its arguments told first. -/
def runC (P : Program) (g : Option (FuncId × List AV)) (as : List AV) (ds : Option (List D)) (ks : List Nat) (s : Nat → AV) (h : Nat → Ent) (d : Option Nat) (K : S → Prop) (_ : Tg s) (_ : Tg h) (_ : Tg K) : Prop :=
  ∃ n caps rs h', g = some (n, caps) ∧ ((∃ xs, ds = some xs ∧ Pure P n xs rs ∧ h' = frz h ks) ∨ (∃ h0 h1, MutC P n as ks h0 rs h1 ∧ (∀ k ∈ ks, h k = h0 k) ∧ h' = mergeK ks h1 h) ∨ (∃ xs, ds = some xs ∧ Pure P n xs rs ∧ (∀ r ∈ rs, r.flat = true) ∧ h' = h)) ∧ K ⟨putS s d (resA rs), h'⟩
theorem call_of {P : Program} {n : FuncId} {caps as : List AV} {xs rs : List D} {ks : List Nat} {s : Nat → AV} {h : Nat → Ent} {d : Option Nat} {K : S → Prop} (hp : Pure P n xs rs) (hk : K ⟨putS s d (resA rs), frz h ks⟩) : runC P (some (n, caps)) as (some xs) ks s h d K (by exact ()) (by exact ()) (by exact ()) := ⟨n, caps, rs, _, rfl, .inl ⟨xs, rfl, hp, rfl⟩, hk⟩
theorem callM_of {P : Program} {n : FuncId} {caps as : List AV} {ds : Option (List D)} {rs : List D} {ks : List Nat} {s : Nat → AV} {h h0 h1 : Nat → Ent} {d : Option Nat} {K : S → Prop} (hm : MutC P n as ks h0 rs h1) (he : ∀ k ∈ ks, h k = h0 k) (hk : K ⟨putS s d (resA rs), mergeK ks h1 h⟩) : runC P (some (n, caps)) as ds ks s h d K (by exact ()) (by exact ()) (by exact ()) := ⟨n, caps, rs, _, rfl, .inr (.inl ⟨h0, h1, hm, he, rfl⟩), hk⟩
theorem callS_of {P : Program} {n : FuncId} {caps as : List AV} {xs rs : List D} {ks : List Nat} {s : Nat → AV} {h : Nat → Ent} {d : Option Nat} {K : S → Prop} (hp : Pure P n xs rs) (hf : ∀ r ∈ rs, r.flat = true) (hk : K ⟨putS s d (resA rs), h⟩) : runC P (some (n, caps)) as (some xs) ks s h d K (by exact ()) (by exact ()) (by exact ()) := ⟨n, caps, rs, _, rfl, .inr (.inr ⟨xs, rfl, hp, hf, rfl⟩), hk⟩
theorem mergeK_nil (h1 h : Nat → Ent) : mergeK [] h1 h = h := by funext k; simp [mergeK]
theorem mergeK_cons (k : Nat) (ks : List Nat) (h1 h : Nat → Ent) : mergeK (k :: ks) h1 h = upd (mergeK ks h1 h) k (h1 k) := by
  funext q
  simp only [mergeK, upd, List.mem_cons]
  by_cases hq : q = k
  · simp [hq]
  · simp [hq]

/-- Do those with whom this operation may change its place touch other things? -/
def fits (acc : List (Nat × List (Nat × Bool))) (t : List (Nat × Bool)) : List Nat → Bool
  | [] => true
  | a :: as => (match acc.lookup a with | some t' => compat t' t | none => false) && fits acc t as
theorem fits_eq (acc : List (Nat × List (Nat × Bool))) (t : List (Nat × Bool)) (ls : List Nat) : (ls.all fun a => match acc.lookup a with | some t' => compat t' t | none => false) = fits acc t ls := by
  induction ls with
  | nil => rfl
  | cons a as ih => simp only [List.all_cons, fits, ih]

section
variable {P : Program} {Q : Ex → S → Prop} {st : S} {K : S → Prop}
theorem wx_skip : wpX P .skip Q st = Q .normal st := of_eq_true (eq_self _)
theorem wx_region (ops : List XOper) : wpX P (.region ops none) Q st = wpO P ops st (Q .normal) := of_eq_true (eq_self _)
theorem wx_draw (ops : List XOper) (ds : List (Bool × List Nat)) : wpX P (.region ops (some ds)) Q st = wpT P ops ds 0 [] st (Q .normal) := of_eq_true (eq_self _)
theorem wx_seq (a b : XCode) : wpX P (.seq a b) Q st = wpX P a (Ex.then (wpX P b Q) Q) st := of_eq_true (eq_self _)
theorem wx_block (id : Nat) (a : XCode) : wpX P (.block id a) Q st = wpX P a (Ex.inBlock id Q) st := of_eq_true (eq_self _)
theorem wx_exit (id : Nat) : wpX P (.exit id) Q st = Q (.exit id) st := of_eq_true (eq_self _)
theorem wx_ret : wpX P .ret Q st = Q .ret st := of_eq_true (eq_self _)
theorem wx_cond (c : Opd) (a b : XCode) : wpX P (.cond c a b) Q st = Cnd (c.ev st.s) (wpX P a Q st) (wpX P b Q st) (by exact ()) (by exact ()) := of_eq_true (eq_self _)
theorem wx_loop (a : XCode) : wpX P (.loop a) Q st = Lp P a Q st (by exact ()) (by exact ()) := of_eq_true (eq_self _)

theorem wo_nil : wpO P [] st K = K st := of_eq_true (eq_self _)
theorem wo_run (d : Option Nat) (o : XOp) (os : List XOper) : wpO P (⟨d, o, none⟩ :: os) st K = runX P ⟨d, o, none⟩ st fun st' => wpO P os st' K := of_eq_true (eq_self _)
theorem wo_ask (d : Option Nat) (o : XOp) (j : Nat) (b : Bool) (os : List XOper) :
    wpO P (⟨d, o, some (j, b)⟩ :: os) st K = Ask (st.s j) b (runX P ⟨d, o, none⟩ st fun st' => wpO P os st' K) (wpO P os ⟨putS st.s d .skip, st.h⟩ K) (by exact ()) (by exact ()) := by
  simp only [wpO, wants, Ask]
  cases h : st.s j with
  | d x => cases x <;> simp only <;> (try rfl)
           rename_i t
           cases t <;> cases b <;> simp [runX]
  | _ => rfl

theorem wt_nil (ds : List (Bool × List Nat)) (i : Nat) (acc : List (Nat × List (Nat × Bool))) : wpT P [] ds i acc st K = K st := of_eq_true (eq_self _)
theorem wt_run (d : Option Nat) (o : XOp) (os : List XOper) (e : Bool) (ls : List Nat) (ds : List (Bool × List Nat)) (i : Nat) (acc : List (Nat × List (Nat × Bool))) :
    wpT P (⟨d, o, none⟩ :: os) ((e, ls) :: ds) i acc st K = Tch (touchOp d st o) (fun t => Chk (fits acc t ls) (runX P ⟨d, o, none⟩ st fun st' => wpT P os ds (i + 1) (match e with | true => (i, t) :: acc | false => acc) st' K) (by exact ())) (by exact ()) := by
  simp only [wpT, wants, touch, Tch, Chk, List.head?_cons, List.tail_cons]
  cases e <;> exact congrArg (· ∧ _) (congrArg (· = true) (fits_eq acc _ ls))
theorem wt_ask (d : Option Nat) (o : XOp) (j : Nat) (b : Bool) (os : List XOper) (e : Bool) (ls : List Nat) (ds : List (Bool × List Nat)) (i : Nat) (acc : List (Nat × List (Nat × Bool))) :
    wpT P (⟨d, o, some (j, b)⟩ :: os) ((e, ls) :: ds) i acc st K = Ask (st.s j) b
      (Tch (touchOp d st o) (fun t => Chk (fits acc t ls) (runX P ⟨d, o, none⟩ st fun st' => wpT P os ds (i + 1) (match e with | true => (i, t) :: acc | false => acc) st' K) (by exact ())) (by exact ()))
      (Chk (fits acc [] ls) (wpT P os ds (i + 1) (match e with | true => (i, []) :: acc | false => acc) ⟨putS st.s d .skip, st.h⟩ K) (by exact ())) (by exact ()) (by exact ()) := by
  have key : ∀ (t : List (Nat × Bool)) (A B : Prop), A = B → (((ls.all fun a => match acc.lookup a with | some t' => compat t' t | none => false) = true ∧ A) = (fits acc t ls = true ∧ B)) := fun t A B h => by rw [fits_eq, h]
  simp only [wpT, wants, touch, Tch, Chk, List.head?_cons, List.tail_cons, Ask]
  generalize st.s j = c
  cases c with
  | d x => cases x with
           | bool t => cases t <;> cases b <;> cases e <;> exact key _ _ _ rfl
           | _ => simp
  | skip => cases e <;> exact key _ _ _ rfl
  | _ => simp

theorem wt_run_t (d : Option Nat) (o : XOp) (os : List XOper) (ls : List Nat) (ds : List (Bool × List Nat)) (i : Nat) (acc : List (Nat × List (Nat × Bool))) :
    wpT P (⟨d, o, none⟩ :: os) ((true, ls) :: ds) i acc st K = Tch (touchOp d st o) (fun t => Chk (fits acc t ls) (runX P ⟨d, o, none⟩ st fun st' => wpT P os ds (i + 1) ((i, t) :: acc) st' K) (by exact ())) (by exact ()) := wt_run d o os true ls ds i acc
theorem wt_run_f (d : Option Nat) (o : XOp) (os : List XOper) (ls : List Nat) (ds : List (Bool × List Nat)) (i : Nat) (acc : List (Nat × List (Nat × Bool))) :
    wpT P (⟨d, o, none⟩ :: os) ((false, ls) :: ds) i acc st K = Tch (touchOp d st o) (fun t => Chk (fits acc t ls) (runX P ⟨d, o, none⟩ st fun st' => wpT P os ds (i + 1) acc st' K) (by exact ())) (by exact ()) := wt_run d o os false ls ds i acc
theorem wt_ask_t (d : Option Nat) (o : XOp) (j : Nat) (b : Bool) (os : List XOper) (ls : List Nat) (ds : List (Bool × List Nat)) (i : Nat) (acc : List (Nat × List (Nat × Bool))) :
    wpT P (⟨d, o, some (j, b)⟩ :: os) ((true, ls) :: ds) i acc st K = Ask (st.s j) b
      (Tch (touchOp d st o) (fun t => Chk (fits acc t ls) (runX P ⟨d, o, none⟩ st fun st' => wpT P os ds (i + 1) ((i, t) :: acc) st' K) (by exact ())) (by exact ()))
      (Chk (fits acc [] ls) (wpT P os ds (i + 1) ((i, []) :: acc) ⟨putS st.s d .skip, st.h⟩ K) (by exact ())) (by exact ()) (by exact ()) := wt_ask d o j b os true ls ds i acc
theorem wt_ask_f (d : Option Nat) (o : XOp) (j : Nat) (b : Bool) (os : List XOper) (ls : List Nat) (ds : List (Bool × List Nat)) (i : Nat) (acc : List (Nat × List (Nat × Bool))) :
    wpT P (⟨d, o, some (j, b)⟩ :: os) ((false, ls) :: ds) i acc st K = Ask (st.s j) b
      (Tch (touchOp d st o) (fun t => Chk (fits acc t ls) (runX P ⟨d, o, none⟩ st fun st' => wpT P os ds (i + 1) acc st' K) (by exact ())) (by exact ()))
      (Chk (fits acc [] ls) (wpT P os ds (i + 1) acc ⟨putS st.s d .skip, st.h⟩ K) (by exact ())) (by exact ()) (by exact ()) := wt_ask d o j b os false ls ds i acc

theorem upd_eq {α : Type} (f : Nat → α) (i : Nat) (v : α) : upd f i v i = v := by simp [upd]
theorem upd_ne {α : Type} (f : Nat → α) (i j : Nat) (v : α) (h : j ≠ i) : upd f i v j = f j := by simp [upd, h]
theorem ev_t (s : Nat → AV) (i : Nat) : Opd.ev s (.t i) = s i := rfl
theorem ev_c (s : Nat → AV) (v : AV) : Opd.ev s (.c v) = v := rfl
def evs (s : Nat → AV) : List Opd → List AV
  | [] => []
  | x :: xs => x.ev s :: evs s xs
theorem evs_eq (s : Nat → AV) (l : List Opd) : l.map (·.ev s) = evs s l := by
  induction l with
  | nil => rfl
  | cons x xs ih => simp [evs, ih]
def sks (h : Nat → Ent) : List AV → List Nat
  | [] => []
  | x :: xs => sk h deep x ++ sks h xs
theorem sks_eq (h : Nat → Ent) (l : List AV) : l.flatMap (sk h deep) = sks h l := by
  induction l with
  | nil => rfl
  | cons x xs ih => simp [sks, ih]
def caps2 : Option (FuncId × List AV) → List AV
  | some c => c.2
  | none => []
theorem touch_call {d : Option Nat} (f : Opd) (args : List Opd) (s : Nat → AV) (h : Nat → Ent) : touchOp d ⟨s, h⟩ (.call f args) = wr (sks h (evs s args ++ caps2 (callee (f.ev s)))) := by
  simp only [touchOp, evs_eq, sks_eq]
  cases callee (f.ev s) <;> rfl
theorem run_callC (d : Option Nat) (f : Opd) (args : List Opd) (s : Nat → AV) (h : Nat → Ent) :
    runX P ⟨d, .call f args, none⟩ ⟨s, h⟩ K = runC P (callee (f.ev s)) (evs s args ++ caps2 (callee (f.ev s))) (allD (toD h deep) (evs s args ++ caps2 (callee (f.ev s)))) (sks h (evs s args ++ caps2 (callee (f.ev s)))) s h d K (by exact ()) (by exact ()) (by exact ()) := by
  rw [← evs_eq, ← sks_eq]
  apply propext
  simp only [runX, runC, CallX]
  constructor
  · rintro ⟨g, caps, rs, h', h1, h2, h4⟩
    rw [h1]
    exact ⟨g, caps, rs, h', rfl, h2, h4⟩
  · rintro ⟨g, caps, rs, h', h1, h2, h4⟩
    rw [h1] at h2
    exact ⟨g, caps, rs, h', h1, h2, h4⟩

section
variable {d : Option Nat} {s : Nat → AV} {h : Nat → Ent}
theorem rb_mv (x : Opd) : runX P ⟨d, .mv x, none⟩ ⟨s, h⟩ K = runB (some (x.ev s, h)) s d K (by exact ()) (by exact ()) := runA_iff
theorem rb_nilck (x : Opd) : runX P ⟨d, .nilck x, none⟩ ⟨s, h⟩ K = runB (match x.ev s with
    | .ptr k v o => if v = (h k).ver then (match (h k).body with | .box _ _ => some (.ptr k v o, h) | _ => none) else none
    | .d (.rp cs) => some (.d (.rp cs), h)
    | .d (.clo f cs) => some (.d (.clo f cs), h)
    | _ => none) s d K (by exact ()) (by exact ()) := runA_iff
theorem rb_nilrow (sz : Nat) : runX P ⟨d, .nilrow sz, none⟩ ⟨s, h⟩ K = runB (d.bind fun k => some (.rsl k ((h k).ver + 1), newE h k (.row sz [] false))) s d K (by exact ()) (by exact ()) := runA_iff
theorem rb_pick (c a b : Opd) : runX P ⟨d, .pick c a b, none⟩ ⟨s, h⟩ K = runB (match c.ev s with
    | .d (.bool t) => some (if t then a.ev s else b.ev s, h)
    | _ => none) s d K (by exact ()) (by exact ()) := runA_iff
theorem rb_alloc (cs : List AV) : runX P ⟨d, .alloc cs, none⟩ ⟨s, h⟩ K = runB (d.bind fun k => some (.ptr k ((h k).ver + 1) 0, newE h k (.box cs false))) s d K (by exact ()) (by exact ()) := runA_iff
theorem rb_box (x : Opd) : runX P ⟨d, .box x, none⟩ ⟨s, h⟩ K = runB (d.bind fun k => if (x.ev s).cells.all AV.one = true then some (.ptr k ((h k).ver + 1) 0, newE h k (.box (x.ev s).cells false)) else none) s d K (by exact ()) (by exact ()) := runA_iff
theorem rb_load (n : Nat) (ag : Bool) (a : Opd) : runX P ⟨d, .load n ag a, none⟩ ⟨s, h⟩ K = runB ((loadA h n ag (a.ev s)).map fun v => (v, h)) s d K (by exact ()) (by exact ()) := runA_iff
theorem rb_store (n : Nat) (a x : Opd) : runX P ⟨d, .store n a x, none⟩ ⟨s, h⟩ K = runB ((storeA h n (a.ev s) (x.ev s)).map fun h => (.skip, h)) s d K (by exact ()) (by exact ()) := runA_iff
theorem rb_bin (op : BinOp) (x y : Opd) : runX P ⟨d, .bin op x y, none⟩ ⟨s, h⟩ K = runB ((binI op (x.ev s) (y.ev s)).map fun v => (.d v, h)) s d K (by exact ()) (by exact ()) := runA_iff
theorem rb_binb (op : BinOp) (x y : Opd) : runX P ⟨d, .binb op x y, none⟩ ⟨s, h⟩ K = runB ((binB op (x.ev s) (y.ev s)).map fun v => (.d v, h)) s d K (by exact ()) (by exact ()) := runA_iff
theorem rb_un (op : UnOp) (x : Opd) : runX P ⟨d, .un op x, none⟩ ⟨s, h⟩ K = runB (match op, x.ev s with
    | .not, .d (.bool b) => some (.d (.bool !b), h)
    | .neg, .d (.int k n) => some (.d (.int k (k.wrap (0 - n))), h)
    | _, _ => none) s d K (by exact ()) (by exact ()) := runA_iff
theorem rb_conv (k : IntKind) (x : Opd) : runX P ⟨d, .conv k x, none⟩ ⟨s, h⟩ K = runB (match x.ev s with
    | .d (.int _ n) => some (.d (.int k (k.wrap n)), h)
    | _ => none) s d K (by exact ()) (by exact ()) := runA_iff
theorem rb_mkf (f : FuncId) (cs : List Opd) : runX P ⟨d, .mkf f cs, none⟩ ⟨s, h⟩ K = runB (some (.clo f (evs s cs), h)) s d K (by exact ()) (by exact ()) := by
  rw [← evs_eq]; exact runA_iff
theorem rb_mks (z : D) (sz b : Nat) (x : Opd) : runX P ⟨d, .mks z sz b x, none⟩ ⟨s, h⟩ K = runB (d.bind fun k => match x.ev s with
    | .d (.int .i64 n) => if 0 ≤ n ∧ n * b ≤ maxRoom ∧ n ≤ maxRoom then some (.rsl k ((h k).ver + 1), newE h k (.row sz (List.replicate n.toNat z) false)) else none
    | _ => none) s d K (by exact ()) (by exact ()) := runA_iff
theorem rb_slice (n : Nat) (x : Opd) (lo hi : Option Opd) : runX P ⟨d, .slice n x lo hi, none⟩ ⟨s, h⟩ K = runB (match toD h deep (x.ev s) with
    | some (.sl sz xs) => if sz = n then match idx (hi.map (·.ev s)) xs.length xs.length with
      | some e => match idx (lo.map (·.ev s)) e 0 with
        | some l => some (.d (.sl sz ((xs.take e).drop l)), frz h (sk h deep (x.ev s)))
        | none => none
      | none => none
      else none
    | _ => none) s d K (by exact ()) (by exact ()) := runA_iff
theorem rb_faddr (o : Nat) (x : Opd) : runX P ⟨d, .faddr o x, none⟩ ⟨s, h⟩ K = runB (match x.ev s with
    | .ptr k v off => if v = (h k).ver then (match (h k).body with | .box _ _ => some (.ptr k v (off + o), h) | _ => none) else none
    | .d (.rp cs) => if o ≤ cs.length then some (.d (.rp (cs.drop o)), h) else none
    | .eptr k v sz i p => if v = (h k).ver then (match (h k).body with | .row _ _ false => some (.eptr k v sz i (p + o), h) | _ => none) else none
    | _ => none) s d K (by exact ()) (by exact ()) := runA_iff
theorem rb_fld (o n : Nat) (ag : Bool) (x : Opd) : runX P ⟨d, .fld o n ag x, none⟩ ⟨s, h⟩ K = runB (match x.ev s with
    | .d (.agg cs) => (cut o n cs).bind fun cs => (wrapD ag cs).map fun v => (.d v, h)
    | .agg cs => (cut o n cs).bind fun cs => (wrapA ag cs).map fun v => (v, h)
    | _ => none) s d K (by exact ()) (by exact ()) := runA_iff
theorem rb_ext (x : Opd) (i : Nat) : runX P ⟨d, .ext x i, none⟩ ⟨s, h⟩ K = runB (match x.ev s with
    | .tup cs => (cs[i]?).map fun v => (v, h)
    | _ => none) s d K (by exact ()) (by exact ()) := runA_iff
theorem rb_len (x : Opd) : runX P ⟨d, .len x, none⟩ ⟨s, h⟩ K = runB ((elemsA h (x.ev s)).map fun p => (.d (.int .i64 p.2.length), h)) s d K (by exact ()) (by exact ()) := runA_iff
theorem rb_mm (mx : Bool) (x y : Opd) : runX P ⟨d, .mm mx x y, none⟩ ⟨s, h⟩ K = runB (match x.ev s, y.ev s with
    | .d (.int k a), .d (.int k' b) => if k = k' then some (.d (.int k (if mx then (if b > a then b else a) else (if b < a then b else a))), h) else none
    | _, _ => none) s d K (by exact ()) (by exact ()) := runA_iff
theorem rb_build (z : List AV) (ps : List (Nat × Nat × Opd)) : runX P ⟨d, .build z ps, none⟩ ⟨s, h⟩ K = runB ((buildA h s z ps).map fun cs => (.agg cs, h)) s d K (by exact ()) (by exact ()) := runA_iff
theorem rb_bslice (z : D) (sz n : Nat) (ps : List (Nat × Opd)) : runX P ⟨d, .bslice z sz n ps, none⟩ ⟨s, h⟩ K = runB ((partsD h s sz (List.replicate n z) ps).map fun xs => (.fsl sz xs, frz h (partsK h s ps))) s d K (by exact ()) (by exact ()) := runA_iff
theorem rb_iaddr (n : Nat) (x i : Opd) : runX P ⟨d, .iaddr n x i, none⟩ ⟨s, h⟩ K = runB (act d ⟨s, h⟩ (.iaddr n x i)) s d K (by exact ()) (by exact ()) := runA_iff
theorem rb_app (n b : Nat) (x y : Opd) : runX P ⟨d, .app n b x y, none⟩ ⟨s, h⟩ K = runB (act d ⟨s, h⟩ (.app n b x y)) s d K (by exact ()) (by exact ()) := runA_iff
end
end
end Ev
end Go.Proofs.Ytnkbhmafebngjaa
