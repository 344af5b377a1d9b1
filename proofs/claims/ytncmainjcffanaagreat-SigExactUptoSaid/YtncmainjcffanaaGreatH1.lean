/- shape: numbers, right blocks. -/
import Derived.Test.YtncmainjcffanaaGreatQ1
import Derived.Test.YtncmainjcffanaaGreatXs
namespace Go.Proofs.YtncmainjcffanaaGreat
namespace Ev
open Go
set_option maxRecDepth 100000
set_option linter.unusedSimpArgs false
set_option linter.unusedVariables false
section
attribute [local simp] allD_map_d sks_map_d tk tn tks initA EndsM
theorem level_ok (n : Int) : Pure Tryz.prog n_shape_level [.int .i64 n] [.bool (decide (0 ≤ n) && decide (n ≤ 6))] := by
  refine p_shape_level rfl fun hs => ?_
  simp -dsimp [x_shape_level]
  (first | refine Ask_b ?_ ?_ | refine Cnd_b ?_ ?_) <;> intro h <;> (try simp only [nrm] at h) <;> simp -dsimp [h]
def place (base ahead k many : Int) : Int := if base < 0 ∨ 65535 < base ∨ k < 0 ∨ many ≤ k then -1 else w64 (w64 (base + ahead) + k)
theorem place_ok (a b c d : Int) : Pure Tryz.prog n_shape_place [.int .i64 a, .int .i64 b, .int .i64 c, .int .i64 d] [.int .i64 (place a b c d)] := by
  refine p_shape_place rfl fun hs => ?_
  simp -dsimp [x_shape_place]
  (first | refine Ask_b ?_ ?_ | refine Cnd_b ?_ ?_) <;> intro h1 <;> (try simp only [nrm] at h1) <;> simp -dsimp [h1, place, w64]
  (first | refine Ask_b ?_ ?_ | refine Cnd_b ?_ ?_) <;> intro h2 <;> (try simp only [nrm] at h2) <;> simp -dsimp [h2, h1, place, w64]
  (first | refine Ask_b ?_ ?_ | refine Cnd_b ?_ ?_) <;> intro h3 <;> (try simp only [nrm] at h3) <;> simp -dsimp [h3, h1, h2, place, w64]
  (first | refine Ask_b ?_ ?_ | refine Cnd_b ?_ ?_) <;> intro h4 <;> (try simp only [nrm] at h4) <;> simp -dsimp [h4, h1, h2, h3, place, w64]
def decs (l : List So) : Nat := (l.filter (·.dec)).length
theorem decs_snoc (l : List So) (i : Nat) (x : So) (h : l[i]? = some x) : decs (l.take (i + 1)) = decs (l.take i) + if x.dec then 1 else 0 := by
  simp only [decs, List.take_add_one, h]
  cases hd : x.dec <;> simp -dsimp [hd]
theorem decs_le (l : List So) : decs l ≤ l.length := List.length_filter_le _ _
theorem decs_ok (b : Bl) (k : Int) (h0 : 0 ≤ k) (hk : k ≤ b.sorts.length) : Pure Tryz.prog n_shape_decs [eBl b, .int .i64 k] [.int .i64 (decs (b.sorts.take k.toNat))] := by
  refine p_shape_decs rfl fun hs => ?_
  have hb : b.sorts.length ≤ 9223372036854775807 := by
    have := hs (eBl b) (by simp)
    simp -dsimp [eBl, cBl, eSos, small] at this
    exact this.1.1
  obtain ⟨m, rfl⟩ : ∃ m : Nat, k = m := ⟨k.toNat, by omega⟩
  have hm : m ≤ b.sorts.length := by omega
  simp -dsimp [x_shape_decs, eBl, cBl, eSos, eCos, h0, hk]
  refine wp_upto m (fun i st => st.s 11 = .d (.sl 6 ((b.sorts.take m).map eSo)) ∧ st.s 12 = .d (.int .i64 m) ∧ st.s 13 = .d (.int .i64 i) ∧ st.s 5 = .d (.int .i64 (decs (b.sorts.take i)))) ?_ ?_
  · simp -dsimp [decs, hm]
  · rintro i ⟨s, hp⟩ hi ⟨h1, h2, h3, h4⟩
    dsimp only at h1 h2 h3 h4
    rcases Nat.lt_or_ge i m with hlt | hge
    · obtain ⟨x, hx⟩ : ∃ x, b.sorts[i]? = some x := ⟨_, List.getElem?_eq_getElem (by omega)⟩
      have hx' : (b.sorts.take m)[i]? = some x := by rw [List.getElem?_take_of_lt hlt, hx]
      simp -dsimp [h1, h2, h3, h4, hlt, hx, hx', eSo, cSo, cT, eArs]
      have hd := decs_le (b.sorts.take i)
      rw [List.length_take] at hd
      have w1 : IntKind.i64.wrap ((i : Int) + 1) = (i : Int) + 1 := wrap_id (by omega) (by omega)
      have w2 : IntKind.i64.wrap ((decs (b.sorts.take i) : Int) + 1) = (decs (b.sorts.take i) : Int) + 1 := wrap_id (by omega) (by omega)
      cases hxd : x.dec <;> simp -dsimp [hxd, hlt, h1, h2, h3, h4, w1, w2, decs_snoc _ _ _ hx]
    · have e : i = m := by omega
      subst e
      simp -dsimp [h1, h2, h3, h4]
def count (b : Bl) : Int := w64 (w64 (w64 (2 * b.sorts.length) + decs b.sorts) + b.cons.length)
theorem count_ok (b : Bl) : Pure Tryz.prog n_shape_Count [eBl b] [.int .i64 (count b)] := by
  refine p_shape_Count rfl fun hs => ?_
  simp -dsimp [x_shape_Count, eBl, cBl, eSos, eCos]
  refine call_of (decs_ok b b.sorts.length (by omega) (by omega)) ?_
  simp -dsimp [count, w64]
def former (b : Bl) (base k : Int) : Int := place base 0 k b.sorts.length
theorem former_ok (b : Bl) (base k : Int) : Pure Tryz.prog n_shape_Former [eBl b, .int .i64 base, .int .i64 k] [.int .i64 (former b base k)] := by
  refine p_shape_Former rfl fun hs => ?_
  simp -dsimp [x_shape_Former, eBl, cBl, eSos, eCos]
  refine call_of (place_ok _ _ _ _) ?_
  simp -dsimp [former]
def decoder (b : Bl) (base k : Int) : Int :=
  if k < 0 then -1 else match b.sorts[k.toNat]? with
    | none => -1
    | some s => if s.dec then place base b.sorts.length (decs (b.sorts.take k.toNat)) b.sorts.length else -1
theorem decoder_ok (b : Bl) (base k : Int) : Pure Tryz.prog n_shape_Decoder [eBl b, .int .i64 base, .int .i64 k] [.int .i64 (decoder b base k)] := by
  refine p_shape_Decoder rfl fun hs => ?_
  simp -dsimp [x_shape_Decoder, eBl, cBl, eSos, eCos]
  (first | refine Ask_b ?_ ?_ | refine Cnd_b ?_ ?_) <;> intro h1 <;> (try simp only [nrm] at h1) <;> simp -dsimp [h1, decoder]
  (first | refine Ask_b ?_ ?_ | refine Cnd_b ?_ ?_) <;> intro h2 <;> (try simp only [nrm] at h2) <;> simp -dsimp [h2, h1, decoder]
  · have : b.sorts[k.toNat]? = none := List.getElem?_eq_none (by omega)
    simp -dsimp [this]
  · obtain ⟨s, hs⟩ : ∃ s, b.sorts[k.toNat]? = some s := ⟨_, List.getElem?_eq_getElem (by omega)⟩
    have h3 : 0 ≤ k := by omega
    simp -dsimp [hs, h1, h2, h3, eSo, cSo, cT, eArs]
    (first | refine Ask_b ?_ ?_ | refine Cnd_b ?_ ?_) <;> intro h4 <;> (try simp only [nrm] at h4) <;> simp -dsimp [h4, hs, h1, h2, h3, decoder]
    · 
      refine call_of (decs_ok b k (by omega) (by omega)) ?_
      simp -dsimp
      refine call_of (place_ok _ _ _ _) ?_
      simp -dsimp [decoder, h1, h4, hs]
def constructor_ (b : Bl) (base k : Int) : Int := place base (w64 (b.sorts.length + decs b.sorts)) k b.cons.length
theorem constructor_ok (b : Bl) (base k : Int) : Pure Tryz.prog n_shape_Constructor [eBl b, .int .i64 base, .int .i64 k] [.int .i64 (constructor_ b base k)] := by
  refine p_shape_Constructor rfl fun hs => ?_
  simp -dsimp [x_shape_Constructor, eBl, cBl, eSos, eCos]
  refine call_of (decs_ok b b.sorts.length (by omega) (by omega)) ?_
  simp -dsimp
  refine call_of (place_ok _ _ _ _) ?_
  simp -dsimp [constructor_, w64]
def eliminator (b : Bl) (base k : Int) : Int := place base (w64 (w64 (b.sorts.length + decs b.sorts) + b.cons.length)) k b.sorts.length
theorem eliminator_ok (b : Bl) (base k : Int) : Pure Tryz.prog n_shape_Eliminator [eBl b, .int .i64 base, .int .i64 k] [.int .i64 (eliminator b base k)] := by
  refine p_shape_Eliminator rfl fun hs => ?_
  simp -dsimp [x_shape_Eliminator, eBl, cBl, eSos, eCos]
  refine call_of (decs_ok b b.sorts.length (by omega) (by omega)) ?_
  simp -dsimp
  refine call_of (place_ok _ _ _ _) ?_
  simp -dsimp [eliminator, w64]
end
section
attribute [local simp] allD_map_d sks_map_d tk tn tks initA EndsM
theorem heavy02_one (t : T) : Pure Tryz.prog n_porismlaw02_Heavy [.sl 3 [.agg (cT t)]] [.bool (heavy02 [t])] := by
  have h := heavy02_ok [t]
  simp only [eTs, List.map_cons, List.map_nil, eT_eq] at h
  exact h
theorem any_snoc {α : Type} {p : α → Bool} {l : List α} {i : Nat} (hlt : i < l.length) (h : (l.take i).any p = false) (hx : p l[i] = false) : (l.take (i + 1)).any p = false := by
  rw [take_snoc (List.getElem?_eq_getElem hlt), List.any_append, h]
  simp [hx]
theorem any_mem {α : Type} {p : α → Bool} {l : List α} {i : Nat} (hlt : i < l.length) (hx : p l[i] = true) : l.any p = true := List.any_eq_true.2 ⟨l[i], List.getElem_mem _, hx⟩
def pArg (a : Ar) : Bool := heavy02 [a.ty] || heavy02 a.dom || heavy02 a.idx
def heavyArgs (l : List Ar) : Bool := decide ((20 : Int) < (l.length : Int)) || l.any pArg
theorem heavyArgs_ok (l : List Ar) : Pure Tryz.prog n_porismlaw07_heavyArgs [eArs l] [.bool (heavyArgs l)] := by
  refine p_porismlaw07_heavyArgs rfl fun hs => ?_
  simp -dsimp [x_porismlaw07_heavyArgs, eArs]
  (first | refine Ask_b ?_ ?_ | refine Cnd_b ?_ ?_) <;> intro h1 <;> (try simp only [nrm] at h1) <;> simp -dsimp [h1, heavyArgs]
  have hl : l.length ≤ 20 := by omega
  refine wp_upto l.length (fun i st => st.s 0 = .d (.sl 7 (l.map eAr)) ∧ st.s 3 = .d (.int .i64 i) ∧ (l.take i).any pArg = false) ?_ ?_
  · simp -dsimp
  · rintro i ⟨s, hp⟩ hi ⟨h2, h3, h5⟩
    dsimp only at h2 h3 h5
    rcases Nat.lt_or_ge i l.length with hlt | hge
    · have w1 : IntKind.i64.wrap ((i : Int) + 1) = (i : Int) + 1 := wrap_id (by omega) (by omega)
      have ht : ∀ b, pArg l[i] = b → heavy02 [l[i].ty] = true ∨ heavy02 l[i].dom = true ∨ heavy02 l[i].idx = true → b = true := by
        rintro b rfl h
        simp only [pArg, Bool.or_eq_true]
        rcases h with h | h | h <;> simp [h]
      have fin : pArg l[i] = true → heavyArgs l = true := fun h => by simp only [heavyArgs, any_mem hlt h, Bool.or_true]
      simp -dsimp [h2, h3, hlt, eAr, cAr, cT, eTs]
      refine call_of (heavy02_one l[i].ty) ?_
      simp -dsimp [h2, h3, hlt]
      (first | refine Ask_b ?_ ?_ | refine Cnd_b ?_ ?_) <;> intro h6 <;> (try simp only [nrm] at h6) <;> simp -dsimp [h6, h2, h3, hlt]
      · exact fin (ht _ rfl (.inl h6))
      · simp -dsimp [h2, h3, hlt, h6, eAr, cAr, cT, eTs]
        refine call_of (heavy02_ok l[i].dom) ?_
        simp -dsimp [h2, h3, hlt, h6]
        (first | refine Ask_b ?_ ?_ | refine Cnd_b ?_ ?_) <;> intro h7 <;> (try simp only [nrm] at h7) <;> simp -dsimp [h7, h2, h3, hlt, h6]
        · exact fin (ht _ rfl (.inr (.inl h7)))
        · simp -dsimp [h2, h3, hlt, h6, h7, eAr, cAr, cT, eTs]
          refine call_of (heavy02_ok l[i].idx) ?_
          simp -dsimp [h2, h3, hlt, h6, h7]
          (first | refine Ask_b ?_ ?_ | refine Cnd_b ?_ ?_) <;> intro h8 <;> (try simp only [nrm] at h8) <;> simp -dsimp [h8, h2, h3, hlt, h6, h7]
          · exact fin (ht _ rfl (.inr (.inr h8)))
          · simp -dsimp [h2, h3, hlt, h6, h7, h8, w1]
            have := any_snoc hlt h5 (by simp [pArg, h6, h7, h8])
            simpa using this
    · have e : i = l.length := by omega
      subst e
      simp -dsimp [h2, h3, heavyArgs]
      rw [List.take_length] at h5
      exact ⟨by omega, by simpa using h5⟩
def pSo (s : So) : Bool := heavyArgs s.idx || heavy02 [s.dty]
def pCo (c : Co) : Bool := heavyArgs c.args || heavy02 c.idx || heavy02 [c.dec]
def heavy07 (b : Bl) : Bool := decide ((10 : Int) < (b.sorts.length : Int)) || decide ((20 : Int) < (b.cons.length : Int)) || b.sorts.any pSo || b.cons.any pCo
theorem heavy07_ok (b : Bl) : Pure Tryz.prog n_porismlaw07_Heavy [eBl b] [.bool (heavy07 b)] := by
  refine p_porismlaw07_Heavy rfl fun hs => ?_
  simp -dsimp [x_porismlaw07_Heavy, eBl, cBl, eSos, eCos]
  (first | refine Ask_b ?_ ?_ | refine Cnd_b ?_ ?_) <;> intro h1 <;> (try simp only [nrm] at h1) <;> simp -dsimp [h1, heavy07]
  (first | refine Ask_b ?_ ?_ | refine Cnd_b ?_ ?_) <;> intro h2 <;> (try simp only [nrm] at h2) <;> simp -dsimp [h2, heavy07, h1]
  have hl : b.sorts.length ≤ 10 := by omega
  have hl2 : b.cons.length ≤ 20 := by omega
  refine wp_upto b.sorts.length (fun i st => st.s 1 = .ptr 1 1 0 ∧ st.h 1 = ⟨1, .box [.d (.sl 6 (b.sorts.map eSo)), .d (.sl 6 (b.cons.map eCo)), .d (.int .i64 b.elim)] false⟩ ∧ st.s 3 = .d (.int .i64 i) ∧ (b.sorts.take i).any pSo = false) ?_ ?_
  · simp -dsimp
  · rintro i ⟨s, hp⟩ hi ⟨h3, h4, h5, h6⟩
    dsimp only at h3 h4 h5 h6
    rcases Nat.lt_or_ge i b.sorts.length with hlt | hge
    · have w1 : IntKind.i64.wrap ((i : Int) + 1) = (i : Int) + 1 := wrap_id (by omega) (by omega)
      have fin : pSo b.sorts[i] = true → heavy07 b = true := fun h => by simp only [heavy07, any_mem hlt h, Bool.or_true, Bool.true_or]
      simp -dsimp [h3, h4, h5, hlt, eSo, cSo, cT, eArs]
      refine call_of (heavyArgs_ok b.sorts[i].idx) ?_
      simp -dsimp [h3, h4, h5, hlt]
      (first | refine Ask_b ?_ ?_ | refine Cnd_b ?_ ?_) <;> intro h7 <;> (try simp only [nrm] at h7) <;> simp -dsimp [h7, h3, h4, h5, hlt]
      · exact fin (by simp [pSo, h7])
      · simp -dsimp [h3, h4, h5, hlt, h7, eSo, cSo, cT, eArs]
        refine call_of (heavy02_one b.sorts[i].dty) ?_
        simp -dsimp [h3, h4, h5, hlt, h7]
        (first | refine Ask_b ?_ ?_ | refine Cnd_b ?_ ?_) <;> intro h8 <;> (try simp only [nrm] at h8) <;> simp -dsimp [h8, h3, h4, h5, hlt, h7]
        · exact fin (by simp [pSo, h8])
        · simp -dsimp [h3, h4, h5, hlt, h7, h8, w1]
          simpa using any_snoc hlt h6 (by simp [pSo, h7, h8])
    · have e : i = b.sorts.length := by omega
      subst e
      rw [List.take_length] at h6
      simp -dsimp [h3, h4, h5]
      refine wp_upto b.cons.length (fun i st => st.s 1 = .ptr 1 1 0 ∧ st.h 1 = ⟨1, .box [.d (.sl 6 (b.sorts.map eSo)), .d (.sl 6 (b.cons.map eCo)), .d (.int .i64 b.elim)] false⟩ ∧ st.s 4 = .d (.int .i64 i) ∧ (b.cons.take i).any pCo = false) ?_ ?_
      · simp -dsimp [h3, h4, h5]
      · rintro i ⟨s, hp⟩ hi ⟨h3, h4, h5, h10⟩
        dsimp only at h3 h4 h5 h10
        rcases Nat.lt_or_ge i b.cons.length with hlt | hge
        · have w1 : IntKind.i64.wrap ((i : Int) + 1) = (i : Int) + 1 := wrap_id (by omega) (by omega)
          have fin : pCo b.cons[i] = true → heavy07 b = true := fun h => by simp only [heavy07, any_mem hlt h, Bool.or_true, Bool.true_or]
          simp -dsimp [h3, h4, h5, hlt, eCo, cCo, cT, eArs, eTs]
          refine call_of (heavyArgs_ok b.cons[i].args) ?_
          simp -dsimp [h3, h4, h5, hlt]
          (first | refine Ask_b ?_ ?_ | refine Cnd_b ?_ ?_) <;> intro h7 <;> (try simp only [nrm] at h7) <;> simp -dsimp [h7, h3, h4, h5, hlt]
          · exact fin (by simp [pCo, h7])
          · simp -dsimp [h3, h4, h5, hlt, h7, eCo, cCo, cT, eArs, eTs]
            refine call_of (heavy02_ok b.cons[i].idx) ?_
            simp -dsimp [h3, h4, h5, hlt, h7]
            (first | refine Ask_b ?_ ?_ | refine Cnd_b ?_ ?_) <;> intro h8 <;> (try simp only [nrm] at h8) <;> simp -dsimp [h8, h3, h4, h5, hlt, h7]
            · exact fin (by simp [pCo, h8])
            · simp -dsimp [h3, h4, h5, hlt, h7, h8, eCo, cCo, cT, eArs, eTs]
              refine call_of (heavy02_one b.cons[i].dec) ?_
              simp -dsimp [h3, h4, h5, hlt, h7, h8]
              (first | refine Ask_b ?_ ?_ | refine Cnd_b ?_ ?_) <;> intro h9 <;> (try simp only [nrm] at h9) <;> simp -dsimp [h9, h3, h4, h5, hlt, h7, h8]
              · exact fin (by simp [pCo, h9])
              · simp -dsimp [h3, h4, h5, hlt, h7, h8, h9, w1]
                simpa using any_snoc hlt h10 (by simp [pCo, h7, h8, h9])
        · have e : i = b.cons.length := by omega
          subst e
          rw [List.take_length] at h10
          simp -dsimp [h3, h4, h5, heavy07, h6, h10]
          exact ⟨by omega, by omega⟩
end
section
attribute [local simp] allD_map_d sks_map_d tk tn tks initA EndsM
/-- A row of the table of a block's constants. -/
structure En where
  kind : Int
  many : Nat
  f : Nat
  of : Int → Int
def eEn (e : En) : D := .agg [.int .i64 e.kind, .int .i64 e.many, .clo e.f []]
def tab (b : Bl) (base : Int) : List En :=
  [⟨3, b.sorts.length, n_shape_Former, former b base⟩, ⟨4, b.sorts.length, n_shape_Decoder, decoder b base⟩, ⟨5, b.cons.length, n_shape_Constructor, constructor_ b base⟩, ⟨6, b.sorts.length, n_shape_Eliminator, eliminator b base⟩]
def hit (n : Int) (e : En) : Option Nat := (List.range e.many).find? fun k => e.of k == n
def seek (n : Int) (l : List En) : Option (Int × Int) := l.findSome? fun e => (hit n e).map fun (k : Nat) => (e.kind, (k : Int))
def ofM (b : Bl) (base n : Int) : Int × Int :=
  if base < 0 ∨ 65535 < base ∨ n < base ∨ count b ≤ w64 (n - base) then (0, 0) else (seek n (tab b base)).getD (0, 0)
theorem tab_ok (b : Bl) (base : Int) : ∀ e ∈ tab b base, ∀ k : Int, Pure Tryz.prog e.f [eBl b, .int .i64 base, .int .i64 k] [.int .i64 (e.of k)] := by
  intro e he k
  simp only [tab, List.mem_cons, List.not_mem_nil, or_false] at he
  rcases he with rfl | rfl | rfl | rfl
  · exact former_ok b base k
  · exact decoder_ok b base k
  · exact constructor_ok b base k
  · exact eliminator_ok b base k
theorem tab_many (b : Bl) (base : Int) (hl : b.sorts.length ≤ 9223372036854775807) (hc : b.cons.length ≤ 9223372036854775807) : ∀ e ∈ tab b base, e.many ≤ 9223372036854775807 := by
  intro e he
  simp only [tab, List.mem_cons, List.not_mem_nil, or_false] at he
  rcases he with rfl | rfl | rfl | rfl <;> assumption
theorem find_range {p : Nat → Bool} {n i : Nat} (hi : i < n) (hb : ∀ j, j < i → p j = false) (h : p i = true) : (List.range n).find? p = some i := by
  rw [List.find?_eq_some_iff_append]
  refine ⟨h, List.range i, (List.range (n - i - 1)).map (· + (i + 1)), ?_, ?_⟩
  · apply List.ext_getElem
    · simp; omega
    · intro j h1 h2
      simp [List.getElem_append, List.getElem_cons]
      split
      · omega
      · omega
  · intro a ha
    simp at ha
    simp [hb a ha]
theorem seek_next {n : Int} {l : List En} {i : Nat} (hlt : i < l.length) (h : seek n (l.take i) = none) (hx : hit n l[i] = none) : seek n (l.take (i + 1)) = none := by
  rw [take_snoc (List.getElem?_eq_getElem hlt)]
  simp only [seek, List.findSome?_append] at h ⊢
  rw [h]
  simp [hx]
theorem seek_hit {n : Int} {l : List En} {i k : Nat} (hlt : i < l.length) (h : seek n (l.take i) = none) (hx : hit n l[i] = some k) : seek n l = some (l[i].kind, (k : Int)) := by
  have e : seek n (l.take i ++ l[i] :: l.drop (i + 1)) = some (l[i].kind, (k : Int)) := by
    simp only [seek, List.findSome?_append] at h ⊢
    rw [h, List.findSome?_cons, hx]
    rfl
  rwa [List.getElem_cons_drop, List.take_append_drop] at e
theorem of_ok (b : Bl) (base n : Int) : Pure Tryz.prog n_shape_Of [eBl b, .int .i64 base, .int .i64 n] [.int .i64 (ofM b base n).1, .int .i64 (ofM b base n).2] := by
  refine p_shape_Of rfl fun hs => ?_
  have hsm := hs (eBl b) (by simp)
  simp [eBl, cBl, eSos, eCos, small] at hsm
  obtain ⟨⟨hl, _⟩, hlc, _⟩ := hsm
  simp -dsimp [x_shape_Of, eBl, cBl, eSos, eCos]
  (first | refine Ask_b ?_ ?_ | refine Cnd_b ?_ ?_) <;> intro h1 <;> (try simp only [nrm] at h1) <;> simp -dsimp [h1, ofM]
  (first | refine Ask_b ?_ ?_ | refine Cnd_b ?_ ?_) <;> intro h2 <;> (try simp only [nrm] at h2) <;> simp -dsimp [h2, ofM, h1]
  (first | refine Ask_b ?_ ?_ | refine Cnd_b ?_ ?_) <;> intro h3 <;> (try simp only [nrm] at h3) <;> simp -dsimp [h3, ofM, h1, h2]
  refine call_of (count_ok b) ?_
  simp -dsimp [h1, h2, h3]
  (first | refine Ask_b ?_ ?_ | refine Cnd_b ?_ ?_) <;> intro h4 <;> (try simp only [nrm] at h4) <;> simp -dsimp [h4, h1, h2, h3]
  · have : ofM b base n = (0, 0) := by rw [ofM, if_pos (.inr (.inr (.inr h4)))]
    simp [this]
  have hof : ofM b base n = (seek n (tab b base)).getD (0, 0) := by
    rw [ofM, if_neg]
    rintro (h | h | h | h)
    · exact h1 h
    · exact h2 h
    · exact h3 h
    · exact h4 h
  rw [hof]
  refine wp_upto 4 (fun i st => st.s 1 = .d (.int .i64 base) ∧ st.s 2 = .d (.int .i64 n) ∧ st.s 3 = .ptr 3 1 0 ∧ st.h 3 = ⟨1, .box [.d (.sl 6 (b.sorts.map eSo)), .d (.sl 6 (b.cons.map eCo)), .d (.int .i64 b.elim)] false⟩ ∧
    st.s 46 = .fsl 3 ((tab b base).map eEn) ∧ st.s 47 = .d (.int .i64 4) ∧ st.s 48 = .d (.int .i64 i) ∧ seek n ((tab b base).take i) = none) ?_ ?_
  · simp -dsimp [tab, eEn, seek]
  · rintro i ⟨s, hp⟩ hi ⟨g1, g2, g3, g4, g5, g6, g7, g8⟩
    dsimp only at g1 g2 g3 g4 g5 g6 g7 g8
    have htl : (tab b base).length = 4 := rfl
    rcases Nat.lt_or_ge i 4 with hlt | hge
    · have w1 : IntKind.i64.wrap ((i : Int) + 1) = (i : Int) + 1 := wrap_id (by omega) (by omega)
      have hlt' : i < (tab b base).length := by omega
      generalize he : (tab b base)[i] = e at *
      have hm := tab_many b base hl hlc e (he ▸ List.getElem_mem _)
      have hok := tab_ok b base e (he ▸ List.getElem_mem _)
      have hi4 : ((i : Int) < 4) := by omega
      simp -dsimp [g1, g2, g3, g4, g5, g6, g7, hi4, hlt', he, eEn]
      refine wp_upto e.many (fun j st => st.s 1 = .d (.int .i64 base) ∧ st.s 2 = .d (.int .i64 n) ∧ st.s 3 = .ptr 3 1 0 ∧ st.h 3 = ⟨1, .box [.d (.sl 6 (b.sorts.map eSo)), .d (.sl 6 (b.cons.map eCo)), .d (.int .i64 b.elim)] false⟩ ∧
        st.s 46 = .fsl 3 ((tab b base).map eEn) ∧ st.s 47 = .d (.int .i64 4) ∧ st.s 48 = .d (.int .i64 i) ∧ (∃ v, st.s 9 = .ptr 9 v 0 ∧ st.h 9 = ⟨v, .box [.d (.int .i64 e.kind), .d (.int .i64 e.many), .d (.clo e.f [])] false⟩) ∧
        st.s 53 = .d (.int .i64 e.many) ∧ st.s 54 = .d (.int .i64 j) ∧ ∀ k, k < j → (e.of k == n) = false) ?_ ?_
      · simp -dsimp [g1, g2, g3, g4, g5, g6, g7]
      · rintro j ⟨s, hp⟩ hj ⟨g1, g2, g3, g4, g5, g6, g7, ⟨v, g9, g10⟩, g11, g12, g13⟩
        dsimp only at g1 g2 g3 g4 g5 g6 g7 g9 g10 g11 g12
        rcases Nat.lt_or_ge j e.many with hjl | hjg
        · have w2 : IntKind.i64.wrap ((j : Int) + 1) = (j : Int) + 1 := wrap_id (by omega) (by omega)
          simp -dsimp [g1, g2, g3, g4, g5, g6, g7, g9, g10, g11, g12, hjl]
          refine call_of (hok j) ?_
          simp -dsimp [g1, g2, g3, g4, g5, g6, g7, g9, g10, g11, g12, hjl]
          (first | refine Ask_b ?_ ?_ | refine Cnd_b ?_ ?_) <;> intro h5 <;> (try simp only [nrm] at h5) <;> simp -dsimp [h5, g1, g2, g3, g4, g5, g6, g7, g9, g10, g11, g12, hjl, w2]
          · have hh : hit n e = some j := find_range hjl g13 (by simpa using h5)
            have hk := seek_hit hlt' g8 (by rw [he]; exact hh)
            rw [hk, he]
            simp
          · intro k hk
            rcases Nat.lt_or_ge k j with h | h
            · simpa using g13 k h
            · have : k = j := by omega
              subst this
              exact h5
        · have e2 : j = e.many := by omega
          subst e2
          simp -dsimp [g1, g2, g3, g4, g5, g6, g7, g9, g10, g11, g12, w1, hlt]
          refine seek_next hlt' g8 ?_
          rw [he]
          simp only [hit, List.find?_eq_none]
          intro k hk
          simpa using g13 k (by simpa using hk)
    · have e : i = 4 := by omega
      subst e
      simp -dsimp [g1, g2, g3, g4, g5, g6, g7]
      have : (tab b base).take 4 = tab b base := List.take_of_length_le (by omega)
      rw [this] at g8
      simp [g8]
end
section
attribute [local simp] allD_map_d sks_map_d tk tn tks initA EndsM
theorem indexFunc_Arg (l : List Ar) (g : FuncId) (caps : List D) (p : Ar → Bool) (hp : ∀ x ∈ l, Pure Tryz.prog g (.agg (cAr x) :: caps) [.bool (p x)]) :
    Pure Tryz.prog n_slices_IndexFunc_Arg [.sl 7 (l.map eAr), .clo g caps] [.int .i64 (idxF l p)] := by
  refine p_slices_IndexFunc_Arg rfl fun hs => ?_
  have hl := hs (.sl 7 (l.map eAr)) (by simp)
  simp [small] at hl
  replace hl := hl.1
  simp -dsimp [x_slices_IndexFunc_Arg]
  refine wp_upto l.length (fun i st => st.s 0 = .d (.sl 7 (l.map eAr)) ∧ st.s 1 = .d (.clo g caps) ∧ st.s 7 = .d (.int .i64 l.length) ∧ st.s 8 = .d (.int .i64 i) ∧ ∀ x ∈ l.take i, p x = false) ?_ ?_
  · simp -dsimp
  · rintro i ⟨s, hp'⟩ hi ⟨h1, h2, h3, h4, h5⟩
    dsimp only at h1 h2 h3 h4 h5
    rcases Nat.lt_or_ge i l.length with hlt | hge
    · have w1 : IntKind.i64.wrap ((i : Int) + 1) = (i : Int) + 1 := wrap_id (by omega) (by omega)
      have hc : (cAr l[i]).length = 7 := rfl
      simp -dsimp [h1, h2, h3, h4, hlt, hc]
      have ht : (cAr l[i]).take 7 = cAr l[i] := List.take_of_length_le (by omega)
      refine call_of (by rw [ht]; exact hp l[i] (List.getElem_mem _)) ?_
      simp -dsimp [h1, h2, h3, h4, hlt]
      (first | refine Ask_b ?_ ?_ | refine Cnd_b ?_ ?_) <;> intro h6 <;> (try simp only [nrm] at h6) <;> simp -dsimp [h6, h1, h2, h3, h4, hlt, w1]
      · have : l.findIdx? p = some i := by
          rw [List.findIdx?_eq_some_iff_getElem]
          refine ⟨hlt, h6, fun j hj => ?_⟩
          have := h5 l[j] (by rw [List.mem_take_iff_getElem]; exact ⟨j, by omega, rfl⟩)
          simpa using this
        simp only [idxF, this]
      · intro x hx
        rw [take_snoc (List.getElem?_eq_getElem hlt), List.mem_append] at hx
        rcases hx with hx | hx
        · simpa using h5 x hx
        · simp at hx; subst hx; exact h6
    · have e : i = l.length := by omega
      subst e
      rw [List.take_length] at h5
      have : l.findIdx? p = none := by
        rw [List.findIdx?_eq_none_iff]; exact h5
      simp -dsimp [h1, h2, h3, h4, idxF, this]

theorem containsFunc_Arg (l : List Ar) (g : FuncId) (caps : List D) (p : Ar → Bool) (hp : ∀ x ∈ l, Pure Tryz.prog g (.agg (cAr x) :: caps) [.bool (p x)]) :
    Pure Tryz.prog n_slices_ContainsFunc_Arg [.sl 7 (l.map eAr), .clo g caps] [.bool (l.any p)] := by
  refine p_slices_ContainsFunc_Arg rfl fun hs => ?_
  simp -dsimp [x_slices_ContainsFunc_Arg]
  refine call_of (indexFunc_Arg l g caps p hp) ?_
  simp -dsimp [idxF_ge]

theorem indexFunc_Con (l : List Co) (g : FuncId) (caps : List D) (p : Co → Bool) (hp : ∀ x ∈ l, Pure Tryz.prog g (.agg (cCo x) :: caps) [.bool (p x)]) :
    Pure Tryz.prog n_slices_IndexFunc_Con [.sl 6 (l.map eCo), .clo g caps] [.int .i64 (idxF l p)] := by
  refine p_slices_IndexFunc_Con rfl fun hs => ?_
  have hl := hs (.sl 6 (l.map eCo)) (by simp)
  simp [small] at hl
  replace hl := hl.1
  simp -dsimp [x_slices_IndexFunc_Con]
  refine wp_upto l.length (fun i st => st.s 0 = .d (.sl 6 (l.map eCo)) ∧ st.s 1 = .d (.clo g caps) ∧ st.s 7 = .d (.int .i64 l.length) ∧ st.s 8 = .d (.int .i64 i) ∧ ∀ x ∈ l.take i, p x = false) ?_ ?_
  · simp -dsimp
  · rintro i ⟨s, hp'⟩ hi ⟨h1, h2, h3, h4, h5⟩
    dsimp only at h1 h2 h3 h4 h5
    rcases Nat.lt_or_ge i l.length with hlt | hge
    · have w1 : IntKind.i64.wrap ((i : Int) + 1) = (i : Int) + 1 := wrap_id (by omega) (by omega)
      have hc : (cCo l[i]).length = 6 := rfl
      simp -dsimp [h1, h2, h3, h4, hlt, hc]
      have ht : (cCo l[i]).take 6 = cCo l[i] := List.take_of_length_le (by omega)
      refine call_of (by rw [ht]; exact hp l[i] (List.getElem_mem _)) ?_
      simp -dsimp [h1, h2, h3, h4, hlt]
      (first | refine Ask_b ?_ ?_ | refine Cnd_b ?_ ?_) <;> intro h6 <;> (try simp only [nrm] at h6) <;> simp -dsimp [h6, h1, h2, h3, h4, hlt, w1]
      · have : l.findIdx? p = some i := by
          rw [List.findIdx?_eq_some_iff_getElem]
          refine ⟨hlt, h6, fun j hj => ?_⟩
          have := h5 l[j] (by rw [List.mem_take_iff_getElem]; exact ⟨j, by omega, rfl⟩)
          simpa using this
        simp only [idxF, this]
      · intro x hx
        rw [take_snoc (List.getElem?_eq_getElem hlt), List.mem_append] at hx
        rcases hx with hx | hx
        · simpa using h5 x hx
        · simp at hx; subst hx; exact h6
    · have e : i = l.length := by omega
      subst e
      rw [List.take_length] at h5
      have : l.findIdx? p = none := by
        rw [List.findIdx?_eq_none_iff]; exact h5
      simp -dsimp [h1, h2, h3, h4, idxF, this]

theorem containsFunc_Con (l : List Co) (g : FuncId) (caps : List D) (p : Co → Bool) (hp : ∀ x ∈ l, Pure Tryz.prog g (.agg (cCo x) :: caps) [.bool (p x)]) :
    Pure Tryz.prog n_slices_ContainsFunc_Con [.sl 6 (l.map eCo), .clo g caps] [.bool (l.any p)] := by
  refine p_slices_ContainsFunc_Con rfl fun hs => ?_
  simp -dsimp [x_slices_ContainsFunc_Con]
  refine call_of (indexFunc_Con l g caps p hp) ?_
  simp -dsimp [idxF_ge]

end
section
attribute [local simp] allD_map_d sks_map_d w64 tk tn tks initA EndsM
def noneM (t : T) : Bool := if t.kind = 0 then if t.num = 0 then decide ((t.kids.length : Int) = 0) else false else false
theorem none_ok (t : T) : Pure Tryz.prog n_term_None [.agg (cT t)] [.bool (noneM t)] := by
  refine p_term_None rfl fun hs => ?_
  simp -dsimp [x_term_None, cT]
  (first | refine Ask_b ?_ ?_ | refine Cnd_b ?_ ?_) <;> intro h1 <;> (try simp only [nrm] at h1) <;> simp -dsimp [h1, noneM]
  (first | refine Ask_b ?_ ?_ | refine Cnd_b ?_ ?_) <;> intro h2 <;> (try simp only [nrm] at h2) <;> simp -dsimp [h2, noneM, h1]
def inM (t : T) (v : Int) : Bool := scopeM t v 65536
theorem in_ok (t : T) (v : Int) : Pure Tryz.prog n_shape_in [.agg (cT t), .int .i64 v] [.bool (inM t v)] := by
  refine p_shape_in rfl fun hs => ?_
  simp -dsimp [x_shape_in, cT]
  refine call_of (scope_ok t v 65536) ?_
  simp -dsimp [inM]
theorem all1_ok (t : T) (v : Int) : Pure Tryz.prog n_shape_all_1 [.agg (cT t), .rp [.int .i64 v]] [.bool (!inM t v)] := by
  refine p_shape_all_1 rfl fun hs => ?_
  simp -dsimp [x_shape_all_1, cT]
  refine call_of (in_ok t v) ?_
  simp -dsimp
def allM (l : List T) (v : Int) : Bool := !l.any fun t => !inM t v
theorem all_ok (l : List T) (v : Int) : Pure Tryz.prog n_shape_all [eTs l, .int .i64 v] [.bool (allM l v)] := by
  refine p_shape_all rfl fun hs => ?_
  simp -dsimp [x_shape_all, eTs]
  refine call_of (containsFunc_Term l n_shape_all_1 [.rp [.int .i64 v]] (fun t => !inM t v) (fun x _ => all1_ok x v)) ?_
  simp -dsimp [allM]
def maybeM (is : Bool) (t : T) (v : Int) : Bool := if is then inM t v else noneM t
theorem maybe_ok (is : Bool) (t : T) (v : Int) : Pure Tryz.prog n_shape_maybe [.bool is, .agg (cT t), .int .i64 v] [.bool (maybeM is t v)] := by
  refine p_shape_maybe rfl fun hs => ?_
  cases is with
  | false =>
    simp -dsimp [x_shape_maybe, cT]
    refine call_of (none_ok t) ?_
    simp -dsimp [maybeM]
  | true =>
    simp -dsimp [x_shape_maybe, cT]
    refine call_of (in_ok t v) ?_
    simp -dsimp [maybeM]
def allI {α : Type} (p : Nat → α → Bool) : Nat → List α → Bool
  | _, [] => true
  | i, x :: xs => p i x && allI p (i + 1) xs
theorem allI_iff {α : Type} (p : Nat → α → Bool) : ∀ (l : List α) (i : Nat), allI p i l = true ↔ ∀ (j : Nat) (hj : j < l.length), p (i + j) l[j] = true
  | [], i => by simp [allI]
  | x :: xs, i => by
    rw [allI, Bool.and_eq_true, allI_iff p xs (i + 1)]
    constructor
    · rintro ⟨h1, h2⟩ j hj
      cases j with
      | zero => simpa using h1
      | succ j =>
        have := h2 j (by simpa using hj)
        have e : i + 1 + j = i + (j + 1) := by omega
        rw [e] at this
        simpa using this
    · intro h
      refine ⟨h 0 (by simp), fun j hj => ?_⟩
      have := h (j + 1) (by simpa using hj)
      have e : i + 1 + j = i + (j + 1) := by omega
      rw [e]
      simpa using this
theorem allI_not {α : Type} {p : Nat → α → Bool} {l : List α} {j : Nat} (hj : j < l.length) (h : p j l[j] = false) : allI p 0 l = false := by
  cases hw : allI p 0 l with
  | false => rfl
  | true =>
    have := (allI_iff p l 0).1 hw j hj
    rw [Nat.zero_add, h] at this
    cases this
theorem allI_next {α : Type} {p : Nat → α → Bool} {l : List α} {i : Nat} (hi : i < l.length) (h : ∀ (j : Nat) (hj : j < l.length), j < i → p j l[j] = true) (hx : p i l[i] = true) :
    ∀ (j : Nat) (hj : j < l.length), j < i + 1 → p j l[j] = true := by
  intro j hj hji
  rcases Nat.lt_or_ge j i with h' | h'
  · exact h j hj h'
  · have : j = i := by omega
    subst this
    exact hx
theorem allI_all {α : Type} {p : Nat → α → Bool} {l : List α} (h : ∀ (j : Nat) (hj : j < l.length), j < l.length → p j l[j] = true) : allI p 0 l = true :=
  (allI_iff p l 0).2 fun j hj => by rw [Nat.zero_add]; exact h j hj hj
def domM (i : Int) (l : List T) : Bool := allI (fun j t => inM t (w64 (i + j))) 0 l
def argM (b : Bl) (a : Ar) (i : Int) : Bool :=
  if a.rc then
    if noneM a.ty then
      if 12 < (a.dom.length : Int) then false else if a.sort < 0 then false else match b.sorts[a.sort.toNat]? with
      | none => false
      | some s => if (a.idx.length : Int) = (s.idx.length : Int) then domM i a.dom && allM a.idx (w64 (i + a.dom.length)) else false
    else false
  else if inM a.ty i then if w64 (a.dom.length + a.idx.length) = 0 then decide (a.sort = 0) else false else false
theorem arg_ok (b : Bl) (a : Ar) (i : Int) : Pure Tryz.prog n_shape_arg [eBl b, .agg (cAr a), .int .i64 i] [.bool (argM b a i)] := by
  refine p_shape_arg rfl fun hs => ?_
  simp -dsimp [x_shape_arg, eBl, cBl, eSos, eCos, cAr, cT, eTs]
  cases hr : a.rc with
  | false =>
    simp -dsimp [hr]
    refine call_of (in_ok a.ty i) ?_
    simp -dsimp
    (first | refine Ask_b ?_ ?_ | refine Cnd_b ?_ ?_) <;> intro h1 <;> (try simp only [nrm] at h1) <;> simp -dsimp [h1, argM, hr]
    · (first | refine Ask_b ?_ ?_ | refine Cnd_b ?_ ?_) <;> intro h2 <;> (try simp only [nrm] at h2) <;> simp -dsimp [h2, argM, hr, h1]
  | true =>
    simp -dsimp [hr]
    refine call_of (none_ok a.ty) ?_
    simp -dsimp
    (first | refine Ask_b ?_ ?_ | refine Cnd_b ?_ ?_) <;> intro h1 <;> (try simp only [nrm] at h1) <;> simp -dsimp [h1, argM, hr]
    (first | refine Ask_b ?_ ?_ | refine Cnd_b ?_ ?_) <;> intro h2 <;> (try simp only [nrm] at h2) <;> simp -dsimp [h2, argM, hr, h1]
    (first | refine Ask_b ?_ ?_ | refine Cnd_b ?_ ?_) <;> intro h3 <;> (try simp only [nrm] at h3) <;> simp -dsimp [h3, argM, hr, h1, h2]
    (first | refine Ask_b ?_ ?_ | refine Cnd_b ?_ ?_) <;> intro h4 <;> (try simp only [nrm] at h4) <;> simp -dsimp [h4, argM, hr, h1, h2, h3]
    · have : b.sorts[a.sort.toNat]? = none := List.getElem?_eq_none (by omega)
      simp [this]
    have hlt : a.sort.toNat < b.sorts.length := by omega
    have h0 : 0 ≤ a.sort := by omega
    have hA : argM b a i = if (a.idx.length : Int) = (b.sorts[a.sort.toNat].idx.length : Int) then domM i a.dom && allM a.idx (w64 (i + a.dom.length)) else false := by
      simp [argM, hr, h1, h2, h3, hlt]
    simp -dsimp [hr, h1, h2, h3, h4, hlt, h0, eSo, cSo, eArs, cT]
    (first | refine Ask_b ?_ ?_ | refine Cnd_b ?_ ?_) <;> intro h5 <;> (try simp only [nrm] at h5) <;> simp -dsimp [h5, hr, h1, h2, h3, h4, hlt, h0, eSo, cSo, eArs, cT]
    · rw [hA, if_neg h5]
    rw [hA, if_pos h5]
    have hd : a.dom.length ≤ 12 := by omega
    refine wp_upto a.dom.length (fun j st => st.s 2 = .d (.int .i64 i) ∧ st.s 4 = .ptr 4 1 0 ∧ st.h 4 = ⟨1, .box [.d (.bool true), .d (.int .i64 a.ty.kind), .d (.int .i64 a.ty.num), .d (.sl 3 (a.ty.kids.map eT)), .d (.sl 3 (a.dom.map eT)), .d (.int .i64 a.sort), .d (.sl 3 (a.idx.map eT))] false⟩ ∧
      st.s 69 = .d (.sl 3 (a.dom.map eT)) ∧ st.s 70 = .d (.int .i64 a.dom.length) ∧ st.s 71 = .d (.int .i64 j) ∧ ∀ (k : Nat) (hk : k < a.dom.length), k < j → inM a.dom[k] (w64 (i + k)) = true) ?_ ?_
    · simp -dsimp [hr]
    · rintro j ⟨s, hp⟩ hj ⟨g1, g2, g3, g4, g5, g6, g7⟩
      dsimp only at g1 g2 g3 g4 g5 g6
      rcases Nat.lt_or_ge j a.dom.length with hlt | hge
      · have w1 : IntKind.i64.wrap ((j : Int) + 1) = (j : Int) + 1 := wrap_id (by omega) (by omega)
        simp -dsimp [g1, g2, g3, g4, g5, g6, hlt, cT]
        refine call_of (in_ok a.dom[j] _) ?_
        simp -dsimp [g1, g2, g3, g4, g5, g6, hlt]
        (first | refine Ask_b ?_ ?_ | refine Cnd_b ?_ ?_) <;> intro h6 <;> (try simp only [nrm] at h6) <;> simp -dsimp [h6, g1, g2, g3, g4, g5, g6, hlt, w1]
        · have : domM i a.dom = false := allI_not hlt h6
          simp [this]
        · exact allI_next (p := fun j t => inM t (w64 (i + j))) hlt g7 h6
      · have e : j = a.dom.length := by omega
        subst e
        have : domM i a.dom = true := allI_all g7
        simp -dsimp [g1, g2, g3, g4, g5, g6]
        refine call_of (all_ok a.idx _) ?_
        simp -dsimp [this]
def rowM (b : Bl) (l : List Ar) : Bool := if 12 < (l.length : Int) then false else allI (fun i a => argM b a i) 0 l
theorem row_ok (b : Bl) (l : List Ar) : Pure Tryz.prog n_shape_row [eBl b, eArs l] [.bool (rowM b l)] := by
  refine p_shape_row rfl fun hs => ?_
  simp -dsimp [x_shape_row, eBl, cBl, eSos, eCos, eArs]
  (first | refine Ask_b ?_ ?_ | refine Cnd_b ?_ ?_) <;> intro h1 <;> (try simp only [nrm] at h1) <;> simp -dsimp [h1, rowM]
  have hl : l.length ≤ 12 := by omega
  have hR : rowM b l = allI (fun i a => argM b a i) 0 l := by rw [rowM, if_neg h1]
  rw [hR]
  refine wp_upto l.length (fun i st => st.s 2 = .ptr 2 1 0 ∧ st.h 2 = ⟨1, .box [.d (.sl 6 (b.sorts.map eSo)), .d (.sl 6 (b.cons.map eCo)), .d (.int .i64 b.elim)] false⟩ ∧ st.s 10 = .d (.sl 7 (l.map eAr)) ∧ st.s 11 = .d (.int .i64 l.length) ∧ st.s 12 = .d (.int .i64 i) ∧
    ∀ (j : Nat) (hj : j < l.length), j < i → argM b l[j] j = true) ?_ ?_
  · simp -dsimp
  · rintro i ⟨s, hp⟩ hi ⟨g1, g2, g3, g4, g5, g6⟩
    dsimp only at g1 g2 g3 g4 g5
    rcases Nat.lt_or_ge i l.length with hlt | hge
    · have w1 : IntKind.i64.wrap ((i : Int) + 1) = (i : Int) + 1 := wrap_id (by omega) (by omega)
      simp -dsimp [g1, g2, g3, g4, g5, hlt, eAr, cAr, cT, eTs]
      refine call_of (arg_ok b l[i] i) ?_
      simp -dsimp [g1, g2, g3, g4, g5, hlt]
      (first | refine Ask_b ?_ ?_ | refine Cnd_b ?_ ?_) <;> intro h6 <;> (try simp only [nrm] at h6) <;> simp -dsimp [h6, g1, g2, g3, g4, g5, hlt, w1]
      · exact allI_not (p := fun i a => argM b a i) hlt h6
      · exact allI_next (p := fun i a => argM b a i) hlt g6 h6
    · have e : i = l.length := by omega
      subst e
      simp -dsimp [g1, g2, g3, g4, g5, allI_all (p := fun i a => argM b a i) g6]
def sortBad (k : Int) (s : So) (a : Ar) : Bool := if a.rc then if 0 < (a.dom.length : Int) then true else if k ≤ a.sort then true else s.dec else false
theorem sort1_ok (k : Int) (s : So) (a : Ar) : Pure Tryz.prog n_shape_sort_1 [.agg (cAr a), .rp [.int .i64 k], .rp (cSo s)] [.bool (sortBad k s a)] := by
  refine p_shape_sort_1 rfl fun hs => ?_
  cases hr : a.rc with
  | false =>
    simp -dsimp [x_shape_sort_1, cAr, cSo, cT, eTs, eArs, hr, sortBad]
  | true =>
    simp -dsimp [x_shape_sort_1, cAr, cSo, cT, eTs, eArs, hr]
    (first | refine Ask_b ?_ ?_ | refine Cnd_b ?_ ?_) <;> intro h1 <;> (try simp only [nrm] at h1) <;> simp -dsimp [h1, sortBad, hr]
    (first | refine Ask_b ?_ ?_ | refine Cnd_b ?_ ?_) <;> intro h2 <;> (try simp only [nrm] at h2) <;> simp -dsimp [h2, sortBad, hr, h1]
def levelM (n : Int) : Bool := decide (0 ≤ n) && decide (n ≤ 6)
def sortM (b : Bl) (k : Nat) (s : So) : Bool :=
  if rowM b s.idx then if levelM s.level then if maybeM s.dec s.dty s.idx.length then !s.idx.any (sortBad k s) else false else false else false
theorem sort_ok (b : Bl) (k : Nat) (hk : k < b.sorts.length) : Pure Tryz.prog n_shape_sort [eBl b, .int .i64 k] [.bool (sortM b k b.sorts[k])] := by
  refine p_shape_sort rfl fun hs => ?_
  simp -dsimp [x_shape_sort, eBl, cBl, eSos, eCos, hk, eSo, cSo, cT, eArs]
  refine call_of (row_ok b b.sorts[k].idx) ?_
  simp -dsimp
  (first | refine Ask_b ?_ ?_ | refine Cnd_b ?_ ?_) <;> intro h1 <;> (try simp only [nrm] at h1) <;> simp -dsimp [h1, sortM]
  refine call_of (rs := [.bool (levelM b.sorts[k].level)]) (level_ok b.sorts[k].level) ?_
  simp -dsimp [h1]
  (first | refine Ask_b ?_ ?_ | refine Cnd_b ?_ ?_) <;> intro h2 <;> (try simp only [nrm] at h2) <;> simp -dsimp [h2, sortM, h1]
  refine call_of (maybe_ok b.sorts[k].dec b.sorts[k].dty b.sorts[k].idx.length) ?_
  simp -dsimp [h1, h2]
  (first | refine Ask_b ?_ ?_ | refine Cnd_b ?_ ?_) <;> intro h3 <;> (try simp only [nrm] at h3) <;> simp -dsimp [h3, sortM, h1, h2]
  refine call_of (containsFunc_Arg b.sorts[k].idx n_shape_sort_1 [.rp [.int .i64 k], .rp (cSo b.sorts[k])] (sortBad k b.sorts[k]) (fun x _ => sort1_ok k _ x)) ?_
  simp -dsimp [sortM, h1, h2, h3]
def conM (b : Bl) (c : Co) : Bool :=
  if c.sort < 0 then false else if rowM b c.args then match b.sorts[c.sort.toNat]? with
  | none => false
  | some s => if (c.idx.length : Int) = (s.idx.length : Int) then if allM c.idx c.args.length then maybeM s.dec c.dec c.args.length else false else false
  else false
theorem con_ok (b : Bl) (c : Co) : Pure Tryz.prog n_shape_con [eBl b, eCo c] [.bool (conM b c)] := by
  refine p_shape_con rfl fun hs => ?_
  simp -dsimp [x_shape_con, eBl, cBl, eSos, eCos, eCo, cCo, cT, eArs, eTs]
  (first | refine Ask_b ?_ ?_ | refine Cnd_b ?_ ?_) <;> intro h1 <;> (try simp only [nrm] at h1) <;> simp -dsimp [h1, conM]
  (first | refine Ask_b ?_ ?_ | refine Cnd_b ?_ ?_) <;> intro h2 <;> (try simp only [nrm] at h2) <;> simp -dsimp [h2, conM, h1]
  · have : b.sorts[c.sort.toNat]? = none := List.getElem?_eq_none (by omega)
    simp [this]
  refine call_of (row_ok b c.args) ?_
  have hlt : c.sort.toNat < b.sorts.length := by omega
  have h0 : 0 ≤ c.sort := by omega
  simp -dsimp [h1, h2]
  (first | refine Ask_b ?_ ?_ | refine Cnd_b ?_ ?_) <;> intro h3 <;> (try simp only [nrm] at h3) <;> simp -dsimp [h3, conM, h1, h2]
  have hA : conM b c = if (c.idx.length : Int) = (b.sorts[c.sort.toNat].idx.length : Int) then if allM c.idx c.args.length then maybeM b.sorts[c.sort.toNat].dec c.dec c.args.length else false else false := by
    simp [conM, h1, h3, hlt]
  simp -dsimp [h1, h2, h3, hlt, h0, eSo, cSo, eArs, cT, eTs]
  (first | refine Ask_b ?_ ?_ | refine Cnd_b ?_ ?_) <;> intro h4 <;> (try simp only [nrm] at h4) <;> simp -dsimp [h4, h1, h2, h3, hlt, h0, eSo, cSo, eArs, cT]
  · refine call_of (all_ok c.idx _) ?_
    simp -dsimp [h4]
    (first | refine Ask_b ?_ ?_ | refine Cnd_b ?_ ?_) <;> intro h5 <;> (try simp only [nrm] at h5) <;> simp -dsimp [h5, h4]
    · refine call_of (maybe_ok _ c.dec _) ?_
      simp -dsimp [h4, h5, hA]
    · rw [hA, if_pos h4, h5]; rfl
  · rw [hA, if_neg h4]
theorem check1_ok (b : Bl) (c : Co) : Pure Tryz.prog n_shape_Check_1 [eCo c, .rp (cBl b)] [.bool (!conM b c)] := by
  refine p_shape_Check_1 rfl fun hs => ?_
  simp -dsimp [x_shape_Check_1, cBl, eSos, eCos, eCo, cCo, cT, eArs, eTs]
  refine call_of (con_ok b c) ?_
  simp -dsimp
def checkB (b : Bl) : Int :=
  if (b.sorts.length : Int) < 1 then 12 else if 4 < (b.sorts.length : Int) then 12 else if 8 < (b.cons.length : Int) then 12 else if levelM b.elim then
    if allI (fun k s => sortM b k s) 0 b.sorts then if b.cons.any fun c => !conM b c then 12 else 0 else 12
  else 12
theorem checkB_ok (b : Bl) : Pure Tryz.prog n_shape_Check [eBl b] [.int .i64 (checkB b)] := by
  refine p_shape_Check rfl fun hs => ?_
  simp -dsimp [x_shape_Check, eBl, cBl, eSos, eCos]
  (first | refine Ask_b ?_ ?_ | refine Cnd_b ?_ ?_) <;> intro h1 <;> (try simp only [nrm] at h1) <;> simp -dsimp [h1, checkB]
  (first | refine Ask_b ?_ ?_ | refine Cnd_b ?_ ?_) <;> intro h2 <;> (try simp only [nrm] at h2) <;> simp -dsimp [h2, checkB, h1]
  (first | refine Ask_b ?_ ?_ | refine Cnd_b ?_ ?_) <;> intro h3 <;> (try simp only [nrm] at h3) <;> simp -dsimp [h3, checkB, h1, h2]
  refine call_of (rs := [.bool (levelM b.elim)]) (level_ok b.elim) ?_
  simp -dsimp [h1, h2, h3]
  (first | refine Ask_b ?_ ?_ | refine Cnd_b ?_ ?_) <;> intro h4 <;> (try simp only [nrm] at h4) <;> simp -dsimp [h4, checkB, h1, h2, h3]
  have hl : b.sorts.length ≤ 4 := by omega
  have hC : checkB b = if allI (fun k s => sortM b k s) 0 b.sorts then if b.cons.any fun c => !conM b c then 12 else 0 else 12 := by
    rw [checkB, if_neg h1, if_neg h2, if_neg h3, if_pos h4]
  rw [hC]
  refine wp_upto b.sorts.length (fun i st => st.s 1 = .ptr 1 1 0 ∧ st.h 1 = ⟨1, .box [.d (.sl 6 (b.sorts.map eSo)), .d (.sl 6 (b.cons.map eCo)), .d (.int .i64 b.elim)] false⟩ ∧ st.s 28 = .d (.int .i64 b.sorts.length) ∧ st.s 29 = .d (.int .i64 i) ∧
    ∀ (j : Nat) (hj : j < b.sorts.length), j < i → sortM b j b.sorts[j] = true) ?_ ?_
  · simp -dsimp
  · rintro i ⟨s, hp⟩ hi ⟨g1, g2, g3, g4, g5⟩
    dsimp only at g1 g2 g3 g4
    rcases Nat.lt_or_ge i b.sorts.length with hlt | hge
    · have w1 : IntKind.i64.wrap ((i : Int) + 1) = (i : Int) + 1 := wrap_id (by omega) (by omega)
      simp -dsimp [g1, g2, g3, g4, hlt]
      refine call_of (sort_ok b i hlt) ?_
      simp -dsimp [g1, g2, g3, g4, hlt]
      (first | refine Ask_b ?_ ?_ | refine Cnd_b ?_ ?_) <;> intro h6 <;> (try simp only [nrm] at h6) <;> simp -dsimp [h6, g1, g2, g3, g4, hlt, w1]
      · intro h
        rw [allI_not (p := fun k s => sortM b k s) hlt h6] at h
        cases h
      · exact allI_next (p := fun k s => sortM b k s) hlt g5 h6
    · have e : i = b.sorts.length := by omega
      subst e
      have hA : allI (fun k s => sortM b k s) 0 b.sorts = true := allI_all (p := fun k s => sortM b k s) g5
      simp -dsimp [g1, g2, g3, g4, hA]
      refine call_of (containsFunc_Con b.cons n_shape_Check_1 [.rp (cBl b)] (fun c => !conM b c) (fun x _ => check1_ok b x)) ?_
      simp -dsimp [g1, g2, g3, g4]
      (first | refine Ask_b ?_ ?_ | refine Cnd_b ?_ ?_) <;> intro h7 <;> (try simp only [nrm] at h7) <;> simp -dsimp [h7, g1, g2, g3, g4, hA]
end
section
attribute [local simp] allD_map_d sks_map_d w64 tk tn tks initA EndsM
def recA (n : Int) (l : List T) : Ar := ⟨true, zT, [], n, l⟩
theorem rec_ok (n : Int) (l : List T) (hl : l.length * 40 ≤ maxRoom) : Pure Tryz.prog n_porismref20_rec [.int .i64 n, eTs l] [.agg (cAr (recA n l))] := by
  refine p_porismref20_rec rfl fun hs => ?_
  simp -dsimp [hl, x_porismref20_rec, eTs, cAr, recA, zT, cT, T.kind, T.num, T.kids]
def declC (b : Bl) : List D := [.int .i64 3, .int .i64 0, .int .i64 0, .sl 3 [], .int .i64 0, .int .i64 0, .sl 3 []] ++ cBl b
theorem decl_ok (b : Bl) : Pure Tryz.prog n_porismref20_decl [eBl b] [.agg (declC b)] := by
  refine p_porismref20_decl rfl fun hs => ?_
  simp -dsimp [x_porismref20_decl, eBl, cBl, eSos, eCos, declC]
def natB : Bl := ⟨[⟨[], 0, false, zT⟩], [⟨0, [], [], zT⟩, ⟨0, [recA 0 []], [], zT⟩], 0⟩
theorem nat_ok : Pure Tryz.prog n_porismref20_Nat [] [.agg (declC natB)] := by
  refine p_porismref20_Nat rfl fun hs => ?_
  simp -dsimp [x_porismref20_Nat]
  refine call_of (rec_ok 0 [] (by decide)) ?_
  simp -dsimp [cAr, recA, zT, cT, T.kind, T.num, T.kids, eTs]
  refine call_of (decl_ok natB) ?_
  simp -dsimp [declC, cBl, eSos, eCos]
end
section
attribute [local simp] allD_map_d sks_map_d tk tn tks initA EndsM
def is64 (n : Int) : Prop := -9223372036854775808 ≤ n ∧ n < 9223372036854775808
/-- No more than is played. -/
structure Fit (b : Bl) : Prop where
  s : b.sorts.length ≤ 10
  c : b.cons.length ≤ 20
theorem fit_of {b : Bl} (h : heavy07 b = false) : Fit b := by
  simp only [heavy07, Bool.or_eq_false_iff, decide_eq_false_iff_not] at h
  exact ⟨by omega, by omega⟩
theorem count_is {b : Bl} (hf : Fit b) : count b = 2 * b.sorts.length + decs b.sorts + b.cons.length := by
  have h1 := hf.s
  have h2 := hf.c
  have h3 := decs_le b.sorts
  rw [count, w64_id, w64_id, w64_id] <;> (try rw [w64_id, w64_id]) <;> (try rw [w64_id]) <;> omega
theorem place_is {base ahead k many : Int} (h0 : 0 ≤ base) (h1 : base ≤ 65535) (h2 : 0 ≤ ahead) (h3 : ahead ≤ 1000) (h4 : many ≤ 1000) :
    place base ahead k many = if 0 ≤ k ∧ k < many then base + ahead + k else -1 := by
  by_cases h : 0 ≤ k ∧ k < many
  · rw [place, if_neg (by omega), if_pos h, w64_id, w64_id] <;> (try rw [w64_id]) <;> omega
  · rw [place, if_pos (by omega), if_neg h]
theorem former_is {b : Bl} (hf : Fit b) {base : Int} (h0 : 0 ≤ base) (h1 : base ≤ 65535) (k : Int) : former b base k = if 0 ≤ k ∧ k < b.sorts.length then base + k else -1 := by
  have hs := hf.s
  rw [former, place_is h0 h1 (by omega) (by omega) (by omega)]
  split <;> omega
theorem constructor_is {b : Bl} (hf : Fit b) {base : Int} (h0 : 0 ≤ base) (h1 : base ≤ 65535) (k : Int) : constructor_ b base k = if 0 ≤ k ∧ k < b.cons.length then base + (b.sorts.length + decs b.sorts) + k else -1 := by
  have hs := hf.s
  have hc := hf.c
  have h3 := decs_le b.sorts
  rw [constructor_, w64_id (by omega) (by omega), place_is h0 h1 (by omega) (by omega) (by omega)]
theorem eliminator_is {b : Bl} (hf : Fit b) {base : Int} (h0 : 0 ≤ base) (h1 : base ≤ 65535) (k : Int) : eliminator b base k = if 0 ≤ k ∧ k < b.sorts.length then base + (b.sorts.length + decs b.sorts + b.cons.length) + k else -1 := by
  have hs := hf.s
  have hc := hf.c
  have h3 := decs_le b.sorts
  rw [eliminator, w64_id (n := (b.sorts.length : Int) + decs b.sorts) (by omega) (by omega), w64_id (by omega) (by omega), place_is h0 h1 (by omega) (by omega) (by omega)]
theorem decoder_is {b : Bl} (hf : Fit b) {base : Int} (h0 : 0 ≤ base) (h1 : base ≤ 65535) (k : Int) :
    decoder b base k = if h : 0 ≤ k ∧ k < b.sorts.length then if (b.sorts[k.toNat]'(by omega)).dec then base + b.sorts.length + decs (b.sorts.take k.toNat) else -1 else -1 := by
  have hs := hf.s
  by_cases h : 0 ≤ k ∧ k < b.sorts.length
  · have hlt : k.toNat < b.sorts.length := by omega
    have h3 := decs_le (b.sorts.take k.toNat)
    rw [List.length_take] at h3
    rw [dif_pos h, decoder, if_neg (by omega), List.getElem?_eq_getElem hlt]
    dsimp only
    split
    · rw [place_is h0 h1 (by omega) (by omega) (by omega), if_pos (by omega)]
    · rfl
  · rw [dif_neg h, decoder]
    by_cases hk : k < 0
    · rw [if_pos hk]
    · rw [if_neg hk, List.getElem?_eq_none (by omega)]
/-- Each of the sorts with decoders has its number. -/
theorem dec_at : ∀ (l : List So) (j : Nat), j < decs l → ∃ (k : Nat) (hk : k < l.length), l[k].dec = true ∧ decs (l.take k) = j
  | [], j, h => by simp [decs] at h
  | s :: l, j, h => by
    cases hd : s.dec with
    | false =>
      obtain ⟨k, hk, h1, h2⟩ := dec_at l j (by simpa [decs, hd] using h)
      exact ⟨k + 1, by simpa using hk, by simpa using h1, by simpa [decs, hd] using h2⟩
    | true =>
      cases j with
      | zero => exact ⟨0, by simp, by simpa using hd, by simp [decs]⟩
      | succ j =>
        obtain ⟨k, hk, h1, h2⟩ := dec_at l j (by simp [decs, hd] at h; simpa [decs] using h)
        exact ⟨k + 1, by simpa using hk, by simpa using h1, by simp [decs, hd] at h2 ⊢; exact h2⟩
theorem hit_some {n : Int} {e : En} {k : Nat} (h : hit n e = some k) : k < e.many ∧ e.of k = n := by
  have h1 := List.find?_some h
  have h2 := List.mem_of_find?_eq_some h
  exact ⟨by simpa using h2, by simpa using h1⟩
theorem seek_some {n : Int} {l : List En} {p : Int × Int} (h : seek n l = some p) : ∃ e ∈ l, ∃ k : Nat, k < e.many ∧ e.of k = n ∧ p = (e.kind, (k : Int)) := by
  obtain ⟨e, he, h1⟩ := List.exists_of_findSome?_eq_some h
  cases hh : hit n e with
  | none => rw [hh] at h1; cases h1
  | some k =>
    rw [hh] at h1
    obtain ⟨h2, h3⟩ := hit_some hh
    exact ⟨e, he, k, h2, h3, (Option.some.inj h1).symm⟩
theorem seek_isSome {n : Int} {l : List En} {e : En} (he : e ∈ l) {k : Nat} (hk : k < e.many) (hn : e.of k = n) : ∃ p, seek n l = some p := by
  cases h : seek n l with
  | some p => exact ⟨p, rfl⟩
  | none =>
    have h1 := List.findSome?_eq_none_iff.1 h e he
    cases hh : hit n e with
    | some k => rw [hh] at h1; cases h1
    | none =>
      have h2 := List.find?_eq_none.1 hh k (by simpa using hk)
      simp [hn] at h2
/-- A number out of the block's is one of its constants. -/
theorem of_in {b : Bl} (hf : Fit b) {base : Int} (h0 : 0 ≤ base) (h1 : base ≤ 65535) {n : Int} (hn : base ≤ n) (hc : n < base + count b) :
    ∃ e ∈ tab b base, ∃ k : Nat, k < e.many ∧ e.of k = n ∧ ofM b base n = (e.kind, (k : Int)) := by
  have hs := hf.s
  have hcc := hf.c
  have h3 := decs_le b.sorts
  have hci := count_is hf
  have hb : base ≤ 65535 := by omega
  have hso : ∃ p, seek n (tab b base) = some p := by
    by_cases c1 : n < base + b.sorts.length
    · exact seek_isSome (e := ⟨3, b.sorts.length, n_shape_Former, former b base⟩) (k := (n - base).toNat) (by simp [tab]) (by simp; omega) (by simp only; rw [former_is hf h0 hb, if_pos (by omega)]; omega)
    by_cases c2 : n < base + b.sorts.length + decs b.sorts
    · obtain ⟨k, hk, d1, d2⟩ := dec_at b.sorts (n - base - b.sorts.length).toNat (by omega)
      refine seek_isSome (e := ⟨4, b.sorts.length, n_shape_Decoder, decoder b base⟩) (k := k) (by simp [tab]) hk ?_
      simp only
      rw [decoder_is hf h0 hb, dif_pos (by omega), if_pos (by simpa using d1), Int.toNat_natCast, d2]
      omega
    by_cases c3 : n < base + b.sorts.length + decs b.sorts + b.cons.length
    · exact seek_isSome (e := ⟨5, b.cons.length, n_shape_Constructor, constructor_ b base⟩) (k := (n - base - b.sorts.length - decs b.sorts).toNat) (by simp [tab]) (by simp; omega) (by simp only; rw [constructor_is hf h0 hb, if_pos (by omega)]; omega)
    · exact seek_isSome (e := ⟨6, b.sorts.length, n_shape_Eliminator, eliminator b base⟩) (k := (n - base - b.sorts.length - decs b.sorts - b.cons.length).toNat) (by simp [tab]) (by simp; omega) (by simp only; rw [eliminator_is hf h0 hb, if_pos (by omega)]; omega)
  obtain ⟨p, hp⟩ := hso
  obtain ⟨e, he, k, g1, g2, g3⟩ := seek_some hp
  refine ⟨e, he, k, g1, g2, ?_⟩
  rw [ofM, if_neg, hp, g3]
  · rfl
  · rw [w64_id (by omega) (by omega)]; omega
theorem of_out {b : Bl} (hf : Fit b) {base : Int} (h0 : 0 ≤ base) {n : Int} (hn64 : is64 n) (hn : n < base ∨ base + count b ≤ n) : ofM b base n = (0, 0) := by
  obtain ⟨m1, m2⟩ := hn64
  rw [ofM, if_pos]
  rcases hn with hn | hn
  · omega
  · have := count_is hf
    rw [w64_id (by omega) (by omega)]
    omega
end
section
attribute [local simp] allD_map_d sks_map_d tk tn tks initA EndsM
theorem decs_mono (l : List So) {a c : Nat} (h : a ≤ c) : decs (l.take a) ≤ decs (l.take c) := by
  have h1 : (l.take a).Sublist (l.take c) := List.take_sublist_take_left h
  exact (h1.filter _).length_le
theorem dec_next (l : List So) {k : Nat} (hk : k < l.length) (hd : l[k].dec = true) : decs (l.take (k + 1)) = decs (l.take k) + 1 := by
  rw [decs_snoc l k l[k] (List.getElem?_eq_getElem hk), hd]
  rfl
theorem dec_one (l : List So) {k m : Nat} (hk : k < l.length) (hm : m < l.length) (hd : l[k].dec = true) (hd' : l[m].dec = true) (h : decs (l.take k) = decs (l.take m)) : k = m := by
  rcases Nat.lt_trichotomy k m with c | c | c
  · have := decs_mono l (show k + 1 ≤ m from c)
    rw [dec_next l hk hd] at this
    omega
  · exact c
  · have := decs_mono l (show m + 1 ≤ k from c)
    rw [dec_next l hm hd'] at this
    omega
theorem dec_in (l : List So) {k : Nat} (hk : k < l.length) (hd : l[k].dec = true) : decs (l.take k) + 1 ≤ decs l := by
  have := decs_mono l (show k + 1 ≤ l.length from hk)
  rw [dec_next l hk hd, List.take_length] at this
  exact this
theorem decoder_at {b : Bl} (hf : Fit b) {base : Int} (h0 : 0 ≤ base) (h1 : base ≤ 65535) {k n : Int} (hn : 0 ≤ n) (h : decoder b base k = n) :
    ∃ (j : Nat) (hj : j < b.sorts.length), k = j ∧ b.sorts[j].dec = true ∧ n = base + b.sorts.length + decs (b.sorts.take j) := by
  rw [decoder_is hf h0 h1] at h
  by_cases c : 0 ≤ k ∧ k < b.sorts.length
  · rw [dif_pos c] at h
    have hlt : k.toNat < b.sorts.length := by omega
    cases hd : b.sorts[k.toNat].dec with
    | true => rw [hd] at h; exact ⟨k.toNat, hlt, by omega, hd, by simpa using h.symm⟩
    | false => rw [hd] at h; simp at h; omega
  · rw [dif_neg c] at h; omega
theorem former_at {b : Bl} (hf : Fit b) {base : Int} (h0 : 0 ≤ base) (h1 : base ≤ 65535) {k n : Int} (hn : 0 ≤ n) (h : former b base k = n) : 0 ≤ k ∧ k < b.sorts.length ∧ n = base + k := by
  rw [former_is hf h0 h1] at h
  split at h <;> omega
theorem constructor_at {b : Bl} (hf : Fit b) {base : Int} (h0 : 0 ≤ base) (h1 : base ≤ 65535) {k n : Int} (hn : 0 ≤ n) (h : constructor_ b base k = n) : 0 ≤ k ∧ k < b.cons.length ∧ n = base + (b.sorts.length + decs b.sorts) + k := by
  rw [constructor_is hf h0 h1] at h
  split at h <;> omega
theorem eliminator_at {b : Bl} (hf : Fit b) {base : Int} (h0 : 0 ≤ base) (h1 : base ≤ 65535) {k n : Int} (hn : 0 ≤ n) (h : eliminator b base k = n) : 0 ≤ k ∧ k < b.sorts.length ∧ n = base + (b.sorts.length + decs b.sorts + b.cons.length) + k := by
  rw [eliminator_is hf h0 h1] at h
  split at h <;> omega
theorem off {b : Bl} {base : Int} (h : ¬(0 ≤ base ∧ base ≤ 65535)) (k : Int) : former b base k = -1 ∧ decoder b base k = -1 ∧ constructor_ b base k = -1 ∧ eliminator b base k = -1 := by
  refine ⟨?_, ?_, ?_, ?_⟩
  · rw [former, place, if_pos (by omega)]
  · rw [decoder]
    split
    · rfl
    · split
      · rfl
      · split
        · rw [place, if_pos (by omega)]
        · rfl
  · rw [constructor_, place, if_pos (by omega)]
  · rw [eliminator, place, if_pos (by omega)]
theorem of_at {b : Bl} (hf : Fit b) {base n : Int} (hn : 0 ≤ n) {e : En} (he : e ∈ tab b base) {k : Nat} (h : e.of k = n) : ofM b base n = (e.kind, (k : Int)) := by
  by_cases hb : 0 ≤ base ∧ base ≤ 65535
  · obtain ⟨h0, h1⟩ := hb
    have hs := hf.s
    have hc := hf.c
    have hd := decs_le b.sorts
    have hr : base ≤ n ∧ n < base + count b := by
      rw [count_is hf]
      simp only [tab, List.mem_cons, List.not_mem_nil, or_false] at he
      rcases he with rfl | rfl | rfl | rfl <;> simp only at h
      · have := former_at hf h0 h1 hn h; omega
      · obtain ⟨j, hj, _, hd1, hd2⟩ := decoder_at hf h0 h1 hn h
        have := dec_in b.sorts hj hd1
        omega
      · have := constructor_at hf h0 h1 hn h; omega
      · have := eliminator_at hf h0 h1 hn h; omega
    obtain ⟨e', he', k', _, g2, g3⟩ := of_in hf h0 h1 hr.1 hr.2
    rw [g3]
    simp only [tab, List.mem_cons, List.not_mem_nil, or_false] at he he'
    have D : ∀ {j : Nat} (hj : j < b.sorts.length), b.sorts[j].dec = true → decs (b.sorts.take j) + 1 ≤ decs b.sorts := fun hj hd1 => dec_in b.sorts hj hd1
    rcases he with rfl | rfl | rfl | rfl <;> rcases he' with rfl | rfl | rfl | rfl <;> simp only at h g2
    · have a1 := former_at hf h0 h1 hn h; have a2 := former_at hf h0 h1 hn g2
      have : k' = k := by omega
      subst this; rfl
    · have a1 := former_at hf h0 h1 hn h; obtain ⟨j, hj, _, hd1, hd2⟩ := decoder_at hf h0 h1 hn g2; omega
    · have a1 := former_at hf h0 h1 hn h; have a2 := constructor_at hf h0 h1 hn g2; omega
    · have a1 := former_at hf h0 h1 hn h; have a2 := eliminator_at hf h0 h1 hn g2; omega
    · obtain ⟨j, hj, _, hd1, hd2⟩ := decoder_at hf h0 h1 hn h; have a1 := former_at hf h0 h1 hn g2; omega
    · obtain ⟨j, hj, ej, hd1, hd2⟩ := decoder_at hf h0 h1 hn h; obtain ⟨i, hi, ei, he1, he2⟩ := decoder_at hf h0 h1 hn g2
      have : i = j := dec_one b.sorts hi hj he1 hd1 (by omega)
      have : k' = k := by omega
      subst this; rfl
    · obtain ⟨j, hj, _, hd1, hd2⟩ := decoder_at hf h0 h1 hn h; have a1 := constructor_at hf h0 h1 hn g2; have := D hj hd1; omega
    · obtain ⟨j, hj, _, hd1, hd2⟩ := decoder_at hf h0 h1 hn h; have a1 := eliminator_at hf h0 h1 hn g2; have := D hj hd1; omega
    · have a1 := constructor_at hf h0 h1 hn h; have a2 := former_at hf h0 h1 hn g2; omega
    · have a1 := constructor_at hf h0 h1 hn h; obtain ⟨j, hj, _, hd1, hd2⟩ := decoder_at hf h0 h1 hn g2; have := D hj hd1; omega
    · have a1 := constructor_at hf h0 h1 hn h; have a2 := constructor_at hf h0 h1 hn g2
      have : k' = k := by omega
      subst this; rfl
    · have a1 := constructor_at hf h0 h1 hn h; have a2 := eliminator_at hf h0 h1 hn g2; omega
    · have a1 := eliminator_at hf h0 h1 hn h; have a2 := former_at hf h0 h1 hn g2; omega
    · have a1 := eliminator_at hf h0 h1 hn h; obtain ⟨j, hj, _, hd1, hd2⟩ := decoder_at hf h0 h1 hn g2; have := D hj hd1; omega
    · have a1 := eliminator_at hf h0 h1 hn h; have a2 := constructor_at hf h0 h1 hn g2; omega
    · have a1 := eliminator_at hf h0 h1 hn h; have a2 := eliminator_at hf h0 h1 hn g2
      have : k' = k := by omega
      subst this; rfl
  · obtain ⟨o1, o2, o3, o4⟩ := off (b := b) hb (k : Int)
    simp only [tab, List.mem_cons, List.not_mem_nil, or_false] at he
    rcases he with rfl | rfl | rfl | rfl <;> simp only at h <;> omega
theorem of_former {b : Bl} (hf : Fit b) {base n : Int} (hn : 0 ≤ n) {k : Nat} (h : former b base k = n) : ofM b base n = (3, (k : Int)) := of_at hf hn (e := ⟨3, b.sorts.length, n_shape_Former, former b base⟩) (by simp [tab]) h
theorem of_decoder {b : Bl} (hf : Fit b) {base n : Int} (hn : 0 ≤ n) {k : Nat} (h : decoder b base k = n) : ofM b base n = (4, (k : Int)) := of_at hf hn (e := ⟨4, b.sorts.length, n_shape_Decoder, decoder b base⟩) (by simp [tab]) h
theorem of_constructor {b : Bl} (hf : Fit b) {base n : Int} (hn : 0 ≤ n) {k : Nat} (h : constructor_ b base k = n) : ofM b base n = (5, (k : Int)) := of_at hf hn (e := ⟨5, b.cons.length, n_shape_Constructor, constructor_ b base⟩) (by simp [tab]) h
theorem of_eliminator {b : Bl} (hf : Fit b) {base n : Int} (hn : 0 ≤ n) {k : Nat} (h : eliminator b base k = n) : ofM b base n = (6, (k : Int)) := of_at hf hn (e := ⟨6, b.sorts.length, n_shape_Eliminator, eliminator b base⟩) (by simp [tab]) h
/-- None of them. -/
theorem of_none {b : Bl} (hf : Fit b) {base n : Int} (hn : is64 n) (h : ∀ e ∈ tab b base, ∀ k : Nat, k < e.many → 0 ≤ n → e.of k ≠ n) : ofM b base n = (0, 0) := by
  by_cases hb : 0 ≤ base ∧ base ≤ 65535
  · by_cases hr : base ≤ n ∧ n < base + count b
    · obtain ⟨e, he, k, g1, g2, _⟩ := of_in hf hb.1 hb.2 hr.1 hr.2
      exact absurd g2 (h e he k g1 (by omega))
    · exact of_out hf hb.1 hn (by omega)
  · rw [ofM, if_pos (by omega)]
end
section
attribute [local simp] allD_map_d sks_map_d tk tn tks initA EndsM
end
end Ev
end Go.Proofs.YtncmainjcffanaaGreat
