/- comp: what is computed, and shifted. -/
import Derived.Test.YtomlkbohcoinoaaC5
namespace Go.Proofs.Ytomlkbohcoinoaa
namespace Ev
open Go
set_option maxRecDepth 100000
set_option linter.unusedSimpArgs false
set_option linter.unusedVariables false
theorem map_congr_wi (f g : Int → Int → T) (v : Int) (h : ∀ n b : Int, 0 ≤ n → n ≤ 65535 → 0 ≤ b → b ≤ 4194304 → n < v + b → f n b = g n b) (t : T) : ∀ b : Int, formedM t = true → 0 ≤ b → b + nodes t ≤ 4194304 → wiT t (v + b) 65536 = true → mapT f t b = mapT g t b := by
  refine T.ind (p := fun t => ∀ b : Int, formedM t = true → 0 ≤ b → b + nodes t ≤ 4194304 → wiT t (v + b) 65536 = true → mapT f t b = mapT g t b) ?_ t
  intro k n ks ih b hfm h0 hb hw
  rw [mapT, mapT]
  by_cases h1 : k = 1
  · have hn := var_formed h1 hfm
    rw [wiT, if_pos h1, decide_eq_true_eq] at hw
    rw [if_pos h1, if_pos h1, h n b hn.1 hn.2 h0 (by omega) hw]
  · rw [if_neg h1, if_neg h1]
    congr 1
    have hws : ∀ (j : Nat) (hj : j < ks.length), wiT ks[j] (v + b + bindsM k j) 65536 = true := by
      by_cases h23 : k = 2 ∨ k = 3
      · rw [formedM_is] at hfm
        have h0 : kidsM k = 0 := by rcases h23 with rfl | rfl <;> rfl
        rw [h0] at hfm
        split at hfm
        · rename_i hl; simp at hl; subst hl; intro j hj; simp at hj
        · cases hfm
      · rw [wiT, if_neg h1, if_neg (by omega), if_neg (by omega), wiL_at] at hw
        intro j hj
        have := hw j hj
        rw [Nat.zero_add] at this
        exact this
    refine List.ext_getElem (by rw [mapL_len, mapL_len]) fun j h2 h3 => ?_
    rw [mapL_len] at h2
    rw [mapL_get f k b ks 0 j h2, mapL_get g k b ks 0 j h2, Nat.zero_add]
    have hbl := binds_le k j
    have hkn := nodes_kid (k := k) (n := n) (List.getElem_mem h2)
    exact ih ks[j] (List.getElem_mem _) _ (kids_formed hfm _ (List.getElem_mem _)) (by omega) (by omega) (by rw [← Int.add_assoc]; exact hws j h2)
theorem map_kids {f : Int → Int → T} {k n b : Int} {ks : List T} (h1 : k ≠ 1) (h : formedM (mapT f (.mk k n ks) b) = true) (j : Nat) (hj : j < ks.length) : formedM (mapT f ks[j] (b + bindsM k j)) = true := by
  rw [mapT, if_neg h1] at h
  have := kids_formed h (mapT f ks[j] (b + bindsM k j)) (by
    have e := mapL_get f k b ks 0 j hj
    rw [Nat.zero_add] at e
    rw [← e]
    exact List.getElem_mem _)
  exact this
theorem shB_of {fr y : Int} (t : T) : ∀ b : Int, formedM (mapT (shF fr y) t b) = true → shB fr y t b = true := by
  refine T.ind (p := fun t => ∀ b : Int, formedM (mapT (shF fr y) t b) = true → shB fr y t b = true) ?_ t
  intro k n ks ih b h
  rw [shB]
  by_cases h1 : k = 1
  · rw [if_pos h1]
    rw [mapT, if_pos h1] at h
    simp only [Bool.or_eq_true, decide_eq_true_eq]
    by_cases h2 : n < fr + b
    · exact .inl h2
    · rw [sh_hi (by omega)] at h
      exact .inr (var_formed rfl h).2
  · rw [if_neg h1, shBL_at]
    intro j hj
    rw [Nat.zero_add]
    exact ih ks[j] (List.getElem_mem _) _ (map_kids h1 h j hj)
theorem freeL_le (k b M : Int) : ∀ (xs : List T) (i : Nat) (a : Int), a ≤ M → (∀ (j : Nat) (hj : j < xs.length), freeT xs[j] (b + bindsM k (i + j : Nat)) ≤ M) → freeL k b i a xs ≤ M
  | [], i, a, h, _ => by rw [freeL]; exact h
  | x :: xs, i, a, h, hx => by
    rw [freeL]
    have h0 := hx 0 (by simp)
    rw [Nat.add_zero] at h0
    refine freeL_le k b M xs (i + 1) _ (by rw [mx_eq]; simp only [List.getElem_cons_zero] at h0; omega) fun j hj => ?_
    have := hx (j + 1) (by simpa using hj)
    rw [show i + (j + 1) = i + 1 + j by omega] at this
    simpa using this
theorem free_of {c : Int} (hc : 0 ≤ c ∧ c ≤ 65535) (t : T) : ∀ b : Int, formedM t = true → 0 ≤ b → b + nodes t ≤ 4194304 → formedM (mapT (mv c) t b) = true → freeT t b ≤ 65535 - c := by
  refine T.ind (p := fun t => ∀ b : Int, formedM t = true → 0 ≤ b → b + nodes t ≤ 4194304 → formedM (mapT (mv c) t b) = true → freeT t b ≤ 65535 - c) ?_ t
  intro k n ks ih b hfm h0 hb h
  rw [freeT]
  refine freeL_le k b _ ks 0 _ ?_ fun j hj => ?_
  · split
    · rename_i h1
      have hn := var_formed h1.1 hfm
      rw [mapT, if_pos h1.1, mv_hi h1.2 hn.1 (by omega) hc.1 (by omega)] at h
      have := (var_formed rfl h).2
      omega
    · omega
  · by_cases h1 : k = 1
    · have := var_leaf h1 hfm
      subst this
      simp at hj
    · rw [Nat.zero_add]
      have hbl := binds_le k j
      have hkn := nodes_kid (k := k) (n := n) (List.getElem_mem hj)
      exact ih ks[j] (List.getElem_mem _) _ (kids_formed hfm _ (List.getElem_mem _)) (by omega) (by omega) (map_kids h1 h j hj)
theorem sc_of {l : List T} {u : Int} (hu : 0 ≤ u ∧ u ≤ 100) (hl : ∀ x ∈ l, formedM x = true ∧ nodes x ≤ 9000) (t : T) : ∀ b : Int, formedM t = true → 0 ≤ b → b + nodes t ≤ 50000 → formedM (mapT (instF l u) t b) = true → scI l u t b = false := by
  refine T.ind (p := fun t => ∀ b : Int, formedM t = true → 0 ≤ b → b + nodes t ≤ 50000 → formedM (mapT (instF l u) t b) = true → scI l u t b = false) ?_ t
  intro k n ks ih b hfm h0 hb h
  rw [scI]
  by_cases h1 : k = 1
  · rw [if_pos h1]
    rw [mapT, if_pos h1, instF] at h
    split
    · rename_i a ha
      split at ha
      case isFalse => cases ha
      rename_i hw
      rw [if_pos hw, ha] at h
      have h' : formedM (mapT (mv (u + b)) a 0) = true := by
        have h2 : formedM (movedT (w64 (u + b)) a) = true := h
        rwa [w64_id (by omega) (by omega), moved_is] at h2
      obtain ⟨a1, a2⟩ := hl a (List.mem_of_getElem? ha)
      have := free_of (c := u + b) (by omega) a 0 a1 (by omega) (by omega) h'
      rw [overB, Bool.and_eq_false_iff]
      right
      rw [decide_eq_false_iff_not]
      omega
    · rfl
  · rw [if_neg h1]
    have hk := fun j hj => map_kids h1 h j hj
    have go : ∀ (xs : List T) (i : Nat), (∀ (j : Nat) (hj : j < xs.length), xs[j] ∈ ks ∧ formedM (mapT (instF l u) xs[j] (b + bindsM k (i + j : Nat))) = true) → scL l u k b i xs = false := by
      intro xs
      induction xs with
      | nil => intro i _; rw [scL]
      | cons x xs ihx =>
        intro i hm
        obtain ⟨hx, hxf⟩ := hm 0 (by simp)
        have hxn := nodes_kid (k := k) (n := n) hx
        have hbl := binds_le k i
        simp only [List.getElem_cons_zero, Nat.add_zero] at hx hxf hxn
        rw [scL, ih x hx _ (kids_formed hfm x hx) (by omega) (by omega) hxf, ihx (i + 1) fun j hj => ?_]
        · rfl
        · have := hm (j + 1) (by simpa using hj)
          rw [show i + (j + 1) = i + 1 + j by omega] at this
          simpa using this
    exact go ks 0 fun j hj => ⟨List.getElem_mem _, by rw [Nat.zero_add]; exact hk j hj⟩
/-- A variable of what is put in, and shifted. -/
theorem inst_sh_var {l : List T} {u y n b : Int} (hu : 0 ≤ u ∧ u ≤ 100) (hy : 0 ≤ y ∧ y ≤ 100) (hn : 0 ≤ n) (hn' : n ≤ 65535) (hb : 0 ≤ b) (hb' : b ≤ 4194304) (hl : ∀ x ∈ l, formedM x = true ∧ nodes x ≤ 9000) (hlt : n < l.length + u + b) :
    mapT (shF 0 y) (instF l u n b) (b + u) = instF (l.map fun t => mapT (shF 0 y) t 0) u n b := by
  have hlen : (l.map fun t => mapT (shF 0 y) t 0).length = l.length := by simp
  rw [instF, instF, hlen]
  by_cases c : n < u + b
  · have hw : whichT l.length u n b = -1 := by rw [whichT, if_pos (.inl c)]
    rw [hw, if_neg (by omega), if_neg (by omega), if_neg (by omega), map_var, sh_lo (by omega)]
  · have hw : whichT l.length u n b = l.length - 1 - (n - (u + b)) := by rw [whichT, if_neg (by omega)]
    have hm : (whichT l.length u n b).toNat < l.length := by rw [hw]; omega
    have hge : 0 ≤ whichT l.length u n b := by rw [hw]; omega
    generalize (whichT l.length u n b).toNat = m at hm
    rw [if_pos hge, if_pos hge, List.getElem?_eq_getElem hm, List.getElem?_map, List.getElem?_eq_getElem hm]
    obtain ⟨a1, a2⟩ := hl l[m] (List.getElem_mem _)
    generalize l[m] = a at a1 a2
    show mapT (shF 0 y) (movedT (w64 (u + b)) a) (b + u) = movedT (w64 (u + b)) (mapT (shF 0 y) a 0)
    rw [w64_id (by omega) (by omega), moved_is, moved_is]
    have h1 := map_map (shF 0 y) (mv (u + b)) (fun N B => .mk 1 (if N < B then N else N + (u + b) + y) []) (u + b) (fun N B p1 p2 p3 p4 => by
      by_cases q : N < B
      · rw [mv_lo q, map_var, sh_lo (by omega), if_pos q]
      · rw [mv_hi (by omega) p1 (by omega) (by omega) (by omega), map_var, sh_hi (by omega), if_neg q]) a 0 a1 (by omega) (by omega)
    have h2 := map_map (mv (u + b)) (shF 0 y) (fun N B => .mk 1 (if N < B then N else N + (u + b) + y) []) 0 (fun N B p1 p2 p3 p4 => by
      rw [Int.add_zero]
      by_cases q : N < B
      · rw [sh_lo (by omega), map_var, mv_lo q, if_pos q]
      · rw [sh_hi (by omega), map_var, mv_hi (by omega) (by omega) (by omega) (by omega) (by omega), if_neg q]
        congr 1
        omega) a 0 a1 (by omega) (by omega)
    rw [Int.zero_add] at h1
    rw [Int.add_zero] at h2
    rw [show b + u = u + b by omega, h1, h2]
/-- Put in, and shifted where it stands. -/
theorem inst_sh {d : T} {l : List T} {u y : Int} (hu : 0 ≤ u ∧ u ≤ 100) (hy : 0 ≤ y ∧ y ≤ 100) (hl : ∀ x ∈ l, formedM x = true ∧ nodes x ≤ 9000) (hd : formedM d = true) (hn : nodes d ≤ 9000) (hw : wiT d (l.length + u) 65536 = true) :
    mapT (shF 0 y) (mapT (instF l u) d 0) u = mapT (instF (l.map fun t => mapT (shF 0 y) t 0) u) d 0 := by
  have h1 := map_map (shF 0 y) (instF l u) (fun n b => mapT (shF 0 y) (instF l u n b) (b + u)) u (fun _ _ _ _ _ _ => rfl) d 0 hd (by omega) (by omega)
  rw [Int.zero_add] at h1
  rw [h1]
  exact map_congr_wi _ _ (l.length + u) (fun n b p1 p2 p3 p4 p5 => inst_sh_var hu hy p1 p2 p3 p4 hl (by omega)) d 0 hd (by omega) (by omega) (by rw [Int.add_zero]; exact hw)
/-- Shifted by r, and shifted behind these r. -/
theorem sh_sh {t : T} {r y : Int} (hr : 0 ≤ r ∧ r ≤ 100) (hy : 0 ≤ y ∧ y ≤ 100) (hf : formedM t = true) (hn : nodes t ≤ 9000) : mapT (shF 0 y) (mapT (shF 0 r) t 0) r = mapT (shF 0 r) (mapT (shF 0 y) t 0) 0 := by
  have h1 := map_map (shF 0 y) (shF 0 r) (fun N B => .mk 1 (if N < B then N else N + r + y) []) r (fun N B p1 p2 p3 p4 => by
    by_cases q : N < B
    · rw [sh_lo (by omega), map_var, sh_lo (by omega), if_pos q]
    · rw [sh_hi (by omega), map_var, sh_hi (by omega), if_neg q]) t 0 hf (by omega) (by omega)
  have h2 := map_map (shF 0 r) (shF 0 y) (fun N B => .mk 1 (if N < B then N else N + r + y) []) 0 (fun N B p1 p2 p3 p4 => by
    rw [Int.add_zero]
    by_cases q : N < B
    · rw [sh_lo (by omega), map_var, sh_lo (by omega), if_pos q]
    · rw [sh_hi (by omega), map_var, sh_hi (by omega), if_neg q]
      congr 1
      omega) t 0 hf (by omega) (by omega)
  rw [Int.zero_add] at h1
  rw [Int.add_zero] at h2
  rw [h1, h2]
theorem map_sp (f : Int → Int → T) (b : Int) : ∀ (l : List T) (h : T), mapT f (spT h l) b = spT (mapT f h b) (l.map (mapT f · b))
  | [], h => by simp [spT]
  | a :: l, h => by
    have e := map_sp f b l (.mk 6 0 [h, a])
    show mapT f (spT (.mk 6 0 [h, a]) l) b = _
    rw [e, mapT, if_neg (by omega)]
    have b0 : bindsM 6 ((0 : Nat) : Int) = 0 := rfl
    have b1 : bindsM 6 ((0 + 1 : Nat) : Int) = 0 := rfl
    simp only [mapL, b0, b1, Int.add_zero, List.map_cons]
    rfl
theorem map_nest (f : Int → Int → T) : ∀ (l : List T) (t : T) (b : Int), mapT f (nestT 5 l t) b = nestT 5 (l.mapIdx fun j d => mapT f d (b + j)) (mapT f t (b + l.length))
  | [], t, b => by simp [nestT]
  | a :: l, t, b => by
    show mapT f (.mk 5 0 [a, nestT 5 l t]) b = _
    have b0 : bindsM 5 ((0 : Nat) : Int) = 0 := rfl
    have b1 : bindsM 5 ((0 + 1 : Nat) : Int) = 1 := rfl
    rw [mapT, if_neg (by omega)]
    simp only [mapL, b0, b1, Int.add_zero, map_nest f l t (b + 1)]
    have e1 : b + 1 + (l.length : Int) = b + ((a :: l).length : Int) := by simp only [List.length_cons]; omega
    have e2 : (l.mapIdx fun j d => mapT f d (b + 1 + j)) = l.mapIdx fun j d => mapT f d (b + ((j + 1 : Nat) : Int)) := by
      congr 1
      funext j d
      congr 1
      omega
    rw [e1, e2, List.mapIdx_cons]
    have e3 : b + ((0 : Nat) : Int) = b := by omega
    rw [e3]
    rfl
theorem nest_parts_formed : ∀ (l : List T) (t : T), formedM (nestT 5 l t) = true → (∀ x ∈ l, formedM x = true) ∧ formedM t = true
  | [], t, h => ⟨by simp, h⟩
  | a :: l, t, h => by
    have hk := kids_formed (show formedM (.mk 5 0 [a, nestT 5 l t]) = true from h)
    obtain ⟨h1, h2⟩ := nest_parts_formed l t (hk _ (by simp))
    refine ⟨fun x hx => ?_, h2⟩
    rcases List.mem_cons.1 hx with rfl | hx
    · exact hk _ (by simp)
    · exact h1 x hx
theorem sp_parts_formed : ∀ (l : List T) (f : T), formedM (spT f l) = true → formedM f = true ∧ ∀ x ∈ l, formedM x = true
  | [], f, h => ⟨h, by simp⟩
  | a :: l, f, h => by
    obtain ⟨h1, h2⟩ := sp_parts_formed l (.mk 6 0 [f, a]) h
    have hk := kids_formed h1
    refine ⟨hk _ (by simp), fun x hx => ?_⟩
    rcases List.mem_cons.1 hx with rfl | hx
    · exact hk _ (by simp)
    · exact h2 x hx
/-- Shifted from the outside. -/
def sT (y : Int) (t : T) : T := mapT (shF 0 y) t 0
/-- Right, not great, and right when shifted. -/
structure Sh (y : Int) (t : T) : Prop where
  c : checkM t = 0
  n : nodes t ≤ 9000
  e : shiftE t y 0 = 0
theorem Sh.f {y : Int} {t : T} (h : Sh y t) : formedM t = true := formed_of h.c
theorem Sh.r {y : Int} {t : T} (h : Sh y t) : checkM (sT y t) = 0 ∧ formedM (sT y t) = true ∧ nodes (sT y t) = nodes t := by
  have := shift_right (by have := h.n; omega) h.e
  rw [shift_at h.e] at this
  exact this
theorem inst_sh_ok {y : Int} (hy : 0 ≤ y ∧ y ≤ 100) {d : T} {l : List T} {u : Int} (hu : 0 ≤ u ∧ u ≤ 100) (hd : checkM d = 0) (hn : nodes d ≤ 9000) (hw : wiT d (l.length + u) 65536 = true) (hl : ∀ x ∈ l, Sh y x) (he : instE d l u = 0) (hF : formedM (mapT (shF 0 y) (instT d l u) u) = true) :
    instE d (l.map (sT y)) u = 0 ∧ instT d (l.map (sT y)) u = mapT (shF 0 y) (instT d l u) u := by
  have hf := formed_of hd
  have hl1 : ∀ x ∈ l, formedM x = true ∧ nodes x ≤ 9000 := fun x hx => ⟨(hl x hx).f, (hl x hx).n⟩
  have hl2 : ∀ x ∈ l, nodes x ≤ 1048576 := fun x hx => by have := (hl x hx).n; omega
  obtain ⟨r1, r2, r3⟩ := inst_right (by omega) hl2 he
  obtain ⟨i1, i2, i3, i4⟩ := (inst_iff (by omega) hl2).1 he
  have hI := inst_sh hu hy hl1 hf hn hw
  rw [inst_at he] at hF r3 ⊢
  have hm : l.map (fun t => mapT (shF 0 y) t 0) = l.map (sT y) := rfl
  rw [hm] at hI
  rw [hI] at hF
  have hl3 : ∀ x ∈ l.map (sT y), nodes x ≤ 9000 ∧ checkM x = 0 ∧ formedM x = true := fun x hx => by
    obtain ⟨z, hz, rfl⟩ := List.mem_map.1 hx
    obtain ⟨q1, q2, q3⟩ := (hl z hz).r
    have := (hl z hz).n
    exact ⟨by omega, q1, q2⟩
  have hS := sc_of hu (fun x hx => ⟨(hl3 x hx).2.2, (hl3 x hx).1⟩) d 0 hf (by omega) (by omega) hF
  have hE : instE d (l.map (sT y)) u = 0 := by
    refine (inst_iff (by omega) fun x hx => by have := (hl3 x hx).1; omega).2 ⟨(openE_iff _ _ _).2 ⟨hd, fun x hx => (hl3 x hx).2.1, by omega, by omega⟩, hS, ?_, ?_⟩
    · rw [← hI, sh_nodes r3]; exact i3
    · rw [← hI, sh_depth r3]; exact i4
  exact ⟨hE, by rw [inst_at hE, hI]⟩
theorem shift_sh_ok {y r : Int} (hy : 0 ≤ y ∧ y ≤ 100) (hr : 0 ≤ r ∧ r ≤ 100) {t : T} (h : Sh y t) (he : shiftE t r 0 = 0) (hF : formedM (mapT (shF 0 y) (shiftT t r 0) r) = true) :
    shiftE (sT y t) r 0 = 0 ∧ shiftT (sT y t) r 0 = mapT (shF 0 y) (shiftT t r 0) r := by
  have e1 := sh_sh hr hy h.f h.n
  obtain ⟨q1, q2, q3⟩ := h.r
  rw [shift_at he] at hF ⊢
  rw [e1] at hF
  have hE : shiftE (sT y t) r 0 = 0 := shift_iff.2 ⟨q1, by omega, by omega, shB_of _ 0 hF⟩
  exact ⟨hE, by rw [shift_at hE, e1]; rfl⟩
theorem vars_sh {y : Int} (n : Nat) : (varsN n).map (fun t => mapT (shF 0 y) t n) = varsN n := by
  rw [varsN, List.map_map]
  refine List.map_congr_left fun i hi => ?_
  rw [List.mem_range] at hi
  simp only [Function.comp, tV, map_var]
  exact sh_lo (by omega)
theorem inner_sh {b : Bl} {base y : Int} (hy : 0 ≤ y ∧ y ≤ 100) {a : Ar} (fa : FineAr a) {mo me ahead : List T} {t : T} (hr : RecAt b a ahead.length) (hal : ahead.length ≤ 20) (hmo : ∀ x ∈ mo, Sh y x) (hme : ∀ x ∈ me, Sh y x) (hah : ∀ x ∈ ahead, Sh y x) (ht : Sh y t)
    (hz : errs 0 (innerE a mo me ahead t) = 0) (hF : formedM (sT y (innerT b base a mo me ahead t)) = true) :
    innerT b base a (mo.map (sT y)) (me.map (sT y)) (ahead.map (sT y)) (sT y t) = sT y (innerT b base a mo me ahead t) ∧ errs 0 (innerE a (mo.map (sT y)) (me.map (sT y)) (ahead.map (sT y)) (sT y t)) = 0 := by
  have hdn : ∀ x ∈ a.dom, nodes x ≤ 9000 := fun x hx => Nat.le_trans (sum_mem (List.mem_map.2 ⟨x, hx, rfl⟩)) fa.dom
  have hin : ∀ x ∈ a.idx, nodes x ≤ 9000 := fun x hx => Nat.le_trans (sum_mem (List.mem_map.2 ⟨x, hx, rfl⟩)) fa.idx
  have hdl := hr.dl
  have hl : (domsT ahead a.dom).length = a.dom.length := by simp [domsT]
  have hS : sT y (innerT b base a mo me ahead t) = nestT 5 ((domsT ahead a.dom).mapIdx fun j d => mapT (shF 0 y) d (0 + j)) (spT (mapT (shF 0 y) (tC (eliminator b base a.sort)) a.dom.length)
      ((upsT mo a.dom.length ++ upsT me a.dom.length ++ instsT ahead a.idx a.dom.length ++ [spT (shiftT t a.dom.length 0) (varsN a.dom.length)]).map (mapT (shF 0 y) · a.dom.length))) := by
    rw [sT, innerT, map_nest, map_sp, hl, Int.zero_add]
  rw [errs_zero] at hz
  rw [hS] at hF
  obtain ⟨f1, f2⟩ := nest_parts_formed _ _ hF
  obtain ⟨_, f3⟩ := sp_parts_formed _ _ f2
  have ups : ∀ l : List T, (∀ x ∈ l, Sh y x) → (∀ x ∈ l, shiftE x a.dom.length 0 = 0 ∧ formedM (mapT (shF 0 y) (shiftT x a.dom.length 0) a.dom.length) = true) → (∀ x ∈ upsE (l.map (sT y)) a.dom.length, x = 0) ∧ upsT (l.map (sT y)) a.dom.length = (upsT l a.dom.length).map (mapT (shF 0 y) · a.dom.length) := by
    intro l h1 h2
    have h3 : ∀ x ∈ l, shiftE (sT y x) a.dom.length 0 = 0 ∧ shiftT (sT y x) a.dom.length 0 = mapT (shF 0 y) (shiftT x a.dom.length 0) a.dom.length := fun x hx => shift_sh_ok hy (by omega) (h1 x hx) (h2 x hx).1 (h2 x hx).2
    refine ⟨fun x hx => ?_, ?_⟩
    · rw [upsE, List.map_map] at hx
      obtain ⟨z, hz, rfl⟩ := List.mem_map.1 hx
      exact (h3 z hz).1
    · rw [upsT, upsT, List.map_map, List.map_map]
      exact List.map_congr_left fun x hx => (h3 x hx).2
  obtain ⟨m1, m2⟩ := ups mo hmo fun x hx => ⟨hz _ (by simp only [innerE, List.mem_append]; exact .inl (.inl (.inl (.inr (List.mem_map.2 ⟨x, hx, rfl⟩))))), f3 _ (List.mem_map.2 ⟨_, by simp only [List.mem_append]; exact .inl (.inl (.inl (List.mem_map.2 ⟨x, hx, rfl⟩))), rfl⟩)⟩
  obtain ⟨n1, n2⟩ := ups me hme fun x hx => ⟨hz _ (by simp only [innerE, List.mem_append]; exact .inl (.inl (.inr (List.mem_map.2 ⟨x, hx, rfl⟩)))), f3 _ (List.mem_map.2 ⟨_, by simp only [List.mem_append]; exact .inl (.inl (.inr (List.mem_map.2 ⟨x, hx, rfl⟩))), rfl⟩)⟩
  have hI : ∀ x ∈ a.idx, instE x (ahead.map (sT y)) a.dom.length = 0 ∧ instT x (ahead.map (sT y)) a.dom.length = mapT (shF 0 y) (instT x ahead a.dom.length) a.dom.length := fun x hx => by
    obtain ⟨c1, c2⟩ := hr.idx x hx
    exact inst_sh_ok hy (by omega) c1 (hin x hx) c2 hah (hz _ (by simp only [innerE, List.mem_append]; exact .inl (.inr (List.mem_map.2 ⟨x, hx, rfl⟩)))) (f3 _ (List.mem_map.2 ⟨_, by simp only [List.mem_append]; exact .inl (.inr (List.mem_map.2 ⟨x, hx, rfl⟩)), rfl⟩))
  have hD : ∀ (j : Nat) (hj : j < a.dom.length), instE a.dom[j] (ahead.map (sT y)) j = 0 ∧ instT a.dom[j] (ahead.map (sT y)) j = mapT (shF 0 y) (instT a.dom[j] ahead j) j := fun j hj => by
    obtain ⟨c1, c2⟩ := hr.dom j hj
    refine inst_sh_ok hy (by omega) c1 (hdn _ (List.getElem_mem hj)) c2 hah (hz _ (by simp only [innerE, List.mem_append]; exact .inl (.inl (.inl (.inl (List.mem_mapIdx.2 ⟨j, hj, rfl⟩)))))) ?_
    refine f1 _ (List.mem_mapIdx.2 ⟨j, by rw [hl]; exact hj, ?_⟩)
    simp [domsT]
  have f4 := (f3 _ (List.mem_map.2 ⟨_, by simp only [List.mem_append, List.mem_singleton]; exact .inr rfl, rfl⟩))
  simp only [map_sp, vars_sh] at f4
  obtain ⟨t1, t2⟩ := shift_sh_ok hy (r := a.dom.length) (by omega) ht (hz _ (by simp [innerE])) (sp_parts_formed _ _ f4).1
  refine ⟨?_, (errs_zero _).2 fun x hx => ?_⟩
  · rw [hS, innerT]
    have e1 : domsT (ahead.map (sT y)) a.dom = (domsT ahead a.dom).mapIdx fun j d => mapT (shF 0 y) d (0 + j) := by
      refine List.ext_getElem (by simp [domsT]) fun j h1 h2 => ?_
      have hj : j < a.dom.length := by simpa [domsT] using h1
      simp only [domsT, List.getElem_mapIdx, Int.zero_add]
      exact (hD j hj).2
    have e2 : instsT (ahead.map (sT y)) a.idx a.dom.length = (instsT ahead a.idx a.dom.length).map (mapT (shF 0 y) · a.dom.length) := by
      rw [instsT, instsT, List.map_map]
      exact List.map_congr_left fun x hx => (hI x hx).2
    have e3 : mapT (shF 0 y) (tC (eliminator b base a.sort)) a.dom.length = tC (eliminator b base a.sort) := by
      rw [tC, mapT, if_neg (by omega)]; rfl
    rw [e1, e2, e3, m2, n2, t2]
    simp only [List.map_append, List.map_cons, List.map_nil, map_sp, vars_sh]
  · simp only [innerE, List.mem_append, List.mem_singleton] at hx
    rcases hx with (((hx | hx) | hx) | hx) | rfl
    · obtain ⟨j, hj, rfl⟩ := List.mem_mapIdx.1 hx
      exact (hD j hj).1
    · exact m1 x hx
    · exact n1 x hx
    · obtain ⟨z, hz', rfl⟩ := List.mem_map.1 hx
      exact (hI z hz').1
    · exact t1
theorem mkL_sh {b : Bl} {base y : Int} (hy : 0 ≤ y ∧ y ≤ 100) {ars : List Ar} (fas : ∀ a ∈ ars, FineAr a) {mo me args : List T} (hlen : args.length = ars.length) (h12 : ars.length ≤ 12) (hargs : ∀ (i : Nat) (hi : i < ars.length), argM b ars[i] i = true)
    (hmo : ∀ x ∈ mo, Sh y x) (hme : ∀ x ∈ me, Sh y x) (har : ∀ x ∈ args, Sh y x) (n : Nat) (hn : n ≤ ars.length) (hz : (mkL b base ars mo me args n).1 = 0) (hF : ∀ x ∈ (mkL b base ars mo me args n).2, formedM (sT y x) = true) :
    mkL b base ars (mo.map (sT y)) (me.map (sT y)) (args.map (sT y)) n = (0, (mkL b base ars mo me args n).2.map (sT y)) := by
  induction n with
  | zero => simp [mkL]
  | succ n ih =>
    have hlt : n < ars.length := by omega
    have hlt2 : n < args.length := by omega
    have ha := List.getElem?_eq_getElem hlt
    have ht := List.getElem?_eq_getElem hlt2
    have ht' : (args.map (sT y))[n]? = some (sT y args[n]) := by rw [List.getElem?_map, ht]; rfl
    have fa := fas _ (List.getElem_mem hlt)
    have hA := hargs n hlt
    have htl : (args.take n).length = n := by rw [List.length_take]; omega
    rw [mkL_next ha ht] at hz hF
    rw [mkL_next ha ht', mkL_next ha ht]
    by_cases hr : ars[n].rc = true
    · by_cases h0 : (mkL b base ars mo me args n).1 = 0
      · rw [if_pos ⟨hr, h0⟩] at hz hF
        have hI := ih (by omega) h0 fun x hx => hF x (List.mem_append_left _ hx)
        have hR := rec_at fa (by omega) hr hA
        obtain ⟨d1, d2⟩ := inner_sh (base := base) hy fa (ahead := args.take n) (by rw [htl]; exact hR) (by omega) hmo hme (fun x hx => har x (List.mem_of_mem_take hx)) (har _ (List.getElem_mem hlt2)) hz (hF _ (by simp))
        rw [hI, ← List.map_take, d1, d2]
        simp only [hr, h0, and_self, if_true, List.map_append, List.map_cons, List.map_nil]
      · rw [if_neg (fun h => h0 h.2)] at hz
        exact (h0 hz).elim
    · rw [if_neg (fun h => hr h.1)] at hz hF
      have hI := ih (by omega) hz fun x hx => hF x (List.mem_append_left _ hx)
      rw [hI]
      simp [hr]
theorem mkL_nodes {b : Bl} {base : Int} {ars : List Ar} (fas : ∀ a ∈ ars, FineAr a) {mo me args : List T} (hmo : ∀ x ∈ mo, nodes x ≤ 9000) (lmo : mo.length ≤ 60) (hme : ∀ x ∈ me, nodes x ≤ 9000) (lme : me.length ≤ 60) (har : ∀ x ∈ args, nodes x ≤ 9000) (n : Nat) : ∀ x ∈ (mkL b base ars mo me args n).2, nodes x ≤ 3000000 := by
  induction n with
  | zero => simp [mkL]
  | succ n ih =>
    rw [mkL]
    split
    · rename_i a t ha ht
      have htm := List.mem_of_getElem? ht
      have hx1 := har t htm
      split
      · intro x hx
        simp only [List.mem_append, List.mem_cons, List.not_mem_nil, or_false] at hx
        rcases hx with hx | rfl | rfl
        · exact ih x hx
        · omega
        · exact inner_nodes (fas a (List.mem_of_getElem? ha)) hmo lmo hme lme (fun x hx => har x (List.mem_of_mem_take hx)) hx1
      · intro x hx
        simp only [List.mem_append, List.mem_singleton] at hx
        rcases hx with hx | rfl
        · exact ih x hx
        · omega
    · simp
theorem sum_cap {m : Nat} : ∀ l : List T, (∀ x ∈ l, nodes x ≤ m) → (l.map nodes).sum ≤ m * l.length
  | [], _ => by simp
  | x :: l, h => by
    have h1 := h x (by simp)
    have h2 := sum_cap l fun y hy => h y (by simp [hy])
    simp only [List.map_cons, List.sum_cons, List.length_cons, Nat.mul_succ]
    omega
/-- Computed and shifted, or of what is shifted computed. -/
theorem elim_sh {b : Bl} (fb : FineBl b) {base k y : Int} (hy : 0 ≤ y ∧ y ≤ 100) {mo me args : List T} (hmo : ∀ x ∈ mo, nodes x ≤ 9000) (lmo : mo.length ≤ 60) (hme : ∀ x ∈ me, nodes x ≤ 9000) (lme : me.length ≤ 60) (har : ∀ x ∈ args, nodes x ≤ 9000) (h : elimE b base k mo me args = 0)
    (emo : ∀ x ∈ mo, shiftE x y 0 = 0) (eme : ∀ x ∈ me, shiftE x y 0 = 0) (ear : ∀ x ∈ args, shiftE x y 0 = 0) (hx : shiftE (elimT b base k mo me args) y 0 = 0) :
    elimE b base k (mo.map (sT y)) (me.map (sT y)) (args.map (sT y)) = 0 ∧ elimT b base k (mo.map (sT y)) (me.map (sT y)) (args.map (sT y)) = shiftT (elimT b base k mo me args) y 0 := by
  obtain ⟨hz, k0, co, hco, hB, hF, hM, hT, hL⟩ := elimE_zero h
  have hcm := List.mem_of_getElem? hco
  have fco := fb.cons co hcm
  obtain ⟨z1, z4, z8, zl, zs, zc⟩ := (checkB_zero b).1 hz
  obtain ⟨h12, hargs⟩ := con_args (zc co hcm)
  rw [firstE_zero] at hF
  have smo : ∀ x ∈ mo, Sh y x := fun x hx => ⟨hF x (by simp [hx]), hmo x hx, emo x hx⟩
  have sme : ∀ x ∈ me, Sh y x := fun x hx => ⟨hF x (by simp [hx]), hme x hx, eme x hx⟩
  have sar : ∀ x ∈ args, Sh y x := fun x hx => ⟨hF x (by simp [hx]), har x hx, ear x hx⟩
  have hlt := (List.getElem?_eq_some_iff.1 hco).1
  have hkl : k.toNat < me.length := by have := hB.2.2.1; omega
  have hmg : me.getD k.toNat zT = me[k.toNat] := by rw [List.getD_eq_getElem?_getD, List.getElem?_eq_getElem hkl]; rfl
  have hmg' : (me.map (sT y)).getD k.toNat zT = sT y me[k.toNat] := by rw [List.getD_eq_getElem?_getD, List.getElem?_map, List.getElem?_eq_getElem hkl]; rfl
  have hnm := hme _ (List.getElem_mem hkl)
  rw [hmg] at hM hT
  generalize hm : me[k.toNat] = m at *
  have hnL := mkL_nodes (b := b) (base := base) fco.args.2 hmo lmo hme lme har co.args.length
  have hlL := mkL_len b base co.args mo me args co.args.length
  have hS := mkL_sh (base := base) hy fco.args.2 hB.1 h12 hargs smo sme sar co.args.length (Nat.le_refl _) hL
  generalize hLL : mkL b base co.args mo me args co.args.length = L at *
  have hcX : checkM (spT m L.2) = 0 := by rw [makeE, hLL, if_pos hL] at hM; exact hM
  have hnX : nodes (spT m L.2) ≤ 6000 := by
    have := sum_cap L.2 hnL
    refine ((check_iff2 ?_).1 hcX).1
    rw [sp_nodes']
    omega
  rw [hT] at hx ⊢
  obtain ⟨q1, q2, q3⟩ := shift_right (by omega) hx
  have hsX : shiftT (spT m L.2) y 0 = spT (sT y m) (L.2.map (sT y)) := by rw [shift_at hx, map_sp]; rfl
  rw [hsX] at q1 q2 ⊢
  have hL' := hS fun x hx => (sp_parts_formed _ _ q2).2 _ (List.mem_map.2 ⟨x, hx, rfl⟩)
  have hB' : elimB b base k co (mo.map (sT y)) (me.map (sT y)) (args.map (sT y)) := by
    simp only [elimB, List.length_map]; exact hB
  have hF' : firstE (mo.map (sT y) ++ (me.map (sT y) ++ args.map (sT y))) = 0 := firstE_zero.2 fun t ht => by
    simp only [List.mem_append, List.mem_map] at ht
    rcases ht with ⟨z, hz, rfl⟩ | ⟨z, hz, rfl⟩ | ⟨z, hz, rfl⟩
    · exact (smo z hz).r.1
    · exact (sme z hz).r.1
    · exact (sar z hz).r.1
  have hM' : makeE b base co (sT y m) (mo.map (sT y)) (me.map (sT y)) (args.map (sT y)) = 0 := by
    rw [makeE, hL', if_pos rfl]; exact q1
  have hE : elimE b base k (mo.map (sT y)) (me.map (sT y)) (args.map (sT y)) = 0 := by
    rw [elimE, if_pos hz, if_neg (by omega), hco]
    simp only [if_pos hB', if_pos hF', hmg']
    exact hM'
  refine ⟨hE, ?_⟩
  rw [elimT, if_pos hE, hco]
  show makeT b base co ((me.map (sT y)).getD k.toNat zT) (mo.map (sT y)) (me.map (sT y)) (args.map (sT y)) = _
  rw [hmg', makeT, if_pos hM', hL']
end Ev
end Go.Proofs.Ytomlkbohcoinoaa
