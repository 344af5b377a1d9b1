/- The meaning of the small language, and that the machine keeps to it: one operation. -/
import Derived.Test.YtnkbhmafebngjaaE9
namespace Go.Proofs.Ytnkbhmafebngjaa
namespace Ev
open Go
set_option linter.unusedVariables false
set_option linter.unusedSimpArgs false

section
variable {P : Program} {G : GS} {h : Nat → Ent} {w : World} {a : Act} {s : Nat → AV} {o : Oper}

theorem bind_some {α β : Type} {x : Option α} {f : α → Option β} {b : β} (h : x.bind f = some b) : ∃ y, x = some y ∧ f y = some b := Option.bind_eq_some_iff.1 h
theorem map_some {α β : Type} {x : Option α} {f : α → β} {b : β} (h : x.map f = some b) : ∃ y, x = some y ∧ f y = b := Option.map_eq_some_iff.1 h

theorem elem_some {t e : TypeId} (h : elem? P t = some e) : P.underlying t = some (.slice e) := by
  unfold elem? at h
  split at h
  · rename_i e' hu
    simp only [Option.some.injEq] at h
    rw [hu, h]
  · cases h

theorem cop_did (i : Inv G h w) (sl : Slots G h w a s) {x : XOp} (hc : cop P o = some x) {av : AV} {h' : Nat → Ent} (hact : act o.dst ⟨s, h⟩ x = some (av, h')) : Did P G h w ((execOp a.eval o).run P w) av h' := by
  unfold cop at hc
  split at hc
  case h_1 y ho =>
    cases hc
    simp only [act, Option.some.injEq, Prod.mk.injEq] at hact
    obtain ⟨rfl, rfl⟩ := hact
    exact did_move i sl _ y (.inl ho)
  case h_2 y ho =>
    split at hc
    · obtain ⟨z, hz, rfl⟩ := map_some hc
      exact did_nilrow i o.type o.dst hact ho
    · cases hc
      simp only [act, Option.some.injEq, Prod.mk.injEq] at hact
      obtain ⟨rfl, rfl⟩ := hact
      exact did_move i sl _ _ (.inr ho)
  case h_3 c y z ho =>
    cases hc
    simp only [act] at hact
    split at hact
    · rename_i b hb
      simp only [Option.some.injEq, Prod.mk.injEq] at hact
      obtain ⟨rfl, rfl⟩ := hact
      exact did_pick i sl _ c y z b hb ho
    · cases hact
  case h_4 e ho =>
    obtain ⟨cs, hz, rfl⟩ := map_some hc
    exact did_alloc i sl e hz o.dst hact ho
  case h_5 e y ho =>
    cases hc
    exact did_box i sl e y o.dst hact ho
  case h_6 t y ho =>
    obtain ⟨n, hn, hc⟩ := bind_some hc
    obtain ⟨g, hg, rfl⟩ := map_some hc
    exact did_load i sl t y hn hg o.dst hact ho
  case h_7 t y z ho =>
    obtain ⟨n, hn, rfl⟩ := map_some hc
    exact did_store i sl t y z hn o.dst hact ho
  case h_8 y ho =>
    cases hc
    exact did_nilck i sl y o.dst hact ho
  case h_9 op xt y z yt ho =>
    split at hc
    · rename_i hu
      cases hc
      exact did_binb i sl op xt yt y z o.dst hact hu ho
    · cases hc
      exact did_bin i sl op xt yt y z o.dst hact ho
    · cases hc
  case h_10 op xt y ho =>
    cases hc
    exact did_un i sl xt op y o.dst hact ho
  case h_11 src dst y ho =>
    split at hc
    · rename_i u k hs hd
      cases hc
      exact did_conv i sl src dst k y o.dst hact hs hd ho
    · cases hc
  case h_12 fn first caps ho =>
    split at hc
    · rename_i f hfi
      cases hc
      have : first = #[] := by apply Array.ext'; rw [hfi]
      subst this
      exact did_mkf i sl f caps o.dst hact ho
    · cases hc
  case h_13 t l c ho =>
    split at hc
    · rename_i l' c' 
      split at hc
      · rename_i hl
        subst hl
        obtain ⟨e, he, hc⟩ := bind_some hc
        obtain ⟨z, hz, hc⟩ := bind_some hc
        obtain ⟨n, hn, hc⟩ := bind_some hc
        obtain ⟨b, hb, hc⟩ := bind_some hc
        split at hc
        · rename_i h0
          cases hc
          exact did_mks i sl t e (.tmp l') (elem_some he) hz hn hb h0.1 h0.2 o.dst hact ho
        · cases hc
      · cases hc
    · cases hc
  case h_14 t y lo hi mx ho =>
    split at hc
    · rename_i e he
      obtain ⟨n, hn, rfl⟩ := map_some hc
      exact did_slice i sl t e y lo hi (elem_some he) hn o.dst hact ho
    · cases hc
  case h_15 t y f ho =>
    split at hc
    · rename_i fs hu
      obtain ⟨fl, hf, hc⟩ := bind_some hc
      obtain ⟨n, hn, hc⟩ := bind_some hc
      split at hc
      · cases hc
      · rename_i hn0
        cases hc
        exact did_faddr i sl t y f hu hf hn hn0 o.dst hact ho
    · cases hc
  case h_16 t y f ho =>
    split at hc
    · rename_i fs hu
      obtain ⟨fl, hf, hc⟩ := bind_some hc
      obtain ⟨n, hn, hc⟩ := bind_some hc
      obtain ⟨g, hg, rfl⟩ := map_some hc
      exact did_fld i sl t y f hu hf hn hg o.dst hact ho
    · cases hc
  case h_17 t y ix ho =>
    obtain ⟨e, he, hc⟩ := bind_some hc
    obtain ⟨n, hn, rfl⟩ := map_some hc
    exact did_iaddr i sl t e y ix (elem_some he) hn o.dst hact ho
  case h_18 y n ho =>
    cases hc
    exact did_ext i sl y n o.dst hact ho
  case h_19 t parts ho =>
    split at hc
    · rename_i fs hu
      split at hc
      · rename_i hall
        obtain ⟨z, hz, hc⟩ := bind_some hc
        obtain ⟨ps, hps, rfl⟩ := map_some hc
        exact did_build i sl t parts hu hall hz hps o.dst hact ho
      · cases hc
    · cases hc
  case h_20 t n parts ho =>
    obtain ⟨e, he, hc⟩ := bind_some hc
    obtain ⟨z, hz, hc⟩ := bind_some hc
    obtain ⟨sz, hn, hc⟩ := bind_some hc
    split at hc
    · rename_i hle
      cases hc
      exact did_bslice i sl t e parts (elem_some he) hz hn hle.2 hle.1 o.dst hact ho
    · cases hc
  case h_21 c ho =>
    obtain ⟨cal, as_, ts⟩ := c
    simp only at hc
    split at hc
    · rename_i y t has hts
      obtain ⟨e, he, rfl⟩ := map_some hc
      have h1 : as_ = #[y] := by apply Array.ext'; rw [has]
      have h2 : ts = #[t] := by apply Array.ext'; rw [hts]
      subst h1; subst h2
      exact did_len i sl t e 0 y (elem_some he) o.dst hact ho
    · rename_i y z t u has hts
      split at hc
      · rename_i htu
        subst htu
        obtain ⟨e, he, hc⟩ := bind_some hc
        obtain ⟨sz, hn, hc⟩ := bind_some hc
        obtain ⟨b, hb, hc⟩ := bind_some hc
        split at hc
        · rename_i h0
          cases hc
          have h1 : as_ = #[y, z] := by apply Array.ext'; rw [has]
          have h2 : ts = #[t, t] := by apply Array.ext'; rw [hts]
          subst h1; subst h2
          exact did_app i sl t e y z (elem_some he) hn hb h0.2.2 h0.1 h0.2.1 o.dst hact ho
        · cases hc
      · cases hc
    · rename_i y z has
      cases hc
      have h1 : as_ = #[y, z] := by apply Array.ext'; rw [has]
      subst h1
      exact did_mm i sl true y z ts o.dst hact ho
    · rename_i y z has
      cases hc
      have h1 : as_ = #[y, z] := by apply Array.ext'; rw [has]
      subst h1
      exact did_mm i sl false y z ts o.dst hact ho
    · split at hc
      · cases hc
        simp [act] at hact
      · cases hc
    · cases hc
  case h_22 => cases hc

end
end Ev
end Go.Proofs.Ytnkbhmafebngjaa
