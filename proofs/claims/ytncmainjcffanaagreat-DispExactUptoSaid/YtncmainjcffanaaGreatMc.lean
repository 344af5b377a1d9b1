/- Texts of this claim, in one. -/
import Derived.Test.YtncmainjcffanaaGreatMb
import Derived.Test.YtncmainjcffanaaGreatMa
import Derived.Test.YtncmainjcffanaaGreatXs
set_option maxRecDepth 100000
set_option linter.unusedSimpArgs false
set_option linter.unusedVariables false
namespace Go.Proofs.YtncmainjcffanaaGreat
namespace Ev
open Go
section
section
attribute [local simp] zac zag tk tn tks zc4 zdf zch zci zcj zei
theorem zC2 (v : Vw) (n : Nat) (hN : n ≤ 1000000) (hn9 : 9000 ≤ n) (cons : Int) (H : TyOk v n cons) (body : T) (ob : okT body) : zoc Tryz.prog zey [.rp (cVw v), .agg (cT body)] [.agg (cT (zda (zcm 4 (tyL v n 0 v.args) body))), .int .i64 (zbp (zcm 4 (tyL v n 0 v.args) body))] := by
  refine zht false Ev.hm Tryz.func108 zn6 rfl fun hs nn => ?_
  obtain ⟨h1, h2, h3⟩ := zCv v n hN hn9 cons H
  have hP := zRs (tyL v n 0 v.args) body (by omega) ob ⟨by omega, h2⟩
  generalize tyL v n 0 v.args = L at *
  have hC := zA6 (zcm 4 L body)
  generalize zcm 4 L body = R at *
  simp only [cT, eTs] at h1 hP hC
  simp -dsimp [zgu, cT]
  refine zaa h1 ?_
  simp -dsimp
  refine zfc hP ?_
  simp -dsimp [cT]
  refine zwr (by simp -dsimp) hC ?_
  by_cases hc : zbp R = 0
  · simp -dsimp [hc, zda, cT]
  · simp -dsimp [hc, zda, cT, zT]
set_option maxHeartbeats 2000000 in
theorem zHm (b : Bl) (ob : okBl b) (fb : FineBl b) (hf : Fit b) (base k : Int) : zoc Tryz.prog zhw [eBl b, .int .i64 base, .int .i64 k] [.agg (cT (motR b base k)), .int .i64 (motE b base k)] := by
  have hM := zAr b ob fb base k b.sorts.length
  by_cases hm : mayP b base k b.sorts.length = 0
  case neg =>
    have e1 : motE b base k = mayP b base k b.sorts.length := by rw [motE, if_neg hm]
    have e2 : motR b base k = zT := by rw [motR, if_neg (by rw [e1]; exact hm)]
    rw [e1, e2]
    generalize mayP b base k b.sorts.length = E at *
    refine zht false Ev.hm Tryz.func40 zm4 rfl fun hs nn => ?_
    simp only [eBl, cBl] at hM
    simp -dsimp [zf6, eBl, cBl, eSos]
    simp only [eSos] at hM
    refine zaa hM ?_
    simp -dsimp [hm, zT, cT]
  obtain ⟨hp, k0, k1⟩ := zsi hm
  obtain ⟨hz, b0, b1, hpos⟩ := zi9 hp
  obtain ⟨z1, z4, z8, zl, zs, zc⟩ := (zbn b).1 hz
  have hlt : k.toNat < b.sorts.length := by omega
  have hget : b.sorts[k.toNat]? = some b.sorts[k.toNat] := List.getElem?_eq_getElem hlt
  have hsg := zyh hpos hget
  have os := ob.sorts _ (List.getElem_mem hlt)
  have fs := fb.sorts _ (List.getElem_mem hlt)
  have hrow := zth (zs _ hlt)
  generalize hS : b.sorts[k.toNat] = S at *
  have hT := zHj hz fb hf b0 b1 os.idx fs.idx hrow hsg (e := k) k0 (by omega)
  have hv := hT.vw
  have hfl := zqu S.idx k
  have hil := fs.idx.1
  obtain ⟨hOwn, oOwn⟩ := zuu (vwOf b base S.idx k) hv (finL k S.idx) (by omega) (by omega)
  have hSh := zBk b base k S.idx hil k0 (by omega)
  have hF := ztb b base k
  have hfi := zk0 hf b0 (by omega : base ≤ 65535) k
  rw [if_pos ⟨k0, k1⟩] at hfi
  have hC := zKt (zbl b base k)
  have oC : okT (tC (zbl b base k)) := zkf (by omega) (by omega)
  have hSp := zDg (tC (zbl b base k)) ((posL k S.idx).map fun p => lv p (finL k S.idx)) (by rw [List.length_map, zfh]; omega) oC ⟨by rw [List.length_map, zfh]; omega, oOwn⟩
  have oSp := zew _ _ oC oOwn
  have hU := zT9 b.elim
  have hN := zt7 4 [spT (tC (zbl b base k)) ((posL k S.idx).map fun p => lv p (finL k S.idx)), .mk 2 b.elim []]
  have oB : okT (.mk 4 0 [spT (tC (zbl b base k)) ((posL k S.idx).map fun p => lv p (finL k S.idx)), .mk 2 b.elim []]) := zNg (by omega) oSp (.mk _ _ _ (by simp only [n64]; omega) ob.elim (by simp) (by simp)) (by omega)
  have hD := zC2 (vwOf b base S.idx k) 9000 (by omega) (by omega) 0 hT _ oB
  have e0 : (vwOf b base S.idx k).args = S.idx := rfl
  have e1 : motE b base k = zbp (motT b base k S) := by rw [motE, if_pos hm, hget]
  have e2 : motR b base k = zda (motT b base k S) := by rw [motR, zda, e1, hget]
  rw [e0, ← motT] at hD
  rw [e1, e2]
  rw [hm] at hM
  clear e1 e2 e0 hT hv oOwn oC oSp oB hrow hsg os fs
  have e3 : (vwOf b base S.idx k).pos = posL k S.idx := rfl
  rw [e3] at hOwn
  have e4 : cVw (vwOf b base S.idx k) = cBl b ++ [.int .i64 base, eArs S.idx, .sl 1 ((posL k S.idx).map (.int .i64)), .int .i64 (finL k S.idx)] := rfl
  have e5 : cVw ⟨b, base, S.idx, posL k S.idx, finL k S.idx⟩ = cBl b ++ [.int .i64 base, eArs S.idx, .sl 1 ((posL k S.idx).map (.int .i64)), .int .i64 (finL k S.idx)] := rfl
  rw [e4] at hOwn hD
  rw [e5] at hSh
  generalize zbp (motT b base k S) = CE at *
  generalize zda (motT b base k S) = RT at *
  generalize spT (tC (zbl b base k)) ((posL k S.idx).map fun p => lv p (finL k S.idx)) = SP at *
  generalize ((posL k S.idx).map fun p => lv p (finL k S.idx)) = OW at *
  generalize zbl b base k = FO at *
  refine zht false Ev.hm Tryz.func40 zm4 rfl fun hs nn => ?_
  simp only [eBl, cBl, eSos, cT, eTs, eArs, tC, tk, tn, tks, List.map_nil, List.map_cons, zbq, List.cons_append, List.nil_append] at hM hOwn hSh hF hC hSp hU hN hD
  simp -dsimp [zf6, eBl, cBl, eSos]
  refine zaa hM ?_
  simp -dsimp [k0, hlt, hS, hget, eSo, cSo, cT, eArs]
  refine zaa hSh ?_
  simp -dsimp
  refine zaa hF ?_
  simp -dsimp
  refine zaa hC ?_
  simp -dsimp
  refine zaa hOwn ?_
  simp -dsimp
  refine zfc hSp ?_
  simp -dsimp [cT]
  refine zaa hU ?_
  simp -dsimp [cT]
  refine zwr (by simp -dsimp) hN ?_
  simp -dsimp [cT]
  refine zfc hD ?_
  simp -dsimp [cT]
set_option maxHeartbeats 2000000 in
theorem zHg (b : Bl) (ob : okBl b) (fb : FineBl b) (hf : Fit b) (base c : Int) : zoc Tryz.prog zgb [eBl b, .int .i64 base, .int .i64 c] [.agg (cT (metR b base c)), .int .i64 (metE b base c)] := by
  have hM := zAr b ob fb base c b.cons.length
  by_cases hm : mayP b base c b.cons.length = 0
  case neg =>
    have e1 : metE b base c = mayP b base c b.cons.length := by rw [metE, if_neg hm]
    have e2 : metR b base c = zT := by rw [metR, if_neg (by rw [e1]; exact hm)]
    rw [e1, e2]
    generalize mayP b base c b.cons.length = E at *
    refine zht false Ev.hm Tryz.func41 znr rfl fun hs nn => ?_
    simp only [eBl, cBl] at hM
    simp -dsimp [zgd, eBl, cBl, eCos]
    simp only [eCos] at hM
    refine zaa hM ?_
    simp -dsimp [hm, zT, cT]
  obtain ⟨hp, k0, k1⟩ := zsi hm
  obtain ⟨hz, b0, b1, hpos⟩ := zi9 hp
  obtain ⟨z1, z4, z8, zl, zs, zc⟩ := (zbn b).1 hz
  have hlt : c.toNat < b.cons.length := by omega
  have hget : b.cons[c.toNat]? = some b.cons[c.toNat] := List.getElem?_eq_getElem hlt
  obtain ⟨hsg, so, hso, hig⟩ := zwm hpos hget
  have os := ob.cons _ (List.getElem_mem hlt)
  have fs := fb.cons _ (List.getElem_mem hlt)
  obtain ⟨hrow, s0, so2, hso2, hil2⟩ := zpn (zc _ (List.getElem_mem hlt))
  have hcon := zc _ (List.getElem_mem hlt)
  have hao : metA b base c = some (metT b base c b.cons[c.toNat] so) := by rw [metA, hget]; simp only [hso]
  generalize hS : b.cons[c.toNat] = S at *
  rw [hso] at hso2
  cases hso2
  rw [show ((c.toNat : Nat) : Int) = c by omega] at hsg hig
  have hT := zHj hz fb hf b0 b1 os.args fs.args hrow hsg (e := b.sorts.length + c) (by omega) (by omega)
  have hv := hT.vw
  have hfl := zqu S.args (b.sorts.length + c)
  have hal := fs.args.1
  have hsl := (List.getElem?_eq_some_iff.1 hso).1
  obtain ⟨hOwn, oOwn⟩ := zuu (vwOf b base S.args (b.sorts.length + c)) hv (finL (b.sorts.length + c) S.args) (by omega) (by omega)
  have e3 : (vwOf b base S.args (b.sorts.length + c)).pos = posL (b.sorts.length + c) S.args := rfl
  rw [e3] at hOwn oOwn
  have hSh := zBk b base (b.sorts.length + c) S.args hal (by omega) (by omega)
  have hxf : ∀ x ∈ S.idx, zaf x = true ∧ okT x ∧ zai x ≤ 9000 := fun x hx => by
    have hnx : zai x ≤ 9000 := Nat.le_trans (ze6 (List.mem_map.2 ⟨_, hx, rfl⟩)) fs.idx
    have hin : inM x S.args.length = true := zEb hcon hx
    exact ⟨(zd5 hin (by omega) (by omega) (by omega)).2.1, os.idx.2 _ hx, hnx⟩
  have hig' : indF 9000 (plV (vwOf b base S.args (b.sorts.length + c)) S.args.length 0) so S.idx c = true := by
    have e : plV (vwOf b base S.args (b.sorts.length + c)) S.args.length 0 = ⟨b, base, S.args, 0⟩ := by simp only [plV, vwOf, List.take_length]
    rw [e]; exact hig
  have hI := zld (vwOf b base S.args (b.sorts.length + c)) hv 9000 (by omega) S.sort so s0 hso S.idx hil2 S.args.length (Nat.le_refl _) 0 (finL (b.sorts.length + c) S.args) (by omega) (by omega) (by omega) (by omega) c hxf hig'
  have hF := zma b base c
  have hfi := ze0 hf b0 (by omega : base ≤ 65535) c
  rw [if_pos ⟨k0, k1⟩] at hfi
  have hdl := zij b.sorts
  have hC := zKt (zak b base c)
  have oC : okT (tC (zak b base c)) := zkf (by omega) (by omega)
  have hSp := zDg (tC (zak b base c)) ((posL (b.sorts.length + c) S.args).map fun p => lv p (finL (b.sorts.length + c) S.args)) (by rw [List.length_map, zfh]; omega) oC ⟨by rw [List.length_map, zfh]; omega, oOwn⟩
  have oSp := zew _ _ oC oOwn
  have hL := zlf S.sort (finL (b.sorts.length + c) S.args) (by omega) (by omega) (by omega) (by omega)
  have oL := zjp (l := S.sort) (vars := finL (b.sorts.length + c) S.args) (by omega) (by omega) (by omega) (by omega)
  obtain ⟨hI1, hI2, hI3⟩ := hI
  have eT' : metT b base c S so = zcm 4 (tyL (vwOf b base S.args (b.sorts.length + c)) 9000 0 S.args) (spT (lv S.sort (finL (b.sorts.length + c) S.args)) (inT (vwOf b base S.args (b.sorts.length + c)) 9000 so S.idx S.args.length 0 (finL (b.sorts.length + c) S.args) ++ [spT (tC (zak b base c)) ((posL (b.sorts.length + c) S.args).map fun p => lv p (finL (b.sorts.length + c) S.args))])) := rfl
  have e1 : metE b base c = zbp (metT b base c S so) := by rw [metE, if_pos hm, hao]
  have e2 : metR b base c = zda (metT b base c S so) := by rw [metR, zda, e1, hao]; rfl
  rw [e1, e2]
  rw [eT']
  clear e1 e2 eT'
  rw [hm] at hM
  generalize spT (tC (zak b base c)) ((posL (b.sorts.length + c) S.args).map fun p => lv p (finL (b.sorts.length + c) S.args)) = SP at *
  generalize inT (vwOf b base S.args (b.sorts.length + c)) 9000 so S.idx S.args.length 0 (finL (b.sorts.length + c) S.args) = J at *
  generalize lv S.sort (finL (b.sorts.length + c) S.args) = L2 at *
  have oJ : ∀ y ∈ J ++ [SP], okT y := fun y hy => by
    rcases List.mem_append.1 hy with hy | hy
    · exact hI2 y hy
    · rw [List.mem_singleton] at hy; subst hy; exact oSp
  have hS2 := zkk L2 (J ++ [SP]) (by rw [List.length_append, List.length_singleton]; omega) oL ⟨by rw [List.length_append, List.length_singleton]; omega, oJ⟩
  have oS2 := zew (J ++ [SP]) _ oL oJ
  generalize spT L2 (J ++ [SP]) = S2 at *
  have hD := zC2 (vwOf b base S.args (b.sorts.length + c)) 9000 (by omega) (by omega) c hT _ oS2
  have e0 : (vwOf b base S.args (b.sorts.length + c)).args = S.args := rfl
  rw [e0] at hD
  clear hT hv oOwn oC oSp hrow hsg os fs oJ oS2 hig hig' hxf hcon
  have w1 : IntKind.i64.wrap ((b.sorts.length : Int) + c) = b.sorts.length + c := zab (by omega) (by omega)
  have e4 : cVw (vwOf b base S.args (b.sorts.length + c)) = cBl b ++ [.int .i64 base, eArs S.args, .sl 1 ((posL (b.sorts.length + c) S.args).map (.int .i64)), .int .i64 (finL (b.sorts.length + c) S.args)] := rfl
  have e5 : cVw ⟨b, base, S.args, posL (b.sorts.length + c) S.args, finL (b.sorts.length + c) S.args⟩ = cBl b ++ [.int .i64 base, eArs S.args, .sl 1 ((posL (b.sorts.length + c) S.args).map (.int .i64)), .int .i64 (finL (b.sorts.length + c) S.args)] := rfl
  rw [e4] at hOwn hD hI1
  rw [e5] at hSh
  generalize zcm 4 (tyL (vwOf b base S.args (b.sorts.length + c)) 9000 0 S.args) S2 = MT at *
  generalize zbp MT = CE at *
  generalize zda MT = RT at *
  generalize ((posL (b.sorts.length + c) S.args).map fun p => lv p (finL (b.sorts.length + c) S.args)) = OW at *
  generalize zak b base c = FO at *
  refine zht false Ev.hm Tryz.func41 znr rfl fun hs nn => ?_
  simp only [eBl, cBl, eCos, cT, eTs, eArs, tC, tk, tn, tks, List.map_nil, List.map_cons, List.map_append, zbq, List.cons_append, List.nil_append] at hM hOwn hSh hF hC hSp hL hS2 hD hI1
  simp -dsimp [zgd, eBl, cBl, eCos]
  refine zaa hM ?_
  simp -dsimp [k0, hlt, hS, hget, eCo, cCo, cT, eArs, eTs, w1, eSos]
  simp only [eSos] at hSh hF hI1 hD hOwn
  refine zaa hSh ?_
  simp -dsimp
  refine zce (zTo _ hI1) (by simp [zaz, zbv, RV.cells]) ?_
  simp -dsimp
  refine zaa hF ?_
  simp -dsimp
  refine zaa hC ?_
  simp -dsimp
  refine zaa hOwn ?_
  simp -dsimp
  refine zfc hSp ?_
  simp -dsimp [cT, zk2 hI3 trivial]
  refine zaa hL ?_
  simp -dsimp [cT]
  refine zaa hS2 ?_
  simp -dsimp [cT]
  refine zfc hD ?_
  simp -dsimp [cT]
end
end
section
section
attribute [local simp] zac zag tk tn tks zc4 zdf
end
end
section
def n64B (n : Int) : Bool := decide (-9223372036854775808 ≤ n) && decide (n < 9223372036854775808)
theorem zz2 {n : Int} (h : n64B n = true) : n64 n := by
  rw [n64B, Bool.and_eq_true, decide_eq_true_eq, decide_eq_true_eq] at h
  exact h
mutual
def okTB : T → Bool
  | .mk k n ks => n64B k && (n64B n && (decide (ks.length * 40 ≤ 140737488351232) && okLB ks))
def okLB : List T → Bool
  | [] => true
  | x :: xs => okTB x && okLB xs
end
theorem zOt {xs : List T} (hx : ∀ x ∈ xs, okTB x = true → okT x) (h : okLB xs = true) : ∀ x ∈ xs, okT x := by
  induction xs with
  | nil => intro x hx'; simp at hx'
  | cons y ys ih =>
    rw [okLB, Bool.and_eq_true] at h
    intro x hm
    rcases List.mem_cons.1 hm with rfl | hm
    · exact hx _ (by simp) h.1
    · exact ih (fun z hz => hx z (by simp [hz])) h.2 x hm
theorem zF8 (t : T) : okTB t = true → okT t := by
  refine T.ind (p := fun t => okTB t = true → okT t) ?_ t
  intro k n ks ih h
  rw [okTB] at h
  simp only [Bool.and_eq_true, decide_eq_true_eq] at h
  exact .mk k n ks (zz2 h.1) (zz2 h.2.1) h.2.2.1 (zOt ih h.2.2.2)
def zLl (l : List T) : Bool := decide (l.length * 40 ≤ 140737488351232) && okLB l
theorem zA5 {l : List T} (h : zLl l = true) : okTs l := by
  rw [zLl, Bool.and_eq_true, decide_eq_true_eq] at h
  exact ⟨h.1, zOt (fun x _ => zF8 x) h.2⟩
def zS6 (a : Ar) : Bool := okTB a.ty && (zLl a.dom && (n64B a.sort && zLl a.idx))
def zGm (l : List Ar) : Bool := decide (l.length * 104 ≤ 140737488351232) && l.all zS6
theorem zGw {l : List Ar} (h : zGm l = true) : zyy l := by
  rw [zGm, Bool.and_eq_true, decide_eq_true_eq, List.all_eq_true] at h
  refine ⟨h.1, fun a ha => ?_⟩
  have := h.2 a ha
  simp only [zS6, Bool.and_eq_true] at this
  exact ⟨zF8 _ this.1, zA5 this.2.1, zz2 this.2.2.1, zA5 this.2.2.2⟩
def zQ6 (b : Bl) : Bool := decide (b.sorts.length * 80 ≤ 140737488351232) && (b.sorts.all (fun s => zGm s.idx && (n64B s.level && okTB s.dty)) && (decide (b.cons.length * 96 ≤ 140737488351232) &&
  (b.cons.all (fun c => n64B c.sort && (zGm c.args && (zLl c.idx && okTB c.dec))) && n64B b.elim)))
theorem zQ9 {b : Bl} (h : zQ6 b = true) : okBl b := by
  simp only [zQ6, Bool.and_eq_true, decide_eq_true_eq, List.all_eq_true] at h
  obtain ⟨h1, h2, h3, h4, h5⟩ := h
  exact ⟨h1, fun s hs => ⟨zGw (h2 s hs).1, zz2 (h2 s hs).2.1, zF8 _ (h2 s hs).2.2⟩, h3, fun c hc => ⟨zz2 (h4 c hc).1, zGw (h4 c hc).2.1, zA5 (h4 c hc).2.2.1, zF8 _ (h4 c hc).2.2.2⟩, zz2 h5⟩
mutual
def nodB : T → Nat
  | .mk _ _ ks => 1 + zCw ks
def zCw : List T → Nat
  | [] => 0
  | x :: xs => nodB x + zCw xs
end
theorem zF4 {xs : List T} (h : ∀ x ∈ xs, nodB x = zai x) : zCw xs = (xs.map zai).sum := by
  induction xs with
  | nil => rfl
  | cons y ys ih => rw [zCw, h y (by simp), ih fun z hz => h z (by simp [hz]), List.map_cons, List.sum_cons]
theorem zw6 (t : T) : nodB t = zai t := by
  refine T.ind (p := fun t => nodB t = zai t) ?_ t
  intro k n ks ih
  rw [nodB, zai, zF4 ih, Nat.add_comm]
theorem zGq (l : List T) : zCw l = (l.map zai).sum := zF4 fun x _ => zw6 x
def zwu (l : List Ar) : Bool := decide (l.length ≤ 20) && l.all fun a => decide (nodB a.ty ≤ 9000) && (decide (a.dom.length ≤ 60) && (decide (zCw a.dom ≤ 9000) && (decide (a.idx.length ≤ 60) && decide (zCw a.idx ≤ 9000))))
theorem zzq {l : List Ar} (h : zwu l = true) : zpc l := by
  simp only [zwu, zw6, zGq, Bool.and_eq_true, decide_eq_true_eq, List.all_eq_true] at h
  exact ⟨h.1, fun a ha => ⟨(h.2 a ha).1, (h.2 a ha).2.1, (h.2 a ha).2.2.1, (h.2 a ha).2.2.2.1, (h.2 a ha).2.2.2.2⟩⟩
def zFc (b : Bl) : Bool := decide (b.sorts.length ≤ 10) && (decide (b.cons.length ≤ 20) && ((b.sorts.all fun s => zwu s.idx && decide (nodB s.dty ≤ 9000)) &&
  b.cons.all fun c => zwu c.args && (decide (c.idx.length ≤ 60) && (decide (zCw c.idx ≤ 9000) && decide (nodB c.dec ≤ 9000)))))
theorem zK9 {b : Bl} (h : zFc b = true) : FineBl b := by
  simp only [zFc, zw6, zGq, Bool.and_eq_true, decide_eq_true_eq, List.all_eq_true] at h
  obtain ⟨h1, h2, h3, h4⟩ := h
  exact ⟨h1, h2, fun s hs => ⟨zzq (h3 s hs).1, (h3 s hs).2⟩, fun c hc => ⟨zzq (h4 c hc).1, (h4 c hc).2.1, (h4 c hc).2.2.1, (h4 c hc).2.2.2⟩⟩
mutual
def zFg : T → Bool
  | .mk k n ks => if (ks.length : Int) = zho k then if zho k = 0 then inB n 0 65535 && zC4 ks else if n = 0 then zC4 ks else false else false
def zC4 : List T → Bool
  | [] => true
  | x :: xs => zFg x && zC4 xs
end
theorem zJ5 {xs : List T} (h : ∀ x ∈ xs, zFg x = zaf x) : zC4 xs = xs.all zaf := by
  induction xs with
  | nil => rfl
  | cons y ys ih => rw [zC4, h y (by simp), ih fun z hz => h z (by simp [hz]), List.all_cons]
theorem zFq (t : T) : zFg t = zaf t := by
  refine T.ind (p := fun t => zFg t = zaf t) ?_ t
  intro k n ks ih
  rw [zFg, zcb, zJ5 ih]
def inC (t : T) (v : Nat) : Bool := decide (v ≤ 65536) && (decide (nodB t ≤ 200) && (zFg t && wiT t v 65536))
theorem zF6 {t : T} {v : Nat} (h : inC t v = true) : inM t v = true := by
  simp only [inC, Bool.and_eq_true, decide_eq_true_eq, zw6, zFq] at h
  obtain ⟨h1, h2, h3, h4⟩ := h
  have hd := zAn t
  exact (zNx (by omega) (by omega) (by omega)).2 ⟨(zDk (by omega)).2 ⟨by omega, by omega, h3⟩, h4⟩
def domC : Nat → List T → Bool
  | _, [] => true
  | i, x :: xs => inC x i && domC (i + 1) xs
theorem zLw : ∀ (l : List T) (i : Nat), domC i l = true → ∀ (j : Nat) (hj : j < l.length), inC l[j] (i + j) = true
  | x :: xs, i, h, 0, _ => by rw [domC, Bool.and_eq_true] at h; exact h.1
  | x :: xs, i, h, j + 1, hj => by
    rw [domC, Bool.and_eq_true] at h
    have := zLw xs (i + 1) h.2 j (by simpa using hj)
    rw [show i + (j + 1) = i + 1 + j by omega]
    exact this
def argC (b : Bl) (a : Ar) (i : Nat) : Bool :=
  if a.rc then zx9 a.ty && (decide (a.dom.length ≤ 12) && (decide (0 ≤ a.sort) && match b.sorts[a.sort.toNat]? with
    | none => false
    | some s => decide (a.idx.length = s.idx.length) && (domC i a.dom && a.idx.all fun t => inC t (i + a.dom.length))))
  else inC a.ty i && (decide (a.dom = []) && (decide (a.idx = []) && decide (a.sort = 0)))
theorem zJ6 {l : List T} {v : Nat} (h : l.all (fun t => inC t v) = true) : allM l v = true := by
  rw [allM, Bool.not_eq_true', List.any_eq_false]
  intro x hx
  have := zF6 (List.all_eq_true.1 h x hx)
  simp [this]
theorem zP9 {b : Bl} {a : Ar} {i : Nat} (hi : i ≤ 12) (h : argC b a i = true) : argM b a i = true := by
  rw [argC] at h
  rw [argM]
  split at h
  · rename_i hr
    simp only [Bool.and_eq_true, decide_eq_true_eq] at h
    obtain ⟨h1, h2, h3, h4⟩ := h
    rw [if_pos hr, if_pos h1, if_neg (by omega), if_neg (by omega)]
    split at h4
    · cases h4
    · rename_i s hs
      simp only [Bool.and_eq_true, decide_eq_true_eq] at h4
      obtain ⟨h5, h6, h7⟩ := h4
      rw [hs]
      dsimp only
      rw [if_pos (by omega), Bool.and_eq_true]
      refine ⟨(zaq _ _ _).2 fun j hj => ?_, ?_⟩
      · rw [Nat.zero_add, zev (by omega) (by omega), show (i : Int) + (j : Int) = ((i + j : Nat) : Int) by omega]
        exact zF6 (zLw _ _ h6 j hj)
      · rw [zev (by omega) (by omega), show (i : Int) + (a.dom.length : Int) = ((i + a.dom.length : Nat) : Int) by omega]
        exact zJ6 h7
  · rename_i hr
    simp only [Bool.and_eq_true, decide_eq_true_eq] at h
    obtain ⟨h1, h2, h3, h4⟩ := h
    rw [if_neg hr, if_pos (zF6 h1), h2, h3]
    simp [h4, w64]
    rfl
def zKz (b : Bl) : Nat → List Ar → Bool
  | _, [] => true
  | i, x :: xs => argC b x i && zKz b (i + 1) xs
theorem zGn {b : Bl} : ∀ (l : List Ar) (i : Nat), zKz b i l = true → ∀ (j : Nat) (hj : j < l.length), argC b l[j] (i + j) = true
  | x :: xs, i, h, 0, _ => by rw [zKz, Bool.and_eq_true] at h; exact h.1
  | x :: xs, i, h, j + 1, hj => by
    rw [zKz, Bool.and_eq_true] at h
    have := zGn xs (i + 1) h.2 j (by simpa using hj)
    rw [show i + (j + 1) = i + 1 + j by omega]
    exact this
def rowC (b : Bl) (l : List Ar) : Bool := decide (l.length ≤ 12) && zKz b 0 l
theorem zLe {b : Bl} {l : List Ar} (h : rowC b l = true) : rowM b l = true := by
  rw [rowC, Bool.and_eq_true, decide_eq_true_eq] at h
  rw [rowM, if_neg (by omega)]
  refine (zaq _ _ _).2 fun j hj => ?_
  have := zGn _ _ h.2 j hj
  rw [Nat.zero_add] at this ⊢
  exact zP9 (by omega) this
def zF2 (is : Bool) (t : T) (v : Nat) : Bool := if is then inC t v else zx9 t
theorem zDn {is : Bool} {t : T} {v : Nat} (h : zF2 is t v = true) : zfl is t v = true := by
  rw [zF2] at h
  rw [zfl]
  split at h
  · rename_i h1
    rw [if_pos h1]; exact zF6 h
  · rename_i h1
    rw [if_neg h1]; exact h
def zCk (b : Bl) : Nat → List So → Bool
  | _, [] => true
  | k, s :: l => (rowC b s.idx && (zlx s.level && (zF2 s.dec s.dty s.idx.length && !s.idx.any (zim k s)))) && zCk b (k + 1) l
theorem zCr {b : Bl} : ∀ (l : List So) (k : Nat), zCk b k l = true → ∀ (j : Nat) (hj : j < l.length), zhp b (k + j) l[j] = true
  | x :: xs, k, h, 0, _ => by
    simp only [zCk, Bool.and_eq_true, Bool.not_eq_true'] at h
    obtain ⟨⟨h1, h2, h3, h4⟩, _⟩ := h
    refine (zd9 _ _ _).2 ⟨zLe h1, h2, zDn h3, fun a ha => ?_⟩
    have := List.any_eq_false.1 h4 a ha
    simpa using this
  | x :: xs, k, h, j + 1, hj => by
    rw [zCk, Bool.and_eq_true] at h
    have := zCr xs (k + 1) h.2 j (by simpa using hj)
    rw [show k + (j + 1) = k + 1 + j by omega]
    exact this
def conC (b : Bl) (c : Co) : Bool := decide (0 ≤ c.sort) && (rowC b c.args && match b.sorts[c.sort.toNat]? with
  | none => false
  | some s => decide (c.idx.length = s.idx.length) && (c.idx.all (fun t => inC t c.args.length) && zF2 s.dec c.dec c.args.length))
theorem zSc {b : Bl} {c : Co} (h : conC b c = true) : conM b c = true := by
  simp only [conC, Bool.and_eq_true, decide_eq_true_eq] at h
  obtain ⟨h1, h2, h3⟩ := h
  rw [conM, if_neg (by omega), if_pos (zLe h2)]
  split at h3
  · cases h3
  · rename_i s hs
    simp only [Bool.and_eq_true, decide_eq_true_eq] at h3
    rw [hs]
    dsimp only
    rw [if_pos (by omega), if_pos (zJ6 h3.2.1)]
    exact zDn h3.2.2
def zLs (b : Bl) : Bool := decide (1 ≤ b.sorts.length) && (decide (b.sorts.length ≤ 4) && (decide (b.cons.length ≤ 8) && (zlx b.elim && (zCk b 0 b.sorts && b.cons.all (conC b)))))
theorem zJy {b : Bl} (h : zLs b = true) : zfq b = 0 := by
  simp only [zLs, Bool.and_eq_true, decide_eq_true_eq, List.all_eq_true] at h
  obtain ⟨h1, h2, h3, h4, h5, h6⟩ := h
  exact (zbn b).2 ⟨h1, h2, h3, h4, fun j hj => by have := zCr _ _ h5 j hj; rwa [Nat.zero_add] at this, fun c hc => zSc (h6 c hc)⟩
def zCp (b : Bl) (base : Int) (good : Bool) : Bool := zQ6 b && (zFc b && (zLs b && (decide (0 ≤ base) && (decide (base ≤ 65535) && (posF 9000 b base == good)))))
end
section
section
attribute [local simp] zac zag tk tn tks zc4 zdf zch zci zcj zei
end
end
section
section
attribute [local simp] zac zag tk tn tks zc4 zdf zch zci zcj zei
theorem traw (k : Int) (l : List D) (hl : l.length * 40 ≤ zah) : Pure Tryz.prog zc7 [.int .i64 k, .sl 3 l] [.agg [.int .i64 k, .int .i64 0, .sl 3 l]] := by
  refine zos rfl fun hs => ?_
  simp -dsimp [zh7, hl]
theorem craw (n : Int) : Pure Tryz.prog zc6 [.int .i64 n] [.agg [.int .i64 3, .int .i64 n, .sl 3 []]] := by simpa [cT] using zM9 n
theorem vraw (n : Int) : Pure Tryz.prog zeh [.int .i64 n] [.agg [.int .i64 1, .int .i64 n, .sl 3 []]] := by simpa [cT] using zRi n
theorem uraw (n : Int) : Pure Tryz.prog zfz [.int .i64 n] [.agg [.int .i64 2, .int .i64 n, .sl 3 []]] := by simpa [cT] using zSj n
theorem zvh {b : Bl} {base : Int} (h : zCp b base true = true) : zef 9000 b base = 0 := by
  simp only [zCp, Bool.and_eq_true, decide_eq_true_eq, beq_iff_eq] at h
  obtain ⟨h1, h2, h3, h4, h5, h6⟩ := h
  rw [zef, if_pos (zJy h3), if_neg (by omega), h6]
  rfl
theorem zG4 {b : Bl} {base : Int} {g : Bool} (h : zCp b base g = true) : okBl b ∧ FineBl b ∧ Fit b := by
  simp only [zCp, Bool.and_eq_true] at h
  have fb := zK9 h.2.1
  exact ⟨zQ9 h.1, fb, ⟨fb.s, fb.c⟩⟩
theorem zIu {t : T} (h : zFg t = true) (hn : nodB t ≤ 200) : zbp t = 0 := by
  rw [zw6] at hn
  rw [zFq] at h
  have hd := zAn t
  exact (zDk (by omega)).2 ⟨by omega, by omega, h⟩
theorem zCm {b : Bl} {base k : Int} {so : So} {w : T} (hz : zef 9000 b base = 0) (k0 : 0 ≤ k) (hk : b.sorts[k.toNat]? = some so) (hw : motT b base k so = w) (hc : zbp w = 0) : motR b base k = w ∧ motE b base k = 0 := by
  have hlt := (List.getElem?_eq_some_iff.1 hk).1
  have hm : mayP b base k b.sorts.length = 0 := by rw [mayP, if_neg (by omega), hz]
  have e : motE b base k = 0 := by rw [motE, if_pos hm, hk]; simp only [hw, hc]
  exact ⟨by rw [motR, if_pos e, hk]; exact hw, e⟩
theorem zvj {b : Bl} {base c : Int} {x : Co} {so : So} {w : T} (hz : zef 9000 b base = 0) (c0 : 0 ≤ c) (hk : b.cons[c.toNat]? = some x) (hso : b.sorts[x.sort.toNat]? = some so) (hw : metT b base c x so = w) (hc : zbp w = 0) : metR b base c = w ∧ metE b base c = 0 := by
  have hlt := (List.getElem?_eq_some_iff.1 hk).1
  have hm : mayP b base c b.cons.length = 0 := by rw [mayP, if_neg (by omega), hz]
  have ha : metA b base c = some w := by rw [metA, hk]; simp only [hso, hw]
  have e : metE b base c = 0 := by rw [metE, if_pos hm, ha]; exact hc
  exact ⟨by rw [metR, if_pos e, ha]; rfl, e⟩
theorem nat8 : zCp natB 0 true = true := by decide +kernel
def natM : T := .mk 4 0 [.mk 3 0 [], .mk 2 0 []]
def natZ : T := .mk 6 0 [.mk 1 0 [], .mk 3 1 []]
def natS : T := .mk 4 0 [.mk 3 0 [], .mk 4 0 [.mk 6 0 [.mk 1 2 [], .mk 1 0 []], .mk 6 0 [.mk 1 3 [], .mk 6 0 [.mk 3 2 [], .mk 1 1 []]]]]
theorem zQq : motT natB 0 0 ⟨[], 0, false, zT⟩ = natM := by kernel_rfl
theorem zPs : metT natB 0 0 ⟨0, [], [], zT⟩ ⟨[], 0, false, zT⟩ = natZ := by kernel_rfl
theorem zPg : metT natB 0 1 ⟨0, [recA 0 []], [], zT⟩ ⟨[], 0, false, zT⟩ = natS := by kernel_rfl
theorem zKh : motR natB 0 0 = natM ∧ motE natB 0 0 = 0 := zCm (zvh nat8) (by omega) rfl zQq (zIu (by decide +kernel) (by decide +kernel))
theorem zLk : metR natB 0 0 = natZ ∧ metE natB 0 0 = 0 := zvj (zvh nat8) (by omega) rfl rfl zPs (zIu (by decide +kernel) (by decide +kernel))
theorem zIn : metR natB 0 1 = natS ∧ metE natB 0 1 = 0 := zvj (zvh nat8) (by omega) rfl rfl zPg (zIu (by decide +kernel) (by decide +kernel))
theorem zy9 : Pure Tryz.prog zeu [] [.bool true] := by
  refine zq5 rfl fun hs => ?_
  obtain ⟨ob, fb, hf⟩ := zG4 nat8
  have hN := zUn
  have h1 := zKe natB ob fb hf 0 0
  have h2 := zDr natB ob fb hf 0 0
  have h3 := zDr natB ob fb hf 0 1
  rw [zKh.1, zKh.2] at h1
  rw [zLk.1, zLk.2] at h2
  rw [zIn.1, zIn.2] at h3
  have k1 := zdz natM
  have k2 := zdz natZ
  have k3 := zdz natS
  simp only [zL0, cBl, eBl, eSos, eCos, natB, natM, natZ, natS, eSo, cSo, eCo, cCo, eArs, eAr, cAr, recA, zT, cT, eTs, List.map_cons, List.map_nil, zbq, tk, tn, tks, List.cons_append, List.nil_append] at hN h1 h2 h3 k1 k2 k3
  simp -dsimp [zhj]
  refine zaa hN ?_
  simp -dsimp
  refine zaa h1 ?_
  simp -dsimp
  refine zaa h2 ?_
  simp -dsimp
  refine zaa h3 ?_
  simp -dsimp
  repeat ((first | refine zaa (craw _) ?_ | refine zaa (vraw _) ?_ | refine zaa (uraw _) ?_ | refine zaa (traw _ _ (by decide)) ?_ | refine zaa k1 ?_ | refine zaa k2 ?_ | refine zaa k3 ?_); simp -dsimp)
end
end
section
section
attribute [local simp] zac zag tk tn tks zc4 zdf zch zci zcj zei
def vA : Nat → List Ar → List Int
  | _, [] => []
  | i, a :: l => (if a.rc then (i : Int) else -1) :: vA (i + 1) l
theorem zzs : ∀ (l : List Ar) (i : Nat), (vA i l).length = l.length
  | [], _ => rfl
  | a :: l, i => by rw [vA, List.length_cons, zzs l, List.length_cons]
theorem zS1 : ∀ (l : List Ar) (i j : Nat) (h : j < l.length), (vA i l)[j]? = some (if l[j].rc then ((i + j : Nat) : Int) else -1)
  | a :: l, i, 0, h => by simp [vA]
  | a :: l, i, j + 1, h => by
    simp only [vA, List.getElem?_cons_succ, List.getElem_cons_succ]
    rw [zS1 l (i + 1) j (by simpa using h), show i + 1 + j = i + (j + 1) by omega]
theorem zJm : ∀ (l : List Ar) (i j : Nat) (h : j < l.length), vA i (l.take (j + 1)) = vA i (l.take j) ++ [if l[j].rc then ((i + j : Nat) : Int) else -1]
  | a :: l, i, 0, h => by simp [vA]
  | a :: l, i, j + 1, h => by
    simp only [List.take_succ_cons, vA, List.getElem_cons_succ, List.cons_append]
    rw [zJm l (i + 1) j (by simpa using h), show i + 1 + j = i + (j + 1) by omega]
def vrs (p : Pl) : List Int := vA 0 p.args ++ List.replicate p.more.toNat (-1)
def rp (p : Pl) : List D := cBl p.b ++ [.int .i64 p.base, .sl 1 ((vrs p).map (.int .i64)), eArs p.args]
theorem zxi (p : Pl) : (vrs p).length = p.args.length + p.more.toNat := by rw [vrs, List.length_append, zzs, List.length_replicate]
def grd (p : Pl) (n : Int) : Int := if za7 p (.mk 1 n []) then zd3 p (.mk 1 n []) else -1
theorem zRr {p : Pl} {n : Int} (h0 : 0 ≤ p.more) (h : ((vrs p).length : Int) ≤ n) : grd p n = -1 := by
  rw [zxi] at h
  have hJ : zfa p (.mk 1 n []) = none := by rw [zfa, if_neg]; simp only [tk, tn]; omega
  rw [grd, za7, hJ]
  rfl
theorem zSw {p : Pl} {n : Int} (h0 : 0 ≤ p.more) (hn : 0 ≤ n) (h : n < ((vrs p).length : Int)) : (vrs p)[((vrs p).length - 1 - n.toNat)]? = some (grd p n) := by
  have hl := zxi p
  rw [zxi] at h
  by_cases c : n < p.more
  · have hJ : zfa p (.mk 1 n []) = none := by rw [zfa, if_neg]; simp only [tk, tn]; omega
    have e : grd p n = -1 := by rw [grd, za7, hJ]; rfl
    have hx : (vrs p).length - 1 - n.toNat - (vA 0 p.args).length < p.more.toNat := by rw [zzs, hl]; omega
    have hy : (vA 0 p.args).length ≤ (vrs p).length - 1 - n.toNat := by rw [zzs, hl]; omega
    rw [e]
    generalize (vrs p).length - 1 - n.toNat = j at *
    rw [vrs, List.getElem?_append_right hy, List.getElem?_replicate, if_pos hx]
  · have hJ : zfa p (.mk 1 n []) = some (p.args.length - 1 - (n - p.more).toNat) := by
      rw [zfa, if_pos ⟨rfl, by show p.more ≤ n; omega, by show n - p.more < (p.args.length : Int); omega⟩]
      rfl
    have hidx : (vrs p).length - 1 - n.toNat = p.args.length - 1 - (n - p.more).toNat := by rw [hl]; omega
    have hlt : p.args.length - 1 - (n - p.more).toNat < p.args.length := by omega
    rw [hidx, vrs, List.getElem?_append_left (by rw [zzs]; omega), zS1 _ _ _ hlt]
    rw [grd, za7, zd3, hJ]
    simp only [List.getElem?_eq_getElem hlt, Nat.zero_add]
theorem zBg (p : Pl) (n : Int) : (grd p n < 0 ↔ za7 p (.mk 1 n []) = false) ∧ (za7 p (.mk 1 n []) = true → grd p n = zd3 p (.mk 1 n [])) := by
  rw [grd]
  cases hb : za7 p (.mk 1 n []) with
  | true =>
    obtain ⟨_, j, hj, _⟩ : _ ∧ ∃ j : Nat, zd3 p (.mk 1 n []) = j ∧ j < p.args.length := by
      rw [za7] at hb
      cases hJ : zfa p (.mk 1 n []) with
      | none => rw [hJ] at hb; cases hb
      | some j =>
        have e : zd3 p (.mk 1 n []) = j := by rw [zd3, hJ]
        rw [zfa] at hJ
        split at hJ
        · rename_i hh
          cases hJ
          exact ⟨hh.1, _, e, by omega⟩
        · cases hJ
    rw [if_pos rfl, hj]
    refine ⟨⟨fun h => by omega, fun h => by cases h⟩, fun _ => rfl⟩
  | false => rw [if_neg (by simp)]; exact ⟨⟨fun _ => rfl, fun _ => by omega⟩, fun h => by cases h⟩
theorem zm8 (p : Pl) (n : Int) (hn : 0 ≤ n) (h0 : 0 ≤ p.more) (h1 : p.more ≤ 1000000000) (hl : p.args.length ≤ 1000000) : Pure Tryz.prog za8 [.agg (rp p), .int .i64 n] [.int .i64 (grd p n)] := by
  refine zkr rfl fun hs => ?_
  have hvl := zxi p
  have ho := zRr (p := p) (n := n) h0
  have hi := zSw (p := p) (n := n) h0 hn
  have e : rp p = cBl p.b ++ [.int .i64 p.base, .sl 1 ((vrs p).map (.int .i64)), eArs p.args] := rfl
  rw [e]
  generalize vrs p = L at *
  by_cases c : (L.length : Int) ≤ n
  · have := ho c
    simp -dsimp [zby, cBl, c, this]
  · have hI := hi (by omega)
    have hlt : L.length - 1 - n.toNat < L.length := by omega
    have hI' := (List.getElem?_eq_some_iff.1 hI).2
    have w1 : IntKind.i64.wrap ((L.length : Int) - 1) = (L.length : Int) - 1 := zab (by omega) (by omega)
    have w2 : IntKind.i64.wrap ((L.length : Int) - 1 - n) = ((L.length - 1 - n.toNat : Nat) : Int) := by rw [zab (by omega) (by omega)]; omega
    generalize L.length - 1 - n.toNat = j at *
    simp -dsimp [zby, cBl, c, w1, w2, hlt, hI, hI']
theorem zDc (l : List Int) (hl : l.length ≤ 2000000000) : OwnC Tryz.prog zfi [.sl 1 (l.map (.int .i64))] [.one (.row 1 (l.map (.int .i64)) false)] := by
  refine zo3 rfl fun hs => ?_
  simp -dsimp [zfg, (by simp only [zah]; omega : l.length * 8 ≤ zah)]
theorem zGu (p : Pl) (n : Nat) (hn : n ≤ 1000000) (h0 : 0 ≤ p.more) (h1 : p.more ≤ 1000000000) (hl : p.args.length ≤ 1000000) : Pure Tryz.prog za9 [.agg (rp p), .int .i64 n] [.agg (rp (p.fwd n))] := by
  refine zml rfl fun hs => ?_
  have hvl := zxi p
  have e : rp p = cBl p.b ++ [.int .i64 p.base, .sl 1 ((vrs p).map (.int .i64)), eArs p.args] := rfl
  have e2 : rp (p.fwd n) = cBl p.b ++ [.int .i64 p.base, .sl 1 ((vrs p ++ List.replicate n (-1)).map (.int .i64)), eArs p.args] := by
    rw [rp]
    simp only [Pl.fwd, vrs, List.append_assoc]
    rw [show (p.more + (n : Int)).toNat = p.more.toNat + n by omega, ← List.replicate_append_replicate]
  rw [e, e2]
  have hT := zDc (vrs p) (by omega)
  generalize vrs p = L at *
  simp -dsimp [zee, cBl]
  refine zce hT (by simp [zaz, zbv, RV.cells]) ?_
  simp -dsimp
  refine zaj n (fun i st => st.s 1 = .d (.int .i64 n) ∧ st.s 6 = .d (.int .i64 i) ∧ (st.s 4 = .ptr 4 1 0 ∧ st.h 4 = ⟨1, .box [.fsl 6 [], .fsl 6 [], .d (.int .i64 0), .d (.int .i64 0), .fsl 1 [], .fsl 7 []] false⟩) ∧
    ∃ v, st.s 5 = .ptr 5 1 0 ∧ st.h 5 = ⟨1, .box [.d (eSos p.b.sorts), .d (eCos p.b.cons), .d (.int .i64 p.b.elim), .d (.int .i64 p.base), .rsl 10 v, .d (eArs p.args)] false⟩ ∧ st.h 10 = ⟨v, .row 1 ((L ++ List.replicate i (-1)).map (.int .i64)) false⟩) ?_ ?_
  · simp -dsimp
  · rintro i ⟨s, hp⟩ hi ⟨g1, g6, ⟨g4, k4⟩, v, g5, k5, k10⟩
    dsimp only at g1 g6 g4 k4 g5 k5 k10
    rcases Nat.lt_or_ge i n with hlt | hge
    · have w1 : IntKind.i64.wrap ((i : Int) + 1) = (i : Int) + 1 := zab (by omega) (by omega)
      have hn' : (L ++ List.replicate (i + 1) (-1)).map (D.int .i64) = (L ++ List.replicate i (-1)).map (D.int .i64) ++ [.int .i64 (-1)] := by
        rw [List.replicate_succ', ← List.append_assoc, List.map_append]; rfl
      have hll : (L ++ List.replicate i (-1 : Int)).length = L.length + i := by rw [List.length_append, List.length_replicate]
      rw [hn']
      generalize L ++ List.replicate i (-1 : Int) = M at *
      simp -dsimp [g1, g6, g4, k4, g5, k5, k10, hlt, w1, (by simp only [zah]; omega : (M.length + 1) * 8 ≤ zah)]
    · have ei : i = n := by omega
      subst ei
      simp -dsimp [g1, g6, g4, k4, g5, k5, k10]
theorem zIs (b : Bl) (base : Int) (l : List Ar) (hl : l.length ≤ 1000000) : Pure Tryz.prog zez [eBl b, .int .i64 base, eArs l] [.agg (rp ⟨b, base, l, 0⟩)] := by
  refine zv9 rfl fun hs => ?_
  have e : rp ⟨b, base, l, 0⟩ = cBl b ++ [.int .i64 base, .sl 1 ((vA 0 l).map (.int .i64)), eArs l] := by
    rw [rp]; simp only [vrs]
    rw [show (0 : Int).toNat = 0 from rfl, List.replicate_zero, List.append_nil]
  rw [e]
  simp -dsimp [zj5, eBl, cBl, eArs]
  refine zaj l.length (fun i st => st.s 2 = .d (eArs l) ∧ st.s 8 = .d (.int .i64 i) ∧ (st.s 6 = .ptr 6 1 0 ∧ st.h 6 = ⟨1, .box [.fsl 6 [], .fsl 6 [], .d (.int .i64 0), .d (.int .i64 0), .fsl 1 [], .fsl 7 []] false⟩) ∧
    ∃ c, st.s 7 = .ptr 7 1 0 ∧ st.h 7 = ⟨1, .box [.d (eSos b.sorts), .d (eCos b.cons), .d (.int .i64 b.elim), .d (.int .i64 base), c, .d (eArs l)] false⟩ ∧
    ((i = 0 ∧ c = .fsl 1 []) ∨ (0 < i ∧ ∃ k v, (k = 28 ∨ k = 33) ∧ c = .rsl k v ∧ st.h k = ⟨v, .row 1 ((vA 0 (l.take i)).map (.int .i64)) false⟩))) ?_ ?_
  · simp -dsimp [eArs]
  · rintro i ⟨s, hp⟩ hi ⟨g2, g8, ⟨g6, k6⟩, c, g7, k7, kc⟩
    dsimp only at g2 g8 g6 k6 g7 k7 kc
    simp only [eArs] at g2 k7
    rcases Nat.lt_or_ge i l.length with hlt | hge
    · have w1 : IntKind.i64.wrap ((i : Int) + 1) = (i : Int) + 1 := zab (by omega) (by omega)
      have hsn := zJm l 0 i hlt
      have hvl := zzs (l.take i) 0
      rw [List.length_take] at hvl
      rw [Nat.zero_add] at hsn
      rw [hsn]
      generalize hR : l[i] = R at *
      have hV0 : i = 0 → vA 0 (l.take i) = [] := fun h => by subst h; rfl
      generalize vA 0 (l.take i) = V at *
      have w1' : IntKind.i64.wrap 1 = 1 := by rfl
      rcases kc with ⟨rfl, rfl⟩ | ⟨hi0, k, v, hk, rfl, kc⟩
      · have := hV0 rfl
        subst this
        cases hrc : R.rc with
        | true => simp -dsimp [g2, g8, g6, k6, g7, k7, hlt, hR, hrc, eAr, cAr, cT, w1', (by decide : 8 ≤ zah), eArs]
        | false => simp -dsimp [g2, g8, g6, k6, g7, k7, hlt, hR, hrc, eAr, cAr, cT, w1', (by decide : 8 ≤ zah), eArs]
      · rcases hk with rfl | rfl <;> cases hrc : R.rc
        all_goals
          simp -dsimp [g2, g8, g6, k6, g7, k7, kc, hlt, hR, hrc, eAr, cAr, cT, w1, (by simp only [zah]; omega : (V.length + 1) * 8 ≤ zah), eArs]
    · have ei : i = l.length := by omega
      subst ei
      rw [List.take_length] at kc
      rcases kc with ⟨hz, rfl⟩ | ⟨hi0, k, v, hk, rfl, kc⟩
      · have hl0 : l = [] := List.length_eq_zero_iff.1 hz
        subst hl0
        simp -dsimp [g2, g8, g6, k6, g7, k7, vA]
      · rcases hk with rfl | rfl
        all_goals
          simp -dsimp [g2, g8, g6, k6, g7, k7, kc]
end
end
section
section
attribute [local simp] zac zag tk tn tks zc4 zdf zch zci zcj zei
theorem zPk {p : Pl} {s : So} {k : Int} : ∀ (n : Nat) (t : T), (spH t).kind = 3 → ofM p.b p.base (spH t).num = (4, k) → p.b.sorts[k.toNat]? = some s → (spA t).length ≤ s.idx.length → zai t ≤ n → zae n p t = false := by
  intro n
  induction n with
  | zero => intro t _ _ _ _ h; have := zjs t; omega
  | succ n ih =>
    intro t h3 ho hs hl hn
    obtain ⟨k0, m, ks⟩ := t
    by_cases hc : k0 = 6 ∧ ∃ a b, ks = [a, b]
    · obtain ⟨rfl, a, b, rfl⟩ := hc
      rw [(ziv m a b).2] at h3 ho
      rw [(ziv m a b).1, List.length_cons] at hl
      have hd : decG (zae n p) p (.mk 6 m [a, b]) = false := by
        rw [decG, (ziv m a b).1, (ziv m a b).2, if_pos h3, ho]
        simp only [if_true, hs]
        rw [if_neg]
        rw [List.length_cons]; omega
      have e : zae (n + 1) p (.mk 6 m [a, b]) = allI (fun i x => zae n (p.fwd (zan 6 i)) x) 0 [a, b] := by
        have e0 : zae (n + 1) p (.mk 6 m [a, b]) = if (6 : Int) = 1 then !za7 p (.mk 6 m [a, b]) else if (6 : Int) = 3 then decide ((ofM p.b p.base m).1 = 0) else if (6 : Int) = 6 ∧ decG (zae n p) p (.mk 6 m [a, b]) = true then true else allI (fun i x => zae n (p.fwd (zan 6 i)) x) 0 [a, b] := rfl
        rw [e0, if_neg (by decide), if_neg (by decide), if_neg (by rw [hd]; simp)]
      have hb0 : zan 6 ((0 : Nat) : Int) = 0 := rfl
      have hp0 : p.fwd 0 = p := by rw [Pl.fwd, Int.add_zero]
      rw [zzu] at hn
      rw [e, allI, hb0, hp0, ih a h3 ho hs (by omega) (by omega)]
      rfl
    · rw [(zgo hc).2] at h3 ho
      have h3' : k0 = 3 := h3
      have ho' : ofM p.b p.base m = (4, k) := ho
      have e0 : zae (n + 1) p (.mk k0 m ks) = if k0 = 1 then !za7 p (.mk k0 m ks) else if k0 = 3 then decide ((ofM p.b p.base m).1 = 0) else if k0 = 6 ∧ decG (zae n p) p (.mk k0 m ks) = true then true else allI (fun i x => zae n (p.fwd (zan k0 i)) x) 0 ks := rfl
      rw [e0, if_neg (by omega), if_pos h3', ho']
      rfl
def decD (cl : T → Bool) (p : Pl) (A : List T) : Bool := match A.getLast? with
  | some z => za7 p (spH z) && ((A.dropLast.all cl) && ((spA z).reverse.all cl))
  | none => false
theorem zqf {l : List T} {cl : T → Bool} : l.all cl = true ↔ ∀ (j : Nat) (hj : j < l.length), cl l[j] = true := by
  rw [List.all_eq_true]
  exact ⟨fun h j hj => h _ (List.getElem_mem hj), fun h x hx => by obtain ⟨j, hj, rfl⟩ := List.mem_iff_getElem.1 hx; exact h j hj⟩
set_option maxHeartbeats 1000000 in
theorem zCl (p : Pl) (h0 : 0 ≤ p.more) (h1 : p.more ≤ 1000000000) (hl : p.args.length ≤ 1000000) (A : List T) (hA : A ≠ []) (hAl : A.length ≤ 1000000) (cl : T → Bool) (ho : ∀ x ∈ A, okT x ∧ zaf x = true ∧ zai x ≤ 1000000)
    (h : ∀ x, okT x → zaf x = true → (x ∈ A ∨ ∃ z ∈ A, x ∈ spA z) → Pure Tryz.prog zad [.agg (rp p), .agg (cT x)] [.bool (cl x)]) :
    Pure Tryz.prog zcz [.agg (rp p), eTs A] [.bool (decD cl p A)] := by
  obtain ⟨N, hN⟩ : ∃ N, A.length = N + 1 := ⟨A.length - 1, by have := List.length_pos_iff.2 hA; omega⟩
  have hz : N < A.length := by omega
  have hgl : A.getLast? = some A[N] := by rw [List.getLast?_eq_getElem?, hN, Nat.add_sub_cancel, List.getElem?_eq_getElem hz]
  have hdl : A.dropLast = A.take N := by rw [List.dropLast_eq_take, hN, Nat.add_sub_cancel]
  have hD : decD cl p A = (za7 p (spH A[N]) && ((A.take N).all cl && (spA A[N]).reverse.all cl)) := by rw [decD, hgl, hdl]
  generalize hV : decD cl p A = V at *
  have hA1 : ∀ (i : Nat) (hi : i < N), cl A[i] = false → V = false := fun i hi hc => by
    rw [hD]
    have : (A.take N).all cl = false := by
      rw [Bool.eq_false_iff]
      intro h2
      have := zqf.1 h2 i (by rw [List.length_take]; omega)
      rw [List.getElem_take, hc] at this
      cases this
    rw [this]; simp
  obtain ⟨z1, z2, z3⟩ := ho _ (List.getElem_mem hz)
  have hsl := ztd A[N]
  obtain ⟨oH, oAr⟩ := (zkz A[N]).2 z1
  obtain ⟨fH, fAr⟩ := zmv A[N] z2
  have hU := zlp A[N] z1 (by omega)
  have hCx : ∀ (i : Nat) (hi : i < A.length), Pure Tryz.prog zad [.agg (rp p), .agg (cT A[i])] [.bool (cl A[i])] := fun i hi => by
    obtain ⟨x1, x2, x3⟩ := ho _ (List.getElem_mem hi)
    exact h _ x1 x2 (.inl (List.getElem_mem hi))
  have hCz : ∀ x ∈ (spA A[N]).reverse, Pure Tryz.prog zad [.agg (rp p), .agg (cT x)] [.bool (cl x)] := fun x hx => by
    have hx' : x ∈ spA A[N] := by simpa using hx
    exact h x (oAr x hx') (fAr x hx') (.inr ⟨_, List.getElem_mem hz, hx'⟩)
  refine zkj rfl fun hs => ?_
  have w0 : IntKind.i64.wrap ((A.length : Int) - 1) = (N : Int) := by rw [zab (by omega) (by omega)]; omega
  simp -dsimp [zcv, eTs, rp, cBl]
  refine zaj N (fun i st => (st.s 2 = .ptr 2 1 0 ∧ st.h 2 = ⟨1, .box [.d (eSos p.b.sorts), .d (eCos p.b.cons), .d (.int .i64 p.b.elim), .d (.int .i64 p.base), .d (.sl 1 ((vrs p).map (.int .i64))), .d (eArs p.args)] false⟩) ∧ st.s 1 = .d (eTs A) ∧ st.s 5 = .d (.int .i64 i) ∧
    ∀ (j : Nat) (hj : j < N), j < i → cl (A[j]'(by omega)) = true) ?_ ?_
  · simp -dsimp [eTs]
  · rintro i ⟨s, hp⟩ hi ⟨⟨g2, k2⟩, g1, g5, g⟩
    dsimp only at g2 k2 g1 g5
    simp only [eTs] at g1
    rcases Nat.lt_or_ge i N with hlt | hge
    · have w1 : IntKind.i64.wrap ((i : Int) + 1) = (i : Int) + 1 := zab (by omega) (by omega)
      have hltA : i < A.length := by omega
      have hC := hCx i hltA
      have hA1i := hA1 i hlt
      have hnx : cl A[i] = true → ∀ (j : Nat) (hj : j < N), j < i + 1 → cl (A[j]'(by omega)) = true := fun h j hj hji => by
        rcases Nat.lt_or_ge j i with h' | h'
        · exact g j hj h'
        · have : j = i := by omega
          subst this
          exact h
      generalize hX : A[i] = X at *
      simp only [rp, cBl, cT, List.cons_append, List.nil_append] at hC
      simp -dsimp [g2, k2, g1, g5, w0, hlt, hltA, hX, cT]
      refine zaa hC ?_
      cases hc : cl X with
      | false =>
        have hv := hA1i hc
        simp -dsimp [g2, k2, g1, g5, hv]
      | true =>
        have hnx' := hnx hc
        simp -dsimp [g2, k2, g1, g5, hlt, w1, eTs]
        exact hnx'
    · have ei : i = N := by omega
      subst ei
      have hall : (A.take i).all cl = true := zqf.2 fun j hj => by
        rw [List.getElem_take]
        rw [List.length_take] at hj
        exact g j (by omega) (by omega)
      rw [hall, Bool.true_and] at hD
      have hle : spH A[i] = .mk 1 (spH A[i]).num [] ∨ (spH A[i]).kind ≠ 1 := by
        by_cases hk : (spH A[i]).kind = 1
        · refine .inl ?_
          generalize spH A[i] = H at *
          obtain ⟨k, m, ks⟩ := H
          have hk' : k = 1 := hk
          subst hk'
          rw [zta rfl fH]
          rfl
        · exact .inr hk
      have hZlen : (spA A[i]).reverse.length ≤ 1000000 := by rw [List.length_reverse]; omega
      have hgk : za7 p (spH A[i]) = true → (spH A[i]).kind = 1 := fun h => (zp7 h).1
      generalize hZ : A[i] = z at *
      generalize hHz : spH z = H at *
      generalize (spA z).reverse = Z at *
      simp only [cT] at hU
      simp -dsimp [g2, k2, g1, g5, w0, hz, hZ, cT]
      refine zce hU (by simp [zaz, zbv, RV.cells]) ?_
      by_cases hk : H.kind = 1
      case neg =>
        have hv : V = false := by
          rw [hD]
          have : za7 p H = false := by rw [Bool.eq_false_iff]; intro h; exact hk (hgk h)
          rw [this]; rfl
        simp -dsimp [g2, k2, g1, g5, hk, hv]
      have hHe := hle.resolve_right (fun h => h hk)
      have hn0 : 0 ≤ H.num := by
        rw [hHe] at fH
        exact (zf4 rfl fH).1
      have hG := zm8 p H.num hn0 h0 h1 hl
      obtain ⟨gn1, gn2⟩ := zBg p H.num
      rw [← hHe] at gn1 gn2
      simp only [rp, cBl, List.cons_append, List.nil_append] at hG
      simp -dsimp [g2, k2, g1, g5, hk]
      refine zaa hG ?_
      by_cases hg : za7 p H = true
      case neg =>
        have hg' : za7 p H = false := by simpa using hg
        have hlt0 := gn1.2 hg'
        have hv : V = false := by rw [hD, hg']; rfl
        simp -dsimp [g2, k2, g1, g5, hk, hlt0, hv]
      have hge0 : ¬ grd p H.num < 0 := fun h => by rw [gn1.1 h] at hg; cases hg
      have hZl : ∀ (j : Nat) (hj : j < Z.length), Pure Tryz.prog zad [.agg (rp p), .agg (cT Z[j])] [.bool (cl Z[j])] := fun j hj => hCz _ (List.getElem_mem hj)
      rw [hg, Bool.true_and] at hD
      have hB2 : ∀ (j : Nat) (hj : j < Z.length), cl Z[j] = false → V = false := fun j hj hc => by
        rw [hD, Bool.eq_false_iff]
        intro h2
        have := zqf.1 h2 j hj
        rw [hc] at this
        cases this
      have hZle : Z.length ≤ 1000000 := hZlen
      simp -dsimp [g2, k2, g1, g5, hk, hge0]
      refine zaj Z.length (fun j st => (st.s 2 = .ptr 2 1 0 ∧ st.h 2 = ⟨1, .box [.d (eSos p.b.sorts), .d (eCos p.b.cons), .d (.int .i64 p.b.elim), .d (.int .i64 p.base), .d (.sl 1 ((vrs p).map (.int .i64))), .d (eArs p.args)] false⟩) ∧
        (st.s 7 = .rsl 30 ((hp 30).ver + 1) ∧ st.h 30 = ⟨(hp 30).ver + 1, .row 3 (Z.map eT) false⟩) ∧ st.s 8 = .d (.int .i64 j) ∧ ∀ (m : Nat) (hm : m < Z.length), m < j → cl Z[m] = true) ?_ ?_
      · simp -dsimp [g2, k2, g1, g5]
      · clear g2 k2 g1 g5
        rintro j ⟨s, hq⟩ hj ⟨⟨g2, k2⟩, ⟨g7, k30⟩, g8, gz⟩
        dsimp only at g2 k2 g7 k30 g8
        rcases Nat.lt_or_ge j Z.length with hlt2 | hge2
        · have w1 : IntKind.i64.wrap ((j : Int) + 1) = (j : Int) + 1 := zab (by omega) (by omega)
          have hC := hZl j hlt2
          have hB2j := hB2 j hlt2
          have hnx : cl Z[j] = true → ∀ (m : Nat) (hm : m < Z.length), m < j + 1 → cl Z[m] = true := fun h m hm hmj => by
            rcases Nat.lt_or_ge m j with h' | h'
            · exact gz m hm h'
            · have : m = j := by omega
              subst this
              exact h
          generalize hY : Z[j] = Y at *
          simp only [rp, cBl, cT, List.cons_append, List.nil_append] at hC
          simp -dsimp [g2, k2, g7, k30, g8, hlt2, hY, cT]
          refine zaa hC ?_
          cases hc : cl Y with
          | false =>
            have hv := hB2j hc
            simp -dsimp [g2, k2, g7, k30, g8, hv]
          | true =>
            have hnx' := hnx hc
            simp -dsimp [g2, k2, g7, k30, g8, hlt2, w1]
            exact hnx'
        · have ej : j = Z.length := by omega
          subst ej
          have hv : V = true := by rw [hD]; exact zqf.2 fun m hm => gz m hm hm
          simp -dsimp [g2, k2, g7, k30, g8, hv]
structure Pok (p : Pl) : Prop where
  m0 : 0 ≤ p.more
  al : p.args.length ≤ 1000
  fit : Fit p.b
  si : ∀ s ∈ p.b.sorts, s.idx.length ≤ 20
  ca : ∀ c ∈ p.b.cons, c.args.length ≤ 20
theorem Pok.fwd {p : Pl} (h : Pok p) {n : Int} (hn : 0 ≤ n) : Pok (p.fwd n) := ⟨by have := h.m0; simp only [Pl.fwd]; omega, h.al, h.fit, h.si, h.ca⟩
set_option maxHeartbeats 4000000 in
theorem zmo : ∀ (n : Nat), n ≤ 1000000 → ∀ (p : Pl) (t : T), Pok p → p.more + zai t ≤ 1000000000 → okT t → zaf t = true → zai t ≤ n →
    Pure Tryz.prog zad [.agg (rp p), .agg (cT t)] [.bool (zae n p t)] := by
  intro n
  induction n with
  | zero => intro _ p t _ _ _ _ h; have := zjs t; omega
  | succ n ih =>
    intro hN p t hp hm ot ft hn
    have h0 := hp.m0
    have hal := hp.al
    have hfs := hp.fit.s
    have hrec : ∀ x, okT x → zaf x = true → zai x < zai t → Pure Tryz.prog zad [.agg (rp p), .agg (cT x)] [.bool (zae n p x)] := fun x ox fx hx => ih (by omega) p x hp (by omega) ox fx (by omega)
    have hkl := zGy ot
    have hO := zF9 p.b hp.fit p.base t.num ot.num64
    obtain ⟨oH, oA⟩ := (zkz t).2 ot
    have mA := (zkz t).1
    obtain ⟨fH, fA⟩ := zmv t ft
    have hO2 := zF9 p.b hp.fit p.base (spH t).num oH.num64
    have hsl := ztd t
    have hU := zlp t ot (by omega)
    generalize hV0 : zae (n + 1) p t = V0
    by_cases c1 : t.kind = 1
    · have hn0 : 0 ≤ t.num := by obtain ⟨k, m, ks⟩ := t; exact (zf4 c1 ft).1
      have hG := zm8 p t.num hn0 h0 (by omega) (by omega)
      have hte : t = .mk 1 t.num [] := by
        obtain ⟨k, m, ks⟩ := t
        have c1' : k = 1 := c1
        subst c1'
        rw [zta rfl ft]; rfl
      obtain ⟨gn1, _⟩ := zBg p t.num
      rw [← hte] at gn1
      have hv : V0 = decide (grd p t.num < 0) := by
        rw [← hV0, zae, if_pos c1, Bool.eq_iff_iff, Bool.not_eq_true', decide_eq_true_eq]
        exact gn1.symm
      rw [hv]
      refine za3 rfl fun hs => ?_
      simp only [rp, cBl, List.cons_append, List.nil_append] at hG
      simp -dsimp [zay, rp, cBl, cT, c1]
      refine zaa hG ?_
      simp -dsimp [c1]
    by_cases c3 : t.kind = 3
    · have hv : V0 = decide ((ofM p.b p.base t.num).1 = 0) := by rw [← hV0, zae, if_neg c1, if_pos c3]
      rw [hv]
      refine za3 rfl fun hs => ?_
      simp only [eBl, cBl] at hO
      simp -dsimp [zay, rp, cBl, cT, c1, c3]
      refine zaa hO ?_
      simp -dsimp [c1, c3]
    have hkid : ∀ (i : Nat) (hi : i < t.kids.length), Pure Tryz.prog zbu [.int .i64 t.kind, .int .i64 i] [.int .i64 (zan t.kind i)] ∧ Pure Tryz.prog za9 [.agg (rp p), .int .i64 (zan t.kind i)] [.agg (rp (p.fwd (zan t.kind i)))] ∧
        Pure Tryz.prog zad [.agg (rp (p.fwd (zan t.kind i))), .agg (cT t.kids[i])] [.bool (zae n (p.fwd (zan t.kind i)) t.kids[i])] := fun i hi => by
      have hbl := zgg t.kind i
      have hkn := zxx t (List.getElem_mem hi)
      have hM := zGu p (zan t.kind i).toNat (by omega) h0 (by omega) (by omega)
      rw [show (((zan t.kind i).toNat : Nat) : Int) = zan t.kind i by omega] at hM
      have fk : zaf t.kids[i] = true := by obtain ⟨k, m, ks⟩ := t; exact zdt ft _ (List.getElem_mem hi)
      exact ⟨zt1 _ _, hM, ih (by omega) _ _ (hp.fwd (by omega)) (by simp only [Pl.fwd]; omega) (zJp ot (List.getElem_mem hi)) fk (by omega)⟩
    have hkids : (¬ decG (zae n p) p t = true) → V0 = allI (fun i x => zae n (p.fwd (zan t.kind i)) x) 0 t.kids := fun h => by
      rw [← hV0, zae, if_neg c1, if_neg c3, if_neg (fun h' => h h'.2)]
    have hdec : ∀ k s, (spH t).kind = 3 → ofM p.b p.base (spH t).num = (4, k) → p.b.sorts[k.toNat]? = some s → (spA t).length = s.idx.length + 1 → V0 = decD (zae n p) p (spA t).reverse := fun k s h3 ho hs hll => by
      have hd : decG (zae n p) p t = decD (zae n p) p (spA t).reverse := by
        rw [decG, if_pos h3, ho]
        simp only [if_true, hs]
        rw [if_pos (by omega), decD]
        rfl
      by_cases hg : decG (zae n p) p t = true
      · have h6 : t.kind = 6 := by
          obtain ⟨k0, m, ks⟩ := t
          by_cases hc : k0 = 6 ∧ ∃ a b, ks = [a, b]
          · exact hc.1
          · rw [(zgo hc).1] at hll; simp at hll
        rw [← hV0, zae, if_neg c1, if_neg c3, if_pos ⟨h6, hg⟩, ← hd, hg]
      · rw [hkids hg, ← hd]
        have hg' : decG (zae n p) p t = false := by simpa using hg
        rw [hg', Bool.eq_false_iff]
        intro hall
        obtain ⟨k0, m, ks⟩ := t
        by_cases hc : k0 = 6 ∧ ∃ a b, ks = [a, b]
        · obtain ⟨rfl, a, b, rfl⟩ := hc
          rw [(ziv m a b).2] at h3 ho
          rw [(ziv m a b).1, List.length_cons] at hll
          rw [zzu] at hn
          have := (zaq _ _ _).1 hall 0 (by simp [T.kids])
          have hp0 : p.fwd 0 = p := by rw [Pl.fwd, Int.add_zero]
          rw [show zan (T.mk 6 m [a, b]).kind ((0 + 0 : Nat) : Int) = 0 from rfl, hp0] at this
          have e : (T.mk 6 m [a, b]).kids[0] = a := rfl
          rw [e, zPk n a h3 ho hs (by omega) (by omega)] at this
          cases this
        · rw [(zgo hc).1] at hll; simp at hll
    by_cases d3 : (spH t).kind = 3
    case neg =>
      have hV := hkids (by rw [decG, if_neg d3]; simp)
      generalize V0 = V at hV ⊢
      refine za3 rfl fun hs => ?_
      simp only [cT] at hU
      simp -dsimp [zay, rp, cBl, cT, c1, c3]
      refine zce hU (by simp [zaz, zbv, RV.cells]) ?_
      simp -dsimp [d3]
      refine zaj t.kids.length (fun i st => (st.s 2 = .ptr 2 1 0 ∧ st.h 2 = ⟨1, .box [.d (eSos p.b.sorts), .d (eCos p.b.cons), .d (.int .i64 p.b.elim), .d (.int .i64 p.base), .d (.sl 1 ((vrs p).map (.int .i64))), .d (eArs p.args)] false⟩) ∧
        (st.s 3 = .ptr 3 1 0 ∧ st.h 3 = ⟨1, .box [.d (.int .i64 t.kind), .d (.int .i64 t.num), .d (.sl 3 (t.kids.map eT))] false⟩) ∧ st.s 11 = .d (.int .i64 i) ∧ ∀ (j : Nat) (hj : j < t.kids.length), j < i → zae n (p.fwd (zan t.kind j)) t.kids[j] = true) ?_ ?_
      · simp -dsimp []
      · rintro i ⟨s, hp⟩ hi ⟨⟨g2, k2⟩, ⟨g3, k3⟩, g11, g⟩
        dsimp only at g2 k2 g3 k3 g11
        rcases Nat.lt_or_ge i t.kids.length with hlt | hge
        · have w1 : IntKind.i64.wrap ((i : Int) + 1) = (i : Int) + 1 := zab (by omega) (by omega)
          obtain ⟨hB, hMo, hI⟩ := hkid i hlt
          have hnx : zae n (p.fwd (zan t.kind i)) t.kids[i] = true → ∀ (j : Nat) (hj : j < t.kids.length), j < i + 1 → zae n (p.fwd (zan t.kind j)) t.kids[j] = true := fun h j hj hji => by
            rcases Nat.lt_or_ge j i with h' | h'
            · exact g j hj h'
            · have : j = i := by omega
              subst this
              exact h
          have hbad : zae n (p.fwd (zan t.kind i)) t.kids[i] = false → V = false := fun h => by
            rw [hV, Bool.eq_false_iff]
            intro h2
            have := (zaq _ _ _).1 h2 i hlt
            rw [Nat.zero_add, h] at this
            cases this
          generalize zae n (p.fwd (zan t.kind i)) t.kids[i] = Z at *
          generalize hX : t.kids[i] = X at *
          generalize rp (p.fwd (zan t.kind i)) = RP at *
          simp only [rp, cBl, cT, List.cons_append, List.nil_append] at hMo hI
          simp -dsimp [g2, k2, g3, k3, g11, hlt, hX, cT]
          refine zaa hB ?_
          simp -dsimp [g2, k2, g3, k3, g11, hlt, hX, cT]
          refine zaa hMo ?_
          simp -dsimp [g2, k2, g3, k3, g11, hlt, hX, cT]
          refine zaa hI ?_
          cases Z with
          | false =>
            have := hbad rfl
            simp -dsimp [g2, k2, g3, k3, g11, this]
          | true =>
            have hnx' := hnx rfl
            simp -dsimp [g2, k2, g3, k3, g11, hlt, w1]
            exact hnx'
        · have e : i = t.kids.length := by omega
          subst e
          have hv : V = true := by rw [hV]; exact (zaq _ _ _).2 fun j hj => by rw [Nat.zero_add]; exact g j hj hj
          simp -dsimp [g2, k2, g3, k3, g11, hv]
    by_cases dl : (spA t).length = 0
    case pos =>
      have hV := hkids (by
        rw [decG, if_pos d3]
        intro h
        split at h
        · split at h
          · split at h
            · omega
            · cases h
          · cases h
        · cases h)
      have dl' : spA t = [] := List.length_eq_zero_iff.1 dl
      generalize V0 = V at hV ⊢
      refine za3 rfl fun hs => ?_
      simp only [cT, dl', List.reverse_nil, List.map_nil] at hU
      simp -dsimp [zay, rp, cBl, cT, c1, c3]
      refine zce hU (by simp [zaz, zbv, RV.cells]) ?_
      simp -dsimp [d3]
      refine zaj t.kids.length (fun i st => (st.s 2 = .ptr 2 1 0 ∧ st.h 2 = ⟨1, .box [.d (eSos p.b.sorts), .d (eCos p.b.cons), .d (.int .i64 p.b.elim), .d (.int .i64 p.base), .d (.sl 1 ((vrs p).map (.int .i64))), .d (eArs p.args)] false⟩) ∧
        (st.s 3 = .ptr 3 1 0 ∧ st.h 3 = ⟨1, .box [.d (.int .i64 t.kind), .d (.int .i64 t.num), .d (.sl 3 (t.kids.map eT))] false⟩) ∧ st.s 11 = .d (.int .i64 i) ∧ ∀ (j : Nat) (hj : j < t.kids.length), j < i → zae n (p.fwd (zan t.kind j)) t.kids[j] = true) ?_ ?_
      · simp -dsimp []
      · rintro i ⟨s, hp⟩ hi ⟨⟨g2, k2⟩, ⟨g3, k3⟩, g11, g⟩
        dsimp only at g2 k2 g3 k3 g11
        rcases Nat.lt_or_ge i t.kids.length with hlt | hge
        · have w1 : IntKind.i64.wrap ((i : Int) + 1) = (i : Int) + 1 := zab (by omega) (by omega)
          obtain ⟨hB, hMo, hI⟩ := hkid i hlt
          have hnx : zae n (p.fwd (zan t.kind i)) t.kids[i] = true → ∀ (j : Nat) (hj : j < t.kids.length), j < i + 1 → zae n (p.fwd (zan t.kind j)) t.kids[j] = true := fun h j hj hji => by
            rcases Nat.lt_or_ge j i with h' | h'
            · exact g j hj h'
            · have : j = i := by omega
              subst this
              exact h
          have hbad : zae n (p.fwd (zan t.kind i)) t.kids[i] = false → V = false := fun h => by
            rw [hV, Bool.eq_false_iff]
            intro h2
            have := (zaq _ _ _).1 h2 i hlt
            rw [Nat.zero_add, h] at this
            cases this
          generalize zae n (p.fwd (zan t.kind i)) t.kids[i] = Z at *
          generalize hX : t.kids[i] = X at *
          generalize rp (p.fwd (zan t.kind i)) = RP at *
          simp only [rp, cBl, cT, List.cons_append, List.nil_append] at hMo hI
          simp -dsimp [g2, k2, g3, k3, g11, hlt, hX, cT]
          refine zaa hB ?_
          simp -dsimp [g2, k2, g3, k3, g11, hlt, hX, cT]
          refine zaa hMo ?_
          simp -dsimp [g2, k2, g3, k3, g11, hlt, hX, cT]
          refine zaa hI ?_
          cases Z with
          | false =>
            have := hbad rfl
            simp -dsimp [g2, k2, g3, k3, g11, this]
          | true =>
            have hnx' := hnx rfl
            simp -dsimp [g2, k2, g3, k3, g11, hlt, w1]
            exact hnx'
        · have e : i = t.kids.length := by omega
          subst e
          have hv : V = true := by rw [hV]; exact (zaq _ _ _).2 fun j hj => by rw [Nat.zero_add]; exact g j hj hj
          simp -dsimp [g2, k2, g3, k3, g11, hv]
    have dl0 : ¬ spA t = [] := fun h => dl (by rw [h]; rfl)
    have dl1 : 0 < (spA t).length := by omega
    by_cases d4 : (ofM p.b p.base (spH t).num).1 = 4
    case neg =>
      have hV := hkids (by rw [decG, if_pos d3, if_neg d4]; simp)
      generalize V0 = V at hV ⊢
      generalize ofM p.b p.base (spH t).num = o at *
      refine za3 rfl fun hs => ?_
      simp only [cT] at hU
      simp only [eBl, cBl] at hO2
      simp -dsimp [zay, rp, cBl, cT, c1, c3]
      refine zce hU (by simp [zaz, zbv, RV.cells]) ?_
      simp -dsimp [d3, dl0, dl1]
      refine zaa hO2 ?_
      simp -dsimp [d4]
      refine zaj t.kids.length (fun i st => (st.s 2 = .ptr 2 1 0 ∧ st.h 2 = ⟨1, .box [.d (eSos p.b.sorts), .d (eCos p.b.cons), .d (.int .i64 p.b.elim), .d (.int .i64 p.base), .d (.sl 1 ((vrs p).map (.int .i64))), .d (eArs p.args)] false⟩) ∧
        (st.s 3 = .ptr 3 1 0 ∧ st.h 3 = ⟨1, .box [.d (.int .i64 t.kind), .d (.int .i64 t.num), .d (.sl 3 (t.kids.map eT))] false⟩) ∧ st.s 11 = .d (.int .i64 i) ∧ ∀ (j : Nat) (hj : j < t.kids.length), j < i → zae n (p.fwd (zan t.kind j)) t.kids[j] = true) ?_ ?_
      · simp -dsimp []
      · rintro i ⟨s, hp⟩ hi ⟨⟨g2, k2⟩, ⟨g3, k3⟩, g11, g⟩
        dsimp only at g2 k2 g3 k3 g11
        rcases Nat.lt_or_ge i t.kids.length with hlt | hge
        · have w1 : IntKind.i64.wrap ((i : Int) + 1) = (i : Int) + 1 := zab (by omega) (by omega)
          obtain ⟨hB, hMo, hI⟩ := hkid i hlt
          have hnx : zae n (p.fwd (zan t.kind i)) t.kids[i] = true → ∀ (j : Nat) (hj : j < t.kids.length), j < i + 1 → zae n (p.fwd (zan t.kind j)) t.kids[j] = true := fun h j hj hji => by
            rcases Nat.lt_or_ge j i with h' | h'
            · exact g j hj h'
            · have : j = i := by omega
              subst this
              exact h
          have hbad : zae n (p.fwd (zan t.kind i)) t.kids[i] = false → V = false := fun h => by
            rw [hV, Bool.eq_false_iff]
            intro h2
            have := (zaq _ _ _).1 h2 i hlt
            rw [Nat.zero_add, h] at this
            cases this
          generalize zae n (p.fwd (zan t.kind i)) t.kids[i] = Z at *
          generalize hX : t.kids[i] = X at *
          generalize rp (p.fwd (zan t.kind i)) = RP at *
          simp only [rp, cBl, cT, List.cons_append, List.nil_append] at hMo hI
          simp -dsimp [g2, k2, g3, k3, g11, hlt, hX, cT]
          refine zaa hB ?_
          simp -dsimp [g2, k2, g3, k3, g11, hlt, hX, cT]
          refine zaa hMo ?_
          simp -dsimp [g2, k2, g3, k3, g11, hlt, hX, cT]
          refine zaa hI ?_
          cases Z with
          | false =>
            have := hbad rfl
            simp -dsimp [g2, k2, g3, k3, g11, this]
          | true =>
            have hnx' := hnx rfl
            simp -dsimp [g2, k2, g3, k3, g11, hlt, w1]
            exact hnx'
        · have e : i = t.kids.length := by omega
          subst e
          have hv : V = true := by rw [hV]; exact (zaq _ _ _).2 fun j hj => by rw [Nat.zero_add]; exact g j hj hj
          simp -dsimp [g2, k2, g3, k3, g11, hv]
    obtain ⟨k, k1, k2, k3⟩ := zQr d4
    have hget : p.b.sorts[k]? = some p.b.sorts[k] := List.getElem?_eq_getElem k1
    have hsil := hp.si _ (List.getElem_mem k1)
    have w3 : IntKind.i64.wrap ((p.b.sorts[k].idx.length : Int) + 1) = p.b.sorts[k].idx.length + 1 := zab (by omega) (by omega)
    by_cases d5 : (spA t).length = p.b.sorts[k].idx.length + 1
    case neg =>
      have hV := hkids (by
        rw [decG, if_pos d3, k3]
        simp only [if_true, Int.toNat_natCast, hget]
        rw [if_neg (by omega)]; simp)
      have d5' : ¬ ((spA t).length : Int) = p.b.sorts[k].idx.length + 1 := by omega
      rw [k3] at hO2
      generalize V0 = V at hV ⊢
      generalize hSk : p.b.sorts[k] = S at *
      refine za3 rfl fun hs => ?_
      simp only [cT] at hU
      simp only [eBl, cBl] at hO2
      simp -dsimp [zay, rp, cBl, cT, c1, c3]
      refine zce hU (by simp [zaz, zbv, RV.cells]) ?_
      simp -dsimp [d3, dl0, dl1]
      refine zaa hO2 ?_
      simp -dsimp [k1, hget, hSk, eSos, eSo, cSo, cT, eArs, w3, d5']
      refine zaj t.kids.length (fun i st => (st.s 2 = .ptr 2 1 0 ∧ st.h 2 = ⟨1, .box [.d (eSos p.b.sorts), .d (eCos p.b.cons), .d (.int .i64 p.b.elim), .d (.int .i64 p.base), .d (.sl 1 ((vrs p).map (.int .i64))), .d (eArs p.args)] false⟩) ∧
        (st.s 3 = .ptr 3 1 0 ∧ st.h 3 = ⟨1, .box [.d (.int .i64 t.kind), .d (.int .i64 t.num), .d (.sl 3 (t.kids.map eT))] false⟩) ∧ st.s 11 = .d (.int .i64 i) ∧ ∀ (j : Nat) (hj : j < t.kids.length), j < i → zae n (p.fwd (zan t.kind j)) t.kids[j] = true) ?_ ?_
      · simp -dsimp [eSos, eArs]
      · rintro i ⟨s, hp⟩ hi ⟨⟨g2, k2⟩, ⟨g3, k3⟩, g11, g⟩
        dsimp only at g2 k2 g3 k3 g11
        rcases Nat.lt_or_ge i t.kids.length with hlt | hge
        · have w1 : IntKind.i64.wrap ((i : Int) + 1) = (i : Int) + 1 := zab (by omega) (by omega)
          obtain ⟨hB, hMo, hI⟩ := hkid i hlt
          have hnx : zae n (p.fwd (zan t.kind i)) t.kids[i] = true → ∀ (j : Nat) (hj : j < t.kids.length), j < i + 1 → zae n (p.fwd (zan t.kind j)) t.kids[j] = true := fun h j hj hji => by
            rcases Nat.lt_or_ge j i with h' | h'
            · exact g j hj h'
            · have : j = i := by omega
              subst this
              exact h
          have hbad : zae n (p.fwd (zan t.kind i)) t.kids[i] = false → V = false := fun h => by
            rw [hV, Bool.eq_false_iff]
            intro h2
            have := (zaq _ _ _).1 h2 i hlt
            rw [Nat.zero_add, h] at this
            cases this
          generalize zae n (p.fwd (zan t.kind i)) t.kids[i] = Z at *
          generalize hX : t.kids[i] = X at *
          generalize rp (p.fwd (zan t.kind i)) = RP at *
          simp only [rp, cBl, cT, List.cons_append, List.nil_append] at hMo hI
          simp -dsimp [g2, k2, g3, k3, g11, hlt, hX, cT]
          refine zaa hB ?_
          simp -dsimp [g2, k2, g3, k3, g11, hlt, hX, cT]
          refine zaa hMo ?_
          simp -dsimp [g2, k2, g3, k3, g11, hlt, hX, cT]
          refine zaa hI ?_
          cases Z with
          | false =>
            have := hbad rfl
            simp -dsimp [g2, k2, g3, k3, g11, this]
          | true =>
            have hnx' := hnx rfl
            simp -dsimp [g2, k2, g3, k3, g11, hlt, w1]
            exact hnx'
        · have e : i = t.kids.length := by omega
          subst e
          have hv : V = true := by rw [hV]; exact (zaq _ _ _).2 fun j hj => by rw [Nat.zero_add]; exact g j hj hj
          simp -dsimp [g2, k2, g3, k3, g11, hv]
    have hV := hdec k _ d3 k3 (by rw [Int.toNat_natCast]; exact hget) d5
    have d5' : ((spA t).length : Int) = p.b.sorts[k].idx.length + 1 := by omega
    have hDe := zCl p h0 (by omega) (by omega) (spA t).reverse (by simpa using dl0) (by rw [List.length_reverse]; omega) (zae n p) (fun x hx => by
      have hx' : x ∈ spA t := by simpa using hx
      exact ⟨oA x hx', fA x hx', by have := mA x hx'; omega⟩) (fun x ox fx hx => by
      refine hrec x ox fx ?_
      rcases hx with hx | ⟨z, hz, hx⟩
      · exact mA x (by simpa using hx)
      · have := mA z (by simpa using hz)
        have := (zkz z).1 x hx
        omega)
    rw [← hV] at hDe
    rw [k3] at hO2
    generalize hSk : p.b.sorts[k] = S at *
    refine za3 rfl fun hs => ?_
    simp only [cT] at hU
    simp only [eBl, cBl] at hO2
    simp only [rp, cBl, eTs, List.cons_append, List.nil_append] at hDe
    simp -dsimp [zay, rp, cBl, cT, c1, c3]
    refine zce hU (by simp [zaz, zbv, RV.cells]) ?_
    simp -dsimp [d3, dl0, dl1]
    refine zaa hO2 ?_
    simp -dsimp [k1, hget, hSk, eSos, eSo, cSo, cT, eArs, w3, d5']
    simp only [eSos, eArs, List.map_reverse] at hDe
    refine zaa hDe ?_
    simp -dsimp
end
end
section
section
attribute [local simp] zac zag tk tn tks zc4 zdf zch zci zcj zei
theorem zO4 {t : T} (ft : zaf t = true) (h : t.kind = 1) : t = .mk 1 t.num [] ∧ 0 ≤ t.num := by
  obtain ⟨k, m, ks⟩ := t
  have c1' : k = 1 := h
  subst c1'
  refine ⟨?_, (zf4 rfl ft).1⟩
  rw [zta rfl ft]; rfl
set_option maxHeartbeats 4000000 in
theorem zN0 (cons : Int) : ∀ (n : Nat), n ≤ 1000000 → ∀ (p : Pl) (t : T), Pok p → p.more + zai t ≤ 1000000000 → okT t → zaf t = true → zai t ≤ n →
    Pure Tryz.prog zbw [.agg (rp p), .agg (cT t), .int .i64 cons] [.bool (zcy n p t cons)] := by
  intro n
  induction n with
  | zero => intro _ p t _ _ _ _ h; have := zjs t; omega
  | succ n ih =>
    intro hN p t hp hm ot ft hn
    have h0 := hp.m0
    have hal := hp.al
    have hfs := hp.fit.s
    have hfc := hp.fit.c
    obtain ⟨oH, oA⟩ := (zkz t).2 ot
    have mA := (zkz t).1
    obtain ⟨fH, fA⟩ := zmv t ft
    have hO2 := zF9 p.b hp.fit p.base (spH t).num oH.num64
    have hsl := ztd t
    have hU := zlp t ot (by omega)
    have hm' : ∀ x ∈ (spA t).reverse, okT x ∧ zaf x = true ∧ zai x < zai t := fun x hx => ⟨oA x (by simpa using hx), fA x (by simpa using hx), mA x (by simpa using hx)⟩
    have hAl : (spA t).reverse.length ≤ 1000000 := by rw [List.length_reverse]; omega
    have hCl : ∀ (i : Nat) (hi : i < (spA t).reverse.length), Pure Tryz.prog zad [.agg (rp p), .agg (cT (spA t).reverse[i])] [.bool (zae n p (spA t).reverse[i])] := fun i hi => by
      obtain ⟨x1, x2, x3⟩ := hm' _ (List.getElem_mem hi)
      exact zmo n (by omega) p _ hp (by omega) x1 x2 (by omega)
    have hGl : ∀ (i : Nat) (hi : i < (spA t).reverse.length), Pure Tryz.prog zbw [.agg (rp p), .agg (cT (spA t).reverse[i]), .int .i64 cons] [.bool (zcy n p (spA t).reverse[i] cons)] := fun i hi => by
      obtain ⟨x1, x2, x3⟩ := hm' _ (List.getElem_mem hi)
      exact ih (by omega) p _ hp (by omega) x1 x2 (by omega)
    have hFl : ∀ (i : Nat) (hi : i < (spA t).reverse.length), zaf (spA t).reverse[i] = true := fun i hi => (hm' _ (List.getElem_mem hi)).2.1
    have hgk : za7 p (spH t) = true → (spH t).kind = 1 := fun h => (zp7 h).1
    have hgj : za7 p (spH t) = true → ∃ j : Nat, zd3 p (spH t) = j ∧ j < p.args.length := fun h => (zp7 h).2
    have hvar : (spH t).kind = 1 → spH t = .mk 1 (spH t).num [] ∧ 0 ≤ (spH t).num := fun h => zO4 fH h
    rw [zcy]
    have hV : zBn (zae n p) (fun x => zcy n p x cons) p t cons = if za7 p (spH t) then (match p.args[(zd3 p (spH t)).toNat]? with
      | some a => decide ((spA t).reverse.length = a.dom.length) && (spA t).reverse.all (zae n p)
      | none => false)
      else if (spH t).kind = 3 then if (ofM p.b p.base (spH t).num).1 = 5 then if (ofM p.b p.base (spH t).num).2 < cons then match p.b.cons[(ofM p.b p.base (spH t).num).2.toNat]? with
        | some c => if (spA t).reverse.length = c.args.length then allI (fun i a => match (spA t).reverse[i]? with | some x => fitA (zae n p) (fun x => zcy n p x cons) p a x | none => false) 0 c.args else false
        | none => false else false else false
      else false := rfl
    generalize zBn (zae n p) (fun x => zcy n p x cons) p t cons = V at hV ⊢
    simp only [cT] at hU
    clear oA mA fA hm' hsl
    have hof5 := zD6 (b := p.b) (base := p.base) (n := (spH t).num)
    have hofk := zEd (b := p.b) (base := p.base) (n := (spH t).num)
    generalize (spA t).reverse = A at *
    generalize spH t = H at *
    by_cases c1 : H.kind = 1
    · obtain ⟨hHe, hn0⟩ := hvar c1
      have hG := zm8 p H.num hn0 h0 (by omega) (by omega)
      obtain ⟨gn1, gn2⟩ := zBg p H.num
      rw [← hHe] at gn1 gn2
      by_cases hg : za7 p H = true
      case neg =>
        have hg' : za7 p H = false := by simpa using hg
        have hlt0 := gn1.2 hg'
        have hv : V = false := by rw [hV, if_neg hg, if_neg (by omega)]
        rw [hv]
        refine za0 rfl fun hs => ?_
        simp only [rp, cBl, List.cons_append, List.nil_append] at hG
        simp -dsimp [zar, rp, cBl, cT]
        refine zce hU (by simp [zaz, zbv, RV.cells]) ?_
        simp -dsimp [c1]
        refine zaa hG ?_
        simp -dsimp [c1, hlt0]
      obtain ⟨j, hj, hjl⟩ := hgj hg
      have hge : p.args[j]? = some p.args[j] := List.getElem?_eq_getElem hjl
      have hgv : grd p H.num = j := by rw [gn2 hg, hj]
      rw [hgv] at hG
      have hj0 : ¬ ((j : Int) < 0) := by omega
      rw [if_pos hg, hj, Int.toNat_natCast, hge] at hV
      simp only at hV
      clear gn1 gn2 hgv hof5 hofk
      generalize hR : p.args[j] = R at *
      by_cases hll : A.length = R.dom.length
      case neg =>
        have hll' : ¬ (A.length : Int) = R.dom.length := by omega
        have hv : V = false := by rw [hV]; simp [hll]
        rw [hv]
        refine za0 rfl fun hs => ?_
        simp only [rp, cBl, List.cons_append, List.nil_append] at hG
        simp -dsimp [zar, rp, cBl, cT]
        refine zce hU (by simp [zaz, zbv, RV.cells]) ?_
        simp -dsimp [c1]
        refine zaa hG ?_
        simp -dsimp [c1, hj0, eArs, hjl, hge, hR, eAr, cAr, cT, eTs, hll, hll']
      have hll' : (A.length : Int) = R.dom.length := by omega
      have hV2 : V = A.all (zae n p) := by rw [hV]; simp [hll]
      have hB2 : ∀ (j : Nat) (hj : j < A.length), zae n p A[j] = false → V = false := fun j hj hc => by
        rw [hV2, Bool.eq_false_iff]
        intro h2
        have := zqf.1 h2 j hj
        rw [hc] at this
        cases this
      refine za0 rfl fun hs => ?_
      simp only [rp, cBl, List.cons_append, List.nil_append] at hG
      simp -dsimp [zar, rp, cBl, cT]
      refine zce hU (by simp [zaz, zbv, RV.cells]) ?_
      simp -dsimp [c1]
      refine zaa hG ?_
      simp -dsimp [c1, hj0, eArs, hjl, hge, hR, eAr, cAr, cT, eTs, hll']
      refine zaj A.length (fun i st => (st.s 3 = .ptr 3 1 0 ∧ st.h 3 = ⟨1, .box [.d (eSos p.b.sorts), .d (eCos p.b.cons), .d (.int .i64 p.b.elim), .d (.int .i64 p.base), .d (.sl 1 ((vrs p).map (.int .i64))), .d (eArs p.args)] false⟩) ∧
        (st.s 8 = .rsl 17 1 ∧ st.h 17 = ⟨1, .row 3 (A.map eT) false⟩) ∧ st.s 10 = .d (.int .i64 i) ∧ ∀ (m : Nat) (hm : m < A.length), m < i → zae n p A[m] = true) ?_ ?_
      · simp -dsimp [eArs]
      · rintro i ⟨s, hq⟩ hi ⟨⟨g3, k3⟩, ⟨g8, k17⟩, g10, gz⟩
        dsimp only at g3 k3 g8 k17 g10
        rcases Nat.lt_or_ge i A.length with hlt | hge2
        · have w1 : IntKind.i64.wrap ((i : Int) + 1) = (i : Int) + 1 := zab (by omega) (by omega)
          have hC := hCl i hlt
          have hB2i := hB2 i hlt
          have hnx : zae n p A[i] = true → ∀ (m : Nat) (hm : m < A.length), m < i + 1 → zae n p A[m] = true := fun h m hm hmj => by
            rcases Nat.lt_or_ge m i with h' | h'
            · exact gz m hm h'
            · have : m = i := by omega
              subst this
              exact h
          generalize hY : A[i] = Y at *
          simp only [rp, cBl, cT, List.cons_append, List.nil_append] at hC
          simp -dsimp [g3, k3, g8, k17, g10, hlt, hY, cT]
          refine zaa hC ?_
          cases hc : zae n p Y with
          | false =>
            have hv := hB2i hc
            simp -dsimp [g3, k3, g8, k17, g10, hv]
          | true =>
            have hnx' := hnx hc
            simp -dsimp [g3, k3, g8, k17, g10, hlt, w1]
            exact hnx'
        · have ej : i = A.length := by omega
          subst ej
          have hv : V = true := by rw [hV2]; exact zqf.2 fun m hm => gz m hm hm
          simp -dsimp [g3, k3, g8, k17, g10, hv]
    have hgf : ¬ za7 p H = true := fun h => c1 (hgk h)
    rw [if_neg hgf] at hV
    by_cases c3 : H.kind = 3
    case neg =>
      have hv : V = false := by rw [hV, if_neg c3]
      rw [hv]
      refine za0 rfl fun hs => ?_
      simp -dsimp [zar, rp, cBl, cT]
      refine zce hU (by simp [zaz, zbv, RV.cells]) ?_
      simp -dsimp [c1, c3]
    rw [if_pos c3] at hV
    by_cases c5 : (ofM p.b p.base H.num).1 = 5
    case neg =>
      have hv : V = false := by rw [hV, if_neg c5]
      rw [hv]
      generalize ofM p.b p.base H.num = o at *
      refine za0 rfl fun hs => ?_
      simp only [eBl, cBl] at hO2
      simp -dsimp [zar, rp, cBl, cT]
      refine zce hU (by simp [zaz, zbv, RV.cells]) ?_
      simp -dsimp [c1, c3]
      refine zaa hO2 ?_
      simp -dsimp [c5]
    rw [if_pos c5] at hV
    obtain ⟨k, k1, _, k3⟩ := hof5 c5
    rw [k3] at hV hO2
    have hget : p.b.cons[k]? = some p.b.cons[k] := List.getElem?_eq_getElem k1
    have hcal := hp.ca _ (List.getElem_mem k1)
    simp only [Int.toNat_natCast, hget] at hV
    clear hofk hof5 c5 k3
    generalize hSk : p.b.cons[k] = S at *
    by_cases c6 : (k : Int) < cons
    case neg =>
      have hv : V = false := by rw [hV, if_neg c6]
      rw [hv]
      have c6' : cons ≤ (k : Int) := by omega
      refine za0 rfl fun hs => ?_
      simp only [eBl, cBl] at hO2
      simp -dsimp [zar, rp, cBl, cT]
      refine zce hU (by simp [zaz, zbv, RV.cells]) ?_
      simp -dsimp [c1, c3]
      refine zaa hO2 ?_
      simp -dsimp [c6']
    rw [if_pos c6] at hV
    have c6' : ¬ cons ≤ (k : Int) := by omega
    by_cases c7 : A.length = S.args.length
    case neg =>
      have hv : V = false := by rw [hV, if_neg c7]
      rw [hv]
      have c7' : ¬ (A.length : Int) = S.args.length := by omega
      refine za0 rfl fun hs => ?_
      simp only [eBl, cBl] at hO2
      simp -dsimp [zar, rp, cBl, cT]
      refine zce hU (by simp [zaz, zbv, RV.cells]) ?_
      simp -dsimp [c1, c3]
      refine zaa hO2 ?_
      simp -dsimp [c6, c6', k1, hget, hSk, eCos, eCo, cCo, cT, eArs, c7, c7']
    rw [if_pos c7] at hV
    have c7' : (A.length : Int) = S.args.length := by omega
    have hfit : ∀ (i : Nat) (hi : i < S.args.length), (match A[i]? with | some x => fitA (zae n p) (fun x => zcy n p x cons) p S.args[i] x | none => false) = fitA (zae n p) (fun x => zcy n p x cons) p S.args[i] (A[i]'(by omega)) := fun i hi => by rw [List.getElem?_eq_getElem (by omega : i < A.length)]
    have hVt : (∀ (i : Nat) (hi : i < S.args.length), fitA (zae n p) (fun x => zcy n p x cons) p S.args[i] (A[i]'(by omega)) = true) → V = true := fun h => by
      rw [hV]
      exact (zaq _ _ _).2 fun j hj => by simp only [Nat.zero_add]; rw [hfit j hj]; exact h j hj
    have hVf : ∀ (i : Nat) (hi : i < S.args.length), fitA (zae n p) (fun x => zcy n p x cons) p S.args[i] (A[i]'(by omega)) = false → V = false := fun i hi h => by
      rw [hV, Bool.eq_false_iff]
      intro h2
      have := (zaq _ _ _).1 h2 i hi
      simp only [Nat.zero_add] at this
      rw [hfit i hi, h] at this
      cases this
    refine za0 rfl fun hs => ?_
    simp only [eBl, cBl] at hO2
    simp -dsimp [zar, rp, cBl, cT]
    refine zce hU (by simp [zaz, zbv, RV.cells]) ?_
    simp -dsimp [c1, c3]
    refine zaa hO2 ?_
    simp -dsimp [c6, c6', k1, hget, hSk, eCos, eCo, cCo, cT, eArs, c7']
    refine zaj A.length (fun i st => (st.s 2 = .d (.int .i64 cons) ∧ st.s 12 = .d (.int .i64 k)) ∧ (st.s 3 = .ptr 3 1 0 ∧ st.h 3 = ⟨1, .box [.d (eSos p.b.sorts), .d (eCos p.b.cons), .d (.int .i64 p.b.elim), .d (.int .i64 p.base), .d (.sl 1 ((vrs p).map (.int .i64))), .d (eArs p.args)] false⟩) ∧
      (st.s 8 = .rsl 17 1 ∧ st.h 17 = ⟨1, .row 3 (A.map eT) false⟩) ∧ st.s 13 = .d (.int .i64 i) ∧ ∀ (j : Nat) (hj : j < S.args.length), j < i → fitA (zae n p) (fun x => zcy n p x cons) p S.args[j] (A[j]'(by omega)) = true) ?_ ?_
    · simp -dsimp [eCos, eArs]
    · rintro i ⟨s, hq⟩ hi ⟨⟨g2, g12⟩, ⟨g3, k3⟩, ⟨g8, k17⟩, g13, g⟩
      dsimp only at g2 g12 g3 k3 g8 k17 g13
      simp only [eCos] at k3
      rcases Nat.lt_or_ge i A.length with hlt | hge2
      · have w1 : IntKind.i64.wrap ((i : Int) + 1) = (i : Int) + 1 := zab (by omega) (by omega)
        have hltS : i < S.args.length := by omega
        have hcv := hVf i hltS
        have hfi : ∀ h : fitA (zae n p) (fun x => zcy n p x cons) p S.args[i] A[i] = true, ∀ (j : Nat) (hj : j < S.args.length), j < i + 1 → fitA (zae n p) (fun x => zcy n p x cons) p S.args[j] (A[j]'(by omega)) = true := fun h j hj hji => by
          rcases Nat.lt_or_ge j i with h' | h'
          · exact g j hj h'
          · have : j = i := by omega
            subst this
            exact h
        have hCx := hCl i hlt
        have hDx := hGl i hlt
        have hFx := hFl i hlt
        generalize hX : A[i] = X at *
        generalize hAr : S.args[i] = R at *
        simp only [rp, cBl, cT, eCos, List.cons_append, List.nil_append] at hCx hDx
        simp -dsimp [g2, g12, g3, k3, g8, k17, g13, hlt, k1, hget, hSk, hltS, hAr, hX, eCo, cCo, eAr, cAr, cT, eArs]
        cases hr : R.rc with
        | false =>
          simp -dsimp [g2, g12, g3, k3, g8, k17, g13, hlt, hltS, hAr, hX, eAr, cAr, cT, hr]
          simp only [eArs] at hCx
          refine zaa hCx ?_
          cases hc : zae n p X with
          | false =>
            have hw := hcv (by simp [fitA, hr, hc])
            simp -dsimp [g2, g12, g3, k3, g8, k17, g13, hlt, hltS, hAr, hX, eAr, cAr, cT, hr, hw]
          | true =>
            have hnx := hfi (by simp [fitA, hr, hc])
            simp -dsimp [g2, g12, g3, k3, g8, k17, g13, hlt, hltS, hAr, hX, eAr, cAr, cT, hr, w1, eCos, eArs]
            exact hnx
        | true =>
          by_cases hd : R.dom.length = 0
          · have hdn : R.dom = [] := List.length_eq_zero_iff.1 hd
            simp -dsimp [g2, g12, g3, k3, g8, k17, g13, hlt, hltS, hAr, hX, eAr, cAr, cT, hr, hdn, eTs]
            simp only [eArs] at hDx
            refine zaa hDx ?_
            cases hc : zcy n p X cons with
            | false =>
              have hw := hcv (by simp [fitA, hr, hd, hc])
              simp -dsimp [g2, g12, g3, k3, g8, k17, g13, hlt, hltS, hAr, hX, eAr, cAr, cT, hr, hdn, eTs, hw]
            | true =>
              have hnx := hfi (by simp [fitA, hr, hd, hc])
              simp -dsimp [g2, g12, g3, k3, g8, k17, g13, hlt, hltS, hAr, hX, eAr, cAr, cT, hr, hdn, eTs, w1, eCos, eArs]
              exact hnx
          · have hd' : ¬ (R.dom.length : Int) = 0 := by omega
            have hd2 : (0 : Int) < R.dom.length := by omega
            have hdn : ¬ R.dom = [] := fun h => hd (by rw [h]; rfl)
            have hd3 : 0 < R.dom.length := by omega
            by_cases hk1 : X.kind = 1
            case neg =>
              have hgX : za7 p X = false := by rw [Bool.eq_false_iff]; intro h; exact hk1 (zp7 h).1
              have hw := hcv (by simp [fitA, hr, hdn, hgX])
              simp -dsimp [g2, g12, g3, k3, g8, k17, g13, hlt, hltS, hAr, hX, eAr, cAr, cT, hr, hdn, hd', hd2, hd3, hk1, eTs, hw]
            obtain ⟨hXe, hXn⟩ := zO4 hFx hk1
            have hGX := zm8 p X.num hXn h0 (by omega) (by omega)
            obtain ⟨gn1, _⟩ := zBg p X.num
            rw [← hXe] at gn1
            simp only [rp, cBl, eCos, eArs, List.cons_append, List.nil_append] at hGX
            simp -dsimp [g2, g12, g3, k3, g8, k17, g13, hlt, hltS, hAr, hX, eAr, cAr, cT, hr, hdn, hd', hd2, hd3, hk1, eTs, eArs]
            refine zaa hGX ?_
            cases hc : za7 p X with
            | false =>
              have hneg : ¬ 0 ≤ grd p X.num := by have := gn1.2 hc; omega
              have hw := hcv (by simp [fitA, hr, hdn, hc])
              simp -dsimp [g2, g12, g3, k3, g8, k17, g13, hlt, hltS, hAr, hX, hr, hdn, hd', hd2, hd3, hneg, hw]
            | true =>
              have hnn : 0 ≤ grd p X.num := by
                by_cases h : 0 ≤ grd p X.num
                · exact h
                · rw [gn1.1 (by omega)] at hc; cases hc
              have hnx := hfi (by simp [fitA, hr, hdn, hc])
              simp -dsimp [g2, g12, g3, k3, g8, k17, g13, hlt, hltS, hAr, hX, hr, hdn, hd', hd2, hd3, hnn, w1, eCos, eArs]
              exact hnx
      · have ej : i = A.length := by omega
        subst ej
        have hv := hVt fun j hj => g j hj (by omega)
        simp -dsimp [g2, g12, g3, k3, g8, k17, g13, hv]
end
end
section
section
attribute [local simp] zac zag tk tn tks zc4 zdf zch zci zcj zei
set_option maxHeartbeats 2000000 in
theorem zx2 (n : Nat) (hN : n ≤ 1000000) (p : Pl) (hp : Pok p) (hm : p.more ≤ 1000000) (k : Int) (so : So) (hk0 : 0 ≤ k) (hk : p.b.sorts[k.toNat]? = some so) (l : List T) (cons : Int) (hll : l.length = so.idx.length)
    (ol : ∀ x ∈ l, okT x ∧ zaf x = true ∧ zai x ≤ n) : Pure Tryz.prog zb1 [.agg (rp p), .int .i64 k, eTs l, .int .i64 cons] [.bool (indF n p so l cons)] := by
  have hsm := hp.si so (List.mem_of_getElem? hk)
  have hklt := (List.getElem?_eq_some_iff.1 hk).1
  have hke := (List.getElem?_eq_some_iff.1 hk).2
  generalize hV : indF n p so l cons = V
  have hVt : (∀ (i : Nat) (hi : i < so.idx.length), (if so.idx[i].rc then zcy n p (l[i]'(by omega)) cons else zae n p (l[i]'(by omega))) = true) → V = true := fun h => by
    rw [← hV]
    exact (zaq _ _ _).2 fun j hj => by simp only [Nat.zero_add]; rw [List.getElem?_eq_getElem (by omega : j < l.length)]; exact h j hj
  have hVf : ∀ (i : Nat) (hi : i < so.idx.length), (if so.idx[i].rc then zcy n p (l[i]'(by omega)) cons else zae n p (l[i]'(by omega))) = false → V = false := fun i hi h => by
    rw [← hV, Bool.eq_false_iff]
    intro h2
    have := (zaq _ _ _).1 h2 i hi
    simp only [Nat.zero_add] at this
    rw [List.getElem?_eq_getElem (by omega : i < l.length)] at this
    simp only at this
    rw [h] at this
    cases this
  refine zk3 rfl fun hs => ?_
  simp -dsimp [zc9, rp, cBl, eTs]
  refine zaj so.idx.length (fun i st => (st.s 1 = .d (.int .i64 k) ∧ st.s 2 = .d (eTs l) ∧ st.s 3 = .d (.int .i64 cons)) ∧ (st.s 4 = .ptr 4 1 0 ∧ st.h 4 = ⟨1, .box [.d (eSos p.b.sorts), .d (eCos p.b.cons), .d (.int .i64 p.b.elim), .d (.int .i64 p.base), .d (.sl 1 ((vrs p).map (.int .i64))), .d (eArs p.args)] false⟩) ∧ st.s 9 = .d (.int .i64 i) ∧
    ∀ (j : Nat) (hj : j < so.idx.length), j < i → (if so.idx[j].rc then zcy n p (l[j]'(by omega)) cons else zae n p (l[j]'(by omega))) = true) ?_ ?_
  · simp -dsimp [eTs]
  · rintro i ⟨s, hq⟩ hi ⟨⟨g1, g2, g3⟩, ⟨g4, k4⟩, g9, g⟩
    dsimp only at g1 g2 g3 g4 k4 g9
    simp only [eTs, eSos] at g2 k4
    rcases Nat.lt_or_ge i so.idx.length with hlt | hge
    · have w1 : IntKind.i64.wrap ((i : Int) + 1) = (i : Int) + 1 := zab (by omega) (by omega)
      have hiA : i < l.length := by omega
      obtain ⟨x1, x2, x3⟩ := ol _ (List.getElem_mem hiA)
      have hcv := hVf i hlt
      have hfi : ∀ h : (if so.idx[i].rc then zcy n p l[i] cons else zae n p l[i]) = true, ∀ (j : Nat) (hj : j < so.idx.length), j < i + 1 → (if so.idx[j].rc then zcy n p (l[j]'(by omega)) cons else zae n p (l[j]'(by omega))) = true := fun h j hj hji => by
        rcases Nat.lt_or_ge j i with h' | h'
        · exact g j hj h'
        · have : j = i := by omega
          subst this
          exact h
      have hCx := zmo n hN p l[i] hp (by omega) x1 x2 x3
      have hDx := zN0 cons n hN p l[i] hp (by omega) x1 x2 x3
      generalize hX : l[i] = X at *
      generalize hAr : so.idx[i] = R at *
      simp only [rp, cBl, cT, eSos, List.cons_append, List.nil_append] at hCx hDx
      simp -dsimp [g1, g2, g3, g4, k4, g9, hlt, hiA, hX, hk0, hklt, hk, hke, hAr, eSo, cSo, eArs, eAr, cAr, cT]
      cases hr : R.rc with
      | false =>
        rw [hr] at hcv hfi
        simp only [Bool.false_eq_true, if_false] at hcv hfi
        simp -dsimp [g1, g2, g3, g4, k4, g9, hlt, hiA, hX, hk0, hklt, hk, hke, hAr, eSo, cSo, eArs, eAr, cAr, cT, hr]
        simp only [eArs] at hCx
        refine zaa hCx ?_
        cases hc : zae n p X with
        | false =>
          have hv := hcv hc
          simp -dsimp [g1, g2, g3, g4, k4, g9, hlt, hiA, hX, hr, hv]
        | true =>
          have hnx := hfi hc
          simp -dsimp [g1, g2, g3, g4, k4, g9, hlt, hiA, hX, hr, w1, eTs, eSos, eArs]
          simpa using hnx
      | true =>
        rw [hr] at hcv hfi
        simp only [if_true] at hcv hfi
        simp -dsimp [g1, g2, g3, g4, k4, g9, hlt, hiA, hX, hk0, hklt, hk, hke, hAr, eSo, cSo, eArs, eAr, cAr, cT, hr]
        simp only [eArs] at hDx
        refine zaa hDx ?_
        cases hc : zcy n p X cons with
        | false =>
          have hv := hcv hc
          simp -dsimp [g1, g2, g3, g4, k4, g9, hlt, hiA, hX, hk0, hklt, hk, hke, hAr, eSo, cSo, eArs, eAr, cAr, cT, hr, hv]
        | true =>
          have hnx := hfi hc
          simp -dsimp [g1, g2, g3, g4, k4, g9, hlt, hiA, hX, hk0, hklt, hk, hke, hAr, eSo, cSo, eArs, eAr, cAr, cT, hr, w1, eTs, eSos]
          simpa using hnx
    · have e : i = so.idx.length := by omega
      subst e
      have hz := hVt fun j hj => g j hj hj
      have hli : ¬ so.idx.length < l.length := by omega
      simp -dsimp [g1, g2, g3, g4, k4, g9, hz, hll]
structure Rok (b : Bl) (n : Nat) (l : List Ar) : Prop where
  al : l.length ≤ 20
  fit : Fit b
  si : ∀ s ∈ b.sorts, s.idx.length ≤ 20
  ca : ∀ c ∈ b.cons, c.args.length ≤ 20
  ty : ∀ a ∈ l, a.rc = false → okT a.ty ∧ zaf a.ty = true ∧ zai a.ty ≤ n
  rc : ∀ a ∈ l, a.rc = true → a.dom.length ≤ 60 ∧ (∀ x ∈ a.dom, okT x ∧ zaf x = true ∧ zai x ≤ n) ∧ (∀ x ∈ a.idx, okT x ∧ zaf x = true ∧ zai x ≤ n) ∧ 0 ≤ a.sort ∧ ∃ so, b.sorts[a.sort.toNat]? = some so ∧ a.idx.length = so.idx.length
set_option maxHeartbeats 4000000 in
theorem zFx (n : Nat) (hN : n ≤ 1000000) (b : Bl) (base : Int) (l : List Ar) (cons : Int) (H : Rok b n l) : Pure Tryz.prog zcx [eBl b, .int .i64 base, eArs l, .int .i64 cons] [.bool (rowF n b base l cons)] := by
  have hal := H.al
  have hpl : ∀ (i : Nat) (m : Int), 0 ≤ m → Pok ⟨b, base, l.take i, m⟩ := fun i m h => ⟨h, by simp only [List.length_take]; omega, H.fit, H.si, H.ca⟩
  generalize hV : rowF n b base l cons = V
  have hVt : (∀ (i : Nat) (hi : i < l.length), argF n b base l cons i l[i] = true) → V = true := fun h => by
    rw [← hV]
    exact (zaq _ _ _).2 fun j hj => by simp only [Nat.zero_add]; exact h j hj
  have hVf : ∀ (i : Nat) (hi : i < l.length), argF n b base l cons i l[i] = false → V = false := fun i hi h => by
    rw [← hV, Bool.eq_false_iff]
    intro h2
    have := (zaq _ _ _).1 h2 i hi
    simp only [Nat.zero_add] at this
    rw [h] at this
    cases this
  refine znh rfl fun hs => ?_
  simp -dsimp [zeo, eBl, cBl, eArs]
  refine zaj l.length (fun i st => (st.s 1 = .d (.int .i64 base) ∧ st.s 2 = .d (eArs l) ∧ st.s 3 = .d (.int .i64 cons)) ∧ (st.s 4 = .ptr 4 1 0 ∧ st.h 4 = ⟨1, .box [.d (eSos b.sorts), .d (eCos b.cons), .d (.int .i64 b.elim)] false⟩) ∧ st.s 9 = .d (.int .i64 i) ∧
    ∀ (j : Nat) (hj : j < l.length), j < i → argF n b base l cons j l[j] = true) ?_ ?_
  · simp -dsimp [eArs]
  · rintro i ⟨s, hp⟩ hi ⟨⟨g1, g2, g3⟩, ⟨g4, k4⟩, g9, g⟩
    dsimp only at g1 g2 g3 g4 k4 g9
    simp only [eArs] at g2
    rcases Nat.lt_or_ge i l.length with hlt | hge
    · have w1 : IntKind.i64.wrap ((i : Int) + 1) = (i : Int) + 1 := zab (by omega) (by omega)
      have hile : i ≤ l.length := hi
      have hcv := hVf i hlt
      have hmem := List.getElem_mem hlt
      have h1 := H.ty _ hmem
      have h2 := H.rc _ hmem
      have hfi : ∀ h : argF n b base l cons i l[i] = true, ∀ (j : Nat) (hj : j < l.length), j < i + 1 → argF n b base l cons j l[j] = true := fun h j hj hji => by
        rcases Nat.lt_or_ge j i with h' | h'
        · exact g j hj h'
        · have : j = i := by omega
          subst this
          exact h
      have hAt := zIs b base (l.take i) (by rw [List.length_take]; omega)
      generalize hAr : l[i] = R at *
      have hrp : ∀ m : Int, rp ⟨b, base, l.take i, m⟩ = [eSos b.sorts, eCos b.cons, .int .i64 b.elim, .int .i64 base, .sl 1 ((vrs ⟨b, base, l.take i, m⟩).map (.int .i64)), .sl 7 ((l.map eAr).take i)] := fun m => by
        simp only [rp, cBl, eArs, List.map_take, List.cons_append, List.nil_append]
      rw [hrp] at hAt
      simp only [eBl, cBl, eArs, List.map_take] at hAt
      simp -dsimp [g1, g2, g3, g4, k4, g9, hlt, hile, hAr, eAr, cAr, cT]
      refine zaa hAt ?_
      cases hr : R.rc with
      | false =>
        obtain ⟨o1, o2, o3⟩ := h1 hr
        have hC := zmo n hN ⟨b, base, l.take i, 0⟩ R.ty (hpl i 0 (by omega)) (by simp; omega) o1 o2 o3
        rw [hrp] at hC
        have hAF : argF n b base l cons i R = zae n ⟨b, base, l.take i, 0⟩ R.ty := by rw [argF, hr, if_neg (by simp)]
        rw [hAF] at hcv hfi
        simp only [cT] at hC
        simp -dsimp [g1, g2, g3, g4, k4, g9, hlt, hile, hAr, eAr, cAr, cT, hr]
        refine zaa hC ?_
        cases hc : zae n ⟨b, base, l.take i, 0⟩ R.ty with
        | false =>
          have hv := hcv hc
          simp -dsimp [g1, g2, g3, g4, k4, g9, hlt, hile, hAr, eAr, cAr, cT, hr, hv]
        | true =>
          have hnx := hfi hc
          simp -dsimp [g1, g2, g3, g4, k4, g9, hlt, hile, hAr, eAr, cAr, cT, hr, w1, eArs]
          simpa using hnx
      | true =>
        obtain ⟨r1, r2, r3, r4, so, hso, r5⟩ := h2 hr
        have hAF : argF n b base l cons i R = ((allI (fun j d => zae n ⟨b, base, l.take i, (j : Int)⟩ d) 0 R.dom) && indF n ⟨b, base, l.take i, (R.dom.length : Int)⟩ so R.idx cons) := by rw [argF, hr, if_pos rfl, hso]
        rw [hAF] at hcv hfi
        have hMo : ∀ m : Nat, m ≤ 1000000 → Pure Tryz.prog za9 [.agg (rp ⟨b, base, l.take i, 0⟩), .int .i64 m] [.agg (rp ⟨b, base, l.take i, (m : Int)⟩)] := fun m hm => by
          have := zGu ⟨b, base, l.take i, 0⟩ m hm (by simp) (by simp) (by simp only [List.length_take]; omega)
          rw [Pl.fwd] at this
          simpa using this
        simp only [hrp] at hMo
        simp -dsimp [g1, g2, g3, g4, k4, g9, hlt, hile, hAr, eAr, cAr, cT, hr]
        refine zaj R.dom.length (fun j st => (st.s 1 = .d (.int .i64 base) ∧ st.s 2 = .d (eArs l) ∧ st.s 3 = .d (.int .i64 cons)) ∧ (st.s 4 = .ptr 4 1 0 ∧ st.h 4 = ⟨1, .box [.d (eSos b.sorts), .d (eCos b.cons), .d (.int .i64 b.elim)] false⟩) ∧ st.s 9 = .d (.int .i64 i) ∧
          (st.s 10 = .ptr 10 ((hp 10).ver + 1) 0 ∧ st.h 10 = ⟨(hp 10).ver + 1, .box [.d (eSos b.sorts), .d (eCos b.cons), .d (.int .i64 b.elim), .d (.int .i64 base), .d (.sl 1 ((vrs ⟨b, base, l.take i, 0⟩).map (.int .i64))), .d (.sl 7 ((l.map eAr).take i))] false⟩) ∧ st.s 11 = .d (.int .i64 j) ∧
          ∀ (q : Nat) (hq : q < R.dom.length), q < j → zae n ⟨b, base, l.take i, (q : Int)⟩ R.dom[q] = true) ?_ ?_
        · simp -dsimp [g1, g2, g3, g4, k4, g9, hlt, hile, hAr, eAr, cAr, cT, hr, eArs]
        · clear g1 g2 g3 g4 k4 g9
          rintro j ⟨s, hq⟩ hj ⟨⟨g1, g2, g3⟩, ⟨g4, k4⟩, g9, ⟨g10, k10⟩, g11, gd⟩
          dsimp only at g1 g2 g3 g4 k4 g9 g10 k10 g11
          simp only [eArs] at g2
          rcases Nat.lt_or_ge j R.dom.length with hlt2 | hge2
          · have w2 : IntKind.i64.wrap ((j : Int) + 1) = (j : Int) + 1 := zab (by omega) (by omega)
            obtain ⟨d1, d2, d3⟩ := r2 _ (List.getElem_mem hlt2)
            have hP := hMo j (by omega)
            have hC := zmo n hN ⟨b, base, l.take i, (j : Int)⟩ R.dom[j] (hpl i j (by omega)) (by simp; omega) d1 d2 d3
            rw [hrp] at hC
            generalize hX : R.dom[j] = X at *
            simp only [cT] at hC
            simp -dsimp [g1, g2, g3, g4, k4, g9, g10, k10, g11, hlt, hAr, hr, eAr, cAr, hlt2, hX, cT, eTs]
            refine zaa hP ?_
            simp -dsimp [g1, g2, g3, g4, k4, g9, g10, k10, g11, hlt, hAr, hr, eAr, cAr, hlt2, hX, cT, eTs]
            refine zaa hC ?_
            cases hc : zae n ⟨b, base, l.take i, (j : Int)⟩ X with
            | false =>
              have hz : allI (fun j d => zae n ⟨b, base, l.take i, (j : Int)⟩ d) 0 R.dom = false := by
                rw [Bool.eq_false_iff]
                intro h
                have := (zaq _ _ _).1 h j hlt2
                rw [Nat.zero_add, hX, hc] at this
                cases this
              have hv := hcv (by rw [hz]; rfl)
              simp -dsimp [g1, g2, g3, g4, k4, g9, g10, k10, g11, hv]
            | true =>
              simp -dsimp [g1, g2, g3, g4, k4, g9, g10, k10, g11, hlt2, w2, eArs]
              intro q hq' hqj
              rcases Nat.lt_or_ge q j with h' | h'
              · exact gd q hq' h'
              · have : q = j := by omega
                subst this
                rw [hX]; exact hc
          · have ej : j = R.dom.length := by omega
            subst ej
            have hz : allI (fun j d => zae n ⟨b, base, l.take i, (j : Int)⟩ d) 0 R.dom = true := (zaq _ _ _).2 fun q hq' => by rw [Nat.zero_add]; exact gd q hq' hq'
            rw [hz, Bool.true_and] at hcv hfi
            have hP := hMo R.dom.length (by omega)
            have hI := zx2 n hN ⟨b, base, l.take i, (R.dom.length : Int)⟩ (hpl i _ (by omega)) (by simp; omega) R.sort so r4 hso R.idx cons r5 r3
            rw [hrp] at hI
            simp only [eTs] at hI
            simp -dsimp [g1, g2, g3, g4, k4, g9, g10, k10, g11, hlt, hAr, hr, eAr, cAr, cT, eTs]
            refine zaa hP ?_
            simp -dsimp [g1, g2, g3, g4, k4, g9, g10, k10, g11, hlt, hAr, hr, eAr, cAr, cT, eTs]
            refine zaa hI ?_
            cases hc : indF n ⟨b, base, l.take i, (R.dom.length : Int)⟩ so R.idx cons with
            | false =>
              have hv := hcv hc
              simp -dsimp [g1, g2, g3, g4, k4, g9, g10, k10, g11, hv]
            | true =>
              have hnx := hfi hc
              simp -dsimp [g1, g2, g3, g4, k4, g9, g10, k10, g11, w1, eArs]
              exact ⟨hlt, hnx⟩
    · have e : i = l.length := by omega
      subst e
      have hz := hVt fun j hj => g j hj hj
      simp -dsimp [g1, g2, g3, g4, k4, g9, hz]
end
end
section
section
attribute [local simp] zac zag tk tn tks zc4 zdf zch zci zcj zei
theorem zO0 {b : Bl} (hf : Fit b) (fb : FineBl b) {l : List Ar} (ol : zyy l) (fl : zpc l) (hr : rowM b l = true) {n : Nat} (hn : 9000 ≤ n) : Rok b n l := by
  obtain ⟨hl, hA⟩ := zEh hr
  refine ⟨fl.1, hf, fun s hs => (fb.sorts s hs).idx.1, fun c hc => (fb.cons c hc).args.1, fun a ha hrc => ?_, fun a ha hrc => ?_⟩
  · obtain ⟨i, hi, rfl⟩ := List.mem_iff_getElem.1 ha
    have h1 := (fl.2 _ ha).ty
    exact ⟨(ol.2 _ ha).ty, (zd5 (zy8 (hA i hi) hrc) (by omega) (by omega) (by omega)).2.1, by omega⟩
  · obtain ⟨i, hi, rfl⟩ := List.mem_iff_getElem.1 ha
    have fa := fl.2 _ ha
    have oa := ol.2 _ ha
    obtain ⟨_, s0, s1, d1, ⟨so, hso, hil⟩, hd, hx⟩ := zwq (hA i hi) hrc (by omega) (by omega)
    refine ⟨fa.domL, fun x hxm => ?_, fun x hxm => ?_, s0, so, hso, hil⟩
    · obtain ⟨j, hj, rfl⟩ := List.mem_iff_getElem.1 hxm
      have hnx : zai l[i].dom[j] ≤ 9000 := Nat.le_trans (ze6 (List.mem_map.2 ⟨_, hxm, rfl⟩)) fa.dom
      exact ⟨oa.dom.2 _ hxm, (zd5 (hd j hj) (by omega) (by omega) (by omega)).2.1, by omega⟩
    · have hnx : zai x ≤ 9000 := Nat.le_trans (ze6 (List.mem_map.2 ⟨_, hxm, rfl⟩)) fa.idx
      exact ⟨oa.idx.2 _ hxm, (zd5 (hx x hxm) (by omega) (by omega) (by omega)).2.1, by omega⟩
theorem zIm {b : Bl} {c : Co} {so : So} (h : conM b c = true) (hso : b.sorts[c.sort.toNat]? = some so) : (∀ x ∈ c.idx, inM x c.args.length = true) ∧ zfl so.dec c.dec c.args.length = true := by
  rw [conM] at h
  split at h
  · cases h
  split at h
  case isFalse => cases h
  rw [hso] at h
  simp only at h
  split at h
  case isFalse => cases h
  split at h
  case isFalse => cases h
  rename_i hA
  refine ⟨fun x hx => ?_, h⟩
  rw [allM, Bool.not_eq_true', List.any_eq_false] at hA
  have := hA x hx
  simpa using this
set_option maxHeartbeats 4000000 in
theorem zLd (n : Nat) (hn : 9000 ≤ n) (hN : n ≤ 1000000) (b : Bl) (ob : okBl b) (fb : FineBl b) (hf : Fit b) (base : Int) : Pure Tryz.prog zha [eBl b, .int .i64 base] [.int .i64 (zef n b base)] := by
  have hSh := zLa b
  have hIn := zlo base 0 65535
  have hbs := fb.s
  have hbc := fb.c
  generalize hE : zef n b base = E
  simp only [eBl, cBl] at hSh
  by_cases hz : zfq b = 0
  case neg =>
    have hs' : zmq b = false := by rw [zmq, decide_eq_false_iff_not]; exact hz
    have hE' : E = 12 := by
      rw [← hE, zef, if_neg hz]
      rw [zG3, hs']; rfl
    rw [hE']
    refine zg1 rfl fun hs => ?_
    simp -dsimp [zdb, eBl, cBl]
    refine zaa hSh ?_
    simp -dsimp [hs']
  have hs' : zmq b = true := by rw [zmq, decide_eq_true_eq]; exact hz
  rw [zef, if_pos hz] at hE
  obtain ⟨z1, z4, z8, zl, zs, zc⟩ := (zbn b).1 hz
  by_cases hb : inB base 0 65535 = true
  case neg =>
    have hb' : inB base 0 65535 = false := by simpa using hb
    have := (zh1 _ _ _).1 hb'
    rw [if_pos (by omega)] at hE
    rw [← hE]
    refine zg1 rfl fun hs => ?_
    simp -dsimp [zdb, eBl, cBl]
    refine zaa hSh ?_
    simp -dsimp [hs']
    refine zaa hIn ?_
    simp -dsimp [hb']
  obtain ⟨b0, b1⟩ := (zf0 _ _ _).1 hb
  rw [if_neg (by omega)] at hE
  have hbad : posF n b base = false → E = 11 := fun h => by rw [← hE, h]; rfl
  have hgood : posF n b base = true → E = 0 := fun h => by rw [← hE, h]; rfl
  have hbs1 : ∀ (i : Nat) (hi : i < b.sorts.length), zmc n b base b.sorts[i] = false → E = 11 := fun i hi h => hbad (by
    rw [posF, Bool.and_eq_false_iff]
    refine .inl (Bool.eq_false_iff.2 fun h2 => ?_)
    have := (zaq _ _ _).1 h2 i hi
    rw [h] at this
    cases this)
  have hbc1 : ∀ (i : Nat) (hi : i < b.cons.length), conF n b base i b.cons[i] = false → E = 11 := fun i hi h => hbad (by
    rw [posF, Bool.and_eq_false_iff]
    refine .inr (Bool.eq_false_iff.2 fun h2 => ?_)
    have := (zaq _ _ _).1 h2 i hi
    rw [Nat.zero_add, h] at this
    cases this)
  have hrp : ∀ (l : List Ar), rp ⟨b, base, l, 0⟩ = [eSos b.sorts, eCos b.cons, .int .i64 b.elim, .int .i64 base, .sl 1 ((vrs ⟨b, base, l, 0⟩).map (.int .i64)), .sl 7 (l.map eAr)] := fun l => by
    simp only [rp, cBl, eArs, List.cons_append, List.nil_append]
  have hpk : ∀ (l : List Ar), l.length ≤ 20 → Pok ⟨b, base, l, 0⟩ := fun l h => ⟨by simp, by simp only; omega, hf, fun s hs => (fb.sorts s hs).idx.1, fun c hc => (fb.cons c hc).args.1⟩
  refine zg1 rfl fun hs => ?_
  simp -dsimp [zdb, eBl, cBl]
  refine zaa hSh ?_
  simp -dsimp [hs']
  refine zaa hIn ?_
  simp -dsimp [hb]
  refine zaj b.sorts.length (fun i st => st.s 1 = .d (.int .i64 base) ∧ (st.s 2 = .ptr 2 1 0 ∧ st.h 2 = ⟨1, .box [.d (eSos b.sorts), .d (eCos b.cons), .d (.int .i64 b.elim)] false⟩) ∧ st.s 5 = .d (.int .i64 i) ∧ ∀ (j : Nat) (hj : j < b.sorts.length), j < i → zmc n b base b.sorts[j] = true) ?_ ?_
  · simp -dsimp
  · rintro i ⟨s, hp⟩ hi ⟨g1, ⟨g2, k2⟩, g5, g⟩
    dsimp only at g1 g2 k2 g5
    simp only [eSos] at k2
    rcases Nat.lt_or_ge i b.sorts.length with hlt | hge
    · have w1 : IntKind.i64.wrap ((i : Int) + 1) = (i : Int) + 1 := zab (by omega) (by omega)
      have hcv := hbs1 i hlt
      have hmem := List.getElem_mem hlt
      have os := ob.sorts _ hmem
      have fs := fb.sorts _ hmem
      have hsm := zs i hlt
      have hrow := zth hsm
      obtain ⟨_, _, hmb, _⟩ := (zd9 _ _ _).1 hsm
      have hfi : zmc n b base b.sorts[i] = true → ∀ (j : Nat) (hj : j < b.sorts.length), j < i + 1 → zmc n b base b.sorts[j] = true := fun h j hj hji => by
        rcases Nat.lt_or_ge j i with h' | h'
        · exact g j hj h'
        · have : j = i := by omega
          subst this
          exact h
      generalize hS : b.sorts[i] = S at *
      have hR := zFx n hN b base S.idx 0 (zO0 hf fb os.idx fs.idx hrow hn)
      have hAt := zIs b base S.idx (by have := fs.idx.1; omega)
      rw [hrp] at hAt
      simp only [eBl, cBl, eSos, eArs] at hR hAt
      simp -dsimp [g1, g2, k2, g5, hlt, hS, eSo, cSo, cT, eArs]
      refine zaa hR ?_
      cases hr : rowF n b base S.idx 0 with
      | false =>
        have hw := hcv (by rw [zmc, hr]; rfl)
        simp -dsimp [g1, g2, k2, g5, hlt, hS, hw]
      | true =>
        cases hd : S.dec with
        | false =>
          have hnx := hfi (by rw [zmc, hr, hd]; rfl)
          simp -dsimp [g1, g2, k2, g5, hlt, hS, eSo, cSo, cT, hd, w1, eSos]
          exact hnx
        | true =>
          rw [hd] at hmb
          have hin : inM S.dty S.idx.length = true := by rw [zfl, if_pos rfl] at hmb; exact hmb
          have hsil := fs.idx.1
          have hdn := fs.dty
          have hD := zmo n hN ⟨b, base, S.idx, 0⟩ S.dty (hpk _ fs.idx.1) (by simp; omega) os.dty (zd5 hin (by omega) (by omega) (by omega)).2.1 (by omega)
          rw [hrp] at hD
          simp only [cT, eSos] at hD
          simp -dsimp [g1, g2, k2, g5, hlt, hS, eSo, cSo, cT, hd]
          refine zaa hAt ?_
          simp -dsimp [g1, g2, k2, g5, hlt, hS, eSo, cSo, cT, hd]
          refine zaa hD ?_
          cases hc : zae n ⟨b, base, S.idx, 0⟩ S.dty with
          | false =>
            have hw := hcv (by rw [zmc, hr, hd, hc]; rfl)
            simp -dsimp [g1, g2, k2, g5, hlt, hS, hw]
          | true =>
            have hnx := hfi (by rw [zmc, hr, hd, hc]; rfl)
            simp -dsimp [g1, g2, k2, g5, hlt, hS, w1, eSos]
            exact hnx
    · have e : i = b.sorts.length := by omega
      subst e
      have hzs : allI (fun _ s => zmc n b base s) 0 b.sorts = true := (zaq _ _ _).2 fun j hj => g j hj hj
      clear g hge hi
      simp -dsimp [g1, g2, k2, g5]
      clear g5
      refine zaj b.cons.length (fun i st => st.s 1 = .d (.int .i64 base) ∧ (st.s 2 = .ptr 2 1 0 ∧ st.h 2 = ⟨1, .box [.d (eSos b.sorts), .d (eCos b.cons), .d (.int .i64 b.elim)] false⟩) ∧ st.s 7 = .d (.int .i64 i) ∧ ∀ (j : Nat) (hj : j < b.cons.length), j < i → conF n b base j b.cons[j] = true) ?_ ?_
      · simp -dsimp [g1, g2, k2, eSos]
      · clear g1 g2 k2
        rintro i ⟨s, hp⟩ hi ⟨g1, ⟨g2, k2⟩, g7, g⟩
        dsimp only at g1 g2 k2 g7
        simp only [eSos, eCos] at k2
        rcases Nat.lt_or_ge i b.cons.length with hlt | hge
        · have w1 : IntKind.i64.wrap ((i : Int) + 1) = (i : Int) + 1 := zab (by omega) (by omega)
          have hcv := hbc1 i hlt
          have hmem := List.getElem_mem hlt
          have os := ob.cons _ hmem
          have fs := fb.cons _ hmem
          have hcm := zc _ hmem
          obtain ⟨hrow, c0, so, hso, hil⟩ := zpn hcm
          obtain ⟨hix, hmb⟩ := zIm hcm hso
          have hsolt := (List.getElem?_eq_some_iff.1 hso).1
          have hso' := (List.getElem?_eq_some_iff.1 hso).2
          have hfi : conF n b base i b.cons[i] = true → ∀ (j : Nat) (hj : j < b.cons.length), j < i + 1 → conF n b base j b.cons[j] = true := fun h j hj hji => by
            rcases Nat.lt_or_ge j i with h' | h'
            · exact g j hj h'
            · have : j = i := by omega
              subst this
              exact h
          generalize hS : b.cons[i] = S at *
          have hal := fs.args.1
          have hR := zFx n hN b base S.args (i : Int) (zO0 hf fb os.args fs.args hrow hn)
          have hAt := zIs b base S.args (by omega)
          have hI := zx2 n hN ⟨b, base, S.args, 0⟩ (hpk _ hal) (by simp) S.sort so c0 hso S.idx (i : Int) hil (fun x hx => by
            have hnx : zai x ≤ 9000 := Nat.le_trans (ze6 (List.mem_map.2 ⟨_, hx, rfl⟩)) fs.idx
            exact ⟨os.idx.2 x hx, (zd5 (hix x hx) (by omega) (by omega) (by omega)).2.1, by omega⟩)
          have hF : conF n b base i S = (rowF n b base S.args i && (indF n ⟨b, base, S.args, 0⟩ so S.idx i && (!so.dec || zae n ⟨b, base, S.args, 0⟩ S.dec))) := by rw [conF, hso]
          rw [hrp] at hAt hI
          simp only [eBl, cBl, eSos, eCos, eArs, eTs] at hR hAt hI
          simp -dsimp [g1, g2, k2, g7, hlt, hS, eCo, cCo, cT, eArs, eTs]
          refine zaa hAt ?_
          simp -dsimp [g1, g2, k2, g7, hlt, hS, eCo, cCo, cT, eArs, eTs]
          refine zaa hR ?_
          cases hr : rowF n b base S.args i with
          | false =>
            have hw := hcv (by rw [hF, hr]; rfl)
            simp -dsimp [g1, g2, k2, g7, hlt, hS, hw]
          | true =>
            simp -dsimp [g1, g2, k2, g7, hlt, hS, eCo, cCo, cT, eArs, eTs]
            refine zaa hI ?_
            cases hii : indF n ⟨b, base, S.args, 0⟩ so S.idx i with
            | false =>
              have hw := hcv (by rw [hF, hr, hii]; rfl)
              simp -dsimp [g1, g2, k2, g7, hlt, hS, hw]
            | true =>
              cases hd : so.dec with
              | false =>
                have hnx := hfi (by rw [hF, hr, hii, hd]; rfl)
                simp -dsimp [g1, g2, k2, g7, hlt, hS, eCo, cCo, cT, eArs, eTs, c0, hso, hsolt, hso', eSo, cSo, hd, w1, eSos, eCos]
                try exact hnx
              | true =>
                rw [hd] at hmb
                have hin : inM S.dec S.args.length = true := by rw [zfl, if_pos rfl] at hmb; exact hmb
                have hdn := fs.dec
                have hD := zmo n hN ⟨b, base, S.args, 0⟩ S.dec (hpk _ hal) (by simp; omega) os.dec (zd5 hin (by omega) (by omega) (by omega)).2.1 (by omega)
                rw [hrp] at hD
                simp only [cT, eSos, eCos] at hD
                simp -dsimp [g1, g2, k2, g7, hlt, hS, eCo, cCo, cT, eArs, eTs, c0, hso, hsolt, hso', eSo, cSo, hd]
                refine zaa hD ?_
                cases hc : zae n ⟨b, base, S.args, 0⟩ S.dec with
                | false =>
                  have hw := hcv (by rw [hF, hr, hii, hd, hc]; rfl)
                  simp -dsimp [g1, g2, k2, g7, hlt, hS, hw]
                | true =>
                  have hnx := hfi (by rw [hF, hr, hii, hd, hc]; rfl)
                  simp -dsimp [g1, g2, k2, g7, hlt, hS, w1, eSos, eCos]
                  try exact hnx
        · have e : i = b.cons.length := by omega
          subst e
          have hzc : allI (fun c x => conF n b base c x) 0 b.cons = true := (zaq _ _ _).2 fun j hj => by rw [Nat.zero_add]; exact g j hj hj
          have hw := hgood (by rw [posF, hzs, hzc]; rfl)
          simp -dsimp [g1, g2, k2, g7, hw]
end
end
section
attribute [local simp] zac zag tk tn tks zch zci zcj zei
theorem zup {b : Bl} {base : Int} (h : zef 9000 b base = 0) (k many : Int) : mayP b base k many = if k < 0 ∨ many ≤ k then 1 else 0 := by
  rw [mayP, h]
  split <;> split <;> first | rfl | omega
theorem zBc (b : Bl) (ob : okBl b) (hb : bulk (eBl b) ≤ 1048576) (base k : Int) : Pure Tryz.prog znm [eBl b, .int .i64 base, .int .i64 k] [.bool true] := by
  refine zT3 hm Tryz.func6 zn3 rfl fun w0 => ?_
  have hres : zh3.res = [XRes.tmp 6] := rfl
  rw [hres]
  have hh := zH0 b
  simp only [eBl, cBl] at hh
  refine Snd.seqF (fun st => SK base k st ∧ SI 3 .d b st ∧ VZ [7, 8, 10, 13, 15] st) (fun K hK => ?_) ?_
  · simp -dsimp [eBl, cBl]
    refine hK _ ?_
    simp -dsimp [SK, SI, VZ, eBl, cBl, eTs]
  rintro ⟨s, hp⟩ ⟨⟨g1, g2⟩, ⟨g3, g4⟩, hv⟩
  dsimp only at g1 g2 g3 g4
  refine Snd.seqF (fun st => SK base k st ∧ SI 3 .d b st ∧ VZ [7, 8, 10, 13, 15] st ∧ ziz b = false) (fun K hK => ?_) ?_
  · simp -dsimp [g1, g2, g3, g4]
    refine zaa hh ?_
    simp -dsimp [g1, g2, g3, g4]
    (first | refine zal ?_ ?_ | refine zam ?_ ?_) <;> intro h1 <;> (try simp only [nrm] at h1) <;> simp -dsimp [h1, g1, g2, g3, g4]
    refine hK _ ?_
    have hv' := hv
    simp only [VZ, List.mem_cons, List.not_mem_nil, or_false, forall_eq_or_imp, forall_eq] at hv'
    obtain ⟨v1, v2, v3, v4, v5⟩ := hv'
    simp -dsimp [SK, SI, VZ, h1, g1, g2, g3, g4, v1, v2, v3, v4, v5]
  clear g1 g2 g3 g4 hv
  rintro ⟨s, hp⟩ ⟨⟨g1, g2⟩, ⟨g3, g4⟩, hv, h1⟩
  dsimp only at g1 g2 g3 g4
  have hf := zO7 h1
  have fb := zP5 hb h1
  have tw := zCh b ob
  simp only [eBl, cBl] at tw
  refine Snd.seqF (fun st => SK base k st ∧ SI 3 .d b st ∧ SI 7 .d b st ∧ VZ [8, 10, 13, 15] st) (fun K hK => ?_) ?_
  · have hv' := hv
    simp only [VZ, List.mem_cons, List.not_mem_nil, or_false, forall_eq_or_imp, forall_eq] at hv'
    obtain ⟨v1, v2, v3, v4, v5⟩ := hv'
    simp -dsimp [g1, g2, g3, g4]
    refine zaa tw ?_
    simp -dsimp [g1, g2, g3, g4, v1]
    refine hK _ ?_
    simp -dsimp [SK, SI, VZ, g1, g2, g3, g4, v1, v2, v3, v4, v5]
  clear g1 g2 g3 g4 hv
  rintro st ⟨hk, hi3, hi7, hv⟩
  refine Snd.cut fun m => ?_
  have hF : SK base k (oldS st) ∧ SI 3 (.n false) b (oldS st) ∧ SI 7 (.n false) b (oldS st) ∧ VZ [8, 10, 13, 15] (oldS st) := ⟨hk.old, hi3.old, hi7.old, fun j hj => hv j hj⟩
  revert hF
  generalize oldS st = st
  clear hk hi3 hi7 hv
  obtain ⟨s, hp⟩ := st
  rintro ⟨⟨g1, g2⟩, ⟨g3, g4⟩, ⟨g7, g8⟩, hv⟩
  dsimp only at g1 g2 g3 g4 g7 g8
  have hv' := hv
  simp only [VZ, List.mem_cons, List.not_mem_nil, or_false, forall_eq_or_imp, forall_eq] at hv'
  obtain ⟨v2, v3, v4, v5⟩ := hv'
  have nM := zHm b ob fb hf base k
  simp only [cT, eBl, cBl, eSos, eCos] at nM
  refine Snd.seqF (fun st => SK base k st ∧ SI 3 (.n false) b st ∧ SI 7 (.n false) b st ∧ SO 8 9 (.n true) (motR b base k) (motE b base k) st ∧ VZ [10, 13, 15] st) (fun K hK => ?_) ?_
  · simp -dsimp [g1, g2, g3, g4, g7, g8, eSos, eCos]
    refine zfc nM ?_
    simp -dsimp [g1, g2, g3, g4, g7, g8, v2]
    refine hK _ ?_
    simp -dsimp [SK, SI, SO, VZ, g1, g2, g3, g4, g7, g8, v2, v3, v4, v5]
  clear g1 g2 g3 g4 g7 g8 hv v2 v3 v4 v5 nM
  rintro ⟨s, hp⟩ ⟨⟨g1, g2⟩, ⟨g3, g4⟩, ⟨g7, g8⟩, ⟨a1, a2, a3⟩, hv⟩
  dsimp only at g1 g2 g3 g4 g7 g8 a1 a2 a3
  have hv' := hv
  simp only [VZ, List.mem_cons, List.not_mem_nil, or_false, forall_eq_or_imp, forall_eq] at hv'
  obtain ⟨v3, v4, v5⟩ := hv'
  have nM := zHg b ob fb hf base k
  simp only [cT, eBl, cBl, eSos, eCos] at nM
  refine Snd.seqF (fun st => SK base k st ∧ SI 3 (.n false) b st ∧ SI 7 (.n false) b st ∧ SO 8 9 (.n true) (motR b base k) (motE b base k) st ∧ SO 10 11 (.n true) (metR b base k) (metE b base k) st ∧ VZ [13, 15] st) (fun K hK => ?_) ?_
  · simp -dsimp [g1, g2, g3, g4, g7, g8, a1, a2, a3, eSos, eCos]
    refine zfc nM ?_
    simp -dsimp [g1, g2, g3, g4, g7, g8, a1, a2, a3, v3]
    refine hK _ ?_
    simp -dsimp [SK, SI, SO, VZ, g1, g2, g3, g4, g7, g8, a1, a2, a3, v3, v4, v5]
  clear g1 g2 g3 g4 g7 g8 a1 a2 a3 hv v3 v4 v5 nM
  rintro ⟨s, hp⟩ ⟨⟨g1, g2⟩, ⟨g3, g4⟩, ⟨g7, g8⟩, ⟨a1, a2, a3⟩, ⟨b1, b2, b3⟩, hv⟩
  dsimp only at g1 g2 g3 g4 g7 g8 a1 a2 a3 b1 b2 b3
  have hv' := hv
  simp only [VZ, List.mem_cons, List.not_mem_nil, or_false, forall_eq_or_imp, forall_eq] at hv'
  obtain ⟨v4, v5⟩ := hv'
  have kB := zBz b
  simp only [eBl, cBl, eSos, eCos] at kB
  refine Snd.seqF (fun st => SK base k st ∧ SI 3 (.n false) b st ∧ SI 7 (.n false) b st ∧ SO 8 9 (.n true) (motR b base k) (motE b base k) st ∧ SO 10 11 (.n true) (metR b base k) (metE b base k) st ∧ VZ [13, 15] st) (fun K hK => ?_) ?_
  · simp -dsimp [g1, g2, g3, g4, g7, g8, a1, a2, a3, b1, b2, b3, eSos, eCos]
    refine zaa kB ?_
    simp -dsimp [g1, g2, g3, g4, g7, g8, a1, a2, a3, b1, b2, b3]
    refine hK _ ?_
    simp -dsimp [SK, SI, SO, VZ, g1, g2, g3, g4, g7, g8, a1, a2, a3, b1, b2, b3, v4, v5, eSos, eCos]
  clear g1 g2 g3 g4 g7 g8 a1 a2 a3 b1 b2 b3 hv v4 v5
  rintro ⟨s, hp⟩ ⟨⟨g1, g2⟩, ⟨g3, g4⟩, ⟨g7, g8⟩, ⟨a1, a2, a3⟩, ⟨b1, b2, b3⟩, hv⟩
  dsimp only at g1 g2 g3 g4 g7 g8 a1 a2 a3 b1 b2 b3
  have hv' := hv
  simp only [VZ, List.mem_cons, List.not_mem_nil, or_false, forall_eq_or_imp, forall_eq] at hv'
  obtain ⟨v4, v5⟩ := hv'
  have hPo := zLd 9000 (by omega) (by omega) b ob fb hf base
  simp only [eBl, cBl, eSos, eCos] at hPo
  have kZ := zdz zT
  simp only [zT, cT, tk, tn, tks, List.map_nil] at kZ
  refine Snd.seqF (fun st => SK base k st ∧ SI 3 (.n false) b st ∧ SI 7 (.n false) b st ∧ SO 8 9 (.n true) (motR b base k) (motE b base k) st ∧ SO 10 11 (.n true) (metR b base k) (metE b base k) st ∧ VZ [13, 15] st ∧ zef 9000 b base = 0) (fun K hK => ?_) ?_
  · simp -dsimp [g1, g2, g3, g4, g7, g8, a1, a2, a3, b1, b2, b3, eSos, eCos]
    refine zaa hPo ?_
    by_cases hz : zef 9000 b base = 0
    · simp -dsimp [g1, g2, g3, g4, g7, g8, a1, a2, a3, b1, b2, b3, hz]
      refine hK _ ?_
      simp -dsimp [SK, SI, SO, VZ, g1, g2, g3, g4, g7, g8, a1, a2, a3, b1, b2, b3, v4, v5, eSos, eCos, hz]
    · have m1 : ∀ many, mayP b base k many = zef 9000 b base := fun many => by rw [mayP, if_neg (fun h => hz h.1)]
      have e1 : motE b base k = zef 9000 b base := by rw [motE, m1, if_neg hz]
      have e2 : metE b base k = zef 9000 b base := by rw [metE, m1, if_neg hz]
      have r1 : motR b base k = zT := by rw [motR, e1, if_neg hz]
      have r2 : metR b base k = zT := by rw [metR, e2, if_neg hz]
      rw [e1] at a3
      rw [e2] at b3
      rw [r1] at a2
      rw [r2] at b2
      simp only [zT, tk, tn, tks, List.map_nil] at a2 b2
      generalize zef 9000 b base = E at *
      simp -dsimp [g1, g2, g3, g4, g7, g8, a1, a2, a3, b1, b2, b3, hz]
      refine zaa kZ ?_
      simp -dsimp [g1, g2, g3, g4, g7, g8, a1, a2, a3, b1, b2, b3, hz]
      refine zaa kZ ?_
      simp -dsimp [g1, g2, g3, g4, g7, g8, a1, a2, a3, b1, b2, b3, hz]
      refine zaa zy9 ?_
      simp -dsimp [g1, g2, g3, g4, g7, g8, a1, a2, a3, b1, b2, b3, hz]
  clear g1 g2 g3 g4 g7 g8 a1 a2 a3 b1 b2 b3 hv v4 v5
  rintro ⟨s, hp⟩ ⟨⟨g1, g2⟩, ⟨g3, g4⟩, ⟨g7, g8⟩, ⟨a1, a2, a3⟩, ⟨b1, b2, b3⟩, hv, hz⟩
  dsimp only at g1 g2 g3 g4 g7 g8 a1 a2 a3 b1 b2 b3
  have hv' := hv
  simp only [VZ, List.mem_cons, List.not_mem_nil, or_false, forall_eq_or_imp, forall_eq] at hv'
  obtain ⟨v4, v5⟩ := hv'
  refine Snd.seqF (fun st => SK base k st ∧ SI 3 (.n false) b st ∧ SI 7 (.n false) b st ∧ SO 8 9 (.n true) (motR b base k) (motE b base k) st ∧ SO 10 11 (.n true) (metR b base k) (metE b base k) st ∧ VZ [15] st ∧ SP 13 14 zT 1 st) (fun K hK => ?_) ?_
  · simp -dsimp [g1, g2, g3, g4, g7, g8, a1, a2, a3, b1, b2, b3, v4, v5]
    refine hK _ ?_
    simp -dsimp [SK, SI, SO, SP, VZ, zT, g1, g2, g3, g4, g7, g8, a1, a2, a3, b1, b2, b3, v4, v5, eSos, eCos]
  clear g1 g2 g3 g4 g7 g8 a1 a2 a3 b1 b2 b3 hv v4 v5
  rintro ⟨s, hp⟩ ⟨⟨g1, g2⟩, ⟨g3, g4⟩, ⟨g7, g8⟩, ⟨a1, a2, a3⟩, ⟨b1, b2, b3⟩, hv, c1, ⟨c, c2, hc⟩, c3⟩
  dsimp only at g1 g2 g3 g4 g7 g8 a1 a2 a3 b1 b2 b3 c1 c2 c3
  simp only [zT, tk, tn] at c2
  have v5 : (hp 15).ver = 0 := hv 15 (by simp)
  refine Snd.seqF (fun st => SK base k st ∧ SI 3 (.n false) b st ∧ SI 7 (.n false) b st ∧ SO 8 9 (.n true) (motR b base k) (motE b base k) st ∧ SO 10 11 (.n true) (metR b base k) (metE b base k) st ∧ VZ [15] st ∧ SP 13 14 (motR b base k) (motE b base k) st) (fun K hK => ?_) ?_
  · by_cases h3 : 0 ≤ k
    · by_cases h4 : k < b.sorts.length
      · have hget : b.sorts[k.toNat]? = some b.sorts[k.toNat] := List.getElem?_eq_getElem (by omega)
        have hR := zG0 b ob fb hf base k hz h3 h4 hget
        have hM : mayP b base k b.sorts.length = 0 := by rw [zup hz, if_neg (by omega)]
        have e1 : motE b base k = zbp (motT b base k b.sorts[k.toNat]) := by rw [motE, if_pos hM, hget]
        have e2 : motR b base k = zda (motT b base k b.sorts[k.toNat]) := by rw [motR, zda, e1, hget]
        rw [← e1, ← e2] at hR
        generalize motR b base k = MR at *
        generalize motE b base k = ME at *
        simp only [cT, eBl, cBl, eSos, eCos] at hR
        simp -dsimp [g1, g2, g3, g4, g7, g8, a1, a2, a3, b1, b2, b3, c1, c2, c3, h3, h4, eSos, eCos]
        refine zaa hR ?_
        simp -dsimp [g1, g2, g3, g4, g7, g8, a1, a2, a3, b1, b2, b3, c1, c2, c3, h3, h4, eSos, eCos]
        refine hK _ ?_
        simp -dsimp [SK, SI, SO, SP, VZ, g1, g2, g3, g4, g7, g8, a1, a2, a3, b1, b2, b3, c1, c2, c3, v5, eSos, eCos]
      · have hM : mayP b base k b.sorts.length = 1 := by rw [zup hz, if_pos (by omega)]
        have e1 : motE b base k = 1 := by rw [motE, hM, if_neg (by omega)]
        have e2 : motR b base k = zT := by rw [motR, e1, if_neg (by omega)]
        simp -dsimp [g1, g2, g3, g4, g7, g8, a1, a2, a3, b1, b2, b3, c1, c2, c3, h3, h4, eSos, eCos]
        refine hK _ ?_
        simp -dsimp [SK, SI, SO, SP, VZ, g1, g2, g3, g4, g7, g8, a1, a2, a3, b1, b2, b3, c1, c2, c3, v5, eSos, eCos]
        rw [e1, e2]
        simp only [zT, tk, tn, tks] at hc ⊢
        exact ⟨⟨c, ⟨trivial, trivial, rfl⟩, by simpa using hc⟩, trivial⟩
    · have hM : mayP b base k b.sorts.length = 1 := by rw [zup hz, if_pos (by omega)]
      have e1 : motE b base k = 1 := by rw [motE, hM, if_neg (by omega)]
      have e2 : motR b base k = zT := by rw [motR, e1, if_neg (by omega)]
      simp -dsimp [g1, g2, g3, g4, g7, g8, a1, a2, a3, b1, b2, b3, c1, c2, c3, h3, eSos, eCos]
      refine hK _ ?_
      simp -dsimp [SK, SI, SO, SP, VZ, g1, g2, g3, g4, g7, g8, a1, a2, a3, b1, b2, b3, c1, c2, c3, v5, eSos, eCos]
      rw [e1, e2]
      simp only [zT, tk, tn, tks] at hc ⊢
      exact ⟨⟨c, ⟨trivial, trivial, rfl⟩, by simpa using hc⟩, trivial⟩
  clear g1 g2 g3 g4 g7 g8 a1 a2 a3 b1 b2 b3 c1 c2 c3 hv v5 hc
  rintro ⟨s, hp⟩ ⟨⟨g1, g2⟩, ⟨g3, g4⟩, ⟨g7, g8⟩, ⟨a1, a2, a3⟩, ⟨b1, b2, b3⟩, hv, c1, ⟨c, c2, hc⟩, c3⟩
  dsimp only at g1 g2 g3 g4 g7 g8 a1 a2 a3 b1 b2 b3 c1 c2 c3
  have v5 : (hp 15).ver = 0 := hv 15 (by simp)
  refine Snd.seqF (fun st => SK base k st ∧ SI 3 (.n false) b st ∧ SI 7 (.n false) b st ∧ SO 8 9 (.n true) (motR b base k) (motE b base k) st ∧ SO 10 11 (.n true) (metR b base k) (metE b base k) st ∧ SP 13 14 (motR b base k) (motE b base k) st ∧ SP 15 16 zT 1 st) (fun K hK => ?_) ?_
  · simp -dsimp [g1, g2, g3, g4, g7, g8, a1, a2, a3, b1, b2, b3, c1, c2, c3, v5]
    refine hK _ ?_
    simp -dsimp [SK, SI, SO, SP, VZ, zT, g1, g2, g3, g4, g7, g8, a1, a2, a3, b1, b2, b3, c1, c2, c3, v5, eSos, eCos]
    exact hc
  clear g1 g2 g3 g4 g7 g8 a1 a2 a3 b1 b2 b3 c1 c2 c3 hv v5 hc
  rintro ⟨s, hp⟩ ⟨⟨g1, g2⟩, ⟨g3, g4⟩, ⟨g7, g8⟩, ⟨a1, a2, a3⟩, ⟨b1, b2, b3⟩, ⟨c1, ⟨c, c2, hc⟩, c3⟩, d1, ⟨d, d2, hd⟩, d3⟩
  dsimp only at g1 g2 g3 g4 g7 g8 a1 a2 a3 b1 b2 b3 c1 c2 c3 d1 d2 d3
  simp only [zT, tk, tn] at d2
  refine Snd.seqF (fun st => SK base k st ∧ SI 3 (.n false) b st ∧ SI 7 (.n false) b st ∧ SO 8 9 (.n true) (motR b base k) (motE b base k) st ∧ SO 10 11 (.n true) (metR b base k) (metE b base k) st ∧ SP 13 14 (motR b base k) (motE b base k) st ∧ SP 15 16 (metR b base k) (metE b base k) st) (fun K hK => ?_) ?_
  · by_cases h3 : 0 ≤ k
    · by_cases h4 : k < b.cons.length
      · have hM : mayP b base k b.cons.length = 0 := by rw [zup hz, if_neg (by omega)]
        have hao : ∃ t, metA b base k = some t := by
          obtain ⟨_, _, _, hpos⟩ := zi9 hz
          have hget : b.cons[k.toNat]? = some b.cons[k.toNat] := List.getElem?_eq_getElem (by omega)
          obtain ⟨_, so, hso, _⟩ := zwm hpos hget
          refine ⟨metT b base k b.cons[k.toNat] so, ?_⟩
          rw [metA, hget]
          simp only [hso]
        obtain ⟨MT, hao⟩ := hao
        have hR := zHs b ob fb hf base k hz h3 h4 hao
        have e1 : metE b base k = zbp MT := by rw [metE, if_pos hM, hao]
        have e2 : metR b base k = zda MT := by rw [metR, zda, e1, hao]; rfl
        rw [← e1, ← e2] at hR
        generalize metR b base k = MR at *
        generalize metE b base k = ME at *
        simp only [cT, eBl, cBl, eSos, eCos] at hR
        simp -dsimp [g1, g2, g3, g4, g7, g8, a1, a2, a3, b1, b2, b3, c1, c2, c3, d1, d2, d3, h3, h4, eSos, eCos]
        refine zaa hR ?_
        simp -dsimp [g1, g2, g3, g4, g7, g8, a1, a2, a3, b1, b2, b3, c1, c2, c3, d1, d2, d3, h3, h4, eSos, eCos]
        refine hK _ ?_
        simp -dsimp [SK, SI, SO, SP, VZ, g1, g2, g3, g4, g7, g8, a1, a2, a3, b1, b2, b3, c1, c2, c3, d1, d2, d3, eSos, eCos]
        exact hc
      · have hM : mayP b base k b.cons.length = 1 := by rw [zup hz, if_pos (by omega)]
        have e1 : metE b base k = 1 := by rw [metE, hM, if_neg (by omega)]
        have e2 : metR b base k = zT := by rw [metR, e1, if_neg (by omega)]
        simp -dsimp [g1, g2, g3, g4, g7, g8, a1, a2, a3, b1, b2, b3, c1, c2, c3, d1, d2, d3, h3, h4, eSos, eCos]
        refine hK _ ?_
        simp -dsimp [SK, SI, SO, SP, VZ, g1, g2, g3, g4, g7, g8, a1, a2, a3, b1, b2, b3, c1, c2, c3, d1, d2, d3, eSos, eCos]
        rw [e1, e2]
        simp only [zT, tk, tn, tks] at hd ⊢
        exact ⟨hc, ⟨d, ⟨trivial, trivial, rfl⟩, by simpa using hd⟩, trivial⟩
    · have hM : mayP b base k b.cons.length = 1 := by rw [zup hz, if_pos (by omega)]
      have e1 : metE b base k = 1 := by rw [metE, hM, if_neg (by omega)]
      have e2 : metR b base k = zT := by rw [metR, e1, if_neg (by omega)]
      simp -dsimp [g1, g2, g3, g4, g7, g8, a1, a2, a3, b1, b2, b3, c1, c2, c3, d1, d2, d3, h3, eSos, eCos]
      refine hK _ ?_
      simp -dsimp [SK, SI, SO, SP, VZ, g1, g2, g3, g4, g7, g8, a1, a2, a3, b1, b2, b3, c1, c2, c3, d1, d2, d3, eSos, eCos]
      rw [e1, e2]
      simp only [zT, tk, tn, tks] at hd ⊢
      exact ⟨hc, ⟨d, ⟨trivial, trivial, rfl⟩, by simpa using hd⟩, trivial⟩
  clear g1 g2 g3 g4 g7 g8 a1 a2 a3 b1 b2 b3 c1 c2 c3 d1 d2 d3 hc hd
  rintro ⟨s, hp⟩ ⟨⟨g1, g2⟩, ⟨g3, g4⟩, ⟨g7, g8⟩, ⟨a1, a2, a3⟩, ⟨b1, b2, b3⟩, ⟨c1, ⟨c, c2, hc⟩, c3⟩, d1, ⟨d, d2, hd⟩, d3⟩
  dsimp only at g1 g2 g3 g4 g7 g8 a1 a2 a3 b1 b2 b3 c1 c2 c3 d1 d2 d3
  have kM := zdz (motR b base k)
  have kN := zdz (metR b base k)
  refine Snd.seqF (fun st => SK base k st ∧ SI 3 (.n false) b st ∧ SI 7 (.n false) b st ∧ SO 8 9 (.n true) (motR b base k) (motE b base k) st ∧ SO 10 11 (.n true) (metR b base k) (metE b base k) st) (fun K hK => ?_) ?_
  · generalize motR b base k = MR at *
    generalize metR b base k = NR at *
    generalize motE b base k = ME at *
    generalize metE b base k = NE at *
    simp only [cT] at kM kN
    rcases hc with rfl | ⟨rfl, hc⟩ <;> rcases hd with rfl | ⟨rfl, hd⟩
    · simp -dsimp [g1, g2, g3, g4, g7, g8, a1, a2, a3, b1, b2, b3, c1, c2, c3, d1, d2, d3]
      refine zaa kM ?_
      simp -dsimp [g1, g2, g3, g4, g7, g8, a1, a2, a3, b1, b2, b3, c1, c2, c3, d1, d2, d3]
      refine zaa kN ?_
      simp -dsimp [g1, g2, g3, g4, g7, g8, a1, a2, a3, b1, b2, b3, c1, c2, c3, d1, d2, d3]
      refine hK _ ?_
      simp -dsimp [SK, SI, SO, g1, g2, g3, g4, g7, g8, a1, a2, a3, b1, b2, b3, eSos, eCos]
    · rw [hd, List.map_nil] at kN b2
      simp -dsimp [g1, g2, g3, g4, g7, g8, a1, a2, a3, b1, b2, b3, c1, c2, c3, d1, d2, d3]
      refine zaa kM ?_
      simp -dsimp [g1, g2, g3, g4, g7, g8, a1, a2, a3, b1, b2, b3, c1, c2, c3, d1, d2, d3]
      refine zaa kN ?_
      simp -dsimp [g1, g2, g3, g4, g7, g8, a1, a2, a3, b1, b2, b3, c1, c2, c3, d1, d2, d3]
      refine hK _ ?_
      simp -dsimp [SK, SI, SO, g1, g2, g3, g4, g7, g8, a1, a2, a3, b1, b2, b3, hd, eSos, eCos]
    · rw [hc, List.map_nil] at kM a2
      simp -dsimp [g1, g2, g3, g4, g7, g8, a1, a2, a3, b1, b2, b3, c1, c2, c3, d1, d2, d3]
      refine zaa kM ?_
      simp -dsimp [g1, g2, g3, g4, g7, g8, a1, a2, a3, b1, b2, b3, c1, c2, c3, d1, d2, d3]
      refine zaa kN ?_
      simp -dsimp [g1, g2, g3, g4, g7, g8, a1, a2, a3, b1, b2, b3, c1, c2, c3, d1, d2, d3]
      refine hK _ ?_
      simp -dsimp [SK, SI, SO, g1, g2, g3, g4, g7, g8, a1, a2, a3, b1, b2, b3, hc, eSos, eCos]
    · rw [hc, List.map_nil] at kM a2
      rw [hd, List.map_nil] at kN b2
      simp -dsimp [g1, g2, g3, g4, g7, g8, a1, a2, a3, b1, b2, b3, c1, c2, c3, d1, d2, d3]
      refine zaa kM ?_
      simp -dsimp [g1, g2, g3, g4, g7, g8, a1, a2, a3, b1, b2, b3, c1, c2, c3, d1, d2, d3]
      refine zaa kN ?_
      simp -dsimp [g1, g2, g3, g4, g7, g8, a1, a2, a3, b1, b2, b3, c1, c2, c3, d1, d2, d3]
      refine hK _ ?_
      simp -dsimp [SK, SI, SO, g1, g2, g3, g4, g7, g8, a1, a2, a3, b1, b2, b3, hc, hd, eSos, eCos]
  clear g1 g2 g3 g4 g7 g8 a1 a2 a3 b1 b2 b3 c1 c2 c3 d1 d2 d3 hc hd kM kN
  rintro st ⟨-, hi3, hi7, ⟨a1, a2, -⟩, ⟨b1, b2, -⟩⟩
  refine Spd.enter 119 ?_
  refine Spd.term (by omega) (by omega) (by omega) a1 a2 ?_
  refine Spd.term (by omega) (by omega) (by omega) b1 b2 ?_
  refine Spd.leave ?_
  have hF : SI 3 .d b (aftS 119 st) ∧ SI 7 .d b (aftS 119 st) := ⟨hi3.aft (by omega), hi7.aft (by omega)⟩
  revert hF
  generalize aftS 119 st = st
  clear a1 a2 b1 b2 hi3 hi7
  obtain ⟨s, hp⟩ := st
  rintro ⟨⟨g3, g4⟩, g7, g8⟩
  dsimp only at g3 g4 g7 g8
  refine Snd.last ?_
  simp -dsimp [g3, g4, g7, g8, eSos, eCos]
  refine zaa kB ?_
  simp -dsimp [g3, g4, g7, g8]
  refine zaa zy9 ?_
  simp -dsimp [g3, g4, g7, g8]
end
end Ev
end Go.Proofs.YtncmainjcffanaaGreat
