/- The functions of this seat, told in the small language: printed by a program of this session, checked by the kernel against the translation. -/
import Derived.Test.YtnkbhmafebngjaaX
import Derived.Test.YtnkbhmafebngjaaProg
import Derived.KernelRfl
namespace Go.Proofs.Ytnkbhmafebngjaa
namespace Ev
open Go
set_option maxRecDepth 100000
@[reducible] def n_slices_Backward_Term : Nat := 97
@[reducible] def n_slices_Backward_Term_1 : Nat := 119
def x_slices_Backward_Term : XFn := ⟨1, 4, [XRes.tmp 2], (XCode.region [⟨some 1, XOp.box (Opd.t 0), none⟩, ⟨some 2, XOp.mv (Opd.c (AV.d D.junk)), none⟩] none).seq ((XCode.region [⟨some 3, XOp.mkf n_slices_Backward_Term_1 [Opd.t 1], none⟩, ⟨some 2, XOp.mv (Opd.t 3), none⟩] none).seq XCode.ret)⟩
theorem c_slices_Backward_Term : cfn Try.prog Try.f97 = some x_slices_Backward_Term := by kernel_rfl
theorem p_slices_Backward_Term {ds rs : List D} (hl : ds.length = 1) (hw : (∀ d ∈ ds, small 8 d) → wpX Try.prog x_slices_Backward_Term.code (Ends x_slices_Backward_Term.res rs) ⟨initS ds, none_⟩) : Pure Try.prog n_slices_Backward_Term ds rs := pure_small hm Try.func97 c_slices_Backward_Term hl hw
theorem o_slices_Backward_Term {ds : List D} {rs : List RV} (hl : ds.length = 1) (hw : (∀ d ∈ ds, small 8 d) → wpX Try.prog x_slices_Backward_Term.code (EndsP x_slices_Backward_Term.res rs) ⟨initS ds, none_⟩) : OwnC Try.prog n_slices_Backward_Term ds rs := own_small hm Try.func97 c_slices_Backward_Term hl hw
def x_slices_Backward_Term_1 : XFn := ⟨2, 19, [], (XCode.region [⟨some 4, XOp.load 1 false (Opd.t 1), none⟩, ⟨some 5, XOp.len (Opd.t 4), none⟩, ⟨some 6, XOp.bin BinOp.sub (Opd.t 5) (Opd.c (AV.d (D.int IntKind.i64 1))), none⟩, ⟨some 3, XOp.mv (Opd.t 6), none⟩] none).seq (XCode.block 0 (((XCode.region [⟨some 7, XOp.mv (Opd.t 3), none⟩, ⟨some 8, XOp.bin BinOp.geq (Opd.t 7) (Opd.c (AV.d (D.int IntKind.i64 0))), none⟩] none).seq (XCode.cond (Opd.t 8) XCode.skip (XCode.exit 0))).seq ((XCode.block 1 ((XCode.region [⟨some 11, XOp.mv (Opd.t 0), none⟩, ⟨some 12, XOp.mv (Opd.t 3), none⟩, ⟨some 13, XOp.load 1 false (Opd.t 1), none⟩, ⟨some 14, XOp.mv (Opd.t 3), none⟩, ⟨some 15, XOp.iaddr 3 (Opd.t 13) (Opd.t 14), none⟩, ⟨some 16, XOp.load 3 true (Opd.t 15), none⟩, ⟨some 17, XOp.call (Opd.t 11) [Opd.t 12, Opd.t 16], none⟩, ⟨some 18, XOp.un UnOp.not (Opd.t 17), none⟩] none).seq (XCode.cond (Opd.t 18) XCode.ret XCode.skip))).seq (XCode.region [⟨some 9, XOp.mv (Opd.t 3), none⟩, ⟨some 10, XOp.bin BinOp.sub (Opd.t 9) (Opd.c (AV.d (D.int IntKind.i64 1))), none⟩, ⟨some 3, XOp.mv (Opd.t 10), none⟩] none))).loop)⟩
theorem c_slices_Backward_Term_1 : cfn Try.prog Try.f119 = some x_slices_Backward_Term_1 := by kernel_rfl
theorem p_slices_Backward_Term_1 {ds rs : List D} (hl : ds.length = 2) (hw : (∀ d ∈ ds, small 8 d) → wpX Try.prog x_slices_Backward_Term_1.code (Ends x_slices_Backward_Term_1.res rs) ⟨initS ds, none_⟩) : Pure Try.prog n_slices_Backward_Term_1 ds rs := pure_small hm Try.func119 c_slices_Backward_Term_1 hl hw
theorem o_slices_Backward_Term_1 {ds : List D} {rs : List RV} (hl : ds.length = 2) (hw : (∀ d ∈ ds, small 8 d) → wpX Try.prog x_slices_Backward_Term_1.code (EndsP x_slices_Backward_Term_1.res rs) ⟨initS ds, none_⟩) : OwnC Try.prog n_slices_Backward_Term_1 ds rs := own_small hm Try.func119 c_slices_Backward_Term_1 hl hw
end Ev
end Go.Proofs.Ytnkbhmafebngjaa
