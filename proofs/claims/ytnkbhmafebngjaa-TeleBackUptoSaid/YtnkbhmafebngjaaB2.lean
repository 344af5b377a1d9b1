/- tele.nest in its parts: each told in the small language. -/
import Derived.Test.YtnkbhmafebngjaaE15g
import Derived.Test.YtnkbhmafebngjaaB1
namespace Go.Proofs.Ytnkbhmafebngjaa
namespace Ev
open Go
set_option maxRecDepth 100000
def zT0 : List AV := [.d (.int .i64 0), .d (.int .i64 0), .fsl 3 []]
def y0 : XCode := .region [⟨some 3, .box (.t 0), none⟩, ⟨some 5, .box (.t 2), none⟩, ⟨some 6, .alloc [.d (.int .i64 0), .d (.int .i64 0), .fsl 3 []], none⟩] none
def y1 : XCode := .region [⟨some 10, .load 3 true (.t 5), none⟩, ⟨some 11, .call (.c (.d (.clo 56 []))) [.t 10], none⟩, ⟨some 7, .alloc [.d (.int .i64 0), .d (.int .i64 0), .fsl 3 []], none⟩, ⟨none, .store 3 (.t 7) (.t 11), none⟩] none
def y2 : XCode := .region [⟨some 12, .mv (.t 1), none⟩, ⟨some 13, .call (.c (.d (.clo 97 []))) [.t 12], none⟩] none
def y3 : XCode := .region [⟨some 9, .alloc [.d (.int .i64 0), .d (.int .i64 0), .fsl 3 []], none⟩, ⟨none, .store 3 (.t 9) (.t 15), none⟩] none
def y4 : XCode := .block 1 (.region [⟨some 16, .load 1 false (.t 3), none⟩, ⟨some 17, .load 3 true (.t 9), none⟩, ⟨some 18, .call (.c (.d (.clo 56 []))) [.t 17], none⟩, ⟨some 19, .load 3 true (.t 7), none⟩,
  ⟨some 20, .bslice (.agg [.int .i64 0, .int .i64 0, .sl 3 []]) 3 2 [(0, .t 18), (1, .t 19)], none⟩, ⟨some 21, .call (.c (.d (.clo 57 []))) [.t 16, .t 20], none⟩, ⟨none, .store 3 (.t 7) (.t 21), none⟩]
  (some [(true, []), (true, [0]), (true, [0]), (false, [0, 1, 2]), (false, [0]), (false, []), (false, [])]))
def y5 : XCode := (XCode.region [⟨some 22, .load 3 true (.t 7), none⟩, ⟨none, .store 3 (.t 6) (.t 22), none⟩] none).seq .ret
theorem nest_parts : ∃ r0 r1 r2 id1 ag bd c3, Try.f55.body = some (.seq r0 (.seq r1 (.seq (.seq r2 (.block id1 (.rangeFunc (.tmp 13) #[14, 15] ag bd))) c3))) ∧
    ccode Try.prog 23 r0 = some y0 ∧ ccode Try.prog 23 r1 = some y1 ∧ ccode Try.prog 23 r2 = some y2 ∧ ccode Try.prog 23 ag = some y3 ∧ ccode Try.prog 23 bd = some y4 ∧ ccode Try.prog 23 c3 = some y5 :=
  ⟨_, _, _, _, _, _, _, rfl, by kernel_rfl, by kernel_rfl, by kernel_rfl, by kernel_rfl, by kernel_rfl, by kernel_rfl⟩
end Ev
end Go.Proofs.Ytnkbhmafebngjaa
