/- Part of the proofs: see the last file. -/
import Derived.Test.YtpdigppbokpdkaaBoC
import Derived.Test.YtpdigppbokpdkaaProg
import Derived.KernelRfl
set_option linter.unusedSimpArgs false
set_option linter.unusedVariables false
namespace Go.OT
open Go.Proofs
attribute [local simp] runC_eq runO_nil runO_cons stO_none stO_some stW_bool stW_bool' stp putV rd rdK ldV fnL_set setL fnL_nil_app fnL_cons_app boxV takeC takeO takeV tk flat noOwn noOwnL ldCells faddrV finB treeV Value.oneCell' ownRaw asgV scBin scUn scMx nx AV.isNode AV.isNon onlyK kp_fnL H fnL_boxM boxM boxM.boxN boxE_eq List.range List.range.loop tkL gather_zero gather_succ clr_zero clr_succ AV.parts? roots



theorem may_one : mayB 1 1 1 1 = true := by decide
theorem may_zero : mayB 0 0 0 0 = false := by decide
set_option maxHeartbeats 4000000 in
theorem told12 : Fn Try.prog 12 [] [] [] (bl true) := by
  refine Fn.of_body' 30 0 [.t 0] Try.func12 (by rfl) (by kernel_rfl) rfl fun C hP hn => ?_
  rw [init_args _ (by simp)]
  simp only [argsL]
  refine AWp.sregL [(0, 0, bl false)] (cl := [⟨none, some 0, .asg 0 (.c (.sc (.bool false)))⟩]) hP hn (by kernel_rfl) (by simp) rfl ?_
  refine AWp.sregL [(100, 0, .bptr 1 1 0), (101, 0, i64 1), (102, 0, i64 1), (103, 0, i64 1), (104, 0, i64 1), (199, 1, .non)] (cl := [⟨none, some 2, .build 2 [(.sc (.int .i64 0)), (.sc (.int .i64 0)), (.sc (.int .i64 0)), (.sc (.int .i64 0))] [(0, 1, (.c (.sc (.int .i64 1)))), (1, 1, (.c (.sc (.int .i64 1)))), (2, 1, (.c (.sc (.int .i64 1)))), (3, 1, (.c (.sc (.int .i64 1))))]⟩, ⟨none, some 1, .alloc 1 [(.sc (.int .i64 0)), (.sc (.int .i64 0)), (.sc (.int .i64 0)), (.sc (.int .i64 0))]⟩, ⟨none, none, .st 4 (.t 1) (.t 2)⟩]) hP hn (by kernel_rfl) (by simp [fillU, setR, cellsU, allocV, stV, putA, put1, shiftA]) rfl ?_
  refine AWp.seq ?_
  refine AWp.regQ ?_
  refine RunQ.seg' (idx := [0]) (rest := [1, 2, 3, 4, 5, 6, 7, 8, 9, 10, 11, 12, 13, 14, 15, 16, 17, 18, 19, 20, 21, 22, 23, 24, 25, 26, 27]) (cl := [⟨none, some 3, .ld 3 4 true (.t 1)⟩]) hP hn (by kernel_rfl) (by simp; rfl) ?_
  refine RunQ.call0 (r := bl (mayB 1 1 1 1)) (d := 4) (f := 13) (ss := [0]) (cs := [.t 3]) false hP hn rfl rfl ⟨rfl, by decide, by kernel_rfl, _, _, rfl, rfl, by decide⟩ (by simp [trArgs, trA, trL, keyOf]) Try.call13 (may13 1 1 1 1) (by simp) rfl ?_
  rw [may_one]
  refine RunQ.seg' (idx := [2, 3]) (rest := [4, 5, 6, 7, 8, 9, 10, 11, 12, 13, 14, 15, 16, 17, 18, 19, 20, 21, 22, 23, 24, 25, 26, 27]) (cl := [⟨none, some 5, .mov 5 (.t 4)⟩, ⟨some (5, true), some 6, .ld 6 4 true (.t 1)⟩]) hP hn (by kernel_rfl) (by simp; rfl) ?_
  have hr : (if mayB 1 1 1 1 = true then rv 1 0 else 0) = 1340 := by decide
  refine RunQ.call0G (r := i64 1340) (d := 7) (f := 15) (ss := [0, 0]) (cs := [.t 6, .c (.sc (.int .i64 0))]) false hP hn rfl rfl rfl (by decide) (by simp) ⟨rfl, by decide, by kernel_rfl, _, _, rfl, rfl, by decide⟩ (by simp [trArgs, trA, trL, keyOf]) Try.call15 (hr ▸ rounds15 1 1 1 1 0) (by simp) rfl ?_
  clear hr
  refine RunQ.seg' (idx := [5, 6, 7, 8]) (rest := [9, 10, 11, 12, 13, 14, 15, 16, 17, 18, 19, 20, 21, 22, 23, 24, 25, 26, 27]) (cl := [⟨some (5, true), some 8, .bin 8 .eql (.t 7) (.c (.sc (.int .i64 1340)))⟩, ⟨none, some 9, .pick 9 (.t 5) (.t 8) (.c (.sc (.bool false)))⟩, ⟨none, some 10, .mov 10 (.t 9)⟩, ⟨some (10, true), some 11, .ld 11 4 true (.t 1)⟩]) hP hn (by kernel_rfl) (by simp; rfl) ?_
  have hr : (if mayB 1 1 1 1 = true then rv 1 (-3) else 0) = 1340 := by decide
  refine RunQ.call0G (r := i64 1340) (d := 12) (f := 15) (ss := [0, 0]) (cs := [.t 11, .c (.sc (.int .i64 (-3)))]) false hP hn rfl rfl rfl (by decide) (by simp) ⟨rfl, by decide, by kernel_rfl, _, _, rfl, rfl, by decide⟩ (by simp [trArgs, trA, trL, keyOf]) Try.call15 (hr ▸ rounds15 1 1 1 1 (-3)) (by simp) rfl ?_
  clear hr
  refine RunQ.seg' (idx := [10, 11, 12, 13]) (rest := [14, 15, 16, 17, 18, 19, 20, 21, 22, 23, 24, 25, 26, 27]) (cl := [⟨some (10, true), some 13, .bin 13 .eql (.t 12) (.c (.sc (.int .i64 1340)))⟩, ⟨none, some 14, .pick 14 (.t 10) (.t 13) (.c (.sc (.bool false)))⟩, ⟨none, some 15, .mov 15 (.t 14)⟩, ⟨some (15, true), some 16, .ld 16 4 true (.t 1)⟩]) hP hn (by kernel_rfl) (by simp; rfl) ?_
  have hr : (if mayB 1 1 1 1 = true then rv 1 1 else 0) = 1540 := by decide
  refine RunQ.call0G (r := i64 1540) (d := 17) (f := 15) (ss := [0, 0]) (cs := [.t 16, .c (.sc (.int .i64 1))]) false hP hn rfl rfl rfl (by decide) (by simp) ⟨rfl, by decide, by kernel_rfl, _, _, rfl, rfl, by decide⟩ (by simp [trArgs, trA, trL, keyOf]) Try.call15 (hr ▸ rounds15 1 1 1 1 1) (by simp) rfl ?_
  clear hr
  refine RunQ.seg' (idx := [15, 16, 17, 18]) (rest := [19, 20, 21, 22, 23, 24, 25, 26, 27]) (cl := [⟨some (15, true), some 18, .bin 18 .eql (.t 17) (.c (.sc (.int .i64 1540)))⟩, ⟨none, some 19, .pick 19 (.t 15) (.t 18) (.c (.sc (.bool false)))⟩, ⟨none, some 20, .mov 20 (.t 19)⟩, ⟨some (20, true), some 21, .build 21 [(.sc (.int .i64 0)), (.sc (.int .i64 0)), (.sc (.int .i64 0)), (.sc (.int .i64 0))] []⟩]) hP hn (by kernel_rfl) (by simp; rfl) ?_
  have hr : (if mayB 0 0 0 0 = true then rv 0 1 else 0) = 0 := by decide
  refine RunQ.call0G (r := i64 0) (d := 22) (f := 15) (ss := [0, 0]) (cs := [.t 21, .c (.sc (.int .i64 1))]) false hP hn rfl rfl rfl (by decide) (by simp) ⟨rfl, by decide, by kernel_rfl, _, _, rfl, rfl, by decide⟩ (by simp [trArgs, trA, trL, keyOf]) Try.call15 (hr ▸ rounds15 0 0 0 0 1) (by simp) rfl ?_
  clear hr
  refine RunQ.seg' (idx := [20, 21, 22, 23]) (rest := [24, 25, 26, 27]) (cl := [⟨some (20, true), some 23, .bin 23 .eql (.t 22) (.c (.sc (.int .i64 0)))⟩, ⟨none, some 24, .pick 24 (.t 20) (.t 23) (.c (.sc (.bool false)))⟩, ⟨none, some 25, .mov 25 (.t 24)⟩, ⟨some (25, true), some 26, .build 26 [(.sc (.int .i64 0)), (.sc (.int .i64 0)), (.sc (.int .i64 0)), (.sc (.int .i64 0))] []⟩]) hP hn (by kernel_rfl) (by simp; rfl) ?_
  refine RunQ.call0G (r := bl (mayB 0 0 0 0)) (d := 27) (f := 13) (ss := [0]) (cs := [.t 26]) false hP hn rfl rfl rfl (by decide) (by simp) ⟨rfl, by decide, by kernel_rfl, _, _, rfl, rfl, by decide⟩ (by simp [trArgs, trA, trL, keyOf]) Try.call13 (may13 0 0 0 0) (by simp) rfl ?_
  rw [may_zero]
  refine RunQ.all' (cl := [⟨some (25, true), some 28, .un 28 .not (.t 27)⟩, ⟨none, some 29, .pick 29 (.t 25) (.t 28) (.c (.sc (.bool false)))⟩, ⟨none, some 0, .asg 0 (.t 29)⟩]) hP hn (by kernel_rfl) (by simp; rfl) ?_
  refine AWp.ret ⟨.inr rfl, _, by simp [resX, resAll, resV1, gatherT, RS]; rfl, by simp [RS], fun j g h => by simp at h⟩
end Go.OT
