/- Part of the proofs: see the last file. -/
import Derived.Test.YtpdigppbokpdkaaBoA
import Derived.Test.YtpdigppbokpdkaaProg
import Derived.KernelRfl
set_option linter.unusedSimpArgs false
set_option linter.unusedVariables false
namespace Go.OT
open Go.Proofs
attribute [local simp] runC_eq runO_nil runO_cons stO_none stO_some stW_bool stW_bool' stp putV rd rdK ldV fnL_set setL fnL_nil_app fnL_cons_app boxV takeC takeO takeV tk flat noOwn noOwnL ldCells faddrV finB treeV Value.oneCell' ownRaw asgV scBin scUn scMx nx AV.isNode AV.isNon onlyK kp_fnL H fnL_boxM boxM boxM.boxN boxE_eq List.range List.range.loop tkL gather_zero gather_succ clr_zero clr_succ AV.parts? roots


set_option maxHeartbeats 4000000 in
theorem may14 (p f s c : Int) : Fn Try.prog 14 [] [.agg [i64 p, i64 f, i64 s, i64 c]] [] (bl (mayB p f s c)) := by
  refine Fn.of_body' 43 1 [.t 2] Try.func14 (by rfl) (by kernel_rfl) rfl fun C hP hn => ?_
  rw [init1]
  refine AWp.sregL [(100, 0, .bptr 1 1 0), (101, 0, i64 p), (102, 0, i64 f), (103, 0, i64 s), (104, 0, i64 c), (199, 1, .non)] (cl := [⟨none, some 1, .box 1 (.t 0)⟩, ⟨none, some 2, .asg 2 (.c (.sc (.bool false)))⟩]) hP hn (by kernel_rfl) ⟨_, by simp; rfl, by simp⟩ rfl ?_
  refine AWp.sregL [(200, 0, bl (mayB p f s c))] (cl := [⟨none, some 3, .faddr 3 0 (.t 1)⟩, ⟨none, some 4, .ld 4 1 false (.t 3)⟩, ⟨none, some 5, .bin 5 .geq (.t 4) (.c (.sc (.int .i64 1)))⟩, ⟨none, some 6, .mov 6 (.t 5)⟩, ⟨some (6, true), some 7, .faddr 7 0 (.t 1)⟩, ⟨some (6, true), some 8, .ld 8 1 false (.t 7)⟩, ⟨some (6, true), some 9, .bin 9 .leq (.t 8) (.c (.sc (.int .i64 48)))⟩, ⟨none, some 10, .pick 10 (.t 6) (.t 9) (.c (.sc (.bool false)))⟩, ⟨none, some 11, .mov 11 (.t 10)⟩, ⟨some (11, true), some 12, .faddr 12 2 (.t 1)⟩, ⟨some (11, true), some 13, .ld 13 1 false (.t 12)⟩, ⟨some (11, true), some 14, .bin 14 .geq (.t 13) (.c (.sc (.int .i64 1)))⟩, ⟨none, some 15, .pick 15 (.t 11) (.t 14) (.c (.sc (.bool false)))⟩, ⟨none, some 16, .mov 16 (.t 15)⟩, ⟨some (16, true), some 17, .faddr 17 2 (.t 1)⟩, ⟨some (16, true), some 18, .ld 18 1 false (.t 17)⟩, ⟨some (16, true), some 19, .bin 19 .leq (.t 18) (.c (.sc (.int .i64 4)))⟩, ⟨none, some 20, .pick 20 (.t 16) (.t 19) (.c (.sc (.bool false)))⟩, ⟨none, some 21, .mov 21 (.t 20)⟩, ⟨some (21, true), some 22, .faddr 22 3 (.t 1)⟩, ⟨some (21, true), some 23, .ld 23 1 false (.t 22)⟩, ⟨some (21, true), some 24, .bin 24 .geq (.t 23) (.c (.sc (.int .i64 1)))⟩, ⟨none, some 25, .pick 25 (.t 21) (.t 24) (.c (.sc (.bool false)))⟩, ⟨none, some 26, .mov 26 (.t 25)⟩, ⟨some (26, true), some 27, .faddr 27 3 (.t 1)⟩, ⟨some (26, true), some 28, .ld 28 1 false (.t 27)⟩, ⟨some (26, true), some 29, .bin 29 .leq (.t 28) (.c (.sc (.int .i64 6)))⟩, ⟨none, some 30, .pick 30 (.t 26) (.t 29) (.c (.sc (.bool false)))⟩, ⟨none, some 31, .mov 31 (.t 30)⟩, ⟨some (31, true), some 32, .faddr 32 1 (.t 1)⟩, ⟨some (31, true), some 33, .ld 33 1 false (.t 32)⟩, ⟨some (31, true), some 34, .faddr 34 2 (.t 1)⟩, ⟨some (31, true), some 35, .ld 35 1 false (.t 34)⟩, ⟨some (31, true), some 36, .bin 36 .geq (.t 33) (.t 35)⟩, ⟨none, some 37, .pick 37 (.t 31) (.t 36) (.c (.sc (.bool false)))⟩, ⟨none, some 38, .mov 38 (.t 37)⟩, ⟨some (38, true), some 39, .faddr 39 1 (.t 1)⟩, ⟨some (38, true), some 40, .ld 40 1 false (.t 39)⟩, ⟨some (38, true), some 41, .bin 41 .leq (.t 40) (.c (.sc (.int .i64 32)))⟩, ⟨none, some 42, .pick 42 (.t 38) (.t 41) (.c (.sc (.bool false)))⟩, ⟨none, some 2, .asg 2 (.t 42)⟩]) hP hn (by kernel_rfl) ?_ rfl ?_
  · skip
    by_cases h0 : 1 ≤ p
    case neg => simp [mayB, h0]
    by_cases h1 : p ≤ 48
    case neg => simp [mayB, h0, h1]
    by_cases h2 : 1 ≤ s
    case neg => simp [mayB, h0, h1, h2]
    by_cases h3 : s ≤ 4
    case neg => simp [mayB, h0, h1, h2, h3]
    by_cases h4 : 1 ≤ c
    case neg => simp [mayB, h0, h1, h2, h3, h4]
    by_cases h5 : c ≤ 6
    case neg => simp [mayB, h0, h1, h2, h3, h4, h5]
    by_cases h6 : s ≤ f
    case neg => simp [mayB, h0, h1, h2, h3, h4, h5, h6]
    by_cases h7 : f ≤ 32
    case neg => simp [mayB, h0, h1, h2, h3, h4, h5, h6, h7]
    simp [mayB, h0, h1, h2, h3, h4, h5, h6, h7]
  refine AWp.ret ⟨.inr rfl, _, by simp [resX, resAll, resV1, gatherT, RS]; rfl, by simp [Fin, RS], fun j g h => by simp at h⟩

end Go.OT
