/- Part of the proofs: see the last file. -/
import Derived.Test.YtpdigppbokpdkaaBoB
import Derived.Test.YtpdigppbokpdkaaProg
import Derived.KernelRfl
set_option linter.unusedSimpArgs false
set_option linter.unusedVariables false
namespace Go.OT
open Go.Proofs
attribute [local simp] runC_eq runO_nil runO_cons stO_none stO_some stW_bool stW_bool' stp putV rd rdK ldV fnL_set setL fnL_nil_app fnL_cons_app boxV takeC takeO takeV tk flat noOwn noOwnL ldCells faddrV finB treeV Value.oneCell' ownRaw asgV scBin scUn scMx nx AV.isNode AV.isNon onlyK kp_fnL H fnL_boxM boxM boxM.boxN boxE_eq List.range List.range.loop tkL gather_zero gather_succ clr_zero clr_succ AV.parts? roots


/-- The number of rounds. -/
def rv (s n : Int) : Int := IntKind.wrap .i64 (IntKind.wrap .i64 (IntKind.wrap .i64 (600 + IntKind.wrap .i64 (100 * s)) + 640) + IntKind.wrap .i64 (200 * (let m := (if 0 > n then 0 else n); if 100000 < m then 100000 else m)))

set_option maxHeartbeats 4000000 in
theorem rounds15 (p f s c n : Int) : Fn Try.prog 15 [] [.agg [i64 p, i64 f, i64 s, i64 c], i64 n] [] (i64 (if mayB p f s c = true then rv s n else 0)) := by
  refine Fn.of_body' 18 2 [.t 4] Try.func15 (by rfl) (by kernel_rfl) rfl fun C hP hn => ?_
  rw [init_args _ (by simp)]
  simp only [argsL]
  refine AWp.sregL [(100, 0, i64 n), (200, 0, .bptr 2 1 0), (201, 0, i64 p), (202, 0, i64 f), (203, 0, i64 s), (204, 0, i64 c), (299, 1, .non)] (cl := [⟨none, some 2, .box 2 (.t 0)⟩, ⟨none, some 4, .asg 4 (.c (.sc (.int .i64 0)))⟩]) hP hn (by kernel_rfl) (by simp) rfl ?_
  refine AWp.seq ?_
  refine AWp.seq ?_
  refine AWp.post_kp [100, 200, 201, 202, 203, 204, 299, 700] (AWp.regQ ?_)
  refine RunQ.seg' (idx := [0]) (rest := [1, 2]) (cl := [⟨none, some 5, .ld 5 4 true (.t 2)⟩]) hP hn (by kernel_rfl) (by simp; rfl) ?_
  refine RunQ.call0 (r := bl (mayB p f s c)) (d := 6) (f := 13) (ss := [0]) (cs := [.t 5]) false hP hn rfl rfl ⟨rfl, by decide, by kernel_rfl, _, _, rfl, rfl, by decide⟩ (by simp [trArgs, trA, trL, keyOf]) Try.call13 (may13 p f s c) (by simp) rfl ?_
  refine RunQ.all' (cl := [⟨none, some 7, .un 7 .not (.t 6)⟩]) hP hn (by kernel_rfl) (by simp; rfl) ?_
  refine ⟨by simp, ?_⟩
  refine AWp.cond (sz := 0) (co := .t 7) (b := !(mayB p f s c)) (by rw [hn]; rfl) (by simp) (fun h => ?_) (fun h => ?_)
  · refine AWp.sregL [(400, 0, i64 0)] (cl := [⟨none, some 4, .asg 4 (.c (.sc (.int .i64 0)))⟩]) hP hn (by kernel_rfl) (by simp) rfl ?_
    refine AWp.ret ⟨.inr rfl, _, by simp [resX, resAll, resV1, gatherT, RS]; rfl, ?_, fun j g h => by simp at h⟩
    simp at h
    simp [RS, h]
  · refine AWp.skip ?_
    show AWp C _ _ _
    refine AWp.sregL [(400, 0, i64 (rv s n))] (cl := [⟨none, some 8, .faddr 8 2 (.t 2)⟩, ⟨none, some 9, .ld 9 1 false (.t 8)⟩, ⟨none, some 10, .bin 10 .mul (.c (.sc (.int .i64 100))) (.t 9)⟩, ⟨none, some 11, .bin 11 .add (.c (.sc (.int .i64 600))) (.t 10)⟩, ⟨none, some 12, .bin 12 .add (.t 11) (.c (.sc (.int .i64 640)))⟩, ⟨none, some 13, .mov 13 (.t 1)⟩, ⟨none, some 14, .mx 14 true (.t 13) (.c (.sc (.int .i64 0)))⟩, ⟨none, some 15, .mx 15 false (.t 14) (.c (.sc (.int .i64 100000)))⟩, ⟨none, some 16, .bin 16 .mul (.c (.sc (.int .i64 200))) (.t 15)⟩, ⟨none, some 17, .bin 17 .add (.t 12) (.t 16)⟩, ⟨none, some 4, .asg 4 (.t 17)⟩]) hP hn (by kernel_rfl) (by simp [rv]) rfl ?_
    refine AWp.ret ⟨.inr rfl, _, by simp [resX, resAll, resV1, gatherT, RS]; rfl, ?_, fun j g h => by simp at h⟩
    simp at h
    simp [RS, h]

set_option maxHeartbeats 4000000 in
theorem rounds16 (p f s c n : Int) : Fn Try.prog 16 [] [.agg [i64 p, i64 f, i64 s, i64 c], i64 n] [] (i64 (if mayB p f s c = true then rv s n else 0)) := by
  refine Fn.of_body' 18 2 [.t 4] Try.func16 (by rfl) (by kernel_rfl) rfl fun C hP hn => ?_
  rw [init_args _ (by simp)]
  simp only [argsL]
  refine AWp.sregL [(100, 0, i64 n), (200, 0, .bptr 2 1 0), (201, 0, i64 p), (202, 0, i64 f), (203, 0, i64 s), (204, 0, i64 c), (299, 1, .non)] (cl := [⟨none, some 2, .box 2 (.t 0)⟩, ⟨none, some 4, .asg 4 (.c (.sc (.int .i64 0)))⟩]) hP hn (by kernel_rfl) (by simp) rfl ?_
  refine AWp.seq ?_
  refine AWp.seq ?_
  refine AWp.post_kp [100, 200, 201, 202, 203, 204, 299, 700] (AWp.regQ ?_)
  refine RunQ.seg' (idx := [0]) (rest := [1, 2]) (cl := [⟨none, some 5, .ld 5 4 true (.t 2)⟩]) hP hn (by kernel_rfl) (by simp; rfl) ?_
  refine RunQ.call0 (r := bl (mayB p f s c)) (d := 6) (f := 14) (ss := [0]) (cs := [.t 5]) false hP hn rfl rfl ⟨rfl, by decide, by kernel_rfl, _, _, rfl, rfl, by decide⟩ (by simp [trArgs, trA, trL, keyOf]) Try.call14 (may14 p f s c) (by simp) rfl ?_
  refine RunQ.all' (cl := [⟨none, some 7, .un 7 .not (.t 6)⟩]) hP hn (by kernel_rfl) (by simp; rfl) ?_
  refine ⟨by simp, ?_⟩
  refine AWp.cond (sz := 0) (co := .t 7) (b := !(mayB p f s c)) (by rw [hn]; rfl) (by simp) (fun h => ?_) (fun h => ?_)
  · refine AWp.sregL [(400, 0, i64 0)] (cl := [⟨none, some 4, .asg 4 (.c (.sc (.int .i64 0)))⟩]) hP hn (by kernel_rfl) (by simp) rfl ?_
    refine AWp.ret ⟨.inr rfl, _, by simp [resX, resAll, resV1, gatherT, RS]; rfl, ?_, fun j g h => by simp at h⟩
    simp at h
    simp [RS, h]
  · refine AWp.skip ?_
    show AWp C _ _ _
    refine AWp.sregL [(400, 0, i64 (rv s n))] (cl := [⟨none, some 8, .faddr 8 2 (.t 2)⟩, ⟨none, some 9, .ld 9 1 false (.t 8)⟩, ⟨none, some 10, .bin 10 .mul (.c (.sc (.int .i64 100))) (.t 9)⟩, ⟨none, some 11, .bin 11 .add (.c (.sc (.int .i64 600))) (.t 10)⟩, ⟨none, some 12, .bin 12 .add (.t 11) (.c (.sc (.int .i64 640)))⟩, ⟨none, some 13, .mov 13 (.t 1)⟩, ⟨none, some 14, .mx 14 true (.t 13) (.c (.sc (.int .i64 0)))⟩, ⟨none, some 15, .mx 15 false (.t 14) (.c (.sc (.int .i64 100000)))⟩, ⟨none, some 16, .bin 16 .mul (.c (.sc (.int .i64 200))) (.t 15)⟩, ⟨none, some 17, .bin 17 .add (.t 12) (.t 16)⟩, ⟨none, some 4, .asg 4 (.t 17)⟩]) hP hn (by kernel_rfl) (by simp [rv]) rfl ?_
    refine AWp.ret ⟨.inr rfl, _, by simp [resX, resAll, resV1, gatherT, RS]; rfl, ?_, fun j g h => by simp at h⟩
    simp at h
    simp [RS, h]
end Go.OT
