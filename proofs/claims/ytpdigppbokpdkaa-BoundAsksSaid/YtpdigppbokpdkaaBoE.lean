/- Part of the proofs: see the last file. -/
import Derived.Test.YtpdigppbokpdkaaBoD
import Derived.Test.YtpdigppbokpdkaaOtZa
import Derived.Test.YtpdigppbokpdkaaProg
import Derived.KernelRfl
set_option linter.unusedSimpArgs false
set_option linter.unusedVariables false
namespace Go.OT
open Go.Proofs
attribute [local simp] unitK runC_eq runO_nil runO_cons stO_none stO_some stW_bool stW_bool' stp putV rd rdK ldV fnL_set setL fnL_nil_app fnL_cons_app boxV takeC takeO takeV tk flat noOwn noOwnL ldCells faddrV finB treeV Value.oneCell' ownRaw asgV scBin scUn scMx nx AV.isNode AV.isNon onlyK kp_fnL H fnL_boxM boxM boxM.boxN boxE_eq List.range List.range.loop tkL gather_zero gather_succ clr_zero clr_succ AV.parts? roots




set_option maxHeartbeats 4000000 in
theorem asks3 (p f s c n : Int) : Fn Try.prog 3 [] [.agg [i64 p, i64 f, i64 s, i64 c], i64 n] [] (bl true) := by
  refine Fn.of_body' 22 2 [.t 4] Try.func3 (by rfl) (by kernel_rfl) rfl fun C hP hn => ?_
  rw [init_args _ (by simp)]
  simp only [argsL]
  refine AWp.sregL [(100, 0, i64 n), (200, 0, .bptr 2 1 0), (201, 0, i64 p), (202, 0, i64 f), (203, 0, i64 s), (204, 0, i64 c), (299, 1, .non), (400, 0, bl false)] (cl := [⟨none, some 2, .box 2 (.t 0)⟩, ⟨none, some 4, .asg 4 (.c (.sc (.bool false)))⟩]) hP hn (by kernel_rfl) (by simp) rfl ?_
  refine AWp.seq ?_
  refine AWp.drawQ (pl := [[], [0, 0], [1], [2, 1, 1], [1], [4, 3, 1], [3, 5, 1], [1, 6], [7, 5], [8], [8], [9, 10, 8, 8], [8], [8], [12, 13, 11, 8], [11, 14, 8], [8, 15], [16, 14, 0, 1, 2, 3, 4, 5, 6, 7, 8, 9, 10, 11, 12, 13, 14, 15, 16]]) [([10], [10]), ([10, 12], [12]), ([4, 5, 12, 14], [14]), ([12, 14, 16], [16]), ([4, 5, 12, 18], [18]), ([12, 18, 20], [20]), ([12, 16, 20, 22], [22]), ([12, 22, 24], [24]), ([24, 26], [26]), ([4, 5, 26, 28], [28]), ([2, 26, 30], [30]), ([26, 28, 30, 32], [32]), ([4, 5, 26, 34], [34]), ([2, 26, 36], [36]), ([26, 34, 36, 38], [38]), ([26, 32, 38, 40], [40]), ([26, 40, 42], [42]), ([8, 42], [8])] hP (by kernel_rfl) (by kernel_rfl) (by kernel_rfl) ?_
  refine LRunQ.call0 (r := (bl true)) (d := 5) (f := 12) (ss := []) (cs := []) false hP hn rfl rfl ⟨rfl, by decide, by kernel_rfl, _, _, rfl, rfl, by decide⟩ rfl (fun X hX => by have hX' : ∀ k, unitK k ∈ ([10] : List Nat) → X k = fnL _ k := hX; simp [hX', trArgs, trA, trL, keyOf]) Try.call12 (told12) (by simp) rfl ?_
  rw [fnL_set]; simp only [setL, nx, AV.isNode, Nat.reduceEqDiff, Nat.reduceMul, reduceIte, Bool.false_eq_true]
  refine LRunQ.op (c := ⟨none, some 6, .mov 6 (.t 5)⟩) (d := 6) (v := (bl true)) hP hn rfl (by kernel_rfl) rfl (fun X hX => by have hX' : ∀ k, unitK k ∈ ([10, 12] : List Nat) → X k = fnL _ k := hX; simp [hX', unitK]) ?_
  rw [fnL_set]; simp only [setL, nx, AV.isNode, Nat.reduceEqDiff, Nat.reduceMul, reduceIte, Bool.false_eq_true]
  refine LRunQ.op (c := ⟨some (6, true), some 7, .ld 7 4 true (.t 2)⟩) (d := 7) (v := (.agg [i64 p, i64 f, i64 s, i64 c])) hP hn rfl (by kernel_rfl) rfl (fun X hX => by have hX' : ∀ k, unitK k ∈ ([4, 5, 12, 14] : List Nat) → X k = fnL _ k := hX; simp [hX', unitK]) ?_
  rw [fnL_set]; simp only [setL, nx, AV.isNode, Nat.reduceEqDiff, Nat.reduceMul, reduceIte, Bool.false_eq_true]
  refine LRunQ.call0G (r := (bl (mayB p f s c))) (d := 8) (f := 13) (ss := [0]) (cs := [.t 7]) false hP hn rfl rfl rfl (by decide) ⟨rfl, by decide, by kernel_rfl, _, _, rfl, rfl, by decide⟩ rfl (fun X hX => by have hX' : ∀ k, unitK k ∈ ([12, 14, 16] : List Nat) → X k = fnL _ k := hX; simp [hX', unitK]) (fun X hX => by have hX' : ∀ k, unitK k ∈ ([12, 14, 16] : List Nat) → X k = fnL _ k := hX; simp [hX', trArgs, trA, trL, keyOf]) Try.call13 (may13 p f s c) (by simp) rfl ?_
  rw [fnL_set]; simp only [setL, nx, AV.isNode, Nat.reduceEqDiff, Nat.reduceMul, reduceIte, Bool.false_eq_true]
  refine LRunQ.op (c := ⟨some (6, true), some 9, .ld 9 4 true (.t 2)⟩) (d := 9) (v := (.agg [i64 p, i64 f, i64 s, i64 c])) hP hn rfl (by kernel_rfl) rfl (fun X hX => by have hX' : ∀ k, unitK k ∈ ([4, 5, 12, 18] : List Nat) → X k = fnL _ k := hX; simp [hX', unitK]) ?_
  rw [fnL_set]; simp only [setL, nx, AV.isNode, Nat.reduceEqDiff, Nat.reduceMul, reduceIte, Bool.false_eq_true]
  refine LRunQ.call0G (r := (bl (mayB p f s c))) (d := 10) (f := 14) (ss := [0]) (cs := [.t 9]) false hP hn rfl rfl rfl (by decide) ⟨rfl, by decide, by kernel_rfl, _, _, rfl, rfl, by decide⟩ rfl (fun X hX => by have hX' : ∀ k, unitK k ∈ ([12, 18, 20] : List Nat) → X k = fnL _ k := hX; simp [hX', unitK]) (fun X hX => by have hX' : ∀ k, unitK k ∈ ([12, 18, 20] : List Nat) → X k = fnL _ k := hX; simp [hX', trArgs, trA, trL, keyOf]) Try.call14 (may14 p f s c) (by simp) rfl ?_
  rw [fnL_set]; simp only [setL, nx, AV.isNode, Nat.reduceEqDiff, Nat.reduceMul, reduceIte, Bool.false_eq_true]
  refine LRunQ.op (c := ⟨some (6, true), some 11, .beq 11 true (.t 8) (.t 10)⟩) (d := 11) (v := (bl true)) hP hn rfl (by kernel_rfl) rfl (fun X hX => by have hX' : ∀ k, unitK k ∈ ([12, 16, 20, 22] : List Nat) → X k = fnL _ k := hX; simp [hX', unitK]) ?_
  rw [fnL_set]; simp only [setL, nx, AV.isNode, Nat.reduceEqDiff, Nat.reduceMul, reduceIte, Bool.false_eq_true]
  refine LRunQ.op (c := ⟨none, some 12, .pick 12 (.t 6) (.t 11) (.c (.sc (.bool false)))⟩) (d := 12) (v := (bl true)) hP hn rfl (by kernel_rfl) rfl (fun X hX => by have hX' : ∀ k, unitK k ∈ ([12, 22, 24] : List Nat) → X k = fnL _ k := hX; simp [hX', unitK]) ?_
  rw [fnL_set]; simp only [setL, nx, AV.isNode, Nat.reduceEqDiff, Nat.reduceMul, reduceIte, Bool.false_eq_true]
  refine LRunQ.op (c := ⟨none, some 13, .mov 13 (.t 12)⟩) (d := 13) (v := (bl true)) hP hn rfl (by kernel_rfl) rfl (fun X hX => by have hX' : ∀ k, unitK k ∈ ([24, 26] : List Nat) → X k = fnL _ k := hX; simp [hX', unitK]) ?_
  rw [fnL_set]; simp only [setL, nx, AV.isNode, Nat.reduceEqDiff, Nat.reduceMul, reduceIte, Bool.false_eq_true]
  refine LRunQ.op (c := ⟨some (13, true), some 14, .ld 14 4 true (.t 2)⟩) (d := 14) (v := (.agg [i64 p, i64 f, i64 s, i64 c])) hP hn rfl (by kernel_rfl) rfl (fun X hX => by have hX' : ∀ k, unitK k ∈ ([4, 5, 26, 28] : List Nat) → X k = fnL _ k := hX; simp [hX', unitK]) ?_
  rw [fnL_set]; simp only [setL, nx, AV.isNode, Nat.reduceEqDiff, Nat.reduceMul, reduceIte, Bool.false_eq_true]
  refine LRunQ.op (c := ⟨some (13, true), some 15, .mov 15 (.t 1)⟩) (d := 15) (v := (i64 n)) hP hn rfl (by kernel_rfl) rfl (fun X hX => by have hX' : ∀ k, unitK k ∈ ([2, 26, 30] : List Nat) → X k = fnL _ k := hX; simp [hX', unitK]) ?_
  rw [fnL_set]; simp only [setL, nx, AV.isNode, Nat.reduceEqDiff, Nat.reduceMul, reduceIte, Bool.false_eq_true]
  refine LRunQ.call0G (r := (i64 (if mayB p f s c = true then rv s n else 0))) (d := 16) (f := 15) (ss := [0, 0]) (cs := [.t 14, .t 15]) false hP hn rfl rfl rfl (by decide) ⟨rfl, by decide, by kernel_rfl, _, _, rfl, rfl, by decide⟩ rfl (fun X hX => by have hX' : ∀ k, unitK k ∈ ([26, 28, 30, 32] : List Nat) → X k = fnL _ k := hX; simp [hX', unitK]) (fun X hX => by have hX' : ∀ k, unitK k ∈ ([26, 28, 30, 32] : List Nat) → X k = fnL _ k := hX; simp [hX', trArgs, trA, trL, keyOf]) Try.call15 (rounds15 p f s c n) (by simp) rfl ?_
  rw [fnL_set]; simp only [setL, nx, AV.isNode, Nat.reduceEqDiff, Nat.reduceMul, reduceIte, Bool.false_eq_true]
  refine LRunQ.op (c := ⟨some (13, true), some 17, .ld 17 4 true (.t 2)⟩) (d := 17) (v := (.agg [i64 p, i64 f, i64 s, i64 c])) hP hn rfl (by kernel_rfl) rfl (fun X hX => by have hX' : ∀ k, unitK k ∈ ([4, 5, 26, 34] : List Nat) → X k = fnL _ k := hX; simp [hX', unitK]) ?_
  rw [fnL_set]; simp only [setL, nx, AV.isNode, Nat.reduceEqDiff, Nat.reduceMul, reduceIte, Bool.false_eq_true]
  refine LRunQ.op (c := ⟨some (13, true), some 18, .mov 18 (.t 1)⟩) (d := 18) (v := (i64 n)) hP hn rfl (by kernel_rfl) rfl (fun X hX => by have hX' : ∀ k, unitK k ∈ ([2, 26, 36] : List Nat) → X k = fnL _ k := hX; simp [hX', unitK]) ?_
  rw [fnL_set]; simp only [setL, nx, AV.isNode, Nat.reduceEqDiff, Nat.reduceMul, reduceIte, Bool.false_eq_true]
  refine LRunQ.call0G (r := (i64 (if mayB p f s c = true then rv s n else 0))) (d := 19) (f := 16) (ss := [0, 0]) (cs := [.t 17, .t 18]) false hP hn rfl rfl rfl (by decide) ⟨rfl, by decide, by kernel_rfl, _, _, rfl, rfl, by decide⟩ rfl (fun X hX => by have hX' : ∀ k, unitK k ∈ ([26, 34, 36, 38] : List Nat) → X k = fnL _ k := hX; simp [hX', unitK]) (fun X hX => by have hX' : ∀ k, unitK k ∈ ([26, 34, 36, 38] : List Nat) → X k = fnL _ k := hX; simp [hX', trArgs, trA, trL, keyOf]) Try.call16 (rounds16 p f s c n) (by simp) rfl ?_
  rw [fnL_set]; simp only [setL, nx, AV.isNode, Nat.reduceEqDiff, Nat.reduceMul, reduceIte, Bool.false_eq_true]
  refine LRunQ.op (c := ⟨some (13, true), some 20, .bin 20 .eql (.t 16) (.t 19)⟩) (d := 20) (v := (bl true)) hP hn rfl (by kernel_rfl) rfl (fun X hX => by have hX' : ∀ k, unitK k ∈ ([26, 32, 38, 40] : List Nat) → X k = fnL _ k := hX; simp [hX', unitK]) ?_
  rw [fnL_set]; simp only [setL, nx, AV.isNode, Nat.reduceEqDiff, Nat.reduceMul, reduceIte, Bool.false_eq_true]
  refine LRunQ.op (c := ⟨none, some 21, .pick 21 (.t 13) (.t 20) (.c (.sc (.bool false)))⟩) (d := 21) (v := (bl true)) hP hn rfl (by kernel_rfl) rfl (fun X hX => by have hX' : ∀ k, unitK k ∈ ([26, 40, 42] : List Nat) → X k = fnL _ k := hX; simp [hX', unitK]) ?_
  rw [fnL_set]; simp only [setL, nx, AV.isNode, Nat.reduceEqDiff, Nat.reduceMul, reduceIte, Bool.false_eq_true]
  refine LRunQ.op (c := ⟨none, some 4, .asg 4 (.t 21)⟩) (d := 4) (v := (bl true)) hP hn rfl (by kernel_rfl) rfl (fun X hX => by have hX' : ∀ k, unitK k ∈ ([8, 42] : List Nat) → X k = fnL _ k := hX; simp [hX', unitK]) ?_
  rw [fnL_set]; simp only [setL, nx, AV.isNode, Nat.reduceEqDiff, Nat.reduceMul, reduceIte, Bool.false_eq_true]
  refine LRunQ.nil rfl ?_
  refine AWp.ret ⟨.inr rfl, _, by simp [resX, resAll, resV1, gatherT, RS]; rfl, by simp [RS], fun j g h => by simp at h⟩
end Go.OT
