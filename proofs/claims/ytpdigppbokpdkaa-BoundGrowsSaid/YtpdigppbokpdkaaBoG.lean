/- Part of the proofs: see the last file. -/
import Derived.Test.YtpdigppbokpdkaaBoD
import Derived.Test.YtpdigppbokpdkaaOtZa
import Derived.Test.YtpdigppbokpdkaaProg
import Derived.KernelRfl
set_option linter.unusedSimpArgs false
set_option linter.unusedVariables false
namespace Go.OT
open Go.Proofs
attribute [local simp] fillU setR cellsU allocV stV putA put1 shiftA unitK runC_eq runO_nil runO_cons stO_none stO_some stW_bool stW_bool' stp putV rd rdK ldV fnL_set setL fnL_nil_app fnL_cons_app boxV takeC takeO takeV tk flat noOwn noOwnL ldCells faddrV finB treeV Value.oneCell' ownRaw asgV scBin scUn scMx nx AV.isNode AV.isNon onlyK kp_fnL H fnL_boxM boxM boxM.boxN boxE_eq List.range List.range.loop tkL gather_zero gather_succ clr_zero clr_succ AV.parts? roots




def Nf (a : Int) : Int := IntKind.wrap .i64 (Int.tmod (IntKind.wrap .u64 a) 10000)
def Kf (b : Int) : Int := IntKind.wrap .i64 (1 + IntKind.wrap .i64 (Int.tmod (IntKind.wrap .u64 b) 3))
theorem wrap_small (x : Int) (h1 : -9223372036854775808 ≤ x) (h2 : x ≤ 9223372036854775807) : IntKind.wrap .i64 x = x := by
  simp [IntKind.wrap, IntKind.bits, IntKind.signed]
  omega
theorem wrapu_nonneg (x : Int) : 0 ≤ IntKind.wrap .u64 x := by
  simp [IntKind.wrap, IntKind.bits, IntKind.signed]
  omega
theorem Nf_bd (a : Int) : 0 ≤ Nf a ∧ Nf a < 10000 := by
  have h := wrapu_nonneg a
  have h1 := Int.tmod_nonneg 10000 h
  have h2 := Int.tmod_lt_of_pos (IntKind.wrap .u64 a) (show (0 : Int) < 10000 by decide)
  unfold Nf
  rw [wrap_small _ (by omega) (by omega)]
  exact ⟨h1, h2⟩
theorem Kf_bd (b : Int) : 1 ≤ Kf b ∧ Kf b ≤ 3 := by
  have h := wrapu_nonneg b
  have h1 := Int.tmod_nonneg 3 h
  have h2 := Int.tmod_lt_of_pos (IntKind.wrap .u64 b) (show (0 : Int) < 3 by decide)
  unfold Kf
  rw [wrap_small (Int.tmod _ _) (by omega) (by omega), wrap_small _ (by omega) (by omega)]
  omega
theorem rounds_small (s n : Int) (h1 : 1 ≤ s) (h2 : s ≤ 4) (h3 : 0 ≤ n) (h4 : n ≤ 100000) : Fn Try.prog 15 [] [.agg [i64 5, i64 8, i64 s, i64 2], i64 n] [] (i64 (1240 + 100 * s + 200 * n)) := by
  have hm : mayB 5 8 s 2 = true := by simp [mayB]; omega
  have hv : rv s n = 1240 + 100 * s + 200 * n := by
    simp only [rv]
    rw [if_neg (by omega : ¬ 0 > n), if_neg (by omega : ¬ 100000 < n), wrap_small (100 * s) (by omega) (by omega), wrap_small (600 + 100 * s) (by omega) (by omega), wrap_small (600 + 100 * s + 640) (by omega) (by omega), wrap_small (200 * n) (by omega) (by omega), wrap_small _ (by omega) (by omega)]
    omega
  have h := rounds15 5 8 s 2 n
  rw [hm, if_pos rfl, hv] at h
  exact h

set_option maxHeartbeats 4000000 in
theorem grows4 (a b : Int) : Fn Try.prog 4 [] [i64 a, i64 b] [] (bl true) := by
  have hn0 := (Nf_bd a).1
  have hn1 := (Nf_bd a).2
  have hk1 := (Kf_bd b).1
  have hk2 := (Kf_bd b).2
  have hN1 : IntKind.wrap .i64 (Nf a + 1) = Nf a + 1 := wrap_small _ (by omega) (by omega)
  have hK1 : IntKind.wrap .i64 (Kf b + 1) = Kf b + 1 := wrap_small _ (by omega) (by omega)
  have hs1 : IntKind.wrap .i64 (1240 + 100 * Kf b + 200 * (Nf a + 1) - (1240 + 100 * Kf b + 200 * Nf a)) = 200 := by rw [wrap_small _ (by omega) (by omega)]; omega
  have hs2 : IntKind.wrap .i64 (1240 + 100 * (Kf b + 1) + 200 * Nf a - (1240 + 100 * Kf b + 200 * Nf a)) = 100 := by rw [wrap_small _ (by omega) (by omega)]; omega
  refine Fn.of_body' 46 2 [.t 4] Try.func4 (by rfl) (by kernel_rfl) rfl fun C hP hn => ?_
  rw [init_args _ (by simp)]
  simp only [argsL]
  refine AWp.sregL [(0, 0, i64 a), (100, 0, i64 b), (400, 0, bl false)] (cl := [⟨none, some 4, .asg 4 (.c (.sc (.bool false)))⟩]) hP hn (by kernel_rfl) (by simp) rfl ?_
  refine AWp.sregL [(400, 0, bl false), (500, 0, i64 (Nf a)), (600, 0, i64 (Kf b))] (cl := [⟨none, some 9, .mov 9 (.t 0)⟩, ⟨none, some 10, .conv 10 .u64 (.t 9)⟩, ⟨none, some 11, .bin 11 .rem (.t 10) (.c (.sc (.int .u64 10000)))⟩, ⟨none, some 12, .conv 12 .i64 (.t 11)⟩, ⟨none, some 13, .mov 13 (.t 1)⟩, ⟨none, some 14, .conv 14 .u64 (.t 13)⟩, ⟨none, some 15, .bin 15 .rem (.t 14) (.c (.sc (.int .u64 3)))⟩, ⟨none, some 16, .conv 16 .i64 (.t 15)⟩, ⟨none, some 17, .bin 17 .add (.c (.sc (.int .i64 1))) (.t 16)⟩, ⟨none, some 5, .asg 5 (.t 12)⟩, ⟨none, some 6, .asg 6 (.t 17)⟩]) hP hn (by kernel_rfl) (by simp [Nf, Kf]) rfl ?_
  refine AWp.sregL [(400, 0, bl false), (500, 0, i64 (Nf a)), (600, 0, i64 (Kf b)), (700, 0, .bptr 7 1 0), (701, 0, i64 5), (702, 0, i64 8), (703, 0, i64 (Kf b)), (704, 0, i64 2), (799, 1, .non)] (cl := [⟨none, some 18, .mov 18 (.t 6)⟩, ⟨none, some 19, .build 19 [(.sc (.int .i64 0)), (.sc (.int .i64 0)), (.sc (.int .i64 0)), (.sc (.int .i64 0))] [(0, 1, (.c (.sc (.int .i64 5)))), (1, 1, (.c (.sc (.int .i64 8)))), (2, 1, (.t 18)), (3, 1, (.c (.sc (.int .i64 2))))]⟩, ⟨none, some 7, .alloc 7 [(.sc (.int .i64 0)), (.sc (.int .i64 0)), (.sc (.int .i64 0)), (.sc (.int .i64 0))]⟩, ⟨none, none, .st 4 (.t 7) (.t 19)⟩]) hP hn (by kernel_rfl) (by simp) rfl ?_
  refine AWp.sregL [(400, 0, bl false), (500, 0, i64 (Nf a)), (600, 0, i64 (Kf b)), (700, 0, .bptr 7 1 0), (701, 0, i64 5), (702, 0, i64 8), (703, 0, i64 (Kf b)), (704, 0, i64 2), (799, 1, .non), (800, 0, .bptr 8 1 0), (801, 0, i64 5), (802, 0, i64 8), (803, 0, i64 (Kf b)), (804, 0, i64 2), (899, 1, .non)] (cl := [⟨none, some 20, .ld 20 4 true (.t 7)⟩, ⟨none, some 8, .alloc 8 [(.sc (.int .i64 0)), (.sc (.int .i64 0)), (.sc (.int .i64 0)), (.sc (.int .i64 0))]⟩, ⟨none, none, .st 4 (.t 8) (.t 20)⟩]) hP hn (by kernel_rfl) (by simp) rfl ?_
  refine AWp.sregL [(400, 0, bl false), (500, 0, i64 (Nf a)), (600, 0, i64 (Kf b)), (700, 0, .bptr 7 1 0), (701, 0, i64 5), (702, 0, i64 8), (703, 0, i64 (Kf b)), (704, 0, i64 2), (799, 1, .non), (800, 0, .bptr 8 1 0), (801, 0, i64 5), (802, 0, i64 8), (803, 0, i64 ((Kf b) + 1)), (804, 0, i64 2), (899, 1, .non)] (cl := [⟨none, some 21, .mov 21 (.t 6)⟩, ⟨none, some 22, .bin 22 .add (.t 21) (.c (.sc (.int .i64 1)))⟩, ⟨none, some 23, .faddr 23 2 (.t 8)⟩, ⟨none, none, .st 1 (.t 23) (.t 22)⟩]) hP hn (by kernel_rfl) (by simp [hK1]) rfl ?_
  refine AWp.seq ?_
  refine AWp.drawQ (pl := [[], [0, 0], [1], [1], [3, 1], [2, 4, 1, 1], [1], [1], [6, 7, 5, 1], [5, 8, 1], [9, 1], [1, 10], [11, 8], [12], [12], [13, 14, 12, 12], [12], [12], [16, 17, 15, 12], [15, 18, 12], [19, 12], [12, 20], [21, 18, 0, 1, 2, 3, 4, 5, 6, 7, 8, 9, 10, 11, 12, 13, 14, 15, 16, 17, 18, 19, 20, 21]]) [([48], [48]), ([48, 50], [50]), ([14, 15, 50, 52], [52]), ([10, 50, 54], [54]), ([50, 54, 56], [56]), ([50, 52, 56, 58], [58]), ([14, 15, 50, 60], [60]), ([10, 50, 62], [62]), ([50, 60, 62, 64], [64]), ([50, 58, 64, 66], [66]), ([50, 66, 68], [68]), ([50, 68, 70], [70]), ([70, 72], [72]), ([16, 17, 72, 74], [74]), ([10, 72, 76], [76]), ([72, 74, 76, 78], [78]), ([14, 15, 72, 80], [80]), ([10, 72, 82], [82]), ([72, 80, 82, 84], [84]), ([72, 78, 84, 86], [86]), ([72, 86, 88], [88]), ([72, 88, 90], [90]), ([8, 90], [8])] hP (by kernel_rfl) (by kernel_rfl) (by kernel_rfl) ?_
  refine LRunQ.call0 (r := (bl true)) (d := 24) (f := 12) (ss := []) (cs := []) false hP hn rfl rfl ⟨rfl, by decide, by kernel_rfl, _, _, rfl, rfl, by decide⟩ rfl (fun X hX => by have hX' : ∀ k, unitK k ∈ ([48] : List Nat) → X k = fnL _ k := hX; simp [hX', trArgs, trA, trL, keyOf]) Try.call12 (told12) (by simp) rfl ?_
  rw [fnL_set]; simp only [setL, nx, AV.isNode, Nat.reduceEqDiff, Nat.reduceMul, reduceIte, Bool.false_eq_true]
  refine LRunQ.op (c := ⟨none, some 25, .mov 25 (.t 24)⟩) (d := 25) (v := (bl true)) hP hn rfl (by kernel_rfl) rfl (fun X hX => by have hX' : ∀ k, unitK k ∈ ([48, 50] : List Nat) → X k = fnL _ k := hX; simp [hX', unitK, hN1, hs1, hs2]) ?_
  rw [fnL_set]; simp only [setL, nx, AV.isNode, Nat.reduceEqDiff, Nat.reduceMul, reduceIte, Bool.false_eq_true]
  refine LRunQ.op (c := ⟨some (25, true), some 26, .ld 26 4 true (.t 7)⟩) (d := 26) (v := (.agg [i64 5, i64 8, i64 (Kf b), i64 2])) hP hn rfl (by kernel_rfl) rfl (fun X hX => by have hX' : ∀ k, unitK k ∈ ([14, 15, 50, 52] : List Nat) → X k = fnL _ k := hX; simp [hX', unitK, hN1, hs1, hs2]) ?_
  rw [fnL_set]; simp only [setL, nx, AV.isNode, Nat.reduceEqDiff, Nat.reduceMul, reduceIte, Bool.false_eq_true]
  refine LRunQ.op (c := ⟨some (25, true), some 27, .mov 27 (.t 5)⟩) (d := 27) (v := (i64 (Nf a))) hP hn rfl (by kernel_rfl) rfl (fun X hX => by have hX' : ∀ k, unitK k ∈ ([10, 50, 54] : List Nat) → X k = fnL _ k := hX; simp [hX', unitK, hN1, hs1, hs2]) ?_
  rw [fnL_set]; simp only [setL, nx, AV.isNode, Nat.reduceEqDiff, Nat.reduceMul, reduceIte, Bool.false_eq_true]
  refine LRunQ.op (c := ⟨some (25, true), some 28, .bin 28 .add (.t 27) (.c (.sc (.int .i64 1)))⟩) (d := 28) (v := (i64 ((Nf a) + 1))) hP hn rfl (by kernel_rfl) rfl (fun X hX => by have hX' : ∀ k, unitK k ∈ ([50, 54, 56] : List Nat) → X k = fnL _ k := hX; simp [hX', unitK, hN1, hs1, hs2]) ?_
  rw [fnL_set]; simp only [setL, nx, AV.isNode, Nat.reduceEqDiff, Nat.reduceMul, reduceIte, Bool.false_eq_true]
  refine LRunQ.call0G (r := (i64 (1240 + 100 * (Kf b) + 200 * ((Nf a) + 1)))) (d := 29) (f := 15) (ss := [0, 0]) (cs := [.t 26, .t 28]) false hP hn rfl rfl rfl (by decide) ⟨rfl, by decide, by kernel_rfl, _, _, rfl, rfl, by decide⟩ rfl (fun X hX => by have hX' : ∀ k, unitK k ∈ ([50, 52, 56, 58] : List Nat) → X k = fnL _ k := hX; simp [hX', unitK, hN1, hs1, hs2]) (fun X hX => by have hX' : ∀ k, unitK k ∈ ([50, 52, 56, 58] : List Nat) → X k = fnL _ k := hX; simp [hX', trArgs, trA, trL, keyOf]) Try.call15 (rounds_small (Kf b) ((Nf a) + 1) hk1 (by omega) (by omega) (by omega)) (by simp) rfl ?_
  rw [fnL_set]; simp only [setL, nx, AV.isNode, Nat.reduceEqDiff, Nat.reduceMul, reduceIte, Bool.false_eq_true]
  refine LRunQ.op (c := ⟨some (25, true), some 30, .ld 30 4 true (.t 7)⟩) (d := 30) (v := (.agg [i64 5, i64 8, i64 (Kf b), i64 2])) hP hn rfl (by kernel_rfl) rfl (fun X hX => by have hX' : ∀ k, unitK k ∈ ([14, 15, 50, 60] : List Nat) → X k = fnL _ k := hX; simp [hX', unitK, hN1, hs1, hs2]) ?_
  rw [fnL_set]; simp only [setL, nx, AV.isNode, Nat.reduceEqDiff, Nat.reduceMul, reduceIte, Bool.false_eq_true]
  refine LRunQ.op (c := ⟨some (25, true), some 31, .mov 31 (.t 5)⟩) (d := 31) (v := (i64 (Nf a))) hP hn rfl (by kernel_rfl) rfl (fun X hX => by have hX' : ∀ k, unitK k ∈ ([10, 50, 62] : List Nat) → X k = fnL _ k := hX; simp [hX', unitK, hN1, hs1, hs2]) ?_
  rw [fnL_set]; simp only [setL, nx, AV.isNode, Nat.reduceEqDiff, Nat.reduceMul, reduceIte, Bool.false_eq_true]
  refine LRunQ.call0G (r := (i64 (1240 + 100 * (Kf b) + 200 * (Nf a)))) (d := 32) (f := 15) (ss := [0, 0]) (cs := [.t 30, .t 31]) false hP hn rfl rfl rfl (by decide) ⟨rfl, by decide, by kernel_rfl, _, _, rfl, rfl, by decide⟩ rfl (fun X hX => by have hX' : ∀ k, unitK k ∈ ([50, 60, 62, 64] : List Nat) → X k = fnL _ k := hX; simp [hX', unitK, hN1, hs1, hs2]) (fun X hX => by have hX' : ∀ k, unitK k ∈ ([50, 60, 62, 64] : List Nat) → X k = fnL _ k := hX; simp [hX', trArgs, trA, trL, keyOf]) Try.call15 (rounds_small (Kf b) (Nf a) hk1 (by omega) (by omega) (by omega)) (by simp) rfl ?_
  rw [fnL_set]; simp only [setL, nx, AV.isNode, Nat.reduceEqDiff, Nat.reduceMul, reduceIte, Bool.false_eq_true]
  refine LRunQ.op (c := ⟨some (25, true), some 33, .bin 33 .sub (.t 29) (.t 32)⟩) (d := 33) (v := (i64 200)) hP hn rfl (by kernel_rfl) rfl (fun X hX => by have hX' : ∀ k, unitK k ∈ ([50, 58, 64, 66] : List Nat) → X k = fnL _ k := hX; simp [hX', unitK, hN1, hs1, hs2]) ?_
  rw [fnL_set]; simp only [setL, nx, AV.isNode, Nat.reduceEqDiff, Nat.reduceMul, reduceIte, Bool.false_eq_true]
  refine LRunQ.op (c := ⟨some (25, true), some 34, .bin 34 .eql (.t 33) (.c (.sc (.int .i64 200)))⟩) (d := 34) (v := (bl true)) hP hn rfl (by kernel_rfl) rfl (fun X hX => by have hX' : ∀ k, unitK k ∈ ([50, 66, 68] : List Nat) → X k = fnL _ k := hX; simp [hX', unitK, hN1, hs1, hs2]) ?_
  rw [fnL_set]; simp only [setL, nx, AV.isNode, Nat.reduceEqDiff, Nat.reduceMul, reduceIte, Bool.false_eq_true]
  refine LRunQ.op (c := ⟨none, some 35, .pick 35 (.t 25) (.t 34) (.c (.sc (.bool false)))⟩) (d := 35) (v := (bl true)) hP hn rfl (by kernel_rfl) rfl (fun X hX => by have hX' : ∀ k, unitK k ∈ ([50, 68, 70] : List Nat) → X k = fnL _ k := hX; simp [hX', unitK, hN1, hs1, hs2]) ?_
  rw [fnL_set]; simp only [setL, nx, AV.isNode, Nat.reduceEqDiff, Nat.reduceMul, reduceIte, Bool.false_eq_true]
  refine LRunQ.op (c := ⟨none, some 36, .mov 36 (.t 35)⟩) (d := 36) (v := (bl true)) hP hn rfl (by kernel_rfl) rfl (fun X hX => by have hX' : ∀ k, unitK k ∈ ([70, 72] : List Nat) → X k = fnL _ k := hX; simp [hX', unitK, hN1, hs1, hs2]) ?_
  rw [fnL_set]; simp only [setL, nx, AV.isNode, Nat.reduceEqDiff, Nat.reduceMul, reduceIte, Bool.false_eq_true]
  refine LRunQ.op (c := ⟨some (36, true), some 37, .ld 37 4 true (.t 8)⟩) (d := 37) (v := (.agg [i64 5, i64 8, i64 ((Kf b) + 1), i64 2])) hP hn rfl (by kernel_rfl) rfl (fun X hX => by have hX' : ∀ k, unitK k ∈ ([16, 17, 72, 74] : List Nat) → X k = fnL _ k := hX; simp [hX', unitK, hN1, hs1, hs2]) ?_
  rw [fnL_set]; simp only [setL, nx, AV.isNode, Nat.reduceEqDiff, Nat.reduceMul, reduceIte, Bool.false_eq_true]
  refine LRunQ.op (c := ⟨some (36, true), some 38, .mov 38 (.t 5)⟩) (d := 38) (v := (i64 (Nf a))) hP hn rfl (by kernel_rfl) rfl (fun X hX => by have hX' : ∀ k, unitK k ∈ ([10, 72, 76] : List Nat) → X k = fnL _ k := hX; simp [hX', unitK, hN1, hs1, hs2]) ?_
  rw [fnL_set]; simp only [setL, nx, AV.isNode, Nat.reduceEqDiff, Nat.reduceMul, reduceIte, Bool.false_eq_true]
  refine LRunQ.call0G (r := (i64 (1240 + 100 * ((Kf b) + 1) + 200 * (Nf a)))) (d := 39) (f := 15) (ss := [0, 0]) (cs := [.t 37, .t 38]) false hP hn rfl rfl rfl (by decide) ⟨rfl, by decide, by kernel_rfl, _, _, rfl, rfl, by decide⟩ rfl (fun X hX => by have hX' : ∀ k, unitK k ∈ ([72, 74, 76, 78] : List Nat) → X k = fnL _ k := hX; simp [hX', unitK, hN1, hs1, hs2]) (fun X hX => by have hX' : ∀ k, unitK k ∈ ([72, 74, 76, 78] : List Nat) → X k = fnL _ k := hX; simp [hX', trArgs, trA, trL, keyOf]) Try.call15 (rounds_small ((Kf b) + 1) (Nf a) (by omega) (by omega) (by omega) (by omega)) (by simp) rfl ?_
  rw [fnL_set]; simp only [setL, nx, AV.isNode, Nat.reduceEqDiff, Nat.reduceMul, reduceIte, Bool.false_eq_true]
  refine LRunQ.op (c := ⟨some (36, true), some 40, .ld 40 4 true (.t 7)⟩) (d := 40) (v := (.agg [i64 5, i64 8, i64 (Kf b), i64 2])) hP hn rfl (by kernel_rfl) rfl (fun X hX => by have hX' : ∀ k, unitK k ∈ ([14, 15, 72, 80] : List Nat) → X k = fnL _ k := hX; simp [hX', unitK, hN1, hs1, hs2]) ?_
  rw [fnL_set]; simp only [setL, nx, AV.isNode, Nat.reduceEqDiff, Nat.reduceMul, reduceIte, Bool.false_eq_true]
  refine LRunQ.op (c := ⟨some (36, true), some 41, .mov 41 (.t 5)⟩) (d := 41) (v := (i64 (Nf a))) hP hn rfl (by kernel_rfl) rfl (fun X hX => by have hX' : ∀ k, unitK k ∈ ([10, 72, 82] : List Nat) → X k = fnL _ k := hX; simp [hX', unitK, hN1, hs1, hs2]) ?_
  rw [fnL_set]; simp only [setL, nx, AV.isNode, Nat.reduceEqDiff, Nat.reduceMul, reduceIte, Bool.false_eq_true]
  refine LRunQ.call0G (r := (i64 (1240 + 100 * (Kf b) + 200 * (Nf a)))) (d := 42) (f := 15) (ss := [0, 0]) (cs := [.t 40, .t 41]) false hP hn rfl rfl rfl (by decide) ⟨rfl, by decide, by kernel_rfl, _, _, rfl, rfl, by decide⟩ rfl (fun X hX => by have hX' : ∀ k, unitK k ∈ ([72, 80, 82, 84] : List Nat) → X k = fnL _ k := hX; simp [hX', unitK, hN1, hs1, hs2]) (fun X hX => by have hX' : ∀ k, unitK k ∈ ([72, 80, 82, 84] : List Nat) → X k = fnL _ k := hX; simp [hX', trArgs, trA, trL, keyOf]) Try.call15 (rounds_small (Kf b) (Nf a) hk1 (by omega) (by omega) (by omega)) (by simp) rfl ?_
  rw [fnL_set]; simp only [setL, nx, AV.isNode, Nat.reduceEqDiff, Nat.reduceMul, reduceIte, Bool.false_eq_true]
  refine LRunQ.op (c := ⟨some (36, true), some 43, .bin 43 .sub (.t 39) (.t 42)⟩) (d := 43) (v := (i64 100)) hP hn rfl (by kernel_rfl) rfl (fun X hX => by have hX' : ∀ k, unitK k ∈ ([72, 78, 84, 86] : List Nat) → X k = fnL _ k := hX; simp [hX', unitK, hN1, hs1, hs2]) ?_
  rw [fnL_set]; simp only [setL, nx, AV.isNode, Nat.reduceEqDiff, Nat.reduceMul, reduceIte, Bool.false_eq_true]
  refine LRunQ.op (c := ⟨some (36, true), some 44, .bin 44 .eql (.t 43) (.c (.sc (.int .i64 100)))⟩) (d := 44) (v := (bl true)) hP hn rfl (by kernel_rfl) rfl (fun X hX => by have hX' : ∀ k, unitK k ∈ ([72, 86, 88] : List Nat) → X k = fnL _ k := hX; simp [hX', unitK, hN1, hs1, hs2]) ?_
  rw [fnL_set]; simp only [setL, nx, AV.isNode, Nat.reduceEqDiff, Nat.reduceMul, reduceIte, Bool.false_eq_true]
  refine LRunQ.op (c := ⟨none, some 45, .pick 45 (.t 36) (.t 44) (.c (.sc (.bool false)))⟩) (d := 45) (v := (bl true)) hP hn rfl (by kernel_rfl) rfl (fun X hX => by have hX' : ∀ k, unitK k ∈ ([72, 88, 90] : List Nat) → X k = fnL _ k := hX; simp [hX', unitK, hN1, hs1, hs2]) ?_
  rw [fnL_set]; simp only [setL, nx, AV.isNode, Nat.reduceEqDiff, Nat.reduceMul, reduceIte, Bool.false_eq_true]
  refine LRunQ.op (c := ⟨none, some 4, .asg 4 (.t 45)⟩) (d := 4) (v := (bl true)) hP hn rfl (by kernel_rfl) rfl (fun X hX => by have hX' : ∀ k, unitK k ∈ ([8, 90] : List Nat) → X k = fnL _ k := hX; simp [hX', unitK, hN1, hs1, hs2]) ?_
  rw [fnL_set]; simp only [setL, nx, AV.isNode, Nat.reduceEqDiff, Nat.reduceMul, reduceIte, Bool.false_eq_true]
  refine LRunQ.nil rfl ?_
  refine AWp.ret ⟨.inr rfl, _, by simp [resX, resAll, resV1, gatherT, RS]; rfl, by simp [RS], fun j g h => by simp at h⟩
end Go.OT
