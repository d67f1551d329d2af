/- Part of the proofs: see the last file. -/
import Derived.Test.YtpdigppbokpdkaaOtZ
import Derived.Test.YtpdigppbokpdkaaProg
import Derived.KernelRfl
set_option linter.unusedSimpArgs false
set_option linter.unusedVariables false
namespace Go.OT
open Go.Proofs
attribute [local simp] runC_eq runO_nil runO_cons stO_none stO_some stW_bool stW_bool' stp putV rd rdK ldV fnL_set setL fnL_nil_app fnL_cons_app boxV takeC takeO takeV tk flat noOwn noOwnL ldCells faddrV finB treeV Value.oneCell' ownRaw asgV scBin scUn scMx nx AV.isNode AV.isNon onlyK kp_fnL H fnL_boxM boxM boxM.boxN boxE_eq List.range List.range.loop tkL gather_zero gather_succ clr_zero clr_succ AV.parts? roots

abbrev i64 (n : Int) : AU := .sc (.int .i64 n)
abbrev bl (b : Bool) : AU := .sc (.bool b)
def mayB (p f s c : Int) : Bool := decide (1 ≤ p ∧ p ≤ 48 ∧ 1 ≤ s ∧ s ≤ 4 ∧ 1 ≤ c ∧ c ≤ 6 ∧ s ≤ f ∧ f ≤ 32)

theorem init1 (a : AU) : initX [] [a] = fnL [(0, 0, a)] := by
  funext k
  simp only [initX, initV, fnL]
  by_cases h : k = 0
  · subst h; simp
  · simp only [h, if_false]
    split
    · split
      · have : k / 100 ≠ 0 := by omega
        rw [List.getD_eq_getElem?_getD, List.getElem?_eq_none (by simp; omega)]; rfl
      · rfl
    · simp


set_option maxHeartbeats 4000000 in
theorem may13 (p f s c : Int) : Fn Try.prog 13 [] [.agg [i64 p, i64 f, i64 s, i64 c]] [] (bl (mayB p f s c)) := by
  refine Fn.of_body' 41 1 [.t 2] Try.func13 (by rfl) (by kernel_rfl) rfl fun C hP hn => ?_
  rw [init1]
  refine AWp.sregL [(100, 0, .bptr 1 1 0), (101, 0, i64 p), (102, 0, i64 f), (103, 0, i64 s), (104, 0, i64 c), (199, 1, .non)] (cl := [⟨none, some 1, .box 1 (.t 0)⟩, ⟨none, some 2, .asg 2 (.c (.sc (.bool false)))⟩]) hP hn (by kernel_rfl) ⟨_, by simp; rfl, by simp⟩ rfl ?_
  refine AWp.scope (AWp.seq (AWp.label ?_))
  refine AWp.seq (AWp.block (AWp.loop (fun _ : Unit => fnL [(100, 0, .bptr 1 1 0), (101, 0, i64 p), (102, 0, i64 f), (103, 0, i64 s), (104, 0, i64 c), (199, 1, .non)]) (fun _ => 0) () fun _ => ?_))
  refine AWp.block (AWp.seq (AWp.block ?_))
  have fin : ∀ (b : Bool), mayB p f s c = b → ∃ X', resX (fnL [(200, 0, bl b)]) [.t 2] = some X' ∧ Fin X' [] (bl (mayB p f s c)) := by
    intro b hb
    rw [hb]
    refine ⟨_, by simp [resX, resAll, resV1, gatherT, RS]; rfl, by simp [Fin, RS], fun j g h => by simp at h⟩
  refine AWp.sregL [(100, 0, .bptr 1 1 0), (101, 0, i64 p), (102, 0, i64 f), (103, 0, i64 s), (104, 0, i64 c), (199, 1, .non), (300, 0, bl (decide (p < 1) || decide (p > 48)))] (cl := [⟨none, some 4, .faddr 4 0 (.t 1)⟩, ⟨none, some 5, .ld 5 1 false (.t 4)⟩, ⟨none, some 6, .bin 6 .lss (.t 5) (.c (.sc (.int .i64 1)))⟩, ⟨none, some 7, .mov 7 (.t 6)⟩, ⟨some (7, false), some 8, .faddr 8 0 (.t 1)⟩, ⟨some (7, false), some 9, .ld 9 1 false (.t 8)⟩, ⟨some (7, false), some 10, .bin 10 .gtr (.t 9) (.c (.sc (.int .i64 48)))⟩, ⟨none, some 11, .pick 11 (.t 7) (.c (.sc (.bool true))) (.t 10)⟩, ⟨none, some 3, .asg 3 (.t 11)⟩]) hP hn (by kernel_rfl) (by by_cases h : p < 1 <;> simp [h]) rfl ?_
  refine AWp.cond (sz := 0) (co := .t 3) (b := (decide (p < 1) || decide (p > 48))) (by rw [hn]; rfl) (by simp) (fun h1 => ?_) (fun h1 => ?_)
  · refine AWp.exit ?_
    show AWp C _ _ _
    refine AWp.sregL [(200, 0, bl false)] (cl := [⟨none, some 2, .asg 2 (.c (.sc (.bool false)))⟩]) hP hn (by kernel_rfl) (by simp) rfl ?_
    exact AWp.ret ⟨.inr rfl, fin false (by simp [mayB] at h1 ⊢; omega)⟩
  refine AWp.sregL [(100, 0, .bptr 1 1 0), (101, 0, i64 p), (102, 0, i64 f), (103, 0, i64 s), (104, 0, i64 c), (199, 1, .non), (1200, 0, bl (decide (s < 1) || decide (s > 4)))] (cl := [⟨none, some 13, .faddr 13 2 (.t 1)⟩, ⟨none, some 14, .ld 14 1 false (.t 13)⟩, ⟨none, some 15, .bin 15 .lss (.t 14) (.c (.sc (.int .i64 1)))⟩, ⟨none, some 16, .mov 16 (.t 15)⟩, ⟨some (16, false), some 17, .faddr 17 2 (.t 1)⟩, ⟨some (16, false), some 18, .ld 18 1 false (.t 17)⟩, ⟨some (16, false), some 19, .bin 19 .gtr (.t 18) (.c (.sc (.int .i64 4)))⟩, ⟨none, some 20, .pick 20 (.t 16) (.c (.sc (.bool true))) (.t 19)⟩, ⟨none, some 12, .asg 12 (.t 20)⟩]) hP hn (by kernel_rfl) (by by_cases h : s < 1 <;> simp [h]) rfl ?_
  refine AWp.cond (sz := 0) (co := .t 12) (b := (decide (s < 1) || decide (s > 4))) (by rw [hn]; rfl) (by simp) (fun h2 => ?_) (fun h2 => ?_)
  · refine AWp.exit ?_
    show AWp C _ _ _
    refine AWp.sregL [(200, 0, bl false)] (cl := [⟨none, some 2, .asg 2 (.c (.sc (.bool false)))⟩]) hP hn (by kernel_rfl) (by simp) rfl ?_
    exact AWp.ret ⟨.inr rfl, fin false (by simp [mayB] at h2 ⊢; omega)⟩
  refine AWp.sregL [(100, 0, .bptr 1 1 0), (101, 0, i64 p), (102, 0, i64 f), (103, 0, i64 s), (104, 0, i64 c), (199, 1, .non), (2100, 0, bl (decide (c < 1) || decide (c > 6)))] (cl := [⟨none, some 22, .faddr 22 3 (.t 1)⟩, ⟨none, some 23, .ld 23 1 false (.t 22)⟩, ⟨none, some 24, .bin 24 .lss (.t 23) (.c (.sc (.int .i64 1)))⟩, ⟨none, some 25, .mov 25 (.t 24)⟩, ⟨some (25, false), some 26, .faddr 26 3 (.t 1)⟩, ⟨some (25, false), some 27, .ld 27 1 false (.t 26)⟩, ⟨some (25, false), some 28, .bin 28 .gtr (.t 27) (.c (.sc (.int .i64 6)))⟩, ⟨none, some 29, .pick 29 (.t 25) (.c (.sc (.bool true))) (.t 28)⟩, ⟨none, some 21, .asg 21 (.t 29)⟩]) hP hn (by kernel_rfl) (by by_cases h : c < 1 <;> simp [h]) rfl ?_
  refine AWp.cond (sz := 0) (co := .t 21) (b := (decide (c < 1) || decide (c > 6))) (by rw [hn]; rfl) (by simp) (fun h3 => ?_) (fun h3 => ?_)
  · refine AWp.exit ?_
    show AWp C _ _ _
    refine AWp.sregL [(200, 0, bl false)] (cl := [⟨none, some 2, .asg 2 (.c (.sc (.bool false)))⟩]) hP hn (by kernel_rfl) (by simp) rfl ?_
    exact AWp.ret ⟨.inr rfl, fin false (by simp [mayB] at h3 ⊢; omega)⟩
  refine AWp.sregL [(100, 0, .bptr 1 1 0), (101, 0, i64 p), (102, 0, i64 f), (103, 0, i64 s), (104, 0, i64 c), (199, 1, .non), (3000, 0, bl (decide (f < s) || decide (f > 32)))] (cl := [⟨none, some 31, .faddr 31 1 (.t 1)⟩, ⟨none, some 32, .ld 32 1 false (.t 31)⟩, ⟨none, some 33, .faddr 33 2 (.t 1)⟩, ⟨none, some 34, .ld 34 1 false (.t 33)⟩, ⟨none, some 35, .bin 35 .lss (.t 32) (.t 34)⟩, ⟨none, some 36, .mov 36 (.t 35)⟩, ⟨some (36, false), some 37, .faddr 37 1 (.t 1)⟩, ⟨some (36, false), some 38, .ld 38 1 false (.t 37)⟩, ⟨some (36, false), some 39, .bin 39 .gtr (.t 38) (.c (.sc (.int .i64 32)))⟩, ⟨none, some 40, .pick 40 (.t 36) (.c (.sc (.bool true))) (.t 39)⟩, ⟨none, some 30, .asg 30 (.t 40)⟩]) hP hn (by kernel_rfl) (by by_cases h : f < s <;> simp [h]) rfl ?_
  refine AWp.cond (sz := 0) (co := .t 30) (b := (decide (f < s) || decide (f > 32))) (by rw [hn]; rfl) (by simp) (fun h4 => ?_) (fun h4 => ?_)
  · refine AWp.exit ?_
    show AWp C _ _ _
    refine AWp.sregL [(200, 0, bl false)] (cl := [⟨none, some 2, .asg 2 (.c (.sc (.bool false)))⟩]) hP hn (by kernel_rfl) (by simp) rfl ?_
    exact AWp.ret ⟨.inr rfl, fin false (by simp [mayB] at h4 ⊢; omega)⟩
  refine AWp.skip ?_
  show AWp C _ _ _
  refine AWp.sregL [(200, 0, bl true)] (cl := [⟨none, some 2, .asg 2 (.c (.sc (.bool true)))⟩]) hP hn (by kernel_rfl) (by simp) rfl ?_
  refine AWp.ret ⟨.inr rfl, fin true (by simp [mayB] at *; omega)⟩
end Go.OT
