/-
  From a contract to a law's call.
-/
import Derived.Test.YtpdigppbokpdkaaOtZa
import Derived.Below
set_option linter.unusedSimpArgs false
set_option linter.unusedVariables false
namespace Go.OT
open Go.RowKit

theorem relL_empty (P : Program) (I : ASet) (W : World) (hI : ∀ b o, I b o → b < W.heap.size) :
    RelL { P := P, nt := 0, w0 := W, K := fun _ _ => False, I0 := I, β0 := fun _ => (0, 0), rg0 := fun _ => undef, hnt := by omega } (fun _ => (0, .non)) (fun _ => (0, 0)) I (fun _ => undef) W := by
  have hk : ∀ k b o, ¬ kfp (fun _ => (0, 0)) (fun _ => (0, AV.non)) k b o := by
    intro k b o h
    rcases h with h | ⟨_, h, _⟩
    · simp [fp] at h
    · exact h rfl
  exact ⟨fun t => by simp [RR], fun k => ⟨by simp [Mem], by simp [Sep], fun _ h => absurd rfl h, fun b o h => absurd h (hk k b o), fun _ => rfl⟩, fun k k' _ b o h _ => hk k b o h, fun b o h => ⟨hI b o h, fun k => hk k b o⟩,
    fun k b o h => absurd h (hk k b o), fun b o h => .inl h, fun b o h => h, Frame.refl _ W, fun _ _ => rfl, fun _ _ => rfl⟩

/-- A law's call, from its contract: what it returns, and that nothing of what was there has turned. -/
theorem Fn.law {P : Program} {f : FuncId} {ags : List AU} {v : Value} (h : Fn P f [] ags [] (.sc v)) {args : Array Value} {W : World} (I : ASet) (las : List AL) (hI : ∀ b o, I b o → b < W.heap.size) (hsz : args.size = ags.length) (h9 : ags.length ≤ 9000) (hE : las.map er = ags)
    (hla : ∀ (t : Nat) (la : AL), las[t]? = some la → RR (fun _ => (0, .non)) (fun _ => (0, 0)) la (args.getD t undef) ∧ Mem W I la ∧ noOwn la = true ∧ roots la = []) :
    Calls P f args W fun e W' => e = .returned v ∧ Below W.heap.size W W' := by
  have R0 := relL_empty P I W hI
  have L : Loans (fun _ => (0, AV.non)) (fun _ => (0, 0)) I W [] [] := ⟨rfl, by simp, by simp⟩
  have hlen : las.length = ags.length := by rw [← hE]; simp
  have R1 := call_rel (own := false) (las := las) (args := args) R0 L (by omega) (fun t la ht => by
    obtain ⟨h1, h2, h3, h4⟩ := hla t la ht
    exact ⟨RR_rootless la _ h4 h1, Mem_mono la h2 (fun b o hb => .inl hb), h3⟩)
  have hc := h _ _ _ _ _ W args rfl (by rw [erF_XC L, hE]) R1 hsz (fun t ht => by simp only [rgC, if_pos (show t < 10000 by omega)])
  refine hc.mono fun e w' hq => ?_
  obtain ⟨x, XL', β', I', rg', rfl, R', hx, hF⟩ := hq
  have hr := R'.reg RS
  rw [er_sc (lv := (XL' (100 * RS)).2) hF.1] at hr
  simp only [RR] at hr
  have hfr : Frame (KC (fun _ => (0, AV.non)) []) W w' := R'.fr
  refine ⟨by rw [← hx, hr], hfr.os, hfr.tape, hfr.output, hfr.size, fun b hb => hfr.block b hb fun o ho => ?_⟩
  obtain ⟨e, he, _⟩ := ho
  exact absurd he (by simp)
end Go.OT
