/-
  Part KB3 of the proof: merged texts.
-/
import Derived.Test.YtabkcbaknjenmaaKB2

/-
  THE NODE LAWS: 'works', run.
-/
set_option linter.unusedVariables false
namespace Go.Proofs.YtabkcbaknjenmaaAM
open Go Go.Proofs
set_option maxRecDepth 100000
set_option maxHeartbeats 4000000

/-- Does a run end with true? -/
def isT : Option Res → Bool
  | some (.call (.ret (.bool true)) _ _) => true
  | _ => false
theorem ret_of_isT {X : FuncId → List Value → Mem → Option (Value × Mem)} (hX : ∀ f args M v M', X f args M = some (v, M') → Ret Try.prog f args M v M') {n : Nat} {f : FuncId} {args : List Value} {M : Mem} (h : isT (runF Try.prog X n (.call .normal f args M)) = true) : ∃ M', Ret Try.prog f args M (.bool true) M' := by
  unfold isT at h
  split at h
  · rename_i M' rc hr
    exact ⟨M', Ret.run hP hX hr⟩
  · simp at h
theorem works_run : isT (runF Try.prog XR 300 (.call .normal 20 [] [])) = true := by kernel_rfl
theorem works_ret (M : Mem) : Ret Try.prog 20 [] M (.bool true) M := by
  obtain ⟨M', h⟩ := ret_of_isT XR_ok works_run
  exact h.plain rfl rfl M
noncomputable def XN : FuncId → List Value → Mem → Option (Value × Mem) := fun f args M =>
  match args with
  | [] => match Nat.beq f 20 with
    | true => some (.bool true, M)
    | false => XR f [] M
  | a :: l => XR f (a :: l) M
theorem XN_ok : ∀ f args M v M', XN f args M = some (v, M') → Ret Try.prog f args M v M' := by
  intro f args M v M' h
  unfold XN at h
  split at h
  · split at h
    · rename_i hf
      have hf := Nat.eq_of_beq_eq_true hf
      injection h with h; injection h with h1 h2; subst h1; subst h2; subst hf
      exact works_ret M
    · exact XR_ok _ _ _ _ _ h
  · exact XR_ok _ _ _ _ _ h

end Go.Proofs.YtabkcbaknjenmaaAM
