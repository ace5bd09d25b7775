/- What stays as it is: alive15, run in the empty store by the kernel. -/
import Derived.Test.YtfgnjndicidpkaaAbsFit
import Derived.Test.YtfgnjndicidpkaaAbsWp
namespace Go.Proofs.Ytfgnjndicidpkaa
open Go.Abs
def none0 : Known := fun _ _ => none
def isTrue : Option (Value × St) → Bool
  | some (.bool true, _) => true
  | _ => false
theorem alive_run : isTrue (inv Try.prog none0 20 (.func (.func 4) #[] #[]) [] ⟨[], []⟩) = true := by kernel_rfl
theorem alive_ev : Ev Try.prog none0 (.func (.func 4) #[] #[]) [] ⟨[], []⟩ fun r _ => r = .bool true := by
  have h := alive_run
  revert h
  generalize hr : inv Try.prog none0 20 (.func (.func 4) #[] #[]) [] ⟨[], []⟩ = r
  intro h
  unfold isTrue at h
  split at h
  · exact ⟨20, _, _, hr, rfl⟩
  · cases h
end Go.Proofs.Ytfgnjndicidpkaa
