/- The seat's program fits the evaluator. -/
import Derived.Test.YtgkmpidihgbkdaaAbsTop
import Derived.Test.YtgkmpidihgbkdaaRows
namespace Go.Abs

def fitB (P : Program) : Bool := P.follows .mixedOrders && P.funcs.toList.all fun fn => match fn.body with
  | some c => codeOk c && !(fn.name == "runtime.NumGoroutine")
  | none => true

theorem fit_of_fitB {P : Program} (h : fitB P = true) : Fit P := by
  unfold fitB at h
  simp only [Bool.and_eq_true, List.all_eq_true] at h
  refine ⟨h.1, fun k fn c hk hb => ?_⟩
  have := h.2 fn (by rw [Array.mem_toList_iff]; exact Array.mem_of_getElem? hk)
  rw [hb] at this
  simp only [Bool.and_eq_true, Bool.not_eq_true'] at this
  exact this

end Go.Abs
namespace Go.Proofs.Ytgkmpidihgbkdaa
theorem Abs.fit : Go.Abs.Fit Try.prog := Go.Abs.fit_of_fitB (by kernel_rfl)
end Go.Proofs.Ytgkmpidihgbkdaa
