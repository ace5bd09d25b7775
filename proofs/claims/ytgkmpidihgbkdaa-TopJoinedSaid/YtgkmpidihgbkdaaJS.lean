/- The least side of the greatest flow is a cut that is as great as it. -/
import Derived.Test.YtgkmpidihgbkdaaJQ
namespace Go.Proofs.Ytgkmpidihgbkdaa

theorem Closed.congr {l : List Arc} {x y : Nat → Int} {k : Nat} {d : Int} {S : Int → Bool} (h : Closed l x k d S) (e : ∀ i, i < l.length → x i = y i) : Closed l y k d S := fun i h1 h2 => by
  rw [← e i h2]; exact h i h1 h2
theorem IsLeast.congr {N : Int} {l : List Arc} {x y : Nat → Int} {out : List Bool} (h : IsLeast N l x out) (e : ∀ i, i < l.length → x i = y i) : IsLeast N l y out :=
  ⟨h.len, h.zero, h.closed.congr e, fun T h0 hT => h.least T h0 (hT.congr fun i hi => (e i hi).symm)⟩

theorem gr_least {N : Int} {l : List Arc} {x : Nat → Int} {out : List Bool} (h : NetOk N l) (hg : Gr N l x) (ho : IsLeast N l x out) : Side N (inB out) ∧ val l x = cutOf l (inB out) := by
  obtain ⟨S, hS, he⟩ := hg.cut
  have h2 := h.two
  have hc := closed_of_cut h hg.flow hS (by omega)
  have hside : Side N (inB out) := by
    refine ⟨ho.zero, ?_⟩
    cases e : inB out (N - 1) with
    | false => rfl
    | true =>
      have := ho.least S hS.1 hc (N - 1) (by omega) (by omega) e
      rw [hS.2] at this; cases this
  exact ⟨hside, cut_of_closed h hg.flow hside ho.closed⟩

end Go.Proofs.Ytgkmpidihgbkdaa
