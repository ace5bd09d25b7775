/- The even division of two goods wanted by both of two agents, run in a store of its own. -/
import Derived.Test.YtgkmpidihgbkdaaJAA
namespace Go.Proofs.Ytgkmpidihgbkdaa
open Go.Abs

def none0 : Known := fun _ _ => none
/-- The wishes. -/
def evenSt : St := ((St.push (St.push ⟨[], []⟩ ⟨[.bool true, .bool true], .rw⟩) ⟨[.bool true, .bool true], .rw⟩).push ⟨[.slice (some ⟨0, 0, none⟩) 2 2, .slice (some ⟨1, 0, none⟩) 2 2], .rw⟩)

def isTrues (o : Option Blk) : Bool := match o with
  | some ⟨[.bool true, .bool true], .rw⟩ => true
  | _ => false
def isPair (o : Option Blk) : Bool := match o with
  | some ⟨[.slice (some ⟨0, 0, none⟩) 2 2, .slice (some ⟨1, 0, none⟩) 2 2], .rw⟩ => true
  | _ => false
def isOut (o : Option Blk) : Bool := match o with
  | some ⟨[.int .i64 0, .int .i64 1], .grown 1⟩ => true
  | _ => false

def evenOk : Option (Value × St) → Bool
  | some (.tuple ⟨[.slice (some ⟨b, 0, none⟩) 2 2, .int .i64 0]⟩, s') => isOut (s'.get b) && isTrues (s'.get 0) && isTrues (s'.get 1) && isPair (s'.get 2)
  | _ => false

theorem even_run : evenOk (inv Try.prog none0 20 (.func (.func 12) #[] #[]) [.slice (some ⟨2, 0, none⟩) 2 2] evenSt) = true := by kernel_rfl

theorem isTrues_eq {o : Option Blk} (h : isTrues o = true) : o = some ⟨bc [true, true], .rw⟩ := by
  unfold isTrues at h
  split at h
  · rfl
  · cases h
theorem isPair_eq {o : Option Blk} (h : isPair o = true) : o = some ⟨[.slice (some ⟨0, 0, none⟩) 2 2, .slice (some ⟨1, 0, none⟩) 2 2], .rw⟩ := by
  unfold isPair at h
  split at h
  · rfl
  · cases h
theorem isOut_eq {o : Option Blk} (h : isOut o = true) : o = some ⟨ic [0, 1], .grown 1⟩ := by
  unfold isOut at h
  split at h
  · rfl
  · cases h

theorem even_ev : Ev Try.prog none0 (.func (.func 12) #[] #[]) [.slice (some ⟨2, 0, none⟩) 2 2] evenSt fun r s' => ∃ b, r = .tuple #[.slice (some ⟨b, 0, none⟩) 2 2, .int .i64 0] ∧ s'.get b = some ⟨ic [0, 1], .grown 1⟩ ∧
    s'.get 0 = some ⟨bc [true, true], .rw⟩ ∧ s'.get 1 = some ⟨bc [true, true], .rw⟩ ∧ s'.get 2 = some ⟨[.slice (some ⟨0, 0, none⟩) 2 2, .slice (some ⟨1, 0, none⟩) 2 2], .rw⟩ := by
  have h := even_run
  revert h
  generalize hr : inv Try.prog none0 20 (.func (.func 12) #[] #[]) [.slice (some ⟨2, 0, none⟩) 2 2] evenSt = r
  intro h
  unfold evenOk at h
  split at h
  · rename_i b s'
    simp only [Bool.and_eq_true] at h
    exact ⟨20, _, s', hr, b, rfl, isOut_eq h.1.1.1, isTrues_eq h.1.1.2, isTrues_eq h.1.2, isPair_eq h.2⟩
  · cases h

/-- The rows of the wishes. -/
def rvF (i : Nat) : Value := .slice (some ⟨i, 0, none⟩) 2 2
theorem even_row {s : St} (h : s.get 2 = some ⟨[.slice (some ⟨0, 0, none⟩) 2 2, .slice (some ⟨1, 0, none⟩) 2 2], .rw⟩) : Row s (.slice (some ⟨2, 0, none⟩) 2 2) 2 1 (fun i => [rvF i]) :=
  Row.of_get h (by simp) (Nat.le_refl _) fun i hi => by
    match i, hi with
    | 0, _ => exact ⟨Nat.le_of_ble_eq_true rfl, rfl⟩
    | 1, _ => exact ⟨Nat.le_of_ble_eq_true rfl, rfl⟩
    | i + 2, hi => exact absurd hi (by omega)
theorem even_rows {s : St} (h0 : s.get 0 = some ⟨bc [true, true], .rw⟩) (h1 : s.get 1 = some ⟨bc [true, true], .rw⟩) : ∀ i, i < 2 → BRow s (rvF i) [true, true] := fun i hi => by
  match i, hi with
  | 0, _ => exact BRow.of_get (l := [true, true]) h0 (by simp) (Nat.le_refl _)
  | 1, _ => exact BRow.of_get (l := [true, true]) h1 (by simp) (Nat.le_refl _)
  | i + 2, hi => exact absurd hi (by omega)

end Go.Proofs.Ytgkmpidihgbkdaa
