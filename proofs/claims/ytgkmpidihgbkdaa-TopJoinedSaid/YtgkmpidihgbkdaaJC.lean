/- Rows of arcs: how they lie in the store; searches in them. -/
import Derived.Test.YtgkmpidihgbkdaaJA
import Derived.Test.YtgkmpidihgbkdaaJTypes
namespace Go.Proofs.Ytgkmpidihgbkdaa
open Go.Abs
variable {K : Known}

structure Arc where
  fr : Int
  to : Int
  cap : Int
  deriving DecidableEq

instance : Inhabited Arc := ⟨⟨0, 0, 0⟩⟩

def Arc.val (a : Arc) : Value := .agg #[.int .i64 a.fr, .int .i64 a.to, .int .i64 a.cap]

/-- A slice of arcs lies in the store. -/
def Arcs (s : St) (v : Value) (l : List Arc) : Prop :=
  ∃ a cap, v = .slice a l.length cap ∧ l.length ≤ cap ∧ (l ≠ [] → ∃ b off sp, a = some ⟨b, off, sp⟩ ∧ ∀ i, i < l.length → s.cells b (off + i * 3) 3 = some [.int .i64 (l.getD i default).fr, .int .i64 (l.getD i default).to, .int .i64 (l.getD i default).cap])

/-- A predicate on arcs, as a function value: it may make blocks of its own; what a store says of the blocks that it had stays. -/
def Old (s s' : St) : Prop := s.size ≤ s'.size ∧ (∀ b, b < s.size → s'.get b = s.get b) ∧ s'.loops = s.loops
theorem Old.refl (s : St) : Old s s := ⟨Nat.le_refl _, fun _ _ => rfl, rfl⟩
theorem Old.trans {a b c : St} (h : Old a b) (k : Old b c) : Old a c := ⟨Nat.le_trans h.1 k.1, fun x hx => (k.2.1 x (Nat.lt_of_lt_of_le hx h.1)).trans (h.2.1 x hx), k.2.2.trans h.2.2⟩
theorem Old.push (s : St) (k : Blk) : Old s (s.push k) := ⟨by simp, fun b hb => St.get_push_lt _ _ _ hb, rfl⟩
theorem Old.cells {s s' : St} (h : Old s s') {b i n : Nat} {l : List Value} (hl : s.cells b i n = some l) : s'.cells b i n = some l := by
  have hb : b < s.size := by
    unfold St.cells at hl
    split at hl
    · rename_i hg; exact St.get_lt hg
    · cases hl
  unfold St.cells at hl ⊢
  rw [h.2.1 b hb]
  exact hl
theorem Old.arcs {s s' : St} (h : Old s s') {v : Value} {l : List Arc} (ha : Arcs s v l) : Arcs s' v l := by
  obtain ⟨a, cap, h1, h2, h3⟩ := ha
  refine ⟨a, cap, h1, h2, fun hne => ?_⟩
  obtain ⟨b, off, sp, h4, h5⟩ := h3 hne
  exact ⟨b, off, sp, h4, fun i hi => h.cells (h5 i hi)⟩

def PredA (K : Known) (s0 : St) (f : Value) (p : Arc → Bool) : Prop := ∀ a s, Old s0 s → Ev Try.prog K f [Arc.val a] s fun v s' => v = .bool (p a) ∧ Old s s'

end Go.Proofs.Ytgkmpidihgbkdaa
