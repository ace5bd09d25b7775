/- Searches in rows of integers. -/
import Derived.Test.YtgkmpidihgbkdaaAbsStep
import Derived.Test.YtgkmpidihgbkdaaAbsFit
import Derived.IntWalk
namespace Go.Proofs.Ytgkmpidihgbkdaa
open Go.Abs
def Late (K : Known) : Prop := ∀ k args, 5 ≤ k → K k args = none
variable {K : Known}
theorem Late.none (hK : Late K) {k : Nat} (h : 5 ≤ k) (args : List Value) : known K (.func (.func k) #[] #[]) args = none := by simp [known, hK k args h]
theorem sl28 : sliceElem Try.prog 28 = some (3, 1, 8) := by kernel_rfl
theorem ar28 : arrElem Try.prog 28 = none := by kernel_rfl
theorem sh3 : shapeOf Try.prog 3 = some (false, 1) := by kernel_rfl

theorem wrap64 {x : Int} (h1 : -9223372036854775808 ≤ x) (h2 : x < 9223372036854775808) : IntKind.i64.wrap x = x := by
  exact IntWalk.i64_in x ⟨h1, by omega⟩

/-- A slice of integers lies in the store. -/
def Ints (s : St) (v : Value) (l : List Int) : Prop :=
  ∃ a cap, v = .slice a l.length cap ∧ (l ≠ [] → ∃ b off sp, a = some ⟨b, off, sp⟩ ∧ ∀ i, i < l.length → s.cell b (off + i) = some (.int .i64 (l.getD i 0)))

def Pred (K : Known) (f : Value) (p : Int → Bool) : Prop := ∀ x s, Ev Try.prog K f [.int .i64 x] s fun v s' => v = .bool (p x) ∧ s' = s

theorem find_none {p : Int → Bool} : ∀ {l : List Int}, (∀ i, i < l.length → p (l.getD i 0) = false) → l.findIdx? p = none := by
  intro l h
  rw [List.findIdx?_eq_none_iff]
  intro x hx
  obtain ⟨i, hi, rfl⟩ := List.getElem_of_mem hx
  have := h i hi
  simpa [List.getD, hi] using this

theorem find_some {p : Int → Bool} {l : List Int} {i : Nat} (hi : i < l.length) (h : ∀ j, j < i → p (l.getD j 0) = false) (hp : p (l.getD i 0) = true) : l.findIdx? p = some i := by
  rw [List.findIdx?_eq_some_iff_getElem]
  refine ⟨hi, by simpa [List.getD, hi] using hp, fun j hj => ?_⟩
  have := h j hj
  have hjl : j < l.length := by omega
  simpa [List.getD, hjl] using this

theorem c57 (hK : Late K) {v f : Value} {l : List Int} {p : Int → Bool} {s : St} (hv : Ints s v l) (hlen : l.length < 2 ^ 40) (hp : Pred K f p) : Ev Try.prog K (.func (.func 57) #[] #[]) [v, f] s fun r s' => r = .int .i64 (match l.findIdx? p with | some i => i | none => -1) ∧ s' = s := by
  obtain ⟨a, cap, rfl, hcell⟩ := hv
  refine Ev.enterK (hK.none (by decide) _) Try.func57 rfl rfl (Nat.le_of_ble_eq_true rfl) ?_
  refine Wc.tail (Wc.assoc (Wc.region (Wk.assign rfl rfl rfl rfl rfl ?_)))
  refine Wk.next (Wc.assoc (Wc.assoc (Wc.region ?_)))
  refine Wk.move rfl rfl rfl rfl rfl (Wk.lenSlice rfl rfl rfl rfl rfl rfl rfl sl28 (Wk.move rfl rfl rfl rfl rfl (Wk.next ?_)))
  refine Wc.block ?_
  refine Wc.loop (σ := Nat) (fun i => i ≤ l.length ∧ ∀ j, j < i → p (l.getD j 0) = false) (fun i => [(0, .slice a l.length cap), (1, f), (7, goInt l.length), (8, .int .i64 i)]) (fun _ => s) (fun i => l.length - i) 0 ⟨Nat.zero_le _, fun j hj => by omega⟩ ⟨rfl, rfl, rfl, rfl, trivial⟩ rfl ?_
  rintro i ⟨hi, hno⟩
  refine Wc.assoc (Wc.region (Wk.bin rfl rfl rfl rfl rfl rfl rfl (Wk.next ?_)))
  refine Wc.assoc (Wc.cond rfl (fun ht => ?_) (fun ht => ?_))
  · have hlt : i < l.length := by simpa using ht
    obtain ⟨b, off, sp, rfl, hc⟩ := hcell (fun e => by rw [e] at hlt; simp at hlt)
    refine Wc.skip (Wc.assoc (Wc.block ?_))
    refine Wc.assoc (Wc.region (Wk.move rfl rfl rfl rfl rfl (Wk.assign rfl rfl rfl rfl rfl (Wk.next ?_))))
    refine Wc.assoc (Wc.region (Wk.move rfl rfl rfl rfl rfl (Wk.move rfl rfl rfl rfl rfl (Wk.move rfl rfl rfl rfl rfl ?_))))
    refine Wk.indexAddr (r := .pointer (some ⟨b, off + i * 1, none⟩)) rfl rfl rfl rfl rfl rfl (by simp [aindexAddr, ar28, sl28, hlt]) ?_
    refine Wk.load (r := .int .i64 (l.getD i 0)) rfl rfl rfl rfl rfl (by simp [aload, sh3, hc i hlt]) ?_
    refine Wk.call1 rfl rfl rfl rfl rfl rfl rfl ((hp _ s).mono ?_)
    rintro _ _ ⟨rfl, rfl⟩
    refine Wk.next (Wc.cond rfl (fun hpt => ?_) (fun hpf => ?_))
    · refine Wc.assoc (Wc.region (Wk.move rfl rfl rfl rfl rfl (Wk.assign rfl rfl rfl rfl rfl (Wk.next ?_))))
      refine Wc.done'' (fun _ _ => rfl) rfl ⟨?_, rfl⟩
      rw [find_some hlt hno hpt]
      rfl
    · refine Wc.skip (Wc.thence (fun _ _ => rfl) ?_)
      refine Wc.region (Wk.bin rfl rfl rfl rfl rfl rfl rfl (Wk.move rfl rfl rfl rfl rfl (Wk.next ?_)))
      refine Wc.finish fun fr hf => ⟨i + 1, ⟨hlt, fun j hj => ?_⟩, by omega, rfl, hf.less ⟨rfl, rfl, rfl, ?_, trivial⟩⟩
      · by_cases e : j = i
        · subst e; exact hpf
        · exact hno j (by omega)
      · show some (Value.int .i64 (IntKind.i64.wrap ((i : Int) + 1))) = _
        congr 2
        exact wrap64 (by omega) (by omega)
  · have hge : l.length ≤ i := by simpa using ht
    have hil : i = l.length := by omega
    refine Wc.jump (fun _ _ => rfl) ?_
    refine Wc.assoc (Wc.region (Wk.assign rfl rfl rfl rfl rfl (Wk.next (Wc.done' rfl ⟨?_, rfl⟩))))
    rw [find_none (fun j hj => hno j (by omega))]
    rfl
theorem c46 (hK : Late K) {v f : Value} {l : List Int} {p : Int → Bool} {s : St} (hv : Ints s v l) (hlen : l.length < 2 ^ 40) (hp : Pred K f p) : Ev Try.prog K (.func (.func 46) #[] #[]) [v, f] s fun r s' => r = .bool (l.any p) ∧ s' = s := by
  refine Ev.enterK (hK.none (by decide) _) Try.func46 rfl rfl (Nat.le_of_ble_eq_true rfl) ?_
  refine Wc.tail (Wc.assoc (Wc.region (Wk.q rfl rfl rfl (Qk.assign rfl) (Wk.next ?_))))
  refine Wc.assoc (Wc.region (Wk.q rfl rfl rfl (Qk.move rfl) (Wk.q rfl rfl rfl (Qk.move rfl) ?_)))
  refine Wk.c rfl rfl rfl (Ck.call rfl rfl) ((c57 hK hv hlen hp).mono ?_)
  rintro _ _ ⟨rfl, rfl⟩
  refine Wk.q rfl rfl rfl (Qk.bin rfl rfl rfl) (Wk.q rfl rfl rfl (Qk.assign rfl) (Wk.next (Wc.done' rfl ⟨?_, rfl⟩)))
  show Value.bool _ = _
  congr 1
  cases h : l.findIdx? p with
  | none =>
    rw [List.findIdx?_eq_none_iff] at h
    symm
    simpa using h
  | some i =>
    obtain ⟨h1, h2, _⟩ := List.findIdx?_eq_some_iff_getElem.1 h
    have h3 : l.any p = true := List.any_eq_true.2 ⟨_, List.getElem_mem h1, h2⟩
    simp [h3]
end Go.Proofs.Ytgkmpidihgbkdaa
