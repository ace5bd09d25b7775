/- What is wrong with an arc. -/
import Derived.Test.YtgkmpidihgbkdaaJA
import Derived.Test.YtgkmpidihgbkdaaJTypes
namespace Go.Proofs.Ytgkmpidihgbkdaa
open Go.Abs
variable {K : Known}
set_option maxRecDepth 100000 in
theorem c43 (hK : Late K) {s : St} {bn : Nat} {N : Int} {arcs : Value} (hb : s.get bn = some ⟨[.int .i64 N, arcs], .rw⟩) (f t c : Int) : Ev Try.prog K (.func (.func 43) #[] #[.pointer (some ⟨bn, 0, none⟩)]) [.agg #[.int .i64 f, .int .i64 t, .int .i64 c]] s
    fun v s' => v = .bool (decide (min f t < 0) || decide (max f t ≥ N) || f == t || decide (c < 0) || decide (c > 1000000)) ∧ s' = s.push ⟨[.int .i64 f, .int .i64 t, .int .i64 c], .rw⟩ := by
  refine Ev.enterK (by simp [known]) Try.func43 rfl rfl (Nat.le_of_ble_eq_true rfl) ?_
  refine Wc.tail (Wc.assoc (Wc.region (Wk.f rfl rfl rfl (Fk.box rfl rfl) (Wk.q rfl rfl rfl (Qk.assign rfl) (Wk.next ?_)))))
  have hg : (s.push ⟨[.int .i64 f, .int .i64 t, .int .i64 c], .rw⟩).get s.size = some ⟨[.int .i64 f, .int .i64 t, .int .i64 c], .rw⟩ := by simp
  have hg2 : (s.push ⟨[.int .i64 f, .int .i64 t, .int .i64 c], .rw⟩).get bn = some ⟨[.int .i64 N, arcs], .rw⟩ := by rw [St.get_push_lt _ _ _ (St.get_lt hb)]; exact hb
  refine Wc.assoc (Wc.region ?_)
  repeat' (first
    | refine Wk.no rfl rfl rfl ?_
    | refine Wk.q rfl rfl rfl (Qk.move rfl) ?_
    | refine Wk.q rfl rfl rfl (Qk.assign rfl) ?_
    | refine Wk.q rfl rfl rfl (Qk.min2 rfl rfl rfl) ?_
    | refine Wk.q rfl rfl rfl (Qk.max2 rfl rfl rfl) ?_
    | refine Wk.q rfl rfl rfl (Qk.pickT rfl rfl) ?_
    | refine Wk.q rfl rfl rfl (Qk.pickF rfl rfl) ?_
    | (refine Wk.b rfl rfl rfl (Qk.bin rfl rfl rfl) fun b hb' => ?_
       cases b)
    | refine Wk.q rfl rfl rfl (Qk.fa rfl fd47_0) ?_
    | refine Wk.q rfl rfl rfl (Qk.fa rfl fd47_1) ?_
    | refine Wk.q rfl rfl rfl (Qk.fa rfl fd47_2) ?_
    | refine Wk.q rfl rfl rfl (Qk.fa rfl fd24_0) ?_
    | refine Wk.r rfl rfl rfl (Rk.cell rfl sh3 hg (by simp) rfl) ?_
    | refine Wk.r rfl rfl rfl (Rk.cell rfl sh3 hg2 (by simp) rfl) ?_)
  all_goals refine Wk.next (Wc.done' rfl ⟨?_, rfl⟩)
  all_goals
    have e1 : (if t < f then t else f) = min f t := by rw [Int.min_def]; split <;> split <;> omega
    have e2 : (if t > f then t else f) = max f t := by rw [Int.max_def]; split <;> split <;> omega
    simp only [e1, e2] at *
    simp_all [pack]
end Go.Proofs.Ytgkmpidihgbkdaa
