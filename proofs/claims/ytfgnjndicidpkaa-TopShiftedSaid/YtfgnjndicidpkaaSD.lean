/- Are bids bids? Searches in rows of integers; the reference's and the office's checks. -/
import Derived.Test.YtfgnjndicidpkaaSTypes
import Derived.Test.YtfgnjndicidpkaaR2
import Derived.Test.YtfgnjndicidpkaaSC
namespace Go.Proofs.Ytfgnjndicidpkaa
open Go.Abs
variable {K : Known}

/-- Nothing is known ahead but the answer of the first check, sums and differences with a carry. -/
structure Late (K : Known) : Prop where
  no : ∀ k args, 5 ≤ k ∧ k ≠ 69 ∧ k ≠ 70 → K k args = none
  sum : ∀ x y c : Int, 0 ≤ x ∧ 0 ≤ y ∧ 0 ≤ c ∧ c ≤ 1 → K 69 [.int .u64 x, .int .u64 y, .int .u64 c] = some (.tuple #[.int .u64 ((x + y + c) % 18446744073709551616), .int .u64 ((x + y + c) / 18446744073709551616)])
  dif : ∀ x y c : Int, 0 ≤ x ∧ 0 ≤ y ∧ 0 ≤ c ∧ c ≤ 1 ∧ x < 18446744073709551616 ∧ y + c ≤ x → K 70 [.int .u64 x, .int .u64 y, .int .u64 c] = some (.tuple #[.int .u64 (x - y - c), .int .u64 0])
theorem Late.none (hK : Late K) {k : Nat} (h : 5 ≤ k ∧ k ≠ 69 ∧ k ≠ 70) (args : List Value) : known K (.func (.func k) #[] #[]) args = none := by simp [known, hK.no k args h]
theorem Late.c69 {P : Program} (hK : Late K) {x y c : Int} {s : St} (h : 0 ≤ x ∧ 0 ≤ y ∧ 0 ≤ c ∧ c ≤ 1) : Ev P K (.func (.func 69) #[] #[]) [.int .u64 x, .int .u64 y, .int .u64 c] s fun r s' => r = .tuple #[.int .u64 ((x + y + c) % 18446744073709551616), .int .u64 ((x + y + c) / 18446744073709551616)] ∧ s' = s := Ev.known (hK.sum x y c h) ⟨rfl, rfl⟩
theorem Late.c70 {P : Program} (hK : Late K) {x y c : Int} {s : St} (h : 0 ≤ x ∧ 0 ≤ y ∧ 0 ≤ c ∧ c ≤ 1 ∧ x < 18446744073709551616 ∧ y + c ≤ x) : Ev P K (.func (.func 70) #[] #[]) [.int .u64 x, .int .u64 y, .int .u64 c] s fun r s' => r = .tuple #[.int .u64 (x - y - c), .int .u64 0] ∧ s' = s := Ev.known (hK.dif x y c h) ⟨rfl, rfl⟩

theorem any_false {α : Type} {p : α → Bool} {d : α} {l : List α} (h : ∀ i, i < l.length → p (l.getD i d) = false) : l.any p = false := by
  rw [List.any_eq_false]
  intro x hx
  obtain ⟨i, hi, rfl⟩ := List.getElem_of_mem hx
  have := h i hi
  simpa [List.getD, hi] using this
theorem any_true {α : Type} {p : α → Bool} {d : α} {l : List α} {i : Nat} (hi : i < l.length) (h : p (l.getD i d) = true) : l.any p = true := by
  refine List.any_eq_true.2 ⟨l[i], List.getElem_mem hi, ?_⟩
  simpa [List.getD, hi] using h

def Pred (K : Known) (f : Value) (p : Int → Bool) : Prop := ∀ x s, Ev Try.prog K f [.int .i64 x] s fun v s' => v = .bool (p x) ∧ s' = s

set_option maxRecDepth 100000 in
theorem c60 (hK : Late K) {v f : Value} {l : List Int} {p : Int → Bool} {s : St} (hv : IRow s v l) (hlen : l.length < 2 ^ 40) (hp : ∀ x, Ev Try.prog K f [.int .i64 x] s fun v s' => v = .bool (p x) ∧ s' = s) : Ev Try.prog K (.func (.func 60) #[] #[]) [v, f] s fun r s' => ∃ z, r = .int .i64 z ∧ (decide (z ≥ 0) = l.any p) ∧ s' = s := by
  refine Ev.enterK (hK.none (by decide) _) Try.func60 rfl rfl (Nat.le_of_ble_eq_true rfl) ?_
  refine Wc.tail ?_
  refine Wc.assoc ?_
  refine Wc.region ?_
  refine Wk.q rfl rfl rfl (Qk.assign rfl) ?_
  refine Wk.next ?_
  refine Wc.assoc ?_
  refine Wc.assoc ?_
  refine Wc.region ?_
  refine Wk.q rfl rfl rfl (Qk.move rfl) ?_
  refine Wk.q rfl rfl rfl (Qk.lenR rfl rfl rfl hv sl29) ?_
  refine Wk.q rfl rfl rfl (Qk.move rfl) ?_
  refine Wk.next ?_
  refine Wc.block ?_
  refine Wc.loop (σ := Nat) (fun i => i ≤ l.length ∧ ∀ j, j < i → p (l.getD j 0) = false) (fun i => [(0, v), (1, f), (7, goInt l.length), (8, .int .i64 i)]) (fun _ => s) (fun i => l.length - i) 0 ⟨Nat.zero_le _, fun j hj => absurd hj (Nat.not_lt_zero _)⟩ ⟨rfl, rfl, rfl, rfl, trivial⟩ rfl ?_
  rintro i ⟨hi, hno⟩
  refine Wc.assoc ?_
  refine Wc.region ?_
  refine Wk.b rfl rfl rfl (Qk.bin rfl rfl rfl) fun b h9 => ?_
  cases b
  · -- t9 = False
    refine Wk.next ?_
    refine Wc.assoc ?_
    refine Wc.condF rfl ?_
    refine Wc.jump (fun _ _ => rfl) ?_
    refine Wc.assoc ?_
    refine Wc.region ?_
    refine Wk.q rfl rfl rfl (Qk.assign rfl) ?_
    refine Wk.next ?_
    refine Wc.done'' (fun _ _ => rfl) rfl ?_
    have hge : l.length ≤ i := by
      have : ¬ ((i : Int) < (l.length : Int)) := of_decide_eq_false h9
      omega
    refine ⟨_, rfl, ?_, rfl⟩
    rw [any_false (d := 0) (fun j hj => hno j (by omega))]
    decide
  · -- t9 = True
    have hlt : i < l.length := by
      have : (i : Int) < (l.length : Int) := of_decide_eq_true h9
      omega
    refine Wk.next ?_
    refine Wc.assoc ?_
    refine Wc.condT rfl ?_
    refine Wc.skip ?_
    refine Wc.assoc ?_
    refine Wc.block ?_
    refine Wc.assoc ?_
    refine Wc.region ?_
    refine Wk.q rfl rfl rfl (Qk.move rfl) ?_
    refine Wk.q rfl rfl rfl (Qk.assign rfl) ?_
    refine Wk.next ?_
    refine Wc.assoc ?_
    refine Wc.region ?_
    refine Wk.q rfl rfl rfl (Qk.move rfl) ?_
    refine Wk.q rfl rfl rfl (Qk.move rfl) ?_
    refine Wk.q rfl rfl rfl (Qk.move rfl) ?_
    refine Wk.q rfl rfl rfl (Qk.at rfl rfl ar29 sl29 hv (by constructor <;> omega)) ?_
    refine Wk.r rfl rfl rfl (Rk.intR rfl sh3 hv (i := i) (by omega)) ?_
    refine Wk.c rfl rfl rfl (Ck.call rfl rfl) ((hp _).mono ?_)
    rintro _ _ ⟨rfl, rfl⟩
    skip
    refine Wk.next ?_
    refine Wc.cond rfl (fun hT16 => ?_) (fun hF16 => ?_)
    · -- k16 = True
      refine Wc.assoc ?_
      refine Wc.region ?_
      refine Wk.q rfl rfl rfl (Qk.move rfl) ?_
      refine Wk.q rfl rfl rfl (Qk.assign rfl) ?_
      refine Wk.next ?_
      refine Wc.done'' (fun _ _ => rfl) rfl ?_
      refine ⟨_, rfl, ?_, rfl⟩
      rw [any_true (d := 0) hlt hT16]
      simp
    · -- k16 = False
      refine Wc.skip ?_
      refine Wc.thence (fun _ _ => rfl) ?_
      refine Wc.region ?_
      refine Wk.q rfl rfl rfl (Qk.add rfl rfl (by omega)) ?_
      refine Wk.q rfl rfl rfl (Qk.move rfl) ?_
      refine Wk.next ?_
      refine Wc.finish fun fr hf => ?_
      refine ⟨i + 1, ⟨hlt, fun j hj => ?_⟩, by omega, rfl, hf.less ⟨rfl, rfl, rfl, rfl, trivial⟩⟩
      by_cases e : j = i
      · subst e; exact hF16
      · exact hno j (by omega)
theorem c40 (hK : Late K) {v f : Value} {l : List Int} {p : Int → Bool} {s : St} (hv : IRow s v l) (hlen : l.length < 2 ^ 40) (hp : ∀ x, Ev Try.prog K f [.int .i64 x] s fun v s' => v = .bool (p x) ∧ s' = s) : Ev Try.prog K (.func (.func 40) #[] #[]) [v, f] s fun r s' => r = .bool (l.any p) ∧ s' = s := by
  refine Ev.enterK (hK.none (by decide) _) Try.func40 rfl rfl (Nat.le_of_ble_eq_true rfl) ?_
  refine Wc.tail ?_
  refine Wc.assoc ?_
  refine Wc.region ?_
  refine Wk.q rfl rfl rfl (Qk.assign rfl) ?_
  refine Wk.next ?_
  refine Wc.assoc ?_
  refine Wc.region ?_
  refine Wk.q rfl rfl rfl (Qk.move rfl) ?_
  refine Wk.q rfl rfl rfl (Qk.move rfl) ?_
  refine Wk.c rfl rfl rfl (Ck.call rfl rfl) ((c60 hK hv hlen hp).mono ?_)
  rintro _ _ ⟨z, rfl, hz, rfl⟩
  refine Wk.q rfl rfl rfl (Qk.bin rfl rfl rfl) ?_
  refine Wk.q rfl rfl rfl (Qk.assign rfl) ?_
  refine Wk.next ?_
  refine Wc.done'' (fun _ _ => rfl) rfl ?_
  refine ⟨?_, rfl⟩
  show Value.bool _ = _
  rw [← hz]

def odd (x : Int) : Bool := decide (x < 0) || decide (x > 1000000)
theorem c39 (hK : Late K) : Pred K (.func (.func 39) #[] #[]) odd := fun x s => by
  refine Ev.enterK (hK.none (by decide) _) Try.func39 rfl rfl (Nat.le_of_ble_eq_true rfl) ?_
  refine Wc.tail ?_
  refine Wc.assoc ?_
  refine Wc.region ?_
  refine Wk.q rfl rfl rfl (Qk.assign rfl) ?_
  refine Wk.next ?_
  refine Wc.assoc ?_
  refine Wc.region ?_
  refine Wk.q rfl rfl rfl (Qk.move rfl) ?_
  refine Wk.b rfl rfl rfl (Qk.bin rfl rfl rfl) fun b h4 => ?_
  cases b
  · -- t4 = False
    refine Wk.q rfl rfl rfl (Qk.move rfl) ?_
    refine Wk.q rfl rfl rfl (Qk.move rfl) ?_
    refine Wk.q rfl rfl rfl (Qk.bin rfl rfl rfl) ?_
    refine Wk.q rfl rfl rfl (Qk.pickF rfl rfl) ?_
    refine Wk.q rfl rfl rfl (Qk.assign rfl) ?_
    refine Wk.next ?_
    refine Wc.done'' (fun _ _ => rfl) rfl ?_
    exact ⟨by have := of_decide_eq_false h4; simp [pack, odd]; omega, rfl⟩
  · -- t4 = True
    refine Wk.q rfl rfl rfl (Qk.move rfl) ?_
    refine Wk.no rfl rfl rfl ?_
    refine Wk.no rfl rfl rfl ?_
    refine Wk.q rfl rfl rfl (Qk.pickT rfl rfl) ?_
    refine Wk.q rfl rfl rfl (Qk.assign rfl) ?_
    refine Wk.next ?_
    refine Wc.done'' (fun _ _ => rfl) rfl ?_
    exact ⟨by have := of_decide_eq_true h4; simp [pack, odd]; omega, rfl⟩

/-- A slice of rows of integers. -/
def rowM (M : List (List Int)) (i : Nat) : List Int := M.getD i []
def matM (M : List (List Int)) (i j : Nat) : Int := (rowM M i).getD j 0
def MRow (s : St) (v : Value) (M : List (List Int)) : Prop := ∃ rv : Nat → Value, Row s v M.length 1 (fun i => [rv i]) ∧ ∀ i, i < M.length → IRow s (rv i) (rowM M i)
theorem MRow.old {s s' : St} {v : Value} {M : List (List Int)} (h : MRow s v M) (ho : Old s s') : MRow s' v M := by
  obtain ⟨rv, h1, h2⟩ := h
  exact ⟨rv, Row.old ho h1, fun i hi => (h2 i hi).old ho⟩

structure Bids (M : List (List Int)) : Prop where
  pos : 1 ≤ M.length
  most : M.length ≤ 6
  square : ∀ i, i < M.length → (rowM M i).length = M.length
  range : ∀ i j, i < M.length → j < M.length → 0 ≤ matM M i j ∧ matM M i j ≤ 1000000
theorem Bids.evens {M : List (List Int)} (h : Bids M) : ∀ i, i < M.length → (rowM M i).any odd = false := fun i hi => any_false (d := 0) fun j hj => by
  have := h.range i j hi (by rw [← h.square i hi]; exact hj)
  show odd (matM M i j) = false
  simp [odd]
  omega

set_option maxRecDepth 100000 in
theorem c24 (hK : Late K) {v : Value} {M : List (List Int)} {s : St} (hm : MRow s v M) (hB : Bids M) : Ev Try.prog K (.func (.func 24) #[] #[]) [v] s fun r s' => r = .int .i64 0 ∧ s' = s := by
  have hn1 := hB.pos
  have hn2 := hB.most
  obtain ⟨rv, hR, hrow⟩ := hm
  refine Ev.enterK (hK.none (by decide) _) Try.func24 rfl rfl (Nat.le_of_ble_eq_true rfl) ?_
  refine Wc.tail ?_
  refine Wc.assoc ?_
  refine Wc.region ?_
  refine Wk.q rfl rfl rfl (Qk.assign rfl) ?_
  refine Wk.next ?_
  refine Wc.assoc ?_
  refine Wc.assoc ?_
  refine Wc.region ?_
  refine Wk.q rfl rfl rfl (Qk.move rfl) ?_
  refine Wk.q rfl rfl rfl (Qk.lenR rfl rfl rfl hR sl22) ?_
  refine Wk.b rfl rfl rfl (Qk.bin rfl rfl rfl) fun b h8 => ?_
  obtain rfl : b = false := by rw [← h8, decide_eq_false_iff_not]; omega -- t8
  refine Wk.next ?_
  refine Wc.condF rfl ?_
  refine Wc.skip ?_
  refine Wc.assoc ?_
  refine Wc.assoc ?_
  refine Wc.region ?_
  refine Wk.q rfl rfl rfl (Qk.move rfl) ?_
  refine Wk.q rfl rfl rfl (Qk.lenR rfl rfl rfl hR sl22) ?_
  refine Wk.b rfl rfl rfl (Qk.bin rfl rfl rfl) fun b h11 => ?_
  obtain rfl : b = false := by rw [← h11]; exact beq_eq_false_iff_ne.2 (by omega) -- t11
  refine Wk.next ?_
  refine Wc.condF rfl ?_
  refine Wc.skip ?_
  refine Wc.assoc ?_
  refine Wc.region ?_
  refine Wk.q rfl rfl rfl (Qk.assign rfl) ?_
  refine Wk.next ?_
  refine Wc.assoc ?_
  refine Wc.assoc ?_
  refine Wc.region ?_
  refine Wk.q rfl rfl rfl (Qk.move rfl) ?_
  refine Wk.q rfl rfl rfl (Qk.lenR rfl rfl rfl hR sl22) ?_
  refine Wk.q rfl rfl rfl (Qk.move rfl) ?_
  refine Wk.next ?_
  refine Wc.block ?_
  refine Wc.loop (σ := Nat) (fun i => i ≤ M.length) (fun i => [(0, v), (3, .func (.func 39) #[] #[]), (12, v), (13, goInt M.length), (14, .int .i64 i)]) (fun _ => s) (fun i => M.length - i) 0 (Nat.zero_le _) ⟨rfl, rfl, rfl, rfl, rfl, trivial⟩ rfl ?_
  rintro i hi
  have hos := Old.refl s
  refine Wc.assoc ?_
  refine Wc.region ?_
  refine Wk.b rfl rfl rfl (Qk.bin rfl rfl rfl) fun b h15 => ?_
  cases b
  · -- t15 = False
    refine Wk.next ?_
    refine Wc.assoc ?_
    refine Wc.condF rfl ?_
    refine Wc.jump (fun _ _ => rfl) ?_
    refine Wc.assoc ?_
    refine Wc.region ?_
    refine Wk.q rfl rfl rfl (Qk.assign rfl) ?_
    refine Wk.next ?_
    refine Wc.done'' (fun _ _ => rfl) rfl ?_
    exact ⟨rfl, rfl⟩
  · -- t15 = True
    have hlt : i < M.length := by
      have : (i : Int) < (M.length : Int) := of_decide_eq_true h15
      omega
    have hsq := hB.square i hlt
    refine Wk.next ?_
    refine Wc.assoc ?_
    refine Wc.condT rfl ?_
    refine Wc.skip ?_
    refine Wc.assoc ?_
    refine Wc.block ?_
    refine Wc.assoc ?_
    refine Wc.region ?_
    refine Wk.q rfl rfl rfl (Qk.at rfl rfl ar22 sl22 (Row.old (by assumption) hR) (by constructor <;> omega)) ?_
    refine Wk.r rfl rfl rfl (Rk.atS rfl sh29 (Row.old (by assumption) hR) (i := i) (by omega) rfl) ?_
    refine Wk.q rfl rfl rfl (Qk.assign rfl) ?_
    refine Wk.next ?_
    refine Wc.assoc ?_
    refine Wc.region ?_
    refine Wk.q rfl rfl rfl (Qk.move rfl) ?_
    refine Wk.q rfl rfl rfl (Qk.lenR rfl rfl rfl (hrow i hlt) sl29) ?_
    refine Wk.q rfl rfl rfl (Qk.move rfl) ?_
    refine Wk.q rfl rfl rfl (Qk.lenR rfl rfl rfl hR sl22) ?_
    refine Wk.b rfl rfl rfl (Qk.bin rfl rfl rfl) fun b h22 => ?_
    obtain rfl : b = false := by rw [← h22, hsq]; simp -- t22
    refine Wk.q rfl rfl rfl (Qk.move rfl) ?_
    refine Wk.q rfl rfl rfl (Qk.move rfl) ?_
    refine Wk.q rfl rfl rfl (Qk.move rfl) ?_
    refine Wk.c rfl rfl rfl (Ck.call rfl rfl) ((c40 hK (hrow i hlt) (by omega) (fun x => c39 hK x _)).mono ?_)
    rintro _ _ ⟨rfl, rfl⟩
    skip
    refine Wk.b rfl rfl rfl (Qk.pickF rfl rfl) fun b h27 => ?_
    obtain rfl : b = false := by exact (by rw [← h27]; exact hB.evens i hlt) -- t27
    refine Wk.next ?_
    refine Wc.condF rfl ?_
    refine Wc.skip ?_
    refine Wc.thence (fun _ _ => rfl) ?_
    refine Wc.region ?_
    refine Wk.q rfl rfl rfl (Qk.add rfl rfl (by omega)) ?_
    refine Wk.q rfl rfl rfl (Qk.move rfl) ?_
    refine Wk.next ?_
    refine Wc.finish fun fr hf => ?_
    exact ⟨i + 1, hlt, by omega, rfl, hf.less ⟨rfl, rfl, rfl, rfl, rfl, trivial⟩⟩
end Go.Proofs.Ytfgnjndicidpkaa
