/- The best assignment, its value; the owner of an item; the check of a flat. -/
import Derived.Test.YtfgnjndicidpkaaSG
namespace Go.Proofs.Ytfgnjndicidpkaa
open Go.Abs
variable {K : Known}

theorem Sm.bd {n : Nat} {g : Nat → Int} (h : ∀ i, i < n → 0 ≤ g i ∧ g i ≤ 1000000) : 0 ≤ Sm n g ∧ Sm n g ≤ n * 1000000 := by
  induction n with
  | zero => simp [Sm]
  | succ n ih =>
    have h1 := ih fun i hi => h i (by omega)
    have h2 := h n (by omega)
    simp only [Sm]
    omega
theorem Bids.two {M : List (List Int)} (h : Bids M) : 1 ≤ M.length ∧ M.length ≤ 6 := ⟨h.pos, h.most⟩

set_option maxRecDepth 100000 in
theorem c8 (hK : Late K) {M : List (List Int)} (hB : Bids M) {v : Value} {s : St} (hm : MRow s v M) :
    Ev Try.prog K (.func (.func 8) #[] #[]) [v] s fun r s' => ∃ b bv c, r = .tuple #[bv, .int .i64 (valOf M.length (matM M) (asgOf b)), .int .i64 0] ∧ OwnAt s' bv 1 b.length c (ic b) ∧ s.size ≤ c ∧ AsgL M.length b ∧ Opt M.length (matM M) (asgOf b) ∧ Old s s' := by
  refine Ev.enterK (hK.none (by decide) _) Try.func8 rfl rfl (Nat.le_of_ble_eq_true rfl) ?_
  refine Wc.tail ?_
  refine Wc.assoc ?_
  refine Wc.region ?_
  refine Wk.q rfl rfl rfl (Qk.assign rfl) ?_
  refine Wk.q rfl rfl rfl (Qk.assign rfl) ?_
  refine Wk.q rfl rfl rfl (Qk.assign rfl) ?_
  refine Wk.next ?_
  refine Wc.assoc ?_
  refine Wc.assoc ?_
  refine Wc.region ?_
  refine Wk.q rfl rfl rfl (Qk.move rfl) ?_
  refine Wk.c rfl rfl rfl (Ck.call rfl rfl) ((c24 hK hm hB).mono ?_)
  rintro r t ⟨rfl, rfl⟩
  refine Wk.q rfl rfl rfl (Qk.assign rfl) ?_
  refine Wk.next ?_
  refine Wc.assoc ?_
  refine Wc.region ?_
  refine Wk.q rfl rfl rfl (Qk.move rfl) ?_
  refine Wk.b rfl rfl rfl (Qk.bin rfl rfl rfl) fun b h9 => ?_
  obtain rfl : b = false := by exact h9.symm -- t9
  refine Wk.next ?_
  refine Wc.condF rfl ?_
  refine Wc.skip ?_
  refine Wc.assoc ?_
  refine Wc.region ?_
  refine Wk.q rfl rfl rfl (Qk.move rfl) ?_
  refine Wk.c rfl rfl rfl (Ck.call rfl rfl) ((c25 hK hB hm).mono ?_)
  rintro r2 t2 ⟨b, bv, c, rfl, hown, hc, hA, hO, ho⟩
  have hown0 := hown
  obtain ⟨cap, md, cs, hbe, _⟩ := hown0
  subst hbe
  refine Wk.q rfl rfl rfl (Qk.move rfl) ?_
  refine Wk.q rfl rfl rfl (Qk.extract rfl rfl) ?_
  refine Wk.q rfl rfl rfl (Qk.extract rfl rfl) ?_
  refine Wk.q rfl rfl rfl (Qk.assign rfl) ?_
  refine Wk.q rfl rfl rfl (Qk.assign rfl) ?_
  refine Wk.next ?_
  refine Wc.assoc ?_
  refine Wc.region ?_
  refine Wk.q rfl rfl rfl (Qk.move rfl) ?_
  refine Wk.q rfl rfl rfl (Qk.move rfl) ?_
  refine Wk.q rfl rfl rfl (Qk.assign rfl) ?_
  refine Wk.q rfl rfl rfl (Qk.assign rfl) ?_
  refine Wk.q rfl rfl rfl (Qk.assign rfl) ?_
  refine Wk.next ?_
  refine Wc.done'' (fun _ _ => rfl) rfl ?_
  exact ⟨b, _, c, rfl, hown, hc, hA, hO, ho⟩
set_option maxRecDepth 100000 in
theorem c27 (hK : Late K) {M : List (List Int)} {l : List Int} {v lv : Value} {s : St} (hm : MRow s v M) (ha : IRow s lv l) (hB : Bids M) (hA : AsgL M.length l) :
    Ev Try.prog K (.func (.func 27) #[] #[]) [v, lv] s fun r s' => r = .int .i64 (valOf M.length (matM M) (asgOf l)) ∧ s' = s := by
  have hn1 := hB.pos
  have hn2 := hB.most
  have hll := hA.len
  obtain ⟨rv, hRr, hrow⟩ := hm
  refine Ev.enterK (hK.none (by decide) _) Try.func27 rfl rfl (Nat.le_of_ble_eq_true rfl) ?_
  refine Wc.tail ?_
  refine Wc.assoc ?_
  refine Wc.region ?_
  refine Wk.q rfl rfl rfl (Qk.assign rfl) ?_
  refine Wk.next ?_
  refine Wc.assoc ?_
  refine Wc.region ?_
  refine Wk.q rfl rfl rfl (Qk.assign rfl) ?_
  refine Wk.next ?_
  refine Wc.assoc ?_
  refine Wc.assoc ?_
  refine Wc.region ?_
  refine Wk.q rfl rfl rfl (Qk.move rfl) ?_
  refine Wk.q rfl rfl rfl (Qk.lenR rfl rfl rfl ha sl29) ?_
  refine Wk.q rfl rfl rfl (Qk.move rfl) ?_
  refine Wk.next ?_
  refine Wc.block ?_
  refine Wc.loop (σ := Nat) (fun i => i ≤ l.length) (fun i => [(0, v), (1, lv), (5, .int .i64 (Sm i (fun k => matM M k (asgOf l k)))), (8, lv), (9, goInt l.length), (10, .int .i64 i)]) (fun _ => s) (fun i => l.length - i) 0 (Nat.zero_le _) ⟨rfl, rfl, rfl, rfl, rfl, rfl, trivial⟩ rfl ?_
  rintro i hi
  refine Wc.assoc ?_
  refine Wc.region ?_
  refine Wk.b rfl rfl rfl (Qk.bin rfl rfl rfl) fun b h11 => ?_
  cases b
  · -- t11 = False
    refine Wk.next ?_
    refine Wc.assoc ?_
    refine Wc.condF rfl ?_
    refine Wc.jump (fun _ _ => rfl) ?_
    refine Wc.assoc ?_
    refine Wc.region ?_
    refine Wk.q rfl rfl rfl (Qk.move rfl) ?_
    refine Wk.q rfl rfl rfl (Qk.assign rfl) ?_
    refine Wk.next ?_
    refine Wc.done'' (fun _ _ => rfl) rfl ?_
    have hge : i = M.length := by
      have : ¬ ((i : Int) < (l.length : Int)) := of_decide_eq_false h11
      omega
    refine ⟨?_, rfl⟩
    subst hge
    rfl
  · -- t11 = True
    have hlt : i < M.length := by
      have : (i : Int) < (l.length : Int) := of_decide_eq_true h11
      omega
    have hel := hA.p0.2.1 i hlt
    have hsq := hB.square i hlt
    have hrw := hrow i hlt
    have hal : asgOf l i < M.length := hA.asg.lt i hlt
    have hbd := Sm.bd (n := i) (g := fun k => matM M k (asgOf l k)) fun k hk => hB.range k (asgOf l k) (by omega) (hA.asg.lt k (by omega))
    have hrng : 0 ≤ (rowM M i).getD (l.getD i 0).toNat 0 ∧ (rowM M i).getD (l.getD i 0).toNat 0 ≤ 1000000 := hB.range i _ hlt hal
    refine Wk.next ?_
    refine Wc.assoc ?_
    refine Wc.condT rfl ?_
    refine Wc.skip ?_
    refine Wc.assoc ?_
    refine Wc.block ?_
    refine Wc.assoc ?_
    refine Wc.region ?_
    refine Wk.q rfl rfl rfl (Qk.move rfl) ?_
    refine Wk.q rfl rfl rfl (Qk.at rfl rfl ar29 sl29 ha (by constructor <;> omega)) ?_
    refine Wk.r rfl rfl rfl (Rk.intR rfl sh3 ha (i := i) (by omega)) ?_
    refine Wk.q rfl rfl rfl (Qk.assign rfl) ?_
    refine Wk.q rfl rfl rfl (Qk.assign rfl) ?_
    refine Wk.next ?_
    refine Wc.region ?_
    refine Wk.q rfl rfl rfl (Qk.move rfl) ?_
    refine Wk.q rfl rfl rfl (Qk.move rfl) ?_
    refine Wk.q rfl rfl rfl (Qk.move rfl) ?_
    refine Wk.q rfl rfl rfl (Qk.at rfl rfl ar22 sl22 hRr (by constructor <;> omega)) ?_
    refine Wk.r rfl rfl rfl (Rk.atS rfl sh29 hRr (i := i) (by omega) rfl) ?_
    refine Wk.q rfl rfl rfl (Qk.move rfl) ?_
    refine Wk.q rfl rfl rfl (Qk.at rfl rfl ar29 sl29 hrw (by constructor <;> omega)) ?_
    refine Wk.r rfl rfl rfl (Rk.intR rfl sh3 hrw (i := (l.getD i 0).toNat) (by omega)) ?_
    refine Wk.q rfl rfl rfl (Qk.add rfl rfl (by omega)) ?_
    refine Wk.q rfl rfl rfl (Qk.assign rfl) ?_
    refine Wk.next ?_
    refine Wc.thence (fun _ _ => rfl) ?_
    refine Wc.region ?_
    refine Wk.q rfl rfl rfl (Qk.add rfl rfl (by omega)) ?_
    refine Wk.q rfl rfl rfl (Qk.move rfl) ?_
    refine Wk.next ?_
    refine Wc.finish fun fr hf => ?_
    exact ⟨i + 1, by omega, by omega, rfl, hf.less ⟨rfl, rfl, rfl, rfl, rfl, rfl, trivial⟩⟩
set_option maxRecDepth 100000 in
theorem c9 (hK : Late K) {M : List (List Int)} {l : List Int} {v lv : Value} {s : St} (hm : MRow s v M) (ha : IRow s lv l) (hB : Bids M) (hA : AsgL M.length l) :
    Ev Try.prog K (.func (.func 9) #[] #[]) [v, lv] s fun r s' => r = .tuple #[.int .i64 (valOf M.length (matM M) (asgOf l)), .int .i64 0] ∧ Old s s' := by
  have hm0 := hm
  obtain ⟨rv, hRr, hrow⟩ := hm0
  refine Ev.enterK (hK.none (by decide) _) Try.func9 rfl rfl (Nat.le_of_ble_eq_true rfl) ?_
  refine Wc.tail ?_
  refine Wc.assoc ?_
  refine Wc.region ?_
  refine Wk.q rfl rfl rfl (Qk.assign rfl) ?_
  refine Wk.q rfl rfl rfl (Qk.assign rfl) ?_
  refine Wk.next ?_
  refine Wc.assoc ?_
  refine Wc.assoc ?_
  refine Wc.region ?_
  refine Wk.q rfl rfl rfl (Qk.move rfl) ?_
  refine Wk.c rfl rfl rfl (Ck.call rfl rfl) ((c24 hK hm hB).mono ?_)
  rintro r t ⟨rfl, rfl⟩
  refine Wk.q rfl rfl rfl (Qk.assign rfl) ?_
  refine Wk.next ?_
  refine Wc.assoc ?_
  refine Wc.region ?_
  refine Wk.q rfl rfl rfl (Qk.move rfl) ?_
  refine Wk.b rfl rfl rfl (Qk.bin rfl rfl rfl) fun b h10 => ?_
  obtain rfl : b = false := by exact h10.symm -- t10
  refine Wk.next ?_
  refine Wc.condF rfl ?_
  refine Wc.skip ?_
  refine Wc.assoc ?_
  refine Wc.assoc ?_
  refine Wc.region ?_
  refine Wk.q rfl rfl rfl (Qk.move rfl) ?_
  refine Wk.q rfl rfl rfl (Qk.move rfl) ?_
  refine Wk.q rfl rfl rfl (Qk.lenR rfl rfl rfl hRr sl22) ?_
  refine Wk.c rfl rfl rfl (Ck.call rfl rfl) ((c26 hK ha hA.p0 hB.two).mono ?_)
  rintro r2 t2 ⟨rfl, ho⟩
  skip
  refine Wk.b rfl rfl rfl (Qk.not rfl) fun b h16 => ?_
  obtain rfl : b = false := by exact h16.symm -- t16
  refine Wk.next ?_
  refine Wc.condF rfl ?_
  refine Wc.skip ?_
  refine Wc.assoc ?_
  refine Wc.region ?_
  refine Wk.q rfl rfl rfl (Qk.move rfl) ?_
  refine Wk.q rfl rfl rfl (Qk.move rfl) ?_
  refine Wk.c rfl rfl rfl (Ck.call rfl rfl) ((c27 hK (hm.old ho) (ha.old ho) hB hA).mono ?_)
  rintro r3 t3 ⟨rfl, rfl⟩
  refine Wk.q rfl rfl rfl (Qk.assign rfl) ?_
  refine Wk.q rfl rfl rfl (Qk.assign rfl) ?_
  refine Wk.next ?_
  refine Wc.done'' (fun _ _ => rfl) rfl ?_
  exact ⟨rfl, ho⟩
set_option maxRecDepth 100000 in
theorem c29 (hK : Late K) {l : List Int} {v : Value} {x : Int} {s : St} (ha : IRow s v l) (hl : l.length ≤ 1000) (hex : ∃ i, i < l.length ∧ l.getD i 0 = x) :
    Ev Try.prog K (.func (.func 29) #[] #[]) [v, .int .i64 x] s fun r s' => ∃ i : Nat, i < l.length ∧ r = .int .i64 i ∧ l.getD i 0 = x ∧ s' = s := by
  refine Ev.enterK (hK.none (by decide) _) Try.func29 rfl rfl (Nat.le_of_ble_eq_true rfl) ?_
  refine Wc.tail ?_
  refine Wc.assoc ?_
  refine Wc.region ?_
  refine Wk.q rfl rfl rfl (Qk.assign rfl) ?_
  refine Wk.next ?_
  refine Wc.assoc ?_
  refine Wc.assoc ?_
  refine Wc.region ?_
  refine Wk.q rfl rfl rfl (Qk.move rfl) ?_
  refine Wk.q rfl rfl rfl (Qk.lenR rfl rfl rfl ha sl29) ?_
  refine Wk.q rfl rfl rfl (Qk.move rfl) ?_
  refine Wk.next ?_
  refine Wc.block ?_
  refine Wc.loop (σ := Nat) (fun i => i ≤ l.length ∧ ∀ k, k < i → l.getD k 0 ≠ x) (fun i => [(0, v), (1, .int .i64 x), (6, v), (7, goInt l.length), (8, .int .i64 i)]) (fun _ => s) (fun i => l.length - i) 0 ⟨Nat.zero_le _, fun k hk => absurd hk (Nat.not_lt_zero _)⟩ ⟨rfl, rfl, rfl, rfl, rfl, trivial⟩ rfl ?_
  rintro i ⟨hi, hno⟩
  refine Wc.assoc ?_
  refine Wc.region ?_
  refine Wk.b rfl rfl rfl (Qk.bin rfl rfl rfl) fun b h9 => ?_
  cases b
  · -- t9 = False
    refine Wk.next ?_
    refine Wc.assoc ?_
    refine Wc.condF rfl ?_
    refine Wc.jump (fun _ _ => rfl) ?_
    refine Wc.assoc ?_
    refine Wc.region ?_
    refine Wk.q rfl rfl rfl (Qk.assign rfl) ?_
    refine Wk.next ?_
    refine Wc.done'' (fun _ _ => rfl) rfl ?_
    have hge : l.length ≤ i := by
      have : ¬ ((i : Int) < (l.length : Int)) := of_decide_eq_false h9
      omega
    obtain ⟨k, hk, e⟩ := hex
    exact absurd e (hno k (by omega))
  · -- t9 = True
    have hlt : i < l.length := by
      have : (i : Int) < (l.length : Int) := of_decide_eq_true h9
      omega
    refine Wk.next ?_
    refine Wc.assoc ?_
    refine Wc.condT rfl ?_
    refine Wc.skip ?_
    refine Wc.assoc ?_
    refine Wc.block ?_
    refine Wc.assoc ?_
    refine Wc.region ?_
    refine Wk.q rfl rfl rfl (Qk.move rfl) ?_
    refine Wk.q rfl rfl rfl (Qk.assign rfl) ?_
    refine Wk.next ?_
    refine Wc.assoc ?_
    refine Wc.region ?_
    refine Wk.q rfl rfl rfl (Qk.move rfl) ?_
    refine Wk.q rfl rfl rfl (Qk.move rfl) ?_
    refine Wk.q rfl rfl rfl (Qk.move rfl) ?_
    refine Wk.q rfl rfl rfl (Qk.at rfl rfl ar29 sl29 ha (by constructor <;> omega)) ?_
    refine Wk.r rfl rfl rfl (Rk.intR rfl sh3 ha (i := i) (by omega)) ?_
    refine Wk.b rfl rfl rfl (Qk.bin rfl rfl rfl) fun b h16 => ?_
    cases b
    · -- t16 = False
      refine Wk.next ?_
      refine Wc.condF rfl ?_
      refine Wc.skip ?_
      refine Wc.thence (fun _ _ => rfl) ?_
      refine Wc.region ?_
      refine Wk.q rfl rfl rfl (Qk.add rfl rfl (by omega)) ?_
      refine Wk.q rfl rfl rfl (Qk.move rfl) ?_
      refine Wk.next ?_
      refine Wc.finish fun fr hf => ?_
      refine ⟨i + 1, ⟨hlt, fun k hk => ?_⟩, by omega, rfl, hf.less ⟨rfl, rfl, rfl, rfl, rfl, trivial⟩⟩
      by_cases e : k = i
      · subst e
        intro e2
        rw [e2] at h16
        simp at h16
      · exact hno k (by omega)
    · -- t16 = True
      refine Wk.next ?_
      refine Wc.condT rfl ?_
      refine Wc.assoc ?_
      refine Wc.region ?_
      refine Wk.q rfl rfl rfl (Qk.move rfl) ?_
      refine Wk.q rfl rfl rfl (Qk.assign rfl) ?_
      refine Wk.next ?_
      refine Wc.done'' (fun _ _ => rfl) rfl ?_
      exact ⟨i, hlt, rfl, (eq_of_beq h16).symm, rfl⟩
set_option maxRecDepth 100000 in
theorem c28 (hK : Late K) {M : List (List Int)} {v : Value} {rent : Int} {s : St} (hm : MRow s v M) (hB : Bids M) (hr : 0 ≤ rent ∧ rent ≤ 10000000) :
    Ev Try.prog K (.func (.func 28) #[] #[]) [.agg #[v, .int .i64 rent]] s fun r s' => r = .int .i64 0 ∧ Old s s' := by
  refine Ev.enterK (hK.none (by decide) _) Try.func28 rfl rfl (Nat.le_of_ble_eq_true rfl) ?_
  refine Wc.tail ?_
  refine Wc.assoc ?_
  refine Wc.region ?_
  refine Wk.f rfl rfl rfl (Fk.box rfl rfl) ?_
  refine Wk.q rfl rfl rfl (Qk.assign rfl) ?_
  refine Wk.next ?_
  refine Wc.store fun s1 e1 => ?_
  have ho1 : Old s s1 := by subst e1; exact Old.push _ _
  have hg1 : s1.get s.size = some ⟨[v, .int .i64 rent], .rw⟩ := by subst e1; exact gnew
  refine Wc.assoc ?_
  refine Wc.assoc ?_
  refine Wc.region ?_
  refine Wk.q rfl rfl rfl (Qk.fa rfl fd24_0) ?_
  refine Wk.r rfl rfl rfl (Rk.cell rfl sh22 (by first | assumption | repeat (first | exact gnew | exact gsetn gnew | assumption | exact gsetn (by assumption) | refine gpush ?_ | refine gset ?_ (by simp; omega) )) (by simp) rfl) ?_
  refine Wk.c rfl rfl rfl (Ck.call rfl rfl) ((c24 hK (hm.old ho1) hB).mono ?_)
  rintro r t ⟨rfl, rfl⟩
  refine Wk.q rfl rfl rfl (Qk.assign rfl) ?_
  refine Wk.next ?_
  refine Wc.assoc ?_
  refine Wc.region ?_
  refine Wk.q rfl rfl rfl (Qk.move rfl) ?_
  refine Wk.b rfl rfl rfl (Qk.bin rfl rfl rfl) fun b h8 => ?_
  obtain rfl : b = false := by exact h8.symm -- t8
  refine Wk.next ?_
  refine Wc.condF rfl ?_
  refine Wc.skip ?_
  refine Wc.assoc ?_
  refine Wc.assoc ?_
  refine Wc.region ?_
  refine Wk.q rfl rfl rfl (Qk.fa rfl fd24_1) ?_
  refine Wk.r rfl rfl rfl (Rk.cell rfl sh3 (by first | assumption | repeat (first | exact gnew | exact gsetn gnew | assumption | exact gsetn (by assumption) | refine gpush ?_ | refine gset ?_ (by simp; omega) )) (by simp) rfl) ?_
  refine Wk.b rfl rfl rfl (Qk.bin rfl rfl rfl) fun b h12 => ?_
  obtain rfl : b = false := by rw [← h12, decide_eq_false_iff_not]; omega -- t12
  refine Wk.q rfl rfl rfl (Qk.move rfl) ?_
  refine Wk.q rfl rfl rfl (Qk.fa rfl fd24_1) ?_
  refine Wk.r rfl rfl rfl (Rk.cell rfl sh3 (by first | assumption | repeat (first | exact gnew | exact gsetn gnew | assumption | exact gsetn (by assumption) | refine gpush ?_ | refine gset ?_ (by simp; omega) )) (by simp) rfl) ?_
  refine Wk.b rfl rfl rfl (Qk.bin rfl rfl rfl) fun b h16 => ?_
  obtain rfl : b = false := by rw [← h16, decide_eq_false_iff_not]; omega -- t16
  refine Wk.q rfl rfl rfl (Qk.pickF rfl rfl) ?_
  refine Wk.next ?_
  refine Wc.condF rfl ?_
  refine Wc.skip ?_
  refine Wc.assoc ?_
  refine Wc.region ?_
  refine Wk.q rfl rfl rfl (Qk.assign rfl) ?_
  refine Wk.next ?_
  refine Wc.done'' (fun _ _ => rfl) rfl ?_
  exact ⟨rfl, ho1⟩
end Go.Proofs.Ytfgnjndicidpkaa
