/- The reference's ratios. -/
import Derived.Test.YtfgnjndicidpkaaSP
namespace Go.Proofs.Ytfgnjndicidpkaa
open Go.Abs Go.IntWalk
variable {K : Known}
theorem half_step {x i : Nat} (_hx : x < 4294967296) : x / 2 ^ i = 2 * (x / 2 ^ (i + 1)) + (x / 2 ^ i) % 2 := by
  rw [Nat.pow_succ, ← Nat.div_div_eq_div_mul]
  omega
theorem bit_bd {x i : Nat} (hx : x < 4294967296) : 0 ≤ ((x : Int) / 2 ^ (i % 64)) ∧ ((x : Int) / 2 ^ (i % 64)) ≤ 18446744073709551615 := by
  have h1 : x / 2 ^ (i % 64) ≤ x := Nat.div_le_self _ _
  have h2 : ((x : Int) / 2 ^ (i % 64)) = ((x / 2 ^ (i % 64) : Nat) : Int) := by rw [Int.natCast_ediv, Int.natCast_pow]; rfl
  rw [h2]
  exact ⟨Int.natCast_nonneg _, by generalize x / 2 ^ (i % 64) = z at *; omega⟩
set_option maxHeartbeats 4000000 in
set_option maxRecDepth 100000 in
theorem c50 (hK : Late K) {n : Int} (hn : -4611686018427387904 ≤ n ∧ n ≤ 4611686018427387904) {s : St} : Ev Try.prog K (.func (.func 50) #[] #[]) [.int .i64 n] s fun r s' => r = .int .u64 (n.natAbs : Nat) ∧ s' = s := by
  refine Ev.enterK (hK.none (by decide) _) Try.func50 rfl rfl (Nat.le_of_ble_eq_true rfl) ?_
  refine Wc.tail ?_
  refine Wc.assoc ?_
  refine Wc.region ?_
  refine Wk.q rfl rfl rfl (Qk.assign rfl) ?_
  refine Wk.next ?_
  refine Wc.assoc ?_
  refine Wc.assoc ?_
  refine Wc.region ?_
  refine Wk.q rfl rfl rfl (Qk.move rfl) ?_
  refine Wk.b rfl rfl rfl (Qk.bin rfl rfl rfl) fun b h4 => ?_
  cases b
  · -- t4 = False
    have h0 : ¬ n < 0 := of_decide_eq_false h4
    refine Wk.next ?_
    refine Wc.condF rfl ?_
    refine Wc.skip ?_
    refine Wc.assoc ?_
    refine Wc.region ?_
    refine Wk.q rfl rfl rfl (Qk.move rfl) ?_
    refine Wk.q rfl rfl rfl (Qk.cvt rfl und2 und87 (i64_u64 (by omega))) ?_
    refine Wk.q rfl rfl rfl (Qk.assign rfl) ?_
    refine Wk.next ?_
    refine Wc.done'' (fun _ _ => rfl) rfl ?_
    refine ⟨?_, rfl⟩
    simp only [pack]
    congr 1
    omega
  · -- t4 = True
    have h0 : n < 0 := of_decide_eq_true h4
    refine Wk.next ?_
    refine Wc.condT rfl ?_
    refine Wc.assoc ?_
    refine Wc.region ?_
    refine Wk.q rfl rfl rfl (Qk.move rfl) ?_
    refine Wk.q rfl rfl rfl (Qk.add rfl rfl (by omega)) ?_
    refine Wk.q rfl rfl rfl (Qk.neg rfl (by omega)) ?_
    refine Wk.q rfl rfl rfl (Qk.cvt rfl und2 und87 (i64_u64 (by omega))) ?_
    refine Wk.q rfl rfl rfl (Qk.addU rfl rfl (by omega)) ?_
    refine Wk.q rfl rfl rfl (Qk.assign rfl) ?_
    refine Wk.next ?_
    refine Wc.done'' (fun _ _ => rfl) rfl ?_
    refine ⟨?_, rfl⟩
    simp only [pack]
    congr 1
    omega
set_option maxHeartbeats 4000000 in
set_option maxRecDepth 100000 in
theorem c48 (hK : Late K) {a b : Nat} (ha : a ≤ 18446744073709551615) (hb : b ≤ 18446744073709551615) {s : St} : Ev Try.prog K (.func (.func 48) #[] #[]) [.int .u64 (a : Nat), .int .u64 (b : Nat)] s fun r s' => r = .int .u64 (Nat.gcd a b : Nat) ∧ s' = s := by
  refine Ev.enterK (hK.none (by decide) _) Try.func48 rfl rfl (Nat.le_of_ble_eq_true rfl) ?_
  refine Wc.tail ?_
  refine Wc.assoc ?_
  refine Wc.region ?_
  refine Wk.q rfl rfl rfl (Qk.assign rfl) ?_
  refine Wk.next ?_
  refine Wc.assoc ?_
  refine Wc.block ?_
  refine Wc.loop (σ := Nat × Nat) (fun y => y.1 ≤ 18446744073709551615 ∧ y.2 ≤ 18446744073709551615 ∧ Nat.gcd y.1 y.2 = Nat.gcd a b) (fun y => [(0, .int .u64 (y.1 : Nat)), (1, .int .u64 (y.2 : Nat))]) (fun _ => s) (fun y => y.2) (a, b) ⟨ha, hb, rfl⟩ ⟨rfl, rfl, trivial⟩ rfl ?_
  rintro ⟨x, y⟩ ⟨hx, hy, hg⟩
  dsimp only at hx hy hg ⊢
  refine Wc.assoc ?_
  refine Wc.assoc ?_
  refine Wc.region ?_
  refine Wk.q rfl rfl rfl (Qk.move rfl) ?_
  refine Wk.b rfl rfl rfl (Qk.bin rfl rfl rfl) fun b h6 => ?_
  cases b
  · -- t6 = False
    refine Wk.next ?_
    refine Wc.condF rfl ?_
    refine Wc.jump (fun _ _ => rfl) ?_
    refine Wc.assoc ?_
    refine Wc.region ?_
    refine Wk.q rfl rfl rfl (Qk.move rfl) ?_
    refine Wk.q rfl rfl rfl (Qk.assign rfl) ?_
    refine Wk.next ?_
    refine Wc.done'' (fun _ _ => rfl) rfl ?_
    have hy0 : y = 0 := by
      have := h6
      simp only [bne_eq_false_iff_eq] at this
      omega
    subst hy0
    refine ⟨?_, rfl⟩
    rw [← hg, Nat.gcd_zero_right]
    rfl
  · -- t6 = True
    have hy0 : 0 < y := by
      have : (y : Int) ≠ 0 := by simpa using h6
      omega
    refine Wk.next ?_
    refine Wc.condT rfl ?_
    refine Wc.skip ?_
    refine Wc.block ?_
    refine Wc.draw0 rfl ?_
    refine Wd.q rfl rfl rfl (Qk.move rfl) ?_
    refine Wd.q rfl rfl rfl (Qk.move rfl) ?_
    refine Wd.q rfl rfl rfl (Qk.move rfl) ?_
    refine Wd.q rfl rfl rfl (Qk.remU rfl rfl (by omega)) ?_
    refine Wd.q rfl rfl rfl (Qk.assign rfl) ?_
    refine Wd.q rfl rfl rfl (Qk.assign rfl) ?_
    refine Wd.next ?_
    refine Wc.thence (fun _ _ => rfl) ?_
    refine Wc.finish fun fr hf => ?_
    refine ⟨(y, x % y), ⟨hy, ?_, ?_⟩, Nat.mod_lt _ hy0, rfl, hf.less ⟨rfl, by show some (Value.int .u64 ((x : Int) % y)) = some (.int .u64 ((x % y : Nat) : Int)); rw [Int.natCast_emod], trivial⟩⟩
    · exact Nat.le_trans (Nat.le_of_lt (Nat.mod_lt _ hy0)) hy
    · rw [← hg, Nat.gcd_comm y, ← Nat.gcd_rec, Nat.gcd_comm]
set_option maxHeartbeats 4000000 in
set_option maxRecDepth 100000 in
theorem c65 (hK : Late K) {p : Int} {q : Nat} (hq : Rt p q) {s : St} : Ev Try.prog K (.func (.func 65) #[] #[]) [.agg #[.int .i64 p, .int .i64 (q : Nat)]] s fun r s' => r = .int .i64 0 ∧ Old s s' := by
  have h1 := hq.num
  have h2 := hq.den
  refine Ev.enterK (hK.none (by decide) _) Try.func65 rfl rfl (Nat.le_of_ble_eq_true rfl) ?_
  refine Wc.tail ?_
  refine Wc.assoc ?_
  refine Wc.region ?_
  refine Wk.f rfl rfl rfl (Fk.box rfl rfl) ?_
  refine Wk.q rfl rfl rfl (Qk.assign rfl) ?_
  refine Wk.next ?_
  refine Wc.store fun s1 e1 => ?_
  have ho1 : Old s s1 := by subst e1; exact Old.push _ _
  have hg1 : s1.get s.size = some ⟨[.int .i64 p, .int .i64 (q : Nat)], .rw⟩ := by subst e1; exact gnew
  refine Wc.assoc ?_
  refine Wc.assoc ?_
  refine Wc.drawE0 rfl ?_
  refine We.q rfl rfl rfl (Qk.fa rfl fd41_1) ?_
  refine We.cell rfl rfl rfl rfl rfl sh2 (by first | assumption | repeat (first | exact gnew | exact gsetn gnew | assumption | exact gsetn (by assumption) | refine gpush ?_ | refine gset ?_ (by first | omega | (simp; omega)) )) (by simp) rfl (by first | assumption | simp [same, ssame]) (by repeat' (first | exact trivial | exact Or.inl rfl | apply And.intro | (refine Or.inr ?_; assumption) | (refine Or.inr ?_; exact gset (by assumption) (by omega)) | (refine Or.inr ⟨_, _, (by first | assumption | repeat (first | exact gnew | exact gsetn gnew | assumption | exact gsetn (by assumption) | refine gpush ?_ | refine gset ?_ (by first | omega | (simp; omega)) )), (by simp), rfl⟩))) ?_
  refine We.b rfl rfl rfl (Qk.bin rfl rfl rfl) fun b h5 => ?_
  obtain rfl : b = false := by rw [← h5, decide_eq_false_iff_not]; omega -- t5
  refine We.q rfl rfl rfl (Qk.move rfl) ?_
  refine We.q rfl rfl rfl (Qk.fa rfl fd41_1) ?_
  refine We.cell rfl rfl rfl rfl rfl sh2 (by first | assumption | repeat (first | exact gnew | exact gsetn gnew | assumption | exact gsetn (by assumption) | refine gpush ?_ | refine gset ?_ (by first | omega | (simp; omega)) )) (by simp) rfl (by first | assumption | simp [same, ssame]) (by repeat' (first | exact trivial | exact Or.inl rfl | apply And.intro | (refine Or.inr ?_; assumption) | (refine Or.inr ?_; exact gset (by assumption) (by omega)) | (refine Or.inr ⟨_, _, (by first | assumption | repeat (first | exact gnew | exact gsetn gnew | assumption | exact gsetn (by assumption) | refine gpush ?_ | refine gset ?_ (by first | omega | (simp; omega)) )), (by simp), rfl⟩))) ?_
  refine We.b rfl rfl rfl (Qk.bin rfl rfl rfl) fun b h9 => ?_
  obtain rfl : b = false := by rw [← h9, decide_eq_false_iff_not]; omega -- t9
  refine We.q rfl rfl rfl (Qk.pickF rfl rfl) ?_
  refine We.q rfl rfl rfl (Qk.move rfl) ?_
  refine We.q rfl rfl rfl (Qk.fa rfl fd41_0) ?_
  refine We.cell rfl rfl rfl rfl rfl sh2 (by first | assumption | repeat (first | exact gnew | exact gsetn gnew | assumption | exact gsetn (by assumption) | refine gpush ?_ | refine gset ?_ (by first | omega | (simp; omega)) )) (by simp) rfl (by first | assumption | simp [same, ssame]) (by repeat' (first | exact trivial | exact Or.inl rfl | apply And.intro | (refine Or.inr ?_; assumption) | (refine Or.inr ?_; exact gset (by assumption) (by omega)) | (refine Or.inr ⟨_, _, (by first | assumption | repeat (first | exact gnew | exact gsetn gnew | assumption | exact gsetn (by assumption) | refine gpush ?_ | refine gset ?_ (by first | omega | (simp; omega)) )), (by simp), rfl⟩))) ?_
  refine We.b rfl rfl rfl (Qk.bin rfl rfl rfl) fun b h14 => ?_
  obtain rfl : b = false := by rw [← h14, decide_eq_false_iff_not]; omega -- t14
  refine We.q rfl rfl rfl (Qk.pickF rfl rfl) ?_
  refine We.q rfl rfl rfl (Qk.move rfl) ?_
  refine We.q rfl rfl rfl (Qk.fa rfl fd41_0) ?_
  refine We.cell rfl rfl rfl rfl rfl sh2 (by first | assumption | repeat (first | exact gnew | exact gsetn gnew | assumption | exact gsetn (by assumption) | refine gpush ?_ | refine gset ?_ (by first | omega | (simp; omega)) )) (by simp) rfl (by first | assumption | simp [same, ssame]) (by repeat' (first | exact trivial | exact Or.inl rfl | apply And.intro | (refine Or.inr ?_; assumption) | (refine Or.inr ?_; exact gset (by assumption) (by omega)) | (refine Or.inr ⟨_, _, (by first | assumption | repeat (first | exact gnew | exact gsetn gnew | assumption | exact gsetn (by assumption) | refine gpush ?_ | refine gset ?_ (by first | omega | (simp; omega)) )), (by simp), rfl⟩))) ?_
  refine We.b rfl rfl rfl (Qk.bin rfl rfl rfl) fun b h19 => ?_
  obtain rfl : b = false := by rw [← h19, decide_eq_false_iff_not]; omega -- t19
  refine We.q rfl rfl rfl (Qk.pickF rfl rfl) ?_
  refine We.q rfl rfl rfl (Qk.move rfl) ?_
  refine We.q rfl rfl rfl (Qk.fa rfl fd41_0) ?_
  refine We.cell rfl rfl rfl rfl rfl sh2 (by first | assumption | repeat (first | exact gnew | exact gsetn gnew | assumption | exact gsetn (by assumption) | refine gpush ?_ | refine gset ?_ (by first | omega | (simp; omega)) )) (by simp) rfl (by first | assumption | simp [same, ssame]) (by repeat' (first | exact trivial | exact Or.inl rfl | apply And.intro | (refine Or.inr ?_; assumption) | (refine Or.inr ?_; exact gset (by assumption) (by omega)) | (refine Or.inr ⟨_, _, (by first | assumption | repeat (first | exact gnew | exact gsetn gnew | assumption | exact gsetn (by assumption) | refine gpush ?_ | refine gset ?_ (by first | omega | (simp; omega)) )), (by simp), rfl⟩))) ?_
  refine We.c rfl rfl rfl (Ck.call rfl rfl) (by repeat' (first | exact trivial | exact Or.inl rfl | apply And.intro | (refine Or.inr ?_; assumption) | (refine Or.inr ?_; exact gset (by assumption) (by omega)) | (refine Or.inr ⟨_, _, (by first | assumption | repeat (first | exact gnew | exact gsetn gnew | assumption | exact gsetn (by assumption) | refine gpush ?_ | refine gset ?_ (by first | omega | (simp; omega)) )), (by simp), rfl⟩))) ((c50 hK (by omega)).mono ?_)
  rintro r t ⟨rfl, rfl⟩
  refine ⟨(by repeat' (first | exact trivial | exact Or.inl rfl | apply And.intro | (refine Or.inr ?_; assumption) | (refine Or.inr ?_; exact gset (by assumption) (by omega)) | (refine Or.inr ⟨_, _, (by first | assumption | repeat (first | exact gnew | exact gsetn gnew | assumption | exact gsetn (by assumption) | refine gpush ?_ | refine gset ?_ (by first | omega | (simp; omega)) )), (by simp), rfl⟩))), ?_⟩
  refine We.q rfl rfl rfl (Qk.fa rfl fd41_1) ?_
  refine We.cell rfl rfl rfl rfl rfl sh2 (by first | assumption | repeat (first | exact gnew | exact gsetn gnew | assumption | exact gsetn (by assumption) | refine gpush ?_ | refine gset ?_ (by first | omega | (simp; omega)) )) (by simp) rfl (by first | assumption | simp [same, ssame]) (by repeat' (first | exact trivial | exact Or.inl rfl | apply And.intro | (refine Or.inr ?_; assumption) | (refine Or.inr ?_; exact gset (by assumption) (by omega)) | (refine Or.inr ⟨_, _, (by first | assumption | repeat (first | exact gnew | exact gsetn gnew | assumption | exact gsetn (by assumption) | refine gpush ?_ | refine gset ?_ (by first | omega | (simp; omega)) )), (by simp), rfl⟩))) ?_
  refine We.q rfl rfl rfl (Qk.cvt rfl und2 und87 (i64_u64 (by omega))) ?_
  refine We.c rfl rfl rfl (Ck.call rfl rfl) (by repeat' (first | exact trivial | exact Or.inl rfl | apply And.intro | (refine Or.inr ?_; assumption) | (refine Or.inr ?_; exact gset (by assumption) (by omega)) | (refine Or.inr ⟨_, _, (by first | assumption | repeat (first | exact gnew | exact gsetn gnew | assumption | exact gsetn (by assumption) | refine gpush ?_ | refine gset ?_ (by first | omega | (simp; omega)) )), (by simp), rfl⟩))) ((c48 hK (a := p.natAbs) (b := q) (by omega) (by omega)).mono ?_)
  rintro r3 t3 ⟨rfl, rfl⟩
  rw [hq.gcd]
  refine ⟨(by repeat' (first | exact trivial | exact Or.inl rfl | apply And.intro | (refine Or.inr ?_; assumption) | (refine Or.inr ?_; exact gset (by assumption) (by omega)) | (refine Or.inr ⟨_, _, (by first | assumption | repeat (first | exact gnew | exact gsetn gnew | assumption | exact gsetn (by assumption) | refine gpush ?_ | refine gset ?_ (by first | omega | (simp; omega)) )), (by simp), rfl⟩))), ?_⟩
  refine We.b rfl rfl rfl (Qk.bin rfl rfl rfl) fun b h29 => ?_
  obtain rfl : b = false := by exact h29.symm -- t29
  refine We.q rfl rfl rfl (Qk.pickF rfl rfl) ?_
  refine We.next ?_
  refine Wc.condF rfl ?_
  refine Wc.skip ?_
  refine Wc.assoc ?_
  refine Wc.region ?_
  refine Wk.q rfl rfl rfl (Qk.assign rfl) ?_
  refine Wk.next ?_
  refine Wc.done'' (fun _ _ => rfl) rfl ?_
  exact ⟨rfl, ho1⟩
set_option maxHeartbeats 4000000 in
set_option maxRecDepth 100000 in
theorem c47 (hK : Late K) {p p2 : Int} {q q2 : Nat} (hq : Rt p q) (hq2 : Rt p2 q2) {s : St} : Ev Try.prog K (.func (.func 47) #[] #[]) [.agg #[.int .i64 p, .int .i64 (q : Nat)], .agg #[.int .i64 p2, .int .i64 (q2 : Nat)]] s fun r s' => r = .int .i64 0 ∧ Old s s' := by
  refine Ev.enterK (hK.none (by decide) _) Try.func47 rfl rfl (Nat.le_of_ble_eq_true rfl) ?_
  refine Wc.tail ?_
  refine Wc.assoc ?_
  refine Wc.region ?_
  refine Wk.f rfl rfl rfl (Fk.box rfl rfl) ?_
  refine Wk.f rfl rfl rfl (Fk.box rfl rfl) ?_
  refine Wk.q rfl rfl rfl (Qk.assign rfl) ?_
  refine Wk.next ?_
  refine Wc.store fun s1 e1 => ?_
  have ho1 : Old s s1 := by subst e1; exact (Old.push _ _).gpush _
  have hg1 : s1.get s.size = some ⟨[.int .i64 p, .int .i64 (q : Nat)], .rw⟩ := by subst e1; exact gpush gnew
  have hg2 : s1.get (s.size + 1) = some ⟨[.int .i64 p2, .int .i64 (q2 : Nat)], .rw⟩ := by subst e1; exact g1
  have hpz : ∀ a : Blk, (s.push a).size = s.size + 1 := fun a => by simp
  rw [hpz]
  clear e1
  refine Wc.assoc ?_
  refine Wc.assoc ?_
  refine Wc.region ?_
  refine Wk.r rfl rfl rfl (Rk.cells rfl sh41 (by first | assumption | repeat (first | exact gnew | exact gsetn gnew | assumption | exact gsetn (by assumption) | refine gpush ?_ | refine gset ?_ (by first | omega | (simp; omega)) )) (by simp) (by simp)) ?_
  refine Wk.c rfl rfl rfl (Ck.call rfl rfl) ((c65 hK hq).mono ?_)
  rintro r t ⟨rfl, ho2⟩
  have hg2 := ho2.get hg2
  refine Wk.b rfl rfl rfl (Qk.bin rfl rfl rfl) fun b h7 => ?_
  obtain rfl : b = false := by exact h7.symm -- t7
  refine Wk.next ?_
  refine Wc.condF rfl ?_
  refine Wc.skip ?_
  refine Wc.assoc ?_
  refine Wc.region ?_
  refine Wk.r rfl rfl rfl (Rk.cells rfl sh41 (by first | assumption | repeat (first | exact gnew | exact gsetn gnew | assumption | exact gsetn (by assumption) | refine gpush ?_ | refine gset ?_ (by first | omega | (simp; omega)) )) (by simp) (by simp)) ?_
  refine Wk.c rfl rfl rfl (Ck.call rfl rfl) ((c65 hK hq2).mono ?_)
  rintro r t3 ⟨rfl, ho3⟩
  refine Wk.q rfl rfl rfl (Qk.assign rfl) ?_
  refine Wk.next ?_
  refine Wc.done'' (fun _ _ => rfl) rfl ?_
  exact ⟨rfl, ho1.trans (ho2.trans ho3)⟩
set_option maxHeartbeats 4000000 in
set_option maxRecDepth 100000 in
theorem c53 (hK : Late K) {x y : Nat} {s : St} : Ev Try.prog K (.func (.func 53) #[] #[]) [.agg #[.int .u64 0, .int .u64 (x : Nat)], .agg #[.int .u64 0, .int .u64 (y : Nat)]] s fun r s' => r = .bool (decide ((x : Int) < (y : Int))) ∧ Old s s' := by
  refine Ev.enterK (hK.none (by decide) _) Try.func53 rfl rfl (Nat.le_of_ble_eq_true rfl) ?_
  refine Wc.tail ?_
  refine Wc.assoc ?_
  refine Wc.region ?_
  refine Wk.f rfl rfl rfl (Fk.box rfl rfl) ?_
  refine Wk.f rfl rfl rfl (Fk.box rfl rfl) ?_
  refine Wk.q rfl rfl rfl (Qk.assign rfl) ?_
  refine Wk.next ?_
  refine Wc.store fun s1 e1 => ?_
  have ho1 : Old s s1 := by subst e1; exact (Old.push _ _).gpush _
  have hg1 : s1.get s.size = some ⟨[.int .u64 0, .int .u64 (x : Nat)], .rw⟩ := by subst e1; exact gpush gnew
  have hg2 : s1.get (s.size + 1) = some ⟨[.int .u64 0, .int .u64 (y : Nat)], .rw⟩ := by subst e1; exact g1
  have hpz : ∀ a : Blk, (s.push a).size = s.size + 1 := fun a => by simp
  rw [hpz]
  clear e1
  refine Wc.assoc ?_
  refine Wc.region ?_
  refine Wk.q rfl rfl rfl (Qk.fa rfl fd93_0) ?_
  refine Wk.r rfl rfl rfl (Rk.cell rfl sh87 (by first | assumption | repeat (first | exact gnew | exact gsetn gnew | assumption | exact gsetn (by assumption) | refine gpush ?_ | refine gset ?_ (by first | omega | (simp; omega)) )) (by simp) rfl) ?_
  refine Wk.q rfl rfl rfl (Qk.fa rfl fd93_0) ?_
  refine Wk.r rfl rfl rfl (Rk.cell rfl sh87 (by first | assumption | repeat (first | exact gnew | exact gsetn gnew | assumption | exact gsetn (by assumption) | refine gpush ?_ | refine gset ?_ (by first | omega | (simp; omega)) )) (by simp) rfl) ?_
  refine Wk.b rfl rfl rfl (Qk.bin rfl rfl rfl) fun b h9 => ?_
  obtain rfl : b = false := by rw [← h9]; rfl -- t9
  refine Wk.q rfl rfl rfl (Qk.move rfl) ?_
  refine Wk.q rfl rfl rfl (Qk.fa rfl fd93_0) ?_
  refine Wk.r rfl rfl rfl (Rk.cell rfl sh87 (by first | assumption | repeat (first | exact gnew | exact gsetn gnew | assumption | exact gsetn (by assumption) | refine gpush ?_ | refine gset ?_ (by first | omega | (simp; omega)) )) (by simp) rfl) ?_
  refine Wk.q rfl rfl rfl (Qk.fa rfl fd93_0) ?_
  refine Wk.r rfl rfl rfl (Rk.cell rfl sh87 (by first | assumption | repeat (first | exact gnew | exact gsetn gnew | assumption | exact gsetn (by assumption) | refine gpush ?_ | refine gset ?_ (by first | omega | (simp; omega)) )) (by simp) rfl) ?_
  refine Wk.b rfl rfl rfl (Qk.bin rfl rfl rfl) fun b h15 => ?_
  obtain rfl : b = true := by exact h15.symm -- t15
  refine Wk.q rfl rfl rfl (Qk.move rfl) ?_
  refine Wk.q rfl rfl rfl (Qk.fa rfl fd93_1) ?_
  refine Wk.r rfl rfl rfl (Rk.cell rfl sh87 (by first | assumption | repeat (first | exact gnew | exact gsetn gnew | assumption | exact gsetn (by assumption) | refine gpush ?_ | refine gset ?_ (by first | omega | (simp; omega)) )) (by simp) rfl) ?_
  refine Wk.q rfl rfl rfl (Qk.fa rfl fd93_1) ?_
  refine Wk.r rfl rfl rfl (Rk.cell rfl sh87 (by first | assumption | repeat (first | exact gnew | exact gsetn gnew | assumption | exact gsetn (by assumption) | refine gpush ?_ | refine gset ?_ (by first | omega | (simp; omega)) )) (by simp) rfl) ?_
  refine Wk.q rfl rfl rfl (Qk.bin rfl rfl rfl) ?_
  refine Wk.q rfl rfl rfl (Qk.pickT rfl rfl) ?_
  refine Wk.q rfl rfl rfl (Qk.pickF rfl rfl) ?_
  refine Wk.q rfl rfl rfl (Qk.assign rfl) ?_
  refine Wk.next ?_
  refine Wc.done'' (fun _ _ => rfl) rfl ?_
  exact ⟨rfl, ho1⟩
set_option maxHeartbeats 4000000 in
set_option maxRecDepth 100000 in
theorem c51 (hK : Late K) {x y : Nat} (hxy : x + y ≤ 18446744073709551615) {s : St} : Ev Try.prog K (.func (.func 51) #[] #[]) [.agg #[.int .u64 0, .int .u64 (x : Nat)], .agg #[.int .u64 0, .int .u64 (y : Nat)]] s fun r s' => r = .agg #[.int .u64 0, .int .u64 ((x : Int) + (y : Int))] ∧ Old s s' := by
  refine Ev.enterK (hK.none (by decide) _) Try.func51 rfl rfl (Nat.le_of_ble_eq_true rfl) ?_
  refine Wc.tail ?_
  refine Wc.assoc ?_
  refine Wc.region ?_
  refine Wk.f rfl rfl rfl (Fk.box rfl rfl) ?_
  refine Wk.f rfl rfl rfl (Fk.box rfl rfl) ?_
  refine Wk.f rfl rfl rfl (Fk.alloc ze93) ?_
  refine Wk.next ?_
  refine Wc.store fun s1 e1 => ?_
  have ho1 : Old s s1 := by subst e1; exact ((Old.push _ _).gpush _).gpush _
  have hg2 : s1.get s.size = some ⟨[.int .u64 0, .int .u64 (x : Nat)], .rw⟩ := by subst e1; exact gpush (gpush gnew)
  have hg3 : s1.get (s.size + 1) = some ⟨[.int .u64 0, .int .u64 (y : Nat)], .rw⟩ := by subst e1; exact gpush g1
  have hg4 : s1.get (s.size + 2) = some ⟨[.int .u64 0, .int .u64 0], .rw⟩ := by subst e1; exact g2
  have hz2 : ∀ a b : Blk, ((s.push a).push b).size = s.size + 2 := fun a b => by simp
  have hz1 : ∀ a : Blk, (s.push a).size = s.size + 1 := fun a => by simp
  rw [hz2, hz1]
  clear e1
  refine Wc.assoc ?_
  refine Wc.region ?_
  refine Wk.q rfl rfl rfl (Qk.fa rfl fd93_1) ?_
  refine Wk.r rfl rfl rfl (Rk.cell rfl sh87 (by first | assumption | repeat (first | exact gnew | exact gsetn gnew | assumption | exact gsetn (by assumption) | refine gpush ?_ | refine gset ?_ (by first | omega | (simp; omega)) )) (by simp) rfl) ?_
  refine Wk.q rfl rfl rfl (Qk.fa rfl fd93_1) ?_
  refine Wk.r rfl rfl rfl (Rk.cell rfl sh87 (by first | assumption | repeat (first | exact gnew | exact gsetn gnew | assumption | exact gsetn (by assumption) | refine gpush ?_ | refine gset ?_ (by first | omega | (simp; omega)) )) (by simp) rfl) ?_
  refine Wk.q rfl rfl rfl (Qk.addU rfl rfl (by omega)) ?_
  refine Wk.q rfl rfl rfl (Qk.assign rfl) ?_
  refine Wk.next ?_
  refine Wc.assoc ?_
  refine Wc.region ?_
  refine Wk.q rfl rfl rfl (Qk.fa rfl fd93_0) ?_
  refine Wk.r rfl rfl rfl (Rk.cell rfl sh87 (by first | assumption | repeat (first | exact gnew | exact gsetn gnew | assumption | exact gsetn (by assumption) | refine gpush ?_ | refine gset ?_ (by first | omega | (simp; omega)) )) (by simp) rfl) ?_
  refine Wk.q rfl rfl rfl (Qk.fa rfl fd93_0) ?_
  refine Wk.r rfl rfl rfl (Rk.cell rfl sh87 (by first | assumption | repeat (first | exact gnew | exact gsetn gnew | assumption | exact gsetn (by assumption) | refine gpush ?_ | refine gset ?_ (by first | omega | (simp; omega)) )) (by simp) rfl) ?_
  refine Wk.q rfl rfl rfl (Qk.addU rfl rfl (by omega)) ?_
  refine Wk.q rfl rfl rfl (Qk.assign rfl) ?_
  refine Wk.next ?_
  refine Wc.assoc ?_
  refine Wc.assoc ?_
  refine Wc.region ?_
  refine Wk.q rfl rfl rfl (Qk.move rfl) ?_
  refine Wk.q rfl rfl rfl (Qk.fa rfl fd93_1) ?_
  refine Wk.r rfl rfl rfl (Rk.cell rfl sh87 (by first | assumption | repeat (first | exact gnew | exact gsetn gnew | assumption | exact gsetn (by assumption) | refine gpush ?_ | refine gset ?_ (by first | omega | (simp; omega)) )) (by simp) rfl) ?_
  refine Wk.b rfl rfl rfl (Qk.bin rfl rfl rfl) fun b h20 => ?_
  obtain rfl : b = false := by rw [← h20, decide_eq_false_iff_not]; omega -- t20
  refine Wk.next ?_
  refine Wc.condF rfl ?_
  refine Wc.skip ?_
  refine Wc.assoc ?_
  refine Wc.region ?_
  refine Wk.q rfl rfl rfl (Qk.move rfl) ?_
  refine Wk.q rfl rfl rfl (Qk.move rfl) ?_
  refine Wk.q rfl rfl rfl (Qk.build rfl build93) ?_
  refine Wk.h rfl rfl rfl (Hk.whole rfl rfl sh93 (by first | assumption | repeat (first | exact gnew | exact gsetn gnew | assumption | exact gsetn (by assumption) | refine gpush ?_ | refine gset ?_ (by first | omega | (simp; omega)) )) rfl rfl (by first | rfl | (show (true && (Abs.scalar _ && true)) = true; rw [Bool.true_and, Bool.and_true]; assumption))) ?_
  refine Wk.next ?_
  refine Wc.store fun s2 e2 => ?_
  have ho2 : Old s s2 := by subst e2; exact ho1.gset (by omega)
  have hg5 : s2.get (s.size + 2) = some ⟨[.int .u64 0, .int .u64 ((x : Int) + (y : Int))], .rw⟩ := by subst e2; exact gsetn hg4
  refine Wc.doneC (fun _ _ => rfl) (ares_cell rfl (alW sh93 (by first | assumption | repeat (first | exact gnew | exact gsetn gnew | assumption | exact gsetn (by assumption) | refine gpush ?_ | refine gset ?_ (by first | omega | (simp; omega)) )) (by simp) rfl) ares_nil) ?_
  exact ⟨rfl, ho2⟩
set_option maxHeartbeats 4000000 in
set_option maxRecDepth 100000 in
theorem c52 (hK : Late K) {x y : Nat} (hx : x < 4294967296) (hy : y < 4294967296) {s : St} : Ev Try.prog K (.func (.func 52) #[] #[]) [.agg #[.int .u64 0, .int .u64 (x : Nat)], .agg #[.int .u64 0, .int .u64 (y : Nat)]] s fun r s' => ∃ h l, r = .agg #[.int .u64 h, .int .u64 l] ∧ (y ≤ x → h = 0 ∧ l = (x : Int) - (y : Int)) ∧ Old s s' := by
  refine Ev.enterK (hK.none (by decide) _) Try.func52 rfl rfl (Nat.le_of_ble_eq_true rfl) ?_
  refine Wc.tail ?_
  refine Wc.assoc ?_
  refine Wc.region ?_
  refine Wk.f rfl rfl rfl (Fk.box rfl rfl) ?_
  refine Wk.f rfl rfl rfl (Fk.box rfl rfl) ?_
  refine Wk.f rfl rfl rfl (Fk.alloc ze93) ?_
  refine Wk.next ?_
  refine Wc.store fun s1 e1 => ?_
  have ho1 : Old s s1 := by subst e1; exact ((Old.push _ _).gpush _).gpush _
  have hg2 : s1.get s.size = some ⟨[.int .u64 0, .int .u64 (x : Nat)], .rw⟩ := by subst e1; exact gpush (gpush gnew)
  have hg3 : s1.get (s.size + 1) = some ⟨[.int .u64 0, .int .u64 (y : Nat)], .rw⟩ := by subst e1; exact gpush g1
  have hg4 : s1.get (s.size + 2) = some ⟨[.int .u64 0, .int .u64 0], .rw⟩ := by subst e1; exact g2
  have hz2 : ∀ a b : Blk, ((s.push a).push b).size = s.size + 2 := fun a b => by simp
  have hz1 : ∀ a : Blk, (s.push a).size = s.size + 1 := fun a => by simp
  rw [hz2, hz1]
  clear e1
  refine Wc.assoc ?_
  refine Wc.region ?_
  refine Wk.q rfl rfl rfl (Qk.fa rfl fd93_0) ?_
  refine Wk.r rfl rfl rfl (Rk.cell rfl sh87 (by first | assumption | repeat (first | exact gnew | exact gsetn gnew | assumption | exact gsetn (by assumption) | refine gpush ?_ | refine gset ?_ (by first | omega | (simp; omega)) )) (by simp) rfl) ?_
  refine Wk.q rfl rfl rfl (Qk.fa rfl fd93_0) ?_
  refine Wk.r rfl rfl rfl (Rk.cell rfl sh87 (by first | assumption | repeat (first | exact gnew | exact gsetn gnew | assumption | exact gsetn (by assumption) | refine gpush ?_ | refine gset ?_ (by first | omega | (simp; omega)) )) (by simp) rfl) ?_
  refine Wk.q rfl rfl rfl (Qk.subW rfl rfl) ?_
  refine Wk.q rfl rfl rfl (Qk.assign rfl) ?_
  refine Wk.next ?_
  refine Wc.assoc ?_
  refine Wc.assoc ?_
  refine Wc.region ?_
  refine Wk.q rfl rfl rfl (Qk.fa rfl fd93_1) ?_
  refine Wk.r rfl rfl rfl (Rk.cell rfl sh87 (by first | assumption | repeat (first | exact gnew | exact gsetn gnew | assumption | exact gsetn (by assumption) | refine gpush ?_ | refine gset ?_ (by first | omega | (simp; omega)) )) (by simp) rfl) ?_
  refine Wk.q rfl rfl rfl (Qk.fa rfl fd93_1) ?_
  refine Wk.r rfl rfl rfl (Rk.cell rfl sh87 (by first | assumption | repeat (first | exact gnew | exact gsetn gnew | assumption | exact gsetn (by assumption) | refine gpush ?_ | refine gset ?_ (by first | omega | (simp; omega)) )) (by simp) rfl) ?_
  refine Wk.b rfl rfl rfl (Qk.bin rfl rfl rfl) fun b h15 => ?_
  cases b
  · -- t15 = False
    have hle : ¬ ((x : Int) < (y : Int)) := of_decide_eq_false h15
    refine Wk.next ?_
    refine Wc.condF rfl ?_
    refine Wc.skip ?_
    refine Wc.assoc ?_
    refine Wc.region ?_
    refine Wk.q rfl rfl rfl (Qk.move rfl) ?_
    refine Wk.q rfl rfl rfl (Qk.fa rfl fd93_1) ?_
    refine Wk.r rfl rfl rfl (Rk.cell rfl sh87 (by first | assumption | repeat (first | exact gnew | exact gsetn gnew | assumption | exact gsetn (by assumption) | refine gpush ?_ | refine gset ?_ (by first | omega | (simp; omega)) )) (by simp) rfl) ?_
    refine Wk.q rfl rfl rfl (Qk.fa rfl fd93_1) ?_
    refine Wk.r rfl rfl rfl (Rk.cell rfl sh87 (by first | assumption | repeat (first | exact gnew | exact gsetn gnew | assumption | exact gsetn (by assumption) | refine gpush ?_ | refine gset ?_ (by first | omega | (simp; omega)) )) (by simp) rfl) ?_
    refine Wk.q rfl rfl rfl (Qk.subW rfl rfl) ?_
    refine Wk.q rfl rfl rfl (Qk.build rfl build93) ?_
    refine Wk.h rfl rfl rfl (Hk.whole rfl rfl sh93 (by first | assumption | repeat (first | exact gnew | exact gsetn gnew | assumption | exact gsetn (by assumption) | refine gpush ?_ | refine gset ?_ (by first | omega | (simp; omega)) )) rfl rfl (by first | rfl | (show (true && (Abs.scalar _ && true)) = true; rw [Bool.true_and, Bool.and_true]; assumption))) ?_
    refine Wk.next ?_
    refine Wc.store fun s2 e2 => ?_
    have ho2 : Old s s2 := by subst e2; exact ho1.gset (by omega)
    have hg5 : s2.get (s.size + 2) = some ⟨[.int .u64 ((0 - 0) % 18446744073709551616), .int .u64 (((x : Int) - (y : Int)) % 18446744073709551616)], .rw⟩ := by subst e2; exact gsetn hg4
    refine Wc.doneC (fun _ _ => rfl) (ares_cell rfl (alW sh93 (by first | assumption | repeat (first | exact gnew | exact gsetn gnew | assumption | exact gsetn (by assumption) | refine gpush ?_ | refine gset ?_ (by first | omega | (simp; omega)) )) (by simp) rfl) ares_nil) ?_
    exact ⟨_, _, rfl, fun h => ⟨rfl, by omega⟩, ho2⟩
  · -- t15 = True
    have hle : ((x : Int) < (y : Int)) := of_decide_eq_true h15
    refine Wk.next ?_
    refine Wc.condT rfl ?_
    refine Wc.region ?_
    refine Wk.q rfl rfl rfl (Qk.move rfl) ?_
    refine Wk.q rfl rfl rfl (Qk.subW rfl rfl) ?_
    refine Wk.q rfl rfl rfl (Qk.assign rfl) ?_
    refine Wk.next ?_
    refine Wc.assoc ?_
    refine Wc.region ?_
    refine Wk.q rfl rfl rfl (Qk.move rfl) ?_
    refine Wk.q rfl rfl rfl (Qk.fa rfl fd93_1) ?_
    refine Wk.r rfl rfl rfl (Rk.cell rfl sh87 (by first | assumption | repeat (first | exact gnew | exact gsetn gnew | assumption | exact gsetn (by assumption) | refine gpush ?_ | refine gset ?_ (by first | omega | (simp; omega)) )) (by simp) rfl) ?_
    refine Wk.q rfl rfl rfl (Qk.fa rfl fd93_1) ?_
    refine Wk.r rfl rfl rfl (Rk.cell rfl sh87 (by first | assumption | repeat (first | exact gnew | exact gsetn gnew | assumption | exact gsetn (by assumption) | refine gpush ?_ | refine gset ?_ (by first | omega | (simp; omega)) )) (by simp) rfl) ?_
    refine Wk.q rfl rfl rfl (Qk.subW rfl rfl) ?_
    refine Wk.q rfl rfl rfl (Qk.build rfl build93) ?_
    refine Wk.h rfl rfl rfl (Hk.whole rfl rfl sh93 (by first | assumption | repeat (first | exact gnew | exact gsetn gnew | assumption | exact gsetn (by assumption) | refine gpush ?_ | refine gset ?_ (by first | omega | (simp; omega)) )) rfl rfl (by first | rfl | (show (true && (Abs.scalar _ && true)) = true; rw [Bool.true_and, Bool.and_true]; assumption))) ?_
    refine Wk.next ?_
    refine Wc.store fun s3 e3 => ?_
    have ho2 : Old s s3 := by subst e3; exact ho1.gset (by omega)
    have hg5 : s3.get (s.size + 2) = some ⟨[.int .u64 (((0 - 0) % 18446744073709551616 - 1) % 18446744073709551616), .int .u64 (((x : Int) - (y : Int)) % 18446744073709551616)], .rw⟩ := by subst e3; exact gsetn hg4
    refine Wc.doneC (fun _ _ => rfl) (ares_cell rfl (alW sh93 (by first | assumption | repeat (first | exact gnew | exact gsetn gnew | assumption | exact gsetn (by assumption) | refine gpush ?_ | refine gset ?_ (by first | omega | (simp; omega)) )) (by simp) rfl) ares_nil) ?_
    exact ⟨_, _, rfl, fun h => by omega, ho2⟩
set_option maxHeartbeats 4000000 in
set_option maxRecDepth 100000 in
theorem c32 (hK : Late K) {n : Int} {s : St} : Ev Try.prog K (.func (.func 32) #[] #[]) [.int .i64 n] s fun r s' => r = .agg #[.int .i64 n, .int .i64 ((1 : Nat) : Nat)] ∧ Old s s' := by
  refine Ev.enterK (hK.none (by decide) _) Try.func32 rfl rfl (Nat.le_of_ble_eq_true rfl) ?_
  refine Wc.tail ?_
  refine Wc.assoc ?_
  refine Wc.region ?_
  refine Wk.f rfl rfl rfl (Fk.alloc ze41) ?_
  refine Wk.next ?_
  refine Wc.store fun s1 e1 => ?_
  have ho1 : Old s s1 := by subst e1; exact Old.push _ _
  have hg1 : s1.get s.size = some ⟨[.int .i64 0, .int .i64 0], .rw⟩ := by subst e1; exact gnew
  clear e1
  refine Wc.assoc ?_
  refine Wc.region ?_
  refine Wk.q rfl rfl rfl (Qk.move rfl) ?_
  refine Wk.q rfl rfl rfl (Qk.build rfl build41) ?_
  refine Wk.h rfl rfl rfl (Hk.whole rfl rfl sh41 (by first | assumption | repeat (first | exact gnew | exact gsetn gnew | assumption | exact gsetn (by assumption) | refine gpush ?_ | refine gset ?_ (by first | omega | (simp; omega)) )) rfl rfl (by first | rfl | (show (true && (Abs.scalar _ && true)) = true; rw [Bool.true_and, Bool.and_true]; assumption))) ?_
  refine Wk.next ?_
  refine Wc.store fun s2 e2 => ?_
  have ho2 : Old s s2 := by subst e2; exact ho1.gset (by omega)
  have hg2 : s2.get s.size = some ⟨[.int .i64 n, .int .i64 ((1 : Nat) : Int)], .rw⟩ := by subst e2; exact gsetn hg1
  refine Wc.doneC (fun _ _ => rfl) (ares_cell rfl (alW sh41 (by first | assumption | repeat (first | exact gnew | exact gsetn gnew | assumption | exact gsetn (by assumption) | refine gpush ?_ | refine gset ?_ (by first | omega | (simp; omega)) )) (by simp) rfl) ares_nil) ?_
  exact ⟨rfl, ho2⟩
set_option maxHeartbeats 4000000 in
set_option maxRecDepth 100000 in
theorem c49 (hK : Late K) {x y : Nat} (hx : x < 4294967296) (hy : y < 4294967296) (hxy : 0 ≤ (x : Int) * (y : Int) ∧ (x : Int) * (y : Int) < 4294967296) {s : St} : Ev Try.prog K (.func (.func 49) #[] #[]) [.int .u64 (x : Nat), .int .u64 (y : Nat)] s fun r s' => r = .agg #[.int .u64 0, .int .u64 ((x : Int) * (y : Int))] ∧ Old s s' := by
  refine Ev.enterK (hK.none (by decide) _) Try.func49 rfl rfl (Nat.le_of_ble_eq_true rfl) ?_
  refine Wc.tail ?_
  refine Wc.assoc ?_
  refine Wc.region ?_
  refine Wk.f rfl rfl rfl (Fk.alloc ze93) ?_
  refine Wk.next ?_
  refine Wc.store fun s1 e1 => ?_
  have ho1 : Old s s1 := by subst e1; exact Old.push _ _
  have hg1 : s1.get s.size = some ⟨[.int .u64 0, .int .u64 0], .rw⟩ := by subst e1; exact gnew
  clear e1
  refine Wc.assoc ?_
  refine Wc.region ?_
  refine Wk.q rfl rfl rfl (Qk.move rfl) ?_
  refine Wk.q rfl rfl rfl (Qk.eqv (u := .int .u64 0) (Qk.shrU (m := 32) rfl rfl (by decide)) (by first | (congr 1; done) | (congr 1; omega))) ?_
  refine Wk.q rfl rfl rfl (Qk.move rfl) ?_
  refine Wk.q rfl rfl rfl (Qk.eqv (u := .int .u64 x) (Qk.andU (m := 32) rfl rfl rfl (by decide) (by omega)) (by first | (congr 1; done) | (congr 1; omega))) ?_
  refine Wk.q rfl rfl rfl (Qk.assign rfl) ?_
  refine Wk.q rfl rfl rfl (Qk.assign rfl) ?_
  refine Wk.next ?_
  refine Wc.assoc ?_
  refine Wc.region ?_
  refine Wk.q rfl rfl rfl (Qk.move rfl) ?_
  refine Wk.q rfl rfl rfl (Qk.eqv (u := .int .u64 0) (Qk.shrU (m := 32) rfl rfl (by decide)) (by first | (congr 1; done) | (congr 1; omega))) ?_
  refine Wk.q rfl rfl rfl (Qk.move rfl) ?_
  refine Wk.q rfl rfl rfl (Qk.eqv (u := .int .u64 y) (Qk.andU (m := 32) rfl rfl rfl (by decide) (by omega)) (by first | (congr 1; done) | (congr 1; omega))) ?_
  refine Wk.q rfl rfl rfl (Qk.assign rfl) ?_
  refine Wk.q rfl rfl rfl (Qk.assign rfl) ?_
  refine Wk.next ?_
  refine Wc.assoc ?_
  refine Wc.region ?_
  refine Wk.q rfl rfl rfl (Qk.move rfl) ?_
  refine Wk.q rfl rfl rfl (Qk.move rfl) ?_
  refine Wk.q rfl rfl rfl (Qk.mulU rfl rfl (by omega)) ?_
  refine Wk.q rfl rfl rfl (Qk.move rfl) ?_
  refine Wk.q rfl rfl rfl (Qk.move rfl) ?_
  refine Wk.q rfl rfl rfl (Qk.eqv (u := .int .u64 0) (Qk.mulU rfl rfl (by omega)) (by first | (congr 1; done) | (congr 1; omega))) ?_
  refine Wk.q rfl rfl rfl (Qk.assign rfl) ?_
  refine Wk.q rfl rfl rfl (Qk.assign rfl) ?_
  refine Wk.next ?_
  refine Wc.assoc ?_
  refine Wc.region ?_
  refine Wk.q rfl rfl rfl (Qk.move rfl) ?_
  refine Wk.q rfl rfl rfl (Qk.eqv (u := .int .u64 0) (Qk.andU (m := 32) rfl rfl rfl (by decide) (by omega)) (by first | (congr 1; done) | (congr 1; omega))) ?_
  refine Wk.q rfl rfl rfl (Qk.move rfl) ?_
  refine Wk.q rfl rfl rfl (Qk.move rfl) ?_
  refine Wk.q rfl rfl rfl (Qk.eqv (u := .int .u64 0) (Qk.mulU rfl rfl (by omega)) (by first | (congr 1; done) | (congr 1; omega))) ?_
  refine Wk.q rfl rfl rfl (Qk.eqv (u := .int .u64 0) (Qk.addU rfl rfl (by omega)) (by first | (congr 1; done) | (congr 1; omega))) ?_
  refine Wk.q rfl rfl rfl (Qk.move rfl) ?_
  refine Wk.q rfl rfl rfl (Qk.eqv (u := .int .u64 0) (Qk.shrU (m := 32) rfl rfl (by decide)) (by first | (congr 1; done) | (congr 1; omega))) ?_
  refine Wk.q rfl rfl rfl (Qk.eqv (u := .int .u64 0) (Qk.addU rfl rfl (by omega)) (by first | (congr 1; done) | (congr 1; omega))) ?_
  refine Wk.q rfl rfl rfl (Qk.assign rfl) ?_
  refine Wk.next ?_
  refine Wc.assoc ?_
  refine Wc.region ?_
  refine Wk.q rfl rfl rfl (Qk.move rfl) ?_
  refine Wk.q rfl rfl rfl (Qk.move rfl) ?_
  refine Wk.q rfl rfl rfl (Qk.eqv (u := .int .u64 0) (Qk.mulU rfl rfl (by omega)) (by first | (congr 1; done) | (congr 1; omega))) ?_
  refine Wk.q rfl rfl rfl (Qk.move rfl) ?_
  refine Wk.q rfl rfl rfl (Qk.eqv (u := .int .u64 0) (Qk.shrU (m := 32) rfl rfl (by decide)) (by first | (congr 1; done) | (congr 1; omega))) ?_
  refine Wk.q rfl rfl rfl (Qk.eqv (u := .int .u64 0) (Qk.addU rfl rfl (by omega)) (by first | (congr 1; done) | (congr 1; omega))) ?_
  refine Wk.q rfl rfl rfl (Qk.move rfl) ?_
  refine Wk.q rfl rfl rfl (Qk.eqv (u := .int .u64 0) (Qk.shrU (m := 32) rfl rfl (by decide)) (by first | (congr 1; done) | (congr 1; omega))) ?_
  refine Wk.q rfl rfl rfl (Qk.eqv (u := .int .u64 0) (Qk.addU rfl rfl (by omega)) (by first | (congr 1; done) | (congr 1; omega))) ?_
  refine Wk.q rfl rfl rfl (Qk.move rfl) ?_
  refine Wk.q rfl rfl rfl (Qk.eqv (u := .int .u64 0) (Qk.shlU (m := 32) rfl rfl (by decide) (by omega)) (by first | (congr 1; done) | (congr 1; omega))) ?_
  refine Wk.q rfl rfl rfl (Qk.move rfl) ?_
  refine Wk.q rfl rfl rfl (Qk.eqv (u := .int .u64 ((x : Int) * (y : Int))) (Qk.andU (m := 32) rfl rfl rfl (by decide) (by omega)) (by first | (congr 1; done) | (congr 1; omega))) ?_
  refine Wk.q rfl rfl rfl (Qk.or0 rfl rfl (by omega)) ?_
  refine Wk.q rfl rfl rfl (Qk.build rfl build93) ?_
  refine Wk.h rfl rfl rfl (Hk.whole rfl rfl sh93 (by first | assumption | repeat (first | exact gnew | exact gsetn gnew | assumption | exact gsetn (by assumption) | refine gpush ?_ | refine gset ?_ (by first | omega | (simp; omega)) )) rfl rfl (by first | rfl | (show (true && (Abs.scalar _ && true)) = true; rw [Bool.true_and, Bool.and_true]; assumption))) ?_
  refine Wk.next ?_
  refine Wc.store fun s2 e2 => ?_
  have ho2 : Old s s2 := by subst e2; exact ho1.gset (by omega)
  have hg2 : s2.get s.size = some ⟨[.int .u64 0, .int .u64 ((x : Int) * (y : Int))], .rw⟩ := by subst e2; exact gsetn hg1
  refine Wc.doneC (fun _ _ => rfl) (ares_cell rfl (alW sh93 (by first | assumption | repeat (first | exact gnew | exact gsetn gnew | assumption | exact gsetn (by assumption) | refine gpush ?_ | refine gset ?_ (by first | omega | (simp; omega)) )) (by simp) rfl) ares_nil) ?_
  exact ⟨rfl, ho2⟩
set_option maxHeartbeats 4000000 in
set_option maxRecDepth 100000 in
theorem c55 (hK : Late K) {m : Bool} {x y : Nat} (hx : x < 4294967296) (hy : y < 4294967296) {s : St} : Ev Try.prog K (.func (.func 55) #[] #[]) [.bool m, .agg #[.int .u64 0, .int .u64 (x : Nat)], .agg #[.int .u64 0, .int .u64 (y : Nat)]] s fun r s' => r = .tuple #[.agg #[.int .i64 (if m then -(x : Int) else x), .int .i64 (y : Nat)], .int .i64 0] ∧ Old s s' := by
  refine Ev.enterK (hK.none (by decide) _) Try.func55 rfl rfl (Nat.le_of_ble_eq_true rfl) ?_
  refine Wc.tail ?_
  refine Wc.assoc ?_
  refine Wc.region ?_
  refine Wk.f rfl rfl rfl (Fk.box rfl rfl) ?_
  refine Wk.f rfl rfl rfl (Fk.box rfl rfl) ?_
  refine Wk.f rfl rfl rfl (Fk.alloc ze41) ?_
  refine Wk.q rfl rfl rfl (Qk.assign rfl) ?_
  refine Wk.next ?_
  refine Wc.store fun s1 e1 => ?_
  have ho1 : Old s s1 := by subst e1; exact ((Old.push _ _).gpush _).gpush _
  have hg4 : s1.get s.size = some ⟨[.int .u64 0, .int .u64 (x : Nat)], .rw⟩ := by subst e1; exact gpush (gpush gnew)
  have hg5 : s1.get (s.size + 1) = some ⟨[.int .u64 0, .int .u64 (y : Nat)], .rw⟩ := by subst e1; exact gpush g1
  have hg6 : s1.get (s.size + 2) = some ⟨[.int .i64 0, .int .i64 0], .rw⟩ := by subst e1; exact g2
  have hzs : s1.size = s.size + 3 := by subst e1; simp
  have hz2 : ∀ a b : Blk, ((s.push a).push b).size = s.size + 2 := fun a b => by simp
  have hz1 : ∀ a : Blk, (s.push a).size = s.size + 1 := fun a => by simp
  rw [hz2, hz1]
  clear e1
  refine Wc.assoc ?_
  refine Wc.assoc ?_
  refine Wc.region ?_
  refine Wk.q rfl rfl rfl (Qk.fa rfl fd93_0) ?_
  refine Wk.r rfl rfl rfl (Rk.cell rfl sh87 (by first | assumption | repeat (first | exact gnew | exact gsetn gnew | assumption | exact gsetn (by assumption) | refine gpush ?_ | refine gset ?_ (by first | omega | (simp; omega)) )) (by simp) rfl) ?_
  refine Wk.b rfl rfl rfl (Qk.bin rfl rfl rfl) fun b h11 => ?_
  obtain rfl : b = false := by rw [← h11]; rfl -- t11
  refine Wk.q rfl rfl rfl (Qk.move rfl) ?_
  refine Wk.q rfl rfl rfl (Qk.fa rfl fd93_0) ?_
  refine Wk.r rfl rfl rfl (Rk.cell rfl sh87 (by first | assumption | repeat (first | exact gnew | exact gsetn gnew | assumption | exact gsetn (by assumption) | refine gpush ?_ | refine gset ?_ (by first | omega | (simp; omega)) )) (by simp) rfl) ?_
  refine Wk.b rfl rfl rfl (Qk.bin rfl rfl rfl) fun b h15 => ?_
  obtain rfl : b = false := by rw [← h15]; rfl -- t15
  refine Wk.q rfl rfl rfl (Qk.pickF rfl rfl) ?_
  refine Wk.q rfl rfl rfl (Qk.move rfl) ?_
  refine Wk.q rfl rfl rfl (Qk.fa rfl fd93_1) ?_
  refine Wk.r rfl rfl rfl (Rk.cell rfl sh87 (by first | assumption | repeat (first | exact gnew | exact gsetn gnew | assumption | exact gsetn (by assumption) | refine gpush ?_ | refine gset ?_ (by first | omega | (simp; omega)) )) (by simp) rfl) ?_
  refine Wk.b rfl rfl rfl (Qk.bin rfl rfl rfl) fun b h20 => ?_
  obtain rfl : b = false := by rw [← h20, decide_eq_false_iff_not]; omega -- t20
  refine Wk.q rfl rfl rfl (Qk.pickF rfl rfl) ?_
  refine Wk.q rfl rfl rfl (Qk.move rfl) ?_
  refine Wk.q rfl rfl rfl (Qk.fa rfl fd93_1) ?_
  refine Wk.r rfl rfl rfl (Rk.cell rfl sh87 (by first | assumption | repeat (first | exact gnew | exact gsetn gnew | assumption | exact gsetn (by assumption) | refine gpush ?_ | refine gset ?_ (by first | omega | (simp; omega)) )) (by simp) rfl) ?_
  refine Wk.b rfl rfl rfl (Qk.bin rfl rfl rfl) fun b h25 => ?_
  obtain rfl : b = false := by rw [← h25, decide_eq_false_iff_not]; omega -- t25
  refine Wk.q rfl rfl rfl (Qk.pickF rfl rfl) ?_
  refine Wk.next ?_
  refine Wc.condF rfl ?_
  refine Wc.skip ?_
  refine Wc.assoc ?_
  refine Wc.region ?_
  refine Wk.q rfl rfl rfl (Qk.fa rfl fd93_1) ?_
  refine Wk.r rfl rfl rfl (Rk.cell rfl sh87 (by first | assumption | repeat (first | exact gnew | exact gsetn gnew | assumption | exact gsetn (by assumption) | refine gpush ?_ | refine gset ?_ (by first | omega | (simp; omega)) )) (by simp) rfl) ?_
  refine Wk.q rfl rfl rfl (Qk.cvt rfl und87 und2 (i64_in _ (by omega))) ?_
  refine Wk.q rfl rfl rfl (Qk.fa rfl fd93_1) ?_
  refine Wk.r rfl rfl rfl (Rk.cell rfl sh87 (by first | assumption | repeat (first | exact gnew | exact gsetn gnew | assumption | exact gsetn (by assumption) | refine gpush ?_ | refine gset ?_ (by first | omega | (simp; omega)) )) (by simp) rfl) ?_
  refine Wk.q rfl rfl rfl (Qk.cvt rfl und87 und2 (i64_in _ (by omega))) ?_
  refine Wk.q rfl rfl rfl (Qk.build rfl build41) ?_
  refine Wk.f rfl rfl rfl (Fk.alloc ze41) ?_
  refine Wk.h rfl rfl rfl (Hk.whole rfl rfl sh41 (by first | assumption | repeat (first | exact gnew | exact gsetn gnew | assumption | exact gsetn (by assumption) | refine gpush ?_ | refine gset ?_ (by first | omega | (simp; omega)) )) rfl rfl (by first | rfl | (show (true && (Abs.scalar _ && true)) = true; rw [Bool.true_and, Bool.and_true]; assumption))) ?_
  refine Wk.next ?_
  refine Wc.store fun s2 e2 => ?_
  have ho2 : Old s s2 := by subst e2; exact (ho1.gpush _).gset (by omega)
  have hg6 : s2.get (s.size + 2) = some ⟨[.int .i64 0, .int .i64 0], .rw⟩ := by subst e2; exact gset (gpush hg6) (by omega)
  have hg8 : s2.get s1.size = some ⟨[.int .i64 (x : Nat), .int .i64 (y : Nat)], .rw⟩ := by subst e2; exact gsetn gnew
  clear e2
  refine Wc.assoc ?_
  refine Wc.assoc ?_
  refine Wc.region ?_
  refine Wk.b rfl rfl rfl (Qk.move rfl) fun b h35 => ?_
  cases b
  · -- t35 = False
    refine Wk.next ?_
    refine Wc.condF rfl ?_
    refine Wc.skip ?_
    refine Wc.assoc ?_
    refine Wc.region ?_
    refine Wk.r rfl rfl rfl (Rk.cells rfl sh41 (by first | assumption | repeat (first | exact gnew | exact gsetn gnew | assumption | exact gsetn (by assumption) | refine gpush ?_ | refine gset ?_ (by first | omega | (simp; omega)) )) (by simp) (by simp)) ?_
    refine Wk.h rfl rfl rfl (Hk.whole rfl rfl sh41 (by first | assumption | repeat (first | exact gnew | exact gsetn gnew | assumption | exact gsetn (by assumption) | refine gpush ?_ | refine gset ?_ (by first | omega | (simp; omega)) )) rfl rfl (by first | rfl | (show (true && (Abs.scalar _ && true)) = true; rw [Bool.true_and, Bool.and_true]; assumption))) ?_
    refine Wk.q rfl rfl rfl (Qk.assign rfl) ?_
    refine Wk.next ?_
    refine Wc.store fun s3 e3 => ?_
    have ho3 : Old s s3 := by subst e3; exact ho2.gset (by omega)
    have hg9 : s3.get (s.size + 2) = some ⟨[.int .i64 (x : Nat), .int .i64 (y : Nat)], .rw⟩ := by subst e3; exact gsetn hg6
    refine Wc.doneC (fun _ _ => rfl) (ares_cell rfl (alW sh41 (by first | assumption | repeat (first | exact gnew | exact gsetn gnew | assumption | exact gsetn (by assumption) | refine gpush ?_ | refine gset ?_ (by first | omega | (simp; omega)) )) (by simp) rfl) (ares_tmp rfl ares_nil)) ?_
    subst h35
    exact ⟨rfl, ho3⟩
  · -- t35 = True
    refine Wk.next ?_
    refine Wc.condT rfl ?_
    refine Wc.region ?_
    refine Wk.q rfl rfl rfl (Qk.fa rfl fd41_0) ?_
    refine Wk.r rfl rfl rfl (Rk.cell rfl sh2 (by first | assumption | repeat (first | exact gnew | exact gsetn gnew | assumption | exact gsetn (by assumption) | refine gpush ?_ | refine gset ?_ (by first | omega | (simp; omega)) )) (by simp) rfl) ?_
    refine Wk.q rfl rfl rfl (Qk.neg rfl (by omega)) ?_
    refine Wk.q rfl rfl rfl (Qk.fa rfl fd41_0) ?_
    refine Wk.h rfl rfl rfl (Hk.cell rfl rfl sh2 (by first | assumption | repeat (first | exact gnew | exact gsetn gnew | assumption | exact gsetn (by assumption) | refine gpush ?_ | refine gset ?_ (by first | omega | (simp; omega)) )) (by first | exact Nat.le_of_ble_eq_true rfl | (simp; done) | (simp; omega)) (by first | rfl | assumption) (by first | rfl | assumption)) ?_
    refine Wk.next ?_
    refine Wc.store fun s4 e4 => ?_
    have ho3 : Old s s4 := by subst e4; exact ho2.gset (by omega)
    have hg6 : s4.get (s.size + 2) = some ⟨[.int .i64 0, .int .i64 0], .rw⟩ := by subst e4; exact gset hg6 (by omega)
    have hg8 : s4.get s1.size = some ⟨[.int .i64 (-(x : Nat)), .int .i64 (y : Nat)], .rw⟩ := by subst e4; exact gsetn hg8
    clear e4
    refine Wc.assoc ?_
    refine Wc.region ?_
    refine Wk.r rfl rfl rfl (Rk.cells rfl sh41 (by first | assumption | repeat (first | exact gnew | exact gsetn gnew | assumption | exact gsetn (by assumption) | refine gpush ?_ | refine gset ?_ (by first | omega | (simp; omega)) )) (by simp) (by simp)) ?_
    refine Wk.h rfl rfl rfl (Hk.whole rfl rfl sh41 (by first | assumption | repeat (first | exact gnew | exact gsetn gnew | assumption | exact gsetn (by assumption) | refine gpush ?_ | refine gset ?_ (by first | omega | (simp; omega)) )) rfl rfl (by first | rfl | (show (true && (Abs.scalar _ && true)) = true; rw [Bool.true_and, Bool.and_true]; assumption))) ?_
    refine Wk.q rfl rfl rfl (Qk.assign rfl) ?_
    refine Wk.next ?_
    refine Wc.store fun s5 e5 => ?_
    have ho4 : Old s s5 := by subst e5; exact ho3.gset (by omega)
    have hg9 : s5.get (s.size + 2) = some ⟨[.int .i64 (-(x : Nat)), .int .i64 (y : Nat)], .rw⟩ := by subst e5; exact gsetn hg6
    refine Wc.doneC (fun _ _ => rfl) (ares_cell rfl (alW sh41 (by first | assumption | repeat (first | exact gnew | exact gsetn gnew | assumption | exact gsetn (by assumption) | refine gpush ?_ | refine gset ?_ (by first | omega | (simp; omega)) )) (by simp) rfl) (ares_tmp rfl ares_nil)) ?_
    subst h35
    exact ⟨rfl, ho4⟩
set_option maxHeartbeats 4000000 in
set_option maxRecDepth 100000 in
theorem c54 (hK : Late K) {x : Nat} (hx : x < 4294967296) {s : St} : Ev Try.prog K (.func (.func 54) #[] #[]) [.agg #[.int .u64 0, .int .u64 (x : Nat)], .int .u64 1] s fun r s' => r = .tuple #[.agg #[.int .u64 0, .int .u64 (x : Nat)], .int .u64 0] ∧ Old s s' := by
  refine Ev.enterK (hK.none (by decide) _) Try.func54 rfl rfl (Nat.le_of_ble_eq_true rfl) ?_
  refine Wc.tail ?_
  refine Wc.assoc ?_
  refine Wc.region ?_
  refine Wk.f rfl rfl rfl (Fk.box rfl rfl) ?_
  refine Wk.f rfl rfl rfl (Fk.alloc ze93) ?_
  refine Wk.q rfl rfl rfl (Qk.assign rfl) ?_
  refine Wk.next ?_
  refine Wc.store fun s1 e1 => ?_
  have ho1 : Old s s1 := by subst e1; exact (Old.push _ _).gpush _
  have hg2 : s1.get s.size = some ⟨[.int .u64 0, .int .u64 (x : Nat)], .rw⟩ := by subst e1; exact gpush gnew
  have hg4 : s1.get (s.size + 1) = some ⟨[.int .u64 0, .int .u64 0], .rw⟩ := by subst e1; exact g1
  have hzs : s1.size = s.size + 2 := by subst e1; simp
  have hpz : ∀ a : Blk, (s.push a).size = s.size + 1 := fun a => by simp
  rw [hpz]
  clear e1
  refine Wc.assoc ?_
  refine Wc.region ?_
  refine Wk.f rfl rfl rfl (Fk.alloc ze93) ?_
  refine Wk.next ?_
  refine Wc.store fun s2 e2 => ?_
  have ho2 : Old s s2 := by subst e2; exact ho1.gpush _
  have hg6 : s2.get (s.size + 2) = some ⟨[.int .u64 0, .int .u64 0], .rw⟩ := by subst e2; rw [← hzs]; exact gnew
  have hg2 : s2.get s.size = some ⟨[.int .u64 0, .int .u64 (x : Nat)], .rw⟩ := by subst e2; exact gpush hg2
  have hg4 : s2.get (s.size + 1) = some ⟨[.int .u64 0, .int .u64 0], .rw⟩ := by subst e2; exact gpush hg4
  rw [hzs]
  clear e2
  refine Wc.assoc ?_
  refine Wc.region ?_
  refine Wk.q rfl rfl rfl (Qk.assign rfl) ?_
  refine Wk.next ?_
  refine Wc.assoc ?_
  refine Wc.assoc ?_
  refine Wc.region ?_
  refine Wk.q rfl rfl rfl (Qk.assign rfl) ?_
  refine Wk.next ?_
  refine Wc.block ?_
  refine Wc.loop (σ := Nat × St) (fun y => y.1 ≤ 128 ∧ Old s y.2 ∧ y.2.get s.size = some ⟨[.int .u64 0, .int .u64 (x : Nat)], .rw⟩ ∧ y.2.get (s.size + 1) = some ⟨[.int .u64 0, .int .u64 0], .rw⟩ ∧ y.2.get (s.size + 2) = some ⟨[.int .u64 0, .int .u64 ((x / 2 ^ y.1 : Nat) : Int)], .rw⟩)
    (fun y => [(1, .int .u64 1), (2, .pointer (some ⟨s.size, 0, none⟩)), (4, .pointer (some ⟨s.size + 1, 0, none⟩)), (6, .pointer (some ⟨s.size + 2, 0, none⟩)), (7, .int .u64 0), (8, .int .i64 ((y.1 : Int) - 1))]) (fun y => y.2) (fun y => y.1) (128, s2)
    ⟨Nat.le_refl _, ho2, hg2, hg4, by dsimp only; rw [hg6, Nat.div_eq_of_lt (Nat.lt_trans hx (by decide))]; rfl⟩ ⟨rfl, rfl, rfl, rfl, rfl, rfl, trivial⟩ rfl ?_
  clear ho2 hg2 hg4 hg6
  rintro ⟨j, sa⟩ ⟨hj, ho2, hg2, hg4, hg6⟩
  dsimp only at hj ho2 hg2 hg4 hg6 ⊢
  refine Wc.assoc ?_
  refine Wc.assoc ?_
  refine Wc.region ?_
  refine Wk.q rfl rfl rfl (Qk.move rfl) ?_
  refine Wk.b rfl rfl rfl (Qk.bin rfl rfl rfl) fun b h11 => ?_
  cases b
  · -- t11 = False
    have hj0 : j = 0 := by
      have : ¬ ((j : Int) - 1 ≥ 0) := of_decide_eq_false h11
      omega
    subst hj0
    rw [Nat.pow_zero, Nat.div_one] at hg6
    refine Wk.next ?_
    refine Wc.condF rfl ?_
    refine Wc.jump (fun _ _ => rfl) ?_
    refine Wc.assoc ?_
    refine Wc.region ?_
    refine Wk.r rfl rfl rfl (Rk.cells rfl sh93 (by first | assumption | repeat (first | exact gnew | exact gsetn gnew | assumption | exact gsetn (by assumption) | refine gpush ?_ | refine gset ?_ (by first | omega | (simp; omega)) )) (by simp) (by simp)) ?_
    refine Wk.q rfl rfl rfl (Qk.move rfl) ?_
    refine Wk.h rfl rfl rfl (Hk.whole rfl rfl sh93 (by first | assumption | repeat (first | exact gnew | exact gsetn gnew | assumption | exact gsetn (by assumption) | refine gpush ?_ | refine gset ?_ (by first | omega | (simp; omega)) )) rfl rfl (by first | rfl | (show (true && (Abs.scalar _ && true)) = true; rw [Bool.true_and, Bool.and_true]; assumption))) ?_
    refine Wk.q rfl rfl rfl (Qk.assign rfl) ?_
    refine Wk.next ?_
    refine Wc.store fun s3 e3 => ?_
    have ho3 : Old s s3 := by subst e3; exact ho2.gset (by omega)
    have hg4 : s3.get (s.size + 1) = some ⟨[.int .u64 0, .int .u64 (x : Nat)], .rw⟩ := by subst e3; exact gsetn hg4
    refine Wc.doneC (fun _ _ => rfl) (ares_cell rfl (alW sh93 (by first | assumption | repeat (first | exact gnew | exact gsetn gnew | assumption | exact gsetn (by assumption) | refine gpush ?_ | refine gset ?_ (by first | omega | (simp; omega)) )) (by simp) rfl) (ares_tmp rfl ares_nil)) ?_
    exact ⟨rfl, ho3⟩
  · -- t11 = True
    have hj1 : (j : Int) - 1 ≥ 0 := of_decide_eq_true h11
    obtain ⟨i, rfl⟩ : ∃ i, j = i + 1 := ⟨j - 1, by omega⟩
    have hii : ((i + 1 : Nat) : Int) - 1 = (i : Nat) := by omega
    rw [hii]
    have hq := half_step (x := x) (i := i) hx
    have hlt : x / 2 ^ (i + 1) < 4294967296 := Nat.lt_of_le_of_lt (Nat.div_le_self _ _) hx
    generalize x / 2 ^ (i + 1) = Q at *
    have hbit : 0 ≤ ((x : Int) / 2 ^ (i % 64)) ∧ ((x : Int) / 2 ^ (i % 64)) ≤ 18446744073709551615 := bit_bd hx
    refine Wk.next ?_
    refine Wc.condT rfl ?_
    refine Wc.skip ?_
    refine Wc.assoc ?_
    refine Wc.block ?_
    refine Wc.assoc ?_
    refine Wc.region ?_
    refine Wk.q rfl rfl rfl (Qk.fa rfl fd93_1) ?_
    refine Wk.r rfl rfl rfl (Rk.cell rfl sh87 (by first | assumption | repeat (first | exact gnew | exact gsetn gnew | assumption | exact gsetn (by assumption) | refine gpush ?_ | refine gset ?_ (by first | omega | (simp; omega)) )) (by simp) rfl) ?_
    refine Wk.q rfl rfl rfl (Qk.move rfl) ?_
    refine Wk.q rfl rfl rfl (Qk.eqv (u := .int .i64 ((i % 64 : Nat) : Int)) (Qk.andI (m := 6) rfl rfl rfl (by decide) (by omega)) (by congr 1)) ?_
    refine Wk.q rfl rfl rfl (Qk.shrU (m := i % 64) rfl rfl (by omega)) ?_
    refine Wk.q rfl rfl rfl (Qk.andU (m := 1) rfl rfl rfl (by decide) (by omega)) ?_
    refine Wk.q rfl rfl rfl (Qk.assign rfl) ?_
    refine Wk.next ?_
    refine Wc.assoc ?_
    refine Wc.join (σ := Nat) (fun y => y < 2 ∧ x / 2 ^ i = 2 * Q + y) (fun y => [(1, .int .u64 1), (2, .pointer (some ⟨s.size, 0, none⟩)), (4, .pointer (some ⟨s.size + 1, 0, none⟩)), (6, .pointer (some ⟨s.size + 2, 0, none⟩)), (7, .int .u64 0), (8, .int .i64 (i : Nat)), (9, .int .u64 (y : Nat))]) (fun y => sa) ?_ ?_
    · -- join 7: the first part
      refine Wc.assoc ?_
      refine Wc.region ?_
      refine Wk.q rfl rfl rfl (Qk.move rfl) ?_
      refine Wk.b rfl rfl rfl (Qk.bin rfl rfl rfl) fun b h21 => ?_
      cases b
      · -- t21 = False
        refine Wk.next ?_
        refine Wc.condF rfl ?_
        refine Wc.skip ?_
        refine Wc.finish fun fr hf => ?_
        have h64 : i < 64 := by
          have : ¬ ((i : Int) ≥ 64) := of_decide_eq_false h21
          omega
        exact ⟨(x / 2 ^ i) % 2, ⟨Nat.mod_lt _ (by decide), by omega⟩, rfl, hf.less ⟨rfl, rfl, rfl, rfl, rfl, rfl, by show some (Value.int .u64 _) = some (.int .u64 _); rw [Nat.mod_eq_of_lt h64]; norm_cast, trivial⟩⟩
      · -- t21 = True
        have h64 : 64 ≤ i := by
          have : ((i : Int) ≥ 64) := of_decide_eq_true h21
          omega
        have hx0 : x / 2 ^ i = 0 := Nat.div_eq_of_lt (Nat.lt_of_lt_of_le hx (Nat.le_trans (by decide : 4294967296 ≤ 2 ^ 64) (Nat.pow_le_pow_right (by decide) h64)))
        refine Wk.next ?_
        refine Wc.condT rfl ?_
        refine Wc.region ?_
        refine Wk.q rfl rfl rfl (Qk.fa rfl fd93_0) ?_
        refine Wk.r rfl rfl rfl (Rk.cell rfl sh87 (by first | assumption | repeat (first | exact gnew | exact gsetn gnew | assumption | exact gsetn (by assumption) | refine gpush ?_ | refine gset ?_ (by first | omega | (simp; omega)) )) (by simp) rfl) ?_
        refine Wk.q rfl rfl rfl (Qk.move rfl) ?_
        refine Wk.q rfl rfl rfl (Qk.eqv (u := .int .i64 ((i % 64 : Nat) : Int)) (Qk.andI (m := 6) rfl rfl rfl (by decide) (by omega)) (by congr 1)) ?_
        refine Wk.q rfl rfl rfl (Qk.eqv (u := .int .u64 0) (Qk.shrU (m := i % 64) rfl rfl (by omega)) (by rw [Int.zero_ediv])) ?_
        refine Wk.q rfl rfl rfl (Qk.eqv (u := .int .u64 0) (Qk.andU (m := 1) rfl rfl rfl (by decide) (by omega)) (by congr 1)) ?_
        refine Wk.q rfl rfl rfl (Qk.assign rfl) ?_
        refine Wk.next ?_
        refine Wc.finish fun fr hf => ?_
        exact ⟨0, ⟨by decide, by omega⟩, rfl, hf.less ⟨rfl, rfl, rfl, rfl, rfl, rfl, rfl, trivial⟩⟩
    · -- join 7: what follows
      rintro y hy
      rename Nat => bt
      obtain ⟨hb2, hQ⟩ := hy
      refine Wc.assoc ?_
      refine Wc.region ?_
      refine Wk.q rfl rfl rfl (Qk.move rfl) ?_
      refine Wk.q rfl rfl rfl (Qk.eqv (u := .int .u64 0) (Qk.shlU (m := 1) rfl rfl (by decide) (by omega)) (by congr 1)) ?_
      refine Wk.q rfl rfl rfl (Qk.move rfl) ?_
      refine Wk.q rfl rfl rfl (Qk.or0 rfl rfl (by omega)) ?_
      refine Wk.q rfl rfl rfl (Qk.assign rfl) ?_
      refine Wk.next ?_
      refine Wc.assoc ?_
      refine Wc.region ?_
      refine Wk.r rfl rfl rfl (Rk.cells rfl sh93 (by first | assumption | repeat (first | exact gnew | exact gsetn gnew | assumption | exact gsetn (by assumption) | refine gpush ?_ | refine gset ?_ (by first | omega | (simp; omega)) )) (by simp) (by simp)) ?_
      refine Wk.r rfl rfl rfl (Rk.cells rfl sh93 (by first | assumption | repeat (first | exact gnew | exact gsetn gnew | assumption | exact gsetn (by assumption) | refine gpush ?_ | refine gset ?_ (by first | omega | (simp; omega)) )) (by simp) (by simp)) ?_
      refine Wk.c rfl rfl rfl (Ck.call rfl rfl) ((c51 hK (x := Q) (y := Q) (by omega)).mono ?_)
      rintro r t ⟨rfl, ho3⟩
      have hg2 := ho3.get hg2
      have hg4 := ho3.get hg4
      have hg6 := ho3.get hg6
      refine Wk.h rfl rfl rfl (Hk.whole rfl rfl sh93 (by first | assumption | repeat (first | exact gnew | exact gsetn gnew | assumption | exact gsetn (by assumption) | refine gpush ?_ | refine gset ?_ (by first | omega | (simp; omega)) )) rfl rfl (by first | rfl | (show (true && (Abs.scalar _ && true)) = true; rw [Bool.true_and, Bool.and_true]; assumption))) ?_
      refine Wk.next ?_
      refine Wc.store fun s4 e4 => ?_
      have ho4 : Old s s4 := by subst e4; exact (ho2.trans ho3).gset (by omega)
      have hg2 : s4.get s.size = some ⟨[.int .u64 0, .int .u64 (x : Nat)], .rw⟩ := by subst e4; exact gset hg2 (by omega)
      have hg4 : s4.get (s.size + 1) = some ⟨[.int .u64 0, .int .u64 0], .rw⟩ := by subst e4; exact gset hg4 (by omega)
      have hg6 : s4.get (s.size + 2) = some ⟨[.int .u64 0, .int .u64 (2 * (Q : Int))], .rw⟩ := by subst e4; rw [Int.two_mul]; exact gsetn hg6
      clear e4
      refine Wc.assoc ?_
      refine Wc.region ?_
      refine Wk.q rfl rfl rfl (Qk.move rfl) ?_
      refine Wk.q rfl rfl rfl (Qk.move rfl) ?_
      refine Wk.b rfl rfl rfl (Qk.bin rfl rfl rfl) fun b h37 => ?_
      cases b
      · -- t37 = False
        have hb0 : bt = 0 := by
          have : ¬ ((bt : Int) ≥ 1) := of_decide_eq_false h37
          omega
        subst hb0
        refine Wk.next ?_
        refine Wc.condF rfl ?_
        refine Wc.skip ?_
        refine Wc.thence (fun _ _ => rfl) ?_
        refine Wc.region ?_
        refine Wk.q rfl rfl rfl (Qk.move rfl) ?_
        refine Wk.q rfl rfl rfl (Qk.sub rfl rfl (by omega)) ?_
        refine Wk.q rfl rfl rfl (Qk.assign rfl) ?_
        refine Wk.next ?_
        refine Wc.finish fun fr hf => ?_
        refine ⟨(i, s4), ⟨by dsimp only; omega, ho4, hg2, hg4, ?_⟩, by dsimp only; omega, rfl, hf.less ⟨rfl, rfl, rfl, rfl, rfl, rfl, trivial⟩⟩
        dsimp only
        rw [hg6, hQ]
        rfl
      · -- t37 = True
        have hb1 : bt = 1 := by
          have : ((bt : Int) ≥ 1) := of_decide_eq_true h37
          omega
        subst hb1
        refine Wk.next ?_
        refine Wc.condT rfl ?_
        refine Wc.assoc ?_
        refine Wc.region ?_
        refine Wk.q rfl rfl rfl (Qk.move rfl) ?_
        refine Wk.q rfl rfl rfl (Qk.move rfl) ?_
        refine Wk.q rfl rfl rfl (Qk.eqv (u := .int .u64 0) (Qk.subU rfl rfl (by omega)) (by congr 1)) ?_
        refine Wk.q rfl rfl rfl (Qk.assign rfl) ?_
        refine Wk.next ?_
        refine Wc.region ?_
        refine Wk.q rfl rfl rfl (Qk.fa rfl fd93_1) ?_
        refine Wk.r rfl rfl rfl (Rk.cell rfl sh87 (by first | assumption | repeat (first | exact gnew | exact gsetn gnew | assumption | exact gsetn (by assumption) | refine gpush ?_ | refine gset ?_ (by first | omega | (simp; omega)) )) (by simp) rfl) ?_
        refine Wk.q rfl rfl rfl (Qk.or1 rfl rfl (by omega)) ?_
        refine Wk.q rfl rfl rfl (Qk.fa rfl fd93_1) ?_
        refine Wk.h rfl rfl rfl (Hk.cell rfl rfl sh87 (by first | assumption | repeat (first | exact gnew | exact gsetn gnew | assumption | exact gsetn (by assumption) | refine gpush ?_ | refine gset ?_ (by first | omega | (simp; omega)) )) (by first | exact Nat.le_of_ble_eq_true rfl | (simp; done) | (simp; omega)) (by first | rfl | assumption) (by first | rfl | assumption)) ?_
        refine Wk.next ?_
        refine Wc.store fun s5 e5 => ?_
        have ho5 : Old s s5 := by subst e5; exact ho4.gset (by omega)
        have hg2 : s5.get s.size = some ⟨[.int .u64 0, .int .u64 (x : Nat)], .rw⟩ := by subst e5; exact gset hg2 (by omega)
        have hg4 : s5.get (s.size + 1) = some ⟨[.int .u64 0, .int .u64 0], .rw⟩ := by subst e5; exact gset hg4 (by omega)
        have hg6 : s5.get (s.size + 2) = some ⟨[.int .u64 0, .int .u64 (2 * (Q : Int) + 1)], .rw⟩ := by subst e5; exact gsetn hg6
        refine Wc.thence (fun _ _ => rfl) ?_
        refine Wc.region ?_
        refine Wk.q rfl rfl rfl (Qk.move rfl) ?_
        refine Wk.q rfl rfl rfl (Qk.sub rfl rfl (by omega)) ?_
        refine Wk.q rfl rfl rfl (Qk.assign rfl) ?_
        refine Wk.next ?_
        refine Wc.finish fun fr hf => ?_
        refine ⟨(i, s5), ⟨by dsimp only; omega, ho5, hg2, hg4, ?_⟩, by dsimp only; omega, rfl, hf.less ⟨rfl, rfl, rfl, rfl, rfl, rfl, trivial⟩⟩
        dsimp only
        rw [hg6, hQ]
        rfl
end Go.Proofs.Ytfgnjndicidpkaa
