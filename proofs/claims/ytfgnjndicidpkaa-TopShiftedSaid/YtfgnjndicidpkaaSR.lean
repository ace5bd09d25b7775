/- The reference's sum; a ratio and so many more. -/
import Derived.Test.YtfgnjndicidpkaaSQ
namespace Go.Proofs.Ytfgnjndicidpkaa
open Go.Abs Go.IntWalk
variable {K : Known}
set_option maxHeartbeats 4000000 in
set_option maxRecDepth 100000 in
theorem c31 (hK : Late K) {p c : Int} {q : Nat} (hq : Rt p q) (hc1 : Rt c 1) (hc : 0 ≤ c ∧ c ≤ 1000) {s : St} : Ev Try.prog K (.func (.func 31) #[] #[]) [.agg #[.int .i64 p, .int .i64 (q : Nat)], .agg #[.int .i64 c, .int .i64 ((1 : Nat) : Int)]] s fun r s' => r = .tuple #[.agg #[.int .i64 (c * (q : Int) + p), .int .i64 (q : Nat)], .int .i64 0] ∧ Old s s' := by
  have h1 := hq.num
  have h2 := hq.den
  have hcY : (c.natAbs : Int) * (q : Int) = c * (q : Int) := by rw [show (c.natAbs : Int) = c by omega]
  have hY : 0 ≤ (c.natAbs : Int) * (q : Int) ∧ (c.natAbs : Int) * (q : Int) ≤ 1000000 := ⟨Int.mul_nonneg (by omega) (by omega), by
    have := Int.mul_le_mul (show (c.natAbs : Int) ≤ 1000 by omega) (show (q : Int) ≤ 1000 by omega) (by omega) (by omega)
    omega⟩
  refine Ev.enterK (hK.none (by decide) _) Try.func31 rfl rfl (Nat.le_of_ble_eq_true rfl) ?_
  refine Wc.tail ?_
  refine Wc.assoc ?_
  refine Wc.region ?_
  refine Wk.f rfl rfl rfl (Fk.box rfl rfl) ?_
  refine Wk.f rfl rfl rfl (Fk.box rfl rfl) ?_
  refine Wk.f rfl rfl rfl (Fk.alloc ze41) ?_
  refine Wk.q rfl rfl rfl (Qk.assign rfl) ?_
  refine Wk.next ?_
  refine Wc.store fun s1 e1 => ?_
  have ho1 : Old s s1 := by subst e1; exact ((Old.push _ _).gpush _).gpush _
  have hg2 : s1.get s.size = some ⟨[.int .i64 p, .int .i64 (q : Nat)], .rw⟩ := by subst e1; exact gpush (gpush gnew)
  have hg3 : s1.get (s.size + 1) = some ⟨[.int .i64 c, .int .i64 ((1 : Nat) : Int)], .rw⟩ := by subst e1; exact gpush g1
  have hg4 : s1.get (s.size + 2) = some ⟨[.int .i64 0, .int .i64 0], .rw⟩ := by subst e1; exact g2
  have hz2 : ∀ a b : Blk, ((s.push a).push b).size = s.size + 2 := fun a b => by simp
  have hz1 : ∀ a : Blk, (s.push a).size = s.size + 1 := fun a => by simp
  rw [hz2, hz1]
  clear e1
  refine Wc.assoc ?_
  refine Wc.assoc ?_
  refine Wc.region ?_
  refine Wk.r rfl rfl rfl (Rk.cells rfl sh41 (by first | assumption | repeat (first | exact gnew | exact gsetn gnew | assumption | exact gsetn (by assumption) | exact gsetn (gset (by assumption) (by omega)) | refine gpush ?_ | refine gset ?_ (by first | omega | (simp; omega)) )) (by simp) (by simp)) ?_
  refine Wk.r rfl rfl rfl (Rk.cells rfl sh41 (by first | assumption | repeat (first | exact gnew | exact gsetn gnew | assumption | exact gsetn (by assumption) | exact gsetn (gset (by assumption) (by omega)) | refine gpush ?_ | refine gset ?_ (by first | omega | (simp; omega)) )) (by simp) (by simp)) ?_
  refine Wk.c rfl rfl rfl (Ck.call rfl rfl) ((c47 hK hq hc1).mono ?_)
  rintro r t1 ⟨rfl, ho2⟩
  have hg2 := ho2.get hg2
  have hg3 := ho2.get hg3
  have hg4 := ho2.get hg4
  have ho2 := ho1.trans ho2
  refine Wk.b rfl rfl rfl (Qk.bin rfl rfl rfl) fun b h19 => ?_
  obtain rfl : b = false := by exact h19.symm -- t19
  refine Wk.next ?_
  refine Wc.condF rfl ?_
  refine Wc.skip ?_
  refine Wc.assoc ?_
  refine Wc.region ?_
  refine Wk.q rfl rfl rfl (Qk.fa rfl fd41_1) ?_
  refine Wk.r rfl rfl rfl (Rk.cell rfl sh2 (by first | assumption | repeat (first | exact gnew | exact gsetn gnew | assumption | exact gsetn (by assumption) | exact gsetn (gset (by assumption) (by omega)) | refine gpush ?_ | refine gset ?_ (by first | omega | (simp; omega)) )) (by simp) rfl) ?_
  refine Wk.q rfl rfl rfl (Qk.cvt rfl und2 und87 (i64_u64 (by omega))) ?_
  refine Wk.q rfl rfl rfl (Qk.fa rfl fd41_1) ?_
  refine Wk.r rfl rfl rfl (Rk.cell rfl sh2 (by first | assumption | repeat (first | exact gnew | exact gsetn gnew | assumption | exact gsetn (by assumption) | exact gsetn (gset (by assumption) (by omega)) | refine gpush ?_ | refine gset ?_ (by first | omega | (simp; omega)) )) (by simp) rfl) ?_
  refine Wk.q rfl rfl rfl (Qk.cvt rfl und2 und87 (i64_u64 (by omega))) ?_
  refine Wk.c rfl rfl rfl (Ck.call rfl rfl) ((c48 hK (a := q) (b := 1) (by omega) (by omega)).mono ?_)
  rintro r t ⟨rfl, rfl⟩
  rw [Nat.gcd_one_right]
  have hlt4 := St.get_lt hg4
  refine Wk.q rfl rfl rfl (Qk.assign rfl) ?_
  refine Wk.next ?_
  refine Wc.assoc ?_
  refine Wc.drawE ?_
  refine We.store' fun s2 e2 => ?_
  have ho3 : Old t s2 := by subst e2; exact Old.reserve _ _
  have hg2 := ho3.get hg2
  have hg3 := ho3.get hg3
  have hg4 := ho3.get hg4
  have hg7 : s2.get (t.size + 18) = some ⟨[], .dead⟩ := by subst e2; exact gnone (by decide)
  have hg8 : s2.get (t.size + 19) = some ⟨[], .dead⟩ := by subst e2; exact gnone (by decide)
  have ho3 := ho2.trans ho3
  clear e2
  refine We.q rfl rfl rfl (Qk.fa rfl fd41_0) ?_
  refine We.cell rfl rfl rfl rfl rfl sh2 (by first | assumption | repeat (first | exact gnew | exact gsetn gnew | assumption | exact gsetn (by assumption) | exact gsetn (gset (by assumption) (by omega)) | refine gpush ?_ | refine gset ?_ (by first | omega | (simp; omega)) )) (by simp) rfl (by first | assumption | simp [same, ssame]) (by repeat' (first | exact trivial | exact Or.inl rfl | apply And.intro | (refine Or.inr ?_; assumption) | (refine Or.inr ?_; exact gset (by assumption) (by omega)) | (refine Or.inr ⟨_, _, (by first | assumption | repeat (first | exact gnew | exact gsetn gnew | assumption | exact gsetn (by assumption) | exact gsetn (gset (by assumption) (by omega)) | refine gpush ?_ | refine gset ?_ (by first | omega | (simp; omega)) )), (by simp), rfl⟩))) ?_
  refine We.c rfl rfl rfl (Ck.call rfl rfl) (by repeat' (first | exact trivial | exact Or.inl rfl | apply And.intro | (refine Or.inr ?_; assumption) | (refine Or.inr ?_; exact gset (by assumption) (by omega)) | (refine Or.inr ⟨_, _, (by first | assumption | repeat (first | exact gnew | exact gsetn gnew | assumption | exact gsetn (by assumption) | exact gsetn (gset (by assumption) (by omega)) | refine gpush ?_ | refine gset ?_ (by first | omega | (simp; omega)) )), (by simp), rfl⟩))) ((c50 hK (by omega)).mono ?_)
  rintro r t3 ⟨rfl, rfl⟩
  refine ⟨(by repeat' (first | exact trivial | exact Or.inl rfl | apply And.intro | (refine Or.inr ?_; assumption) | (refine Or.inr ?_; exact gset (by assumption) (by omega)) | (refine Or.inr ⟨_, _, (by first | assumption | repeat (first | exact gnew | exact gsetn gnew | assumption | exact gsetn (by assumption) | exact gsetn (gset (by assumption) (by omega)) | refine gpush ?_ | refine gset ?_ (by first | omega | (simp; omega)) )), (by simp), rfl⟩))), ?_⟩
  refine We.q rfl rfl rfl (Qk.fa rfl fd41_1) ?_
  refine We.cell rfl rfl rfl rfl rfl sh2 (by first | assumption | repeat (first | exact gnew | exact gsetn gnew | assumption | exact gsetn (by assumption) | exact gsetn (gset (by assumption) (by omega)) | refine gpush ?_ | refine gset ?_ (by first | omega | (simp; omega)) )) (by simp) rfl (by first | assumption | simp [same, ssame]) (by repeat' (first | exact trivial | exact Or.inl rfl | apply And.intro | (refine Or.inr ?_; assumption) | (refine Or.inr ?_; exact gset (by assumption) (by omega)) | (refine Or.inr ⟨_, _, (by first | assumption | repeat (first | exact gnew | exact gsetn gnew | assumption | exact gsetn (by assumption) | exact gsetn (gset (by assumption) (by omega)) | refine gpush ?_ | refine gset ?_ (by first | omega | (simp; omega)) )), (by simp), rfl⟩))) ?_
  refine We.q rfl rfl rfl (Qk.cvt rfl und2 und87 (i64_u64 (by omega))) ?_
  refine We.q rfl rfl rfl (Qk.move rfl) ?_
  refine We.q rfl rfl rfl (Qk.eqv (u := .int .u64 ((1 : Nat) : Int)) (Qk.quoU rfl rfl (by omega)) (by congr 1)) ?_
  refine We.c rfl rfl rfl (Ck.call rfl rfl) (by repeat' (first | exact trivial | exact Or.inl rfl | apply And.intro | (refine Or.inr ?_; assumption) | (refine Or.inr ?_; exact gset (by assumption) (by omega)) | (refine Or.inr ⟨_, _, (by first | assumption | repeat (first | exact gnew | exact gsetn gnew | assumption | exact gsetn (by assumption) | exact gsetn (gset (by assumption) (by omega)) | refine gpush ?_ | refine gset ?_ (by first | omega | (simp; omega)) )), (by simp), rfl⟩))) ((c49 hK (x := p.natAbs) (y := 1) (by omega) (by omega) (by omega)).mono ?_)
  rintro r t4 ⟨rfl, ho4⟩
  have hg2 := ho4.get hg2
  have hg3 := ho4.get hg3
  have hg4 := ho4.get hg4
  have hg7 := ho4.get hg7
  have hg8 := ho4.get hg8
  have ho4 := ho3.trans ho4
  rw [show (p.natAbs : Int) * ((1 : Nat) : Int) = ((p.natAbs : Nat) : Int) by omega]
  refine ⟨(by repeat' (first | exact trivial | exact Or.inl rfl | apply And.intro | (refine Or.inr ?_; assumption) | (refine Or.inr ?_; exact gset (by assumption) (by omega)) | (refine Or.inr ⟨_, _, (by first | assumption | repeat (first | exact gnew | exact gsetn gnew | assumption | exact gsetn (by assumption) | exact gsetn (gset (by assumption) (by omega)) | refine gpush ?_ | refine gset ?_ (by first | omega | (simp; omega)) )), (by simp), rfl⟩))), ?_⟩
  refine We.q rfl rfl rfl (Qk.fa rfl fd41_0) ?_
  refine We.cell rfl rfl rfl rfl rfl sh2 (by first | assumption | repeat (first | exact gnew | exact gsetn gnew | assumption | exact gsetn (by assumption) | exact gsetn (gset (by assumption) (by omega)) | refine gpush ?_ | refine gset ?_ (by first | omega | (simp; omega)) )) (by simp) rfl (by first | assumption | simp [same, ssame]) (by repeat' (first | exact trivial | exact Or.inl rfl | apply And.intro | (refine Or.inr ?_; assumption) | (refine Or.inr ?_; exact gset (by assumption) (by omega)) | (refine Or.inr ⟨_, _, (by first | assumption | repeat (first | exact gnew | exact gsetn gnew | assumption | exact gsetn (by assumption) | exact gsetn (gset (by assumption) (by omega)) | refine gpush ?_ | refine gset ?_ (by first | omega | (simp; omega)) )), (by simp), rfl⟩))) ?_
  refine We.c rfl rfl rfl (Ck.call rfl rfl) (by repeat' (first | exact trivial | exact Or.inl rfl | apply And.intro | (refine Or.inr ?_; assumption) | (refine Or.inr ?_; exact gset (by assumption) (by omega)) | (refine Or.inr ⟨_, _, (by first | assumption | repeat (first | exact gnew | exact gsetn gnew | assumption | exact gsetn (by assumption) | exact gsetn (gset (by assumption) (by omega)) | refine gpush ?_ | refine gset ?_ (by first | omega | (simp; omega)) )), (by simp), rfl⟩))) ((c50 hK (by omega)).mono ?_)
  rintro r t5 ⟨rfl, rfl⟩
  refine ⟨(by repeat' (first | exact trivial | exact Or.inl rfl | apply And.intro | (refine Or.inr ?_; assumption) | (refine Or.inr ?_; exact gset (by assumption) (by omega)) | (refine Or.inr ⟨_, _, (by first | assumption | repeat (first | exact gnew | exact gsetn gnew | assumption | exact gsetn (by assumption) | exact gsetn (gset (by assumption) (by omega)) | refine gpush ?_ | refine gset ?_ (by first | omega | (simp; omega)) )), (by simp), rfl⟩))), ?_⟩
  refine We.q rfl rfl rfl (Qk.fa rfl fd41_1) ?_
  refine We.cell rfl rfl rfl rfl rfl sh2 (by first | assumption | repeat (first | exact gnew | exact gsetn gnew | assumption | exact gsetn (by assumption) | exact gsetn (gset (by assumption) (by omega)) | refine gpush ?_ | refine gset ?_ (by first | omega | (simp; omega)) )) (by simp) rfl (by first | assumption | simp [same, ssame]) (by repeat' (first | exact trivial | exact Or.inl rfl | apply And.intro | (refine Or.inr ?_; assumption) | (refine Or.inr ?_; exact gset (by assumption) (by omega)) | (refine Or.inr ⟨_, _, (by first | assumption | repeat (first | exact gnew | exact gsetn gnew | assumption | exact gsetn (by assumption) | exact gsetn (gset (by assumption) (by omega)) | refine gpush ?_ | refine gset ?_ (by first | omega | (simp; omega)) )), (by simp), rfl⟩))) ?_
  refine We.q rfl rfl rfl (Qk.cvt rfl und2 und87 (i64_u64 (by omega))) ?_
  refine We.q rfl rfl rfl (Qk.move rfl) ?_
  refine We.q rfl rfl rfl (Qk.eqv (u := .int .u64 (q : Nat)) (Qk.quoU rfl rfl (by omega)) (by congr 1; omega)) ?_
  refine We.c rfl rfl rfl (Ck.call rfl rfl) (by repeat' (first | exact trivial | exact Or.inl rfl | apply And.intro | (refine Or.inr ?_; assumption) | (refine Or.inr ?_; exact gset (by assumption) (by omega)) | (refine Or.inr ⟨_, _, (by first | assumption | repeat (first | exact gnew | exact gsetn gnew | assumption | exact gsetn (by assumption) | exact gsetn (gset (by assumption) (by omega)) | refine gpush ?_ | refine gset ?_ (by first | omega | (simp; omega)) )), (by simp), rfl⟩))) ((c49 hK (x := c.natAbs) (y := q) (by omega) (by omega) (by omega)).mono ?_)
  rintro r t6 ⟨rfl, ho5⟩
  have hg2 := ho5.get hg2
  have hg3 := ho5.get hg3
  have hg4 := ho5.get hg4
  have hg7 := ho5.get hg7
  have hg8 := ho5.get hg8
  have ho5 := ho4.trans ho5
  rw [← Int.natCast_mul]
  rw [← Int.natCast_mul] at hY hcY
  generalize c.natAbs * q = Y at *
  refine ⟨(by repeat' (first | exact trivial | exact Or.inl rfl | apply And.intro | (refine Or.inr ?_; assumption) | (refine Or.inr ?_; exact gset (by assumption) (by omega)) | (refine Or.inr ⟨_, _, (by first | assumption | repeat (first | exact gnew | exact gsetn gnew | assumption | exact gsetn (by assumption) | exact gsetn (gset (by assumption) (by omega)) | refine gpush ?_ | refine gset ?_ (by first | omega | (simp; omega)) )), (by simp), rfl⟩))), ?_⟩
  refine We.f rfl rfl rfl (Fk.alloc ze93) ?_
  refine We.f rfl rfl rfl (Fk.alloc ze93) ?_
  refine We.h rfl rfl rfl (Hk.whole rfl rfl sh93 (by first | assumption | repeat (first | exact gnew | exact gsetn gnew | assumption | exact gsetn (by assumption) | exact gsetn (gset (by assumption) (by omega)) | refine gpush ?_ | refine gset ?_ (by first | omega | (simp; omega)) )) rfl rfl (by first | rfl | (show (true && (Abs.scalar _ && true)) = true; rw [Bool.true_and, Bool.and_true]; assumption))) (by repeat' (first | exact trivial | exact Or.inl rfl | apply And.intro | (refine Or.inr ?_; assumption) | (refine Or.inr ?_; exact gset (by assumption) (by omega)) | (refine Or.inr ⟨_, _, (by first | assumption | repeat (first | exact gnew | exact gsetn gnew | assumption | exact gsetn (by assumption) | exact gsetn (gset (by assumption) (by omega)) | refine gpush ?_ | refine gset ?_ (by first | omega | (simp; omega)) )), (by simp), rfl⟩))) (by repeat' (first | exact trivial | exact Or.inl rfl | apply And.intro | (refine Or.inr ?_; assumption) | (refine Or.inr ?_; exact gset (by assumption) (by omega)) | (refine Or.inr ⟨_, _, (by first | assumption | repeat (first | exact gnew | exact gsetn gnew | assumption | exact gsetn (by assumption) | exact gsetn (gset (by assumption) (by omega)) | refine gpush ?_ | refine gset ?_ (by first | omega | (simp; omega)) )), (by simp), rfl⟩))) ?_
  refine We.h rfl rfl rfl (Hk.whole rfl rfl sh93 (by first | assumption | repeat (first | exact gnew | exact gsetn gnew | assumption | exact gsetn (by assumption) | exact gsetn (gset (by assumption) (by omega)) | refine gpush ?_ | refine gset ?_ (by first | omega | (simp; omega)) )) rfl rfl (by first | rfl | (show (true && (Abs.scalar _ && true)) = true; rw [Bool.true_and, Bool.and_true]; assumption))) (by repeat' (first | exact trivial | exact Or.inl rfl | apply And.intro | (refine Or.inr ?_; assumption) | (refine Or.inr ?_; exact gset (by assumption) (by omega)) | (refine Or.inr ⟨_, _, (by first | assumption | repeat (first | exact gnew | exact gsetn gnew | assumption | exact gsetn (by assumption) | exact gsetn (gset (by assumption) (by omega)) | refine gpush ?_ | refine gset ?_ (by first | omega | (simp; omega)) )), (by simp), rfl⟩))) (by repeat' (first | exact trivial | exact Or.inl rfl | apply And.intro | (refine Or.inr ?_; assumption) | (refine Or.inr ?_; exact gset (by assumption) (by omega)) | (refine Or.inr ⟨_, _, (by first | assumption | repeat (first | exact gnew | exact gsetn gnew | assumption | exact gsetn (by assumption) | exact gsetn (gset (by assumption) (by omega)) | refine gpush ?_ | refine gset ?_ (by first | omega | (simp; omega)) )), (by simp), rfl⟩))) ?_
  refine We.next ?_
  refine Wc.store fun s3 e3 => ?_
  simp only [Nat.zero_add, Nat.reduceAdd] at e3 ⊢
  have ho6 : Old s s3 := by subst e3; exact (((ho5.gset (by omega)).gset (by omega)).gset (by omega)).gset (by omega)
  have hg2 : s3.get s.size = some ⟨[.int .i64 p, .int .i64 (q : Nat)], .rw⟩ := by subst e3; exact gset (gset (gset (gset hg2 (by omega)) (by omega)) (by omega)) (by omega)
  have hg3 : s3.get (s.size + 1) = some ⟨[.int .i64 c, .int .i64 ((1 : Nat) : Int)], .rw⟩ := by subst e3; exact gset (gset (gset (gset hg3 (by omega)) (by omega)) (by omega)) (by omega)
  have hg4 : s3.get (s.size + 2) = some ⟨[.int .i64 0, .int .i64 0], .rw⟩ := by subst e3; exact gset (gset (gset (gset hg4 (by omega)) (by omega)) (by omega)) (by omega)
  have hg8 : s3.get (t.size + 19) = some ⟨[.int .u64 0, .int .u64 (Y : Nat)], .rw⟩ := by subst e3; exact gsetn (gset (gsetn (gset hg8 (by omega))) (by omega))
  have hg7 : s3.get (t.size + 18) = some ⟨[.int .u64 0, .int .u64 (p.natAbs : Nat)], .rw⟩ := by subst e3; exact gset (gsetn (gset (gsetn hg7) (by omega))) (by omega)
  clear e3
  refine Wc.assoc ?_
  refine Wc.region ?_
  refine Wk.q rfl rfl rfl (Qk.fa rfl fd41_0) ?_
  refine Wk.r rfl rfl rfl (Rk.cell rfl sh2 (by first | assumption | repeat (first | exact gnew | exact gsetn gnew | assumption | exact gsetn (by assumption) | exact gsetn (gset (by assumption) (by omega)) | refine gpush ?_ | refine gset ?_ (by first | omega | (simp; omega)) )) (by simp) rfl) ?_
  refine Wk.q rfl rfl rfl (Qk.bin rfl rfl rfl) ?_
  refine Wk.q rfl rfl rfl (Qk.assign rfl) ?_
  refine Wk.next ?_
  refine Wc.assoc ?_
  refine Wc.region ?_
  refine Wk.r rfl rfl rfl (Rk.cells rfl sh93 (by first | assumption | repeat (first | exact gnew | exact gsetn gnew | assumption | exact gsetn (by assumption) | exact gsetn (gset (by assumption) (by omega)) | refine gpush ?_ | refine gset ?_ (by first | omega | (simp; omega)) )) (by simp) (by simp)) ?_
  refine Wk.r rfl rfl rfl (Rk.cells rfl sh93 (by first | assumption | repeat (first | exact gnew | exact gsetn gnew | assumption | exact gsetn (by assumption) | exact gsetn (gset (by assumption) (by omega)) | refine gpush ?_ | refine gset ?_ (by first | omega | (simp; omega)) )) (by simp) (by simp)) ?_
  refine Wk.c rfl rfl rfl (Ck.call rfl rfl) ((c51 hK (x := p.natAbs) (y := Y) (by omega)).mono ?_)
  rintro r t7 ⟨rfl, ho7⟩
  have hg2 := ho7.get hg2
  have hg3 := ho7.get hg3
  have hg4 := ho7.get hg4
  have hg7 := ho7.get hg7
  have hg8 := ho7.get hg8
  have ho7 := ho6.trans ho7
  refine Wk.f rfl rfl rfl (Fk.alloc ze93) ?_
  refine Wk.h rfl rfl rfl (Hk.whole rfl rfl sh93 (by first | assumption | repeat (first | exact gnew | exact gsetn gnew | assumption | exact gsetn (by assumption) | exact gsetn (gset (by assumption) (by omega)) | refine gpush ?_ | refine gset ?_ (by first | omega | (simp; omega)) )) rfl rfl (by first | rfl | (show (true && (Abs.scalar _ && true)) = true; rw [Bool.true_and, Bool.and_true]; assumption))) ?_
  refine Wk.next ?_
  refine Wc.store fun s4 e4 => ?_
  have ho8 : Old s s4 := by subst e4; exact (ho7.gpush _).gset (by have := ho7.1; omega)
  have hl8 := St.get_lt hg8
  have hl4 := St.get_lt hg4
  have hg2 : s4.get s.size = some ⟨[.int .i64 p, .int .i64 (q : Nat)], .rw⟩ := by subst e4; exact gset (gpush hg2) (by omega)
  have hg3 : s4.get (s.size + 1) = some ⟨[.int .i64 c, .int .i64 ((1 : Nat) : Int)], .rw⟩ := by subst e4; exact gset (gpush hg3) (by omega)
  have hg4 : s4.get (s.size + 2) = some ⟨[.int .i64 0, .int .i64 0], .rw⟩ := by subst e4; exact gset (gpush hg4) (by omega)
  have hg7 : s4.get (t.size + 18) = some ⟨[.int .u64 0, .int .u64 (p.natAbs : Nat)], .rw⟩ := by subst e4; exact gset (gpush hg7) (by omega)
  have hg8 : s4.get (t.size + 19) = some ⟨[.int .u64 0, .int .u64 (Y : Nat)], .rw⟩ := by subst e4; exact gset (gpush hg8) (by omega)
  have hg10 : s4.get t7.size = some ⟨[.int .u64 0, .int .u64 ((p.natAbs : Int) + (Y : Int))], .rw⟩ := by subst e4; exact gsetn gnew
  clear e4
  refine Wc.assoc ?_
  refine Wc.join (σ := Bool × Nat × St) (fun y => (if y.1 then -(y.2.1 : Int) else y.2.1) = c * (q : Int) + p ∧ y.2.1 < 4294967296 ∧ Old s y.2.2 ∧ y.2.2.get s.size = some ⟨[.int .i64 p, .int .i64 (q : Nat)], .rw⟩ ∧ y.2.2.get (s.size + 1) = some ⟨[.int .i64 c, .int .i64 ((1 : Nat) : Int)], .rw⟩ ∧ y.2.2.get (s.size + 2) = some ⟨[.int .i64 0, .int .i64 0], .rw⟩ ∧ y.2.2.get t7.size = some ⟨[.int .u64 0, .int .u64 (y.2.1 : Nat)], .rw⟩) (fun y => [(2, .pointer (some ⟨s.size, 0, none⟩)), (3, .pointer (some ⟨s.size + 1, 0, none⟩)), (4, .pointer (some ⟨s.size + 2, 0, none⟩)), (6, .int .u64 ((1 : Nat) : Int)), (9, .bool y.1), (10, .pointer (some ⟨t7.size, 0, none⟩))]) (fun y => y.2.2) ?_ ?_
  · -- join 7: the first part
    refine Wc.assoc ?_
    refine Wc.region ?_
    refine Wk.q rfl rfl rfl (Qk.fa rfl fd41_0) ?_
    refine Wk.r rfl rfl rfl (Rk.cell rfl sh2 (by first | assumption | repeat (first | exact gnew | exact gsetn gnew | assumption | exact gsetn (by assumption) | exact gsetn (gset (by assumption) (by omega)) | refine gpush ?_ | refine gset ?_ (by first | omega | (simp; omega)) )) (by simp) rfl) ?_
    refine Wk.q rfl rfl rfl (Qk.bin rfl rfl rfl) ?_
    refine Wk.q rfl rfl rfl (Qk.fa rfl fd41_0) ?_
    refine Wk.r rfl rfl rfl (Rk.cell rfl sh2 (by first | assumption | repeat (first | exact gnew | exact gsetn gnew | assumption | exact gsetn (by assumption) | exact gsetn (gset (by assumption) (by omega)) | refine gpush ?_ | refine gset ?_ (by first | omega | (simp; omega)) )) (by simp) rfl) ?_
    refine Wk.q rfl rfl rfl (Qk.bin rfl rfl rfl) ?_
    refine Wk.b rfl rfl rfl (Qk.bin rfl rfl (neq4)) fun b h61 => ?_
    cases b
    · -- t61 = False
      have hp0 : ¬ p < 0 := by
        intro e
        rw [decide_eq_true e, decide_eq_false (show ¬ c < 0 by omega)] at h61
        cases h61
      refine Wk.next ?_
      refine Wc.condF rfl ?_
      refine Wc.skip ?_
      refine Wc.finish fun fr hf => ?_
      refine ⟨(decide (p < 0), p.natAbs + Y, s4), ⟨?_, ?_, ho8, hg2, hg3, hg4, hg10⟩, rfl, hf.less ⟨rfl, rfl, rfl, rfl, rfl, rfl, trivial⟩⟩
      · dsimp only; rw [decide_eq_false hp0, if_neg (by simp)]; omega
      · dsimp only; omega
    · -- t61 = True
      have hp0 : p < 0 := by
        refine Classical.byContradiction fun e => ?_
        rw [decide_eq_false e, decide_eq_false (show ¬ c < 0 by omega)] at h61
        cases h61
      refine Wk.next ?_
      refine Wc.condT rfl ?_
      refine Wc.assoc ?_
      refine Wc.region ?_
      refine Wk.r rfl rfl rfl (Rk.cells rfl sh93 (by first | assumption | repeat (first | exact gnew | exact gsetn gnew | assumption | exact gsetn (by assumption) | exact gsetn (gset (by assumption) (by omega)) | refine gpush ?_ | refine gset ?_ (by first | omega | (simp; omega)) )) (by simp) (by simp)) ?_
      refine Wk.r rfl rfl rfl (Rk.cells rfl sh93 (by first | assumption | repeat (first | exact gnew | exact gsetn gnew | assumption | exact gsetn (by assumption) | exact gsetn (gset (by assumption) (by omega)) | refine gpush ?_ | refine gset ?_ (by first | omega | (simp; omega)) )) (by simp) (by simp)) ?_
      refine Wk.c rfl rfl rfl (Ck.call rfl rfl) ((c52 hK (x := p.natAbs) (y := Y) (by omega) (by omega)).mono ?_)
      rintro r t8 ⟨hi8, lo8, rfl, hw8, ho9⟩
      have hg2 := ho9.get hg2
      have hg3 := ho9.get hg3
      have hg4 := ho9.get hg4
      have hg7 := ho9.get hg7
      have hg8 := ho9.get hg8
      have hg10 := ho9.get hg10
      have ho9 := ho8.trans ho9
      refine Wk.h rfl rfl rfl (Hk.whole rfl rfl sh93 (by first | assumption | repeat (first | exact gnew | exact gsetn gnew | assumption | exact gsetn (by assumption) | exact gsetn (gset (by assumption) (by omega)) | refine gpush ?_ | refine gset ?_ (by first | omega | (simp; omega)) )) rfl rfl (by first | rfl | (show (true && (Abs.scalar _ && true)) = true; rw [Bool.true_and, Bool.and_true]; assumption))) ?_
      refine Wk.next ?_
      refine Wc.store fun s5 e5 => ?_
      have ho10 : Old s s5 := by subst e5; exact ho9.gset (by omega)
      have hg2 : s5.get s.size = some ⟨[.int .i64 p, .int .i64 (q : Nat)], .rw⟩ := by subst e5; exact gset hg2 (by omega)
      have hg3 : s5.get (s.size + 1) = some ⟨[.int .i64 c, .int .i64 ((1 : Nat) : Int)], .rw⟩ := by subst e5; exact gset hg3 (by omega)
      have hg4 : s5.get (s.size + 2) = some ⟨[.int .i64 0, .int .i64 0], .rw⟩ := by subst e5; exact gset hg4 (by omega)
      have hg7 : s5.get (t.size + 18) = some ⟨[.int .u64 0, .int .u64 (p.natAbs : Nat)], .rw⟩ := by subst e5; exact gset hg7 (by omega)
      have hg8 : s5.get (t.size + 19) = some ⟨[.int .u64 0, .int .u64 (Y : Nat)], .rw⟩ := by subst e5; exact gset hg8 (by omega)
      have hg10 : s5.get t7.size = some ⟨[.int .u64 hi8, .int .u64 lo8], .rw⟩ := by subst e5; exact gsetn hg10
      clear e5
      refine Wc.assoc ?_
      refine Wc.region ?_
      refine Wk.r rfl rfl rfl (Rk.cells rfl sh93 (by first | assumption | repeat (first | exact gnew | exact gsetn gnew | assumption | exact gsetn (by assumption) | exact gsetn (gset (by assumption) (by omega)) | refine gpush ?_ | refine gset ?_ (by first | omega | (simp; omega)) )) (by simp) (by simp)) ?_
      refine Wk.r rfl rfl rfl (Rk.cells rfl sh93 (by first | assumption | repeat (first | exact gnew | exact gsetn gnew | assumption | exact gsetn (by assumption) | exact gsetn (gset (by assumption) (by omega)) | refine gpush ?_ | refine gset ?_ (by first | omega | (simp; omega)) )) (by simp) (by simp)) ?_
      refine Wk.c rfl rfl rfl (Ck.call rfl rfl) ((c53 hK (x := p.natAbs) (y := Y)).mono ?_)
      rintro r t9 ⟨rfl, ho11⟩
      have hg2 := ho11.get hg2
      have hg3 := ho11.get hg3
      have hg4 := ho11.get hg4
      have hg7 := ho11.get hg7
      have hg8 := ho11.get hg8
      have hg10 := ho11.get hg10
      have ho11 := ho10.trans ho11
      generalize h67 : decide ((p.natAbs : Int) < (Y : Int)) = b
      cases b
      · -- t67 = False
        have hle : ¬ ((p.natAbs : Int) < (Y : Int)) := of_decide_eq_false h67
        obtain ⟨rfl, rfl⟩ := hw8 (by omega)
        refine Wk.next ?_
        refine Wc.condF rfl ?_
        refine Wc.skip ?_
        refine Wc.finish fun fr hf => ?_
        refine ⟨(decide (p < 0), p.natAbs - Y, t9), ⟨?_, ?_, ho11, hg2, hg3, hg4, ?_⟩, rfl, hf.less ⟨rfl, rfl, rfl, rfl, rfl, rfl, trivial⟩⟩
        · dsimp only; rw [decide_eq_true hp0, if_pos rfl]; omega
        · dsimp only; omega
        · dsimp only; rw [hg10, show (p.natAbs : Int) - (Y : Int) = ((p.natAbs - Y : Nat) : Int) by omega]
      · -- t67 = True
        have hle : ((p.natAbs : Int) < (Y : Int)) := of_decide_eq_true h67
        refine Wk.next ?_
        refine Wc.condT rfl ?_
        refine Wc.assoc ?_
        refine Wc.region ?_
        refine Wk.r rfl rfl rfl (Rk.cells rfl sh93 (by first | assumption | repeat (first | exact gnew | exact gsetn gnew | assumption | exact gsetn (by assumption) | exact gsetn (gset (by assumption) (by omega)) | refine gpush ?_ | refine gset ?_ (by first | omega | (simp; omega)) )) (by simp) (by simp)) ?_
        refine Wk.r rfl rfl rfl (Rk.cells rfl sh93 (by first | assumption | repeat (first | exact gnew | exact gsetn gnew | assumption | exact gsetn (by assumption) | exact gsetn (gset (by assumption) (by omega)) | refine gpush ?_ | refine gset ?_ (by first | omega | (simp; omega)) )) (by simp) (by simp)) ?_
        refine Wk.c rfl rfl rfl (Ck.call rfl rfl) ((c52 hK (x := Y) (y := p.natAbs) (by omega) (by omega)).mono ?_)
        rintro r t10 ⟨hi9, lo9, rfl, hw9, ho12⟩
        have hg2 := ho12.get hg2
        have hg3 := ho12.get hg3
        have hg4 := ho12.get hg4
        have hg10 := ho12.get hg10
        have ho12 := ho11.trans ho12
        obtain ⟨rfl, rfl⟩ := hw9 (by omega)
        refine Wk.h rfl rfl rfl (Hk.whole rfl rfl sh93 (by first | assumption | repeat (first | exact gnew | exact gsetn gnew | assumption | exact gsetn (by assumption) | exact gsetn (gset (by assumption) (by omega)) | refine gpush ?_ | refine gset ?_ (by first | omega | (simp; omega)) )) rfl rfl (by first | rfl | (show (true && (Abs.scalar _ && true)) = true; rw [Bool.true_and, Bool.and_true]; assumption))) ?_
        refine Wk.next ?_
        refine Wc.store fun s6 e6 => ?_
        have ho13 : Old s s6 := by subst e6; exact ho12.gset (by omega)
        have hg2 : s6.get s.size = some ⟨[.int .i64 p, .int .i64 (q : Nat)], .rw⟩ := by subst e6; exact gset hg2 (by omega)
        have hg3 : s6.get (s.size + 1) = some ⟨[.int .i64 c, .int .i64 ((1 : Nat) : Int)], .rw⟩ := by subst e6; exact gset hg3 (by omega)
        have hg4 : s6.get (s.size + 2) = some ⟨[.int .i64 0, .int .i64 0], .rw⟩ := by subst e6; exact gset hg4 (by omega)
        have hg10 : s6.get t7.size = some ⟨[.int .u64 0, .int .u64 ((Y : Int) - (p.natAbs : Int))], .rw⟩ := by subst e6; exact gsetn hg10
        clear e6
        refine Wc.region ?_
        refine Wk.q rfl rfl rfl (Qk.fa rfl fd41_0) ?_
        refine Wk.r rfl rfl rfl (Rk.cell rfl sh2 (by first | assumption | repeat (first | exact gnew | exact gsetn gnew | assumption | exact gsetn (by assumption) | exact gsetn (gset (by assumption) (by omega)) | refine gpush ?_ | refine gset ?_ (by first | omega | (simp; omega)) )) (by simp) rfl) ?_
        refine Wk.q rfl rfl rfl (Qk.bin rfl rfl rfl) ?_
        refine Wk.q rfl rfl rfl (Qk.assign rfl) ?_
        refine Wk.next ?_
        refine Wc.finish fun fr hf => ?_
        refine ⟨(decide (c < 0), Y - p.natAbs, s6), ⟨?_, ?_, ho13, hg2, hg3, hg4, ?_⟩, rfl, hf.less ⟨rfl, rfl, rfl, rfl, rfl, rfl, trivial⟩⟩
        · dsimp only; rw [decide_eq_false (show ¬ c < 0 by omega), if_neg (by simp)]; omega
        · dsimp only; omega
        · dsimp only; rw [hg10, show (Y : Int) - (p.natAbs : Int) = ((Y - p.natAbs : Nat) : Int) by omega]
  · -- join 7: what follows
    rintro y hy
    obtain ⟨neg, lo, u⟩ := y
    obtain ⟨hsum, hlo, hou, hg2, hg3, hg4, hg10⟩ := hy
    dsimp only at hsum hlo hou hg2 hg3 hg4 hg10 ⊢
    refine Wc.assoc ?_
    refine Wc.assoc ?_
    refine Wc.region ?_
    refine Wk.r rfl rfl rfl (Rk.cells rfl sh93 (by first | assumption | repeat (first | exact gnew | exact gsetn gnew | assumption | exact gsetn (by assumption) | exact gsetn (gset (by assumption) (by omega)) | refine gpush ?_ | refine gset ?_ (by first | omega | (simp; omega)) )) (by simp) (by simp)) ?_
    refine Wk.q rfl rfl rfl (Qk.build rfl build93') ?_
    refine Wk.b rfl rfl rfl (Qk.bin rfl rfl (eql93)) fun b h76 => ?_
    cases b
    · -- t76 = False
      refine Wk.next ?_
      refine Wc.condF rfl ?_
      refine Wc.skip ?_
      refine Wc.assoc ?_
      refine Wc.region ?_
      refine Wk.r rfl rfl rfl (Rk.cells rfl sh93 (by first | assumption | repeat (first | exact gnew | exact gsetn gnew | assumption | exact gsetn (by assumption) | exact gsetn (gset (by assumption) (by omega)) | refine gpush ?_ | refine gset ?_ (by first | omega | (simp; omega)) )) (by simp) (by simp)) ?_
      refine Wk.q rfl rfl rfl (Qk.move rfl) ?_
      refine Wk.c rfl rfl rfl (Ck.call rfl rfl) ((c54 hK hlo).mono ?_)
      rintro r u2 ⟨rfl, hou2⟩
      have hg2 := hou2.get hg2
      have hg3 := hou2.get hg3
      have hg4 := hou2.get hg4
      have hg10 := hou2.get hg10
      have hou2 := hou.trans hou2
      refine Wk.q rfl rfl rfl (Qk.move rfl) ?_
      refine Wk.q rfl rfl rfl (Qk.extract rfl rfl) ?_
      refine Wk.q rfl rfl rfl (Qk.extract rfl rfl) ?_
      refine Wk.f rfl rfl rfl (Fk.alloc ze93) ?_
      refine Wk.h rfl rfl rfl (Hk.whole rfl rfl sh93 (by first | assumption | repeat (first | exact gnew | exact gsetn gnew | assumption | exact gsetn (by assumption) | exact gsetn (gset (by assumption) (by omega)) | refine gpush ?_ | refine gset ?_ (by first | omega | (simp; omega)) )) rfl rfl (by first | rfl | (show (true && (Abs.scalar _ && true)) = true; rw [Bool.true_and, Bool.and_true]; assumption))) ?_
      refine Wk.q rfl rfl rfl (Qk.assign rfl) ?_
      refine Wk.next ?_
      refine Wc.store fun s7 e7 => ?_
      have ho13 : Old s s7 := by subst e7; exact (hou2.gpush _).gset (by have := hou2.1; omega)
      have hl10 := St.get_lt hg10
      have hg2 : s7.get s.size = some ⟨[.int .i64 p, .int .i64 (q : Nat)], .rw⟩ := by subst e7; exact gset (gpush hg2) (by omega)
      have hg3 : s7.get (s.size + 1) = some ⟨[.int .i64 c, .int .i64 ((1 : Nat) : Int)], .rw⟩ := by subst e7; exact gset (gpush hg3) (by omega)
      have hg4 : s7.get (s.size + 2) = some ⟨[.int .i64 0, .int .i64 0], .rw⟩ := by subst e7; exact gset (gpush hg4) (by omega)
      have hg10 : s7.get t7.size = some ⟨[.int .u64 0, .int .u64 (lo : Nat)], .rw⟩ := by subst e7; exact gset (gpush hg10) (by omega)
      clear e7
      refine Wc.assoc ?_
      refine Wc.region ?_
      refine Wk.q rfl rfl rfl (Qk.move rfl) ?_
      refine Wk.q rfl rfl rfl (Qk.move rfl) ?_
      refine Wk.c rfl rfl rfl (Ck.call rfl rfl) ((c48 hK (a := 0) (b := 1) (by omega) (by omega)).mono ?_)
      rintro r u3 ⟨rfl, rfl⟩
      rw [show Nat.gcd 0 1 = 1 from rfl]
      refine Wk.q rfl rfl rfl (Qk.assign rfl) ?_
      refine Wk.next ?_
      refine Wc.assoc ?_
      refine Wc.region ?_
      refine Wk.r rfl rfl rfl (Rk.cells rfl sh93 (by first | assumption | repeat (first | exact gnew | exact gsetn gnew | assumption | exact gsetn (by assumption) | exact gsetn (gset (by assumption) (by omega)) | refine gpush ?_ | refine gset ?_ (by first | omega | (simp; omega)) )) (by simp) (by simp)) ?_
      refine Wk.q rfl rfl rfl (Qk.move rfl) ?_
      refine Wk.c rfl rfl rfl (Ck.call rfl rfl) ((c54 hK hlo).mono ?_)
      rintro r u4 ⟨rfl, hou4⟩
      have hg2 := hou4.get hg2
      have hg3 := hou4.get hg3
      have hg4 := hou4.get hg4
      have hou4 := ho13.trans hou4
      refine Wk.q rfl rfl rfl (Qk.move rfl) ?_
      refine Wk.q rfl rfl rfl (Qk.extract rfl rfl) ?_
      refine Wk.q rfl rfl rfl (Qk.extract rfl rfl) ?_
      refine Wk.f rfl rfl rfl (Fk.alloc ze93) ?_
      refine Wk.h rfl rfl rfl (Hk.whole rfl rfl sh93 (by first | assumption | repeat (first | exact gnew | exact gsetn gnew | assumption | exact gsetn (by assumption) | exact gsetn (gset (by assumption) (by omega)) | refine gpush ?_ | refine gset ?_ (by first | omega | (simp; omega)) )) rfl rfl (by first | rfl | (show (true && (Abs.scalar _ && true)) = true; rw [Bool.true_and, Bool.and_true]; assumption))) ?_
      refine Wk.q rfl rfl rfl (Qk.assign rfl) ?_
      refine Wk.next ?_
      refine Wc.store fun s8 e8 => ?_
      have ho14 : Old s s8 := by subst e8; exact (hou4.gpush _).gset (by have := hou4.1; omega)
      have hl4b := St.get_lt hg4
      have hg2 : s8.get s.size = some ⟨[.int .i64 p, .int .i64 (q : Nat)], .rw⟩ := by subst e8; exact gset (gpush hg2) (by omega)
      have hg3 : s8.get (s.size + 1) = some ⟨[.int .i64 c, .int .i64 ((1 : Nat) : Int)], .rw⟩ := by subst e8; exact gset (gpush hg3) (by omega)
      have hg4 : s8.get (s.size + 2) = some ⟨[.int .i64 0, .int .i64 0], .rw⟩ := by subst e8; exact gset (gpush hg4) (by omega)
      have hg14 : s8.get u4.size = some ⟨[.int .u64 0, .int .u64 (lo : Nat)], .rw⟩ := by subst e8; exact gsetn gnew
      clear e8
      refine Wc.assoc ?_
      refine Wc.drawE0 rfl ?_
      refine We.q rfl rfl rfl (Qk.move rfl) ?_
      refine We.cells rfl rfl rfl rfl rfl sh93 (by first | assumption | repeat (first | exact gnew | exact gsetn gnew | assumption | exact gsetn (by assumption) | exact gsetn (gset (by assumption) (by omega)) | refine gpush ?_ | refine gset ?_ (by first | omega | (simp; omega)) )) (by simp) (by simp) (by first | assumption | simp [sames, same, ssame]) (by repeat' (first | exact trivial | exact Or.inl rfl | apply And.intro | (refine Or.inr ?_; assumption) | (refine Or.inr ?_; exact gset (by assumption) (by omega)) | (refine Or.inr ⟨_, _, (by first | assumption | repeat (first | exact gnew | exact gsetn gnew | assumption | exact gsetn (by assumption) | exact gsetn (gset (by assumption) (by omega)) | refine gpush ?_ | refine gset ?_ (by first | omega | (simp; omega)) )), (by simp), rfl⟩))) ?_
      refine We.q rfl rfl rfl (Qk.fa rfl fd41_1) ?_
      refine We.cell rfl rfl rfl rfl rfl sh2 (by first | assumption | repeat (first | exact gnew | exact gsetn gnew | assumption | exact gsetn (by assumption) | exact gsetn (gset (by assumption) (by omega)) | refine gpush ?_ | refine gset ?_ (by first | omega | (simp; omega)) )) (by simp) rfl (by first | assumption | simp [same, ssame]) (by repeat' (first | exact trivial | exact Or.inl rfl | apply And.intro | (refine Or.inr ?_; assumption) | (refine Or.inr ?_; exact gset (by assumption) (by omega)) | (refine Or.inr ⟨_, _, (by first | assumption | repeat (first | exact gnew | exact gsetn gnew | assumption | exact gsetn (by assumption) | exact gsetn (gset (by assumption) (by omega)) | refine gpush ?_ | refine gset ?_ (by first | omega | (simp; omega)) )), (by simp), rfl⟩))) ?_
      refine We.q rfl rfl rfl (Qk.cvt rfl und2 und87 (i64_u64 (by omega))) ?_
      refine We.q rfl rfl rfl (Qk.move rfl) ?_
      refine We.q rfl rfl rfl (Qk.eqv (u := .int .u64 (q : Nat)) (Qk.quoU rfl rfl (by omega)) (by congr 1; omega)) ?_
      refine We.q rfl rfl rfl (Qk.fa rfl fd41_1) ?_
      refine We.cell rfl rfl rfl rfl rfl sh2 (by first | assumption | repeat (first | exact gnew | exact gsetn gnew | assumption | exact gsetn (by assumption) | exact gsetn (gset (by assumption) (by omega)) | refine gpush ?_ | refine gset ?_ (by first | omega | (simp; omega)) )) (by simp) rfl (by first | assumption | simp [same, ssame]) (by repeat' (first | exact trivial | exact Or.inl rfl | apply And.intro | (refine Or.inr ?_; assumption) | (refine Or.inr ?_; exact gset (by assumption) (by omega)) | (refine Or.inr ⟨_, _, (by first | assumption | repeat (first | exact gnew | exact gsetn gnew | assumption | exact gsetn (by assumption) | exact gsetn (gset (by assumption) (by omega)) | refine gpush ?_ | refine gset ?_ (by first | omega | (simp; omega)) )), (by simp), rfl⟩))) ?_
      refine We.q rfl rfl rfl (Qk.cvt rfl und2 und87 (i64_u64 (by omega))) ?_
      refine We.q rfl rfl rfl (Qk.move rfl) ?_
      refine We.q rfl rfl rfl (Qk.eqv (u := .int .u64 ((1 : Nat) : Int)) (Qk.quoU rfl rfl (by omega)) (by congr 1)) ?_
      refine We.c rfl rfl rfl (Ck.call rfl rfl) (by repeat' (first | exact trivial | exact Or.inl rfl | apply And.intro | (refine Or.inr ?_; assumption) | (refine Or.inr ?_; exact gset (by assumption) (by omega)) | (refine Or.inr ⟨_, _, (by first | assumption | repeat (first | exact gnew | exact gsetn gnew | assumption | exact gsetn (by assumption) | exact gsetn (gset (by assumption) (by omega)) | refine gpush ?_ | refine gset ?_ (by first | omega | (simp; omega)) )), (by simp), rfl⟩))) ((c49 hK (x := q) (y := 1) (by omega) (by omega) (by omega)).mono ?_)
      rintro r u5 ⟨rfl, hou5⟩
      rw [show (q : Int) * ((1 : Nat) : Int) = ((q : Nat) : Int) by omega]
      have hg2 := hou5.get hg2
      have hg3 := hou5.get hg3
      have hg4 := hou5.get hg4
      have hg14 := hou5.get hg14
      have hou5 := ho14.trans hou5
      refine ⟨(by repeat' (first | exact trivial | exact Or.inl rfl | apply And.intro | (refine Or.inr ?_; assumption) | (refine Or.inr ?_; exact gset (by assumption) (by omega)) | (refine Or.inr ⟨_, _, (by first | assumption | repeat (first | exact gnew | exact gsetn gnew | assumption | exact gsetn (by assumption) | exact gsetn (gset (by assumption) (by omega)) | refine gpush ?_ | refine gset ?_ (by first | omega | (simp; omega)) )), (by simp), rfl⟩))), ?_⟩
      refine We.c rfl rfl rfl (Ck.call rfl rfl) (by repeat' (first | exact trivial | exact Or.inl rfl | apply And.intro | (refine Or.inr ?_; assumption) | (refine Or.inr ?_; exact gset (by assumption) (by omega)) | (refine Or.inr ⟨_, _, (by first | assumption | repeat (first | exact gnew | exact gsetn gnew | assumption | exact gsetn (by assumption) | exact gsetn (gset (by assumption) (by omega)) | refine gpush ?_ | refine gset ?_ (by first | omega | (simp; omega)) )), (by simp), rfl⟩))) ((c55 hK (m := neg) (x := lo) (y := q) hlo (by omega)).mono ?_)
      rintro r u6 ⟨rfl, hou6⟩
      have hg2 := hou6.get hg2
      have hg3 := hou6.get hg3
      have hg4 := hou6.get hg4
      have hg14 := hou6.get hg14
      have hou6 := hou5.trans hou6
      refine ⟨(by repeat' (first | exact trivial | exact Or.inl rfl | apply And.intro | (refine Or.inr ?_; assumption) | (refine Or.inr ?_; exact gset (by assumption) (by omega)) | (refine Or.inr ⟨_, _, (by first | assumption | repeat (first | exact gnew | exact gsetn gnew | assumption | exact gsetn (by assumption) | exact gsetn (gset (by assumption) (by omega)) | refine gpush ?_ | refine gset ?_ (by first | omega | (simp; omega)) )), (by simp), rfl⟩))), ?_⟩
      refine We.q rfl rfl rfl (Qk.extract rfl rfl) ?_
      refine We.q rfl rfl rfl (Qk.extract rfl rfl) ?_
      refine We.h rfl rfl rfl (Hk.whole rfl rfl sh41 (by first | assumption | repeat (first | exact gnew | exact gsetn gnew | assumption | exact gsetn (by assumption) | exact gsetn (gset (by assumption) (by omega)) | refine gpush ?_ | refine gset ?_ (by first | omega | (simp; omega)) )) rfl rfl (by first | rfl | (show (true && (Abs.scalar _ && true)) = true; rw [Bool.true_and, Bool.and_true]; assumption))) (by repeat' (first | exact trivial | exact Or.inl rfl | apply And.intro | (refine Or.inr ?_; assumption) | (refine Or.inr ?_; exact gset (by assumption) (by omega)) | (refine Or.inr ⟨_, _, (by first | assumption | repeat (first | exact gnew | exact gsetn gnew | assumption | exact gsetn (by assumption) | exact gsetn (gset (by assumption) (by omega)) | refine gpush ?_ | refine gset ?_ (by first | omega | (simp; omega)) )), (by simp), rfl⟩))) (by repeat' (first | exact trivial | exact Or.inl rfl | apply And.intro | (refine Or.inr ?_; assumption) | (refine Or.inr ?_; exact gset (by assumption) (by omega)) | (refine Or.inr ⟨_, _, (by first | assumption | repeat (first | exact gnew | exact gsetn gnew | assumption | exact gsetn (by assumption) | exact gsetn (gset (by assumption) (by omega)) | refine gpush ?_ | refine gset ?_ (by first | omega | (simp; omega)) )), (by simp), rfl⟩))) ?_
      refine We.q rfl rfl rfl (Qk.assign rfl) ?_
      refine We.next ?_
      refine Wc.store fun s9 e9 => ?_
      have ho15 : Old s s9 := by subst e9; exact hou6.gset (by omega)
      have hg5 : s9.get (s.size + 2) = some ⟨[.int .i64 (if neg then -(lo : Int) else lo), .int .i64 (q : Nat)], .rw⟩ := by subst e9; exact gsetn hg4
      refine Wc.doneC (fun _ _ => rfl) (ares_cell rfl (alW sh41 (by first | assumption | repeat (first | exact gnew | exact gsetn gnew | assumption | exact gsetn (by assumption) | exact gsetn (gset (by assumption) (by omega)) | refine gpush ?_ | refine gset ?_ (by first | omega | (simp; omega)) )) (by simp) rfl) (ares_tmp rfl ares_nil)) ?_
      exact ⟨by rw [← hsum]; rfl, ho15⟩
    · -- t76 = True
      refine Wk.next ?_
      refine Wc.condT rfl ?_
      refine Wc.assoc ?_
      refine Wc.region ?_
      refine Wk.q rfl rfl rfl (Qk.build rfl build41') ?_
      refine Wk.h rfl rfl rfl (Hk.whole rfl rfl sh41 (by first | assumption | repeat (first | exact gnew | exact gsetn gnew | assumption | exact gsetn (by assumption) | exact gsetn (gset (by assumption) (by omega)) | refine gpush ?_ | refine gset ?_ (by first | omega | (simp; omega)) )) rfl rfl (by first | rfl | (show (true && (Abs.scalar _ && true)) = true; rw [Bool.true_and, Bool.and_true]; assumption))) ?_
      refine Wk.q rfl rfl rfl (Qk.assign rfl) ?_
      refine Wk.next ?_
      refine Wc.store fun s10 e10 => ?_
      have ho15 : Old s s10 := by subst e10; exact hou.gset (by omega)
      have hg5 : s10.get (s.size + 2) = some ⟨[.int .i64 0, .int .i64 1], .rw⟩ := by subst e10; exact gsetn hg4
      refine Wc.doneC (fun _ _ => rfl) (ares_cell rfl (alW sh41 (by first | assumption | repeat (first | exact gnew | exact gsetn gnew | assumption | exact gsetn (by assumption) | exact gsetn (gset (by assumption) (by omega)) | refine gpush ?_ | refine gset ?_ (by first | omega | (simp; omega)) )) (by simp) rfl) (ares_tmp rfl ares_nil)) ?_
      have h0 : lo = 0 := by
        rw [Bool.and_eq_true] at h76
        have := eq_of_beq h76.2
        omega
      subst h0
      have hz : c * (q : Int) + p = 0 := by rw [← hsum]; split <;> rfl
      have hq1 := rt_zero hq hz
      exact ⟨by rw [hz, hq1]; rfl, ho15⟩
end Go.Proofs.Ytfgnjndicidpkaa
