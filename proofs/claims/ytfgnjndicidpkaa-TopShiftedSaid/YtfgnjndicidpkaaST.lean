/- A ratio and so many more; the stake of an agent. -/
import Derived.Test.YtfgnjndicidpkaaSR
namespace Go.Proofs.Ytfgnjndicidpkaa
open Go.Abs Go.IntWalk
variable {K : Known}
theorem gcd_shift {a x : Int} {n : Nat} : Nat.gcd (x * (n : Int) + a).natAbs n = Nat.gcd a.natAbs n := by
  refine Nat.dvd_antisymm ?_ ?_
  · refine Nat.dvd_gcd ?_ (Nat.gcd_dvd_right _ _)
    have h1 : ((Nat.gcd (x * (n : Int) + a).natAbs n : Nat) : Int) ∣ x * (n : Int) + a := Int.dvd_natAbs.1 (Int.natCast_dvd_natCast.2 (Nat.gcd_dvd_left _ _))
    have h2 : ((Nat.gcd (x * (n : Int) + a).natAbs n : Nat) : Int) ∣ (n : Int) := Int.natCast_dvd_natCast.2 (Nat.gcd_dvd_right _ _)
    have h3 : ((Nat.gcd (x * (n : Int) + a).natAbs n : Nat) : Int) ∣ a := (Int.dvd_add_right (Int.dvd_trans h2 (Int.dvd_mul_left _ _))).1 h1
    exact Int.natCast_dvd_natCast.1 (Int.dvd_natAbs.2 h3)
  · refine Nat.dvd_gcd ?_ (Nat.gcd_dvd_right _ _)
    have h1 : ((Nat.gcd a.natAbs n : Nat) : Int) ∣ a := Int.dvd_natAbs.1 (Int.natCast_dvd_natCast.2 (Nat.gcd_dvd_left _ _))
    have h2 : ((Nat.gcd a.natAbs n : Nat) : Int) ∣ (n : Int) := Int.natCast_dvd_natCast.2 (Nat.gcd_dvd_right _ _)
    have h3 : ((Nat.gcd a.natAbs n : Nat) : Int) ∣ x * (n : Int) + a := Int.dvd_add (Int.dvd_trans h2 (Int.dvd_mul_left _ _)) h1
    exact Int.natCast_dvd_natCast.1 (Int.dvd_natAbs.2 h3)
theorem rat_rt {a : Int} {n : Nat} (ha : -1000000000 ≤ a ∧ a ≤ 1000000000) (hn : 1 ≤ n ∧ n ≤ 6) : ∃ (p : Int) (q : Nat), rat a n = .agg #[.int .i64 p, .int .i64 (q : Nat)] ∧ Rt p q ∧ (∀ x : Int, rat (x * (n : Int) + a) n = .agg #[.int .i64 (x * (q : Int) + p), .int .i64 (q : Nat)]) ∧ (∀ x : Int, rat (x * (n : Int) - a) n = .agg #[.int .i64 (x * (q : Int) + -p), .int .i64 (q : Nat)]) ∧ (-1000000000 ≤ p ∧ p ≤ 1000000000 ∧ 1 ≤ q ∧ q ≤ 6) := by
  have hg0 : 0 < Nat.gcd a.natAbs n := Nat.gcd_pos_of_pos_right _ (by omega)
  have hgn : Nat.gcd a.natAbs n ∣ n := Nat.gcd_dvd_right _ _
  have hga : ((Nat.gcd a.natAbs n : Nat) : Int) ∣ a := Int.dvd_natAbs.1 (Int.natCast_dvd_natCast.2 (Nat.gcd_dvd_left _ _))
  obtain ⟨q, hq⟩ := hgn
  obtain ⟨p, hp⟩ := hga
  have hco : Nat.gcd p.natAbs q = 1 := by
    have h1 : Nat.gcd a.natAbs n = Nat.gcd a.natAbs n * Nat.gcd p.natAbs q := by
      rw [← Nat.gcd_mul_left, ← hq]
      congr 1
      have := congrArg Int.natAbs hp
      rw [Int.natAbs_mul, Int.natAbs_natCast] at this
      exact this
    exact (Nat.mul_left_cancel hg0 (by rw [Nat.mul_one]; exact h1)).symm
  have e1 : ∀ x : Int, (x * (n : Int) + a) / (Nat.gcd a.natAbs n : Nat) = x * (q : Int) + p := fun x => by
    have : x * (n : Int) + a = (Nat.gcd a.natAbs n : Nat) * (x * (q : Int) + p) := by
      rw [Int.mul_add, ← hp, ← Int.mul_assoc, Int.mul_comm ((Nat.gcd a.natAbs n : Nat) : Int) x, Int.mul_assoc, ← Int.natCast_mul, ← hq]
    rw [this]
    exact Int.mul_ediv_cancel_left _ (by omega)
  have e2 : (n : Int) / (Nat.gcd a.natAbs n : Nat) = (q : Nat) := by
    rw [← Int.natCast_ediv]
    congr 1
    rw [Nat.div_eq_iff_eq_mul_right hg0 (Nat.gcd_dvd_right _ _)]
    exact hq
  have e0 := e1 0
  rw [Int.zero_mul, Int.zero_mul, Int.zero_add, Int.zero_add] at e0
  have hqle : q ≤ n := by rw [hq]; exact Nat.le_mul_of_pos_left _ hg0
  have hq1 : 1 ≤ q := by
    rcases Nat.eq_zero_or_pos q with h | h
    · rw [h] at hq; omega
    · exact h
  have hpb : -1000000000 ≤ p ∧ p ≤ 1000000000 := by
    generalize Nat.gcd a.natAbs n = g at *
    have h1 : p.natAbs ≤ a.natAbs := by rw [hp, Int.natAbs_mul, Int.natAbs_natCast]; exact Nat.le_mul_of_pos_left _ hg0
    omega
  refine ⟨p, q, ?_, ⟨hpb, ⟨hq1, by omega⟩, hco⟩, fun x => ?_, fun x => ?_, hpb.1, hpb.2, hq1, by omega⟩
  · unfold rat; rw [e0, e2]
  · unfold rat; rw [gcd_shift, e1 x, e2]
  · have h1 : x * (n : Int) - a = -((-x) * (n : Int) + a) := by rw [Int.neg_mul]; omega
    have h2 : ((Nat.gcd a.natAbs n : Nat) : Int) ∣ (-x) * (n : Int) + a := by
      refine Int.dvd_add ?_ ⟨p, hp⟩
      exact Int.dvd_trans (Int.natCast_dvd_natCast.2 (Nat.gcd_dvd_right _ _)) (Int.dvd_mul_left _ _)
    unfold rat
    rw [h1, Int.natAbs_neg, gcd_shift, Int.neg_ediv_of_dvd h2, e1, e2]
    congr 4
    rw [Int.neg_mul]; omega
theorem lowOf_bd {M : List (List Int)} {rent : Int} {j : Nat} (hB : Bids M) (hHO : HasOpt M) (hr : 0 ≤ rent ∧ rent ≤ 10000000) (hj : j < M.length) : -1000000000 ≤ lowOf M rent j ∧ lowOf M rent j ≤ 1000000000 := by
  have := Sm.bd64 (n := M.length) (g := fun x => LK M x j) fun i hi => LK_bd hB hHO hi hj
  have := hB.most
  unfold lowOf
  omega
theorem highOf_bd {M : List (List Int)} {rent : Int} {j : Nat} (hB : Bids M) (hHO : HasOpt M) (hr : 0 ≤ rent ∧ rent ≤ 10000000) (hj : j < M.length) : -1000000000 ≤ highOf M rent j ∧ highOf M rent j ≤ 1000000000 := by
  have := Sm.bd64 (n := M.length) (g := fun x => LK M j x) fun i hi => LK_bd hB hHO hj hi
  have := hB.most
  unfold highOf
  omega
set_option maxHeartbeats 4000000 in
set_option maxRecDepth 100000 in
theorem c12r (hK : Late K) {p c : Int} {q : Nat} (hq : Rt p q) (hc1 : Rt c 1) (hc : 0 ≤ c ∧ c ≤ 1000) {s : St} : Ev Try.prog K (.func (.func 12) #[] #[]) [.agg #[.int .i64 p, .int .i64 (q : Nat)], .agg #[.int .i64 (c * (q : Int) + p), .int .i64 (q : Nat)], .int .i64 c] s fun r s' => r = .bool true ∧ Old s s' := by
  refine Ev.enterK (hK.none (by decide) _) Try.func12 rfl rfl (Nat.le_of_ble_eq_true rfl) ?_
  refine Wc.tail ?_
  refine Wc.assoc ?_
  refine Wc.region ?_
  refine Wk.f rfl rfl rfl (Fk.box rfl rfl) ?_
  refine Wk.f rfl rfl rfl (Fk.box rfl rfl) ?_
  refine Wk.q rfl rfl rfl (Qk.assign rfl) ?_
  refine Wk.next ?_
  refine Wc.store fun s1 e1 => ?_
  have ho1 : Old s s1 := by subst e1; exact (Old.push _ _).gpush _
  have hg3 : s1.get s.size = some ⟨[.int .i64 p, .int .i64 (q : Nat)], .rw⟩ := by subst e1; exact gpush gnew
  have hg4 : s1.get (s.size + 1) = some ⟨[.int .i64 (c * (q : Int) + p), .int .i64 (q : Nat)], .rw⟩ := by subst e1; exact g1
  have hpz : ∀ a : Blk, (s.push a).size = s.size + 1 := fun a => by simp
  rw [hpz]
  have hl4 := St.get_lt hg4
  clear e1
  refine Wc.assoc ?_
  refine Wc.drawE ?_
  refine We.store' fun s2 e2 => ?_
  have ho2 : Old s1 s2 := by subst e2; exact Old.reserve _ _
  have hg3 := ho2.get hg3
  have hg4 := ho2.get hg4
  have hg7 : s2.get (s1.size + 7) = some ⟨[], .dead⟩ := by subst e2; exact gnone (by decide)
  have ho2 := ho1.trans ho2
  clear e2
  refine We.cells rfl rfl rfl rfl rfl sh41 (by first | assumption | repeat (first | exact gnew | exact gsetn gnew | assumption | exact gsetn (by assumption) | exact gsetn (gset (by assumption) (by omega)) | refine gpush ?_ | refine gset ?_ (by first | omega | (simp; omega)) )) (by simp) (by simp) (by first | assumption | simp [sames, same, ssame]) (by repeat' (first | exact trivial | exact Or.inl rfl | apply And.intro | (refine Or.inr ?_; assumption) | (refine Or.inr ?_; exact gset (by assumption) (by omega)) | (refine Or.inr ⟨_, _, (by first | assumption | repeat (first | exact gnew | exact gsetn gnew | assumption | exact gsetn (by assumption) | exact gsetn (gset (by assumption) (by omega)) | refine gpush ?_ | refine gset ?_ (by first | omega | (simp; omega)) )), (by simp), rfl⟩))) ?_
  refine We.q rfl rfl rfl (Qk.move rfl) ?_
  refine We.c rfl rfl rfl (Ck.call rfl rfl) (by repeat' (first | exact trivial | exact Or.inl rfl | apply And.intro | (refine Or.inr ?_; assumption) | (refine Or.inr ?_; exact gset (by assumption) (by omega)) | (refine Or.inr ⟨_, _, (by first | assumption | repeat (first | exact gnew | exact gsetn gnew | assumption | exact gsetn (by assumption) | exact gsetn (gset (by assumption) (by omega)) | refine gpush ?_ | refine gset ?_ (by first | omega | (simp; omega)) )), (by simp), rfl⟩))) ((c32 hK).mono ?_)
  rintro r t ⟨rfl, ho3⟩
  have hg3 := ho3.get hg3
  have hg4 := ho3.get hg4
  have hg7 := ho3.get hg7
  have ho3 := ho2.trans ho3
  refine ⟨(by repeat' (first | exact trivial | exact Or.inl rfl | apply And.intro | (refine Or.inr ?_; assumption) | (refine Or.inr ?_; exact gset (by assumption) (by omega)) | (refine Or.inr ⟨_, _, (by first | assumption | repeat (first | exact gnew | exact gsetn gnew | assumption | exact gsetn (by assumption) | exact gsetn (gset (by assumption) (by omega)) | refine gpush ?_ | refine gset ?_ (by first | omega | (simp; omega)) )), (by simp), rfl⟩))), ?_⟩
  refine We.c rfl rfl rfl (Ck.call rfl rfl) (by repeat' (first | exact trivial | exact Or.inl rfl | apply And.intro | (refine Or.inr ?_; assumption) | (refine Or.inr ?_; exact gset (by assumption) (by omega)) | (refine Or.inr ⟨_, _, (by first | assumption | repeat (first | exact gnew | exact gsetn gnew | assumption | exact gsetn (by assumption) | exact gsetn (gset (by assumption) (by omega)) | refine gpush ?_ | refine gset ?_ (by first | omega | (simp; omega)) )), (by simp), rfl⟩))) ((c31 hK hq hc1 hc).mono ?_)
  rintro r t2 ⟨rfl, ho4⟩
  have hg3 := ho4.get hg3
  have hg4 := ho4.get hg4
  have hg7 := ho4.get hg7
  have ho4 := ho3.trans ho4
  refine ⟨(by repeat' (first | exact trivial | exact Or.inl rfl | apply And.intro | (refine Or.inr ?_; assumption) | (refine Or.inr ?_; exact gset (by assumption) (by omega)) | (refine Or.inr ⟨_, _, (by first | assumption | repeat (first | exact gnew | exact gsetn gnew | assumption | exact gsetn (by assumption) | exact gsetn (gset (by assumption) (by omega)) | refine gpush ?_ | refine gset ?_ (by first | omega | (simp; omega)) )), (by simp), rfl⟩))), ?_⟩
  refine We.q rfl rfl rfl (Qk.move rfl) ?_
  refine We.q rfl rfl rfl (Qk.extract rfl rfl) ?_
  refine We.q rfl rfl rfl (Qk.extract rfl rfl) ?_
  refine We.f rfl rfl rfl (Fk.alloc ze41) ?_
  refine We.h rfl rfl rfl (Hk.whole rfl rfl sh41 (by first | assumption | repeat (first | exact gnew | exact gsetn gnew | assumption | exact gsetn (by assumption) | exact gsetn (gset (by assumption) (by omega)) | refine gpush ?_ | refine gset ?_ (by first | omega | (simp; omega)) )) rfl rfl (by first | rfl | (show (true && (Abs.scalar _ && true)) = true; rw [Bool.true_and, Bool.and_true]; assumption))) (by repeat' (first | exact trivial | exact Or.inl rfl | apply And.intro | (refine Or.inr ?_; assumption) | (refine Or.inr ?_; exact gset (by assumption) (by omega)) | (refine Or.inr ⟨_, _, (by first | assumption | repeat (first | exact gnew | exact gsetn gnew | assumption | exact gsetn (by assumption) | exact gsetn (gset (by assumption) (by omega)) | refine gpush ?_ | refine gset ?_ (by first | omega | (simp; omega)) )), (by simp), rfl⟩))) (by repeat' (first | exact trivial | exact Or.inl rfl | apply And.intro | (refine Or.inr ?_; assumption) | (refine Or.inr ?_; exact gset (by assumption) (by omega)) | (refine Or.inr ⟨_, _, (by first | assumption | repeat (first | exact gnew | exact gsetn gnew | assumption | exact gsetn (by assumption) | exact gsetn (gset (by assumption) (by omega)) | refine gpush ?_ | refine gset ?_ (by first | omega | (simp; omega)) )), (by simp), rfl⟩))) ?_
  refine We.q rfl rfl rfl (Qk.assign rfl) ?_
  refine We.next ?_
  refine Wc.store fun s3 e3 => ?_
  simp only [Nat.zero_add, Nat.reduceAdd] at e3 ⊢
  have ho5 : Old s s3 := by subst e3; exact (ho4.gset (by have := ho1.1; omega)).gset (by have := ho1.1; omega)
  have hg4 : s3.get (s.size + 1) = some ⟨[.int .i64 (c * (q : Int) + p), .int .i64 (q : Nat)], .rw⟩ := by subst e3; exact gset (gset hg4 (by omega)) (by omega)
  have hg7 : s3.get (s1.size + 7) = some ⟨[.int .i64 (c * (q : Int) + p), .int .i64 (q : Nat)], .rw⟩ := by subst e3; exact gsetn (gsetn hg7)
  clear e3
  refine Wc.assoc ?_
  refine Wc.region ?_
  refine Wk.q rfl rfl rfl (Qk.move rfl) ?_
  refine Wk.b rfl rfl rfl (Qk.bin rfl rfl rfl) fun b h17 => ?_
  obtain rfl : b = true := by exact h17.symm -- t17
  refine Wk.q rfl rfl rfl (Qk.move rfl) ?_
  refine Wk.r rfl rfl rfl (Rk.cells rfl sh41 (by first | assumption | repeat (first | exact gnew | exact gsetn gnew | assumption | exact gsetn (by assumption) | exact gsetn (gset (by assumption) (by omega)) | refine gpush ?_ | refine gset ?_ (by first | omega | (simp; omega)) )) (by simp) (by simp)) ?_
  refine Wk.r rfl rfl rfl (Rk.cells rfl sh41 (by first | assumption | repeat (first | exact gnew | exact gsetn gnew | assumption | exact gsetn (by assumption) | exact gsetn (gset (by assumption) (by omega)) | refine gpush ?_ | refine gset ?_ (by first | omega | (simp; omega)) )) (by simp) (by simp)) ?_
  refine Wk.q rfl rfl rfl (Qk.bin rfl rfl (eql41)) ?_
  refine Wk.q rfl rfl rfl (Qk.pickT rfl rfl) ?_
  refine Wk.q rfl rfl rfl (Qk.assign rfl) ?_
  refine Wk.next ?_
  refine Wc.done'' (fun _ _ => rfl) rfl ?_
  exact ⟨by simp [pack], ho5⟩
theorem c12 (hK : Late K) {x y c : Int} {n : Nat} (hx : -1000000000 ≤ x ∧ x ≤ 1000000000) (hn : 1 ≤ n ∧ n ≤ 6) (hc : 0 ≤ c ∧ c ≤ 1000) (hy : y = c * (n : Int) + x) {s : St} : Ev Try.prog K (.func (.func 12) #[] #[]) [rat x n, rat y n, .int .i64 c] s fun r s' => r = .bool true ∧ Old s s' := by
  obtain ⟨p, q, e1, hq, e2, _⟩ := rat_rt hx hn
  rw [hy, e1, e2]
  exact c12r hK hq ⟨by omega, by decide, Nat.gcd_one_right _⟩ hc
set_option maxHeartbeats 4000000 in
set_option maxRecDepth 100000 in
theorem c13 (hK : Late K) {M : List (List Int)} {v : Value} {rent : Int} {i : Nat} {s : St} (hm : MRow s v M) (hB : Bids M) (hr : 0 ≤ rent ∧ rent ≤ 10000000) (hi : i < M.length) :
    Ev Try.prog K (.func (.func 13) #[] #[]) [.agg #[v, .int .i64 rent], .int .i64 i] s fun r s' => ∃ b, AsgL M.length b ∧ Opt M.length (matM M) (asgOf b) ∧ r = .tuple #[rat (matM M i (asgOf b i) * M.length - highOf M rent (asgOf b i)) M.length, rat (matM M i (asgOf b i) * M.length - lowOf M rent (asgOf b i)) M.length, .int .i64 0] ∧ HasOpt M ∧ Old s s' := by
  obtain ⟨rv, hR, hrow⟩ := id hm
  obtain ⟨av, capv, rfl, _⟩ := id hR
  refine Ev.enterK (hK.none (by decide) _) Try.func13 rfl rfl (Nat.le_of_ble_eq_true rfl) ?_
  refine Wc.tail ?_
  refine Wc.assoc ?_
  refine Wc.region ?_
  refine Wk.f rfl rfl rfl (Fk.box rfl rfl) ?_
  refine Wk.f rfl rfl rfl (Fk.alloc ze41) ?_
  refine Wk.f rfl rfl rfl (Fk.alloc ze41) ?_
  refine Wk.q rfl rfl rfl (Qk.assign rfl) ?_
  refine Wk.next ?_
  refine Wc.store fun s1 e1 => ?_
  have ho1 : Old s s1 := by subst e1; exact ((Old.push _ _).gpush _).gpush _
  have hg2 : s1.get s.size = some ⟨[.slice av M.length capv, .int .i64 rent], .rw⟩ := by subst e1; exact gpush (gpush gnew)
  have hg4 : s1.get (s.size + 1) = some ⟨[.int .i64 0, .int .i64 0], .rw⟩ := by subst e1; exact gpush g1
  have hg5 : s1.get (s.size + 2) = some ⟨[.int .i64 0, .int .i64 0], .rw⟩ := by subst e1; exact g2
  have hz2 : ∀ a b : Blk, ((s.push a).push b).size = s.size + 2 := fun a b => by simp
  have hz1 : ∀ a : Blk, (s.push a).size = s.size + 1 := fun a => by simp
  rw [hz2, hz1]
  clear e1
  refine Wc.assoc ?_
  refine Wc.region ?_
  refine Wk.r rfl rfl rfl (Rk.cells rfl sh24 (by first | assumption | repeat (first | exact gnew | exact gsetn gnew | assumption | exact gsetn (by assumption) | exact gsetn (gset (by assumption) (by omega)) | refine gpush ?_ | refine gset ?_ (by first | omega | (simp; omega)) )) (by simp) (by simp)) ?_
  refine Wk.c rfl rfl rfl (Ck.call rfl rfl) ((c33 hK (hm.old ho1) hB hr).mono ?_)
  rintro r t1 ⟨b, bv, cb, lv, rfl, hown, hcb, hA, hO, hL1, hHO, ho2⟩
  obtain ⟨cap, md, cs, hbe, _⟩ := id hown
  subst hbe
  obtain ⟨rvl, hLr, hLrow⟩ := hL1
  obtain ⟨al, capl, hle, _⟩ := id hLr
  subst hle
  have hll := hA.len
  have hb := hown.irow
  have hm6 := hB.most
  have hg2 := ho2.get hg2
  have hg4 := ho2.get hg4
  have hg5 := ho2.get hg5
  have ho2 := ho1.trans ho2
  have hl5 := St.get_lt hg5
  have hai := hA.asg.lt i hi
  have hni : b.getD i 0 = (asgOf b i : Nat) := by have := hA.nonneg i hi; unfold asgOf; omega
  refine Wk.q rfl rfl rfl (Qk.move rfl) ?_
  refine Wk.q rfl rfl rfl (Qk.extract rfl rfl) ?_
  refine Wk.q rfl rfl rfl (Qk.extract rfl rfl) ?_
  refine Wk.q rfl rfl rfl (Qk.extract rfl rfl) ?_
  refine Wk.q rfl rfl rfl (Qk.assign rfl) ?_
  refine Wk.q rfl rfl rfl (Qk.assign rfl) ?_
  refine Wk.q rfl rfl rfl (Qk.assign rfl) ?_
  refine Wk.next ?_
  refine Wc.assoc ?_
  refine Wc.assoc ?_
  refine Wc.region ?_
  refine Wk.q rfl rfl rfl (Qk.move rfl) ?_
  refine Wk.b rfl rfl rfl (Qk.bin rfl rfl rfl) fun b h20 => ?_
  obtain rfl : b = false := by exact h20.symm -- t20
  refine Wk.next ?_
  refine Wc.condF rfl ?_
  refine Wc.skip ?_
  refine Wc.assoc ?_
  refine Wc.assoc ?_
  refine Wc.region ?_
  refine Wk.q rfl rfl rfl (Qk.move rfl) ?_
  refine Wk.b rfl rfl rfl (Qk.bin rfl rfl rfl) fun b h25 => ?_
  obtain rfl : b = false := by rw [← h25, decide_eq_false_iff_not]; omega -- t25
  refine Wk.q rfl rfl rfl (Qk.move rfl) ?_
  refine Wk.q rfl rfl rfl (Qk.move rfl) ?_
  refine Wk.q rfl rfl rfl (Qk.move rfl) ?_
  refine Wk.q rfl rfl rfl (Qk.len rfl rfl rfl sl29) ?_
  refine Wk.b rfl rfl rfl (Qk.bin rfl rfl rfl) fun b h30 => ?_
  obtain rfl : b = false := by rw [← h30, decide_eq_false_iff_not]; omega -- t30
  refine Wk.q rfl rfl rfl (Qk.pickF rfl rfl) ?_
  refine Wk.next ?_
  refine Wc.condF rfl ?_
  refine Wc.skip ?_
  refine Wc.assoc ?_
  refine Wc.draw ?_
  refine Wd.store' fun s2 e2 => ?_
  have ho3 : Old t1 s2 := by subst e2; exact Old.reserve _ _
  have hg2 := ho3.get hg2
  have hg4 := ho3.get hg4
  have hg5 := ho3.get hg5
  have hg9 : s2.get (t1.size + 10) = some ⟨[], .dead⟩ := by subst e2; exact gnone (by decide)
  have hg10 : s2.get (t1.size + 11) = some ⟨[], .dead⟩ := by subst e2; exact gnone (by decide)
  have hos3 := ho2.trans ho3
  clear e2
  refine Wd.r rfl rfl rfl (Rk.cells rfl sh24 (by first | assumption | repeat (first | exact gnew | exact gsetn gnew | assumption | exact gsetn (by assumption) | exact gsetn (gset (by assumption) (by omega)) | refine gpush ?_ | refine gset ?_ (by first | omega | (simp; omega)) )) (by simp) (by simp)) rfl ?_
  refine Wd.q rfl rfl rfl (Qk.move rfl) ?_
  refine Wd.q rfl rfl rfl (Qk.move rfl) ?_
  refine Wd.q rfl rfl rfl (Qk.at rfl rfl ar29 sl29 (hb.old (by assumption)) (by constructor <;> omega)) ?_
  refine Wd.r rfl rfl rfl (Rk.eqv (u := .int .i64 (asgOf b i : Nat)) (Rk.intR rfl sh3 (hb.old (by assumption)) (i := i) (by omega)) (by rw [hni])) rfl ?_
  refine Wd.c rfl rfl rfl (Ck.call rfl rfl) rfl rfl ((c11 hK (hm.old hos3) hB hr hai).mono ?_)
  rintro r t2 ⟨rfl, _, ho4⟩
  have hg2 := ho4.get hg2
  have hg4 := ho4.get hg4
  have hg5 := ho4.get hg5
  have hg9 := ho4.get hg9
  have hg10 := ho4.get hg10
  have ho4 := ho3.trans ho4
  obtain ⟨p1, q1, e1, hq1, hr1, hs1, hb1⟩ := rat_rt (a := lowOf M rent (asgOf b i)) (n := M.length) (lowOf_bd hB hHO hr hai) hB.two
  obtain ⟨p2, q2, e2, hq2, hr2, hs2, hb2⟩ := rat_rt (a := highOf M rent (asgOf b i)) (n := M.length) (highOf_bd hB hHO hr hai) hB.two
  rw [e1, e2]
  clear e1 e2
  refine Wd.q rfl rfl rfl (Qk.move rfl) ?_
  refine Wd.q rfl rfl rfl (Qk.extract rfl rfl) ?_
  refine Wd.q rfl rfl rfl (Qk.extract rfl rfl) ?_
  refine Wd.q rfl rfl rfl (Qk.extract rfl rfl) ?_
  refine Wd.f rfl rfl rfl (Fk.alloc ze41) ?_
  refine Wd.f rfl rfl rfl (Fk.alloc ze41) ?_
  refine Wd.h rfl rfl rfl (Hk.whole rfl rfl sh41 (by first | assumption | repeat (first | exact gnew | exact gsetn gnew | assumption | exact gsetn (by assumption) | exact gsetn (gset (by assumption) (by omega)) | refine gpush ?_ | refine gset ?_ (by first | omega | (simp; omega)) )) rfl rfl (by first | rfl | (show (true && (Abs.scalar _ && true)) = true; rw [Bool.true_and, Bool.and_true]; assumption))) rfl rfl ?_
  refine Wd.h rfl rfl rfl (Hk.whole rfl rfl sh41 (by first | assumption | repeat (first | exact gnew | exact gsetn gnew | assumption | exact gsetn (by assumption) | exact gsetn (gset (by assumption) (by omega)) | refine gpush ?_ | refine gset ?_ (by first | omega | (simp; omega)) )) rfl rfl (by first | rfl | (show (true && (Abs.scalar _ && true)) = true; rw [Bool.true_and, Bool.and_true]; assumption))) rfl rfl ?_
  refine Wd.q rfl rfl rfl (Qk.assign rfl) ?_
  refine Wd.next ?_
  refine Wc.store fun s3 e3 => ?_
  simp only [Nat.zero_add, Nat.reduceAdd] at e3 ⊢
  have ho5 : Old t1 s3 := by subst e3; exact (((ho4.gset (by omega)).gset (by omega)).gset (by omega)).gset (by omega)
  have hg2 : s3.get s.size = some ⟨[.slice av M.length capv, .int .i64 rent], .rw⟩ := by subst e3; exact gset (gset (gset (gset hg2 (by omega)) (by omega)) (by omega)) (by omega)
  have hg4 : s3.get (s.size + 1) = some ⟨[.int .i64 0, .int .i64 0], .rw⟩ := by subst e3; exact gset (gset (gset (gset hg4 (by omega)) (by omega)) (by omega)) (by omega)
  have hg5 : s3.get (s.size + 2) = some ⟨[.int .i64 0, .int .i64 0], .rw⟩ := by subst e3; exact gset (gset (gset (gset hg5 (by omega)) (by omega)) (by omega)) (by omega)
  have hg10 : s3.get (t1.size + 11) = some ⟨[.int .i64 p2, .int .i64 (q2 : Nat)], .rw⟩ := by subst e3; exact gsetn (gset (gsetn (gset hg10 (by omega))) (by omega))
  have hg9 : s3.get (t1.size + 10) = some ⟨[.int .i64 p1, .int .i64 (q1 : Nat)], .rw⟩ := by subst e3; exact gset (gsetn (gset (gsetn hg9) (by omega))) (by omega)
  clear e3
  have hl10 := St.get_lt hg10
  refine Wc.assoc ?_
  refine Wc.draw ?_
  refine Wd.store' fun s4 e4 => ?_
  have ho6 : Old s3 s4 := by subst e4; exact Old.reserve _ _
  have hg2 := ho6.get hg2
  have hg4 := ho6.get hg4
  have hg5 := ho6.get hg5
  have hg9 := ho6.get hg9
  have hg10 := ho6.get hg10
  have hg12 : s4.get (s3.size + 12) = some ⟨[], .dead⟩ := by subst e4; exact gnone (by decide)
  have ho6 := ho5.trans ho6
  have hos4 : Old s s4 := ho2.trans ho6
  have hsqi := hB.square i hi
  have hrwi : IRow s4 (rv i) (rowM M i) := (hrow i hi).old hos4
  have hvb : 0 ≤ (rowM M i).getD (asgOf b i) 0 ∧ (rowM M i).getD (asgOf b i) 0 ≤ 1000000 := hB.range i (asgOf b i) hi hai
  clear e4
  refine Wd.q rfl rfl rfl (Qk.fa rfl fd24_0) ?_
  refine Wd.r rfl rfl rfl (Rk.cell rfl sh22 (by first | assumption | repeat (first | exact gnew | exact gsetn gnew | assumption | exact gsetn (by assumption) | exact gsetn (gset (by assumption) (by omega)) | refine gpush ?_ | refine gset ?_ (by first | omega | (simp; omega)) )) (by simp) rfl) rfl ?_
  refine Wd.q rfl rfl rfl (Qk.move rfl) ?_
  refine Wd.q rfl rfl rfl (Qk.at rfl rfl ar22 sl22 (hR.old (by assumption)) (by constructor <;> omega)) ?_
  refine Wd.r rfl rfl rfl (Rk.atS rfl sh29 (hR.old (by assumption)) (i := i) (by omega) rfl) rfl ?_
  refine Wd.q rfl rfl rfl (Qk.move rfl) ?_
  refine Wd.q rfl rfl rfl (Qk.move rfl) ?_
  refine Wd.q rfl rfl rfl (Qk.at rfl rfl ar29 sl29 (hb.old (by assumption)) (by constructor <;> omega)) ?_
  refine Wd.r rfl rfl rfl (Rk.eqv (u := .int .i64 (asgOf b i : Nat)) (Rk.intR rfl sh3 (hb.old (by assumption)) (i := i) (by omega)) (by rw [hni])) rfl ?_
  refine Wd.q rfl rfl rfl (Qk.at rfl rfl ar29 sl29 hrwi (by constructor <;> omega)) ?_
  refine Wd.r rfl rfl rfl (Rk.intR rfl sh3 hrwi (i := (asgOf b i)) (by omega)) rfl ?_
  refine Wd.q rfl rfl rfl (Qk.build rfl build41) ?_
  refine Wd.f rfl rfl rfl (Fk.alloc ze41) ?_
  refine Wd.h rfl rfl rfl (Hk.whole rfl rfl sh41 (by first | assumption | repeat (first | exact gnew | exact gsetn gnew | assumption | exact gsetn (by assumption) | exact gsetn (gset (by assumption) (by omega)) | refine gpush ?_ | refine gset ?_ (by first | omega | (simp; omega)) )) rfl rfl (by first | rfl | (show (true && (Abs.scalar _ && true)) = true; rw [Bool.true_and, Bool.and_true]; assumption))) rfl rfl ?_
  refine Wd.next ?_
  refine Wc.store fun s5 e5 => ?_
  simp only [Nat.zero_add, Nat.reduceAdd] at e5 ⊢
  have ho7 : Old t1 s5 := by subst e5; exact (ho6.gset (by omega)).gset (by omega)
  have hg2 : s5.get s.size = some ⟨[.slice av M.length capv, .int .i64 rent], .rw⟩ := by subst e5; exact gset (gset hg2 (by omega)) (by omega)
  have hg4 : s5.get (s.size + 1) = some ⟨[.int .i64 0, .int .i64 0], .rw⟩ := by subst e5; exact gset (gset hg4 (by omega)) (by omega)
  have hg5 : s5.get (s.size + 2) = some ⟨[.int .i64 0, .int .i64 0], .rw⟩ := by subst e5; exact gset (gset hg5 (by omega)) (by omega)
  have hg9 : s5.get (t1.size + 10) = some ⟨[.int .i64 p1, .int .i64 (q1 : Nat)], .rw⟩ := by subst e5; exact gset (gset hg9 (by omega)) (by omega)
  have hg10 : s5.get (t1.size + 11) = some ⟨[.int .i64 p2, .int .i64 (q2 : Nat)], .rw⟩ := by subst e5; exact gset (gset hg10 (by omega)) (by omega)
  have hg12 : s5.get (s3.size + 12) = some ⟨[.int .i64 ((rowM M i).getD (asgOf b i) 0), .int .i64 ((1 : Nat) : Int)], .rw⟩ := by subst e5; exact gsetn (gsetn hg12)
  clear e5
  have hv1 : Rt ((rowM M i).getD (asgOf b i) 0) 1 := ⟨by omega, by decide, Nat.gcd_one_right _⟩
  refine Wc.assoc ?_
  refine Wc.region ?_
  refine Wk.r rfl rfl rfl (Rk.cells rfl sh41 (by first | assumption | repeat (first | exact gnew | exact gsetn gnew | assumption | exact gsetn (by assumption) | exact gsetn (gset (by assumption) (by omega)) | refine gpush ?_ | refine gset ?_ (by first | omega | (simp; omega)) )) (by simp) (by simp)) ?_
  refine Wk.r rfl rfl rfl (Rk.cells rfl sh41 (by first | assumption | repeat (first | exact gnew | exact gsetn gnew | assumption | exact gsetn (by assumption) | exact gsetn (gset (by assumption) (by omega)) | refine gpush ?_ | refine gset ?_ (by first | omega | (simp; omega)) )) (by simp) (by simp)) ?_
  refine Wk.c rfl rfl rfl (Ck.call rfl rfl) ((c34 hK hv1 (by omega) hq2).mono ?_)
  rintro r t3 ⟨rfl, ho8⟩
  have hg4 := ho8.get hg4
  have hg5 := ho8.get hg5
  have hg9 := ho8.get hg9
  have hg12 := ho8.get hg12
  have ho8 := ho7.trans ho8
  refine Wk.q rfl rfl rfl (Qk.move rfl) ?_
  refine Wk.q rfl rfl rfl (Qk.extract rfl rfl) ?_
  refine Wk.q rfl rfl rfl (Qk.extract rfl rfl) ?_
  refine Wk.h rfl rfl rfl (Hk.whole rfl rfl sh41 (by first | assumption | repeat (first | exact gnew | exact gsetn gnew | assumption | exact gsetn (by assumption) | exact gsetn (gset (by assumption) (by omega)) | refine gpush ?_ | refine gset ?_ (by first | omega | (simp; omega)) )) rfl rfl (by first | rfl | (show (true && (Abs.scalar _ && true)) = true; rw [Bool.true_and, Bool.and_true]; assumption))) ?_
  refine Wk.next ?_
  refine Wc.store fun s6 e6 => ?_
  have ho9 : Old s s6 := by subst e6; exact (ho2.trans ho8).gset (by omega)
  have hg4 : s6.get (s.size + 1) = some ⟨[.int .i64 ((rowM M i).getD (asgOf b i) 0 * (q2 : Int) + -p2), .int .i64 (q2 : Nat)], .rw⟩ := by subst e6; exact gsetn hg4
  have hg5 : s6.get (s.size + 2) = some ⟨[.int .i64 0, .int .i64 0], .rw⟩ := by subst e6; exact gset hg5 (by omega)
  have hg9 : s6.get (t1.size + 10) = some ⟨[.int .i64 p1, .int .i64 (q1 : Nat)], .rw⟩ := by subst e6; exact gset hg9 (by omega)
  have hg12 : s6.get (s3.size + 12) = some ⟨[.int .i64 ((rowM M i).getD (asgOf b i) 0), .int .i64 ((1 : Nat) : Int)], .rw⟩ := by subst e6; exact gset hg12 (by omega)
  clear e6
  refine Wc.assoc ?_
  refine Wc.region ?_
  refine Wk.r rfl rfl rfl (Rk.cells rfl sh41 (by first | assumption | repeat (first | exact gnew | exact gsetn gnew | assumption | exact gsetn (by assumption) | exact gsetn (gset (by assumption) (by omega)) | refine gpush ?_ | refine gset ?_ (by first | omega | (simp; omega)) )) (by simp) (by simp)) ?_
  refine Wk.r rfl rfl rfl (Rk.cells rfl sh41 (by first | assumption | repeat (first | exact gnew | exact gsetn gnew | assumption | exact gsetn (by assumption) | exact gsetn (gset (by assumption) (by omega)) | refine gpush ?_ | refine gset ?_ (by first | omega | (simp; omega)) )) (by simp) (by simp)) ?_
  refine Wk.c rfl rfl rfl (Ck.call rfl rfl) ((c34 hK hv1 (by omega) hq1).mono ?_)
  rintro r t4 ⟨rfl, ho10⟩
  have hg4 := ho10.get hg4
  have hg5 := ho10.get hg5
  have ho10 := ho9.trans ho10
  refine Wk.q rfl rfl rfl (Qk.move rfl) ?_
  refine Wk.q rfl rfl rfl (Qk.extract rfl rfl) ?_
  refine Wk.q rfl rfl rfl (Qk.extract rfl rfl) ?_
  refine Wk.h rfl rfl rfl (Hk.whole rfl rfl sh41 (by first | assumption | repeat (first | exact gnew | exact gsetn gnew | assumption | exact gsetn (by assumption) | exact gsetn (gset (by assumption) (by omega)) | refine gpush ?_ | refine gset ?_ (by first | omega | (simp; omega)) )) rfl rfl (by first | rfl | (show (true && (Abs.scalar _ && true)) = true; rw [Bool.true_and, Bool.and_true]; assumption))) ?_
  refine Wk.next ?_
  refine Wc.store fun s7 e7 => ?_
  have ho11 : Old s s7 := by subst e7; exact ho10.gset (by omega)
  have hg4 : s7.get (s.size + 1) = some ⟨[.int .i64 ((rowM M i).getD (asgOf b i) 0 * (q2 : Int) + -p2), .int .i64 (q2 : Nat)], .rw⟩ := by subst e7; exact gset hg4 (by omega)
  have hg5 : s7.get (s.size + 2) = some ⟨[.int .i64 ((rowM M i).getD (asgOf b i) 0 * (q1 : Int) + -p1), .int .i64 (q1 : Nat)], .rw⟩ := by subst e7; exact gsetn hg5
  clear e7
  refine Wc.assoc ?_
  refine Wc.drawE0 rfl ?_
  refine We.cells rfl rfl rfl rfl rfl sh41 (by first | assumption | repeat (first | exact gnew | exact gsetn gnew | assumption | exact gsetn (by assumption) | exact gsetn (gset (by assumption) (by omega)) | refine gpush ?_ | refine gset ?_ (by first | omega | (simp; omega)) )) (by simp) (by simp) (by first | assumption | simp [sames, same, ssame]) (by repeat' (first | exact trivial | exact Or.inl rfl | apply And.intro | (refine Or.inr ?_; assumption) | (refine Or.inr ?_; exact gset (by assumption) (by omega)) | (refine Or.inr ⟨_, _, (by first | assumption | repeat (first | exact gnew | exact gsetn gnew | assumption | exact gsetn (by assumption) | exact gsetn (gset (by assumption) (by omega)) | refine gpush ?_ | refine gset ?_ (by first | omega | (simp; omega)) )), (by simp), rfl⟩))) ?_
  refine We.cells rfl rfl rfl rfl rfl sh41 (by first | assumption | repeat (first | exact gnew | exact gsetn gnew | assumption | exact gsetn (by assumption) | exact gsetn (gset (by assumption) (by omega)) | refine gpush ?_ | refine gset ?_ (by first | omega | (simp; omega)) )) (by simp) (by simp) (by first | assumption | simp [sames, same, ssame]) (by repeat' (first | exact trivial | exact Or.inl rfl | apply And.intro | (refine Or.inr ?_; assumption) | (refine Or.inr ?_; exact gset (by assumption) (by omega)) | (refine Or.inr ⟨_, _, (by first | assumption | repeat (first | exact gnew | exact gsetn gnew | assumption | exact gsetn (by assumption) | exact gsetn (gset (by assumption) (by omega)) | refine gpush ?_ | refine gset ?_ (by first | omega | (simp; omega)) )), (by simp), rfl⟩))) ?_
  refine We.h rfl rfl rfl (Hk.whole rfl rfl sh41 (by first | assumption | repeat (first | exact gnew | exact gsetn gnew | assumption | exact gsetn (by assumption) | exact gsetn (gset (by assumption) (by omega)) | refine gpush ?_ | refine gset ?_ (by first | omega | (simp; omega)) )) rfl rfl (by first | rfl | (show (true && (Abs.scalar _ && true)) = true; rw [Bool.true_and, Bool.and_true]; assumption))) (by repeat' (first | exact trivial | exact Or.inl rfl | apply And.intro | (refine Or.inr ?_; assumption) | (refine Or.inr ?_; exact gset (by assumption) (by omega)) | (refine Or.inr ⟨_, _, (by first | assumption | repeat (first | exact gnew | exact gsetn gnew | assumption | exact gsetn (by assumption) | exact gsetn (gset (by assumption) (by omega)) | refine gpush ?_ | refine gset ?_ (by first | omega | (simp; omega)) )), (by simp), rfl⟩))) (by repeat' (first | exact trivial | exact Or.inl rfl | apply And.intro | (refine Or.inr ?_; assumption) | (refine Or.inr ?_; exact gset (by assumption) (by omega)) | (refine Or.inr ⟨_, _, (by first | assumption | repeat (first | exact gnew | exact gsetn gnew | assumption | exact gsetn (by assumption) | exact gsetn (gset (by assumption) (by omega)) | refine gpush ?_ | refine gset ?_ (by first | omega | (simp; omega)) )), (by simp), rfl⟩))) ?_
  refine We.h rfl rfl rfl (Hk.whole rfl rfl sh41 (by first | assumption | repeat (first | exact gnew | exact gsetn gnew | assumption | exact gsetn (by assumption) | exact gsetn (gset (by assumption) (by omega)) | refine gpush ?_ | refine gset ?_ (by first | omega | (simp; omega)) )) rfl rfl (by first | rfl | (show (true && (Abs.scalar _ && true)) = true; rw [Bool.true_and, Bool.and_true]; assumption))) (by repeat' (first | exact trivial | exact Or.inl rfl | apply And.intro | (refine Or.inr ?_; assumption) | (refine Or.inr ?_; exact gset (by assumption) (by omega)) | (refine Or.inr ⟨_, _, (by first | assumption | repeat (first | exact gnew | exact gsetn gnew | assumption | exact gsetn (by assumption) | exact gsetn (gset (by assumption) (by omega)) | refine gpush ?_ | refine gset ?_ (by first | omega | (simp; omega)) )), (by simp), rfl⟩))) (by repeat' (first | exact trivial | exact Or.inl rfl | apply And.intro | (refine Or.inr ?_; assumption) | (refine Or.inr ?_; exact gset (by assumption) (by omega)) | (refine Or.inr ⟨_, _, (by first | assumption | repeat (first | exact gnew | exact gsetn gnew | assumption | exact gsetn (by assumption) | exact gsetn (gset (by assumption) (by omega)) | refine gpush ?_ | refine gset ?_ (by first | omega | (simp; omega)) )), (by simp), rfl⟩))) ?_
  refine We.q rfl rfl rfl (Qk.assign rfl) ?_
  refine We.next ?_
  refine Wc.store fun s8 e8 => ?_
  have ho12 : Old s s8 := by subst e8; exact (ho11.gset (by omega)).gset (by omega)
  have hg4 : s8.get (s.size + 1) = some ⟨[.int .i64 ((rowM M i).getD (asgOf b i) 0 * (q2 : Int) + -p2), .int .i64 (q2 : Nat)], .rw⟩ := by subst e8; exact gset (gsetn hg4) (by omega)
  have hg5 : s8.get (s.size + 2) = some ⟨[.int .i64 ((rowM M i).getD (asgOf b i) 0 * (q1 : Int) + -p1), .int .i64 (q1 : Nat)], .rw⟩ := by subst e8; exact gsetn (gset hg5 (by omega))
  clear e8
  refine Wc.doneC (fun _ _ => rfl) (ares_cell rfl (alW sh41 (by first | assumption | repeat (first | exact gnew | exact gsetn gnew | assumption | exact gsetn (by assumption) | exact gsetn (gset (by assumption) (by omega)) | refine gpush ?_ | refine gset ?_ (by first | omega | (simp; omega)) )) (by simp) rfl) (ares_cell rfl (alW sh41 (by first | assumption | repeat (first | exact gnew | exact gsetn gnew | assumption | exact gsetn (by assumption) | exact gsetn (gset (by assumption) (by omega)) | refine gpush ?_ | refine gset ?_ (by first | omega | (simp; omega)) )) (by simp) rfl) (ares_tmp rfl ares_nil))) ?_
  refine ⟨b, hA, hO, ?_, hHO, ho12⟩
  rw [show rat (matM M i (asgOf b i) * M.length - highOf M rent (asgOf b i)) M.length = _ from hs2 ((rowM M i).getD (asgOf b i) 0), show rat (matM M i (asgOf b i) * M.length - lowOf M rent (asgOf b i)) M.length = _ from hs1 ((rowM M i).getD (asgOf b i) 0)]
  rfl
end Go.Proofs.Ytfgnjndicidpkaa
