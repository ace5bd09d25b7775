/- Ratios: checked, added, subtracted. -/
import Derived.Test.YtfgnjndicidpkaaSN
namespace Go.Proofs.Ytfgnjndicidpkaa
open Go.Abs Go.IntWalk
variable {K : Known}

/-- A ratio in lowest terms, its parts small. -/
structure Rt (p : Int) (q : Nat) : Prop where
  num : -1000000000 ≤ p ∧ p ≤ 1000000000
  den : 1 ≤ q ∧ q ≤ 1000
  gcd : Nat.gcd p.natAbs q = 1
theorem i64_u64 {a : Int} (h : 0 ≤ a ∧ a ≤ 18446744073709551615) : IntKind.u64.wrap a = a := u64_in _ h
theorem zeros2 : ∀ i, i < ([0, 0] : List Int).length → ([0, 0] : List Int).getD i 0 = 0 := fun i hi => by
  have : i = 0 ∨ i = 1 := by simp at hi; omega
  rcases this with rfl | rfl <;> rfl
theorem bs117 : abuildSlice Try.prog 117 2 [(0, .int .i64 0), (1, .int .i64 0)] = some ([.int .i64 0, .int .i64 0], fun b => .slice (some ⟨b, 0, none⟩) 2 2) := by
  simp [abuildSlice, sl117, ze33, afill, copies, splice, Value.cells, isVal]
set_option maxRecDepth 100000 in
theorem c66 (hK : Late K) {v : Value} {l : List Int} {s : St} (hv : IRow s v l) (hl : l.length ≤ 1000) (h0 : ∀ i, i < l.length → l.getD i 0 = 0) : Ev Try.prog K (.func (.func 66) #[] #[]) [v] s fun r s' => r = .int .i64 0 ∧ s' = s := by
  refine Ev.enterK (hK.none (by decide) _) Try.func66 rfl rfl (Nat.le_of_ble_eq_true rfl) ?_
  refine Wc.tail ?_
  refine Wc.assoc ?_
  refine Wc.region ?_
  refine Wk.q rfl rfl rfl (Qk.assign rfl) ?_
  refine Wk.next ?_
  refine Wc.assoc ?_
  refine Wc.region ?_
  refine Wk.q rfl rfl rfl (Qk.assign rfl) ?_
  refine Wk.next ?_
  refine Wc.assoc ?_
  refine Wc.assoc ?_
  refine Wc.region ?_
  refine Wk.q rfl rfl rfl (Qk.move rfl) ?_
  refine Wk.q rfl rfl rfl (Qk.lenR rfl rfl rfl hv sl117) ?_
  refine Wk.q rfl rfl rfl (Qk.move rfl) ?_
  refine Wk.next ?_
  refine Wc.block ?_
  refine Wc.loop (σ := Nat) (fun i => i ≤ l.length) (fun i => [(0, v), (3, .int .i64 0), (6, v), (7, goInt l.length), (8, .int .i64 i)]) (fun _ => s) (fun i => l.length - i) 0 (Nat.zero_le _) ⟨rfl, rfl, rfl, rfl, rfl, trivial⟩ rfl ?_
  rintro i hi
  refine Wc.assoc ?_
  refine Wc.region ?_
  refine Wk.b rfl rfl rfl (Qk.bin rfl rfl rfl) fun b h9 => ?_
  cases b
  · -- t9 = False
    refine Wk.next ?_
    refine Wc.assoc ?_
    refine Wc.condF rfl ?_
    refine Wc.jump (fun _ _ => rfl) ?_
    refine Wc.assoc ?_
    refine Wc.region ?_
    refine Wk.q rfl rfl rfl (Qk.move rfl) ?_
    refine Wk.q rfl rfl rfl (Qk.assign rfl) ?_
    refine Wk.next ?_
    refine Wc.done'' (fun _ _ => rfl) rfl ?_
    exact ⟨rfl, rfl⟩
  · -- t9 = True
    have hlt : i < l.length := by
      have : (i : Int) < (l.length : Int) := of_decide_eq_true h9
      omega
    refine Wk.next ?_
    refine Wc.assoc ?_
    refine Wc.condT rfl ?_
    refine Wc.skip ?_
    refine Wc.assoc ?_
    refine Wc.block ?_
    refine Wc.assoc ?_
    refine Wc.region ?_
    refine Wk.q rfl rfl rfl (Qk.at rfl rfl ar117 sl117 hv (by constructor <;> omega)) ?_
    refine Wk.r rfl rfl rfl (Rk.atS rfl sh33 hv (i := i) (by omega) rfl) ?_
    refine Wk.q rfl rfl rfl (Qk.assign rfl) ?_
    refine Wk.next ?_
    refine Wc.assoc ?_
    refine Wc.region ?_
    refine Wk.q rfl rfl rfl (Qk.move rfl) ?_
    refine Wk.q rfl rfl rfl (Qk.move rfl) ?_
    refine Wk.b rfl rfl rfl (Qk.bin rfl rfl rfl) fun b h14 => ?_
    cases b
    · -- t14 = False
      refine Wk.next ?_
      refine Wc.condF rfl ?_
      refine Wc.skip ?_
      refine Wc.thence (fun _ _ => rfl) ?_
      refine Wc.region ?_
      refine Wk.q rfl rfl rfl (Qk.add rfl rfl (by omega)) ?_
      refine Wk.q rfl rfl rfl (Qk.move rfl) ?_
      refine Wk.next ?_
      refine Wc.finish fun fr hf => ?_
      exact ⟨i + 1, hlt, by omega, rfl, hf.less ⟨rfl, rfl, rfl, rfl, rfl, trivial⟩⟩
    · -- t14 = True
      have e0 := h0 i hlt
      rw [e0] at h14
      refine Wk.next ?_
      refine Wc.condT rfl ?_
      refine Wc.assoc ?_
      refine Wc.region ?_
      refine Wk.q rfl rfl rfl (Qk.move rfl) ?_
      refine Wk.q rfl rfl rfl (Qk.assign rfl) ?_
      refine Wk.next ?_
      refine Wc.done'' (fun _ _ => rfl) rfl ?_
      cases h14
set_option maxRecDepth 100000 in
theorem c67 (hK : Late K) {p : Int} {q : Nat} {s : St} (hq : Rt p q) : Ev Try.prog K (.func (.func 67) #[] #[]) [.agg #[.int .i64 p, .int .i64 (q : Nat)]] s fun r s' => r = .int .i64 0 ∧ Old s s' := by
  have h1 := hq.num
  have h2 := hq.den
  refine Ev.enterK (hK.none (by decide) _) Try.func67 rfl rfl (Nat.le_of_ble_eq_true rfl) ?_
  refine Wc.tail ?_
  refine Wc.assoc ?_
  refine Wc.region ?_
  refine Wk.f rfl rfl rfl (Fk.box rfl rfl) ?_
  refine Wk.q rfl rfl rfl (Qk.assign rfl) ?_
  refine Wk.next ?_
  refine Wc.store fun s1 e1 => ?_
  have ho1 : Old s s1 := by subst e1; exact Old.push _ _
  have hg1 : s1.get s.size = some ⟨[.int .i64 p, .int .i64 (q : Nat)], .rw⟩ := by subst e1; exact gnew
  refine Wc.assoc ?_
  refine Wc.assoc ?_
  refine Wc.drawE0 rfl ?_
  refine We.q rfl rfl rfl (Qk.fa rfl fd41_1) ?_
  refine We.cell rfl rfl rfl rfl rfl sh2 (by first | assumption | repeat (first | exact gnew | exact gsetn gnew | assumption | exact gsetn (by assumption) | refine gpush ?_ | refine gset ?_ (by first | omega | (simp; omega)) )) (by simp) rfl (by first | assumption | simp [same, ssame]) (by repeat' (first | exact trivial | exact Or.inl rfl | apply And.intro | (refine Or.inr ?_; assumption) | (refine Or.inr ?_; exact gset (by assumption) (by omega)) | (refine Or.inr ⟨_, _, (by first | assumption | repeat (first | exact gnew | exact gsetn gnew | assumption | exact gsetn (by assumption) | refine gpush ?_ | refine gset ?_ (by first | omega | (simp; omega)) )), (by simp), rfl⟩))) ?_
  refine We.b rfl rfl rfl (Qk.bin rfl rfl rfl) fun b h5 => ?_
  obtain rfl : b = false := by rw [← h5, decide_eq_false_iff_not]; omega -- t5
  refine We.q rfl rfl rfl (Qk.move rfl) ?_
  refine We.q rfl rfl rfl (Qk.fa rfl fd41_0) ?_
  refine We.cell rfl rfl rfl rfl rfl sh2 (by first | assumption | repeat (first | exact gnew | exact gsetn gnew | assumption | exact gsetn (by assumption) | refine gpush ?_ | refine gset ?_ (by first | omega | (simp; omega)) )) (by simp) rfl (by first | assumption | simp [same, ssame]) (by repeat' (first | exact trivial | exact Or.inl rfl | apply And.intro | (refine Or.inr ?_; assumption) | (refine Or.inr ?_; exact gset (by assumption) (by omega)) | (refine Or.inr ⟨_, _, (by first | assumption | repeat (first | exact gnew | exact gsetn gnew | assumption | exact gsetn (by assumption) | refine gpush ?_ | refine gset ?_ (by first | omega | (simp; omega)) )), (by simp), rfl⟩))) ?_
  refine We.c rfl rfl rfl (Ck.call rfl rfl) (by repeat' (first | exact trivial | exact Or.inl rfl | apply And.intro | (refine Or.inr ?_; assumption) | (refine Or.inr ?_; exact gset (by assumption) (by omega)) | (refine Or.inr ⟨_, _, (by first | assumption | repeat (first | exact gnew | exact gsetn gnew | assumption | exact gsetn (by assumption) | refine gpush ?_ | refine gset ?_ (by first | omega | (simp; omega)) )), (by simp), rfl⟩))) ((c44 hK (by omega)).mono ?_)
  rintro r t ⟨rfl, rfl⟩
  refine ⟨(by repeat' (first | exact trivial | exact Or.inl rfl | apply And.intro | (refine Or.inr ?_; assumption) | (refine Or.inr ?_; exact gset (by assumption) (by omega)) | (refine Or.inr ⟨_, _, (by first | assumption | repeat (first | exact gnew | exact gsetn gnew | assumption | exact gsetn (by assumption) | refine gpush ?_ | refine gset ?_ (by first | omega | (simp; omega)) )), (by simp), rfl⟩))), ?_⟩
  refine We.q rfl rfl rfl (Qk.fa rfl fd41_1) ?_
  refine We.cell rfl rfl rfl rfl rfl sh2 (by first | assumption | repeat (first | exact gnew | exact gsetn gnew | assumption | exact gsetn (by assumption) | refine gpush ?_ | refine gset ?_ (by first | omega | (simp; omega)) )) (by simp) rfl (by first | assumption | simp [same, ssame]) (by repeat' (first | exact trivial | exact Or.inl rfl | apply And.intro | (refine Or.inr ?_; assumption) | (refine Or.inr ?_; exact gset (by assumption) (by omega)) | (refine Or.inr ⟨_, _, (by first | assumption | repeat (first | exact gnew | exact gsetn gnew | assumption | exact gsetn (by assumption) | refine gpush ?_ | refine gset ?_ (by first | omega | (simp; omega)) )), (by simp), rfl⟩))) ?_
  refine We.q rfl rfl rfl (Qk.cvt rfl und2 und87 (i64_u64 (by omega))) ?_
  refine We.q rfl rfl rfl (Qk.max2 rfl rfl rfl) ?_
  refine We.b rfl rfl rfl (Qk.bin rfl rfl rfl) fun b h14 => ?_
  obtain rfl : b = false := by rw [← h14, decide_eq_false_iff_not]; split <;> omega -- t14
  refine We.q rfl rfl rfl (Qk.pickF rfl rfl) ?_
  refine We.q rfl rfl rfl (Qk.move rfl) ?_
  refine We.q rfl rfl rfl (Qk.fa rfl fd41_0) ?_
  refine We.cell rfl rfl rfl rfl rfl sh2 (by first | assumption | repeat (first | exact gnew | exact gsetn gnew | assumption | exact gsetn (by assumption) | refine gpush ?_ | refine gset ?_ (by first | omega | (simp; omega)) )) (by simp) rfl (by first | assumption | simp [same, ssame]) (by repeat' (first | exact trivial | exact Or.inl rfl | apply And.intro | (refine Or.inr ?_; assumption) | (refine Or.inr ?_; exact gset (by assumption) (by omega)) | (refine Or.inr ⟨_, _, (by first | assumption | repeat (first | exact gnew | exact gsetn gnew | assumption | exact gsetn (by assumption) | refine gpush ?_ | refine gset ?_ (by first | omega | (simp; omega)) )), (by simp), rfl⟩))) ?_
  refine We.c rfl rfl rfl (Ck.call rfl rfl) (by repeat' (first | exact trivial | exact Or.inl rfl | apply And.intro | (refine Or.inr ?_; assumption) | (refine Or.inr ?_; exact gset (by assumption) (by omega)) | (refine Or.inr ⟨_, _, (by first | assumption | repeat (first | exact gnew | exact gsetn gnew | assumption | exact gsetn (by assumption) | refine gpush ?_ | refine gset ?_ (by first | omega | (simp; omega)) )), (by simp), rfl⟩))) ((c44 hK (by omega)).mono ?_)
  rintro r2 t2 ⟨rfl, rfl⟩
  refine ⟨(by repeat' (first | exact trivial | exact Or.inl rfl | apply And.intro | (refine Or.inr ?_; assumption) | (refine Or.inr ?_; exact gset (by assumption) (by omega)) | (refine Or.inr ⟨_, _, (by first | assumption | repeat (first | exact gnew | exact gsetn gnew | assumption | exact gsetn (by assumption) | refine gpush ?_ | refine gset ?_ (by first | omega | (simp; omega)) )), (by simp), rfl⟩))), ?_⟩
  refine We.q rfl rfl rfl (Qk.fa rfl fd41_1) ?_
  refine We.cell rfl rfl rfl rfl rfl sh2 (by first | assumption | repeat (first | exact gnew | exact gsetn gnew | assumption | exact gsetn (by assumption) | refine gpush ?_ | refine gset ?_ (by first | omega | (simp; omega)) )) (by simp) rfl (by first | assumption | simp [same, ssame]) (by repeat' (first | exact trivial | exact Or.inl rfl | apply And.intro | (refine Or.inr ?_; assumption) | (refine Or.inr ?_; exact gset (by assumption) (by omega)) | (refine Or.inr ⟨_, _, (by first | assumption | repeat (first | exact gnew | exact gsetn gnew | assumption | exact gsetn (by assumption) | refine gpush ?_ | refine gset ?_ (by first | omega | (simp; omega)) )), (by simp), rfl⟩))) ?_
  refine We.q rfl rfl rfl (Qk.cvt rfl und2 und87 (i64_u64 (by omega))) ?_
  refine We.c rfl rfl rfl (Ck.call rfl rfl) (by repeat' (first | exact trivial | exact Or.inl rfl | apply And.intro | (refine Or.inr ?_; assumption) | (refine Or.inr ?_; exact gset (by assumption) (by omega)) | (refine Or.inr ⟨_, _, (by first | assumption | repeat (first | exact gnew | exact gsetn gnew | assumption | exact gsetn (by assumption) | refine gpush ?_ | refine gset ?_ (by first | omega | (simp; omega)) )), (by simp), rfl⟩))) ((c45 hK (a := p.natAbs) (b := q) (by omega) (by omega)).mono ?_)
  rintro r3 t3 ⟨rfl, rfl⟩
  rw [hq.gcd]
  refine ⟨(by repeat' (first | exact trivial | exact Or.inl rfl | apply And.intro | (refine Or.inr ?_; assumption) | (refine Or.inr ?_; exact gset (by assumption) (by omega)) | (refine Or.inr ⟨_, _, (by first | assumption | repeat (first | exact gnew | exact gsetn gnew | assumption | exact gsetn (by assumption) | refine gpush ?_ | refine gset ?_ (by first | omega | (simp; omega)) )), (by simp), rfl⟩))), ?_⟩
  refine We.b rfl rfl rfl (Qk.bin rfl rfl rfl) fun b h24 => ?_
  obtain rfl : b = false := by exact h24.symm -- t24
  refine We.q rfl rfl rfl (Qk.pickF rfl rfl) ?_
  refine We.next ?_
  refine Wc.condF rfl ?_
  refine Wc.skip ?_
  refine Wc.assoc ?_
  refine Wc.region ?_
  refine Wk.q rfl rfl rfl (Qk.assign rfl) ?_
  refine Wk.next ?_
  refine Wc.done'' (fun _ _ => rfl) rfl ?_
  exact ⟨rfl, ho1⟩
set_option maxRecDepth 100000 in
theorem c56 (hK : Late K) {p p2 : Int} {q q2 : Nat} {s : St} (hq : Rt p q) (hq2 : Rt p2 q2) : Ev Try.prog K (.func (.func 56) #[] #[]) [.agg #[.int .i64 p, .int .i64 (q : Nat)], .agg #[.int .i64 p2, .int .i64 (q2 : Nat)]] s fun r s' => r = .int .i64 0 ∧ Old s s' := by
  refine Ev.enterK (hK.none (by decide) _) Try.func56 rfl rfl (Nat.le_of_ble_eq_true rfl) ?_
  refine Wc.tail ?_
  refine Wc.assoc ?_
  refine Wc.region ?_
  refine Wk.f rfl rfl rfl (Fk.box rfl rfl) ?_
  refine Wk.f rfl rfl rfl (Fk.box rfl rfl) ?_
  refine Wk.q rfl rfl rfl (Qk.assign rfl) ?_
  refine Wk.next ?_
  refine Wc.store fun s1 e1 => ?_
  have ho1 : Old s s1 := by subst e1; exact (Old.push _ _).gpush _
  have hg1 : s1.get s.size = some ⟨[.int .i64 p, .int .i64 (q : Nat)], .rw⟩ := by subst e1; exact gpush gnew
  have hg2 : s1.get (s.size + 1) = some ⟨[.int .i64 p2, .int .i64 (q2 : Nat)], .rw⟩ := by subst e1; exact g1
  have hpz : ∀ a : Blk, (s.push a).size = s.size + 1 := fun a => by simp
  rw [hpz]
  clear e1
  refine Wc.assoc ?_
  refine Wc.drawE ?_
  refine We.store' fun s2 e2 => ?_
  have ho2 : Old s1 s2 := by subst e2; exact Old.reserve _ _
  have hg1 := ho2.get hg1
  have hg2 := ho2.get hg2
  have hd : s2.get (s1.size + 4) = some ⟨[], .dead⟩ := by subst e2; exact gnone (by decide)
  clear e2
  refine We.cells rfl rfl rfl rfl rfl sh41 (by first | assumption | repeat (first | exact gnew | exact gsetn gnew | assumption | exact gsetn (by assumption) | refine gpush ?_ | refine gset ?_ (by first | omega | (simp; omega)) )) (by simp) (by simp) (by first | assumption | simp [sames, same, ssame]) (by repeat' (first | exact trivial | exact Or.inl rfl | apply And.intro | (refine Or.inr ?_; assumption) | (refine Or.inr ?_; exact gset (by assumption) (by omega)) | (refine Or.inr ⟨_, _, (by first | assumption | repeat (first | exact gnew | exact gsetn gnew | assumption | exact gsetn (by assumption) | refine gpush ?_ | refine gset ?_ (by first | omega | (simp; omega)) )), (by simp), rfl⟩))) ?_
  refine We.c rfl rfl rfl (Ck.call rfl rfl) (by repeat' (first | exact trivial | exact Or.inl rfl | apply And.intro | (refine Or.inr ?_; assumption) | (refine Or.inr ?_; exact gset (by assumption) (by omega)) | (refine Or.inr ⟨_, _, (by first | assumption | repeat (first | exact gnew | exact gsetn gnew | assumption | exact gsetn (by assumption) | refine gpush ?_ | refine gset ?_ (by first | omega | (simp; omega)) )), (by simp), rfl⟩))) ((c67 hK hq).mono ?_)
  rintro r t ⟨rfl, ho3⟩
  have hg2 := ho3.get hg2
  refine ⟨(by repeat' (first | exact trivial | exact Or.inl rfl | apply And.intro | (refine Or.inr ?_; assumption) | (refine Or.inr ?_; exact gset (by assumption) (by omega)) | (refine Or.inr ⟨_, _, (by first | assumption | repeat (first | exact gnew | exact gsetn gnew | assumption | exact gsetn (by assumption) | refine gpush ?_ | refine gset ?_ (by first | omega | (simp; omega)) )), (by simp), rfl⟩))), ?_⟩
  refine We.cells rfl rfl rfl rfl rfl sh41 (by first | assumption | repeat (first | exact gnew | exact gsetn gnew | assumption | exact gsetn (by assumption) | refine gpush ?_ | refine gset ?_ (by first | omega | (simp; omega)) )) (by simp) (by simp) (by first | assumption | simp [sames, same, ssame]) (by repeat' (first | exact trivial | exact Or.inl rfl | apply And.intro | (refine Or.inr ?_; assumption) | (refine Or.inr ?_; exact gset (by assumption) (by omega)) | (refine Or.inr ⟨_, _, (by first | assumption | repeat (first | exact gnew | exact gsetn gnew | assumption | exact gsetn (by assumption) | refine gpush ?_ | refine gset ?_ (by first | omega | (simp; omega)) )), (by simp), rfl⟩))) ?_
  refine We.c rfl rfl rfl (Ck.call rfl rfl) (by repeat' (first | exact trivial | exact Or.inl rfl | apply And.intro | (refine Or.inr ?_; assumption) | (refine Or.inr ?_; exact gset (by assumption) (by omega)) | (refine Or.inr ⟨_, _, (by first | assumption | repeat (first | exact gnew | exact gsetn gnew | assumption | exact gsetn (by assumption) | refine gpush ?_ | refine gset ?_ (by first | omega | (simp; omega)) )), (by simp), rfl⟩))) ((c67 hK hq2).mono ?_)
  rintro r2 t2 ⟨rfl, ho4⟩
  have hd := ho4.get (ho3.get hd)
  have ho5 := ho3.trans ho4
  refine ⟨(by repeat' (first | exact trivial | exact Or.inl rfl | apply And.intro | (refine Or.inr ?_; assumption) | (refine Or.inr ?_; exact gset (by assumption) (by omega)) | (refine Or.inr ⟨_, _, (by first | assumption | repeat (first | exact gnew | exact gsetn gnew | assumption | exact gsetn (by assumption) | refine gpush ?_ | refine gset ?_ (by first | omega | (simp; omega)) )), (by simp), rfl⟩))), ?_⟩
  refine We.f rfl rfl rfl (Fk.buildSlice rfl bs117) ?_
  have hrow : IRow (t2.set (s1.size + 4) ⟨[.int .i64 0, .int .i64 0], .rw⟩) (.slice (some ⟨s1.size + 4, 0, none⟩) 2 2) [0, 0] := IRow.of_get (l := [0, 0]) (gsetn hd) (by simp) (Nat.le_refl _)
  refine We.c rfl rfl rfl (Ck.call rfl rfl) (by repeat' (first | exact trivial | exact Or.inl rfl | apply And.intro | (refine Or.inr ?_; assumption) | (refine Or.inr ?_; exact gset (by assumption) (by omega)) | (refine Or.inr ⟨_, _, (by first | assumption | repeat (first | exact gnew | exact gsetn gnew | assumption | exact gsetn (by assumption) | refine gpush ?_ | refine gset ?_ (by first | omega | (simp; omega)) )), (by simp), rfl⟩))) ((c66 hK hrow (by simp) zeros2).mono ?_)
  rintro r3 t3 ⟨rfl, rfl⟩
  refine ⟨(by repeat' (first | exact trivial | exact Or.inl rfl | apply And.intro | (refine Or.inr ?_; assumption) | (refine Or.inr ?_; exact gset (by assumption) (by omega)) | (refine Or.inr ⟨_, _, (by first | assumption | repeat (first | exact gnew | exact gsetn gnew | assumption | exact gsetn (by assumption) | refine gpush ?_ | refine gset ?_ (by first | omega | (simp; omega)) )), (by simp), rfl⟩))), ?_⟩
  refine We.q rfl rfl rfl (Qk.assign rfl) ?_
  refine We.next ?_
  refine Wc.store fun s3 e3 => ?_
  refine Wc.done'' (fun _ _ => rfl) rfl ?_
  subst e3
  exact ⟨rfl, (ho1.trans (ho2.trans ho5)).gset (by have := ho1.1; omega)⟩
set_option maxRecDepth 100000 in
theorem c68 (hK : Late K) {x y : Nat} {s : St} (hx : x < 4294967296) (hy : y < 4294967296) (hxy : 0 ≤ (x : Int) * (y : Int) ∧ (x : Int) * (y : Int) < 4294967296) : Ev Try.prog K (.func (.func 68) #[] #[]) [.int .u64 (x : Nat), .int .u64 (y : Nat)] s fun r s' => r = .tuple #[.int .u64 0, .int .u64 ((x : Int) * (y : Int))] ∧ s' = s := by
  refine Ev.enterK (hK.none (by decide) _) Try.func68 rfl rfl (Nat.le_of_ble_eq_true rfl) ?_
  refine Wc.tail ?_
  refine Wc.assoc ?_
  refine Wc.region ?_
  refine Wk.q rfl rfl rfl (Qk.assign rfl) ?_
  refine Wk.q rfl rfl rfl (Qk.assign rfl) ?_
  refine Wk.next ?_
  refine Wc.assoc ?_
  refine Wc.region ?_
  refine Wk.q rfl rfl rfl (Qk.move rfl) ?_
  refine Wk.q rfl rfl rfl (Qk.eqv (u := .int .u64 x) (Qk.andU (m := 32) rfl rfl rfl (by decide) (by omega)) (by first | (congr 1; done) | (congr 1; omega))) ?_
  refine Wk.q rfl rfl rfl (Qk.assign rfl) ?_
  refine Wk.next ?_
  refine Wc.assoc ?_
  refine Wc.region ?_
  refine Wk.q rfl rfl rfl (Qk.move rfl) ?_
  refine Wk.q rfl rfl rfl (Qk.eqv (u := .int .u64 0) (Qk.shrU (m := 32) rfl rfl (by decide)) (by first | (congr 1; done) | (congr 1; omega))) ?_
  refine Wk.q rfl rfl rfl (Qk.assign rfl) ?_
  refine Wk.next ?_
  refine Wc.assoc ?_
  refine Wc.region ?_
  refine Wk.q rfl rfl rfl (Qk.move rfl) ?_
  refine Wk.q rfl rfl rfl (Qk.eqv (u := .int .u64 y) (Qk.andU (m := 32) rfl rfl rfl (by decide) (by omega)) (by first | (congr 1; done) | (congr 1; omega))) ?_
  refine Wk.q rfl rfl rfl (Qk.assign rfl) ?_
  refine Wk.next ?_
  refine Wc.assoc ?_
  refine Wc.region ?_
  refine Wk.q rfl rfl rfl (Qk.move rfl) ?_
  refine Wk.q rfl rfl rfl (Qk.eqv (u := .int .u64 0) (Qk.shrU (m := 32) rfl rfl (by decide)) (by first | (congr 1; done) | (congr 1; omega))) ?_
  refine Wk.q rfl rfl rfl (Qk.assign rfl) ?_
  refine Wk.next ?_
  refine Wc.assoc ?_
  refine Wc.region ?_
  refine Wk.q rfl rfl rfl (Qk.move rfl) ?_
  refine Wk.q rfl rfl rfl (Qk.move rfl) ?_
  refine Wk.q rfl rfl rfl (Qk.mulU rfl rfl (by omega)) ?_
  refine Wk.q rfl rfl rfl (Qk.assign rfl) ?_
  refine Wk.next ?_
  refine Wc.assoc ?_
  refine Wc.region ?_
  refine Wk.q rfl rfl rfl (Qk.move rfl) ?_
  refine Wk.q rfl rfl rfl (Qk.move rfl) ?_
  refine Wk.q rfl rfl rfl (Qk.eqv (u := .int .u64 0) (Qk.mulU rfl rfl (by omega)) (by first | (congr 1; done) | (congr 1; omega))) ?_
  refine Wk.q rfl rfl rfl (Qk.move rfl) ?_
  refine Wk.q rfl rfl rfl (Qk.eqv (u := .int .u64 0) (Qk.shrU (m := 32) rfl rfl (by decide)) (by first | (congr 1; done) | (congr 1; omega))) ?_
  refine Wk.q rfl rfl rfl (Qk.eqv (u := .int .u64 0) (Qk.addU rfl rfl (by omega)) (by first | (congr 1; done) | (congr 1; omega))) ?_
  refine Wk.q rfl rfl rfl (Qk.assign rfl) ?_
  refine Wk.next ?_
  refine Wc.assoc ?_
  refine Wc.region ?_
  refine Wk.q rfl rfl rfl (Qk.move rfl) ?_
  refine Wk.q rfl rfl rfl (Qk.eqv (u := .int .u64 0) (Qk.andU (m := 32) rfl rfl rfl (by decide) (by omega)) (by first | (congr 1; done) | (congr 1; omega))) ?_
  refine Wk.q rfl rfl rfl (Qk.assign rfl) ?_
  refine Wk.next ?_
  refine Wc.assoc ?_
  refine Wc.region ?_
  refine Wk.q rfl rfl rfl (Qk.move rfl) ?_
  refine Wk.q rfl rfl rfl (Qk.eqv (u := .int .u64 0) (Qk.shrU (m := 32) rfl rfl (by decide)) (by first | (congr 1; done) | (congr 1; omega))) ?_
  refine Wk.q rfl rfl rfl (Qk.assign rfl) ?_
  refine Wk.next ?_
  refine Wc.assoc ?_
  refine Wc.region ?_
  refine Wk.q rfl rfl rfl (Qk.move rfl) ?_
  refine Wk.q rfl rfl rfl (Qk.move rfl) ?_
  refine Wk.q rfl rfl rfl (Qk.move rfl) ?_
  refine Wk.q rfl rfl rfl (Qk.eqv (u := .int .u64 0) (Qk.mulU rfl rfl (by omega)) (by first | (congr 1; done) | (congr 1; omega))) ?_
  refine Wk.q rfl rfl rfl (Qk.eqv (u := .int .u64 0) (Qk.addU rfl rfl (by omega)) (by first | (congr 1; done) | (congr 1; omega))) ?_
  refine Wk.q rfl rfl rfl (Qk.assign rfl) ?_
  refine Wk.next ?_
  refine Wc.assoc ?_
  refine Wc.region ?_
  refine Wk.q rfl rfl rfl (Qk.move rfl) ?_
  refine Wk.q rfl rfl rfl (Qk.move rfl) ?_
  refine Wk.q rfl rfl rfl (Qk.eqv (u := .int .u64 0) (Qk.mulU rfl rfl (by omega)) (by first | (congr 1; done) | (congr 1; omega))) ?_
  refine Wk.q rfl rfl rfl (Qk.move rfl) ?_
  refine Wk.q rfl rfl rfl (Qk.eqv (u := .int .u64 0) (Qk.addU rfl rfl (by omega)) (by first | (congr 1; done) | (congr 1; omega))) ?_
  refine Wk.q rfl rfl rfl (Qk.move rfl) ?_
  refine Wk.q rfl rfl rfl (Qk.eqv (u := .int .u64 0) (Qk.shrU (m := 32) rfl rfl (by decide)) (by first | (congr 1; done) | (congr 1; omega))) ?_
  refine Wk.q rfl rfl rfl (Qk.eqv (u := .int .u64 0) (Qk.addU rfl rfl (by omega)) (by first | (congr 1; done) | (congr 1; omega))) ?_
  refine Wk.q rfl rfl rfl (Qk.assign rfl) ?_
  refine Wk.next ?_
  refine Wc.assoc ?_
  refine Wc.region ?_
  refine Wk.q rfl rfl rfl (Qk.move rfl) ?_
  refine Wk.q rfl rfl rfl (Qk.move rfl) ?_
  refine Wk.q rfl rfl rfl (Qk.mulU rfl rfl (by omega)) ?_
  refine Wk.q rfl rfl rfl (Qk.assign rfl) ?_
  refine Wk.next ?_
  refine Wc.done'' (fun _ _ => rfl) rfl ?_
  exact ⟨by simp [pack], rfl⟩
set_option maxRecDepth 100000 in
theorem c72 (hK : Late K) {x : Nat} {s : St} (hx : x < 18446744073709551616) : Ev Try.prog K (.func (.func 72) #[] #[]) [.int .u64 0, .int .u64 (x : Nat), .int .u64 1] s fun r s' => r = .tuple #[.int .u64 (x : Nat), .int .u64 0] ∧ s' = s := by
  refine Ev.enterK (hK.none (by decide) _) Try.func72 rfl rfl (Nat.le_of_ble_eq_true rfl) ?_
  refine Wc.tail ?_
  refine Wc.assoc ?_
  refine Wc.region ?_
  refine Wk.q rfl rfl rfl (Qk.assign rfl) ?_
  refine Wk.q rfl rfl rfl (Qk.assign rfl) ?_
  refine Wk.next ?_
  refine Wc.assoc ?_
  refine Wc.assoc ?_
  refine Wc.region ?_
  refine Wk.q rfl rfl rfl (Qk.move rfl) ?_
  refine Wk.b rfl rfl rfl (Qk.bin rfl rfl rfl) fun b h20 => ?_
  obtain rfl : b = false := by rw [← h20]; rfl -- t20
  refine Wk.next ?_
  refine Wc.condF rfl ?_
  refine Wc.skip ?_
  refine Wc.assoc ?_
  refine Wc.assoc ?_
  refine Wc.region ?_
  refine Wk.q rfl rfl rfl (Qk.move rfl) ?_
  refine Wk.q rfl rfl rfl (Qk.move rfl) ?_
  refine Wk.b rfl rfl rfl (Qk.bin rfl rfl rfl) fun b h24 => ?_
  obtain rfl : b = false := by rw [← h24]; rfl -- t24
  refine Wk.next ?_
  refine Wc.condF rfl ?_
  refine Wc.skip ?_
  refine Wc.assoc ?_
  refine Wc.assoc ?_
  refine Wc.region ?_
  refine Wk.q rfl rfl rfl (Qk.move rfl) ?_
  refine Wk.b rfl rfl rfl (Qk.bin rfl rfl rfl) fun b h27 => ?_
  obtain rfl : b = true := by exact h27.symm -- t27
  refine Wk.next ?_
  refine Wc.condT rfl ?_
  refine Wc.assoc ?_
  refine Wc.draw0 rfl ?_
  refine Wd.q rfl rfl rfl (Qk.move rfl) ?_
  refine Wd.q rfl rfl rfl (Qk.move rfl) ?_
  refine Wd.q rfl rfl rfl (Qk.eqv (u := .int .u64 x) (Qk.quoU rfl rfl (by omega)) (by congr 1; omega)) ?_
  refine Wd.q rfl rfl rfl (Qk.move rfl) ?_
  refine Wd.q rfl rfl rfl (Qk.move rfl) ?_
  refine Wd.q rfl rfl rfl (Qk.eqv (u := .int .u64 0) (Qk.remU rfl rfl (by omega)) (by congr 1; omega)) ?_
  refine Wd.q rfl rfl rfl (Qk.assign rfl) ?_
  refine Wd.q rfl rfl rfl (Qk.assign rfl) ?_
  refine Wd.next ?_
  refine Wc.done'' (fun _ _ => rfl) rfl ?_
  exact ⟨by simp [pack], rfl⟩
set_option maxRecDepth 100000 in
theorem c71 (hK : Late K) {x : Nat} {s : St} (hx : x < 18446744073709551616) : Ev Try.prog K (.func (.func 71) #[] #[]) [.int .u64 0, .int .u64 (x : Nat), .int .u64 1] s fun r s' => r = .int .u64 0 ∧ s' = s := by
  refine Ev.enterK (hK.none (by decide) _) Try.func71 rfl rfl (Nat.le_of_ble_eq_true rfl) ?_
  refine Wc.tail ?_
  refine Wc.assoc ?_
  refine Wc.region ?_
  refine Wk.q rfl rfl rfl (Qk.assign rfl) ?_
  refine Wk.next ?_
  refine Wc.assoc ?_
  refine Wc.region ?_
  refine Wk.q rfl rfl rfl (Qk.move rfl) ?_
  refine Wk.q rfl rfl rfl (Qk.move rfl) ?_
  refine Wk.q rfl rfl rfl (Qk.eqv (u := .int .u64 0) (Qk.remU rfl rfl (by omega)) (by congr 1)) ?_
  refine Wk.q rfl rfl rfl (Qk.move rfl) ?_
  refine Wk.q rfl rfl rfl (Qk.move rfl) ?_
  refine Wk.c rfl rfl rfl (Ck.call rfl rfl) ((c72 hK hx).mono ?_)
  rintro r t ⟨rfl, rfl⟩
  refine Wk.q rfl rfl rfl (Qk.move rfl) ?_
  refine Wk.q rfl rfl rfl (Qk.extract rfl rfl) ?_
  refine Wk.q rfl rfl rfl (Qk.extract rfl rfl) ?_
  refine Wk.q rfl rfl rfl (Qk.assign rfl) ?_
  refine Wk.q rfl rfl rfl (Qk.assign rfl) ?_
  refine Wk.next ?_
  refine Wc.assoc ?_
  refine Wc.region ?_
  refine Wk.q rfl rfl rfl (Qk.move rfl) ?_
  refine Wk.q rfl rfl rfl (Qk.assign rfl) ?_
  refine Wk.next ?_
  refine Wc.done'' (fun _ _ => rfl) rfl ?_
  exact ⟨by simp [pack], rfl⟩
theorem rt_zero {x p : Int} {q : Nat} (hq : Rt p q) (h : x * (q : Int) + p = 0) : q = 1 := by
  have hd : (q : Int) ∣ p := ⟨-x, by rw [Int.mul_neg, Int.mul_comm]; omega⟩
  have h2 : q ∣ p.natAbs := by have := Int.natAbs_dvd_natAbs.2 hd; rwa [Int.natAbs_natCast] at this
  have := hq.gcd
  rwa [Nat.gcd_eq_right h2] at this
theorem Rt.neg {p : Int} {q : Nat} (h : Rt p q) : Rt (-p) q := ⟨by have := h.num; omega, h.den, by rw [Int.natAbs_neg]; exact h.gcd⟩
set_option maxHeartbeats 4000000 in
set_option maxRecDepth 100000 in
theorem c57 (hK : Late K) {x p : Int} {q : Nat} {s : St} (hx : Rt x 1) (hx6 : -1000000 ≤ x ∧ x ≤ 1000000) (hq : Rt p q) : Ev Try.prog K (.func (.func 57) #[] #[]) [.agg #[.int .i64 x, .int .i64 ((1 : Nat) : Int)], .agg #[.int .i64 p, .int .i64 (q : Nat)]] s fun r s' => r = .tuple #[.agg #[.int .i64 (x * (q : Int) + p), .int .i64 (q : Nat)], .int .i64 0] ∧ Old s s' := by
  have h1 := hq.num
  have h2 := hq.den
  have hx1 : x < 0 → (x.natAbs : Int) * (q : Int) = -(x * (q : Int)) := fun h => by rw [show (x.natAbs : Int) = -x by omega, Int.neg_mul]
  have hx2 : ¬ x < 0 → (x.natAbs : Int) * (q : Int) = x * (q : Int) := fun h => by rw [show (x.natAbs : Int) = x by omega]
  have hx3 : 0 ≤ (x.natAbs : Int) * (q : Int) ∧ (x.natAbs : Int) * (q : Int) ≤ 1000000000 := ⟨Int.mul_nonneg (by omega) (by omega), by
    have := Int.mul_le_mul (show (x.natAbs : Int) ≤ 1000000 by omega) (show (q : Int) ≤ 1000 by omega) (by omega) (by omega)
    omega⟩
  refine Ev.enterK (hK.none (by decide) _) Try.func57 rfl rfl (Nat.le_of_ble_eq_true rfl) ?_
  refine Wc.tail ?_
  refine Wc.assoc ?_
  refine Wc.region ?_
  refine Wk.f rfl rfl rfl (Fk.box rfl rfl) ?_
  refine Wk.f rfl rfl rfl (Fk.box rfl rfl) ?_
  refine Wk.f rfl rfl rfl (Fk.alloc ze41) ?_
  refine Wk.q rfl rfl rfl (Qk.assign rfl) ?_
  refine Wk.next ?_
  refine Wc.store fun s1 e1 => ?_
  have ho1 : Old s s1 := by subst e1; exact ((Old.push _ _).gpush _).gpush _
  have hg2 : s1.get s.size = some ⟨[.int .i64 x, .int .i64 ((1 : Nat) : Int)], .rw⟩ := by subst e1; exact gpush (gpush gnew)
  have hg3 : s1.get (s.size + 1) = some ⟨[.int .i64 p, .int .i64 (q : Nat)], .rw⟩ := by subst e1; exact gpush g1
  have hg4 : s1.get (s.size + 2) = some ⟨[.int .i64 0, .int .i64 0], .rw⟩ := by subst e1; exact g2
  have hz2 : ∀ a b : Blk, ((s.push a).push b).size = s.size + 2 := fun a b => by simp
  have hz1 : ∀ a : Blk, (s.push a).size = s.size + 1 := fun a => by simp
  rw [hz2, hz1]
  clear e1
  refine Wc.assoc ?_
  refine Wc.assoc ?_
  refine Wc.region ?_
  refine Wk.r rfl rfl rfl (Rk.cells rfl sh41 (by first | assumption | repeat (first | exact gnew | exact gsetn gnew | assumption | exact gsetn (by assumption) | refine gpush ?_ | refine gset ?_ (by first | omega | (simp; omega)) )) (by simp) (by simp)) ?_
  refine Wk.r rfl rfl rfl (Rk.cells rfl sh41 (by first | assumption | repeat (first | exact gnew | exact gsetn gnew | assumption | exact gsetn (by assumption) | refine gpush ?_ | refine gset ?_ (by first | omega | (simp; omega)) )) (by simp) (by simp)) ?_
  refine Wk.c rfl rfl rfl (Ck.call rfl rfl) ((c56 hK hx hq).mono ?_)
  rintro r t1 ⟨rfl, ho2⟩
  have hg2 := ho2.get hg2
  have hg3 := ho2.get hg3
  have hg4 := ho2.get hg4
  have ho12 := ho1.trans ho2
  refine Wk.q rfl rfl rfl (Qk.assign rfl) ?_
  refine Wk.next ?_
  refine Wc.assoc ?_
  refine Wc.region ?_
  refine Wk.q rfl rfl rfl (Qk.move rfl) ?_
  refine Wk.b rfl rfl rfl (Qk.bin rfl rfl rfl) fun b h25 => ?_
  obtain rfl : b = false := by exact h25.symm -- t25
  refine Wk.next ?_
  refine Wc.condF rfl ?_
  refine Wc.skip ?_
  refine Wc.assoc ?_
  refine Wc.region ?_
  refine Wk.q rfl rfl rfl (Qk.fa rfl fd41_1) ?_
  refine Wk.r rfl rfl rfl (Rk.cell rfl sh2 (by first | assumption | repeat (first | exact gnew | exact gsetn gnew | assumption | exact gsetn (by assumption) | refine gpush ?_ | refine gset ?_ (by first | omega | (simp; omega)) )) (by simp) rfl) ?_
  refine Wk.q rfl rfl rfl (Qk.cvt rfl und2 und87 (i64_u64 (by omega))) ?_
  refine Wk.q rfl rfl rfl (Qk.fa rfl fd41_1) ?_
  refine Wk.r rfl rfl rfl (Rk.cell rfl sh2 (by first | assumption | repeat (first | exact gnew | exact gsetn gnew | assumption | exact gsetn (by assumption) | refine gpush ?_ | refine gset ?_ (by first | omega | (simp; omega)) )) (by simp) rfl) ?_
  refine Wk.q rfl rfl rfl (Qk.cvt rfl und2 und87 (i64_u64 (by omega))) ?_
  refine Wk.c rfl rfl rfl (Ck.call rfl rfl) ((c45 hK (a := 1) (b := q) (by omega) (by omega)).mono ?_)
  rintro r t ⟨rfl, rfl⟩
  rw [Nat.gcd_one_left]
  refine Wk.q rfl rfl rfl (Qk.assign rfl) ?_
  refine Wk.next ?_
  refine Wc.assoc ?_
  refine Wc.drawE0 rfl ?_
  refine We.q rfl rfl rfl (Qk.fa rfl fd41_0) ?_
  refine We.cell rfl rfl rfl rfl rfl sh2 (by first | assumption | repeat (first | exact gnew | exact gsetn gnew | assumption | exact gsetn (by assumption) | refine gpush ?_ | refine gset ?_ (by first | omega | (simp; omega)) )) (by simp) rfl (by first | assumption | simp [same, ssame]) (by repeat' (first | exact trivial | exact Or.inl rfl | apply And.intro | (refine Or.inr ?_; assumption) | (refine Or.inr ?_; exact gset (by assumption) (by omega)) | (refine Or.inr ⟨_, _, (by first | assumption | repeat (first | exact gnew | exact gsetn gnew | assumption | exact gsetn (by assumption) | refine gpush ?_ | refine gset ?_ (by first | omega | (simp; omega)) )), (by simp), rfl⟩))) ?_
  refine We.c rfl rfl rfl (Ck.call rfl rfl) (by repeat' (first | exact trivial | exact Or.inl rfl | apply And.intro | (refine Or.inr ?_; assumption) | (refine Or.inr ?_; exact gset (by assumption) (by omega)) | (refine Or.inr ⟨_, _, (by first | assumption | repeat (first | exact gnew | exact gsetn gnew | assumption | exact gsetn (by assumption) | refine gpush ?_ | refine gset ?_ (by first | omega | (simp; omega)) )), (by simp), rfl⟩))) ((c44 hK (by omega)).mono ?_)
  rintro r t ⟨rfl, rfl⟩
  refine ⟨(by repeat' (first | exact trivial | exact Or.inl rfl | apply And.intro | (refine Or.inr ?_; assumption) | (refine Or.inr ?_; exact gset (by assumption) (by omega)) | (refine Or.inr ⟨_, _, (by first | assumption | repeat (first | exact gnew | exact gsetn gnew | assumption | exact gsetn (by assumption) | refine gpush ?_ | refine gset ?_ (by first | omega | (simp; omega)) )), (by simp), rfl⟩))), ?_⟩
  refine We.q rfl rfl rfl (Qk.fa rfl fd41_1) ?_
  refine We.cell rfl rfl rfl rfl rfl sh2 (by first | assumption | repeat (first | exact gnew | exact gsetn gnew | assumption | exact gsetn (by assumption) | refine gpush ?_ | refine gset ?_ (by first | omega | (simp; omega)) )) (by simp) rfl (by first | assumption | simp [same, ssame]) (by repeat' (first | exact trivial | exact Or.inl rfl | apply And.intro | (refine Or.inr ?_; assumption) | (refine Or.inr ?_; exact gset (by assumption) (by omega)) | (refine Or.inr ⟨_, _, (by first | assumption | repeat (first | exact gnew | exact gsetn gnew | assumption | exact gsetn (by assumption) | refine gpush ?_ | refine gset ?_ (by first | omega | (simp; omega)) )), (by simp), rfl⟩))) ?_
  refine We.q rfl rfl rfl (Qk.cvt rfl und2 und87 (i64_u64 (by omega))) ?_
  refine We.q rfl rfl rfl (Qk.move rfl) ?_
  refine We.q rfl rfl rfl (Qk.eqv (u := .int .u64 (q : Nat)) (Qk.quoU rfl rfl (by omega)) (by congr 1; omega)) ?_
  refine We.c rfl rfl rfl (Ck.call rfl rfl) (by repeat' (first | exact trivial | exact Or.inl rfl | apply And.intro | (refine Or.inr ?_; assumption) | (refine Or.inr ?_; exact gset (by assumption) (by omega)) | (refine Or.inr ⟨_, _, (by first | assumption | repeat (first | exact gnew | exact gsetn gnew | assumption | exact gsetn (by assumption) | refine gpush ?_ | refine gset ?_ (by first | omega | (simp; omega)) )), (by simp), rfl⟩))) ((c68 hK (x := x.natAbs) (y := q) (by omega) (by omega) (by omega)).mono ?_)
  rintro r t ⟨rfl, rfl⟩
  refine ⟨(by repeat' (first | exact trivial | exact Or.inl rfl | apply And.intro | (refine Or.inr ?_; assumption) | (refine Or.inr ?_; exact gset (by assumption) (by omega)) | (refine Or.inr ⟨_, _, (by first | assumption | repeat (first | exact gnew | exact gsetn gnew | assumption | exact gsetn (by assumption) | refine gpush ?_ | refine gset ?_ (by first | omega | (simp; omega)) )), (by simp), rfl⟩))), ?_⟩
  refine We.q rfl rfl rfl (Qk.move rfl) ?_
  refine We.q rfl rfl rfl (Qk.extract rfl rfl) ?_
  refine We.q rfl rfl rfl (Qk.extract rfl rfl) ?_
  refine We.q rfl rfl rfl (Qk.assign rfl) ?_
  refine We.q rfl rfl rfl (Qk.assign rfl) ?_
  refine We.next ?_
  refine Wc.assoc ?_
  refine Wc.drawE0 rfl ?_
  refine We.q rfl rfl rfl (Qk.fa rfl fd41_0) ?_
  refine We.cell rfl rfl rfl rfl rfl sh2 (by first | assumption | repeat (first | exact gnew | exact gsetn gnew | assumption | exact gsetn (by assumption) | refine gpush ?_ | refine gset ?_ (by first | omega | (simp; omega)) )) (by simp) rfl (by first | assumption | simp [same, ssame]) (by repeat' (first | exact trivial | exact Or.inl rfl | apply And.intro | (refine Or.inr ?_; assumption) | (refine Or.inr ?_; exact gset (by assumption) (by omega)) | (refine Or.inr ⟨_, _, (by first | assumption | repeat (first | exact gnew | exact gsetn gnew | assumption | exact gsetn (by assumption) | refine gpush ?_ | refine gset ?_ (by first | omega | (simp; omega)) )), (by simp), rfl⟩))) ?_
  refine We.c rfl rfl rfl (Ck.call rfl rfl) (by repeat' (first | exact trivial | exact Or.inl rfl | apply And.intro | (refine Or.inr ?_; assumption) | (refine Or.inr ?_; exact gset (by assumption) (by omega)) | (refine Or.inr ⟨_, _, (by first | assumption | repeat (first | exact gnew | exact gsetn gnew | assumption | exact gsetn (by assumption) | refine gpush ?_ | refine gset ?_ (by first | omega | (simp; omega)) )), (by simp), rfl⟩))) ((c44 hK (by omega)).mono ?_)
  rintro r t ⟨rfl, rfl⟩
  refine ⟨(by repeat' (first | exact trivial | exact Or.inl rfl | apply And.intro | (refine Or.inr ?_; assumption) | (refine Or.inr ?_; exact gset (by assumption) (by omega)) | (refine Or.inr ⟨_, _, (by first | assumption | repeat (first | exact gnew | exact gsetn gnew | assumption | exact gsetn (by assumption) | refine gpush ?_ | refine gset ?_ (by first | omega | (simp; omega)) )), (by simp), rfl⟩))), ?_⟩
  refine We.q rfl rfl rfl (Qk.fa rfl fd41_1) ?_
  refine We.cell rfl rfl rfl rfl rfl sh2 (by first | assumption | repeat (first | exact gnew | exact gsetn gnew | assumption | exact gsetn (by assumption) | refine gpush ?_ | refine gset ?_ (by first | omega | (simp; omega)) )) (by simp) rfl (by first | assumption | simp [same, ssame]) (by repeat' (first | exact trivial | exact Or.inl rfl | apply And.intro | (refine Or.inr ?_; assumption) | (refine Or.inr ?_; exact gset (by assumption) (by omega)) | (refine Or.inr ⟨_, _, (by first | assumption | repeat (first | exact gnew | exact gsetn gnew | assumption | exact gsetn (by assumption) | refine gpush ?_ | refine gset ?_ (by first | omega | (simp; omega)) )), (by simp), rfl⟩))) ?_
  refine We.q rfl rfl rfl (Qk.cvt rfl und2 und87 (i64_u64 (by omega))) ?_
  refine We.q rfl rfl rfl (Qk.move rfl) ?_
  refine We.q rfl rfl rfl (Qk.eqv (u := .int .u64 ((1 : Nat) : Int)) (Qk.quoU rfl rfl (by omega)) (by congr 1)) ?_
  refine We.c rfl rfl rfl (Ck.call rfl rfl) (by repeat' (first | exact trivial | exact Or.inl rfl | apply And.intro | (refine Or.inr ?_; assumption) | (refine Or.inr ?_; exact gset (by assumption) (by omega)) | (refine Or.inr ⟨_, _, (by first | assumption | repeat (first | exact gnew | exact gsetn gnew | assumption | exact gsetn (by assumption) | refine gpush ?_ | refine gset ?_ (by first | omega | (simp; omega)) )), (by simp), rfl⟩))) ((c68 hK (x := p.natAbs) (y := 1) (by omega) (by omega) (by omega)).mono ?_)
  rintro r t ⟨rfl, rfl⟩
  refine ⟨(by repeat' (first | exact trivial | exact Or.inl rfl | apply And.intro | (refine Or.inr ?_; assumption) | (refine Or.inr ?_; exact gset (by assumption) (by omega)) | (refine Or.inr ⟨_, _, (by first | assumption | repeat (first | exact gnew | exact gsetn gnew | assumption | exact gsetn (by assumption) | refine gpush ?_ | refine gset ?_ (by first | omega | (simp; omega)) )), (by simp), rfl⟩))), ?_⟩
  refine We.q rfl rfl rfl (Qk.move rfl) ?_
  refine We.q rfl rfl rfl (Qk.extract rfl rfl) ?_
  refine We.q rfl rfl rfl (Qk.extract rfl rfl) ?_
  refine We.q rfl rfl rfl (Qk.assign rfl) ?_
  refine We.q rfl rfl rfl (Qk.assign rfl) ?_
  refine We.next ?_
  refine Wc.assoc ?_
  refine Wc.region ?_
  refine Wk.q rfl rfl rfl (Qk.fa rfl fd41_0) ?_
  refine Wk.r rfl rfl rfl (Rk.cell rfl sh2 (by first | assumption | repeat (first | exact gnew | exact gsetn gnew | assumption | exact gsetn (by assumption) | refine gpush ?_ | refine gset ?_ (by first | omega | (simp; omega)) )) (by simp) rfl) ?_
  refine Wk.q rfl rfl rfl (Qk.bin rfl rfl rfl) ?_
  refine Wk.q rfl rfl rfl (Qk.assign rfl) ?_
  refine Wk.next ?_
  refine Wc.assoc ?_
  refine Wc.region ?_
  refine Wk.q rfl rfl rfl (Qk.assign rfl) ?_
  refine Wk.q rfl rfl rfl (Qk.assign rfl) ?_
  refine Wk.q rfl rfl rfl (Qk.assign rfl) ?_
  refine Wk.next ?_
  refine Wc.assoc ?_
  refine Wc.join (σ := Bool × Nat) (fun y => (if y.1 then -(y.2 : Int) else y.2) = x * (q : Int) + p ∧ y.2 < 4294967296) (fun y => [(2, .pointer (some ⟨s.size, 0, none⟩)), (3, .pointer (some ⟨s.size + 1, 0, none⟩)), (4, .pointer (some ⟨s.size + 2, 0, none⟩)), (7, .int .u64 ((1 : Nat) : Int)), (12, .bool y.1), (13, .int .u64 0), (14, .int .u64 (y.2 : Nat))]) (fun y => t) ?_ ?_
  · -- join 9: the first part
    refine Wc.assoc ?_
    refine Wc.region ?_
    refine Wk.q rfl rfl rfl (Qk.fa rfl fd41_0) ?_
    refine Wk.r rfl rfl rfl (Rk.cell rfl sh2 (by first | assumption | repeat (first | exact gnew | exact gsetn gnew | assumption | exact gsetn (by assumption) | refine gpush ?_ | refine gset ?_ (by first | omega | (simp; omega)) )) (by simp) rfl) ?_
    refine Wk.q rfl rfl rfl (Qk.bin rfl rfl rfl) ?_
    refine Wk.q rfl rfl rfl (Qk.fa rfl fd41_0) ?_
    refine Wk.r rfl rfl rfl (Rk.cell rfl sh2 (by first | assumption | repeat (first | exact gnew | exact gsetn gnew | assumption | exact gsetn (by assumption) | refine gpush ?_ | refine gset ?_ (by first | omega | (simp; omega)) )) (by simp) rfl) ?_
    refine Wk.q rfl rfl rfl (Qk.bin rfl rfl rfl) ?_
    refine Wk.b rfl rfl rfl (Qk.bin rfl rfl (eql4)) fun b h68 => ?_
    cases b
    · -- t68 = False
      have hs : ¬ ((x < 0) ↔ (p < 0)) := by
        intro e
        have e2 : decide (x < 0) = decide (p < 0) := by simp [e]
        rw [e2] at h68
        simp at h68
      refine Wk.next ?_
      refine Wc.condF rfl ?_
      refine Wc.assoc ?_
      refine Wc.assoc ?_
      refine Wc.region ?_
      refine Wk.q rfl rfl rfl (Qk.move rfl) ?_
      refine Wk.q rfl rfl rfl (Qk.move rfl) ?_
      refine Wk.b rfl rfl rfl (Qk.bin rfl rfl rfl) fun b h84 => ?_
      obtain rfl : b = false := by rw [← h84]; rfl -- t84
      refine Wk.q rfl rfl rfl (Qk.move rfl) ?_
      refine Wk.q rfl rfl rfl (Qk.move rfl) ?_
      refine Wk.q rfl rfl rfl (Qk.move rfl) ?_
      refine Wk.b rfl rfl rfl (Qk.bin rfl rfl rfl) fun b h88 => ?_
      obtain rfl : b = true := by exact h88.symm -- t88
      refine Wk.q rfl rfl rfl (Qk.move rfl) ?_
      refine Wk.q rfl rfl rfl (Qk.move rfl) ?_
      refine Wk.q rfl rfl rfl (Qk.move rfl) ?_
      refine Wk.b rfl rfl rfl (Qk.bin rfl rfl rfl) fun b h92 => ?_
      cases b
      · -- t92 = False
        have hlt : ¬ ((x.natAbs : Int) * (q : Int) < (p.natAbs : Int) * ((1 : Nat) : Int)) := of_decide_eq_false h92
        refine Wk.q rfl rfl rfl (Qk.pickT rfl rfl) ?_
        refine Wk.q rfl rfl rfl (Qk.pickF rfl rfl) ?_
        refine Wk.next ?_
        refine Wc.condF rfl ?_
        refine Wc.skip ?_
        refine Wc.assoc ?_
        refine Wc.region ?_
        refine Wk.q rfl rfl rfl (Qk.move rfl) ?_
        refine Wk.q rfl rfl rfl (Qk.move rfl) ?_
        refine Wk.c rfl rfl rfl (Ck.call rfl rfl) ((hK.c70 (by omega)).mono ?_)
        rintro r t ⟨rfl, rfl⟩
        refine Wk.q rfl rfl rfl (Qk.move rfl) ?_
        refine Wk.q rfl rfl rfl (Qk.extract rfl rfl) ?_
        refine Wk.q rfl rfl rfl (Qk.extract rfl rfl) ?_
        refine Wk.q rfl rfl rfl (Qk.assign rfl) ?_
        refine Wk.q rfl rfl rfl (Qk.assign rfl) ?_
        refine Wk.next ?_
        refine Wc.region ?_
        refine Wk.q rfl rfl rfl (Qk.move rfl) ?_
        refine Wk.q rfl rfl rfl (Qk.move rfl) ?_
        refine Wk.q rfl rfl rfl (Qk.move rfl) ?_
        refine Wk.c rfl rfl rfl (Ck.call rfl rfl) ((hK.c70 (by omega)).mono ?_)
        rintro r t ⟨rfl, rfl⟩
        refine Wk.q rfl rfl rfl (Qk.move rfl) ?_
        refine Wk.q rfl rfl rfl (Qk.extract rfl rfl) ?_
        refine Wk.q rfl rfl rfl (Qk.extract rfl rfl) ?_
        refine Wk.q rfl rfl rfl (Qk.assign rfl) ?_
        refine Wk.next ?_
        refine Wc.finish fun fr hf => ?_
        refine ⟨(decide (x < 0), ((x.natAbs : Int) * (q : Int) - (p.natAbs : Int) * ((1 : Nat) : Int)).toNat), ⟨?_, ?_⟩, rfl, hf.less ⟨rfl, rfl, rfl, rfl, rfl, ?_, ?_, trivial⟩⟩
        · dsimp only
          by_cases h0 : x < 0
          · rw [decide_eq_true h0, if_pos rfl]; omega
          · rw [decide_eq_false h0, if_neg (by simp)]; omega
        · dsimp only; omega
        · rfl
        · show some (Value.int .u64 _) = some (.int .u64 _)
          congr 2
          dsimp only
          omega
      · -- t92 = True
        have hlt : (x.natAbs : Int) * (q : Int) < (p.natAbs : Int) * ((1 : Nat) : Int) := of_decide_eq_true h92
        refine Wk.q rfl rfl rfl (Qk.pickT rfl rfl) ?_
        refine Wk.q rfl rfl rfl (Qk.pickF rfl rfl) ?_
        refine Wk.next ?_
        refine Wc.condT rfl ?_
        refine Wc.assoc ?_
        refine Wc.region ?_
        refine Wk.q rfl rfl rfl (Qk.move rfl) ?_
        refine Wk.q rfl rfl rfl (Qk.move rfl) ?_
        refine Wk.q rfl rfl rfl (Qk.move rfl) ?_
        refine Wk.q rfl rfl rfl (Qk.move rfl) ?_
        refine Wk.q rfl rfl rfl (Qk.assign rfl) ?_
        refine Wk.q rfl rfl rfl (Qk.assign rfl) ?_
        refine Wk.q rfl rfl rfl (Qk.assign rfl) ?_
        refine Wk.q rfl rfl rfl (Qk.assign rfl) ?_
        refine Wk.next ?_
        refine Wc.region ?_
        refine Wk.q rfl rfl rfl (Qk.move rfl) ?_
        refine Wk.q rfl rfl rfl (Qk.not rfl) ?_
        refine Wk.q rfl rfl rfl (Qk.assign rfl) ?_
        refine Wk.next ?_
        refine Wc.assoc ?_
        refine Wc.region ?_
        refine Wk.q rfl rfl rfl (Qk.move rfl) ?_
        refine Wk.q rfl rfl rfl (Qk.move rfl) ?_
        refine Wk.c rfl rfl rfl (Ck.call rfl rfl) ((hK.c70 (by omega)).mono ?_)
        rintro r t ⟨rfl, rfl⟩
        refine Wk.q rfl rfl rfl (Qk.move rfl) ?_
        refine Wk.q rfl rfl rfl (Qk.extract rfl rfl) ?_
        refine Wk.q rfl rfl rfl (Qk.extract rfl rfl) ?_
        refine Wk.q rfl rfl rfl (Qk.assign rfl) ?_
        refine Wk.q rfl rfl rfl (Qk.assign rfl) ?_
        refine Wk.next ?_
        refine Wc.region ?_
        refine Wk.q rfl rfl rfl (Qk.move rfl) ?_
        refine Wk.q rfl rfl rfl (Qk.move rfl) ?_
        refine Wk.q rfl rfl rfl (Qk.move rfl) ?_
        refine Wk.c rfl rfl rfl (Ck.call rfl rfl) ((hK.c70 (by omega)).mono ?_)
        rintro r t ⟨rfl, rfl⟩
        refine Wk.q rfl rfl rfl (Qk.move rfl) ?_
        refine Wk.q rfl rfl rfl (Qk.extract rfl rfl) ?_
        refine Wk.q rfl rfl rfl (Qk.extract rfl rfl) ?_
        refine Wk.q rfl rfl rfl (Qk.assign rfl) ?_
        refine Wk.next ?_
        refine Wc.finish fun fr hf => ?_
        refine ⟨(!decide (x < 0), ((p.natAbs : Int) * ((1 : Nat) : Int) - (x.natAbs : Int) * (q : Int)).toNat), ⟨?_, ?_⟩, rfl, hf.less ⟨rfl, rfl, rfl, rfl, rfl, ?_, ?_, trivial⟩⟩
        · dsimp only
          by_cases h0 : x < 0
          · rw [decide_eq_true h0, if_neg (by simp)]; omega
          · rw [decide_eq_false h0, if_pos (by simp)]; omega
        · dsimp only; omega
        · rfl
        · show some (Value.int .u64 _) = some (.int .u64 _)
          congr 2
          dsimp only
          omega
    · -- t68 = True
      have hs : (x < 0) ↔ (p < 0) := by
        have h68 := eq_of_beq h68
        exact decide_eq_decide.1 h68
      refine Wk.next ?_
      refine Wc.condT rfl ?_
      refine Wc.assoc ?_
      refine Wc.region ?_
      refine Wk.q rfl rfl rfl (Qk.move rfl) ?_
      refine Wk.q rfl rfl rfl (Qk.move rfl) ?_
      refine Wk.c rfl rfl rfl (Ck.call rfl rfl) ((hK.c69 (by omega)).mono ?_)
      rintro r t ⟨rfl, rfl⟩
      refine Wk.q rfl rfl rfl (Qk.move rfl) ?_
      refine Wk.q rfl rfl rfl (Qk.extract rfl rfl) ?_
      refine Wk.q rfl rfl rfl (Qk.extract rfl rfl) ?_
      refine Wk.q rfl rfl rfl (Qk.assign rfl) ?_
      refine Wk.q rfl rfl rfl (Qk.assign rfl) ?_
      refine Wk.next ?_
      refine Wc.region ?_
      refine Wk.q rfl rfl rfl (Qk.move rfl) ?_
      refine Wk.q rfl rfl rfl (Qk.move rfl) ?_
      refine Wk.q rfl rfl rfl (Qk.move rfl) ?_
      refine Wk.c rfl rfl rfl (Ck.call rfl rfl) ((hK.c69 (by omega)).mono ?_)
      rintro r t ⟨rfl, rfl⟩
      refine Wk.q rfl rfl rfl (Qk.move rfl) ?_
      refine Wk.q rfl rfl rfl (Qk.extract rfl rfl) ?_
      refine Wk.q rfl rfl rfl (Qk.extract rfl rfl) ?_
      refine Wk.q rfl rfl rfl (Qk.assign rfl) ?_
      refine Wk.next ?_
      refine Wc.finish fun fr hf => ?_
      refine ⟨(decide (x < 0), ((x.natAbs : Int) * (q : Int) + (p.natAbs : Int) * ((1 : Nat) : Int)).toNat), ⟨?_, ?_⟩, rfl, hf.less ⟨rfl, rfl, rfl, rfl, rfl, ?_, ?_, trivial⟩⟩
      · dsimp only
        by_cases h0 : x < 0
        · rw [decide_eq_true h0, if_pos rfl]; omega
        · rw [decide_eq_false h0, if_neg (by simp)]; omega
      · dsimp only; omega
      · show some (Value.int .u64 _) = some (.int .u64 _)
        congr 2
        omega
      · show some (Value.int .u64 _) = some (.int .u64 _)
        congr 2
        dsimp only
        omega
  · -- join 9: what follows
    rintro y hy
    obtain ⟨hsum, hlo⟩ := hy
    obtain ⟨minus, lo⟩ := y
    dsimp only at hsum hlo ⊢
    refine Wc.assoc ?_
    refine Wc.assoc ?_
    refine Wc.region ?_
    refine Wk.q rfl rfl rfl (Qk.move rfl) ?_
    refine Wk.b rfl rfl rfl (Qk.bin rfl rfl rfl) fun b h115 => ?_
    obtain rfl : b = true := by exact h115.symm -- t115
    refine Wk.q rfl rfl rfl (Qk.move rfl) ?_
    refine Wk.q rfl rfl rfl (Qk.move rfl) ?_
    refine Wk.b rfl rfl rfl (Qk.bin rfl rfl rfl) fun b h118 => ?_
    cases b
    · -- t118 = False
      refine Wk.q rfl rfl rfl (Qk.pickT rfl rfl) ?_
      refine Wk.next ?_
      refine Wc.condF rfl ?_
      refine Wc.skip ?_
      refine Wc.assoc ?_
      refine Wc.region ?_
      refine Wk.q rfl rfl rfl (Qk.move rfl) ?_
      refine Wk.q rfl rfl rfl (Qk.move rfl) ?_
      refine Wk.q rfl rfl rfl (Qk.move rfl) ?_
      refine Wk.c rfl rfl rfl (Ck.call rfl rfl) ((c71 hK (x := lo) (by omega)).mono ?_)
      rintro r t ⟨rfl, rfl⟩
      refine Wk.q rfl rfl rfl (Qk.move rfl) ?_
      refine Wk.c rfl rfl rfl (Ck.call rfl rfl) ((c45 hK (a := 0) (b := 1) (by omega) (by omega)).mono ?_)
      rintro r t ⟨rfl, rfl⟩
      rw [show Nat.gcd 0 1 = 1 from rfl]
      refine Wk.q rfl rfl rfl (Qk.assign rfl) ?_
      refine Wk.next ?_
      refine Wc.assoc ?_
      refine Wc.assoc ?_
      refine Wc.region ?_
      refine Wk.q rfl rfl rfl (Qk.move rfl) ?_
      refine Wk.q rfl rfl rfl (Qk.move rfl) ?_
      refine Wk.b rfl rfl rfl (Qk.bin rfl rfl rfl) fun b h129 => ?_
      obtain rfl : b = false := by rw [← h129]; rfl -- t129
      refine Wk.next ?_
      refine Wc.condF rfl ?_
      refine Wc.skip ?_
      refine Wc.assoc ?_
      refine Wc.region ?_
      refine Wk.q rfl rfl rfl (Qk.move rfl) ?_
      refine Wk.q rfl rfl rfl (Qk.move rfl) ?_
      refine Wk.q rfl rfl rfl (Qk.move rfl) ?_
      refine Wk.c rfl rfl rfl (Ck.call rfl rfl) ((c72 hK (x := lo) (by omega)).mono ?_)
      rintro r t ⟨rfl, rfl⟩
      refine Wk.q rfl rfl rfl (Qk.move rfl) ?_
      refine Wk.q rfl rfl rfl (Qk.extract rfl rfl) ?_
      refine Wk.q rfl rfl rfl (Qk.extract rfl rfl) ?_
      refine Wk.q rfl rfl rfl (Qk.assign rfl) ?_
      refine Wk.q rfl rfl rfl (Qk.assign rfl) ?_
      refine Wk.next ?_
      refine Wc.assoc ?_
      refine Wc.draw0 rfl ?_
      refine Wd.q rfl rfl rfl (Qk.fa rfl fd41_1) ?_
      refine Wd.r rfl rfl rfl (Rk.cell rfl sh2 (by first | assumption | repeat (first | exact gnew | exact gsetn gnew | assumption | exact gsetn (by assumption) | refine gpush ?_ | refine gset ?_ (by first | omega | (simp; omega)) )) (by simp) rfl) rfl ?_
      refine Wd.q rfl rfl rfl (Qk.cvt rfl und2 und87 (i64_u64 (by omega))) ?_
      refine Wd.q rfl rfl rfl (Qk.move rfl) ?_
      refine Wd.q rfl rfl rfl (Qk.eqv (u := .int .u64 ((1 : Nat) : Int)) (Qk.quoU rfl rfl (by omega)) (by congr 1)) ?_
      refine Wd.q rfl rfl rfl (Qk.fa rfl fd41_1) ?_
      refine Wd.r rfl rfl rfl (Rk.cell rfl sh2 (by first | assumption | repeat (first | exact gnew | exact gsetn gnew | assumption | exact gsetn (by assumption) | refine gpush ?_ | refine gset ?_ (by first | omega | (simp; omega)) )) (by simp) rfl) rfl ?_
      refine Wd.q rfl rfl rfl (Qk.cvt rfl und2 und87 (i64_u64 (by omega))) ?_
      refine Wd.q rfl rfl rfl (Qk.move rfl) ?_
      refine Wd.q rfl rfl rfl (Qk.eqv (u := .int .u64 (q : Nat)) (Qk.quoU rfl rfl (by omega)) (by congr 1; omega)) ?_
      refine Wd.c rfl rfl rfl (Ck.call rfl rfl) rfl rfl ((c68 hK (x := 1) (y := q) (by omega) (by omega) (by omega)).mono ?_)
      rintro r t ⟨rfl, rfl⟩
      rw [show ((1 : Nat) : Int) * (q : Int) = (q : Int) by omega]
      refine Wd.q rfl rfl rfl (Qk.move rfl) ?_
      refine Wd.q rfl rfl rfl (Qk.extract rfl rfl) ?_
      refine Wd.q rfl rfl rfl (Qk.extract rfl rfl) ?_
      refine Wd.q rfl rfl rfl (Qk.assign rfl) ?_
      refine Wd.q rfl rfl rfl (Qk.assign rfl) ?_
      refine Wd.next ?_
      refine Wc.assoc ?_
      refine Wc.assoc ?_
      refine Wc.region ?_
      refine Wk.q rfl rfl rfl (Qk.move rfl) ?_
      refine Wk.b rfl rfl rfl (Qk.bin rfl rfl rfl) fun b h153 => ?_
      obtain rfl : b = false := by rw [← h153]; rfl -- t153
      refine Wk.next ?_
      refine Wc.condF rfl ?_
      refine Wc.skip ?_
      refine Wc.assoc ?_
      refine Wc.region ?_
      refine Wk.q rfl rfl rfl (Qk.move rfl) ?_
      refine Wk.q rfl rfl rfl (Qk.move rfl) ?_
      refine Wk.q rfl rfl rfl (Qk.move rfl) ?_
      refine Wk.c rfl rfl rfl (Ck.call rfl rfl) ((c46 hK (m := minus) (a := lo) (b := q) (by omega) (by omega)).mono ?_)
      rintro r t2 ⟨rfl, ho3⟩
      have hg5 := ho3.get hg4
      refine Wk.q rfl rfl rfl (Qk.extract rfl rfl) ?_
      refine Wk.q rfl rfl rfl (Qk.extract rfl rfl) ?_
      refine Wk.h rfl rfl rfl (Hk.whole rfl rfl sh41 (by first | assumption | repeat (first | exact gnew | exact gsetn gnew | assumption | exact gsetn (by assumption) | refine gpush ?_ | refine gset ?_ (by first | omega | (simp; omega)) )) rfl rfl (by first | rfl | (show (true && (Abs.scalar _ && true)) = true; rw [Bool.true_and, Bool.and_true]; assumption))) ?_
      refine Wk.q rfl rfl rfl (Qk.assign rfl) ?_
      refine Wk.next ?_
      refine Wc.store fun s2 e2 => ?_
      have ho4 : Old s s2 := by subst e2; exact (ho12.trans ho3).gset (by omega)
      have hg5 : s2.get (s.size + 2) = some ⟨[.int .i64 (if minus then -(lo : Int) else lo), .int .i64 (q : Nat)], .rw⟩ := by subst e2; exact gsetn hg5
      refine Wc.doneC (fun _ _ => rfl) (ares_cell rfl (alW sh41 (by first | assumption | repeat (first | exact gnew | exact gsetn gnew | assumption | exact gsetn (by assumption) | refine gpush ?_ | refine gset ?_ (by first | omega | (simp; omega)) )) (by simp) rfl) (ares_tmp rfl ares_nil)) ?_
      exact ⟨by rw [← hsum]; rfl, ho4⟩
    · -- t118 = True
      refine Wk.q rfl rfl rfl (Qk.pickT rfl rfl) ?_
      refine Wk.next ?_
      refine Wc.condT rfl ?_
      refine Wc.assoc ?_
      refine Wc.region ?_
      refine Wk.q rfl rfl rfl (Qk.build rfl build41') ?_
      refine Wk.h rfl rfl rfl (Hk.whole rfl rfl sh41 (by first | assumption | repeat (first | exact gnew | exact gsetn gnew | assumption | exact gsetn (by assumption) | refine gpush ?_ | refine gset ?_ (by first | omega | (simp; omega)) )) rfl rfl (by first | rfl | (show (true && (Abs.scalar _ && true)) = true; rw [Bool.true_and, Bool.and_true]; assumption))) ?_
      refine Wk.q rfl rfl rfl (Qk.assign rfl) ?_
      refine Wk.next ?_
      refine Wc.store fun s3 e3 => ?_
      have ho4 : Old s s3 := by subst e3; exact ho12.gset (by omega)
      have hg5 : s3.get (s.size + 2) = some ⟨[.int .i64 0, .int .i64 1], .rw⟩ := by subst e3; exact gsetn hg4
      refine Wc.doneC (fun _ _ => rfl) (ares_cell rfl (alW sh41 (by first | assumption | repeat (first | exact gnew | exact gsetn gnew | assumption | exact gsetn (by assumption) | refine gpush ?_ | refine gset ?_ (by first | omega | (simp; omega)) )) (by simp) rfl) (ares_tmp rfl ares_nil)) ?_
      have h0 : lo = 0 := by have := eq_of_beq h118; omega
      subst h0
      have hz : x * (q : Int) + p = 0 := by rw [← hsum]; split <;> rfl
      have hq1 := rt_zero hq hz
      exact ⟨by rw [hz, hq1]; rfl, ho4⟩
set_option maxHeartbeats 4000000 in
set_option maxRecDepth 100000 in
theorem c34 (hK : Late K) {x p : Int} {q : Nat} {s : St} (hx : Rt x 1) (hx6 : -1000000 ≤ x ∧ x ≤ 1000000) (hq : Rt p q) : Ev Try.prog K (.func (.func 34) #[] #[]) [.agg #[.int .i64 x, .int .i64 ((1 : Nat) : Int)], .agg #[.int .i64 p, .int .i64 (q : Nat)]] s fun r s' => r = .tuple #[.agg #[.int .i64 (x * (q : Int) + -p), .int .i64 (q : Nat)], .int .i64 0] ∧ Old s s' := by
  have h1 := hq.num
  have h2 := hq.den
  refine Ev.enterK (hK.none (by decide) _) Try.func34 rfl rfl (Nat.le_of_ble_eq_true rfl) ?_
  refine Wc.tail ?_
  refine Wc.assoc ?_
  refine Wc.region ?_
  refine Wk.f rfl rfl rfl (Fk.box rfl rfl) ?_
  refine Wk.f rfl rfl rfl (Fk.box rfl rfl) ?_
  refine Wk.f rfl rfl rfl (Fk.alloc ze41) ?_
  refine Wk.q rfl rfl rfl (Qk.assign rfl) ?_
  refine Wk.next ?_
  refine Wc.store fun s1 e1 => ?_
  have ho1 : Old s s1 := by subst e1; exact ((Old.push _ _).gpush _).gpush _
  have hg2 : s1.get s.size = some ⟨[.int .i64 x, .int .i64 ((1 : Nat) : Int)], .rw⟩ := by subst e1; exact gpush (gpush gnew)
  have hg3 : s1.get (s.size + 1) = some ⟨[.int .i64 p, .int .i64 (q : Nat)], .rw⟩ := by subst e1; exact gpush g1
  have hg4 : s1.get (s.size + 2) = some ⟨[.int .i64 0, .int .i64 0], .rw⟩ := by subst e1; exact g2
  have hz2 : ∀ a b : Blk, ((s.push a).push b).size = s.size + 2 := fun a b => by simp
  have hz1 : ∀ a : Blk, (s.push a).size = s.size + 1 := fun a => by simp
  rw [hz2, hz1]
  clear e1
  refine Wc.assoc ?_
  refine Wc.assoc ?_
  refine Wc.region ?_
  refine Wk.r rfl rfl rfl (Rk.cells rfl sh41 (by first | assumption | repeat (first | exact gnew | exact gsetn gnew | assumption | exact gsetn (by assumption) | refine gpush ?_ | refine gset ?_ (by first | omega | (simp; omega)) )) (by simp) (by simp)) ?_
  refine Wk.r rfl rfl rfl (Rk.cells rfl sh41 (by first | assumption | repeat (first | exact gnew | exact gsetn gnew | assumption | exact gsetn (by assumption) | refine gpush ?_ | refine gset ?_ (by first | omega | (simp; omega)) )) (by simp) (by simp)) ?_
  refine Wk.c rfl rfl rfl (Ck.call rfl rfl) ((c56 hK hx hq).mono ?_)
  rintro r t1 ⟨rfl, ho2⟩
  have hg2 := ho2.get hg2
  have hg3 := ho2.get hg3
  have hg4 := ho2.get hg4
  have ho12 := ho1.trans ho2
  refine Wk.q rfl rfl rfl (Qk.assign rfl) ?_
  refine Wk.next ?_
  refine Wc.assoc ?_
  refine Wc.region ?_
  refine Wk.q rfl rfl rfl (Qk.move rfl) ?_
  refine Wk.b rfl rfl rfl (Qk.bin rfl rfl rfl) fun b h11 => ?_
  obtain rfl : b = false := by exact h11.symm -- t11
  refine Wk.next ?_
  refine Wc.condF rfl ?_
  refine Wc.skip ?_
  refine Wc.assoc ?_
  refine Wc.region ?_
  refine Wk.q rfl rfl rfl (Qk.fa rfl fd41_0) ?_
  refine Wk.r rfl rfl rfl (Rk.cell rfl sh2 (by first | assumption | repeat (first | exact gnew | exact gsetn gnew | assumption | exact gsetn (by assumption) | refine gpush ?_ | refine gset ?_ (by first | omega | (simp; omega)) )) (by simp) rfl) ?_
  refine Wk.q rfl rfl rfl (Qk.neg rfl (by omega)) ?_
  refine Wk.q rfl rfl rfl (Qk.fa rfl fd41_0) ?_
  refine Wk.h rfl rfl rfl (Hk.cell rfl rfl sh2 (by first | assumption | repeat (first | exact gnew | exact gsetn gnew | assumption | exact gsetn (by assumption) | refine gpush ?_ | refine gset ?_ (by first | omega | (simp; omega)) )) (by first | exact Nat.le_of_ble_eq_true rfl | (simp; done) | (simp; omega)) (by first | rfl | assumption) (by first | rfl | assumption)) ?_
  refine Wk.next ?_
  refine Wc.store fun s2 e2 => ?_
  have ho3 : Old s s2 := by subst e2; exact ho12.gset (by omega)
  have hg2 : s2.get s.size = some ⟨[.int .i64 x, .int .i64 ((1 : Nat) : Int)], .rw⟩ := by subst e2; exact gset hg2 (by omega)
  have hg3 : s2.get (s.size + 1) = some ⟨[.int .i64 (-p), .int .i64 (q : Nat)], .rw⟩ := by subst e2; exact gsetn hg3
  have hg4 : s2.get (s.size + 2) = some ⟨[.int .i64 0, .int .i64 0], .rw⟩ := by subst e2; exact gset hg4 (by omega)
  clear e2
  refine Wc.assoc ?_
  refine Wc.region ?_
  refine Wk.r rfl rfl rfl (Rk.cells rfl sh41 (by first | assumption | repeat (first | exact gnew | exact gsetn gnew | assumption | exact gsetn (by assumption) | refine gpush ?_ | refine gset ?_ (by first | omega | (simp; omega)) )) (by simp) (by simp)) ?_
  refine Wk.r rfl rfl rfl (Rk.cells rfl sh41 (by first | assumption | repeat (first | exact gnew | exact gsetn gnew | assumption | exact gsetn (by assumption) | refine gpush ?_ | refine gset ?_ (by first | omega | (simp; omega)) )) (by simp) (by simp)) ?_
  refine Wk.c rfl rfl rfl (Ck.call rfl rfl) ((c57 hK hx hx6 hq.neg).mono ?_)
  rintro r t ⟨rfl, ho4⟩
  have hg4 := ho4.get hg4
  refine Wk.q rfl rfl rfl (Qk.extract rfl rfl) ?_
  refine Wk.q rfl rfl rfl (Qk.extract rfl rfl) ?_
  refine Wk.h rfl rfl rfl (Hk.whole rfl rfl sh41 (by first | assumption | repeat (first | exact gnew | exact gsetn gnew | assumption | exact gsetn (by assumption) | refine gpush ?_ | refine gset ?_ (by first | omega | (simp; omega)) )) rfl rfl (by first | rfl | (show (true && (Abs.scalar _ && true)) = true; rw [Bool.true_and, Bool.and_true]; assumption))) ?_
  refine Wk.q rfl rfl rfl (Qk.assign rfl) ?_
  refine Wk.next ?_
  refine Wc.store fun s3 e3 => ?_
  have ho5 : Old s s3 := by subst e3; exact (ho3.trans ho4).gset (by omega)
  have hg5 : s3.get (s.size + 2) = some ⟨[.int .i64 (x * (q : Int) + -p), .int .i64 (q : Nat)], .rw⟩ := by subst e3; exact gsetn hg4
  refine Wc.doneC (fun _ _ => rfl) (ares_cell rfl (alW sh41 (by first | assumption | repeat (first | exact gnew | exact gsetn gnew | assumption | exact gsetn (by assumption) | refine gpush ?_ | refine gset ?_ (by first | omega | (simp; omega)) )) (by simp) rfl) (ares_tmp rfl ares_nil)) ?_
  exact ⟨rfl, ho5⟩
end Go.Proofs.Ytfgnjndicidpkaa
