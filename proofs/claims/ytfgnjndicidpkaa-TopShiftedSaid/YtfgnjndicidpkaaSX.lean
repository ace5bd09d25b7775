/- Leases that are leases; gains. -/
import Derived.Test.YtfgnjndicidpkaaSW
namespace Go.Proofs.Ytfgnjndicidpkaa
open Go.Abs Go.IntWalk
variable {K : Known}
theorem ic_app {a b : List Int} : ic (a ++ b) = ic a ++ ic b := by simp [ic]
theorem mul60 {x : Int} {d : Nat} (hx : 0 ≤ x ∧ x ≤ 1000000) (hd : 1 ≤ d ∧ d ≤ 60) : 0 ≤ x * (d : Int) ∧ x * (d : Int) ≤ 60000000 := ⟨Int.mul_nonneg hx.1 (by omega), by
  have := Int.mul_le_mul hx.2 (show (d : Int) ≤ 60 by omega) (by omega) (by omega)
  omega⟩
theorem mulr {x : Int} {d : Nat} (hx : 0 ≤ x ∧ x ≤ 10000000) (hd : 1 ≤ d ∧ d ≤ 60) : 0 ≤ x * (d : Int) ∧ x * (d : Int) ≤ 600000000 := ⟨Int.mul_nonneg hx.1 (by omega), by
  have := Int.mul_le_mul hx.2 (show (d : Int) ≤ 60 by omega) (by omega) (by omega)
  omega⟩
/-- A lease that is one. -/
structure LeaseOk (M : List (List Int)) (rent : Int) (b pl : List Int) (den : Nat) : Prop where
  asg : AsgL M.length b
  len : pl.length = M.length
  dn : 1 ≤ den ∧ den ≤ 60
  bd : ∀ j, j < M.length → -10000000 * (den : Int) ≤ pl.getD j 0 ∧ pl.getD j 0 ≤ 10000000 * (den : Int)
  sum : Sm M.length (fun j => pl.getD j 0) = rent * (den : Int)
set_option maxHeartbeats 4000000 in
set_option maxRecDepth 100000 in
theorem c59 (hK : Late K) {M : List (List Int)} {v bv pv : Value} {rent : Int} {b pl : List Int} {den : Nat} {s : St} (hm : MRow s v M) (hB : Bids M) (hr : 0 ≤ rent ∧ rent ≤ 10000000) (hb0 : IRow s bv b) (hp0 : IRow s pv pl) (hL : LeaseOk M rent b pl den) :
    Ev Try.prog K (.func (.func 59) #[] #[]) [.agg #[v, .int .i64 rent], .agg #[bv, pv, .int .i64 (den : Nat)]] s fun r s' => r = .int .i64 0 ∧ Old s s' := by
  obtain ⟨rv, hR, hrow⟩ := id hm
  obtain ⟨av, capv, rfl, _⟩ := id hR
  obtain ⟨ab, capb, rfl, _⟩ := id hb0
  obtain ⟨ap, capp, rfl, _⟩ := id hp0
  have hm6 := hB.most
  have hden := hL.dn
  have hll := hL.len
  have hrd := mulr hr hden
  refine Ev.enterK (hK.none (by decide) _) Try.func59 rfl rfl (Nat.le_of_ble_eq_true rfl) ?_
  refine Wc.tail ?_
  refine Wc.assoc ?_
  refine Wc.region ?_
  refine Wk.f rfl rfl rfl (Fk.box rfl rfl) ?_
  refine Wk.f rfl rfl rfl (Fk.box rfl rfl) ?_
  refine Wk.q rfl rfl rfl (Qk.assign rfl) ?_
  refine Wk.next ?_
  refine Wc.store fun s1 e1 => ?_
  have ho1 : Old s s1 := by subst e1; exact (Old.push _ _).gpush _
  have hg2 : s1.get s.size = some ⟨[.slice av M.length capv, .int .i64 rent], .rw⟩ := by subst e1; exact gpush gnew
  have hg3 : s1.get (s.size + 1) = some ⟨[.slice ab b.length capb, .slice ap pl.length capp, .int .i64 (den : Nat)], .rw⟩ := by subst e1; exact g1
  have hza : ∀ a : Blk, (s.push a).size = s.size + 1 := fun a => by simp
  rw [hza]
  clear e1
  refine Wc.assoc ?_
  refine Wc.assoc ?_
  refine Wc.region ?_
  refine Wk.r rfl rfl rfl (Rk.cells rfl sh24 (by first | assumption | repeat (first | exact gnew | exact gsetn gnew | assumption | exact gsetn (by assumption) | exact gsetn (gset (by assumption) (by omega)) | refine gpush ?_ | refine gset ?_ (by first | omega | (simp; omega)) )) (by simp) (by simp)) ?_
  refine Wk.c rfl rfl rfl (Ck.call rfl rfl) ((c28 hK (hm.old ho1) hB hr).mono ?_)
  rintro r t1 ⟨rfl, ho2⟩
  have hg2 := ho2.get hg2
  have hg3 := ho2.get hg3
  have ho2 := ho1.trans ho2
  refine Wk.q rfl rfl rfl (Qk.assign rfl) ?_
  refine Wk.next ?_
  refine Wc.assoc ?_
  refine Wc.region ?_
  refine Wk.q rfl rfl rfl (Qk.move rfl) ?_
  refine Wk.b rfl rfl rfl (Qk.bin rfl rfl rfl) fun b h14 => ?_
  obtain rfl : b = false := by exact h14.symm -- t14
  refine Wk.next ?_
  refine Wc.condF rfl ?_
  refine Wc.skip ?_
  refine Wc.assoc ?_
  refine Wc.assoc ?_
  refine Wc.region ?_
  refine Wk.q rfl rfl rfl (Qk.fa rfl fd24_0) ?_
  refine Wk.r rfl rfl rfl (Rk.cell rfl sh22 (by first | assumption | repeat (first | exact gnew | exact gsetn gnew | assumption | exact gsetn (by assumption) | exact gsetn (gset (by assumption) (by omega)) | refine gpush ?_ | refine gset ?_ (by first | omega | (simp; omega)) )) (by simp) rfl) ?_
  refine Wk.q rfl rfl rfl (Qk.fa rfl fd46_0) ?_
  refine Wk.r rfl rfl rfl (Rk.cell rfl sh29 (by first | assumption | repeat (first | exact gnew | exact gsetn gnew | assumption | exact gsetn (by assumption) | exact gsetn (gset (by assumption) (by omega)) | refine gpush ?_ | refine gset ?_ (by first | omega | (simp; omega)) )) (by simp) rfl) ?_
  refine Wk.c rfl rfl rfl (Ck.call rfl rfl) ((c9 hK (hm.old ho2) (hb0.old ho2) hB hL.asg).mono ?_)
  rintro r t2 ⟨rfl, ho3⟩
  have hg2 := ho3.get hg2
  have hg3 := ho3.get hg3
  have ho3 := ho2.trans ho3
  have hpv := hp0.old ho3
  have hR := Row.old ho3 hR
  refine Wk.q rfl rfl rfl (Qk.move rfl) ?_
  refine Wk.q rfl rfl rfl (Qk.extract rfl rfl) ?_
  refine Wk.q rfl rfl rfl (Qk.extract rfl rfl) ?_
  refine Wk.q rfl rfl rfl (Qk.assign rfl) ?_
  refine Wk.q rfl rfl rfl (Qk.assign rfl) ?_
  refine Wk.next ?_
  refine Wc.assoc ?_
  refine Wc.region ?_
  refine Wk.q rfl rfl rfl (Qk.move rfl) ?_
  refine Wk.b rfl rfl rfl (Qk.bin rfl rfl rfl) fun b h25 => ?_
  obtain rfl : b = false := by exact h25.symm -- t25
  refine Wk.next ?_
  refine Wc.condF rfl ?_
  refine Wc.skip ?_
  refine Wc.assoc ?_
  refine Wc.assoc ?_
  refine Wc.region ?_
  refine Wk.q rfl rfl rfl (Qk.fa rfl fd46_2) ?_
  refine Wk.r rfl rfl rfl (Rk.cell rfl sh3 (by first | assumption | repeat (first | exact gnew | exact gsetn gnew | assumption | exact gsetn (by assumption) | exact gsetn (gset (by assumption) (by omega)) | refine gpush ?_ | refine gset ?_ (by first | omega | (simp; omega)) )) (by simp) rfl) ?_
  refine Wk.b rfl rfl rfl (Qk.bin rfl rfl rfl) fun b h29 => ?_
  obtain rfl : b = false := by rw [← h29, decide_eq_false_iff_not]; omega -- t29
  refine Wk.q rfl rfl rfl (Qk.move rfl) ?_
  refine Wk.q rfl rfl rfl (Qk.fa rfl fd46_2) ?_
  refine Wk.r rfl rfl rfl (Rk.cell rfl sh3 (by first | assumption | repeat (first | exact gnew | exact gsetn gnew | assumption | exact gsetn (by assumption) | exact gsetn (gset (by assumption) (by omega)) | refine gpush ?_ | refine gset ?_ (by first | omega | (simp; omega)) )) (by simp) rfl) ?_
  refine Wk.b rfl rfl rfl (Qk.bin rfl rfl rfl) fun b h33 => ?_
  obtain rfl : b = false := by rw [← h33, decide_eq_false_iff_not]; omega -- t33
  refine Wk.q rfl rfl rfl (Qk.pickF rfl rfl) ?_
  refine Wk.q rfl rfl rfl (Qk.move rfl) ?_
  refine Wk.q rfl rfl rfl (Qk.fa rfl fd46_1) ?_
  refine Wk.r rfl rfl rfl (Rk.cell rfl sh29 (by first | assumption | repeat (first | exact gnew | exact gsetn gnew | assumption | exact gsetn (by assumption) | exact gsetn (gset (by assumption) (by omega)) | refine gpush ?_ | refine gset ?_ (by first | omega | (simp; omega)) )) (by simp) rfl) ?_
  refine Wk.q rfl rfl rfl (Qk.lenR rfl rfl rfl hpv sl29) ?_
  refine Wk.q rfl rfl rfl (Qk.fa rfl fd24_0) ?_
  refine Wk.r rfl rfl rfl (Rk.cell rfl sh22 (by first | assumption | repeat (first | exact gnew | exact gsetn gnew | assumption | exact gsetn (by assumption) | exact gsetn (gset (by assumption) (by omega)) | refine gpush ?_ | refine gset ?_ (by first | omega | (simp; omega)) )) (by simp) rfl) ?_
  refine Wk.q rfl rfl rfl (Qk.lenR rfl rfl rfl hR sl22) ?_
  refine Wk.b rfl rfl rfl (Qk.bin rfl rfl rfl) fun b h42 => ?_
  obtain rfl : b = false := by rw [← h42]; simp [hL.len] -- t42
  refine Wk.q rfl rfl rfl (Qk.pickF rfl rfl) ?_
  refine Wk.next ?_
  refine Wc.condF rfl ?_
  refine Wc.skip ?_
  refine Wc.assoc ?_
  refine Wc.region ?_
  refine Wk.q rfl rfl rfl (Qk.assign rfl) ?_
  refine Wk.next ?_
  refine Wc.assoc ?_
  refine Wc.assoc ?_
  refine Wc.region ?_
  refine Wk.q rfl rfl rfl (Qk.fa rfl fd46_1) ?_
  refine Wk.r rfl rfl rfl (Rk.cell rfl sh29 (by first | assumption | repeat (first | exact gnew | exact gsetn gnew | assumption | exact gsetn (by assumption) | exact gsetn (gset (by assumption) (by omega)) | refine gpush ?_ | refine gset ?_ (by first | omega | (simp; omega)) )) (by simp) rfl) ?_
  refine Wk.q rfl rfl rfl (Qk.lenR rfl rfl rfl hpv sl29) ?_
  refine Wk.q rfl rfl rfl (Qk.move rfl) ?_
  refine Wk.next ?_
  refine Wc.block ?_
  refine Wc.loop (σ := Nat) (fun k => k ≤ M.length) (fun k => [(2, .pointer (some ⟨s.size, 0, none⟩)), (3, .pointer (some ⟨s.size + 1, 0, none⟩)), (8, .int .i64 (Sm k (fun j => pl.getD j 0))), (45, .slice ap pl.length capp), (46, goInt pl.length), (47, .int .i64 k)]) (fun _ => t2) (fun k => M.length - k) 0 (Nat.zero_le _) ⟨rfl, rfl, rfl, rfl, rfl, rfl, trivial⟩ rfl ?_
  rintro k hk
  have hsb := Sm.bdg (n := k) (g := fun j => pl.getD j 0) (B := 600000000) fun x hx => by have := hL.bd x (by omega); omega
  refine Wc.assoc ?_
  refine Wc.region ?_
  refine Wk.b rfl rfl rfl (Qk.bin rfl rfl rfl) fun b h48 => ?_
  cases b
  · -- t48 = False
    have hge : k = M.length := by
      have : ¬ ((k : Int) < (pl.length : Int)) := of_decide_eq_false h48
      omega
    subst hge
    refine Wk.next ?_
    refine Wc.assoc ?_
    refine Wc.condF rfl ?_
    refine Wc.jump (fun _ _ => rfl) ?_
    refine Wc.assoc ?_
    refine Wc.assoc ?_
    refine Wc.region ?_
    refine Wk.q rfl rfl rfl (Qk.move rfl) ?_
    refine Wk.q rfl rfl rfl (Qk.fa rfl fd24_1) ?_
    refine Wk.r rfl rfl rfl (Rk.cell rfl sh3 (by first | assumption | repeat (first | exact gnew | exact gsetn gnew | assumption | exact gsetn (by assumption) | exact gsetn (gset (by assumption) (by omega)) | refine gpush ?_ | refine gset ?_ (by first | omega | (simp; omega)) )) (by simp) rfl) ?_
    refine Wk.q rfl rfl rfl (Qk.fa rfl fd46_2) ?_
    refine Wk.r rfl rfl rfl (Rk.cell rfl sh3 (by first | assumption | repeat (first | exact gnew | exact gsetn gnew | assumption | exact gsetn (by assumption) | exact gsetn (gset (by assumption) (by omega)) | refine gpush ?_ | refine gset ?_ (by first | omega | (simp; omega)) )) (by simp) rfl) ?_
    refine Wk.q rfl rfl rfl (Qk.mul rfl rfl (by omega)) ?_
    refine Wk.b rfl rfl rfl (Qk.bin rfl rfl rfl) fun b h73 => ?_
    obtain rfl : b = false := by rw [← h73, hL.sum]; simp -- t73
    refine Wk.next ?_
    refine Wc.condF rfl ?_
    refine Wc.skip ?_
    refine Wc.assoc ?_
    refine Wc.region ?_
    refine Wk.q rfl rfl rfl (Qk.assign rfl) ?_
    refine Wk.next ?_
    refine Wc.done'' (fun _ _ => rfl) rfl ?_
    exact ⟨rfl, ho3⟩
  · -- t48 = True
    have hkl : k < M.length := by
      have : (k : Int) < (pl.length : Int) := of_decide_eq_true h48
      omega
    have hkb := hL.bd k hkl
    refine Wk.next ?_
    refine Wc.assoc ?_
    refine Wc.condT rfl ?_
    refine Wc.skip ?_
    refine Wc.assoc ?_
    refine Wc.block ?_
    refine Wc.assoc ?_
    refine Wc.region ?_
    refine Wk.q rfl rfl rfl (Qk.at rfl rfl ar29 sl29 hpv (by constructor <;> omega)) ?_
    refine Wk.r rfl rfl rfl (Rk.intR rfl sh3 hpv (i := k) (by omega)) ?_
    refine Wk.q rfl rfl rfl (Qk.assign rfl) ?_
    refine Wk.next ?_
    refine Wc.assoc ?_
    refine Wc.assoc ?_
    refine Wc.region ?_
    refine Wk.q rfl rfl rfl (Qk.move rfl) ?_
    refine Wk.q rfl rfl rfl (Qk.fa rfl fd46_2) ?_
    refine Wk.r rfl rfl rfl (Rk.cell rfl sh3 (by first | assumption | repeat (first | exact gnew | exact gsetn gnew | assumption | exact gsetn (by assumption) | exact gsetn (gset (by assumption) (by omega)) | refine gpush ?_ | refine gset ?_ (by first | omega | (simp; omega)) )) (by simp) rfl) ?_
    refine Wk.q rfl rfl rfl (Qk.mul rfl rfl (by omega)) ?_
    refine Wk.b rfl rfl rfl (Qk.bin rfl rfl rfl) fun b h55 => ?_
    obtain rfl : b = false := by rw [← h55, decide_eq_false_iff_not]; omega -- t55
    refine Wk.q rfl rfl rfl (Qk.move rfl) ?_
    refine Wk.q rfl rfl rfl (Qk.move rfl) ?_
    refine Wk.q rfl rfl rfl (Qk.fa rfl fd46_2) ?_
    refine Wk.r rfl rfl rfl (Rk.cell rfl sh3 (by first | assumption | repeat (first | exact gnew | exact gsetn gnew | assumption | exact gsetn (by assumption) | exact gsetn (gset (by assumption) (by omega)) | refine gpush ?_ | refine gset ?_ (by first | omega | (simp; omega)) )) (by simp) rfl) ?_
    refine Wk.q rfl rfl rfl (Qk.mul rfl rfl (by omega)) ?_
    refine Wk.b rfl rfl rfl (Qk.bin rfl rfl rfl) fun b h61 => ?_
    obtain rfl : b = false := by rw [← h61, decide_eq_false_iff_not]; omega -- t61
    refine Wk.q rfl rfl rfl (Qk.pickF rfl rfl) ?_
    refine Wk.next ?_
    refine Wc.condF rfl ?_
    refine Wc.skip ?_
    refine Wc.region ?_
    refine Wk.q rfl rfl rfl (Qk.move rfl) ?_
    refine Wk.q rfl rfl rfl (Qk.move rfl) ?_
    refine Wk.q rfl rfl rfl (Qk.add rfl rfl (by omega)) ?_
    refine Wk.q rfl rfl rfl (Qk.assign rfl) ?_
    refine Wk.next ?_
    refine Wc.thence (fun _ _ => rfl) ?_
    refine Wc.region ?_
    refine Wk.q rfl rfl rfl (Qk.add rfl rfl (by omega)) ?_
    refine Wk.q rfl rfl rfl (Qk.move rfl) ?_
    refine Wk.next ?_
    refine Wc.finish fun fr hf => ?_
    exact ⟨k + 1, hkl, by omega, rfl, hf.less ⟨rfl, rfl, rfl, rfl, rfl, rfl, trivial⟩⟩
set_option maxHeartbeats 4000000 in
set_option maxRecDepth 100000 in
theorem c37 (hK : Late K) {M : List (List Int)} {v bv pv : Value} {rent : Int} {b pl : List Int} {den : Nat} {s : St} (hm : MRow s v M) (hB : Bids M) (hr : 0 ≤ rent ∧ rent ≤ 10000000) (hb0 : IRow s bv b) (hp0 : IRow s pv pl) (hL : LeaseOk M rent b pl den) :
    Ev Try.prog K (.func (.func 37) #[] #[]) [.agg #[v, .int .i64 rent], .agg #[bv, pv, .int .i64 (den : Nat)]] s fun r s' => ∃ G gv, r = .tuple #[gv, .int .i64 0] ∧ IRow s' gv G ∧ G.length = M.length ∧ (∀ k, k < M.length → G.getD k 0 = matM M k (asgOf b k) * (den : Int) - pl.getD (asgOf b k) 0) ∧ Old s s' := by
  obtain ⟨rv, hR, hrow⟩ := id hm
  obtain ⟨av, capv, rfl, _⟩ := id hR
  obtain ⟨ab, capb, rfl, _⟩ := id hb0
  obtain ⟨ap, capp, rfl, _⟩ := id hp0
  have hm6 := hB.most
  have hden := hL.dn
  have hll := hL.len
  have hbl := hL.asg.len
  refine Ev.enterK (hK.none (by decide) _) Try.func37 rfl rfl (Nat.le_of_ble_eq_true rfl) ?_
  refine Wc.tail ?_
  refine Wc.assoc ?_
  refine Wc.region ?_
  refine Wk.f rfl rfl rfl (Fk.box rfl rfl) ?_
  refine Wk.f rfl rfl rfl (Fk.box rfl rfl) ?_
  refine Wk.q rfl rfl rfl (Qk.assign rfl) ?_
  refine Wk.q rfl rfl rfl (Qk.assign rfl) ?_
  refine Wk.next ?_
  refine Wc.store fun s1 e1 => ?_
  have ho1 : Old s s1 := by subst e1; exact (Old.push _ _).gpush _
  have hg2 : s1.get s.size = some ⟨[.slice av M.length capv, .int .i64 rent], .rw⟩ := by subst e1; exact gpush gnew
  have hg3 : s1.get (s.size + 1) = some ⟨[.slice ab b.length capb, .slice ap pl.length capp, .int .i64 (den : Nat)], .rw⟩ := by subst e1; exact g1
  have hza : ∀ a : Blk, (s.push a).size = s.size + 1 := fun a => by simp
  rw [hza]
  clear e1
  refine Wc.assoc ?_
  refine Wc.assoc ?_
  refine Wc.region ?_
  refine Wk.r rfl rfl rfl (Rk.cells rfl sh24 (by first | assumption | repeat (first | exact gnew | exact gsetn gnew | assumption | exact gsetn (by assumption) | exact gsetn (gset (by assumption) (by omega)) | refine gpush ?_ | refine gset ?_ (by first | omega | (simp; omega)) )) (by simp) (by simp)) ?_
  refine Wk.r rfl rfl rfl (Rk.cells rfl sh46 (by first | assumption | repeat (first | exact gnew | exact gsetn gnew | assumption | exact gsetn (by assumption) | exact gsetn (gset (by assumption) (by omega)) | refine gpush ?_ | refine gset ?_ (by first | omega | (simp; omega)) )) (by simp) (by simp)) ?_
  refine Wk.c rfl rfl rfl (Ck.call rfl rfl) ((c59 hK (hm.old ho1) hB hr (hb0.old ho1) (hp0.old ho1) hL).mono ?_)
  rintro r t2 ⟨rfl, ho2⟩
  have hg2 := ho2.get hg2
  have hg3 := ho2.get hg3
  have ho2 := ho1.trans ho2
  have hb := hb0.old ho2
  refine Wk.q rfl rfl rfl (Qk.assign rfl) ?_
  refine Wk.next ?_
  refine Wc.assoc ?_
  refine Wc.region ?_
  refine Wk.q rfl rfl rfl (Qk.move rfl) ?_
  refine Wk.b rfl rfl rfl (Qk.bin rfl rfl rfl) fun b h14 => ?_
  obtain rfl : b = false := by exact h14.symm -- t14
  refine Wk.next ?_
  refine Wc.condF rfl ?_
  refine Wc.skip ?_
  refine Wc.assoc ?_
  refine Wc.region ?_
  refine Wk.q rfl rfl rfl (Qk.assign rfl) ?_
  refine Wk.next ?_
  refine Wc.assoc ?_
  refine Wc.assoc ?_
  refine Wc.region ?_
  refine Wk.q rfl rfl rfl (Qk.fa rfl fd46_0) ?_
  refine Wk.r rfl rfl rfl (Rk.cell rfl sh29 (by first | assumption | repeat (first | exact gnew | exact gsetn gnew | assumption | exact gsetn (by assumption) | exact gsetn (gset (by assumption) (by omega)) | refine gpush ?_ | refine gset ?_ (by first | omega | (simp; omega)) )) (by simp) rfl) ?_
  refine Wk.q rfl rfl rfl (Qk.lenR rfl rfl rfl hb sl29) ?_
  refine Wk.q rfl rfl rfl (Qk.move rfl) ?_
  refine Wk.next ?_
  refine Wc.block ?_
  refine Wc.loop (σ := List Int × Value × Option Nat × St) (fun y => y.1.length ≤ M.length ∧ Old t2 y.2.2.2 ∧ Grew y.2.2.2 t2.size y.2.1 1 y.1.length (ic y.1) y.2.2.1 ∧ ∀ k, k < y.1.length → y.1.getD k 0 = matM M k (asgOf b k) * (den : Int) - pl.getD (asgOf b k) 0)
    (fun y => [(2, .pointer (some ⟨s.size, 0, none⟩)), (3, .pointer (some ⟨s.size + 1, 0, none⟩)), (7, y.2.1), (17, .slice ab b.length capb), (18, goInt b.length), (19, .int .i64 y.1.length)]) (fun y => y.2.2.2) (fun y => M.length - y.1.length) ([], .slice none 0 0, none, t2)
    ⟨Nat.zero_le _, Old.refl _, Grew.nil, fun k hk => absurd hk (Nat.not_lt_zero _)⟩ ⟨rfl, rfl, rfl, rfl, rfl, rfl, trivial⟩ rfl ?_
  clear hb
  rintro ⟨G, gv, bo, sa⟩ ⟨hi, hoa, hgr, hgx⟩
  dsimp only at hi hoa hgr hgx ⊢
  generalize hi' : G.length = i at *
  have hb := (hb0.old ho2).old hoa
  refine Wc.assoc ?_
  refine Wc.region ?_
  refine Wk.b rfl rfl rfl (Qk.bin rfl rfl rfl) fun b h20 => ?_
  cases b
  · -- t20 = False
    have hge : i = M.length := by
      have : ¬ ((i : Int) < (b.length : Int)) := of_decide_eq_false h20
      omega
    refine Wk.next ?_
    refine Wc.assoc ?_
    refine Wc.condF rfl ?_
    refine Wc.jump (fun _ _ => rfl) ?_
    refine Wc.assoc ?_
    refine Wc.region ?_
    refine Wk.q rfl rfl rfl (Qk.move rfl) ?_
    refine Wk.q rfl rfl rfl (Qk.assign rfl) ?_
    refine Wk.q rfl rfl rfl (Qk.assign rfl) ?_
    refine Wk.next ?_
    refine Wc.done'' (fun _ _ => rfl) rfl ?_
    refine ⟨G, gv, rfl, ?_, by omega, fun k hk => hgx k (by omega), ho2.trans hoa⟩
    subst hi'
    exact hgr.irow
  · -- t20 = True
    have hil : i < M.length := by
      have : (i : Int) < (b.length : Int) := of_decide_eq_true h20
      omega
    have hai := hL.asg.asg.lt i hil
    have hni : b.getD i 0 = (asgOf b i : Nat) := by have := hL.asg.nonneg i hil; unfold asgOf; omega
    refine Wk.next ?_
    refine Wc.assoc ?_
    refine Wc.condT rfl ?_
    refine Wc.skip ?_
    refine Wc.assoc ?_
    refine Wc.block ?_
    refine Wc.assoc ?_
    refine Wc.region ?_
    refine Wk.q rfl rfl rfl (Qk.move rfl) ?_
    refine Wk.q rfl rfl rfl (Qk.at rfl rfl ar29 sl29 hb (by constructor <;> omega)) ?_
    refine Wk.r rfl rfl rfl (Rk.eqv (u := .int .i64 (asgOf b i : Nat)) (Rk.intR rfl sh3 hb (i := i) (by omega)) (by rw [hni])) ?_
    refine Wk.q rfl rfl rfl (Qk.assign rfl) ?_
    refine Wk.q rfl rfl rfl (Qk.assign rfl) ?_
    refine Wk.next ?_
    refine Wc.draw ?_
    refine Wd.store' fun s2 e2 => ?_
    have ho3 : Old sa s2 := by subst e2; exact Old.reserve _ _
    have hos : Old s s2 := ho2.trans (hoa.trans ho3)
    have hg2 := (hoa.trans ho3).get hg2
    have hg3 := (hoa.trans ho3).get hg3
    have hd5 : s2.get (sa.size + 18) = some ⟨[], .dead⟩ := by subst e2; exact gnone (by decide)
    have hri : IRow s2 (rv i) (rowM M i) := (hrow i hil).old hos
    have hpv := hp0.old hos
    have hsqi := hB.square i hil
    have hr1' : 0 ≤ (rowM M i).getD (asgOf b i) 0 ∧ (rowM M i).getD (asgOf b i) 0 ≤ 1000000 := hB.range i (asgOf b i) hil hai
    have hmu := mul60 hr1' hL.dn
    have hpb := hL.bd _ hai
    refine Wd.q rfl rfl rfl (Qk.move rfl) ?_
    refine Wd.q rfl rfl rfl (Qk.fa rfl fd24_0) ?_
    refine Wd.r rfl rfl rfl (Rk.cell rfl sh22 (by first | assumption | repeat (first | exact gnew | exact gsetn gnew | assumption | exact gsetn (by assumption) | exact gsetn (gset (by assumption) (by omega)) | refine gpush ?_ | refine gset ?_ (by first | omega | (simp; omega)) )) (by simp) rfl) (by kernel_rfl) ?_
    refine Wd.q rfl rfl rfl (Qk.move rfl) ?_
    refine Wd.q rfl rfl rfl (Qk.at rfl rfl ar22 sl22 (hR.old (by assumption)) (by constructor <;> omega)) ?_
    refine Wd.r rfl rfl rfl (Rk.atS rfl sh29 (hR.old (by assumption)) (i := i) (by omega) rfl) (by kernel_rfl) ?_
    refine Wd.q rfl rfl rfl (Qk.move rfl) ?_
    refine Wd.q rfl rfl rfl (Qk.at rfl rfl ar29 sl29 hri (by constructor <;> omega)) ?_
    refine Wd.r rfl rfl rfl (Rk.intR rfl sh3 hri (i := (asgOf b i)) (by omega)) (by kernel_rfl) ?_
    refine Wd.q rfl rfl rfl (Qk.fa rfl fd46_2) ?_
    refine Wd.r rfl rfl rfl (Rk.cell rfl sh3 (by first | assumption | repeat (first | exact gnew | exact gsetn gnew | assumption | exact gsetn (by assumption) | exact gsetn (gset (by assumption) (by omega)) | refine gpush ?_ | refine gset ?_ (by first | omega | (simp; omega)) )) (by simp) rfl) (by kernel_rfl) ?_
    refine Wd.q rfl rfl rfl (Qk.mul rfl rfl (by omega)) ?_
    refine Wd.q rfl rfl rfl (Qk.fa rfl fd46_1) ?_
    refine Wd.r rfl rfl rfl (Rk.cell rfl sh29 (by first | assumption | repeat (first | exact gnew | exact gsetn gnew | assumption | exact gsetn (by assumption) | exact gsetn (gset (by assumption) (by omega)) | refine gpush ?_ | refine gset ?_ (by first | omega | (simp; omega)) )) (by simp) rfl) (by kernel_rfl) ?_
    refine Wd.q rfl rfl rfl (Qk.move rfl) ?_
    refine Wd.q rfl rfl rfl (Qk.at rfl rfl ar29 sl29 hpv (by constructor <;> omega)) ?_
    refine Wd.r rfl rfl rfl (Rk.intR rfl sh3 hpv (i := (asgOf b i)) (by omega)) (by kernel_rfl) ?_
    refine Wd.q rfl rfl rfl (Qk.sub rfl rfl (by omega)) ?_
    refine Wd.f rfl rfl rfl (Fk.one rfl rfl sl29 ze3 rfl rfl rfl (by decide)) ?_
    refine Wd.store' fun s3 e3 => ?_
    have ho6 : Old sa s3 := by subst e3; exact (ho3.same []).old.gset (by omega)
    have hone : IRow s3 (.slice (some ⟨sa.size + 18, 0, none⟩) 1 1) [(rowM M i).getD (asgOf b i) 0 * (den : Int) - pl.getD (asgOf b i) 0] := by subst e3; exact IRow.of_get (l := [(rowM M i).getD (asgOf b i) 0 * (den : Int) - pl.getD (asgOf b i) 0]) (gsetn hd5) (by simp) (Nat.le_refl _)
    obtain ⟨rv', t7, bo7, hap, hgr7, hb7, hsame7⟩ := append_ints ap29 (hgr.same (ho6.same []) (by simp)) (by have := hoa.1; have := ho6.1; omega) hone (by have := hB.most; simp; omega)
    refine Wd.h rfl rfl rfl (Hk.append rfl rfl rfl rfl (by first | exact hap | assumption)) (by kernel_rfl) (by kernel_rfl) ?_
    refine Wd.q rfl rfl rfl (Qk.assign rfl) ?_
    refine Wd.next ?_
    refine Wc.store fun s4 e4 => ?_
    subst e4
    refine Wc.thence (fun _ _ => rfl) ?_
    refine Wc.region ?_
    refine Wk.q rfl rfl rfl (Qk.add rfl rfl (by omega)) ?_
    refine Wk.q rfl rfl rfl (Qk.move rfl) ?_
    refine Wk.next ?_
    refine Wc.finish fun fr hf => ?_
    refine ⟨(G ++ [(rowM M i).getD (asgOf b i) 0 * (den : Int) - pl.getD (asgOf b i) 0], rv', bo7, s4), ⟨by simp; omega, Same.older (hoa.trans ho6) hsame7 (by intro x hx; cases bo with | none => simp at hx | some d => simp at hx; subst hx; exact hgr.ge rfl), ?_, fun k hk => ?_⟩, by dsimp only; simp; omega, rfl, hf.less ⟨rfl, rfl, rfl, rfl, rfl, by simp [kget, hi'], trivial⟩⟩
    · dsimp only
      subst hi'
      rw [ic_app, List.length_append]
      exact hgr7
    · dsimp only at hk ⊢
      rw [List.length_append] at hk
      subst hi'
      by_cases e : k = G.length
      · subst e; rw [getD_app2]; rfl
      · have hk' : k < G.length := by simp at hk; omega
        rw [getD_app1 hk']; exact hgx k hk'
end Go.Proofs.Ytfgnjndicidpkaa
