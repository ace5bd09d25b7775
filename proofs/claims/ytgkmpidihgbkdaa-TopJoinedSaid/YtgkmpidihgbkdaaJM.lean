/- What the reference says of a network. -/
import Derived.Test.YtgkmpidihgbkdaaJL
namespace Go.Proofs.Ytgkmpidihgbkdaa
open Go.Abs
variable {K : Known}

def arcOk (N : Int) (a : Arc) : Prop := 0 ≤ a.fr ∧ a.fr < N ∧ 0 ≤ a.to ∧ a.to < N ∧ a.fr ≠ a.to ∧ 0 ≤ a.cap ∧ a.cap ≤ 1000000

set_option maxRecDepth 100000 in
theorem c5 (hK : Late K) {v : Value} {N : Int} {l : List Arc} {s : St} (hv : ARow s v l) :
    Ev Try.prog K (.func (.func 5) #[] #[]) [.agg #[.int .i64 N, v]] s fun r s' => ∃ b, r = .bool b ∧ Old s s' := by
  refine Ev.enterK (hK.none (by decide) _) Try.func5 rfl rfl (Nat.le_of_ble_eq_true rfl) ?_
  refine Wc.tail ?_
  refine Wc.assoc ?_
  refine Wc.region ?_
  refine Wk.f rfl rfl rfl (Fk.box rfl rfl) ?_
  refine Wk.q rfl rfl rfl (Qk.assign rfl) ?_
  refine Wk.next ?_
  refine Wc.store fun s1 e1 => ?_
  have ho1 : Old s s1 := by subst e1; exact Old.push _ _
  have hg1 : s1.get s.size = some ⟨[.int .i64 N, v], .rw⟩ := by subst e1; exact gnew
  refine Wc.assoc ?_
  refine Wc.region ?_
  refine Wk.q rfl rfl rfl (Qk.fa rfl fd24_0) ?_
  refine Wk.r rfl rfl rfl (Rk.cell rfl sh3 (by first | assumption | repeat (first | exact gnew | exact gsetn gnew | assumption | refine gpush ?_ | refine gset ?_ (by simp; omega) )) (by simp) rfl) ?_
  refine Wk.b rfl rfl rfl (Qk.bin rfl rfl rfl) fun b h5 => ?_
  cases b
  · -- t5 = False
    refine Wk.q rfl rfl rfl (Qk.move rfl) ?_
    refine Wk.no rfl rfl rfl ?_
    refine Wk.no rfl rfl rfl ?_
    refine Wk.no rfl rfl rfl ?_
    refine Wk.q rfl rfl rfl (Qk.pickF rfl rfl) ?_
    refine Wk.q rfl rfl rfl (Qk.move rfl) ?_
    refine Wk.q rfl rfl rfl (Qk.fa rfl fd24_1) ?_
    refine Wk.r rfl rfl rfl (Rk.cell rfl sh22 (by first | assumption | repeat (first | exact gnew | exact gsetn gnew | assumption | refine gpush ?_ | refine gset ?_ (by simp; omega) )) (by simp) rfl) ?_
    refine Wk.q rfl rfl rfl (Qk.lenR rfl rfl rfl hv sl22) ?_
    refine Wk.b rfl rfl rfl (Qk.bin rfl rfl rfl) fun b h15 => ?_
    cases b
    · -- t15 = False
      refine Wk.q rfl rfl rfl (Qk.move rfl) ?_
      refine Wk.no rfl rfl rfl ?_
      refine Wk.no rfl rfl rfl ?_
      refine Wk.no rfl rfl rfl ?_
      refine Wk.no rfl rfl rfl ?_
      refine Wk.q rfl rfl rfl (Qk.pickF rfl rfl) ?_
      refine Wk.q rfl rfl rfl (Qk.pickF rfl rfl) ?_
      refine Wk.q rfl rfl rfl (Qk.move rfl) ?_
      refine Wk.q rfl rfl rfl (Qk.fa rfl fd24_1) ?_
      refine Wk.r rfl rfl rfl (Rk.cell rfl sh22 (by first | assumption | repeat (first | exact gnew | exact gsetn gnew | assumption | refine gpush ?_ | refine gset ?_ (by simp; omega) )) (by simp) rfl) ?_
      refine Wk.q rfl rfl rfl (Qk.lenR rfl rfl rfl hv sl22) ?_
      refine Wk.q rfl rfl rfl (Qk.bin rfl rfl rfl) ?_
      refine Wk.q rfl rfl rfl (Qk.pickF rfl rfl) ?_
      refine Wk.q rfl rfl rfl (Qk.assign rfl) ?_
      refine Wk.next ?_
      refine Wc.done'' (fun _ _ => rfl) rfl ?_
      exact ⟨_, rfl, ho1⟩
    · -- t15 = True
      refine Wk.q rfl rfl rfl (Qk.move rfl) ?_
      refine Wk.q rfl rfl rfl (Qk.fa rfl fd24_1) ?_
      refine Wk.r rfl rfl rfl (Rk.cell rfl sh22 (by first | assumption | repeat (first | exact gnew | exact gsetn gnew | assumption | refine gpush ?_ | refine gset ?_ (by simp; omega) )) (by simp) rfl) ?_
      refine Wk.q rfl rfl rfl (Qk.lenR rfl rfl rfl hv sl22) ?_
      refine Wk.b rfl rfl rfl (Qk.bin rfl rfl rfl) fun b h20 => ?_
      cases b
      · -- t20 = False
        refine Wk.q rfl rfl rfl (Qk.pickT rfl rfl) ?_
        refine Wk.q rfl rfl rfl (Qk.pickF rfl rfl) ?_
        refine Wk.q rfl rfl rfl (Qk.move rfl) ?_
        refine Wk.q rfl rfl rfl (Qk.fa rfl fd24_1) ?_
        refine Wk.r rfl rfl rfl (Rk.cell rfl sh22 (by first | assumption | repeat (first | exact gnew | exact gsetn gnew | assumption | refine gpush ?_ | refine gset ?_ (by simp; omega) )) (by simp) rfl) ?_
        refine Wk.q rfl rfl rfl (Qk.lenR rfl rfl rfl hv sl22) ?_
        refine Wk.q rfl rfl rfl (Qk.bin rfl rfl rfl) ?_
        refine Wk.q rfl rfl rfl (Qk.pickF rfl rfl) ?_
        refine Wk.q rfl rfl rfl (Qk.assign rfl) ?_
        refine Wk.next ?_
        refine Wc.done'' (fun _ _ => rfl) rfl ?_
        exact ⟨_, rfl, ho1⟩
      · -- t20 = True
        refine Wk.q rfl rfl rfl (Qk.pickT rfl rfl) ?_
        refine Wk.q rfl rfl rfl (Qk.pickF rfl rfl) ?_
        refine Wk.q rfl rfl rfl (Qk.move rfl) ?_
        refine Wk.no rfl rfl rfl ?_
        refine Wk.no rfl rfl rfl ?_
        refine Wk.no rfl rfl rfl ?_
        refine Wk.no rfl rfl rfl ?_
        refine Wk.q rfl rfl rfl (Qk.pickT rfl rfl) ?_
        refine Wk.q rfl rfl rfl (Qk.assign rfl) ?_
        refine Wk.next ?_
        refine Wc.done'' (fun _ _ => rfl) rfl ?_
        exact ⟨_, rfl, ho1⟩
  · -- t5 = True
    refine Wk.q rfl rfl rfl (Qk.move rfl) ?_
    refine Wk.q rfl rfl rfl (Qk.fa rfl fd24_0) ?_
    refine Wk.r rfl rfl rfl (Rk.cell rfl sh3 (by first | assumption | repeat (first | exact gnew | exact gsetn gnew | assumption | refine gpush ?_ | refine gset ?_ (by simp; omega) )) (by simp) rfl) ?_
    refine Wk.b rfl rfl rfl (Qk.bin rfl rfl rfl) fun b h9 => ?_
    cases b
    · -- t9 = False
      refine Wk.q rfl rfl rfl (Qk.pickT rfl rfl) ?_
      refine Wk.q rfl rfl rfl (Qk.move rfl) ?_
      refine Wk.q rfl rfl rfl (Qk.fa rfl fd24_1) ?_
      refine Wk.r rfl rfl rfl (Rk.cell rfl sh22 (by first | assumption | repeat (first | exact gnew | exact gsetn gnew | assumption | refine gpush ?_ | refine gset ?_ (by simp; omega) )) (by simp) rfl) ?_
      refine Wk.q rfl rfl rfl (Qk.lenR rfl rfl rfl hv sl22) ?_
      refine Wk.b rfl rfl rfl (Qk.bin rfl rfl rfl) fun b h15 => ?_
      cases b
      · -- t15 = False
        refine Wk.q rfl rfl rfl (Qk.move rfl) ?_
        refine Wk.no rfl rfl rfl ?_
        refine Wk.no rfl rfl rfl ?_
        refine Wk.no rfl rfl rfl ?_
        refine Wk.no rfl rfl rfl ?_
        refine Wk.q rfl rfl rfl (Qk.pickF rfl rfl) ?_
        refine Wk.q rfl rfl rfl (Qk.pickF rfl rfl) ?_
        refine Wk.q rfl rfl rfl (Qk.move rfl) ?_
        refine Wk.q rfl rfl rfl (Qk.fa rfl fd24_1) ?_
        refine Wk.r rfl rfl rfl (Rk.cell rfl sh22 (by first | assumption | repeat (first | exact gnew | exact gsetn gnew | assumption | refine gpush ?_ | refine gset ?_ (by simp; omega) )) (by simp) rfl) ?_
        refine Wk.q rfl rfl rfl (Qk.lenR rfl rfl rfl hv sl22) ?_
        refine Wk.q rfl rfl rfl (Qk.bin rfl rfl rfl) ?_
        refine Wk.q rfl rfl rfl (Qk.pickF rfl rfl) ?_
        refine Wk.q rfl rfl rfl (Qk.assign rfl) ?_
        refine Wk.next ?_
        refine Wc.done'' (fun _ _ => rfl) rfl ?_
        exact ⟨_, rfl, ho1⟩
      · -- t15 = True
        refine Wk.q rfl rfl rfl (Qk.move rfl) ?_
        refine Wk.q rfl rfl rfl (Qk.fa rfl fd24_1) ?_
        refine Wk.r rfl rfl rfl (Rk.cell rfl sh22 (by first | assumption | repeat (first | exact gnew | exact gsetn gnew | assumption | refine gpush ?_ | refine gset ?_ (by simp; omega) )) (by simp) rfl) ?_
        refine Wk.q rfl rfl rfl (Qk.lenR rfl rfl rfl hv sl22) ?_
        refine Wk.b rfl rfl rfl (Qk.bin rfl rfl rfl) fun b h20 => ?_
        cases b
        · -- t20 = False
          refine Wk.q rfl rfl rfl (Qk.pickT rfl rfl) ?_
          refine Wk.q rfl rfl rfl (Qk.pickF rfl rfl) ?_
          refine Wk.q rfl rfl rfl (Qk.move rfl) ?_
          refine Wk.q rfl rfl rfl (Qk.fa rfl fd24_1) ?_
          refine Wk.r rfl rfl rfl (Rk.cell rfl sh22 (by first | assumption | repeat (first | exact gnew | exact gsetn gnew | assumption | refine gpush ?_ | refine gset ?_ (by simp; omega) )) (by simp) rfl) ?_
          refine Wk.q rfl rfl rfl (Qk.lenR rfl rfl rfl hv sl22) ?_
          refine Wk.q rfl rfl rfl (Qk.bin rfl rfl rfl) ?_
          refine Wk.q rfl rfl rfl (Qk.pickF rfl rfl) ?_
          refine Wk.q rfl rfl rfl (Qk.assign rfl) ?_
          refine Wk.next ?_
          refine Wc.done'' (fun _ _ => rfl) rfl ?_
          exact ⟨_, rfl, ho1⟩
        · -- t20 = True
          refine Wk.q rfl rfl rfl (Qk.pickT rfl rfl) ?_
          refine Wk.q rfl rfl rfl (Qk.pickF rfl rfl) ?_
          refine Wk.q rfl rfl rfl (Qk.move rfl) ?_
          refine Wk.no rfl rfl rfl ?_
          refine Wk.no rfl rfl rfl ?_
          refine Wk.no rfl rfl rfl ?_
          refine Wk.no rfl rfl rfl ?_
          refine Wk.q rfl rfl rfl (Qk.pickT rfl rfl) ?_
          refine Wk.q rfl rfl rfl (Qk.assign rfl) ?_
          refine Wk.next ?_
          refine Wc.done'' (fun _ _ => rfl) rfl ?_
          exact ⟨_, rfl, ho1⟩
    · -- t9 = True
      refine Wk.q rfl rfl rfl (Qk.pickT rfl rfl) ?_
      refine Wk.q rfl rfl rfl (Qk.move rfl) ?_
      refine Wk.no rfl rfl rfl ?_
      refine Wk.no rfl rfl rfl ?_
      refine Wk.no rfl rfl rfl ?_
      refine Wk.no rfl rfl rfl ?_
      refine Wk.no rfl rfl rfl ?_
      refine Wk.no rfl rfl rfl ?_
      refine Wk.no rfl rfl rfl ?_
      refine Wk.no rfl rfl rfl ?_
      refine Wk.no rfl rfl rfl ?_
      refine Wk.no rfl rfl rfl ?_
      refine Wk.q rfl rfl rfl (Qk.pickT rfl rfl) ?_
      refine Wk.q rfl rfl rfl (Qk.move rfl) ?_
      refine Wk.no rfl rfl rfl ?_
      refine Wk.no rfl rfl rfl ?_
      refine Wk.no rfl rfl rfl ?_
      refine Wk.no rfl rfl rfl ?_
      refine Wk.q rfl rfl rfl (Qk.pickT rfl rfl) ?_
      refine Wk.q rfl rfl rfl (Qk.assign rfl) ?_
      refine Wk.next ?_
      refine Wc.done'' (fun _ _ => rfl) rfl ?_
      exact ⟨_, rfl, ho1⟩
set_option maxRecDepth 100000 in
theorem c6 (hK : Late K) {v : Value} {N : Int} {l : List Arc} {s : St} (hv : ARow s v l) :
    Ev Try.prog K (.func (.func 6) #[] #[]) [.agg #[.int .i64 N, v]] s fun r s' => ∃ e, r = .int .i64 e ∧ (e = 0 → NetOk N l) ∧ Old s s' := by
  refine Ev.enterK (hK.none (by decide) _) Try.func6 rfl rfl (Nat.le_of_ble_eq_true rfl) ?_
  refine Wc.tail ?_
  refine Wc.assoc ?_
  refine Wc.region ?_
  refine Wk.f rfl rfl rfl (Fk.box rfl rfl) ?_
  refine Wk.q rfl rfl rfl (Qk.assign rfl) ?_
  refine Wk.next ?_
  refine Wc.store fun s1 e1 => ?_
  have ho1 : Old s s1 := by subst e1; exact Old.push _ _
  have hg1 : s1.get s.size = some ⟨[.int .i64 N, v], .rw⟩ := by subst e1; exact gnew
  refine Wc.assoc ?_
  refine Wc.assoc ?_
  refine Wc.region ?_
  refine Wk.q rfl rfl rfl (Qk.fa rfl fd24_0) ?_
  refine Wk.r rfl rfl rfl (Rk.cell rfl sh3 (by first | assumption | repeat (first | exact gnew | exact gsetn gnew | assumption | refine gpush ?_ | refine gset ?_ (by simp; omega) )) (by simp) rfl) ?_
  refine Wk.b rfl rfl rfl (Qk.bin rfl rfl rfl) fun b h7 => ?_
  cases b
  · -- t7 = False
    have hN1 : ¬ N > 40 := of_decide_eq_false h7
    refine Wk.q rfl rfl rfl (Qk.move rfl) ?_
    refine Wk.q rfl rfl rfl (Qk.fa rfl fd24_1) ?_
    refine Wk.r rfl rfl rfl (Rk.cell rfl sh22 (by first | assumption | repeat (first | exact gnew | exact gsetn gnew | assumption | refine gpush ?_ | refine gset ?_ (by simp; omega) )) (by simp) rfl) ?_
    refine Wk.q rfl rfl rfl (Qk.lenR rfl rfl rfl hv sl22) ?_
    refine Wk.b rfl rfl rfl (Qk.bin rfl rfl rfl) fun b h12 => ?_
    cases b
    · -- t12 = False
      have hll : ¬ (l.length : Int) > 200 := of_decide_eq_false h12
      refine Wk.q rfl rfl rfl (Qk.pickF rfl rfl) ?_
      refine Wk.next ?_
      refine Wc.condF rfl ?_
      refine Wc.skip ?_
      refine Wc.assoc ?_
      refine Wc.assoc ?_
      refine Wc.region ?_
      refine Wk.q rfl rfl rfl (Qk.fa rfl fd24_0) ?_
      refine Wk.r rfl rfl rfl (Rk.cell rfl sh3 (by first | assumption | repeat (first | exact gnew | exact gsetn gnew | assumption | refine gpush ?_ | refine gset ?_ (by simp; omega) )) (by simp) rfl) ?_
      refine Wk.b rfl rfl rfl (Qk.bin rfl rfl rfl) fun b h16 => ?_
      cases b
      · -- t16 = False
        have hN2 : ¬ N < 2 := of_decide_eq_false h16
        refine Wk.next ?_
        refine Wc.condF rfl ?_
        refine Wc.skip ?_
        refine Wc.assoc ?_
        refine Wc.assoc ?_
        refine Wc.region ?_
        refine Wk.q rfl rfl rfl (Qk.assign rfl) ?_
        refine Wk.next ?_
        refine Wc.block ?_
        refine Wc.loop (σ := Nat × St) (fun y => Old s y.2 ∧ y.2.get s.size = some ⟨[.int .i64 N, v], .rw⟩ ∧ y.1 ≤ l.length ∧ ∀ j, j < y.1 → arcOk N (arcAt l j)) (fun y => [(1, .pointer (some ⟨s.size, 0, none⟩)), (3, .int .i64 y.1)]) (fun y => y.2) (fun y => l.length - y.1) (0, s1)
          ⟨ho1, hg1, Nat.zero_le _, fun j hj => absurd hj (Nat.not_lt_zero _)⟩ ⟨rfl, rfl, trivial⟩ rfl ?_
        clear ho1 hg1
        rintro ⟨i, sa⟩ ⟨ho1, hg1, hi, hok⟩
        dsimp only at ho1 hg1 hi hok ⊢
        refine Wc.assoc ?_
        refine Wc.assoc ?_
        refine Wc.region ?_
        refine Wk.q rfl rfl rfl (Qk.move rfl) ?_
        refine Wk.q rfl rfl rfl (Qk.fa rfl fd24_1) ?_
        refine Wk.r rfl rfl rfl (Rk.cell rfl sh22 (by first | assumption | repeat (first | exact gnew | exact gsetn gnew | assumption | refine gpush ?_ | refine gset ?_ (by simp; omega) )) (by simp) rfl) ?_
        refine Wk.q rfl rfl rfl (Qk.lenR rfl rfl rfl hv sl22) ?_
        refine Wk.b rfl rfl rfl (Qk.bin rfl rfl rfl) fun b h21 => ?_
        cases b
        · -- t21 = False
          refine Wk.next ?_
          refine Wc.condF rfl ?_
          refine Wc.jump (fun _ _ => rfl) ?_
          refine Wc.assoc ?_
          refine Wc.region ?_
          refine Wk.q rfl rfl rfl (Qk.assign rfl) ?_
          refine Wk.next ?_
          refine Wc.done'' (fun _ _ => rfl) rfl ?_
          have hge : l.length ≤ i := by
            have : ¬ ((i : Int) < (l.length : Int)) := of_decide_eq_false h21
            omega
          obtain rfl : i = l.length := by omega
          exact ⟨0, rfl, fun _ => ⟨by omega, by omega, by omega, hok⟩, ho1⟩
        · -- t21 = True
          have hlt : i < l.length := by
            have : (i : Int) < (l.length : Int) := of_decide_eq_true h21
            omega
          refine Wk.next ?_
          refine Wc.condT rfl ?_
          refine Wc.skip ?_
          refine Wc.assoc ?_
          refine Wc.block ?_
          refine Wc.assoc ?_
          refine Wc.region ?_
          refine Wk.q rfl rfl rfl (Qk.fa rfl fd24_1) ?_
          refine Wk.r rfl rfl rfl (Rk.cell rfl sh22 (by first | assumption | repeat (first | exact gnew | exact gsetn gnew | assumption | refine gpush ?_ | refine gset ?_ (by simp; omega) )) (by simp) rfl) ?_
          refine Wk.q rfl rfl rfl (Qk.move rfl) ?_
          refine Wk.q rfl rfl rfl (Qk.at rfl rfl ar22 sl22 (hv.old (by assumption)) (by constructor <;> omega)) ?_
          refine Wk.r rfl rfl rfl (Rk.arc rfl sh47 (hv.old (by assumption)) (i := i) (by omega)) ?_
          refine Wk.f rfl rfl rfl (Fk.alloc ze47) ?_
          refine Wk.h rfl rfl rfl (Hk.arc rfl rfl sh47 (by first | assumption | repeat (first | exact gnew | exact gsetn gnew | assumption | refine gpush ?_ | refine gset ?_ (by simp; omega) )) rfl) ?_
          refine Wk.next ?_
          refine Wc.store fun s2 e2 => ?_
          have ho2 : Old s s2 := by subst e2; exact (ho1.gpush _).gset ho1.1
          have hg2 : s2.get s.size = some ⟨[.int .i64 N, v], .rw⟩ := by subst e2; exact gset (gpush hg1) (Nat.ne_of_gt (St.get_lt hg1))
          have ha2 : s2.get sa.size = some ⟨acells (arcAt l i), .rw⟩ := by subst e2; exact gsetn gnew
          clear e2
          refine Wc.assoc ?_
          refine Wc.region ?_
          refine Wk.q rfl rfl rfl (Qk.fa rfl fd47_0) ?_
          refine Wk.r rfl rfl rfl (Rk.cell rfl sh3 (by first | assumption | repeat (first | exact gnew | exact gsetn gnew | assumption | refine gpush ?_ | refine gset ?_ (by simp; omega) )) (by simp) rfl) ?_
          refine Wk.b rfl rfl rfl (Qk.bin rfl rfl rfl) fun b h31 => ?_
          cases b
          · -- t31 = False
            refine Wk.q rfl rfl rfl (Qk.move rfl) ?_
            refine Wk.q rfl rfl rfl (Qk.fa rfl fd47_0) ?_
            refine Wk.r rfl rfl rfl (Rk.cell rfl sh3 (by first | assumption | repeat (first | exact gnew | exact gsetn gnew | assumption | refine gpush ?_ | refine gset ?_ (by simp; omega) )) (by simp) rfl) ?_
            refine Wk.q rfl rfl rfl (Qk.fa rfl fd24_0) ?_
            refine Wk.r rfl rfl rfl (Rk.cell rfl sh3 (by first | assumption | repeat (first | exact gnew | exact gsetn gnew | assumption | refine gpush ?_ | refine gset ?_ (by simp; omega) )) (by simp) rfl) ?_
            refine Wk.b rfl rfl rfl (Qk.bin rfl rfl rfl) fun b h37 => ?_
            cases b
            · -- t37 = False
              refine Wk.q rfl rfl rfl (Qk.pickF rfl rfl) ?_
              refine Wk.q rfl rfl rfl (Qk.move rfl) ?_
              refine Wk.q rfl rfl rfl (Qk.fa rfl fd47_1) ?_
              refine Wk.r rfl rfl rfl (Rk.cell rfl sh3 (by first | assumption | repeat (first | exact gnew | exact gsetn gnew | assumption | refine gpush ?_ | refine gset ?_ (by simp; omega) )) (by simp) rfl) ?_
              refine Wk.b rfl rfl rfl (Qk.bin rfl rfl rfl) fun b h42 => ?_
              cases b
              · -- t42 = False
                refine Wk.q rfl rfl rfl (Qk.pickF rfl rfl) ?_
                refine Wk.q rfl rfl rfl (Qk.move rfl) ?_
                refine Wk.q rfl rfl rfl (Qk.fa rfl fd47_1) ?_
                refine Wk.r rfl rfl rfl (Rk.cell rfl sh3 (by first | assumption | repeat (first | exact gnew | exact gsetn gnew | assumption | refine gpush ?_ | refine gset ?_ (by simp; omega) )) (by simp) rfl) ?_
                refine Wk.q rfl rfl rfl (Qk.fa rfl fd24_0) ?_
                refine Wk.r rfl rfl rfl (Rk.cell rfl sh3 (by first | assumption | repeat (first | exact gnew | exact gsetn gnew | assumption | refine gpush ?_ | refine gset ?_ (by simp; omega) )) (by simp) rfl) ?_
                refine Wk.b rfl rfl rfl (Qk.bin rfl rfl rfl) fun b h49 => ?_
                cases b
                · -- t49 = False
                  refine Wk.q rfl rfl rfl (Qk.pickF rfl rfl) ?_
                  refine Wk.q rfl rfl rfl (Qk.move rfl) ?_
                  refine Wk.q rfl rfl rfl (Qk.fa rfl fd47_0) ?_
                  refine Wk.r rfl rfl rfl (Rk.cell rfl sh3 (by first | assumption | repeat (first | exact gnew | exact gsetn gnew | assumption | refine gpush ?_ | refine gset ?_ (by simp; omega) )) (by simp) rfl) ?_
                  refine Wk.q rfl rfl rfl (Qk.fa rfl fd47_1) ?_
                  refine Wk.r rfl rfl rfl (Rk.cell rfl sh3 (by first | assumption | repeat (first | exact gnew | exact gsetn gnew | assumption | refine gpush ?_ | refine gset ?_ (by simp; omega) )) (by simp) rfl) ?_
                  refine Wk.b rfl rfl rfl (Qk.bin rfl rfl rfl) fun b h56 => ?_
                  cases b
                  · -- t56 = False
                    refine Wk.q rfl rfl rfl (Qk.pickF rfl rfl) ?_
                    refine Wk.q rfl rfl rfl (Qk.move rfl) ?_
                    refine Wk.q rfl rfl rfl (Qk.fa rfl fd47_2) ?_
                    refine Wk.r rfl rfl rfl (Rk.cell rfl sh3 (by first | assumption | repeat (first | exact gnew | exact gsetn gnew | assumption | refine gpush ?_ | refine gset ?_ (by simp; omega) )) (by simp) rfl) ?_
                    refine Wk.b rfl rfl rfl (Qk.bin rfl rfl rfl) fun b h61 => ?_
                    cases b
                    · -- t61 = False
                      refine Wk.q rfl rfl rfl (Qk.pickF rfl rfl) ?_
                      refine Wk.q rfl rfl rfl (Qk.move rfl) ?_
                      refine Wk.q rfl rfl rfl (Qk.fa rfl fd47_2) ?_
                      refine Wk.r rfl rfl rfl (Rk.cell rfl sh3 (by first | assumption | repeat (first | exact gnew | exact gsetn gnew | assumption | refine gpush ?_ | refine gset ?_ (by simp; omega) )) (by simp) rfl) ?_
                      refine Wk.b rfl rfl rfl (Qk.bin rfl rfl rfl) fun b h66 => ?_
                      cases b
                      · -- t66 = False
                        refine Wk.q rfl rfl rfl (Qk.pickF rfl rfl) ?_
                        refine Wk.next ?_
                        refine Wc.condF rfl ?_
                        refine Wc.skip ?_
                        refine Wc.thence (fun _ _ => rfl) ?_
                        refine Wc.region ?_
                        refine Wk.q rfl rfl rfl (Qk.move rfl) ?_
                        refine Wk.q rfl rfl rfl (Qk.add rfl rfl (by omega)) ?_
                        refine Wk.q rfl rfl rfl (Qk.assign rfl) ?_
                        refine Wk.next ?_
                        refine Wc.finish fun fr hf => ?_
                        refine ⟨(i + 1, s2), ⟨ho2, hg2, hlt, fun j hj => ?_⟩, by dsimp only; omega, rfl, hf.less ⟨rfl, rfl, trivial⟩⟩
                        by_cases e : j = i
                        · subst e
                          have q1 := of_decide_eq_false h31
                          have q2 := of_decide_eq_false h37
                          have q3 := of_decide_eq_false h42
                          have q4 := of_decide_eq_false h49
                          have q5 := ne_of_beq_false h56
                          have q6 := of_decide_eq_false h61
                          have q7 := of_decide_eq_false h66
                          exact ⟨by omega, by omega, by omega, by omega, q5, by omega, by omega⟩
                        · exact hok j (by dsimp only at hj; omega)
                      · -- t66 = True
                        refine Wk.q rfl rfl rfl (Qk.pickF rfl rfl) ?_
                        refine Wk.next ?_
                        refine Wc.condT rfl ?_
                        refine Wc.assoc ?_
                        refine Wc.region ?_
                        refine Wk.q rfl rfl rfl (Qk.assign rfl) ?_
                        refine Wk.next ?_
                        refine Wc.done'' (fun _ _ => rfl) rfl ?_
                        exact ⟨8, rfl, fun e => absurd e (by decide), ho2⟩
                    · -- t61 = True
                      refine Wk.q rfl rfl rfl (Qk.pickF rfl rfl) ?_
                      refine Wk.q rfl rfl rfl (Qk.move rfl) ?_
                      refine Wk.no rfl rfl rfl ?_
                      refine Wk.no rfl rfl rfl ?_
                      refine Wk.no rfl rfl rfl ?_
                      refine Wk.q rfl rfl rfl (Qk.pickT rfl rfl) ?_
                      refine Wk.next ?_
                      refine Wc.condT rfl ?_
                      refine Wc.assoc ?_
                      refine Wc.region ?_
                      refine Wk.q rfl rfl rfl (Qk.assign rfl) ?_
                      refine Wk.next ?_
                      refine Wc.done'' (fun _ _ => rfl) rfl ?_
                      exact ⟨8, rfl, fun e => absurd e (by decide), ho2⟩
                  · -- t56 = True
                    refine Wk.q rfl rfl rfl (Qk.pickF rfl rfl) ?_
                    refine Wk.q rfl rfl rfl (Qk.move rfl) ?_
                    refine Wk.no rfl rfl rfl ?_
                    refine Wk.no rfl rfl rfl ?_
                    refine Wk.no rfl rfl rfl ?_
                    refine Wk.q rfl rfl rfl (Qk.pickT rfl rfl) ?_
                    refine Wk.q rfl rfl rfl (Qk.move rfl) ?_
                    refine Wk.no rfl rfl rfl ?_
                    refine Wk.no rfl rfl rfl ?_
                    refine Wk.no rfl rfl rfl ?_
                    refine Wk.q rfl rfl rfl (Qk.pickT rfl rfl) ?_
                    refine Wk.next ?_
                    refine Wc.condT rfl ?_
                    refine Wc.assoc ?_
                    refine Wc.region ?_
                    refine Wk.q rfl rfl rfl (Qk.assign rfl) ?_
                    refine Wk.next ?_
                    refine Wc.done'' (fun _ _ => rfl) rfl ?_
                    exact ⟨8, rfl, fun e => absurd e (by decide), ho2⟩
                · -- t49 = True
                  refine Wk.q rfl rfl rfl (Qk.pickF rfl rfl) ?_
                  refine Wk.q rfl rfl rfl (Qk.move rfl) ?_
                  refine Wk.no rfl rfl rfl ?_
                  refine Wk.no rfl rfl rfl ?_
                  refine Wk.no rfl rfl rfl ?_
                  refine Wk.no rfl rfl rfl ?_
                  refine Wk.no rfl rfl rfl ?_
                  refine Wk.q rfl rfl rfl (Qk.pickT rfl rfl) ?_
                  refine Wk.q rfl rfl rfl (Qk.move rfl) ?_
                  refine Wk.no rfl rfl rfl ?_
                  refine Wk.no rfl rfl rfl ?_
                  refine Wk.no rfl rfl rfl ?_
                  refine Wk.q rfl rfl rfl (Qk.pickT rfl rfl) ?_
                  refine Wk.q rfl rfl rfl (Qk.move rfl) ?_
                  refine Wk.no rfl rfl rfl ?_
                  refine Wk.no rfl rfl rfl ?_
                  refine Wk.no rfl rfl rfl ?_
                  refine Wk.q rfl rfl rfl (Qk.pickT rfl rfl) ?_
                  refine Wk.next ?_
                  refine Wc.condT rfl ?_
                  refine Wc.assoc ?_
                  refine Wc.region ?_
                  refine Wk.q rfl rfl rfl (Qk.assign rfl) ?_
                  refine Wk.next ?_
                  refine Wc.done'' (fun _ _ => rfl) rfl ?_
                  exact ⟨8, rfl, fun e => absurd e (by decide), ho2⟩
              · -- t42 = True
                refine Wk.q rfl rfl rfl (Qk.pickF rfl rfl) ?_
                refine Wk.q rfl rfl rfl (Qk.move rfl) ?_
                refine Wk.no rfl rfl rfl ?_
                refine Wk.no rfl rfl rfl ?_
                refine Wk.no rfl rfl rfl ?_
                refine Wk.no rfl rfl rfl ?_
                refine Wk.no rfl rfl rfl ?_
                refine Wk.q rfl rfl rfl (Qk.pickT rfl rfl) ?_
                refine Wk.q rfl rfl rfl (Qk.move rfl) ?_
                refine Wk.no rfl rfl rfl ?_
                refine Wk.no rfl rfl rfl ?_
                refine Wk.no rfl rfl rfl ?_
                refine Wk.no rfl rfl rfl ?_
                refine Wk.no rfl rfl rfl ?_
                refine Wk.q rfl rfl rfl (Qk.pickT rfl rfl) ?_
                refine Wk.q rfl rfl rfl (Qk.move rfl) ?_
                refine Wk.no rfl rfl rfl ?_
                refine Wk.no rfl rfl rfl ?_
                refine Wk.no rfl rfl rfl ?_
                refine Wk.q rfl rfl rfl (Qk.pickT rfl rfl) ?_
                refine Wk.q rfl rfl rfl (Qk.move rfl) ?_
                refine Wk.no rfl rfl rfl ?_
                refine Wk.no rfl rfl rfl ?_
                refine Wk.no rfl rfl rfl ?_
                refine Wk.q rfl rfl rfl (Qk.pickT rfl rfl) ?_
                refine Wk.next ?_
                refine Wc.condT rfl ?_
                refine Wc.assoc ?_
                refine Wc.region ?_
                refine Wk.q rfl rfl rfl (Qk.assign rfl) ?_
                refine Wk.next ?_
                refine Wc.done'' (fun _ _ => rfl) rfl ?_
                exact ⟨8, rfl, fun e => absurd e (by decide), ho2⟩
            · -- t37 = True
              refine Wk.q rfl rfl rfl (Qk.pickF rfl rfl) ?_
              refine Wk.q rfl rfl rfl (Qk.move rfl) ?_
              refine Wk.no rfl rfl rfl ?_
              refine Wk.no rfl rfl rfl ?_
              refine Wk.no rfl rfl rfl ?_
              refine Wk.q rfl rfl rfl (Qk.pickT rfl rfl) ?_
              refine Wk.q rfl rfl rfl (Qk.move rfl) ?_
              refine Wk.no rfl rfl rfl ?_
              refine Wk.no rfl rfl rfl ?_
              refine Wk.no rfl rfl rfl ?_
              refine Wk.no rfl rfl rfl ?_
              refine Wk.no rfl rfl rfl ?_
              refine Wk.q rfl rfl rfl (Qk.pickT rfl rfl) ?_
              refine Wk.q rfl rfl rfl (Qk.move rfl) ?_
              refine Wk.no rfl rfl rfl ?_
              refine Wk.no rfl rfl rfl ?_
              refine Wk.no rfl rfl rfl ?_
              refine Wk.no rfl rfl rfl ?_
              refine Wk.no rfl rfl rfl ?_
              refine Wk.q rfl rfl rfl (Qk.pickT rfl rfl) ?_
              refine Wk.q rfl rfl rfl (Qk.move rfl) ?_
              refine Wk.no rfl rfl rfl ?_
              refine Wk.no rfl rfl rfl ?_
              refine Wk.no rfl rfl rfl ?_
              refine Wk.q rfl rfl rfl (Qk.pickT rfl rfl) ?_
              refine Wk.q rfl rfl rfl (Qk.move rfl) ?_
              refine Wk.no rfl rfl rfl ?_
              refine Wk.no rfl rfl rfl ?_
              refine Wk.no rfl rfl rfl ?_
              refine Wk.q rfl rfl rfl (Qk.pickT rfl rfl) ?_
              refine Wk.next ?_
              refine Wc.condT rfl ?_
              refine Wc.assoc ?_
              refine Wc.region ?_
              refine Wk.q rfl rfl rfl (Qk.assign rfl) ?_
              refine Wk.next ?_
              refine Wc.done'' (fun _ _ => rfl) rfl ?_
              exact ⟨8, rfl, fun e => absurd e (by decide), ho2⟩
          · -- t31 = True
            refine Wk.q rfl rfl rfl (Qk.move rfl) ?_
            refine Wk.no rfl rfl rfl ?_
            refine Wk.no rfl rfl rfl ?_
            refine Wk.no rfl rfl rfl ?_
            refine Wk.no rfl rfl rfl ?_
            refine Wk.no rfl rfl rfl ?_
            refine Wk.q rfl rfl rfl (Qk.pickT rfl rfl) ?_
            refine Wk.q rfl rfl rfl (Qk.move rfl) ?_
            refine Wk.no rfl rfl rfl ?_
            refine Wk.no rfl rfl rfl ?_
            refine Wk.no rfl rfl rfl ?_
            refine Wk.q rfl rfl rfl (Qk.pickT rfl rfl) ?_
            refine Wk.q rfl rfl rfl (Qk.move rfl) ?_
            refine Wk.no rfl rfl rfl ?_
            refine Wk.no rfl rfl rfl ?_
            refine Wk.no rfl rfl rfl ?_
            refine Wk.no rfl rfl rfl ?_
            refine Wk.no rfl rfl rfl ?_
            refine Wk.q rfl rfl rfl (Qk.pickT rfl rfl) ?_
            refine Wk.q rfl rfl rfl (Qk.move rfl) ?_
            refine Wk.no rfl rfl rfl ?_
            refine Wk.no rfl rfl rfl ?_
            refine Wk.no rfl rfl rfl ?_
            refine Wk.no rfl rfl rfl ?_
            refine Wk.no rfl rfl rfl ?_
            refine Wk.q rfl rfl rfl (Qk.pickT rfl rfl) ?_
            refine Wk.q rfl rfl rfl (Qk.move rfl) ?_
            refine Wk.no rfl rfl rfl ?_
            refine Wk.no rfl rfl rfl ?_
            refine Wk.no rfl rfl rfl ?_
            refine Wk.q rfl rfl rfl (Qk.pickT rfl rfl) ?_
            refine Wk.q rfl rfl rfl (Qk.move rfl) ?_
            refine Wk.no rfl rfl rfl ?_
            refine Wk.no rfl rfl rfl ?_
            refine Wk.no rfl rfl rfl ?_
            refine Wk.q rfl rfl rfl (Qk.pickT rfl rfl) ?_
            refine Wk.next ?_
            refine Wc.condT rfl ?_
            refine Wc.assoc ?_
            refine Wc.region ?_
            refine Wk.q rfl rfl rfl (Qk.assign rfl) ?_
            refine Wk.next ?_
            refine Wc.done'' (fun _ _ => rfl) rfl ?_
            exact ⟨8, rfl, fun e => absurd e (by decide), ho2⟩
      · -- t16 = True
        refine Wk.next ?_
        refine Wc.condT rfl ?_
        refine Wc.assoc ?_
        refine Wc.region ?_
        refine Wk.q rfl rfl rfl (Qk.assign rfl) ?_
        refine Wk.next ?_
        refine Wc.done'' (fun _ _ => rfl) rfl ?_
        exact ⟨8, rfl, fun e => absurd e (by decide), ho1⟩
    · -- t12 = True
      refine Wk.q rfl rfl rfl (Qk.pickF rfl rfl) ?_
      refine Wk.next ?_
      refine Wc.condT rfl ?_
      refine Wc.assoc ?_
      refine Wc.region ?_
      refine Wk.q rfl rfl rfl (Qk.assign rfl) ?_
      refine Wk.next ?_
      refine Wc.done'' (fun _ _ => rfl) rfl ?_
      exact ⟨4, rfl, fun e => absurd e (by decide), ho1⟩
  · -- t7 = True
    refine Wk.q rfl rfl rfl (Qk.move rfl) ?_
    refine Wk.no rfl rfl rfl ?_
    refine Wk.no rfl rfl rfl ?_
    refine Wk.no rfl rfl rfl ?_
    refine Wk.no rfl rfl rfl ?_
    refine Wk.q rfl rfl rfl (Qk.pickT rfl rfl) ?_
    refine Wk.next ?_
    refine Wc.condT rfl ?_
    refine Wc.assoc ?_
    refine Wc.region ?_
    refine Wk.q rfl rfl rfl (Qk.assign rfl) ?_
    refine Wk.next ?_
    refine Wc.done'' (fun _ _ => rfl) rfl ?_
    exact ⟨4, rfl, fun e => absurd e (by decide), ho1⟩
end Go.Proofs.Ytgkmpidihgbkdaa
