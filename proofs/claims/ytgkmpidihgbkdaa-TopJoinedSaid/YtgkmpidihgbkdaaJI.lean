/- A way through the rest of a flow: (*flow.work).way. -/
import Derived.Test.YtgkmpidihgbkdaaJE
import Derived.Test.YtgkmpidihgbkdaaJO
import Derived.Test.YtgkmpidihgbkdaaJW
namespace Go.Proofs.Ytgkmpidihgbkdaa
open Go.Abs
variable {K : Known}

/-- The cells of a flow that grows. -/
def wcells (N : Int) (v : Value) (l : List Arc) (bf bs k : Nat) (d : Int) : List Value := [.int .i64 N, v, .slice (some ⟨bf, 0, none⟩) l.length l.length, .slice (some ⟨bs, 0, none⟩) N.toNat N.toNat, .int .i64 k, .int .i64 d]

set_option maxRecDepth 100000 in
theorem c56 (hK : Late K) {v : Value} {N : Int} {l : List Arc} {sb : St} (hok : NetOk N l) (hv : ARow sb v l) {bw bf bs k : Nat} {d : Int} (hb1 : bw ≠ bf) (hb2 : bw ≠ bs) (hb3 : bf ≠ bs) (hb4 : sb.size ≤ bf) (hb5 : sb.size ≤ bs) (hk : k ≤ l.length) (hd : 1 ≤ d) :
    ∀ (q : Nat) (seen : List Bool) (xs : List Int) (u0 t0 mo : Int) (s : St), unseen seen < q → Old sb s → s.get bw = some ⟨wcells N v l bf bs k d, .rw⟩ → s.get bf = some ⟨ic xs, .rw⟩ → s.get bs = some ⟨bc seen, .rw⟩ →
      xs.length = l.length → inRange l (am xs) → seen.length = N.toNat → (0 ≤ u0 ∧ u0 < N) → (0 ≤ t0 ∧ t0 < N) → inB seen u0 = false → inB seen t0 = false → (1 ≤ mo ∧ mo ≤ 200000000) →
      Ev Try.prog K (.func (.func 56) #[] #[]) [.pointer (some ⟨bw, 0, none⟩), .int .i64 u0, .int .i64 t0, .int .i64 mo] s fun r s' => ∃ x xs' seen', r = .int .i64 x ∧ Same [bf, bs] s s' ∧ s'.get bf = some ⟨ic xs', .rw⟩ ∧ s'.get bs = some ⟨bc seen', .rw⟩ ∧ WayOk N l k d xs seen u0 t0 mo x xs' seen' := by
  have hN1 := hok.most
  have hN2 := hok.two
  have hll := hok.len
  intro q
  induction q with
  | zero => intro seen xs u0 t0 mo s hq; omega
  | succ q ih =>
  intro seen xs u0 t0 mo s hq ho hW hF hS hxl hr hsl hu ht hu0 ht0 hmo
  refine Ev.enterK (hK.none (by decide) _) Try.func56 rfl rfl (Nat.le_of_ble_eq_true rfl) ?_
  refine Wc.tail ?_
  refine Wc.assoc ?_
  refine Wc.region ?_
  refine Wk.q rfl rfl rfl (Qk.assign rfl) ?_
  refine Wk.next ?_
  refine Wc.assoc ?_
  refine Wc.assoc ?_
  refine Wc.region ?_
  refine Wk.q rfl rfl rfl (Qk.move rfl) ?_
  refine Wk.q rfl rfl rfl (Qk.move rfl) ?_
  refine Wk.b rfl rfl rfl (Qk.bin rfl rfl rfl) fun b h15 => ?_
  cases b
  · -- t15 = False
    have hne0 : u0 ≠ t0 := ne_of_beq_false h15
    refine Wk.q rfl rfl rfl (Qk.move rfl) ?_
    refine Wk.q rfl rfl rfl (Qk.move rfl) ?_
    refine Wk.b rfl rfl rfl (Qk.bin rfl rfl rfl) fun b h18 => ?_
    cases b
    · -- t18 = False
      refine Wk.q rfl rfl rfl (Qk.pickF rfl rfl) ?_
      refine Wk.next ?_
      refine Wc.condF rfl ?_
      refine Wc.skip ?_
      refine Wc.assoc ?_
      refine Wc.region ?_
      refine Wk.q rfl rfl rfl (Qk.move rfl) ?_
      refine Wk.q rfl rfl rfl (Qk.nilCheck rfl rfl) ?_
      refine Wk.q rfl rfl rfl (Qk.fa rfl fd83_2) ?_
      refine Wk.r rfl rfl rfl (Rk.cell rfl sh31 (by first | assumption | repeat (first | exact gnew | exact gsetn gnew | assumption | refine gpush ?_ | refine gset ?_ (by simp; omega) )) (by simp) rfl) ?_
      refine Wk.q rfl rfl rfl (Qk.move rfl) ?_
      refine Wk.q rfl rfl rfl (Qk.at1 rfl rfl ar31 sl31 (by constructor <;> omega)) ?_
      refine Wk.h rfl rfl rfl (Hk.bool rfl rfl sh4 (by first | assumption | repeat (first | exact gnew | exact gsetn gnew | assumption | refine gpush ?_ | refine gset ?_ (by simp; omega) )) (by first | omega | (simp; omega))) ?_
      refine Wk.next ?_
      refine Wc.store fun s1 e1 => ?_
      have ho1 : Old sb s1 := by subst e1; exact ho.gset (by omega)
      have hm1 : Same [bf, bs] s s1 := by subst e1; exact (Same.refl _ _).set (.inr (by simp))
      have hW1 : s1.get bw = some ⟨wcells N v l bf bs k d, .rw⟩ := by subst e1; exact gset hW (by omega)
      have hF1 : s1.get bf = some ⟨ic xs, .rw⟩ := by subst e1; exact gset hF (by omega)
      have hS1 : s1.get bs = some ⟨bc (seen.set u0.toNat true), .rw⟩ := by subst e1; exact gsetn hS
      clear e1
      refine Wc.assoc ?_
      refine Wc.assoc ?_
      refine Wc.region ?_
      refine Wk.q rfl rfl rfl (Qk.move rfl) ?_
      refine Wk.q rfl rfl rfl (Qk.nilCheck rfl rfl) ?_
      refine Wk.q rfl rfl rfl (Qk.fa rfl fd83_3) ?_
      refine Wk.r rfl rfl rfl (Rk.cell rfl sh3 (by first | assumption | repeat (first | exact gnew | exact gsetn gnew | assumption | refine gpush ?_ | refine gset ?_ (by simp; omega) )) (by simp) rfl) ?_
      refine Wk.q rfl rfl rfl (Qk.assign rfl) ?_
      refine Wk.next ?_
      refine Wc.block ?_
      refine Wc.loop (σ := Nat × List Bool × St) (fun y => Old sb y.2.2 ∧ Same [bf, bs] s y.2.2 ∧ y.2.2.get bw = some ⟨wcells N v l bf bs k d, .rw⟩ ∧ y.2.2.get bf = some ⟨ic xs, .rw⟩ ∧ y.2.2.get bs = some ⟨bc y.2.1, .rw⟩ ∧ Trying N l (am xs) k d seen u0 t0 y.1 y.2.1 ∧ k ≤ y.1 ∧ y.1 ≤ l.length)
        (fun y => [(0, .pointer (some ⟨bw, 0, none⟩)), (1, .int .i64 u0), (2, .int .i64 t0), (3, .int .i64 mo), (9, .int .i64 y.1)]) (fun y => y.2.2) (fun y => l.length - y.1) (k, _, s1)
        ⟨ho1, hm1, hW1, hF1, hS1, Trying.init hsl hu.1 hu.2 ht.1 hu0 ht0 hne0, Nat.le_refl _, hk⟩ ⟨rfl, rfl, rfl, rfl, rfl, trivial⟩ rfl ?_
      clear ho1 hm1 hW1 hF1 hS1
      rintro ⟨i, seen1, sa⟩ ⟨ho1, hm1, hW1, hF1, hS1, htry, hki, hi⟩
      dsimp only at ho1 hm1 hW1 hF1 hS1 htry hki hi ⊢
      have hsl1 := htry.len
      refine Wc.assoc ?_
      refine Wc.assoc ?_
      refine Wc.region ?_
      refine Wk.q rfl rfl rfl (Qk.move rfl) ?_
      refine Wk.q rfl rfl rfl (Qk.move rfl) ?_
      refine Wk.q rfl rfl rfl (Qk.nilCheck rfl rfl) ?_
      refine Wk.q rfl rfl rfl (Qk.fa rfl fd83_1) ?_
      refine Wk.r rfl rfl rfl (Rk.cell rfl sh28 (by first | assumption | repeat (first | exact gnew | exact gsetn gnew | assumption | refine gpush ?_ | refine gset ?_ (by simp; omega) )) (by simp) rfl) ?_
      refine Wk.q rfl rfl rfl (Qk.len rfl rfl rfl sl28) ?_
      refine Wk.b rfl rfl rfl (Qk.bin rfl rfl rfl) fun b h37 => ?_
      cases b
      · -- t37 = False
        refine Wk.next ?_
        refine Wc.condF rfl ?_
        refine Wc.jump (fun _ _ => rfl) ?_
        refine Wc.assoc ?_
        refine Wc.region ?_
        refine Wk.q rfl rfl rfl (Qk.assign rfl) ?_
        refine Wk.next ?_
        refine Wc.done'' (fun _ _ => rfl) rfl ?_
        have hge : l.length ≤ i := by
          have : ¬ ((i : Int) < (l.length : Int)) := of_decide_eq_false h37
          omega
        obtain rfl : i = l.length := by omega
        exact ⟨0, xs, seen1, rfl, hm1, hF1, hS1, hsl1, .inr ⟨rfl, rfl, htry.done⟩⟩
      · -- t37 = True
        have hlt : i < l.length := by
          have : (i : Int) < (l.length : Int) := of_decide_eq_true h37
          omega
        obtain ⟨a1, a2, a3, a4, a5, a6, a7⟩ := hok.arc i hlt
        have r1 : 0 ≤ xs.getD i 0 := (hr i hlt).1
        have r2 : xs.getD i 0 ≤ (arcAt l i).cap := (hr i hlt).2
        refine Wk.next ?_
        refine Wc.condT rfl ?_
        refine Wc.skip ?_
        refine Wc.assoc ?_
        refine Wc.block ?_
        refine Wc.assoc ?_
        refine Wc.region ?_
        refine Wk.q rfl rfl rfl (Qk.move rfl) ?_
        refine Wk.q rfl rfl rfl (Qk.nilCheck rfl rfl) ?_
        refine Wk.q rfl rfl rfl (Qk.fa rfl fd83_0) ?_
        refine Wk.q rfl rfl rfl (Qk.fa rfl fd24_1) ?_
        refine Wk.r rfl rfl rfl (Rk.cell rfl sh22 (by first | assumption | repeat (first | exact gnew | exact gsetn gnew | assumption | refine gpush ?_ | refine gset ?_ (by simp; omega) )) (by simp) rfl) ?_
        refine Wk.q rfl rfl rfl (Qk.move rfl) ?_
        refine Wk.q rfl rfl rfl (Qk.at rfl rfl ar22 sl22 (hv.old (by assumption)) (by constructor <;> omega)) ?_
        refine Wk.r rfl rfl rfl (Rk.arc rfl sh47 (hv.old (by assumption)) (i := i) (by omega)) ?_
        refine Wk.f rfl rfl rfl (Fk.alloc ze47) ?_
        refine Wk.h rfl rfl rfl (Hk.arc rfl rfl sh47 (by first | assumption | repeat (first | exact gnew | exact gsetn gnew | assumption | refine gpush ?_ | refine gset ?_ (by simp; omega) )) rfl) ?_
        refine Wk.next ?_
        refine Wc.store fun s2 e2 => ?_
        have ho2 : Old sb s2 := by subst e2; exact (ho1.gpush _).gset ho1.1
        have hm2 : Same [bf, bs] s s2 := by subst e2; exact (hm1.push _).set (.inl hm1.1)
        have hW2 : s2.get bw = some ⟨wcells N v l bf bs k d, .rw⟩ := by subst e2; exact gset (gpush hW1) (Nat.ne_of_gt (St.get_lt hW1))
        have hF2 : s2.get bf = some ⟨ic xs, .rw⟩ := by subst e2; exact gset (gpush hF1) (Nat.ne_of_gt (St.get_lt hF1))
        have hS2 : s2.get bs = some ⟨bc seen1, .rw⟩ := by subst e2; exact gset (gpush hS1) (Nat.ne_of_gt (St.get_lt hS1))
        have ha2 : s2.get sa.size = some ⟨acells (arcAt l i), .rw⟩ := by subst e2; exact gsetn gnew
        clear e2
        refine Wc.block ?_
        refine Wc.assoc ?_
        refine Wc.join (σ := Bool) (fun y => y = true ↔ (arcAt l i).fr = u0 ∧ inB seen1 (arcAt l i).to = false ∧ d ≤ (arcAt l i).cap - am xs i) (fun y => [(0, .pointer (some ⟨bw, 0, none⟩)), (1, .int .i64 u0), (2, .int .i64 t0), (3, .int .i64 mo), (9, .int .i64 i), (10, .pointer (some ⟨sa.size, 0, none⟩)), (48, .bool y)]) (fun y => s2) ?_ ?_
        · -- join 8: the first part
          refine Wc.draw0 rfl ?_
          refine Wd.q rfl rfl rfl (Qk.fa rfl fd47_0) ?_
          refine Wd.r rfl rfl rfl (Rk.cell rfl sh3 (by first | assumption | repeat (first | exact gnew | exact gsetn gnew | assumption | refine gpush ?_ | refine gset ?_ (by simp; omega) )) (by simp) rfl) rfl ?_
          refine Wd.q rfl rfl rfl (Qk.move rfl) ?_
          refine Wd.b rfl rfl rfl (Qk.bin rfl rfl rfl) fun b h52 => ?_
          cases b
          · -- t52 = False
            refine Wd.q rfl rfl rfl (Qk.move rfl) ?_
            refine Wd.no rfl rfl rfl ?_
            refine Wd.no rfl rfl rfl ?_
            refine Wd.no rfl rfl rfl ?_
            refine Wd.no rfl rfl rfl ?_
            refine Wd.no rfl rfl rfl ?_
            refine Wd.no rfl rfl rfl ?_
            refine Wd.no rfl rfl rfl ?_
            refine Wd.no rfl rfl rfl ?_
            refine Wd.no rfl rfl rfl ?_
            refine Wd.q rfl rfl rfl (Qk.pickF rfl rfl) ?_
            refine Wd.q rfl rfl rfl (Qk.move rfl) ?_
            refine Wd.no rfl rfl rfl ?_
            refine Wd.no rfl rfl rfl ?_
            refine Wd.no rfl rfl rfl ?_
            refine Wd.no rfl rfl rfl ?_
            refine Wd.no rfl rfl rfl ?_
            refine Wd.no rfl rfl rfl ?_
            refine Wd.no rfl rfl rfl ?_
            refine Wd.no rfl rfl rfl ?_
            refine Wd.no rfl rfl rfl ?_
            refine Wd.no rfl rfl rfl ?_
            refine Wd.no rfl rfl rfl ?_
            refine Wd.no rfl rfl rfl ?_
            refine Wd.no rfl rfl rfl ?_
            refine Wd.no rfl rfl rfl ?_
            refine Wd.no rfl rfl rfl ?_
            refine Wd.q rfl rfl rfl (Qk.pickF rfl rfl) ?_
            refine Wd.q rfl rfl rfl (Qk.assign rfl) ?_
            refine Wd.next ?_
            refine Wc.finish fun fr hf => ?_
            exact ⟨false, ⟨fun e => (by cases e), fun e => absurd e.1 (ne_of_beq_false h52)⟩, rfl, hf.less ⟨rfl, rfl, rfl, rfl, rfl, rfl, rfl, trivial⟩⟩
          · -- t52 = True
            refine Wd.q rfl rfl rfl (Qk.move rfl) ?_
            refine Wd.q rfl rfl rfl (Qk.move rfl) ?_
            refine Wd.q rfl rfl rfl (Qk.nilCheck rfl rfl) ?_
            refine Wd.q rfl rfl rfl (Qk.fa rfl fd83_2) ?_
            refine Wd.r rfl rfl rfl (Rk.cell rfl sh31 (by first | assumption | repeat (first | exact gnew | exact gsetn gnew | assumption | refine gpush ?_ | refine gset ?_ (by simp; omega) )) (by simp) rfl) rfl ?_
            refine Wd.q rfl rfl rfl (Qk.fa rfl fd47_1) ?_
            refine Wd.r rfl rfl rfl (Rk.cell rfl sh3 (by first | assumption | repeat (first | exact gnew | exact gsetn gnew | assumption | refine gpush ?_ | refine gset ?_ (by simp; omega) )) (by simp) rfl) rfl ?_
            refine Wd.q rfl rfl rfl (Qk.at1 rfl rfl ar31 sl31 (by constructor <;> omega)) ?_
            refine Wd.rb rfl rfl rfl (Rk.bool rfl sh4 (by first | assumption | repeat (first | exact gnew | exact gsetn gnew | assumption | refine gpush ?_ | refine gset ?_ (by simp; omega) )) (by simp) (by first | omega | (simp; omega))) rfl fun b h61 => ?_
            cases b
            · -- t61 = False
              refine Wd.q rfl rfl rfl (Qk.not rfl) ?_
              refine Wd.q rfl rfl rfl (Qk.pickT rfl rfl) ?_
              refine Wd.q rfl rfl rfl (Qk.move rfl) ?_
              refine Wd.q rfl rfl rfl (Qk.fa rfl fd47_2) ?_
              refine Wd.r rfl rfl rfl (Rk.cell rfl sh3 (by first | assumption | repeat (first | exact gnew | exact gsetn gnew | assumption | refine gpush ?_ | refine gset ?_ (by simp; omega) )) (by simp) rfl) rfl ?_
              refine Wd.q rfl rfl rfl (Qk.move rfl) ?_
              refine Wd.q rfl rfl rfl (Qk.nilCheck rfl rfl) ?_
              refine Wd.q rfl rfl rfl (Qk.fa rfl fd83_1) ?_
              refine Wd.r rfl rfl rfl (Rk.cell rfl sh28 (by first | assumption | repeat (first | exact gnew | exact gsetn gnew | assumption | refine gpush ?_ | refine gset ?_ (by simp; omega) )) (by simp) rfl) rfl ?_
              refine Wd.q rfl rfl rfl (Qk.move rfl) ?_
              refine Wd.q rfl rfl rfl (Qk.at1 rfl rfl ar28 sl28 (by constructor <;> omega)) ?_
              refine Wd.r rfl rfl rfl (Rk.int (i := i) rfl sh3 (by first | assumption | repeat (first | exact gnew | exact gsetn gnew | assumption | refine gpush ?_ | refine gset ?_ (by simp; omega) )) (by simp) (by first | omega | (simp; omega))) rfl ?_
              refine Wd.q rfl rfl rfl (Qk.sub rfl rfl (by omega)) ?_
              refine Wd.q rfl rfl rfl (Qk.move rfl) ?_
              refine Wd.q rfl rfl rfl (Qk.nilCheck rfl rfl) ?_
              refine Wd.q rfl rfl rfl (Qk.fa rfl fd83_4) ?_
              refine Wd.r rfl rfl rfl (Rk.cell rfl sh3 (by first | assumption | repeat (first | exact gnew | exact gsetn gnew | assumption | refine gpush ?_ | refine gset ?_ (by simp; omega) )) (by simp) rfl) rfl ?_
              refine Wd.b rfl rfl rfl (Qk.bin rfl rfl rfl) fun b h79 => ?_
              cases b
              · -- t79 = False
                refine Wd.q rfl rfl rfl (Qk.pickT rfl rfl) ?_
                refine Wd.q rfl rfl rfl (Qk.assign rfl) ?_
                refine Wd.next ?_
                refine Wc.finish fun fr hf => ?_
                exact ⟨false, ⟨fun e => (by cases e), fun e => absurd e.2.2 (of_decide_eq_false h79)⟩, rfl, hf.less ⟨rfl, rfl, rfl, rfl, rfl, rfl, rfl, trivial⟩⟩
              · -- t79 = True
                refine Wd.q rfl rfl rfl (Qk.pickT rfl rfl) ?_
                refine Wd.q rfl rfl rfl (Qk.assign rfl) ?_
                refine Wd.next ?_
                refine Wc.finish fun fr hf => ?_
                exact ⟨true, ⟨fun _ => ⟨eq_of_beq h52, h61, of_decide_eq_true h79⟩, fun _ => rfl⟩, rfl, hf.less ⟨rfl, rfl, rfl, rfl, rfl, rfl, rfl, trivial⟩⟩
            · -- t61 = True
              refine Wd.q rfl rfl rfl (Qk.not rfl) ?_
              refine Wd.q rfl rfl rfl (Qk.pickT rfl rfl) ?_
              refine Wd.q rfl rfl rfl (Qk.move rfl) ?_
              refine Wd.no rfl rfl rfl ?_
              refine Wd.no rfl rfl rfl ?_
              refine Wd.no rfl rfl rfl ?_
              refine Wd.no rfl rfl rfl ?_
              refine Wd.no rfl rfl rfl ?_
              refine Wd.no rfl rfl rfl ?_
              refine Wd.no rfl rfl rfl ?_
              refine Wd.no rfl rfl rfl ?_
              refine Wd.no rfl rfl rfl ?_
              refine Wd.no rfl rfl rfl ?_
              refine Wd.no rfl rfl rfl ?_
              refine Wd.no rfl rfl rfl ?_
              refine Wd.no rfl rfl rfl ?_
              refine Wd.no rfl rfl rfl ?_
              refine Wd.no rfl rfl rfl ?_
              refine Wd.q rfl rfl rfl (Qk.pickF rfl rfl) ?_
              refine Wd.q rfl rfl rfl (Qk.assign rfl) ?_
              refine Wd.next ?_
              refine Wc.finish fun fr hf => ?_
              exact ⟨false, ⟨fun e => (by cases e), fun e => (by have e2 := e.2.1; rw [show inB seen1 (arcAt l i).to = true from h61] at e2; cases e2)⟩, rfl, hf.less ⟨rfl, rfl, rfl, rfl, rfl, rfl, rfl, trivial⟩⟩
        · -- join 8: what follows
          rintro y hy
          cases y
          · -- c48 = False
            have hA : ¬ ((arcAt l i).fr = u0 ∧ inB seen1 (arcAt l i).to = false ∧ d ≤ (arcAt l i).cap - am xs i) := fun e => (by have := hy.2 e; cases this)
            clear hy
            refine Wc.condF rfl ?_
            refine Wc.assoc ?_
            refine Wc.join (σ := Bool) (fun y => y = true ↔ (arcAt l i).to = u0 ∧ inB seen1 (arcAt l i).fr = false ∧ d ≤ am xs i) (fun y => [(0, .pointer (some ⟨bw, 0, none⟩)), (1, .int .i64 u0), (2, .int .i64 t0), (3, .int .i64 mo), (9, .int .i64 i), (10, .pointer (some ⟨sa.size, 0, none⟩)), (111, .bool y)]) (fun y => s2) ?_ ?_
            · -- join 13: the first part
              refine Wc.draw0 rfl ?_
              refine Wd.q rfl rfl rfl (Qk.fa rfl fd47_1) ?_
              refine Wd.r rfl rfl rfl (Rk.cell rfl sh3 (by first | assumption | repeat (first | exact gnew | exact gsetn gnew | assumption | refine gpush ?_ | refine gset ?_ (by simp; omega) )) (by simp) rfl) rfl ?_
              refine Wd.q rfl rfl rfl (Qk.move rfl) ?_
              refine Wd.b rfl rfl rfl (Qk.bin rfl rfl rfl) fun b h115 => ?_
              cases b
              · -- t115 = False
                refine Wd.q rfl rfl rfl (Qk.move rfl) ?_
                refine Wd.no rfl rfl rfl ?_
                refine Wd.no rfl rfl rfl ?_
                refine Wd.no rfl rfl rfl ?_
                refine Wd.no rfl rfl rfl ?_
                refine Wd.no rfl rfl rfl ?_
                refine Wd.no rfl rfl rfl ?_
                refine Wd.no rfl rfl rfl ?_
                refine Wd.no rfl rfl rfl ?_
                refine Wd.no rfl rfl rfl ?_
                refine Wd.q rfl rfl rfl (Qk.pickF rfl rfl) ?_
                refine Wd.q rfl rfl rfl (Qk.move rfl) ?_
                refine Wd.no rfl rfl rfl ?_
                refine Wd.no rfl rfl rfl ?_
                refine Wd.no rfl rfl rfl ?_
                refine Wd.no rfl rfl rfl ?_
                refine Wd.no rfl rfl rfl ?_
                refine Wd.no rfl rfl rfl ?_
                refine Wd.no rfl rfl rfl ?_
                refine Wd.no rfl rfl rfl ?_
                refine Wd.no rfl rfl rfl ?_
                refine Wd.no rfl rfl rfl ?_
                refine Wd.no rfl rfl rfl ?_
                refine Wd.no rfl rfl rfl ?_
                refine Wd.q rfl rfl rfl (Qk.pickF rfl rfl) ?_
                refine Wd.q rfl rfl rfl (Qk.assign rfl) ?_
                refine Wd.next ?_
                refine Wc.finish fun fr hf => ?_
                exact ⟨false, ⟨fun e => (by cases e), fun e => absurd e.1 (ne_of_beq_false h115)⟩, rfl, hf.less ⟨rfl, rfl, rfl, rfl, rfl, rfl, rfl, trivial⟩⟩
              · -- t115 = True
                refine Wd.q rfl rfl rfl (Qk.move rfl) ?_
                refine Wd.q rfl rfl rfl (Qk.move rfl) ?_
                refine Wd.q rfl rfl rfl (Qk.nilCheck rfl rfl) ?_
                refine Wd.q rfl rfl rfl (Qk.fa rfl fd83_2) ?_
                refine Wd.r rfl rfl rfl (Rk.cell rfl sh31 (by first | assumption | repeat (first | exact gnew | exact gsetn gnew | assumption | refine gpush ?_ | refine gset ?_ (by simp; omega) )) (by simp) rfl) rfl ?_
                refine Wd.q rfl rfl rfl (Qk.fa rfl fd47_0) ?_
                refine Wd.r rfl rfl rfl (Rk.cell rfl sh3 (by first | assumption | repeat (first | exact gnew | exact gsetn gnew | assumption | refine gpush ?_ | refine gset ?_ (by simp; omega) )) (by simp) rfl) rfl ?_
                refine Wd.q rfl rfl rfl (Qk.at1 rfl rfl ar31 sl31 (by constructor <;> omega)) ?_
                refine Wd.rb rfl rfl rfl (Rk.bool rfl sh4 (by first | assumption | repeat (first | exact gnew | exact gsetn gnew | assumption | refine gpush ?_ | refine gset ?_ (by simp; omega) )) (by simp) (by first | omega | (simp; omega))) rfl fun b h124 => ?_
                cases b
                · -- t124 = False
                  refine Wd.q rfl rfl rfl (Qk.not rfl) ?_
                  refine Wd.q rfl rfl rfl (Qk.pickT rfl rfl) ?_
                  refine Wd.q rfl rfl rfl (Qk.move rfl) ?_
                  refine Wd.q rfl rfl rfl (Qk.move rfl) ?_
                  refine Wd.q rfl rfl rfl (Qk.nilCheck rfl rfl) ?_
                  refine Wd.q rfl rfl rfl (Qk.fa rfl fd83_1) ?_
                  refine Wd.r rfl rfl rfl (Rk.cell rfl sh28 (by first | assumption | repeat (first | exact gnew | exact gsetn gnew | assumption | refine gpush ?_ | refine gset ?_ (by simp; omega) )) (by simp) rfl) rfl ?_
                  refine Wd.q rfl rfl rfl (Qk.move rfl) ?_
                  refine Wd.q rfl rfl rfl (Qk.at1 rfl rfl ar28 sl28 (by constructor <;> omega)) ?_
                  refine Wd.r rfl rfl rfl (Rk.int (i := i) rfl sh3 (by first | assumption | repeat (first | exact gnew | exact gsetn gnew | assumption | refine gpush ?_ | refine gset ?_ (by simp; omega) )) (by simp) (by first | omega | (simp; omega))) rfl ?_
                  refine Wd.q rfl rfl rfl (Qk.move rfl) ?_
                  refine Wd.q rfl rfl rfl (Qk.nilCheck rfl rfl) ?_
                  refine Wd.q rfl rfl rfl (Qk.fa rfl fd83_4) ?_
                  refine Wd.r rfl rfl rfl (Rk.cell rfl sh3 (by first | assumption | repeat (first | exact gnew | exact gsetn gnew | assumption | refine gpush ?_ | refine gset ?_ (by simp; omega) )) (by simp) rfl) rfl ?_
                  refine Wd.b rfl rfl rfl (Qk.bin rfl rfl rfl) fun b h139 => ?_
                  cases b
                  · -- t139 = False
                    refine Wd.q rfl rfl rfl (Qk.pickT rfl rfl) ?_
                    refine Wd.q rfl rfl rfl (Qk.assign rfl) ?_
                    refine Wd.next ?_
                    refine Wc.finish fun fr hf => ?_
                    exact ⟨false, ⟨fun e => (by cases e), fun e => absurd e.2.2 (of_decide_eq_false h139)⟩, rfl, hf.less ⟨rfl, rfl, rfl, rfl, rfl, rfl, rfl, trivial⟩⟩
                  · -- t139 = True
                    refine Wd.q rfl rfl rfl (Qk.pickT rfl rfl) ?_
                    refine Wd.q rfl rfl rfl (Qk.assign rfl) ?_
                    refine Wd.next ?_
                    refine Wc.finish fun fr hf => ?_
                    exact ⟨true, ⟨fun _ => ⟨eq_of_beq h115, h124, of_decide_eq_true h139⟩, fun _ => rfl⟩, rfl, hf.less ⟨rfl, rfl, rfl, rfl, rfl, rfl, rfl, trivial⟩⟩
                · -- t124 = True
                  refine Wd.q rfl rfl rfl (Qk.not rfl) ?_
                  refine Wd.q rfl rfl rfl (Qk.pickT rfl rfl) ?_
                  refine Wd.q rfl rfl rfl (Qk.move rfl) ?_
                  refine Wd.no rfl rfl rfl ?_
                  refine Wd.no rfl rfl rfl ?_
                  refine Wd.no rfl rfl rfl ?_
                  refine Wd.no rfl rfl rfl ?_
                  refine Wd.no rfl rfl rfl ?_
                  refine Wd.no rfl rfl rfl ?_
                  refine Wd.no rfl rfl rfl ?_
                  refine Wd.no rfl rfl rfl ?_
                  refine Wd.no rfl rfl rfl ?_
                  refine Wd.no rfl rfl rfl ?_
                  refine Wd.no rfl rfl rfl ?_
                  refine Wd.no rfl rfl rfl ?_
                  refine Wd.q rfl rfl rfl (Qk.pickF rfl rfl) ?_
                  refine Wd.q rfl rfl rfl (Qk.assign rfl) ?_
                  refine Wd.next ?_
                  refine Wc.finish fun fr hf => ?_
                  exact ⟨false, ⟨fun e => (by cases e), fun e => (by have e2 := e.2.1; rw [show inB seen1 (arcAt l i).fr = true from h124] at e2; cases e2)⟩, rfl, hf.less ⟨rfl, rfl, rfl, rfl, rfl, rfl, rfl, trivial⟩⟩
            · -- join 13: what follows
              rintro y hy
              cases y
              · -- c111 = False
                have hB : ¬ ((arcAt l i).to = u0 ∧ inB seen1 (arcAt l i).fr = false ∧ d ≤ am xs i) := fun e => (by have := hy.2 e; cases this)
                refine Wc.condF rfl ?_
                refine Wc.skip ?_
                refine Wc.thence (fun _ _ => rfl) ?_
                refine Wc.thence (fun _ _ => rfl) ?_
                refine Wc.region ?_
                refine Wk.q rfl rfl rfl (Qk.move rfl) ?_
                refine Wk.q rfl rfl rfl (Qk.add rfl rfl (by omega)) ?_
                refine Wk.q rfl rfl rfl (Qk.assign rfl) ?_
                refine Wk.next ?_
                refine Wc.finish fun fr hf => ?_
                exact ⟨(i + 1, seen1, s2), ⟨ho2, hm2, hW2, hF2, hS2, htry.pass hA hB, by dsimp only; omega, hlt⟩, by dsimp only; omega, rfl, hf.less ⟨rfl, rfl, rfl, rfl, rfl, trivial⟩⟩
              · -- c111 = True
                obtain ⟨hB1, hB2, hB3⟩ := hy.1 rfl
                have hB4 : d ≤ xs.getD i 0 := hB3
                refine Wc.condT rfl ?_
                refine Wc.assoc ?_
                refine Wc.draw0 rfl ?_
                refine Wd.q rfl rfl rfl (Qk.move rfl) ?_
                refine Wd.q rfl rfl rfl (Qk.fa rfl fd47_0) ?_
                refine Wd.r rfl rfl rfl (Rk.cell rfl sh3 (by first | assumption | repeat (first | exact gnew | exact gsetn gnew | assumption | refine gpush ?_ | refine gset ?_ (by simp; omega) )) (by simp) rfl) rfl ?_
                refine Wd.q rfl rfl rfl (Qk.move rfl) ?_
                refine Wd.q rfl rfl rfl (Qk.move rfl) ?_
                refine Wd.q rfl rfl rfl (Qk.move rfl) ?_
                refine Wd.q rfl rfl rfl (Qk.nilCheck rfl rfl) ?_
                refine Wd.q rfl rfl rfl (Qk.fa rfl fd83_1) ?_
                refine Wd.r rfl rfl rfl (Rk.cell rfl sh28 (by first | assumption | repeat (first | exact gnew | exact gsetn gnew | assumption | refine gpush ?_ | refine gset ?_ (by simp; omega) )) (by simp) rfl) rfl ?_
                refine Wd.q rfl rfl rfl (Qk.move rfl) ?_
                refine Wd.q rfl rfl rfl (Qk.at1 rfl rfl ar28 sl28 (by constructor <;> omega)) ?_
                refine Wd.r rfl rfl rfl (Rk.int (i := i) rfl sh3 (by first | assumption | repeat (first | exact gnew | exact gsetn gnew | assumption | refine gpush ?_ | refine gset ?_ (by simp; omega) )) (by simp) (by first | omega | (simp; omega))) rfl ?_
                refine Wd.q rfl rfl rfl (Qk.min2 rfl rfl rfl) ?_
                refine Wd.c rfl rfl rfl (Ck.call rfl rfl) rfl rfl ((ih seen1 xs (arcAt l i).fr t0 _ s2 (Nat.lt_of_lt_of_le htry.less (Nat.le_of_lt_succ hq)) ho2 hW2 hF2 hS2 hxl hr (hsl1.trans hsl) ⟨a1, a2⟩ ht hB2 htry.outTo ⟨by split <;> omega, by split <;> omega⟩).mono ?_)
                rintro _ sc ⟨y, xs2, seen2, rfl, hmc, hFc, hSc, hslc, hway⟩
                have hoc : Old sb sc := Same.older ho2 hmc (by simp; omega)
                have hWc := hmc.get hW2 (by simp; omega)
                have hac := hmc.get ha2 (by have h3 := St.get_lt hF1; have h4 := St.get_lt hS1; simp; omega)
                have hmx := hm2.trans hmc
                have hmin : (if xs.getD i 0 < mo then xs.getD i 0 else mo) = min mo (am xs i) := by show _ = min mo (xs.getD i 0); split <;> omega
                rw [hmin] at hway
                refine Wd.q rfl rfl rfl (Qk.assign rfl) ?_
                refine Wd.next ?_
                refine Wc.assoc ?_
                refine Wc.region ?_
                refine Wk.q rfl rfl rfl (Qk.move rfl) ?_
                refine Wk.b rfl rfl rfl (Qk.bin rfl rfl rfl) fun b h156 => ?_
                cases b
                · -- t156 = False
                  refine Wk.next ?_
                  refine Wc.condF rfl ?_
                  refine Wc.skip ?_
                  refine Wc.thence (fun _ _ => rfl) ?_
                  refine Wc.thence (fun _ _ => rfl) ?_
                  refine Wc.region ?_
                  refine Wk.q rfl rfl rfl (Qk.move rfl) ?_
                  refine Wk.q rfl rfl rfl (Qk.add rfl rfl (by omega)) ?_
                  refine Wk.q rfl rfl rfl (Qk.assign rfl) ?_
                  refine Wk.next ?_
                  refine Wc.finish fun fr hf => ?_
                  rcases hway with ⟨h1, _⟩ | ⟨h1, rfl, hse⟩
                  · exact absurd h1 (by have : ¬ y > 0 := of_decide_eq_false h156; omega)
                  · exact ⟨(i + 1, seen2, sc), ⟨hoc, hmx, hWc, hFc, hSc, htry.fail hok hu.1 hlt hse (.inr ⟨hB1, rfl⟩), by dsimp only; omega, hlt⟩, by dsimp only; omega, rfl, hf.less ⟨rfl, rfl, rfl, rfl, rfl, trivial⟩⟩
                · -- t156 = True
                  have hy0 : y > 0 := of_decide_eq_true h156
                  have hmv : 1 ≤ y ∧ y ≤ min mo (am xs i) ∧ Moved l k xs (inB seen1) (arcAt l i).fr t0 y xs2 := by
                    rcases hway with h1 | ⟨h1, _⟩
                    · exact h1
                    · omega
                  have hfo := htry.found (most := mo) (z := -y) hok hxl hu.1 hu0 hlt hki hr hmv.2.2 hB2 hmv.1 (.inr ⟨hB1, rfl, rfl, hmv.2.1⟩)
                  have hx2 : xs2.getD i 0 = xs.getD i 0 := hfo.1
                  have hym : y ≤ min mo (xs.getD i 0) := hmv.2.1
                  have hxl2 := hmv.2.2.len
                  refine Wk.next ?_
                  refine Wc.condT rfl ?_
                  refine Wc.assoc ?_
                  refine Wc.region ?_
                  refine Wk.q rfl rfl rfl (Qk.move rfl) ?_
                  refine Wk.q rfl rfl rfl (Qk.nilCheck rfl rfl) ?_
                  refine Wk.q rfl rfl rfl (Qk.fa rfl fd83_1) ?_
                  refine Wk.r rfl rfl rfl (Rk.cell rfl sh28 (by first | assumption | repeat (first | exact gnew | exact gsetn gnew | assumption | refine gpush ?_ | refine gset ?_ (by simp; omega) )) (by simp) rfl) ?_
                  refine Wk.q rfl rfl rfl (Qk.move rfl) ?_
                  refine Wk.q rfl rfl rfl (Qk.at1 rfl rfl ar28 sl28 (by constructor <;> omega)) ?_
                  refine Wk.r rfl rfl rfl (Rk.int (i := i) rfl sh3 (by first | assumption | repeat (first | exact gnew | exact gsetn gnew | assumption | refine gpush ?_ | refine gset ?_ (by simp; omega) )) (by simp) (by first | omega | (simp; omega))) ?_
                  refine Wk.q rfl rfl rfl (Qk.move rfl) ?_
                  refine Wk.q rfl rfl rfl (Qk.sub rfl rfl (by omega)) ?_
                  refine Wk.q rfl rfl rfl (Qk.at1 rfl rfl ar28 sl28 (by constructor <;> omega)) ?_
                  refine Wk.h rfl rfl rfl (Hk.int (i := i) rfl rfl sh3 (by first | assumption | repeat (first | exact gnew | exact gsetn gnew | assumption | refine gpush ?_ | refine gset ?_ (by simp; omega) )) (by first | omega | (simp; omega))) ?_
                  refine Wk.next ?_
                  refine Wc.store fun s3 e3 => ?_
                  refine Wc.assoc ?_
                  refine Wc.region ?_
                  refine Wk.q rfl rfl rfl (Qk.move rfl) ?_
                  refine Wk.q rfl rfl rfl (Qk.assign rfl) ?_
                  refine Wk.next ?_
                  refine Wc.done'' (fun _ _ => rfl) rfl ?_
                  subst e3
                  exact ⟨y, _, seen2, rfl, hmx.set (.inr (by simp)), gsetn hFc, gset hSc (by omega), hslc.trans hsl1, .inl ⟨hmv.1, hfo.2.1, hfo.2.2⟩⟩
          · -- c48 = True
            obtain ⟨hA1, hA2, hA3⟩ := hy.1 rfl
            have hA4 : d ≤ (arcAt l i).cap - xs.getD i 0 := hA3
            refine Wc.condT rfl ?_
            refine Wc.assoc ?_
            refine Wc.draw0 rfl ?_
            refine Wd.q rfl rfl rfl (Qk.move rfl) ?_
            refine Wd.q rfl rfl rfl (Qk.fa rfl fd47_1) ?_
            refine Wd.r rfl rfl rfl (Rk.cell rfl sh3 (by first | assumption | repeat (first | exact gnew | exact gsetn gnew | assumption | refine gpush ?_ | refine gset ?_ (by simp; omega) )) (by simp) rfl) rfl ?_
            refine Wd.q rfl rfl rfl (Qk.move rfl) ?_
            refine Wd.q rfl rfl rfl (Qk.move rfl) ?_
            refine Wd.q rfl rfl rfl (Qk.fa rfl fd47_2) ?_
            refine Wd.r rfl rfl rfl (Rk.cell rfl sh3 (by first | assumption | repeat (first | exact gnew | exact gsetn gnew | assumption | refine gpush ?_ | refine gset ?_ (by simp; omega) )) (by simp) rfl) rfl ?_
            refine Wd.q rfl rfl rfl (Qk.move rfl) ?_
            refine Wd.q rfl rfl rfl (Qk.nilCheck rfl rfl) ?_
            refine Wd.q rfl rfl rfl (Qk.fa rfl fd83_1) ?_
            refine Wd.r rfl rfl rfl (Rk.cell rfl sh28 (by first | assumption | repeat (first | exact gnew | exact gsetn gnew | assumption | refine gpush ?_ | refine gset ?_ (by simp; omega) )) (by simp) rfl) rfl ?_
            refine Wd.q rfl rfl rfl (Qk.move rfl) ?_
            refine Wd.q rfl rfl rfl (Qk.at1 rfl rfl ar28 sl28 (by constructor <;> omega)) ?_
            refine Wd.r rfl rfl rfl (Rk.int (i := i) rfl sh3 (by first | assumption | repeat (first | exact gnew | exact gsetn gnew | assumption | refine gpush ?_ | refine gset ?_ (by simp; omega) )) (by simp) (by first | omega | (simp; omega))) rfl ?_
            refine Wd.q rfl rfl rfl (Qk.sub rfl rfl (by omega)) ?_
            refine Wd.q rfl rfl rfl (Qk.min2 rfl rfl rfl) ?_
            refine Wd.c rfl rfl rfl (Ck.call rfl rfl) rfl rfl ((ih seen1 xs (arcAt l i).to t0 _ s2 (Nat.lt_of_lt_of_le htry.less (Nat.le_of_lt_succ hq)) ho2 hW2 hF2 hS2 hxl hr (hsl1.trans hsl) ⟨a3, a4⟩ ht hA2 htry.outTo ⟨by split <;> omega, by split <;> omega⟩).mono ?_)
            rintro _ sc ⟨y, xs2, seen2, rfl, hmc, hFc, hSc, hslc, hway⟩
            have hoc : Old sb sc := Same.older ho2 hmc (by simp; omega)
            have hWc := hmc.get hW2 (by simp; omega)
            have hac := hmc.get ha2 (by have h3 := St.get_lt hF1; have h4 := St.get_lt hS1; simp; omega)
            have hmx := hm2.trans hmc
            have hmin : (if (arcAt l i).cap - xs.getD i 0 < mo then (arcAt l i).cap - xs.getD i 0 else mo) = min mo ((arcAt l i).cap - am xs i) := by show _ = min mo ((arcAt l i).cap - xs.getD i 0); split <;> omega
            rw [hmin] at hway
            refine Wd.q rfl rfl rfl (Qk.assign rfl) ?_
            refine Wd.next ?_
            refine Wc.assoc ?_
            refine Wc.region ?_
            refine Wk.q rfl rfl rfl (Qk.move rfl) ?_
            refine Wk.b rfl rfl rfl (Qk.bin rfl rfl rfl) fun b h99 => ?_
            cases b
            · -- t99 = False
              refine Wk.next ?_
              refine Wc.condF rfl ?_
              refine Wc.skip ?_
              refine Wc.thence (fun _ _ => rfl) ?_
              refine Wc.thence (fun _ _ => rfl) ?_
              refine Wc.region ?_
              refine Wk.q rfl rfl rfl (Qk.move rfl) ?_
              refine Wk.q rfl rfl rfl (Qk.add rfl rfl (by omega)) ?_
              refine Wk.q rfl rfl rfl (Qk.assign rfl) ?_
              refine Wk.next ?_
              refine Wc.finish fun fr hf => ?_
              rcases hway with ⟨h1, _⟩ | ⟨h1, rfl, hse⟩
              · exact absurd h1 (by have : ¬ y > 0 := of_decide_eq_false h99; omega)
              · exact ⟨(i + 1, seen2, sc), ⟨hoc, hmx, hWc, hFc, hSc, htry.fail hok hu.1 hlt hse (.inl ⟨hA1, rfl⟩), by dsimp only; omega, hlt⟩, by dsimp only; omega, rfl, hf.less ⟨rfl, rfl, rfl, rfl, rfl, trivial⟩⟩
            · -- t99 = True
              have hy0 : y > 0 := of_decide_eq_true h99
              have hmv : 1 ≤ y ∧ y ≤ min mo ((arcAt l i).cap - am xs i) ∧ Moved l k xs (inB seen1) (arcAt l i).to t0 y xs2 := by
                rcases hway with h1 | ⟨h1, _⟩
                · exact h1
                · omega
              have hfo := htry.found (most := mo) (z := y) hok hxl hu.1 hu0 hlt hki hr hmv.2.2 hA2 hmv.1 (.inl ⟨hA1, rfl, rfl, hmv.2.1⟩)
              have hx2 : xs2.getD i 0 = xs.getD i 0 := hfo.1
              have hym : y ≤ min mo ((arcAt l i).cap - xs.getD i 0) := hmv.2.1
              have hxl2 := hmv.2.2.len
              refine Wk.next ?_
              refine Wc.condT rfl ?_
              refine Wc.assoc ?_
              refine Wc.region ?_
              refine Wk.q rfl rfl rfl (Qk.move rfl) ?_
              refine Wk.q rfl rfl rfl (Qk.nilCheck rfl rfl) ?_
              refine Wk.q rfl rfl rfl (Qk.fa rfl fd83_1) ?_
              refine Wk.r rfl rfl rfl (Rk.cell rfl sh28 (by first | assumption | repeat (first | exact gnew | exact gsetn gnew | assumption | refine gpush ?_ | refine gset ?_ (by simp; omega) )) (by simp) rfl) ?_
              refine Wk.q rfl rfl rfl (Qk.move rfl) ?_
              refine Wk.q rfl rfl rfl (Qk.at1 rfl rfl ar28 sl28 (by constructor <;> omega)) ?_
              refine Wk.r rfl rfl rfl (Rk.int (i := i) rfl sh3 (by first | assumption | repeat (first | exact gnew | exact gsetn gnew | assumption | refine gpush ?_ | refine gset ?_ (by simp; omega) )) (by simp) (by first | omega | (simp; omega))) ?_
              refine Wk.q rfl rfl rfl (Qk.move rfl) ?_
              refine Wk.q rfl rfl rfl (Qk.add rfl rfl (by omega)) ?_
              refine Wk.q rfl rfl rfl (Qk.at1 rfl rfl ar28 sl28 (by constructor <;> omega)) ?_
              refine Wk.h rfl rfl rfl (Hk.int (i := i) rfl rfl sh3 (by first | assumption | repeat (first | exact gnew | exact gsetn gnew | assumption | refine gpush ?_ | refine gset ?_ (by simp; omega) )) (by first | omega | (simp; omega))) ?_
              refine Wk.next ?_
              refine Wc.store fun s4 e4 => ?_
              refine Wc.assoc ?_
              refine Wc.region ?_
              refine Wk.q rfl rfl rfl (Qk.move rfl) ?_
              refine Wk.q rfl rfl rfl (Qk.assign rfl) ?_
              refine Wk.next ?_
              refine Wc.done'' (fun _ _ => rfl) rfl ?_
              subst e4
              exact ⟨y, _, seen2, rfl, hmx.set (.inr (by simp)), gsetn hFc, gset hSc (by omega), hslc.trans hsl1, .inl ⟨hmv.1, hfo.2.1, hfo.2.2⟩⟩
    · -- t18 = True
      refine Wk.q rfl rfl rfl (Qk.pickF rfl rfl) ?_
      refine Wk.next ?_
      refine Wc.condT rfl ?_
      refine Wc.assoc ?_
      refine Wc.region ?_
      refine Wk.q rfl rfl rfl (Qk.move rfl) ?_
      refine Wk.q rfl rfl rfl (Qk.assign rfl) ?_
      refine Wk.next ?_
      refine Wc.done'' (fun _ _ => rfl) rfl ?_
      exact absurd (eq_of_beq h18) (by omega)
  · -- t15 = True
    refine Wk.q rfl rfl rfl (Qk.move rfl) ?_
    refine Wk.no rfl rfl rfl ?_
    refine Wk.no rfl rfl rfl ?_
    refine Wk.q rfl rfl rfl (Qk.pickT rfl rfl) ?_
    refine Wk.next ?_
    refine Wc.condT rfl ?_
    refine Wc.assoc ?_
    refine Wc.region ?_
    refine Wk.q rfl rfl rfl (Qk.move rfl) ?_
    refine Wk.q rfl rfl rfl (Qk.assign rfl) ?_
    refine Wk.next ?_
    refine Wc.done'' (fun _ _ => rfl) rfl ?_
    obtain rfl : u0 = t0 := eq_of_beq h15
    exact ⟨mo, xs, seen, rfl, Same.refl _ _, hF, hS, rfl, .inl ⟨hmo.1, Int.le_refl _, ⟨rfl, hr, fun _ _ => rfl, fun _ _ _ => rfl, fun w => by split <;> omega⟩⟩⟩

end Go.Proofs.Ytgkmpidihgbkdaa
