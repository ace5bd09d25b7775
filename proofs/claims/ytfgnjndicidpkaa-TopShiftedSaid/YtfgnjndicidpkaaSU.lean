/- The reference's checks of any flat. -/
import Derived.Test.YtfgnjndicidpkaaST
namespace Go.Proofs.Ytfgnjndicidpkaa
open Go.Abs Go.IntWalk
variable {K : Known}
def RowOk (M : List (List Int)) (x : Nat) : Prop := (rowM M x).length = M.length ∧ ∀ y, y < M.length → 0 ≤ matM M x y ∧ matM M x y ≤ 1000000
set_option maxHeartbeats 4000000 in
set_option maxRecDepth 100000 in
theorem c22 (hK : Late K) {M : List (List Int)} {v : Value} {s : St} (hm : MRow s v M) : Ev Try.prog K (.func (.func 22) #[] #[]) [v] s fun r s' => ∃ z, r = .int .i64 z ∧ (z = 0 ↔ Bids M) ∧ s' = s := by
  obtain ⟨rv, hR, hrow⟩ := id hm
  refine Ev.enterK (hK.none (by decide) _) Try.func22 rfl rfl (Nat.le_of_ble_eq_true rfl) ?_
  refine Wc.tail ?_
  refine Wc.assoc ?_
  refine Wc.region ?_
  refine Wk.q rfl rfl rfl (Qk.assign rfl) ?_
  refine Wk.next ?_
  refine Wc.assoc ?_
  refine Wc.region ?_
  refine Wk.q rfl rfl rfl (Qk.move rfl) ?_
  refine Wk.q rfl rfl rfl (Qk.lenR rfl rfl rfl hR sl22) ?_
  refine Wk.q rfl rfl rfl (Qk.assign rfl) ?_
  refine Wk.next ?_
  refine Wc.assoc ?_
  refine Wc.assoc ?_
  refine Wc.region ?_
  refine Wk.q rfl rfl rfl (Qk.move rfl) ?_
  refine Wk.b rfl rfl rfl (Qk.bin rfl rfl rfl) fun b h9 => ?_
  cases b
  · -- t9 = False
    have h6 : M.length ≤ 6 := by
      have : ¬ ((M.length : Int) > 6) := of_decide_eq_false h9
      omega
    refine Wk.next ?_
    refine Wc.condF rfl ?_
    refine Wc.skip ?_
    refine Wc.assoc ?_
    refine Wc.assoc ?_
    refine Wc.region ?_
    refine Wk.q rfl rfl rfl (Qk.assign rfl) ?_
    refine Wk.next ?_
    refine Wc.block ?_
    refine Wc.loop (σ := Nat) (fun i => i ≤ M.length ∧ ∀ x, x < i → RowOk M x) (fun i => [(0, v), (3, goInt M.length), (4, .int .i64 i)]) (fun _ => s) (fun i => M.length - i) 0 ⟨Nat.zero_le _, fun x hx => absurd hx (Nat.not_lt_zero _)⟩ ⟨rfl, rfl, rfl, trivial⟩ rfl ?_
    rintro i ⟨hi, hok⟩
    refine Wc.assoc ?_
    refine Wc.assoc ?_
    refine Wc.region ?_
    refine Wk.q rfl rfl rfl (Qk.move rfl) ?_
    refine Wk.q rfl rfl rfl (Qk.move rfl) ?_
    refine Wk.b rfl rfl rfl (Qk.bin rfl rfl rfl) fun b h12 => ?_
    cases b
    · -- t12 = False
      have hge : i = M.length := by
        have : ¬ ((i : Int) < (M.length : Int)) := of_decide_eq_false h12
        omega
      subst hge
      refine Wk.next ?_
      refine Wc.condF rfl ?_
      refine Wc.jump (fun _ _ => rfl) ?_
      refine Wc.assoc ?_
      refine Wc.assoc ?_
      refine Wc.region ?_
      refine Wk.q rfl rfl rfl (Qk.move rfl) ?_
      refine Wk.b rfl rfl rfl (Qk.bin rfl rfl rfl) fun b h46 => ?_
      cases b
      · -- t46 = False
        refine Wk.next ?_
        refine Wc.condF rfl ?_
        refine Wc.skip ?_
        refine Wc.assoc ?_
        refine Wc.region ?_
        refine Wk.q rfl rfl rfl (Qk.assign rfl) ?_
        refine Wk.next ?_
        refine Wc.done'' (fun _ _ => rfl) rfl ?_
        have h0 : (M.length : Int) ≠ 0 := by simpa using h46
        exact ⟨_, rfl, ⟨fun _ => ⟨by omega, h6, fun x hx => (hok x hx).1, fun x y hx hy => (hok x hx).2 y hy⟩, fun _ => rfl⟩, rfl⟩
      · -- t46 = True
        refine Wk.next ?_
        refine Wc.condT rfl ?_
        refine Wc.assoc ?_
        refine Wc.region ?_
        refine Wk.q rfl rfl rfl (Qk.assign rfl) ?_
        refine Wk.next ?_
        refine Wc.done'' (fun _ _ => rfl) rfl ?_
        have h0 : (M.length : Int) = 0 := eq_of_beq h46
        exact ⟨_, rfl, ⟨(fun h => by cases h), fun hB => by have := hB.pos; omega⟩, rfl⟩
    · -- t12 = True
      have hil : i < M.length := by
        have : (i : Int) < (M.length : Int) := of_decide_eq_true h12
        omega
      have hri := hrow i hil
      refine Wk.next ?_
      refine Wc.condT rfl ?_
      refine Wc.skip ?_
      refine Wc.assoc ?_
      refine Wc.block ?_
      refine Wc.assoc ?_
      refine Wc.assoc ?_
      refine Wc.region ?_
      refine Wk.q rfl rfl rfl (Qk.move rfl) ?_
      refine Wk.q rfl rfl rfl (Qk.move rfl) ?_
      refine Wk.q rfl rfl rfl (Qk.at rfl rfl ar22 sl22 hR (by constructor <;> omega)) ?_
      refine Wk.r rfl rfl rfl (Rk.atS rfl sh29 hR (i := i) (by omega) rfl) ?_
      refine Wk.q rfl rfl rfl (Qk.lenR rfl rfl rfl hri sl29) ?_
      refine Wk.q rfl rfl rfl (Qk.move rfl) ?_
      refine Wk.b rfl rfl rfl (Qk.bin rfl rfl rfl) fun b h21 => ?_
      cases b
      · -- t21 = False
        have hsq : (rowM M i).length = M.length := by
          have : ((rowM M i).length : Int) = (M.length : Int) := by simpa using h21
          omega
        refine Wk.next ?_
        refine Wc.condF rfl ?_
        refine Wc.skip ?_
        refine Wc.assoc ?_
        refine Wc.region ?_
        refine Wk.q rfl rfl rfl (Qk.assign rfl) ?_
        refine Wk.next ?_
        refine Wc.block ?_
        refine Wc.loop (σ := Nat) (fun j => j ≤ M.length ∧ ∀ y, y < j → 0 ≤ matM M i y ∧ matM M i y ≤ 1000000) (fun j => [(0, v), (3, goInt M.length), (4, .int .i64 i), (5, .int .i64 j)]) (fun _ => s) (fun j => M.length - j) 0 ⟨Nat.zero_le _, fun x hx => absurd hx (Nat.not_lt_zero _)⟩ ⟨rfl, rfl, rfl, rfl, trivial⟩ rfl ?_
        rintro j ⟨hj, hcol⟩
        refine Wc.assoc ?_
        refine Wc.assoc ?_
        refine Wc.region ?_
        refine Wk.q rfl rfl rfl (Qk.move rfl) ?_
        refine Wk.q rfl rfl rfl (Qk.move rfl) ?_
        refine Wk.b rfl rfl rfl (Qk.bin rfl rfl rfl) fun b h24 => ?_
        cases b
        · -- t24 = False
          have hge : j = M.length := by
            have : ¬ ((j : Int) < (M.length : Int)) := of_decide_eq_false h24
            omega
          subst hge
          refine Wk.next ?_
          refine Wc.condF rfl ?_
          refine Wc.jump (fun _ _ => rfl) ?_
          refine Wc.thence (fun _ _ => rfl) ?_
          refine Wc.region ?_
          refine Wk.q rfl rfl rfl (Qk.move rfl) ?_
          refine Wk.q rfl rfl rfl (Qk.add rfl rfl (by omega)) ?_
          refine Wk.q rfl rfl rfl (Qk.assign rfl) ?_
          refine Wk.next ?_
          refine Wc.finish fun fr hf => ?_
          exact ⟨i + 1, ⟨hil, fun x hx => by
            by_cases e : x = i
            · subst e; exact ⟨hsq, hcol⟩
            · exact hok x (by omega)⟩, by omega, rfl, hf.less ⟨rfl, rfl, rfl, trivial⟩⟩
        · -- t24 = True
          have hjl : j < M.length := by
            have : (j : Int) < (M.length : Int) := of_decide_eq_true h24
            omega
          refine Wk.next ?_
          refine Wc.condT rfl ?_
          refine Wc.skip ?_
          refine Wc.assoc ?_
          refine Wc.block ?_
          refine Wc.assoc ?_
          refine Wc.region ?_
          refine Wk.q rfl rfl rfl (Qk.move rfl) ?_
          refine Wk.q rfl rfl rfl (Qk.move rfl) ?_
          refine Wk.q rfl rfl rfl (Qk.at rfl rfl ar22 sl22 hR (by constructor <;> omega)) ?_
          refine Wk.r rfl rfl rfl (Rk.atS rfl sh29 hR (i := i) (by omega) rfl) ?_
          refine Wk.q rfl rfl rfl (Qk.move rfl) ?_
          refine Wk.q rfl rfl rfl (Qk.at rfl rfl ar29 sl29 hri (by constructor <;> omega)) ?_
          refine Wk.r rfl rfl rfl (Rk.intR rfl sh3 hri (i := j) (by omega)) ?_
          refine Wk.b rfl rfl rfl (Qk.bin rfl rfl rfl) fun b h34 => ?_
          cases b
          · -- t34 = False
            have h1 : ¬ ((rowM M i).getD j 0 < 0) := of_decide_eq_false h34
            refine Wk.q rfl rfl rfl (Qk.move rfl) ?_
            refine Wk.q rfl rfl rfl (Qk.move rfl) ?_
            refine Wk.q rfl rfl rfl (Qk.move rfl) ?_
            refine Wk.q rfl rfl rfl (Qk.at rfl rfl ar22 sl22 hR (by constructor <;> omega)) ?_
            refine Wk.r rfl rfl rfl (Rk.atS rfl sh29 hR (i := i) (by omega) rfl) ?_
            refine Wk.q rfl rfl rfl (Qk.move rfl) ?_
            refine Wk.q rfl rfl rfl (Qk.at rfl rfl ar29 sl29 hri (by constructor <;> omega)) ?_
            refine Wk.r rfl rfl rfl (Rk.intR rfl sh3 hri (i := j) (by omega)) ?_
            refine Wk.b rfl rfl rfl (Qk.bin rfl rfl rfl) fun b h43 => ?_
            cases b
            · -- t43 = False
              have h2 : ¬ ((rowM M i).getD j 0 > 1000000) := of_decide_eq_false h43
              refine Wk.q rfl rfl rfl (Qk.pickF rfl rfl) ?_
              refine Wk.next ?_
              refine Wc.condF rfl ?_
              refine Wc.skip ?_
              refine Wc.thence (fun _ _ => rfl) ?_
              refine Wc.region ?_
              refine Wk.q rfl rfl rfl (Qk.move rfl) ?_
              refine Wk.q rfl rfl rfl (Qk.add rfl rfl (by omega)) ?_
              refine Wk.q rfl rfl rfl (Qk.assign rfl) ?_
              refine Wk.next ?_
              refine Wc.finish fun fr hf => ?_
              exact ⟨j + 1, ⟨hjl, fun y hy => by
                by_cases e : y = j
                · subst e; unfold matM; omega
                · exact hcol y (by omega)⟩, by omega, rfl, hf.less ⟨rfl, rfl, rfl, rfl, trivial⟩⟩
            · -- t43 = True
              refine Wk.q rfl rfl rfl (Qk.pickF rfl rfl) ?_
              refine Wk.next ?_
              refine Wc.condT rfl ?_
              refine Wc.assoc ?_
              refine Wc.region ?_
              refine Wk.q rfl rfl rfl (Qk.assign rfl) ?_
              refine Wk.next ?_
              refine Wc.done'' (fun _ _ => rfl) rfl ?_
              have h2 : ((rowM M i).getD j 0 > 1000000) := of_decide_eq_true h43
              exact ⟨_, rfl, ⟨(fun h => by cases h), fun hB => by have := hB.range i j hil hjl; unfold matM at this; omega⟩, rfl⟩
          · -- t34 = True
            refine Wk.q rfl rfl rfl (Qk.move rfl) ?_
            refine Wk.no rfl rfl rfl ?_
            refine Wk.no rfl rfl rfl ?_
            refine Wk.no rfl rfl rfl ?_
            refine Wk.no rfl rfl rfl ?_
            refine Wk.no rfl rfl rfl ?_
            refine Wk.no rfl rfl rfl ?_
            refine Wk.no rfl rfl rfl ?_
            refine Wk.no rfl rfl rfl ?_
            refine Wk.q rfl rfl rfl (Qk.pickT rfl rfl) ?_
            refine Wk.next ?_
            refine Wc.condT rfl ?_
            refine Wc.assoc ?_
            refine Wc.region ?_
            refine Wk.q rfl rfl rfl (Qk.assign rfl) ?_
            refine Wk.next ?_
            refine Wc.done'' (fun _ _ => rfl) rfl ?_
            have h2 : ((rowM M i).getD j 0 < 0) := of_decide_eq_true h34
            exact ⟨_, rfl, ⟨(fun h => by cases h), fun hB => by have := hB.range i j hil hjl; unfold matM at this; omega⟩, rfl⟩
      · -- t21 = True
        refine Wk.next ?_
        refine Wc.condT rfl ?_
        refine Wc.assoc ?_
        refine Wc.region ?_
        refine Wk.q rfl rfl rfl (Qk.assign rfl) ?_
        refine Wk.next ?_
        refine Wc.done'' (fun _ _ => rfl) rfl ?_
        have h2 : ¬ ((rowM M i).length : Int) = (M.length : Int) := by simpa using h21
        exact ⟨_, rfl, ⟨(fun h => by cases h), fun hB => by have := hB.square i hil; omega⟩, rfl⟩
  · -- t9 = True
    refine Wk.next ?_
    refine Wc.condT rfl ?_
    refine Wc.assoc ?_
    refine Wc.region ?_
    refine Wk.q rfl rfl rfl (Qk.assign rfl) ?_
    refine Wk.next ?_
    refine Wc.done'' (fun _ _ => rfl) rfl ?_
    have h2 : ((M.length : Int) > 6) := of_decide_eq_true h9
    exact ⟨_, rfl, ⟨(fun h => by cases h), fun hB => by have := hB.most; omega⟩, rfl⟩
set_option maxHeartbeats 4000000 in
set_option maxRecDepth 100000 in
theorem c5 (hK : Late K) {M : List (List Int)} {v : Value} {rent : Int} {s : St} (hm : MRow s v M) : Ev Try.prog K (.func (.func 5) #[] #[]) [.agg #[v, .int .i64 rent]] s fun r s' => ∃ z, r = .int .i64 z ∧ (z = 0 → Bids M ∧ 0 ≤ rent ∧ rent ≤ 10000000) ∧ Old s s' := by
  obtain ⟨rv, hR, hrow⟩ := id hm
  obtain ⟨av, capv, rfl, _⟩ := id hR
  refine Ev.enterK (hK.none (by decide) _) Try.func5 rfl rfl (Nat.le_of_ble_eq_true rfl) ?_
  refine Wc.tail ?_
  refine Wc.assoc ?_
  refine Wc.region ?_
  refine Wk.f rfl rfl rfl (Fk.box rfl rfl) ?_
  refine Wk.q rfl rfl rfl (Qk.assign rfl) ?_
  refine Wk.next ?_
  refine Wc.store fun s1 e1 => ?_
  have ho1 : Old s s1 := by subst e1; exact Old.push _ _
  have hg1 : s1.get s.size = some ⟨[.slice av M.length capv, .int .i64 rent], .rw⟩ := by subst e1; exact gnew
  clear e1
  refine Wc.assoc ?_
  refine Wc.assoc ?_
  refine Wc.region ?_
  refine Wk.q rfl rfl rfl (Qk.fa rfl fd24_0) ?_
  refine Wk.r rfl rfl rfl (Rk.cell rfl sh22 (by first | assumption | repeat (first | exact gnew | exact gsetn gnew | assumption | exact gsetn (by assumption) | exact gsetn (gset (by assumption) (by omega)) | refine gpush ?_ | refine gset ?_ (by first | omega | (simp; omega)) )) (by simp) rfl) ?_
  refine Wk.c rfl rfl rfl (Ck.call rfl rfl) ((c22 hK (hm.old ho1)).mono ?_)
  rintro r t ⟨z, rfl, hz, rfl⟩
  refine Wk.b rfl rfl rfl (Qk.bin rfl rfl rfl) fun b h6 => ?_
  cases b
  · -- t6 = False
    have hz0 : z = 0 := by simpa using h6
    have hB := hz.1 hz0
    refine Wk.next ?_
    refine Wc.condF rfl ?_
    refine Wc.skip ?_
    refine Wc.assoc ?_
    refine Wc.assoc ?_
    refine Wc.region ?_
    refine Wk.q rfl rfl rfl (Qk.fa rfl fd24_1) ?_
    refine Wk.r rfl rfl rfl (Rk.cell rfl sh3 (by first | assumption | repeat (first | exact gnew | exact gsetn gnew | assumption | exact gsetn (by assumption) | exact gsetn (gset (by assumption) (by omega)) | refine gpush ?_ | refine gset ?_ (by first | omega | (simp; omega)) )) (by simp) rfl) ?_
    refine Wk.b rfl rfl rfl (Qk.bin rfl rfl rfl) fun b h12 => ?_
    cases b
    · -- t12 = False
      refine Wk.q rfl rfl rfl (Qk.move rfl) ?_
      refine Wk.q rfl rfl rfl (Qk.fa rfl fd24_1) ?_
      refine Wk.r rfl rfl rfl (Rk.cell rfl sh3 (by first | assumption | repeat (first | exact gnew | exact gsetn gnew | assumption | exact gsetn (by assumption) | exact gsetn (gset (by assumption) (by omega)) | refine gpush ?_ | refine gset ?_ (by first | omega | (simp; omega)) )) (by simp) rfl) ?_
      refine Wk.b rfl rfl rfl (Qk.bin rfl rfl rfl) fun b h16 => ?_
      cases b
      · -- t16 = False
        refine Wk.q rfl rfl rfl (Qk.pickF rfl rfl) ?_
        refine Wk.next ?_
        refine Wc.condF rfl ?_
        refine Wc.skip ?_
        refine Wc.assoc ?_
        refine Wc.region ?_
        refine Wk.q rfl rfl rfl (Qk.assign rfl) ?_
        refine Wk.next ?_
        refine Wc.done'' (fun _ _ => rfl) rfl ?_
        have h1 : ¬ (rent < 0) := of_decide_eq_false h12
        have h2 : ¬ (rent > 10000000) := of_decide_eq_false h16
        exact ⟨_, rfl, fun _ => ⟨hB, by omega, by omega⟩, ho1⟩
      · -- t16 = True
        refine Wk.q rfl rfl rfl (Qk.pickF rfl rfl) ?_
        refine Wk.next ?_
        refine Wc.condT rfl ?_
        refine Wc.assoc ?_
        refine Wc.region ?_
        refine Wk.q rfl rfl rfl (Qk.assign rfl) ?_
        refine Wk.next ?_
        refine Wc.done'' (fun _ _ => rfl) rfl ?_
        exact ⟨_, rfl, (fun h => by cases h), ho1⟩
    · -- t12 = True
      refine Wk.q rfl rfl rfl (Qk.move rfl) ?_
      refine Wk.no rfl rfl rfl ?_
      refine Wk.no rfl rfl rfl ?_
      refine Wk.no rfl rfl rfl ?_
      refine Wk.q rfl rfl rfl (Qk.pickT rfl rfl) ?_
      refine Wk.next ?_
      refine Wc.condT rfl ?_
      refine Wc.assoc ?_
      refine Wc.region ?_
      refine Wk.q rfl rfl rfl (Qk.assign rfl) ?_
      refine Wk.next ?_
      refine Wc.done'' (fun _ _ => rfl) rfl ?_
      exact ⟨_, rfl, (fun h => by cases h), ho1⟩
  · -- t6 = True
    have hz0 : ¬ z = 0 := by simpa using h6
    refine Wk.next ?_
    refine Wc.condT rfl ?_
    refine Wc.assoc ?_
    refine Wc.region ?_
    refine Wk.q rfl rfl rfl (Qk.fa rfl fd24_0) ?_
    refine Wk.r rfl rfl rfl (Rk.cell rfl sh22 (by first | assumption | repeat (first | exact gnew | exact gsetn gnew | assumption | exact gsetn (by assumption) | exact gsetn (gset (by assumption) (by omega)) | refine gpush ?_ | refine gset ?_ (by first | omega | (simp; omega)) )) (by simp) rfl) ?_
    refine Wk.c rfl rfl rfl (Ck.call rfl rfl) ((c22 hK (hm.old ho1)).mono ?_)
    rintro r t2 ⟨z2, rfl, hz2, rfl⟩
    refine Wk.q rfl rfl rfl (Qk.assign rfl) ?_
    refine Wk.next ?_
    refine Wc.done'' (fun _ _ => rfl) rfl ?_
    exact ⟨_, rfl, fun h => absurd (hz.2 (hz2.1 h)) hz0, ho1⟩
end Go.Proofs.Ytfgnjndicidpkaa
