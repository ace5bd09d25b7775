/- The network of two goods and two agents: wanted29. -/
import Derived.Test.YtgkmpidihgbkdaaJX
namespace Go.Proofs.Ytgkmpidihgbkdaa
open Go.Abs
variable {K : Known}

def inA (g i : Nat) : List Arc := (List.range i).map fun i : Nat => ⟨1 + g, 1 + 2 + i, 1⟩
def outA : Nat → List Arc
  | 0 => []
  | g + 1 => outA g ++ [⟨0, 1 + g, 1⟩] ++ inA g 2
def endA (i : Nat) : List Arc := (List.range i).map fun i : Nat => ⟨1 + 2 + i, 6 - 1, ([1, 1] : List Int).getD i 0⟩
theorem inA_step {g i : Nat} : inA g (i + 1) = inA g i ++ [⟨1 + g, 1 + 2 + i, 1⟩] := by simp [inA, List.range_succ]
theorem endA_step {i : Nat} : endA (i + 1) = endA i ++ [⟨1 + 2 + i, 6 - 1, ([1, 1] : List Int).getD i 0⟩] := by simp [endA, List.range_succ]
theorem outA_len (g : Nat) : (outA g).length = 3 * g := by
  induction g with
  | zero => rfl
  | succ g ih => simp [outA, inA, ih]; omega
theorem tt_get {g : Nat} (h : g < 2) : ([true, true] : List Bool).getD (g : Int).toNat false = true := by
  match g, h with
  | 0, _ => rfl
  | 1, _ => rfl

structure WF (s : St) (v : Value) (A : List Arc) (bo : Option Nat) (sx : St) : Prop where
  old : Old s sx
  size : s.size + 2 ≤ sx.size
  r : sx.get s.size = some ⟨[.int .i64 0, .slice none 0 0], .rw⟩
  b : sx.get (s.size + 1) = some ⟨[.int .i64 6, v], .rw⟩
  g : Grew sx (s.size + 2) v 3 A.length (acs A) bo
theorem WF.same {s : St} {v : Value} {A : List Arc} {bo : Option Nat} {sx sy : St} {M : List Nat} (h : WF s v A bo sx) (hs : Same M sx sy) (hm : ∀ x ∈ M, s.size + 2 ≤ x) (hb : ∀ b, bo = some b → b ∉ M) : WF s v A bo sy :=
  ⟨Same.older h.old hs (fun x hx => by have := hm x hx; omega), Nat.le_trans h.size hs.1, hs.get h.r (fun hx => by have := hm _ hx; omega), hs.get h.b (fun hx => by have := hm _ hx; omega), h.g.same hs hb⟩
theorem WF.add {s : St} {v : Value} {A : List Arc} {bo : Option Nat} {sx : St} {c : Nat} {a : Arc} (h : WF s v A bo sx) (hc : sx.get c = some ⟨acells a, .rw⟩) (hl : A.length ≤ 1000) :
    ∃ v' s' b', aappend Try.prog sx 22 22 v (.slice (some ⟨c, 0, none⟩) 1 1) = some (v', s') ∧ Abs.scalar v' = true ∧ v'.cells = #[v'] ∧ s'.get (s.size + 1) = some ⟨[.int .i64 6, v], .rw⟩ ∧ WF s v' (A ++ [a]) (some b') (s'.set (s.size + 1) ⟨[.int .i64 6, v'], .rw⟩) := by
  have hw : sx.cells c 0 (1 * 3) = some (acells a) := by simp [St.cells, hc, acells]
  obtain ⟨v7, t7, b7, hap, hg7, hb7', hsame⟩ := append_grew ap22 (cap2 := 1) (sp := none) h.g h.size (by decide) (by omega) hw rfl rfl
  obtain ⟨hc7, hs7, hi7⟩ := hg7.sc
  have hmo : ∀ x ∈ bo.toList, s.size + 2 ≤ x := fun x hx => by
    cases bo with
    | none => simp at hx
    | some b => simp at hx; subst hx; exact h.g.lt.2
  have hb := hsame.get h.b (fun hx => by have := hmo _ hx; omega)
  have hr := hsame.get h.r (fun hx => by have := hmo _ hx; omega)
  have hlt := hg7.lt
  refine ⟨v7, t7, b7, hap, hs7, hc7, hb, ⟨(Same.older h.old hsame (fun x hx => by have := hmo x hx; omega)).gset (by omega), by rw [St.size_set]; exact Nat.le_trans h.size hsame.1, gset hr (by omega), gsetn hb, ?_⟩⟩
  refine Grew.keep (s := t7) ?_ fun b e => by cases e; rw [St.get_set_other _ _ _ _ (by omega)]
  rw [acs_app, List.length_append]
  simpa [acs] using hg7

set_option maxHeartbeats 4000000 in
set_option maxRecDepth 100000 in
theorem c14 (hK : Late K) {wv mv : Value} {rv : Nat → Value} {s : St} (hW : Row s wv 2 1 (fun i => [rv i])) (hB : ∀ i, i < 2 → BRow s (rv i) [true, true]) (hM : IRow s mv [1, 1]) :
    Ev Try.prog K (.func (.func 14) #[] #[]) [wv, mv] s fun r s' => ∃ v', r = .agg #[.int .i64 6, v'] ∧ ARow s' v' (outA 2 ++ endA 2) ∧ Old s s' := by
  have hM2 : ([1, 1] : List Int).length = 2 := rfl
  refine Ev.enterK (hK.none (by decide) _) Try.func14 rfl rfl (Nat.le_of_ble_eq_true rfl) ?_
  refine Wc.tail ?_
  refine Wc.assoc ?_
  refine Wc.region ?_
  refine Wk.f rfl rfl rfl (Fk.alloc ze24) ?_
  refine Wk.next ?_
  refine Wc.store fun s1 e1 => ?_
  have ho1 : Old s s1 := by subst e1; exact Old.push _ _
  have hr1 : s1.get s.size = some ⟨[.int .i64 0, .slice none 0 0], .rw⟩ := by subst e1; exact gnew
  have hz1 : s1.size = s.size + 1 := by subst e1; simp
  have hB0 := hB 0 (by decide)
  have hl2 : ([true, true] : List Bool).length = 2 := rfl
  refine Wc.assoc ?_
  refine Wc.region ?_
  refine Wk.q rfl rfl rfl (Qk.move rfl) ?_
  refine Wk.q rfl rfl rfl (Qk.at rfl rfl ar38 sl38 (Row.old (by assumption) hW) (by constructor <;> omega)) ?_
  refine Wk.r rfl rfl rfl (Rk.atS rfl sh31 (Row.old (by assumption) hW) (by omega) rfl) ?_
  refine Wk.q rfl rfl rfl (Qk.lenR rfl rfl rfl hB0 sl31) ?_
  refine Wk.q rfl rfl rfl (Qk.assign rfl) ?_
  refine Wk.next ?_
  refine Wc.assoc ?_
  refine Wc.region ?_
  refine Wk.q rfl rfl rfl (Qk.move rfl) ?_
  refine Wk.q rfl rfl rfl (Qk.add rfl rfl (by omega)) ?_
  refine Wk.q rfl rfl rfl (Qk.move rfl) ?_
  refine Wk.q rfl rfl rfl (Qk.lenR rfl rfl rfl hW sl38) ?_
  refine Wk.q rfl rfl rfl (Qk.add rfl rfl (by omega)) ?_
  refine Wk.q rfl rfl rfl (Qk.build rfl build24') ?_
  refine Wk.f rfl rfl rfl (Fk.alloc ze24) ?_
  refine Wk.h rfl rfl rfl (Hk.whole rfl rfl sh24 (by first | assumption | repeat (first | exact gnew | exact gsetn gnew | assumption | exact gsetn hd9 | refine gpush ?_ | refine gset ?_ (by simp; omega) )) rfl rfl (by first | rfl | (show (true && (Abs.scalar _ && true)) = true; rw [Bool.true_and, Bool.and_true]; assumption))) ?_
  refine Wk.next ?_
  refine Wc.store fun s2 e2 => ?_
  have hwf : WF s (.slice none 0 0) [] none s2 := by
    subst e2
    exact ⟨(ho1.gpush _).gset (by omega), by simp [hz1], gset (gpush hr1) (by omega), by rw [← hz1]; exact gsetn gnew, Grew.nil⟩
  rw [hz1]
  clear e2
  refine Wc.assoc ?_
  refine Wc.assoc ?_
  refine Wc.region ?_
  refine Wk.q rfl rfl rfl (Qk.assign rfl) ?_
  refine Wk.next ?_
  refine Wc.block ?_
  refine Wc.loop (σ := Nat × Value × Option Nat × St) (fun y => y.1 ≤ 2 ∧ WF s y.2.1 (outA y.1) y.2.2.1 y.2.2.2) (fun y => [(0, wv), (1, mv), (4, .pointer (some ⟨s.size, 0, none⟩)), (5, .int .i64 2), (6, .pointer (some ⟨s.size + 1, 0, none⟩)), (7, .int .i64 y.1)]) (fun y => y.2.2.2) (fun y => 2 - y.1) (0, .slice none 0 0, none, s2)
    ⟨Nat.zero_le _, hwf⟩ ⟨rfl, rfl, rfl, rfl, rfl, rfl, trivial⟩ rfl ?_
  clear hwf
  rintro ⟨g, v, bo, sa⟩ ⟨hg, hwf⟩
  dsimp only at hg hwf ⊢
  have hoa := hwf.old
  have hba := hwf.b
  refine Wc.assoc ?_
  refine Wc.assoc ?_
  refine Wc.region ?_
  refine Wk.q rfl rfl rfl (Qk.move rfl) ?_
  refine Wk.q rfl rfl rfl (Qk.move rfl) ?_
  refine Wk.b rfl rfl rfl (Qk.bin rfl rfl rfl) fun b h22 => ?_
  cases b
  · -- t22 = False
    have hge : g = 2 := by
      have : ¬ ((g : Int) < 2) := of_decide_eq_false h22
      omega
    subst hge
    refine Wk.next ?_
    refine Wc.condF rfl ?_
    refine Wc.jump (fun _ _ => rfl) ?_
    refine Wc.assoc ?_
    refine Wc.assoc ?_
    refine Wc.region ?_
    refine Wk.q rfl rfl rfl (Qk.assign rfl) ?_
    refine Wk.next ?_
    refine Wc.block ?_
    refine Wc.loop (σ := Nat × Value × Option Nat × St) (fun y => y.1 ≤ 2 ∧ WF s y.2.1 (outA 2 ++ endA y.1) y.2.2.1 y.2.2.2) (fun y => [(0, wv), (1, mv), (4, .pointer (some ⟨s.size, 0, none⟩)), (5, .int .i64 2), (6, .pointer (some ⟨s.size + 1, 0, none⟩)), (9, .int .i64 y.1)]) (fun y => y.2.2.2) (fun y => 2 - y.1) (0, v, bo, sa)
      ⟨Nat.zero_le _, hwf⟩ ⟨rfl, rfl, rfl, rfl, rfl, rfl, trivial⟩ rfl ?_
    clear hwf hoa hba
    rintro ⟨i, v, bo, sa⟩ ⟨hi, hwf⟩
    dsimp only at hi hwf ⊢
    have hoa := hwf.old
    have hba := hwf.b
    have hra := hwf.r
    have hsv := hwf.g.sc.2.1
    refine Wc.assoc ?_
    refine Wc.assoc ?_
    refine Wc.region ?_
    refine Wk.q rfl rfl rfl (Qk.move rfl) ?_
    refine Wk.q rfl rfl rfl (Qk.move rfl) ?_
    refine Wk.q rfl rfl rfl (Qk.lenR rfl rfl rfl hW sl38) ?_
    refine Wk.b rfl rfl rfl (Qk.bin rfl rfl rfl) fun b h61 => ?_
    cases b
    · -- t61 = False
      have hge : i = 2 := by
        have : ¬ ((i : Int) < ((2 : Nat) : Int)) := of_decide_eq_false h61
        omega
      subst hge
      refine Wk.next ?_
      refine Wc.condF rfl ?_
      refine Wc.jump (fun _ _ => rfl) ?_
      refine Wc.assoc ?_
      refine Wc.region ?_
      refine Wk.r rfl rfl rfl (Rk.cells rfl sh24 (by first | assumption | repeat (first | exact gnew | exact gsetn gnew | assumption | exact gsetn hd9 | refine gpush ?_ | refine gset ?_ (by simp; omega) )) (by simp) (by simp)) ?_
      refine Wk.h rfl rfl rfl (Hk.whole rfl rfl sh24 (by first | assumption | repeat (first | exact gnew | exact gsetn gnew | assumption | exact gsetn hd9 | refine gpush ?_ | refine gset ?_ (by simp; omega) )) rfl rfl (by first | rfl | (show (true && (Abs.scalar _ && true)) = true; rw [Bool.true_and, Bool.and_true]; assumption))) ?_
      refine Wk.next ?_
      refine Wc.store fun s3 e3 => ?_
      have hld : aload Try.prog s3 24 (.pointer (some ⟨s.size, 0, none⟩)) = some (.agg #[.int .i64 6, v]) := by
        subst e3
        simp [aload, sh24, St.cells, gsetn hra]
      refine Wc.doneC (fun _ _ => rfl) (ares_cell rfl hld ares_nil) ?_
      subst e3
      refine ⟨v, rfl, (hwf.g.keep fun b e => ?_).arow, hoa.gset (Nat.le_refl _)⟩
      subst e
      have := hwf.g.lt
      rw [St.get_set_other _ _ _ _ (by omega)]
    · -- t61 = True
      have hlt : i < 2 := by
        have : (i : Int) < ((2 : Nat) : Int) := of_decide_eq_true h61
        omega
      refine Wk.next ?_
      refine Wc.condT rfl ?_
      refine Wc.skip ?_
      refine Wc.assoc ?_
      refine Wc.block ?_
      refine Wc.draw ?_
      refine Wd.store' fun s4 e4 => ?_
      have ho4 : Old sa s4 := by subst e4; exact Old.reserve _ _
      have hwf4 := hwf.same (ho4.same []) (fun x hx => by simp at hx) (fun b _ h => by simp at h)
      have hb4 := hwf4.b
      have hoa4 := hwf4.old
      have hd4 : s4.get (sa.size + 14) = some ⟨[], .dead⟩ := by subst e4; exact gnone (by decide)
      clear e4
      refine Wd.q rfl rfl rfl (Qk.fa rfl fd24_1) ?_
      refine Wd.r rfl rfl rfl (Rk.cell rfl sh22 (by first | assumption | repeat (first | exact gnew | exact gsetn gnew | assumption | exact gsetn hd9 | refine gpush ?_ | refine gset ?_ (by simp; omega) )) (by simp) rfl) rfl ?_
      refine Wd.q rfl rfl rfl (Qk.move rfl) ?_
      refine Wd.q rfl rfl rfl (Qk.add rfl rfl (by omega)) ?_
      refine Wd.q rfl rfl rfl (Qk.move rfl) ?_
      refine Wd.q rfl rfl rfl (Qk.add rfl rfl (by omega)) ?_
      refine Wd.q rfl rfl rfl (Qk.fa rfl fd24_0) ?_
      refine Wd.r rfl rfl rfl (Rk.cell rfl sh3 (by first | assumption | repeat (first | exact gnew | exact gsetn gnew | assumption | exact gsetn hd9 | refine gpush ?_ | refine gset ?_ (by simp; omega) )) (by simp) rfl) rfl ?_
      refine Wd.q rfl rfl rfl (Qk.sub rfl rfl (by omega)) ?_
      refine Wd.q rfl rfl rfl (Qk.move rfl) ?_
      refine Wd.q rfl rfl rfl (Qk.move rfl) ?_
      refine Wd.q rfl rfl rfl (Qk.at rfl rfl ar28 sl28 (hM.old (by assumption)) (by constructor <;> omega)) ?_
      refine Wd.r rfl rfl rfl (Rk.intR rfl sh3 (hM.old (by assumption)) (i := i) (by omega)) rfl ?_
      refine Wd.q rfl rfl rfl (Qk.build rfl build47) ?_
      refine Wd.f rfl rfl rfl (Fk.one rfl rfl sl22 ze47 rfl rfl rfl (by decide)) ?_
      refine Wd.store' fun s5 e5 => ?_
      have ho5 : Old sa s5 := by subst e5; exact ho4.gset (by omega)
      have hwf5 := hwf.same (ho5.same []) (fun x hx => by simp at hx) (fun b _ h => by simp at h)
      have hb5 := hwf5.b
      have hw5 : s5.get (sa.size + 14) = some ⟨acells ⟨1 + 2 + i, 6 - 1, ([1, 1] : List Int).getD i 0⟩, .rw⟩ := by subst e5; exact gsetn hd4
      obtain ⟨v', t', b', hap, hsc, hcl, hgb, hwf'⟩ := hwf5.add hw5 (by simp [outA, endA, inA]; omega)
      refine Wd.h rfl rfl rfl (Hk.append rfl rfl rfl rfl (by assumption)) rfl rfl ?_
      refine Wd.q rfl rfl rfl (Qk.fa rfl fd24_1) ?_
      refine Wd.h rfl rfl rfl (Hk.cell rfl rfl sh22 (by first | assumption | repeat (first | exact gnew | exact gsetn gnew | assumption | exact gsetn hd9 | refine gpush ?_ | refine gset ?_ (by simp; omega) )) (by first | exact Nat.le_of_ble_eq_true rfl | simp) (by first | rfl | assumption) (by first | rfl | assumption)) rfl rfl ?_
      refine Wd.next ?_
      refine Wc.store fun s6 e6 => ?_
      have hwf6 : WF s v' (outA 2 ++ endA i ++ [⟨1 + 2 + i, 6 - 1, ([1, 1] : List Int).getD i 0⟩]) (some b') s6 := by subst e6; exact hwf'
      refine Wc.thence (fun _ _ => rfl) ?_
      refine Wc.region ?_
      refine Wk.q rfl rfl rfl (Qk.move rfl) ?_
      refine Wk.q rfl rfl rfl (Qk.add rfl rfl (by omega)) ?_
      refine Wk.q rfl rfl rfl (Qk.assign rfl) ?_
      refine Wk.next ?_
      refine Wc.finish fun fr hf => ?_
      refine ⟨(i + 1, v', some b', s6), ⟨hlt, ?_⟩, by dsimp only; omega, rfl, hf.less ⟨rfl, rfl, rfl, rfl, rfl, rfl, trivial⟩⟩
      dsimp only
      rw [endA_step, ← List.append_assoc]
      exact hwf6
  · -- t22 = True
    have hlt : g < 2 := by
      have : (g : Int) < 2 := of_decide_eq_true h22
      omega
    refine Wk.next ?_
    refine Wc.condT rfl ?_
    refine Wc.skip ?_
    refine Wc.assoc ?_
    refine Wc.block ?_
    refine Wc.assoc ?_
    refine Wc.region ?_
    refine Wk.q rfl rfl rfl (Qk.fa rfl fd24_1) ?_
    refine Wk.r rfl rfl rfl (Rk.cell rfl sh22 (by first | assumption | repeat (first | exact gnew | exact gsetn gnew | assumption | exact gsetn hd9 | refine gpush ?_ | refine gset ?_ (by simp; omega) )) (by simp) rfl) ?_
    refine Wk.q rfl rfl rfl (Qk.move rfl) ?_
    refine Wk.q rfl rfl rfl (Qk.add rfl rfl (by omega)) ?_
    refine Wk.q rfl rfl rfl (Qk.build rfl build47) ?_
    refine Wk.f rfl rfl rfl (Fk.one rfl rfl sl22 ze47 rfl rfl rfl (by decide)) ?_
    refine Wk.store' fun s7 e7 => ?_
    have hwf7 : WF s v (outA g) bo s7 := by subst e7; exact hwf.same ((Old.push _ _).same []) (fun x hx => by simp at hx) (fun b _ h => by simp at h)
    have hb7 := hwf7.b
    have hw7 : s7.get sa.size = some ⟨acells ⟨0, 1 + g, 1⟩, .rw⟩ := by subst e7; exact gnew
    obtain ⟨v', t', b', hap, hsc, hcl, hgb, hwf'⟩ := hwf7.add hw7 (by have := outA_len g; omega)
    refine Wk.h rfl rfl rfl (Hk.append rfl rfl rfl rfl (by assumption)) ?_
    refine Wk.q rfl rfl rfl (Qk.fa rfl fd24_1) ?_
    refine Wk.h rfl rfl rfl (Hk.cell rfl rfl sh22 (by first | assumption | repeat (first | exact gnew | exact gsetn gnew | assumption | exact gsetn hd9 | refine gpush ?_ | refine gset ?_ (by simp; omega) )) (by first | exact Nat.le_of_ble_eq_true rfl | simp) (by first | rfl | assumption) (by first | rfl | assumption)) ?_
    refine Wk.next ?_
    refine Wc.store fun s8 e8 => ?_
    have hwf8 : WF s v' (outA g ++ [⟨0, 1 + g, 1⟩] ++ inA g 0) (some b') s8 := by subst e8; simpa [inA] using hwf'
    clear e8
    refine Wc.assoc ?_
    refine Wc.region ?_
    refine Wk.q rfl rfl rfl (Qk.assign rfl) ?_
    refine Wk.next ?_
    refine Wc.block ?_
    refine Wc.loop (σ := Nat × Value × Option Nat × St) (fun y => y.1 ≤ 2 ∧ WF s y.2.1 (outA g ++ [⟨0, 1 + g, 1⟩] ++ inA g y.1) y.2.2.1 y.2.2.2) (fun y => [(0, wv), (1, mv), (4, .pointer (some ⟨s.size, 0, none⟩)), (5, .int .i64 2), (6, .pointer (some ⟨s.size + 1, 0, none⟩)), (7, .int .i64 g), (8, .int .i64 y.1)]) (fun y => y.2.2.2) (fun y => 2 - y.1) (0, v', some b', s8)
      ⟨Nat.zero_le _, hwf8⟩ ⟨rfl, rfl, rfl, rfl, rfl, rfl, rfl, trivial⟩ rfl ?_
    clear hwf8 hwf7 hwf hoa hba hb7 hw7 hap hgb hwf' hsc hcl
    rintro ⟨i, v, bo, sa⟩ ⟨hi, hwf⟩
    dsimp only at hi hwf ⊢
    have hoa := hwf.old
    have hba := hwf.b
    refine Wc.assoc ?_
    refine Wc.assoc ?_
    refine Wc.region ?_
    refine Wk.q rfl rfl rfl (Qk.move rfl) ?_
    refine Wk.q rfl rfl rfl (Qk.move rfl) ?_
    refine Wk.q rfl rfl rfl (Qk.lenR rfl rfl rfl hW sl38) ?_
    refine Wk.b rfl rfl rfl (Qk.bin rfl rfl rfl) fun b h36 => ?_
    cases b
    · -- t36 = False
      refine Wk.next ?_
      refine Wc.condF rfl ?_
      refine Wc.jump (fun _ _ => rfl) ?_
      refine Wc.thence (fun _ _ => rfl) ?_
      refine Wc.region ?_
      refine Wk.q rfl rfl rfl (Qk.move rfl) ?_
      refine Wk.q rfl rfl rfl (Qk.add rfl rfl (by omega)) ?_
      refine Wk.q rfl rfl rfl (Qk.assign rfl) ?_
      refine Wk.next ?_
      refine Wc.finish fun fr hf => ?_
      have hge : i = 2 := by
        have : ¬ ((i : Int) < ((2 : Nat) : Int)) := of_decide_eq_false h36
        omega
      subst hge
      exact ⟨(g + 1, v, bo, sa), ⟨hlt, by dsimp only; rw [outA]; exact hwf⟩, by dsimp only; omega, rfl, hf.less ⟨rfl, rfl, rfl, rfl, rfl, rfl, trivial⟩⟩
    · -- t36 = True
      have hlt2 : i < 2 := by
        have : (i : Int) < ((2 : Nat) : Int) := of_decide_eq_true h36
        omega
      have hBi := (hB i hlt2).old hoa
      have hl2 : ([true, true] : List Bool).length = 2 := rfl
      refine Wk.next ?_
      refine Wc.condT rfl ?_
      refine Wc.skip ?_
      refine Wc.assoc ?_
      refine Wc.block ?_
      refine Wc.assoc ?_
      refine Wc.region ?_
      refine Wk.q rfl rfl rfl (Qk.move rfl) ?_
      refine Wk.q rfl rfl rfl (Qk.move rfl) ?_
      refine Wk.q rfl rfl rfl (Qk.at rfl rfl ar38 sl38 (Row.old (by assumption) hW) (by constructor <;> omega)) ?_
      refine Wk.r rfl rfl rfl (Rk.atS rfl sh31 (Row.old (by assumption) hW) (i := i) (by omega) rfl) ?_
      refine Wk.q rfl rfl rfl (Qk.move rfl) ?_
      refine Wk.q rfl rfl rfl (Qk.at rfl rfl ar31 sl31 hBi (by constructor <;> omega)) ?_
      refine Wk.rb rfl rfl rfl (Rk.boolR rfl sh4 hBi (by omega)) fun b h45 => ?_
      obtain rfl : b = true := by rw [← h45]; exact tt_get hlt -- t45
      refine Wk.next ?_
      refine Wc.condT rfl ?_
      refine Wc.region ?_
      refine Wk.q rfl rfl rfl (Qk.fa rfl fd24_1) ?_
      refine Wk.r rfl rfl rfl (Rk.cell rfl sh22 (by first | assumption | repeat (first | exact gnew | exact gsetn gnew | assumption | exact gsetn hd9 | refine gpush ?_ | refine gset ?_ (by simp; omega) )) (by simp) rfl) ?_
      refine Wk.q rfl rfl rfl (Qk.move rfl) ?_
      refine Wk.q rfl rfl rfl (Qk.add rfl rfl (by omega)) ?_
      refine Wk.q rfl rfl rfl (Qk.move rfl) ?_
      refine Wk.q rfl rfl rfl (Qk.add rfl rfl (by omega)) ?_
      refine Wk.q rfl rfl rfl (Qk.move rfl) ?_
      refine Wk.q rfl rfl rfl (Qk.add rfl rfl (by omega)) ?_
      refine Wk.q rfl rfl rfl (Qk.build rfl build47) ?_
      refine Wk.f rfl rfl rfl (Fk.one rfl rfl sl22 ze47 rfl rfl rfl (by decide)) ?_
      refine Wk.store' fun s9 e9 => ?_
      have hwf7 : WF s v (outA g ++ [⟨0, 1 + g, 1⟩] ++ inA g i) bo s9 := by subst e9; exact hwf.same ((Old.push _ _).same []) (fun x hx => by simp at hx) (fun b _ h => by simp at h)
      have hb7 := hwf7.b
      have hw7 : s9.get sa.size = some ⟨acells ⟨1 + g, 1 + 2 + i, 1⟩, .rw⟩ := by subst e9; exact gnew
      obtain ⟨v', t', b', hap, hsc, hcl, hgb, hwf'⟩ := hwf7.add hw7 (by have := outA_len g; simp [inA]; omega)
      refine Wk.h rfl rfl rfl (Hk.append rfl rfl rfl rfl (by assumption)) ?_
      refine Wk.q rfl rfl rfl (Qk.fa rfl fd24_1) ?_
      refine Wk.h rfl rfl rfl (Hk.cell rfl rfl sh22 (by first | assumption | repeat (first | exact gnew | exact gsetn gnew | assumption | exact gsetn hd9 | refine gpush ?_ | refine gset ?_ (by simp; omega) )) (by first | exact Nat.le_of_ble_eq_true rfl | simp) (by first | rfl | assumption) (by first | rfl | assumption)) ?_
      refine Wk.next ?_
      refine Wc.store fun s10 e10 => ?_
      have hwf8 : WF s v' (outA g ++ [⟨0, 1 + g, 1⟩] ++ inA g i ++ [⟨1 + g, 1 + 2 + i, 1⟩]) (some b') s10 := by subst e10; exact hwf'
      refine Wc.thence (fun _ _ => rfl) ?_
      refine Wc.region ?_
      refine Wk.q rfl rfl rfl (Qk.move rfl) ?_
      refine Wk.q rfl rfl rfl (Qk.add rfl rfl (by omega)) ?_
      refine Wk.q rfl rfl rfl (Qk.assign rfl) ?_
      refine Wk.next ?_
      refine Wc.finish fun fr hf => ?_
      refine ⟨(i + 1, v', some b', s10), ⟨hlt2, ?_⟩, by dsimp only; omega, rfl, hf.less ⟨rfl, rfl, rfl, rfl, rfl, rfl, rfl, trivial⟩⟩
      dsimp only
      rw [inA_step, ← List.append_assoc]
      exact hwf8
end Go.Proofs.Ytgkmpidihgbkdaa
