/- Networks that are joined. -/
import Derived.Test.YtgkmpidihgbkdaaJU
namespace Go.Proofs.Ytgkmpidihgbkdaa
open Go.Abs
variable {K : Known}

theorem ec24 : (Value.agg #[.int .i64 0, .slice none 0 0]).cells = #[.int .i64 0, .slice none 0 0] := rfl
theorem eci {x : Int} : (Value.int .i64 x).cells = #[.int .i64 x] := rfl
theorem evi {x : Int} : isVal (.int .i64 x) = true := rfl
theorem ec47 : (Value.agg #[.int .i64 0, .int .i64 0, .int .i64 0]).cells = #[.int .i64 0, .int .i64 0, .int .i64 0] := rfl
theorem build24 {x : Int} {v : Value} (hc : v.cells = #[v]) (hv : isVal v = true) : abuild Try.prog 24 [(0, .int .i64 x), (1, v)] = some (.agg #[.int .i64 x, v]) := by
  simp [abuild, fo24, ze24, afill, placeOf, fd24_0, fd24_1, ec24, eci, evi, hc, hv, splice]
theorem build24' {x : Int} : abuild Try.prog 24 [(0, .int .i64 x)] = some (.agg #[.int .i64 x, .slice none 0 0]) := by
  simp [abuild, fo24, ze24, afill, placeOf, fd24_0, ec24, eci, evi, splice]
theorem build47 {x y z : Int} : abuild Try.prog 47 [(0, .int .i64 x), (1, .int .i64 y), (2, .int .i64 z)] = some (Arc.val ⟨x, y, z⟩) := by
  simp [abuild, fo47, ze47, afill, placeOf, fd47_0, fd47_1, fd47_2, ec47, eci, evi, splice, Arc.val]
theorem same_row {s : St} {v : Value} {n sz : Nat} {g : Nat → List Value} (h : Row s v n sz g) : same v v = true := by
  have := row_same h
  obtain ⟨a, cap, rfl, _⟩ := h
  exact this

def shiftArc (nN : Int) (a : Arc) : Arc := ⟨a.fr + nN - 1, a.to + nN - 1, a.cap⟩


set_option maxRecDepth 100000 in
theorem c11 (hK : Late K) {nv mv : Value} {nN mN : Int} {nl ml : List Arc} {s : St} (hnok : NetOk nN nl) (hmok : NetOk mN ml) (hn : ARow s nv nl) (hm : ARow s mv ml) :
    Ev Try.prog K (.func (.func 11) #[] #[]) [.agg #[.int .i64 nN, nv], .agg #[.int .i64 mN, mv]] s fun r s' => ∃ v', r = .agg #[.int .i64 (nN + mN - 1), v'] ∧ ARow s' v' (nl ++ ml.map (shiftArc nN)) ∧ Old s s' := by
  have hnN := hnok.most
  have hmN := hmok.most
  have hnN2 := hnok.two
  have hmN2 := hmok.two
  have hnll := hnok.len
  have hmll := hmok.len
  have hsn := same_row hn
  have hsm := same_row hm
  refine Ev.enterK (hK.none (by decide) _) Try.func11 rfl rfl (Nat.le_of_ble_eq_true rfl) ?_
  refine Wc.tail ?_
  refine Wc.assoc ?_
  refine Wc.region ?_
  refine Wk.f rfl rfl rfl (Fk.box rfl rfl) ?_
  refine Wk.f rfl rfl rfl (Fk.box rfl rfl) ?_
  refine Wk.f rfl rfl rfl (Fk.alloc ze24) ?_
  refine Wk.next ?_
  refine Wc.store fun s1 e1 => ?_
  have ho1 : Old s s1 := by subst e1; exact (((Old.refl s).gpush _).gpush _).gpush _
  have hz1 : s1.size = s.size + 3 := by subst e1; simp
  have hn1 : s1.get s.size = some ⟨[.int .i64 nN, nv], .rw⟩ := by subst e1; exact gpush (gpush gnew)
  have hm1 : s1.get (s.push ⟨[.int .i64 nN, nv], .rw⟩).size = some ⟨[.int .i64 mN, mv], .rw⟩ := by subst e1; exact gpush gnew
  have hr1 : s1.get ((s.push ⟨[.int .i64 nN, nv], .rw⟩).push ⟨[.int .i64 mN, mv], .rw⟩).size = some ⟨[.int .i64 0, .slice none 0 0], .rw⟩ := by subst e1; exact gnew
  simp only [St.size_push] at hm1 hr1 ⊢
  refine Wc.assoc ?_
  refine Wc.drawE ?_
  refine We.store' fun s2 e2 => ?_
  have ho12 : Old s1 s2 := by subst e2; exact Old.reserve _ _
  have hz2 : s2.size = s1.size + 11 := by subst e2; rw [size_reserve]; rfl
  have hn2 := ho12.get hn1
  have hm2 := ho12.get hm1
  have hr2 := ho12.get hr1
  have hd2 : s2.get (s1.size + 10) = some ⟨[], .dead⟩ := by subst e2; exact gnone (by decide)
  have ho2 : Old s s2 := ho1.trans ho12
  clear e2
  refine We.q rfl rfl rfl (Qk.fa rfl fd24_0) ?_
  refine We.cell rfl rfl rfl rfl rfl sh3 (by first | assumption | repeat (first | exact gnew | exact gsetn gnew | assumption | exact gsetn hd9 | refine gpush ?_ | refine gset ?_ (by simp; omega) )) (by simp) rfl (by first | assumption | simp [same, ssame]) (by repeat' (first | exact trivial | exact Or.inl rfl | apply And.intro | (refine Or.inr ?_; assumption) | (refine Or.inr ⟨_, _, (by first | assumption | repeat (first | exact gnew | exact gsetn gnew | assumption | exact gsetn hd9 | refine gpush ?_ | refine gset ?_ (by simp; omega) )), (by simp), rfl⟩))) ?_
  refine We.q rfl rfl rfl (Qk.fa rfl fd24_0) ?_
  refine We.cell rfl rfl rfl rfl rfl sh3 (by first | assumption | repeat (first | exact gnew | exact gsetn gnew | assumption | exact gsetn hd9 | refine gpush ?_ | refine gset ?_ (by simp; omega) )) (by simp) rfl (by first | assumption | simp [same, ssame]) (by repeat' (first | exact trivial | exact Or.inl rfl | apply And.intro | (refine Or.inr ?_; assumption) | (refine Or.inr ⟨_, _, (by first | assumption | repeat (first | exact gnew | exact gsetn gnew | assumption | exact gsetn hd9 | refine gpush ?_ | refine gset ?_ (by simp; omega) )), (by simp), rfl⟩))) ?_
  refine We.q rfl rfl rfl (Qk.add rfl rfl (by omega)) ?_
  refine We.q rfl rfl rfl (Qk.sub rfl rfl (by omega)) ?_
  refine We.q rfl rfl rfl (Qk.fa rfl fd24_1) ?_
  refine We.cell rfl rfl rfl rfl rfl sh22 (by first | assumption | repeat (first | exact gnew | exact gsetn gnew | assumption | exact gsetn hd9 | refine gpush ?_ | refine gset ?_ (by simp; omega) )) (by simp) rfl (by first | assumption | simp [same, ssame]) (by repeat' (first | exact trivial | exact Or.inl rfl | apply And.intro | (refine Or.inr ?_; assumption) | (refine Or.inr ⟨_, _, (by first | assumption | repeat (first | exact gnew | exact gsetn gnew | assumption | exact gsetn hd9 | refine gpush ?_ | refine gset ?_ (by simp; omega) )), (by simp), rfl⟩))) ?_
  refine We.c rfl rfl rfl (Ck.call rfl rfl) (by repeat' (first | exact trivial | exact Or.inl rfl | apply And.intro | (refine Or.inr ?_; assumption) | (refine Or.inr ⟨_, _, (by first | assumption | repeat (first | exact gnew | exact gsetn gnew | assumption | exact gsetn hd9 | refine gpush ?_ | refine gset ?_ (by simp; omega) )), (by simp), rfl⟩))) ((c22 hK (hn.old ho2) (by omega)).mono ?_)
  rintro r9 s9 ⟨bo9, hgr9, ho29⟩
  have hn9 := ho29.get hn2
  have hm9 := ho29.get hm2
  have hr9 := ho29.get hr2
  have hd9 := ho29.get hd2
  obtain ⟨hc9, hs9, hi9⟩ := hgr9.sc
  refine ⟨(by repeat' (first | exact trivial | exact Or.inl rfl | apply And.intro | (refine Or.inr ?_; assumption) | (refine Or.inr ⟨_, _, (by first | assumption | repeat (first | exact gnew | exact gsetn gnew | assumption | exact gsetn hd9 | refine gpush ?_ | refine gset ?_ (by simp; omega) )), (by simp), rfl⟩))), ?_⟩
  refine We.q rfl rfl rfl (Qk.build rfl (build24 hc9 hi9)) ?_
  refine We.f rfl rfl rfl (Fk.alloc ze24) ?_
  refine We.h rfl rfl rfl (Hk.whole rfl rfl sh24 (by first | assumption | repeat (first | exact gnew | exact gsetn gnew | assumption | exact gsetn hd9 | refine gpush ?_ | refine gset ?_ (by simp; omega) )) rfl rfl (by first | rfl | (show (true && (Abs.scalar _ && true)) = true; rw [Bool.true_and, Bool.and_true]; assumption))) (by repeat' (first | exact trivial | exact Or.inl rfl | apply And.intro | (refine Or.inr ?_; assumption) | (refine Or.inr ⟨_, _, (by first | assumption | repeat (first | exact gnew | exact gsetn gnew | assumption | exact gsetn hd9 | refine gpush ?_ | refine gset ?_ (by simp; omega) )), (by simp), rfl⟩))) (by repeat' (first | exact trivial | exact Or.inl rfl | apply And.intro | (refine Or.inr ?_; assumption) | (refine Or.inr ⟨_, _, (by first | assumption | repeat (first | exact gnew | exact gsetn gnew | assumption | exact gsetn hd9 | refine gpush ?_ | refine gset ?_ (by simp; omega) )), (by simp), rfl⟩))) ?_
  refine We.next ?_
  refine Wc.store fun s3 e3 => ?_
  have hl1 := ho1.1
  have hl2 := ho29.1
  have ho3 : Old s s3 := by subst e3; exact (((ho2.trans ho29).gset (by omega)).gset (by omega))
  have hn3 : s3.get s.size = some ⟨[.int .i64 nN, nv], .rw⟩ := by subst e3; exact gset (gset hn9 (by omega)) (by omega)
  have hm3 : s3.get (s.size + 1) = some ⟨[.int .i64 mN, mv], .rw⟩ := by subst e3; exact gset (gset hm9 (by omega)) (by omega)
  have hr3 : s3.get (s.size + 1 + 1) = some ⟨[.int .i64 0, .slice none 0 0], .rw⟩ := by subst e3; exact gset (gset hr9 (by omega)) (by omega)
  have hb3 : s3.get (s1.size + 10) = some ⟨[.int .i64 (nN + mN - 1), r9], .rw⟩ := by subst e3; exact gsetn (gsetn hd9)
  have hgr3 : Grew s3 s2.size r9 3 nl.length (acs nl) bo9 := by subst e3; exact hgr9.keep fun b e => by subst e; have := hgr9.lt; rw [St.get_set_other _ _ _ _ (by omega), St.get_set_other _ _ _ _ (by omega)]
  have hz3 : s2.size ≤ s3.size := by subst e3; simp; exact hl2
  clear e3
  refine Wc.assoc ?_
  refine Wc.assoc ?_
  refine Wc.region ?_
  refine Wk.q rfl rfl rfl (Qk.fa rfl fd24_1) ?_
  refine Wk.r rfl rfl rfl (Rk.cell rfl sh22 (by first | assumption | repeat (first | exact gnew | exact gsetn gnew | assumption | exact gsetn hd9 | refine gpush ?_ | refine gset ?_ (by simp; omega) )) (by simp) rfl) ?_
  refine Wk.q rfl rfl rfl (Qk.lenR rfl rfl rfl hm sl22) ?_
  refine Wk.q rfl rfl rfl (Qk.move rfl) ?_
  refine Wk.next ?_
  refine Wc.block ?_
  refine Wc.loop (σ := Nat × Value × Option Nat × St) (fun y => y.1 ≤ ml.length ∧ Old s y.2.2.2 ∧ s2.size ≤ y.2.2.2.size ∧ y.2.2.2.get s.size = some ⟨[.int .i64 nN, nv], .rw⟩ ∧ y.2.2.2.get (s.size + 1 + 1) = some ⟨[.int .i64 0, .slice none 0 0], .rw⟩ ∧ y.2.2.2.get (s1.size + 10) = some ⟨[.int .i64 (nN + mN - 1), y.2.1], .rw⟩ ∧ Grew y.2.2.2 s2.size y.2.1 3 (nl ++ (ml.take y.1).map (shiftArc nN)).length (acs (nl ++ (ml.take y.1).map (shiftArc nN))) y.2.2.1)
    (fun y => [(2, .pointer (some ⟨s.size, 0, none⟩)), (4, .pointer (some ⟨s.size + 1 + 1, 0, none⟩)), (5, .pointer (some ⟨s1.size + 10, 0, none⟩)), (19, mv), (20, goInt ml.length), (21, .int .i64 y.1)]) (fun y => y.2.2.2) (fun y => ml.length - y.1) (0, r9, bo9, s3)
    ⟨Nat.zero_le _, ho3, hz3, hn3, hr3, hb3, by simpa using hgr3⟩ ⟨rfl, rfl, rfl, rfl, rfl, rfl, trivial⟩ rfl ?_
  clear ho3 hz3 hn3 hm3 hr3 hb3 hgr3 hc9 hs9 hi9 hgr9
  rintro ⟨i, v6, bo, sa⟩ ⟨hi, hoa, hza, hna, hra, hba, hgra⟩
  dsimp only at hi hoa hza hna hra hba hgra ⊢
  obtain ⟨hca, hsa, hia⟩ := hgra.sc
  refine Wc.assoc ?_
  refine Wc.region ?_
  refine Wk.b rfl rfl rfl (Qk.bin rfl rfl rfl) fun b h22 => ?_
  cases b
  · -- t22 = False
    have hge : ml.length ≤ i := by
      have : ¬ ((i : Int) < (ml.length : Int)) := of_decide_eq_false h22
      omega
    obtain rfl : i = ml.length := by omega
    refine Wk.next ?_
    refine Wc.assoc ?_
    refine Wc.condF rfl ?_
    refine Wc.jump (fun _ _ => rfl) ?_
    refine Wc.assoc ?_
    refine Wc.region ?_
    refine Wk.r rfl rfl rfl (Rk.cells rfl sh24 (by first | assumption | repeat (first | exact gnew | exact gsetn gnew | assumption | exact gsetn hd9 | refine gpush ?_ | refine gset ?_ (by simp; omega) )) (by simp) (by simp)) ?_
    refine Wk.h rfl rfl rfl (Hk.whole rfl rfl sh24 (by first | assumption | repeat (first | exact gnew | exact gsetn gnew | assumption | exact gsetn hd9 | refine gpush ?_ | refine gset ?_ (by simp; omega) )) rfl rfl (by first | rfl | (show (true && (Abs.scalar _ && true)) = true; rw [Bool.true_and, Bool.and_true]; assumption))) ?_
    refine Wk.next ?_
    refine Wc.store fun s4 e4 => ?_
    have hld : aload Try.prog s4 24 (.pointer (some ⟨s.size + 1 + 1, 0, none⟩)) = some (.agg #[.int .i64 (nN + mN - 1), v6]) := by
      subst e4
      simp [aload, sh24, St.cells, gsetn hra]
    refine Wc.doneC (fun _ _ => rfl) (ares_cell rfl hld ares_nil) ?_
    subst e4
    rw [List.take_length] at hgra
    exact ⟨v6, rfl, (hgra.keep fun b e => by subst e; have := hgra.lt; rw [St.get_set_other _ _ _ _ (by omega)]).arow, hoa.gset (by omega)⟩
  · -- t22 = True
    have hlt : i < ml.length := by
      have : (i : Int) < (ml.length : Int) := of_decide_eq_true h22
      omega
    obtain ⟨a1, a2, a3, a4, a5, a6, a7⟩ := hmok.arc i hlt
    refine Wk.next ?_
    refine Wc.assoc ?_
    refine Wc.condT rfl ?_
    refine Wc.skip ?_
    refine Wc.assoc ?_
    refine Wc.block ?_
    refine Wc.assoc ?_
    refine Wc.region ?_
    refine Wk.q rfl rfl rfl (Qk.at rfl rfl ar22 sl22 (hm.old (by assumption)) (by constructor <;> omega)) ?_
    refine Wk.r rfl rfl rfl (Rk.arc rfl sh47 (hm.old (by assumption)) (i := i) (by omega)) ?_
    refine Wk.f rfl rfl rfl (Fk.alloc ze47) ?_
    refine Wk.h rfl rfl rfl (Hk.arc rfl rfl sh47 (by first | assumption | repeat (first | exact gnew | exact gsetn gnew | assumption | exact gsetn hd9 | refine gpush ?_ | refine gset ?_ (by simp; omega) )) rfl) ?_
    refine Wk.next ?_
    refine Wc.store fun s5 e5 => ?_
    have hlb := St.get_lt hba
    have ho5 : Old s s5 := by subst e5; exact (hoa.gpush _).gset hoa.1
    have hn5 : s5.get s.size = some ⟨[.int .i64 nN, nv], .rw⟩ := by subst e5; exact gset (gpush hna) (Nat.ne_of_gt (St.get_lt hna))
    have hr5 : s5.get (s.size + 1 + 1) = some ⟨[.int .i64 0, .slice none 0 0], .rw⟩ := by subst e5; exact gset (gpush hra) (Nat.ne_of_gt (St.get_lt hra))
    have hb5 : s5.get (s1.size + 10) = some ⟨[.int .i64 (nN + mN - 1), v6], .rw⟩ := by subst e5; exact gset (gpush hba) (by omega)
    have ha5 : s5.get sa.size = some ⟨acells (arcAt ml i), .rw⟩ := by subst e5; exact gsetn gnew
    have hg5 : Grew s5 s2.size v6 3 (nl ++ (ml.take i).map (shiftArc nN)).length (acs (nl ++ (ml.take i).map (shiftArc nN))) bo := by subst e5; exact hgra.keep fun b e => by subst e; have := hgra.lt; rw [St.get_set_other _ _ _ _ (by omega), St.get_push_lt _ _ _ (by omega)]
    have hz5 : s5.size = sa.size + 1 := by subst e5; simp
    clear e5
    refine Wc.region ?_
    refine Wk.q rfl rfl rfl (Qk.fa rfl fd24_1) ?_
    refine Wk.r rfl rfl rfl (Rk.cell rfl sh22 (by first | assumption | repeat (first | exact gnew | exact gsetn gnew | assumption | exact gsetn hd9 | refine gpush ?_ | refine gset ?_ (by simp; omega) )) (by simp) rfl) ?_
    refine Wk.q rfl rfl rfl (Qk.fa rfl fd47_0) ?_
    refine Wk.r rfl rfl rfl (Rk.cell rfl sh3 (by first | assumption | repeat (first | exact gnew | exact gsetn gnew | assumption | exact gsetn hd9 | refine gpush ?_ | refine gset ?_ (by simp; omega) )) (by simp) rfl) ?_
    refine Wk.q rfl rfl rfl (Qk.fa rfl fd24_0) ?_
    refine Wk.r rfl rfl rfl (Rk.cell rfl sh3 (by first | assumption | repeat (first | exact gnew | exact gsetn gnew | assumption | exact gsetn hd9 | refine gpush ?_ | refine gset ?_ (by simp; omega) )) (by simp) rfl) ?_
    refine Wk.q rfl rfl rfl (Qk.add rfl rfl (by omega)) ?_
    refine Wk.q rfl rfl rfl (Qk.sub rfl rfl (by omega)) ?_
    refine Wk.q rfl rfl rfl (Qk.fa rfl fd47_1) ?_
    refine Wk.r rfl rfl rfl (Rk.cell rfl sh3 (by first | assumption | repeat (first | exact gnew | exact gsetn gnew | assumption | exact gsetn hd9 | refine gpush ?_ | refine gset ?_ (by simp; omega) )) (by simp) rfl) ?_
    refine Wk.q rfl rfl rfl (Qk.fa rfl fd24_0) ?_
    refine Wk.r rfl rfl rfl (Rk.cell rfl sh3 (by first | assumption | repeat (first | exact gnew | exact gsetn gnew | assumption | exact gsetn hd9 | refine gpush ?_ | refine gset ?_ (by simp; omega) )) (by simp) rfl) ?_
    refine Wk.q rfl rfl rfl (Qk.add rfl rfl (by omega)) ?_
    refine Wk.q rfl rfl rfl (Qk.sub rfl rfl (by omega)) ?_
    refine Wk.q rfl rfl rfl (Qk.fa rfl fd47_2) ?_
    refine Wk.r rfl rfl rfl (Rk.cell rfl sh3 (by first | assumption | repeat (first | exact gnew | exact gsetn gnew | assumption | exact gsetn hd9 | refine gpush ?_ | refine gset ?_ (by simp; omega) )) (by simp) rfl) ?_
    refine Wk.q rfl rfl rfl (Qk.build rfl build47) ?_
    refine Wk.f rfl rfl rfl (Fk.one rfl rfl sl22 ze47 rfl rfl rfl (by decide)) ?_
    refine Wk.store' fun s6 e6 => ?_
    have ho6 : Old s s6 := by subst e6; exact ho5.gpush _
    have hn6 : s6.get s.size = some ⟨[.int .i64 nN, nv], .rw⟩ := by subst e6; exact gpush hn5
    have hr6 : s6.get (s.size + 1 + 1) = some ⟨[.int .i64 0, .slice none 0 0], .rw⟩ := by subst e6; exact gpush hr5
    have hb6 : s6.get (s1.size + 10) = some ⟨[.int .i64 (nN + mN - 1), v6], .rw⟩ := by subst e6; exact gpush hb5
    have hg6 : Grew s6 s2.size v6 3 (nl ++ (ml.take i).map (shiftArc nN)).length (acs (nl ++ (ml.take i).map (shiftArc nN))) bo := by subst e6; exact hg5.keep fun b e => by subst e; have := hg5.lt; rw [St.get_push_lt _ _ _ (by omega)]
    have hw6 : s6.cells s5.size 0 (1 * 3) = some (acells (shiftArc nN (arcAt ml i))) := by subst e6; simp [St.cells]; exact ⟨Nat.le_refl _, rfl⟩
    have hz6 : s6.size = s5.size + 1 := by subst e6; simp
    have hlen : (nl ++ (ml.take i).map (shiftArc nN)).length ≤ 400 := by simp; omega
    obtain ⟨v7, t7, b7, hap, hg7, hb7', hsame⟩ := append_grew ap22 (cap2 := 1) (sp := none) hg6 (by omega) (by decide) (by omega) hw6 rfl rfl
    obtain ⟨hc7, hs7, hi7⟩ := hg7.sc
    have hmo : ∀ x ∈ bo.toList, s2.size ≤ x := fun x hx => by
      cases bo with
      | none => simp at hx
      | some b => simp at hx; subst hx; exact hg6.lt.2
    have hno : ∀ x, x < s2.size → x ∉ bo.toList := fun x hx hx' => by have := hmo x hx'; omega
    have hb7 := hsame.get hb6 (hno _ (by omega))
    have hn7 := hsame.get hn6 (hno _ (by omega))
    have hr7 := hsame.get hr6 (hno _ (by omega))
    have ho7 : Old s t7 := Same.older ho6 hsame (fun x hx => by have := hmo x hx; omega)
    have hl7 := hg7.lt
    refine Wk.h rfl rfl rfl (Hk.append rfl rfl rfl rfl (by assumption)) ?_
    refine Wk.q rfl rfl rfl (Qk.fa rfl fd24_1) ?_
    refine Wk.h rfl rfl rfl (Hk.cell rfl rfl sh22 (by first | assumption | repeat (first | exact gnew | exact gsetn gnew | assumption | exact gsetn hd9 | refine gpush ?_ | refine gset ?_ (by simp; omega) )) (by first | exact Nat.le_of_ble_eq_true rfl | simp) (by first | rfl | assumption) (by first | rfl | assumption)) ?_
    refine Wk.next ?_
    refine Wc.store fun s7 e7 => ?_
    refine Wc.thence (fun _ _ => rfl) ?_
    refine Wc.region ?_
    refine Wk.q rfl rfl rfl (Qk.add rfl rfl (by omega)) ?_
    refine Wk.q rfl rfl rfl (Qk.move rfl) ?_
    refine Wk.next ?_
    refine Wc.finish fun fr hf => ?_
    have hb8 : s7.get (s1.size + 10) = some ⟨[.int .i64 (nN + mN - 1), v7], .rw⟩ := by subst e7; exact gsetn hb7
    have hn8 : s7.get s.size = some ⟨[.int .i64 nN, nv], .rw⟩ := by subst e7; exact gset hn7 (by omega)
    have hr8 : s7.get (s.size + 1 + 1) = some ⟨[.int .i64 0, .slice none 0 0], .rw⟩ := by subst e7; exact gset hr7 (by omega)
    have ho8 : Old s s7 := by subst e7; exact ho7.gset (by omega)
    have hz8 : s2.size ≤ s7.size := by subst e7; rw [St.size_set]; omega
    have hlist : nl ++ (ml.take (i + 1)).map (shiftArc nN) = (nl ++ (ml.take i).map (shiftArc nN)) ++ [shiftArc nN (arcAt ml i)] := by
      have e : ml[i] = arcAt ml i := by simp [arcAt, List.getD, hlt]
      rw [List.take_succ_eq_append_getElem hlt, List.map_append, List.append_assoc, e]
      rfl
    have hg8 : Grew s7 s2.size v7 3 (nl ++ (ml.take (i + 1)).map (shiftArc nN)).length (acs (nl ++ (ml.take (i + 1)).map (shiftArc nN))) (some b7) := by
      rw [hlist, acs_app, List.length_append]
      refine Grew.keep (s := t7) ?_ fun b e => by cases e; subst e7; rw [St.get_set_other _ _ _ _ (by omega)]
      simpa [acs] using hg7
    exact ⟨(i + 1, v7, some b7, s7), ⟨hlt, ho8, hz8, hn8, hr8, hb8, hg8⟩, by dsimp only; omega, rfl, hf.less ⟨rfl, rfl, rfl, rfl, rfl, rfl, trivial⟩⟩
end Go.Proofs.Ytgkmpidihgbkdaa
