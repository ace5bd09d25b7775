/- The greatest flow: flow.greatest. -/
import Derived.Test.YtgkmpidihgbkdaaJQ
namespace Go.Proofs.Ytgkmpidihgbkdaa
open Go.Abs
variable {K : Known}

theorem build83 {N : Int} {v : Value} {b m : Nat} : abuild Try.prog 83 [(0, .agg [.int .i64 N, v].toArray), (1, .slice (some ⟨b, 0, none⟩) m m)] = some (.agg #[.int .i64 N, v, .slice (some ⟨b, 0, none⟩) m m, .slice none 0 0, .int .i64 0, .int .i64 0]) := by
  simp [abuild, fo83, ze83, afill, placeOf, fd83_0, fd83_1, Value.cells, isVal, splice]

set_option maxRecDepth 100000 in
theorem c31 (hK : Late K) {v : Value} {N : Int} {l : List Arc} {s : St} (hok : NetOk N l) (hv : ARow s v l) :
    Ev Try.prog K (.func (.func 31) #[] #[]) [.agg #[.int .i64 N, v]] s fun r s' => ∃ b xs, r = .slice (some ⟨b, 0, none⟩) l.length l.length ∧ s.size ≤ b ∧ s'.get b = some ⟨ic xs, .rw⟩ ∧ xs.length = l.length ∧ Gr N l (am xs) ∧ Old s s' := by
  have hN1 := hok.most
  have hN2 := hok.two
  have hll := hok.len
  refine Ev.enterK (hK.none (by decide) _) Try.func31 rfl rfl (Nat.le_of_ble_eq_true rfl) ?_
  refine Wc.tail ?_
  refine Wc.assoc ?_
  refine Wc.region ?_
  refine Wk.f rfl rfl rfl (Fk.box rfl rfl) ?_
  refine Wk.q rfl rfl rfl (Qk.assign rfl) ?_
  refine Wk.next ?_
  refine Wc.store fun s1 e1 => ?_
  have ho1 : Old s s1 := by subst e1; exact Old.push _ _
  have hg1 : s1.get s.size = some ⟨[.int .i64 N, v], .rw⟩ := by subst e1; exact gnew
  have hv1 : ARow s1 v l := hv.old ho1
  refine Wc.assoc ?_
  refine Wc.draw ?_
  refine Wd.store' fun s2 e2 => ?_
  have ho2 : Old s1 s2 := by subst e2; exact Old.reserve _ _
  have hg2 : s2.get s.size = some ⟨[.int .i64 N, v], .rw⟩ := ho2.get hg1
  have hd2 : s2.get (s1.size + 4) = some ⟨[], .dead⟩ := by subst e2; exact gnone (by decide)
  have hd3 : s2.get (s1.size + 6) = some ⟨[], .dead⟩ := by subst e2; exact gnone (by decide)
  refine Wd.r rfl rfl rfl (Rk.cells rfl sh24 (by first | assumption | repeat (first | exact gnew | exact gsetn gnew | assumption | refine gpush ?_ | refine gset ?_ (by simp; omega) )) (by simp) (by simp)) rfl ?_
  refine Wd.q rfl rfl rfl (Qk.fa rfl fd24_1) ?_
  refine Wd.r rfl rfl rfl (Rk.cell rfl sh22 (by first | assumption | repeat (first | exact gnew | exact gsetn gnew | assumption | refine gpush ?_ | refine gset ?_ (by simp; omega) )) (by simp) rfl) rfl ?_
  refine Wd.q rfl rfl rfl (Qk.lenR rfl rfl rfl hv1 sl22) ?_
  refine Wd.f rfl rfl rfl (Fk.ints rfl rfl sl28 ze3 (by omega)) ?_
  refine Wd.q rfl rfl rfl (Qk.build rfl build83) ?_
  refine Wd.f rfl rfl rfl (Fk.box rfl rfl) ?_
  refine Wd.q rfl rfl rfl (Qk.assign rfl) ?_
  refine Wd.next ?_
  refine Wc.store fun s3 e3 => ?_
  have ho3 : Old s1 s3 := by subst e3; exact (ho2.gset (by omega)).gset (by omega)
  have hl1 := St.get_lt hg1
  have hg3 : s3.get s.size = some ⟨[.int .i64 N, v], .rw⟩ := by subst e3; exact gset (gset hg2 (by omega)) (by omega)
  have hF3 : s3.get (s1.size + 4) = some ⟨ic (List.replicate l.length 0), .rw⟩ := by subst e3; exact gset (gsetn hd2) (by omega)
  have hW3 : s3.get (s1.size + 6) = some ⟨wc N v l (s1.size + 4) (.slice none 0 0) 0 0, .rw⟩ := by subst e3; exact gsetn (gset hd3 (by omega))
  clear e3 e2
  refine Wc.assoc ?_
  refine Wc.region ?_
  refine Wk.q rfl rfl rfl (Qk.move rfl) ?_
  refine Wk.q rfl rfl rfl (Qk.fa rfl fd24_0) ?_
  refine Wk.r rfl rfl rfl (Rk.cell rfl sh3 (by first | assumption | repeat (first | exact gnew | exact gsetn gnew | assumption | refine gpush ?_ | refine gset ?_ (by simp; omega) )) (by simp) rfl) ?_
  refine Wk.q rfl rfl rfl (Qk.sub rfl rfl (by omega)) ?_
  refine Wk.c rfl rfl rfl (Ck.call rfl rfl) ((c44 hK hok hv1 (k := 0) (by omega) (by omega) (by omega) (Nat.zero_le _) ho3 hW3 hF3 (by simp) (by rw [zeros_am]; exact fun i hi => ⟨Int.le_refl _, (hok.arc i hi).2.2.2.2.2.1⟩) ⟨by omega, by omega⟩ ⟨by omega, by omega⟩ ⟨by decide, by decide⟩).mono ?_)
  rintro _ s9 ⟨sum, xs, sv, d, rfl, hm9, hW9, hF9, hp9⟩
  have ho9 : Old s1 s9 := Same.older ho3 hm9 (by simp <;> omega)
  have hg9 : s9.get s.size = some ⟨[.int .i64 N, v], .rw⟩ := ho9.get hg1
  have hgr9 := gr_first hok hp9
  have hxl9 : xs.length = l.length := by rw [hp9.2.2.1.len]; simp
  refine Wk.next ?_
  refine Wc.assoc ?_
  refine Wc.assoc ?_
  refine Wc.region ?_
  refine Wk.q rfl rfl rfl (Qk.fa rfl fd24_1) ?_
  refine Wk.r rfl rfl rfl (Rk.cell rfl sh22 (by first | assumption | repeat (first | exact gnew | exact gsetn gnew | assumption | refine gpush ?_ | refine gset ?_ (by simp; omega) )) (by simp) rfl) ?_
  refine Wk.q rfl rfl rfl (Qk.lenR rfl rfl rfl hv1 sl22) ?_
  refine Wk.q rfl rfl rfl (Qk.move rfl) ?_
  refine Wk.next ?_
  refine Wc.block ?_
  refine Wc.loop (σ := Nat × List Int × Value × Nat × Int × St) (fun y => Old s1 y.2.2.2.2.2 ∧ y.2.2.2.2.2.get (s1.size + 6) = some ⟨wc N v l (s1.size + 4) y.2.2.1 y.2.2.2.1 y.2.2.2.2.1, .rw⟩ ∧ y.2.2.2.2.2.get (s1.size + 4) = some ⟨ic y.2.1, .rw⟩ ∧ y.2.1.length = l.length ∧ GrTo N l (am y.2.1) y.1 ∧ y.1 ≤ l.length)
    (fun y => [(3, .pointer (some ⟨s1.size + 6, 0, none⟩)), (20, v), (21, goInt l.length), (22, .int .i64 y.1)]) (fun y => y.2.2.2.2.2) (fun y => l.length - y.1) (0, xs, sv, 0, d, s9)
    ⟨ho9, hW9, hF9, hxl9, hgr9, Nat.zero_le _⟩ ⟨rfl, rfl, rfl, rfl, trivial⟩ rfl ?_
  clear ho9 hW9 hF9 hxl9 hgr9 hp9 hm9 hg9
  rintro ⟨i, xs, sv, k, d, sa⟩ ⟨hoa, hWa, hFa, hxl, hgr, hi⟩
  dsimp only at hoa hWa hFa hxl hgr hi ⊢
  refine Wc.assoc ?_
  refine Wc.region ?_
  refine Wk.b rfl rfl rfl (Qk.bin rfl rfl rfl) fun b h23 => ?_
  cases b
  · -- t23 = False
    refine Wk.next ?_
    refine Wc.assoc ?_
    refine Wc.condF rfl ?_
    refine Wc.jump (fun _ _ => rfl) ?_
    refine Wc.assoc ?_
    refine Wc.region ?_
    refine Wk.q rfl rfl rfl (Qk.move rfl) ?_
    refine Wk.q rfl rfl rfl (Qk.nilCheck rfl rfl) ?_
    refine Wk.q rfl rfl rfl (Qk.fa rfl fd83_1) ?_
    refine Wk.r rfl rfl rfl (Rk.cell rfl sh28 (by first | assumption | repeat (first | exact gnew | exact gsetn gnew | assumption | refine gpush ?_ | refine gset ?_ (by simp; omega) )) (by simp) rfl) ?_
    refine Wk.q rfl rfl rfl (Qk.assign rfl) ?_
    refine Wk.next ?_
    refine Wc.done'' (fun _ _ => rfl) rfl ?_
    have hge : l.length ≤ i := by
      have : ¬ ((i : Int) < (l.length : Int)) := of_decide_eq_false h23
      omega
    obtain rfl : i = l.length := by omega
    exact ⟨s1.size + 4, xs, rfl, by have := ho1.1; omega, hFa, hxl, hgr, ho1.trans hoa⟩
  · -- t23 = True
    have hlt : i < l.length := by
      have : (i : Int) < (l.length : Int) := of_decide_eq_true h23
      omega
    obtain ⟨a1, a2, a3, a4, a5, a6, a7⟩ := hok.arc i hlt
    have r1 : 0 ≤ xs.getD i 0 := (hgr.flow.range i hlt).1
    have r2 : xs.getD i 0 ≤ (arcAt l i).cap := (hgr.flow.range i hlt).2
    have hl2 := St.get_lt hWa
    refine Wk.next ?_
    refine Wc.assoc ?_
    refine Wc.condT rfl ?_
    refine Wc.skip ?_
    refine Wc.assoc ?_
    refine Wc.block ?_
    refine Wc.assoc ?_
    refine Wc.region ?_
    refine Wk.q rfl rfl rfl (Qk.move rfl) ?_
    refine Wk.q rfl rfl rfl (Qk.at rfl rfl ar22 sl22 (hv1.old (by assumption)) (by constructor <;> omega)) ?_
    refine Wk.r rfl rfl rfl (Rk.arc rfl sh47 (hv1.old (by assumption)) (i := i) (by omega)) ?_
    refine Wk.f rfl rfl rfl (Fk.alloc ze47) ?_
    refine Wk.q rfl rfl rfl (Qk.assign rfl) ?_
    refine Wk.h rfl rfl rfl (Hk.arc rfl rfl sh47 (by first | assumption | repeat (first | exact gnew | exact gsetn gnew | assumption | refine gpush ?_ | refine gset ?_ (by simp; omega) )) rfl) ?_
    refine Wk.next ?_
    refine Wc.store fun s4 e4 => ?_
    have hob : Old s1 s4 := by subst e4; exact (hoa.gpush _).gset hoa.1
    have hWb : s4.get (s1.size + 6) = some ⟨wc N v l (s1.size + 4) sv k d, .rw⟩ := by subst e4; exact gset (gpush hWa) (by omega)
    have hFb : s4.get (s1.size + 4) = some ⟨ic xs, .rw⟩ := by subst e4; exact gset (gpush hFa) (by omega)
    have hab : s4.get sa.size = some ⟨acells (arcAt l i), .rw⟩ := by subst e4; exact gsetn gnew
    clear e4
    refine Wc.assoc ?_
    refine Wc.region ?_
    refine Wk.q rfl rfl rfl (Qk.move rfl) ?_
    refine Wk.q rfl rfl rfl (Qk.move rfl) ?_
    refine Wk.q rfl rfl rfl (Qk.add rfl rfl (by omega)) ?_
    refine Wk.q rfl rfl rfl (Qk.nilCheck rfl rfl) ?_
    refine Wk.q rfl rfl rfl (Qk.fa rfl fd83_3) ?_
    refine Wk.h rfl rfl rfl (Hk.cell rfl rfl sh3 (by first | assumption | repeat (first | exact gnew | exact gsetn gnew | assumption | refine gpush ?_ | refine gset ?_ (by simp; omega) )) (by first | exact Nat.le_of_ble_eq_true rfl | simp) rfl rfl) ?_
    refine Wk.next ?_
    refine Wc.store fun s5 e5 => ?_
    have hoc : Old s1 s5 := by subst e5; exact hob.gset (by omega)
    have hWc : s5.get (s1.size + 6) = some ⟨wc N v l (s1.size + 4) sv (i + 1) d, .rw⟩ := by subst e5; exact gsetn hWb
    have hFc : s5.get (s1.size + 4) = some ⟨ic xs, .rw⟩ := by subst e5; exact gset hFb (by omega)
    have hac : s5.get sa.size = some ⟨acells (arcAt l i), .rw⟩ := by subst e5; exact gset hab (by omega)
    clear e5
    refine Wc.assoc ?_
    refine Wc.region ?_
    refine Wk.q rfl rfl rfl (Qk.move rfl) ?_
    refine Wk.q rfl rfl rfl (Qk.nilCheck rfl rfl) ?_
    refine Wk.q rfl rfl rfl (Qk.fa rfl fd83_1) ?_
    refine Wk.r rfl rfl rfl (Rk.cell rfl sh28 (by first | assumption | repeat (first | exact gnew | exact gsetn gnew | assumption | refine gpush ?_ | refine gset ?_ (by simp; omega) )) (by simp) rfl) ?_
    refine Wk.q rfl rfl rfl (Qk.move rfl) ?_
    refine Wk.q rfl rfl rfl (Qk.at1 rfl rfl ar28 sl28 (by constructor <;> omega)) ?_
    refine Wk.r rfl rfl rfl (Rk.int (i := i) rfl sh3 (by first | assumption | repeat (first | exact gnew | exact gsetn gnew | assumption | refine gpush ?_ | refine gset ?_ (by simp; omega) )) (by simp) (by first | omega | (simp; omega))) ?_
    refine Wk.q rfl rfl rfl (Qk.assign rfl) ?_
    refine Wk.next ?_
    refine Wc.drawE0 rfl ?_
    refine We.q rfl rfl rfl (Qk.move rfl) ?_
    refine We.q rfl rfl rfl (Qk.nilCheck rfl rfl) ?_
    refine We.q rfl rfl rfl (Qk.fa rfl fd83_1) ?_
    refine We.cell rfl rfl rfl rfl rfl sh28 (by first | assumption | repeat (first | exact gnew | exact gsetn gnew | assumption | refine gpush ?_ | refine gset ?_ (by simp; omega) )) (by simp) rfl (by simp [same, ssame]) (by repeat' (first | exact trivial | exact Or.inl rfl | apply And.intro | (refine Or.inr ⟨_, _, (by first | assumption | repeat (first | exact gnew | exact gsetn gnew | assumption | refine gpush ?_ | refine gset ?_ (by simp; omega) )), (by simp), rfl⟩))) ?_
    refine We.q rfl rfl rfl (Qk.move rfl) ?_
    refine We.q rfl rfl rfl (Qk.move rfl) ?_
    refine We.q rfl rfl rfl (Qk.move rfl) ?_
    refine We.q rfl rfl rfl (Qk.fa rfl fd47_0) ?_
    refine We.cell rfl rfl rfl rfl rfl sh3 (by first | assumption | repeat (first | exact gnew | exact gsetn gnew | assumption | refine gpush ?_ | refine gset ?_ (by simp; omega) )) (by simp) rfl (by simp [same, ssame]) (by repeat' (first | exact trivial | exact Or.inl rfl | apply And.intro | (refine Or.inr ⟨_, _, (by first | assumption | repeat (first | exact gnew | exact gsetn gnew | assumption | refine gpush ?_ | refine gset ?_ (by simp; omega) )), (by simp), rfl⟩))) ?_
    refine We.q rfl rfl rfl (Qk.fa rfl fd47_1) ?_
    refine We.cell rfl rfl rfl rfl rfl sh3 (by first | assumption | repeat (first | exact gnew | exact gsetn gnew | assumption | refine gpush ?_ | refine gset ?_ (by simp; omega) )) (by simp) rfl (by simp [same, ssame]) (by repeat' (first | exact trivial | exact Or.inl rfl | apply And.intro | (refine Or.inr ⟨_, _, (by first | assumption | repeat (first | exact gnew | exact gsetn gnew | assumption | refine gpush ?_ | refine gset ?_ (by simp; omega) )), (by simp), rfl⟩))) ?_
    refine We.q rfl rfl rfl (Qk.move rfl) ?_
    refine We.c rfl rfl rfl (Ck.call rfl rfl) (by repeat' (first | exact trivial | exact Or.inl rfl | apply And.intro | (refine Or.inr ⟨_, _, (by first | assumption | repeat (first | exact gnew | exact gsetn gnew | assumption | refine gpush ?_ | refine gset ?_ (by simp; omega) )), (by simp), rfl⟩))) ((c44 hK hok hv1 (k := i + 1) (by omega) (by omega) (by omega) hlt hoc hWc hFc hxl hgr.flow.range ⟨a1, a2⟩ ⟨a3, a4⟩ ⟨by omega, by omega⟩).mono ?_)
    rintro _ sd ⟨sum, xs1, sv1, d1, rfl, hmd, hWd, hFd, hpd⟩
    have hod : Old s1 sd := Same.older hoc hmd (by simp <;> omega)
    have hs0 := hpd.1
    have hs1 := hpd.2.1
    have hxl1 := hpd.2.2.1.len
    refine ⟨(by repeat' (first | exact trivial | exact Or.inl rfl | apply And.intro | (refine Or.inr ⟨_, _, (by first | assumption | repeat (first | exact gnew | exact gsetn gnew | assumption | refine gpush ?_ | refine gset ?_ (by simp; omega) )), (by simp), rfl⟩))), ?_⟩
    refine We.q rfl rfl rfl (Qk.sub rfl rfl (by omega)) ?_
    refine We.q rfl rfl rfl (Qk.at1 rfl rfl ar28 sl28 (by constructor <;> omega)) ?_
    refine We.h rfl rfl rfl (Hk.int (i := i) rfl rfl sh3 (by first | assumption | repeat (first | exact gnew | exact gsetn gnew | assumption | refine gpush ?_ | refine gset ?_ (by simp; omega) )) (by first | omega | (simp; omega))) (by repeat' (first | exact trivial | exact Or.inl rfl | apply And.intro | (refine Or.inr ⟨_, _, (by first | assumption | repeat (first | exact gnew | exact gsetn gnew | assumption | refine gpush ?_ | refine gset ?_ (by simp; omega) )), (by simp), rfl⟩))) (by repeat' (first | exact trivial | exact Or.inl rfl | apply And.intro | (refine Or.inr ⟨_, _, (by first | assumption | repeat (first | exact gnew | exact gsetn gnew | assumption | refine gpush ?_ | refine gset ?_ (by simp; omega) )), (by simp), rfl⟩))) ?_
    refine We.next ?_
    refine Wc.store fun s6 e6 => ?_
    refine Wc.thence (fun _ _ => rfl) ?_
    refine Wc.region ?_
    refine Wk.q rfl rfl rfl (Qk.add rfl rfl (by omega)) ?_
    refine Wk.q rfl rfl rfl (Qk.move rfl) ?_
    refine Wk.next ?_
    refine Wc.finish fun fr hf => ?_
    have hoe : Old s1 s6 := by subst e6; exact hod.gset (by omega)
    have hWe : s6.get (s1.size + 6) = some ⟨wc N v l (s1.size + 4) sv1 (i + 1) d1, .rw⟩ := by subst e6; exact gset hWd (by omega)
    have hFe : s6.get (s1.size + 4) = some ⟨ic (xs1.set i (xs.getD i 0 - sum)), .rw⟩ := by subst e6; exact gsetn hFd
    exact ⟨(i + 1, _, sv1, i + 1, d1, s6), ⟨hoe, hWe, hFe, by simp <;> omega, gr_next hok hlt hxl hgr hpd, hlt⟩, by dsimp only; omega, rfl, hf.less ⟨rfl, rfl, rfl, rfl, trivial⟩⟩

end Go.Proofs.Ytgkmpidihgbkdaa
