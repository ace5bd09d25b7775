/- What comes into each node: flow.balance. -/
import Derived.Test.YtgkmpidihgbkdaaJD
import Derived.Test.YtgkmpidihgbkdaaJN
namespace Go.Proofs.Ytgkmpidihgbkdaa
open Go.Abs
variable {K : Known}

set_option maxRecDepth 100000 in
theorem c45 (hK : Late K) {v xv : Value} {N : Int} {l : List Arc} {xs : List Int} {s : St} (hok : NetOk N l) (hv : ARow s v l) (hx : IRow s xv xs) (hlen : xs.length = l.length) (hr : inRange l (fun i => xs.getD i 0)) :
    Ev Try.prog K (.func (.func 45) #[] #[]) [.agg #[.int .i64 N, v], xv] s fun r s' => ∃ b net, r = .tuple #[.slice (some ⟨b, 0, none⟩) N.toNat N.toNat, .bool true] ∧ s.size ≤ b ∧ s'.get b = some ⟨ic net, .rw⟩ ∧ net.length = N.toNat ∧ (∀ u : Nat, (u : Int) < N → net.getD u 0 = bal l (fun i => xs.getD i 0) u) ∧ Old s s' := by
  have hN1 := hok.most
  have hN2 := hok.two
  have hg : (s.push ⟨[.int .i64 N, v], .rw⟩).get s.size = some ⟨[.int .i64 N, v], .rw⟩ := gnew
  refine Ev.enterK (hK.none (by decide) _) Try.func45 rfl rfl (Nat.le_of_ble_eq_true rfl) ?_
  refine Wc.tail ?_
  refine Wc.assoc ?_
  refine Wc.region ?_
  refine Wk.f rfl rfl rfl (Fk.box rfl rfl) ?_
  refine Wk.q rfl rfl rfl (Qk.assign rfl) ?_
  refine Wk.q rfl rfl rfl (Qk.assign rfl) ?_
  refine Wk.next ?_
  refine Wc.assoc ?_
  refine Wc.assoc ?_
  refine Wc.region ?_
  refine Wk.q rfl rfl rfl (Qk.move rfl) ?_
  refine Wk.q rfl rfl rfl (Qk.lenR rfl rfl rfl hx sl28) ?_
  refine Wk.q rfl rfl rfl (Qk.fa rfl fd24_1) ?_
  refine Wk.r rfl rfl rfl (Rk.cell rfl sh22 (by first | assumption | repeat (first | exact gnew | exact gsetn gnew | assumption | refine gpush ?_ | refine gset ?_ (by simp; omega) )) (by simp) rfl) ?_
  refine Wk.q rfl rfl rfl (Qk.lenR rfl rfl rfl hv sl22) ?_
  refine Wk.b rfl rfl rfl (Qk.bin rfl rfl rfl) fun b h14 => ?_
  obtain rfl : b = false := by simpa [hlen] using h14.symm -- t14
  refine Wk.next ?_
  refine Wc.condF rfl ?_
  refine Wc.skip ?_
  refine Wc.assoc ?_
  refine Wc.region ?_
  refine Wk.q rfl rfl rfl (Qk.fa rfl fd24_0) ?_
  refine Wk.r rfl rfl rfl (Rk.cell rfl sh3 (by first | assumption | repeat (first | exact gnew | exact gsetn gnew | assumption | refine gpush ?_ | refine gset ?_ (by simp; omega) )) (by simp) rfl) ?_
  refine Wk.f rfl rfl rfl (Fk.ints rfl rfl sl28 ze3 (by omega)) ?_
  refine Wk.q rfl rfl rfl (Qk.assign rfl) ?_
  refine Wk.next ?_
  refine Wc.assoc ?_
  refine Wc.assoc ?_
  refine Wc.region ?_
  refine Wk.q rfl rfl rfl (Qk.fa rfl fd24_1) ?_
  refine Wk.r rfl rfl rfl (Rk.cell rfl sh22 (by first | assumption | repeat (first | exact gnew | exact gsetn gnew | assumption | refine gpush ?_ | refine gset ?_ (by simp; omega) )) (by simp) rfl) ?_
  refine Wk.q rfl rfl rfl (Qk.lenR rfl rfl rfl hv sl22) ?_
  refine Wk.q rfl rfl rfl (Qk.move rfl) ?_
  refine Wk.next ?_
  refine Wc.block ?_
  refine Wc.store fun s1 e1 => ?_
  have ho1 : Old s s1 := by subst e1; exact (Old.push _ _).gpush _
  have hb1 : s1.get (s.size + 1) = some ⟨ic (List.replicate N.toNat 0), .rw⟩ := by subst e1; exact (by simp : (s.push ⟨[.int .i64 N, v], .rw⟩).size = s.size + 1) ▸ gnew
  simp only [St.size_push]
  refine Wc.loop (σ := Nat × List Int × St) (fun y => Old s y.2.2 ∧ y.2.2.get (s.size + 1) = some ⟨ic y.2.1, .rw⟩ ∧ y.2.1.length = N.toNat ∧ y.1 ≤ l.length ∧ ∀ v : Nat, (v : Int) < N → y.2.1.getD v 0 = Sm y.1 (into l (fun i => xs.getD i 0) (only v)))
    (fun y => [(1, xv), (6, .slice (some ⟨s.size + 1, 0, none⟩) N.toNat N.toNat), (19, v), (20, goInt l.length), (21, .int .i64 y.1)]) (fun y => y.2.2) (fun y => l.length - y.1) (0, List.replicate N.toNat 0, s1)
    ⟨ho1, hb1, by simp, Nat.zero_le _, fun v _ => by simp [Sm, List.getD, List.getElem?_replicate]; split <;> rfl⟩ ⟨rfl, rfl, rfl, rfl, rfl, trivial⟩ rfl ?_
  rintro ⟨i, net, s1⟩ ⟨ho, hb, hnl, hi, hnet⟩
  dsimp only at ho hb hnl hi hnet ⊢
  refine Wc.assoc ?_
  refine Wc.region ?_
  refine Wk.b rfl rfl rfl (Qk.bin rfl rfl rfl) fun b h22 => ?_
  cases b
  · -- t22 = False
    refine Wk.next ?_
    refine Wc.assoc ?_
    refine Wc.condF rfl ?_
    refine Wc.jump (fun _ _ => rfl) ?_
    refine Wc.assoc ?_
    refine Wc.region ?_
    refine Wk.q rfl rfl rfl (Qk.move rfl) ?_
    refine Wk.q rfl rfl rfl (Qk.assign rfl) ?_
    refine Wk.q rfl rfl rfl (Qk.assign rfl) ?_
    refine Wk.next ?_
    refine Wc.done'' (fun _ _ => rfl) rfl ?_
    have hge : l.length ≤ i := by simpa using h22
    obtain rfl : i = l.length := by omega
    exact ⟨s.size + 1, net, rfl, Nat.le_succ _, hb, hnl, hnet, ho⟩
  · -- t22 = True
    have hlt : i < l.length := by simpa using h22
    obtain ⟨a1, a2, a3, a4, a5, a6, a7⟩ := hok.arc i hlt
    obtain ⟨x1, x2⟩ := hr i hlt
    have hN := hok.most
    have hll := hok.len
    refine Wk.next ?_
    refine Wc.assoc ?_
    refine Wc.condT rfl ?_
    refine Wc.skip ?_
    refine Wc.assoc ?_
    refine Wc.block ?_
    refine Wc.assoc ?_
    refine Wc.region ?_
    refine Wk.q rfl rfl rfl (Qk.move rfl) ?_
    refine Wk.q rfl rfl rfl (Qk.at rfl rfl ar22 sl22 (hv.old (by assumption)) (by constructor <;> omega)) ?_
    refine Wk.r rfl rfl rfl (Rk.arc rfl sh47 (hv.old (by assumption)) (i := i) (by omega)) ?_
    refine Wk.f rfl rfl rfl (Fk.alloc ze47) ?_
    refine Wk.q rfl rfl rfl (Qk.assign rfl) ?_
    refine Wk.h rfl rfl rfl (Hk.arc rfl rfl sh47 (by first | assumption | repeat (first | exact gnew | exact gsetn gnew | assumption | refine gpush ?_ | refine gset ?_ (by simp; omega) )) rfl) ?_
    refine Wk.next ?_
    refine Wc.store fun s2 e2 => ?_
    have ho2 : Old s s2 := by subst e2; exact (ho.gpush _).gset ho.1
    have hb2 : s2.get (s.size + 1) = some ⟨ic net, .rw⟩ := by subst e2; exact gset (gpush hb) (Nat.ne_of_gt (St.get_lt hb))
    have ha2 : s2.get s1.size = some ⟨acells (arcAt l i), .rw⟩ := by subst e2; exact gsetn gnew
    have hlt1 := St.get_lt hb
    have hf1 := hnet (arcAt l i).fr.toNat (by omega)
    have ht1 := hnet (arcAt l i).to.toNat (by omega)
    have hf2 := pot_bound (S := only (arcAt l i).fr.toNat) hok hr hi
    have ht2 := pot_bound (S := only (arcAt l i).to.toNat) hok hr hi
    dsimp only at x1 x2
    refine Wc.assoc ?_
    refine Wc.assoc ?_
    refine Wc.draw0 rfl ?_
    refine Wd.q rfl rfl rfl (Qk.move rfl) ?_
    refine Wd.q rfl rfl rfl (Qk.move rfl) ?_
    refine Wd.q rfl rfl rfl (Qk.at rfl rfl ar28 sl28 (hx.old (by assumption)) (by constructor <;> omega)) ?_
    refine Wd.r rfl rfl rfl (Rk.intR rfl sh3 (hx.old (by assumption)) (i := i) (by omega)) rfl ?_
    refine Wd.b rfl rfl rfl (Qk.bin rfl rfl rfl) fun b h30 => ?_
    obtain rfl : b = false := by rw [← h30, decide_eq_false_iff_not]; omega -- t30
    refine Wd.q rfl rfl rfl (Qk.move rfl) ?_
    refine Wd.q rfl rfl rfl (Qk.move rfl) ?_
    refine Wd.q rfl rfl rfl (Qk.move rfl) ?_
    refine Wd.q rfl rfl rfl (Qk.at rfl rfl ar28 sl28 (hx.old (by assumption)) (by constructor <;> omega)) ?_
    refine Wd.r rfl rfl rfl (Rk.intR rfl sh3 (hx.old (by assumption)) (i := i) (by omega)) rfl ?_
    refine Wd.q rfl rfl rfl (Qk.fa rfl fd47_2) ?_
    refine Wd.r rfl rfl rfl (Rk.cell rfl sh3 (by first | assumption | repeat (first | exact gnew | exact gsetn gnew | assumption | refine gpush ?_ | refine gset ?_ (by simp; omega) )) (by simp) rfl) rfl ?_
    refine Wd.b rfl rfl rfl (Qk.bin rfl rfl rfl) fun b h38 => ?_
    obtain rfl : b = false := by rw [← h38, decide_eq_false_iff_not]; omega -- t38
    refine Wd.q rfl rfl rfl (Qk.pickF rfl rfl) ?_
    refine Wd.next ?_
    refine Wc.condF rfl ?_
    refine Wc.skip ?_
    refine Wc.assoc ?_
    refine Wc.draw0 rfl ?_
    refine Wd.q rfl rfl rfl (Qk.move rfl) ?_
    refine Wd.q rfl rfl rfl (Qk.fa rfl fd47_0) ?_
    refine Wd.r rfl rfl rfl (Rk.cell rfl sh3 (by first | assumption | repeat (first | exact gnew | exact gsetn gnew | assumption | refine gpush ?_ | refine gset ?_ (by simp; omega) )) (by simp) rfl) rfl ?_
    refine Wd.q rfl rfl rfl (Qk.at1 rfl rfl ar28 sl28 (by constructor <;> omega)) ?_
    refine Wd.r rfl rfl rfl (Rk.int rfl sh3 (by first | assumption | repeat (first | exact gnew | exact gsetn gnew | assumption | refine gpush ?_ | refine gset ?_ (by simp; omega) )) (by simp) (by omega)) rfl ?_
    refine Wd.q rfl rfl rfl (Qk.move rfl) ?_
    refine Wd.q rfl rfl rfl (Qk.move rfl) ?_
    refine Wd.q rfl rfl rfl (Qk.at rfl rfl ar28 sl28 (hx.old (by assumption)) (by constructor <;> omega)) ?_
    refine Wd.r rfl rfl rfl (Rk.intR rfl sh3 (hx.old (by assumption)) (i := i) (by omega)) rfl ?_
    refine Wd.q rfl rfl rfl (Qk.sub rfl rfl (by omega)) ?_
    refine Wd.q rfl rfl rfl (Qk.at1 rfl rfl ar28 sl28 (by constructor <;> omega)) ?_
    refine Wd.h rfl rfl rfl (Hk.int rfl rfl sh3 (by first | assumption | repeat (first | exact gnew | exact gsetn gnew | assumption | refine gpush ?_ | refine gset ?_ (by simp; omega) )) (by omega)) rfl rfl ?_
    refine Wd.next ?_
    refine Wc.store fun s3 e3 => ?_
    have ho3 : Old s s3 := by subst e3; exact ho2.gset (by omega)
    obtain ⟨net1, en1⟩ : ∃ n, n = net.set (arcAt l i).fr.toNat (net.getD (arcAt l i).fr.toNat 0 - xs.getD i 0) := ⟨_, rfl⟩
    have hb3 : s3.get (s.size + 1) = some ⟨ic net1, .rw⟩ := by rw [e3, en1]; exact gsetn hb2
    have ha3 : s3.get s1.size = some ⟨acells (arcAt l i), .rw⟩ := by rw [e3]; exact gset ha2 (by omega)
    have hn1 : net1.length = N.toNat := by rw [en1, List.length_set, hnl]
    have hst : net1.getD (arcAt l i).to.toNat 0 = net.getD (arcAt l i).to.toNat 0 := by rw [en1, getD_set (by omega), if_neg (by omega)]
    clear e3
    refine Wc.draw0 rfl ?_
    refine Wd.q rfl rfl rfl (Qk.move rfl) ?_
    refine Wd.q rfl rfl rfl (Qk.fa rfl fd47_1) ?_
    refine Wd.r rfl rfl rfl (Rk.cell rfl sh3 (by first | assumption | repeat (first | exact gnew | exact gsetn gnew | assumption | refine gpush ?_ | refine gset ?_ (by simp; omega) )) (by simp) rfl) rfl ?_
    refine Wd.q rfl rfl rfl (Qk.at1 rfl rfl ar28 sl28 (by constructor <;> omega)) ?_
    refine Wd.r rfl rfl rfl (Rk.int rfl sh3 (by first | assumption | repeat (first | exact gnew | exact gsetn gnew | assumption | refine gpush ?_ | refine gset ?_ (by simp; omega) )) (by simp) (by omega)) rfl ?_
    refine Wd.q rfl rfl rfl (Qk.move rfl) ?_
    refine Wd.q rfl rfl rfl (Qk.move rfl) ?_
    refine Wd.q rfl rfl rfl (Qk.at rfl rfl ar28 sl28 (hx.old (by assumption)) (by constructor <;> omega)) ?_
    refine Wd.r rfl rfl rfl (Rk.intR rfl sh3 (hx.old (by assumption)) (i := i) (by omega)) rfl ?_
    refine Wd.q rfl rfl rfl (Qk.add rfl rfl (by omega)) ?_
    refine Wd.q rfl rfl rfl (Qk.at1 rfl rfl ar28 sl28 (by constructor <;> omega)) ?_
    refine Wd.h rfl rfl rfl (Hk.int rfl rfl sh3 (by first | assumption | repeat (first | exact gnew | exact gsetn gnew | assumption | refine gpush ?_ | refine gset ?_ (by simp; omega) )) (by omega)) rfl rfl ?_
    refine Wd.next ?_
    refine Wc.store fun s4 e4 => ?_
    refine Wc.thence (fun _ _ => rfl) ?_
    refine Wc.region ?_
    refine Wk.q rfl rfl rfl (Qk.add rfl rfl (by omega)) ?_
    refine Wk.q rfl rfl rfl (Qk.move rfl) ?_
    refine Wk.next ?_
    refine Wc.finish fun fr hf => ?_
    refine ⟨(i + 1, net1.set (arcAt l i).to.toNat (net1.getD (arcAt l i).to.toNat 0 + xs.getD i 0), s4), ⟨by rw [e4]; exact ho3.gset (by omega), by rw [e4]; exact gsetn hb3, by simp [hn1], hlt, ?_⟩, by simp; omega, rfl, hf.less ⟨rfl, rfl, rfl, rfl, rfl, trivial⟩⟩
    intro u hu
    simp only [Sm, ← hnet u hu]
    rw [getD_set (by omega), hst, en1, getD_set (by omega)]
    simp only [into, only, decide_eq_true_eq]
    by_cases e1 : (arcAt l i).to = u <;> by_cases e2 : (arcAt l i).fr = u
    · omega
    · have e3 : (arcAt l i).to.toNat = u := by omega
      rw [if_pos e3, e3, if_pos e1, if_neg e2]; omega
    · have e3 : (arcAt l i).fr.toNat = u := by omega
      rw [if_neg (by omega), if_pos e3, e3, if_neg e1, if_pos e2]; omega
    · rw [if_neg (by omega), if_neg (by omega), if_neg e1, if_neg e2]; omega

end Go.Proofs.Ytgkmpidihgbkdaa
