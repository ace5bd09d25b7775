/- What is reached in the rest of a flow: flow.reached. -/
import Derived.Test.YtgkmpidihgbkdaaJE
import Derived.Test.YtgkmpidihgbkdaaJO
import Derived.Test.YtgkmpidihgbkdaaJP
namespace Go.Proofs.Ytgkmpidihgbkdaa
open Go.Abs
variable {K : Known}

set_option maxRecDepth 100000 in
theorem c33 (hK : Late K) {v xv : Value} {N : Int} {l : List Arc} {xs : List Int} {s : St} (hok : NetOk N l) (hv : ARow s v l) (hx : IRow s xv xs) (hlen : xs.length = l.length) :
    Ev Try.prog K (.func (.func 33) #[] #[]) [.agg #[.int .i64 N, v], xv] s fun r s' => ∃ b out, r = .slice (some ⟨b, 0, none⟩) N.toNat N.toNat ∧ s.size ≤ b ∧ s'.get b = some ⟨bc out, .rw⟩ ∧ IsLeast N l (am xs) out ∧ Old s s' := by
  have hN1 := hok.most
  have hN2 := hok.two
  have hll := hok.len
  refine Ev.enterK (hK.none (by decide) _) Try.func33 rfl rfl (Nat.le_of_ble_eq_true rfl) ?_
  refine Wc.tail ?_
  refine Wc.assoc ?_
  refine Wc.region ?_
  refine Wk.f rfl rfl rfl (Fk.box rfl rfl) ?_
  refine Wk.q rfl rfl rfl (Qk.assign rfl) ?_
  refine Wk.next ?_
  refine Wc.store fun s1 e1 => ?_
  have ho1 : Old s s1 := by subst e1; exact Old.push _ _
  have hg1 : s1.get s.size = some ⟨[.int .i64 N, v], .rw⟩ := by subst e1; exact gnew
  have hz1 : s1.size = s.size + 1 := by subst e1; simp
  refine Wc.assoc ?_
  refine Wc.region ?_
  refine Wk.q rfl rfl rfl (Qk.fa rfl fd24_0) ?_
  refine Wk.r rfl rfl rfl (Rk.cell rfl sh3 (by first | assumption | repeat (first | exact gnew | exact gsetn gnew | assumption | refine gpush ?_ | refine gset ?_ (by simp; omega) )) (by simp) rfl) ?_
  refine Wk.f rfl rfl rfl (Fk.bools rfl rfl sl31 ze4 (by omega)) ?_
  refine Wk.q rfl rfl rfl (Qk.assign rfl) ?_
  refine Wk.next ?_
  refine Wc.store fun s2 e2 => ?_
  have ho2 : Old s s2 := by subst e2; exact ho1.gpush _
  have hg2 : s2.get s.size = some ⟨[.int .i64 N, v], .rw⟩ := by subst e2; exact gpush hg1
  have hb2 : s2.get (s.size + 1) = some ⟨bc (List.replicate N.toNat false), .rw⟩ := by subst e2; rw [← hz1]; exact gnew
  have hz2 : s2.size = s.size + 2 := by subst e2; simp [hz1]
  rw [hz1]
  refine Wc.assoc ?_
  refine Wc.region ?_
  refine Wk.q rfl rfl rfl (Qk.move rfl) ?_
  refine Wk.q rfl rfl rfl (Qk.at1 rfl rfl ar31 sl31 (by constructor <;> omega)) ?_
  refine Wk.h rfl rfl rfl (Hk.bool rfl rfl sh4 (by first | assumption | repeat (first | exact gnew | exact gsetn gnew | assumption | refine gpush ?_ | refine gset ?_ (by simp; omega) )) (by first | omega | (simp; omega))) ?_
  refine Wk.next ?_
  refine Wc.store fun s3 e3 => ?_
  have ho3 : Old s s3 := by subst e3; exact ho2.gset (by omega)
  have hg3 : s3.get s.size = some ⟨[.int .i64 N, v], .rw⟩ := by subst e3; exact gset hg2 (by omega)
  have hb3 : s3.get (s.size + 1) = some ⟨bc ((List.replicate N.toNat false).set 0 true), .rw⟩ := by subst e3; exact gsetn hb2
  have hz3 : s3.size = s.size + 2 := by subst e3; simp [hz2]
  refine Wc.assoc ?_
  refine Wc.region ?_
  refine Wk.f rfl rfl rfl (Fk.one rfl rfl sl28 ze3 rfl rfl rfl (by decide)) ?_
  refine Wk.q rfl rfl rfl (Qk.assign rfl) ?_
  refine Wk.next ?_
  refine Wc.store fun s4 e4 => ?_
  have ho4 : Old s s4 := by subst e4; exact ho3.gpush _
  have hg4 : s4.get s.size = some ⟨[.int .i64 N, v], .rw⟩ := by subst e4; exact gpush hg3
  have hb4 : s4.get (s.size + 1) = some ⟨bc ((List.replicate N.toNat false).set 0 true), .rw⟩ := by subst e4; exact gpush hb3
  have hw4 : OwnAt s4 (.slice (some ⟨s3.size, 0, none⟩) 1 1) 1 [(0 : Int)].length s3.size (ic [0]) := by subst e4; exact ⟨1, _, _, rfl, Nat.le_refl _, gnew, .inl rfl, rfl, rfl⟩
  have hrs := Rs.init (N := N) (l := l) (x := am xs) hok.two
  refine Wc.assoc ?_
  refine Wc.block ?_
  refine Wc.loop (σ := List Bool × List Int × Value × Nat × Nat × St) (fun y => Old s y.2.2.2.2.2 ∧ y.2.2.2.2.2.get s.size = some ⟨[.int .i64 N, v], .rw⟩ ∧ y.2.2.2.2.2.get (s.size + 1) = some ⟨bc y.1, .rw⟩ ∧ OwnAt y.2.2.2.2.2 y.2.2.1 1 y.2.1.length y.2.2.2.1 (ic y.2.1) ∧ s.size + 1 < y.2.2.2.1 ∧ Rs N l (am xs) y.1 y.2.1 y.2.2.2.2.1 ∧ Comp N l (am xs) y.1 y.2.1 ∧ y.2.2.2.2.1 ≤ 80)
    (fun y => [(1, xv), (2, .pointer (some ⟨s.size, 0, none⟩)), (5, .slice (some ⟨s.size + 1, 0, none⟩) N.toNat N.toNat), (6, y.2.2.1)]) (fun y => y.2.2.2.2.2) (fun y => y.2.2.2.2.1) (_, [0], _, s3.size, 2 * N.toNat, s4)
    ⟨ho4, hg4, hb4, hw4, by dsimp only; omega, hrs.1, hrs.2, by dsimp only; omega⟩ ⟨rfl, rfl, rfl, rfl, trivial⟩ rfl ?_
  rintro ⟨out, stk, vst, b, m, sa⟩ ⟨ho, hbx, hbo, hown, hltb, hrs, hc, hm⟩
  dsimp only at ho hbx hbo hown hltb hrs hc hm ⊢
  have hst := hown.irow
  have hcnt := hrs.cnt
  have hol := hrs.len
  refine Wc.assoc ?_
  refine Wc.assoc ?_
  refine Wc.region ?_
  refine Wk.q rfl rfl rfl (Qk.move rfl) ?_
  refine Wk.q rfl rfl rfl (Qk.lenR rfl rfl rfl hst sl28) ?_
  refine Wk.b rfl rfl rfl (Qk.bin rfl rfl rfl) fun b h19 => ?_
  cases b
  · -- t19 = False
    refine Wk.next ?_
    refine Wc.condF rfl ?_
    refine Wc.jump (fun _ _ => rfl) ?_
    refine Wc.assoc ?_
    refine Wc.region ?_
    refine Wk.q rfl rfl rfl (Qk.move rfl) ?_
    refine Wk.q rfl rfl rfl (Qk.assign rfl) ?_
    refine Wk.next ?_
    refine Wc.done'' (fun _ _ => rfl) rfl ?_
    have hnil : stk = [] := by
      have : ¬ ((stk.length : Int) > 0) := of_decide_eq_false h19
      exact List.length_eq_zero_iff.1 (by omega)
    subst hnil
    exact ⟨s.size + 1, out, rfl, by omega, hbo, ⟨hol, hrs.zero, Rs.closed hok hc, hrs.sound⟩, ho⟩
  · -- t19 = True
    have hpos : 0 < stk.length := by
      have : (stk.length : Int) > 0 := of_decide_eq_true h19
      omega
    refine Wk.next ?_
    refine Wc.condT rfl ?_
    refine Wc.skip ?_
    refine Wc.block ?_
    refine Wc.assoc ?_
    refine Wc.region ?_
    refine Wk.q rfl rfl rfl (Qk.move rfl) ?_
    refine Wk.q rfl rfl rfl (Qk.move rfl) ?_
    refine Wk.q rfl rfl rfl (Qk.lenR rfl rfl rfl hst sl28) ?_
    refine Wk.q rfl rfl rfl (Qk.sub rfl rfl (by omega)) ?_
    refine Wk.q rfl rfl rfl (Qk.at rfl rfl ar28 sl28 hst (by constructor <;> omega)) ?_
    refine Wk.r rfl rfl rfl (Rk.intR rfl sh3 hst (by omega)) ?_
    refine Wk.q rfl rfl rfl (Qk.assign rfl) ?_
    refine Wk.next ?_
    refine Wc.assoc ?_
    refine Wc.region ?_
    refine Wk.q rfl rfl rfl (Qk.move rfl) ?_
    refine Wk.q rfl rfl rfl (Qk.move rfl) ?_
    refine Wk.q rfl rfl rfl (Qk.lenR rfl rfl rfl hst sl28) ?_
    refine Wk.q rfl rfl rfl (Qk.sub rfl rfl (by omega)) ?_
    obtain ⟨vs2, hsl, hown2⟩ := slice_own (kd := .i64) ar28 sl28 (by decide) hown (c := (stk.length : Int) - 1) (by omega)
    have hpop := hrs.pop hc hpos
    rw [show stk.length - 1 = ((stk.length : Int) - 1).toNat by omega] at hpop
    obtain ⟨hrs2, hc2, hm0⟩ := hpop
    have hown3 : OwnAt sa vs2 1 (stk.take ((stk.length : Int) - 1).toNat).length b (ic (stk.take ((stk.length : Int) - 1).toNat)) := by
      have e1 : (stk.take ((stk.length : Int) - 1).toNat).length = ((stk.length : Int) - 1).toNat := by rw [List.length_take]; omega
      rw [e1, show ic (stk.take ((stk.length : Int) - 1).toNat) = (ic stk).take (((stk.length : Int) - 1).toNat * 1) by simp [ic, List.map_take]]
      exact hown2
    refine Wk.r rfl rfl rfl (Rk.slice rfl rfl rfl rfl (by assumption)) ?_
    refine Wk.q rfl rfl rfl (Qk.assign rfl) ?_
    refine Wk.next ?_
    refine Wc.assoc ?_
    refine Wc.region ?_
    refine Wk.q rfl rfl rfl (Qk.fa rfl fd24_1) ?_
    refine Wk.r rfl rfl rfl (Rk.cell rfl sh22 (by first | assumption | repeat (first | exact gnew | exact gsetn gnew | assumption | refine gpush ?_ | refine gset ?_ (by simp; omega) )) (by simp) rfl) ?_
    refine Wk.q rfl rfl rfl (Qk.lenR rfl rfl rfl hv sl22) ?_
    refine Wk.q rfl rfl rfl (Qk.move rfl) ?_
    refine Wk.next ?_
    refine Wc.block ?_
    generalize stk.getD ((stk.length : Int) - 1).toNat 0 = u0 at hc2 ⊢
    refine Wc.loop (σ := Nat × List Bool × List Int × Value × Nat × St) (fun y => Old s y.2.2.2.2.2 ∧ y.2.2.2.2.2.get s.size = some ⟨[.int .i64 N, v], .rw⟩ ∧ y.2.2.2.2.2.get (s.size + 1) = some ⟨bc y.2.1, .rw⟩ ∧ OwnAt y.2.2.2.2.2 y.2.2.2.1 1 y.2.2.1.length y.2.2.2.2.1 (ic y.2.2.1) ∧ s.size + 1 < y.2.2.2.2.1 ∧ Rs N l (am xs) y.2.1 y.2.2.1 (m - 1) ∧ CompI N l (am xs) u0 y.1 y.2.1 y.2.2.1 ∧ y.1 ≤ l.length)
      (fun y => [(1, xv), (2, .pointer (some ⟨s.size, 0, none⟩)), (5, .slice (some ⟨s.size + 1, 0, none⟩) N.toNat N.toNat), (6, y.2.2.2.1), (7, .int .i64 u0), (32, v), (33, goInt l.length), (34, .int .i64 y.1)]) (fun y => y.2.2.2.2.2) (fun y => l.length - y.1) (0, _, _, _, b, sa)
      ⟨ho, hbx, hbo, hown3, hltb, hrs2, hc2, Nat.zero_le _⟩ ⟨rfl, rfl, rfl, rfl, rfl, rfl, rfl, rfl, trivial⟩ rfl ?_
    clear hown hown2 hown3 hrs hrs2 hc hc2 hst hcnt hol hbo hbx hsl ho hltb
    rintro ⟨i, out, stk, vst, b, sb⟩ ⟨ho, hbx, hbo, hown, hltb, hrs, hc, hi⟩
    dsimp only at ho hbx hbo hown hltb hrs hc hi ⊢
    have hol := hrs.len
    refine Wc.assoc ?_
    refine Wc.region ?_
    refine Wk.b rfl rfl rfl (Qk.bin rfl rfl rfl) fun b h35 => ?_
    cases b
    · -- t35 = False
      refine Wk.next ?_
      refine Wc.assoc ?_
      refine Wc.condF rfl ?_
      refine Wc.jump (fun _ _ => rfl) ?_
      refine Wc.thence (fun _ _ => rfl) ?_
      refine Wc.finish fun fr hf => ?_
      have hge : l.length ≤ i := by
        have : ¬ ((i : Int) < (l.length : Int)) := of_decide_eq_false h35
        omega
      obtain rfl : i = l.length := by omega
      exact ⟨(out, stk, vst, b, m - 1, sb), ⟨ho, hbx, hbo, hown, hltb, hrs, hc.done, by dsimp only; omega⟩, by dsimp only; omega, rfl, hf.less ⟨rfl, rfl, rfl, rfl, trivial⟩⟩
    · -- t35 = True
      have hlt : i < l.length := by
        have : (i : Int) < (l.length : Int) := of_decide_eq_true h35
        omega
      obtain ⟨a1, a2, a3, a4, a5, a6, a7⟩ := hok.arc i hlt
      refine Wk.next ?_
      refine Wc.assoc ?_
      refine Wc.condT rfl ?_
      refine Wc.skip ?_
      refine Wc.assoc ?_
      refine Wc.block ?_
      refine Wc.assoc ?_
      refine Wc.region ?_
      refine Wk.q rfl rfl rfl (Qk.move rfl) ?_
      refine Wk.q rfl rfl rfl (Qk.at rfl rfl ar22 sl22 (hv.old (by assumption)) (by constructor <;> omega)) ?_
      refine Wk.r rfl rfl rfl (Rk.arc rfl sh47 (hv.old (by assumption)) (i := i) (by omega)) ?_
      refine Wk.f rfl rfl rfl (Fk.alloc ze47) ?_
      refine Wk.q rfl rfl rfl (Qk.assign rfl) ?_
      refine Wk.h rfl rfl rfl (Hk.arc rfl rfl sh47 (by first | assumption | repeat (first | exact gnew | exact gsetn gnew | assumption | refine gpush ?_ | refine gset ?_ (by simp; omega) )) rfl) ?_
      refine Wk.next ?_
      refine Wc.store fun s5 e5 => ?_
      have ho5 : Old s s5 := by subst e5; exact (ho.gpush _).gset ho.1
      have hx5 : s5.get s.size = some ⟨[.int .i64 N, v], .rw⟩ := by subst e5; exact gset (gpush hbx) (Nat.ne_of_gt (St.get_lt hbx))
      have hb5 : s5.get (s.size + 1) = some ⟨bc out, .rw⟩ := by subst e5; exact gset (gpush hbo) (Nat.ne_of_gt (St.get_lt hbo))
      have hw5 : OwnAt s5 vst 1 stk.length b (ic stk) := by subst e5; exact (hown.push _).set _ (Nat.ne_of_gt hown.lt)
      have ha5 : s5.get sb.size = some ⟨acells (arcAt l i), .rw⟩ := by subst e5; exact gsetn gnew
      have hz5 : s5.size = sb.size + 1 := by subst e5; simp
      have hlt1 := St.get_lt hbo
      have hlt2 := hown.lt
      refine Wc.assoc ?_
      refine Wc.region ?_
      refine Wk.q rfl rfl rfl (Qk.assign rfl) ?_
      refine Wk.next ?_
      refine Wc.assoc ?_
      refine Wc.join (σ := Int) (fun y => (y = (arcAt l i).to ∧ (arcAt l i).fr = u0 ∧ am xs i < (arcAt l i).cap) ∨ (y = -1 ∧ ¬ ((arcAt l i).fr = u0 ∧ am xs i < (arcAt l i).cap))) (fun y => [(1, xv), (2, .pointer (some ⟨s.size, 0, none⟩)), (5, .slice (some ⟨s.size + 1, 0, none⟩) N.toNat N.toNat), (6, vst), (7, .int .i64 u0), (8, .int .i64 i), (9, .pointer (some ⟨sb.size, 0, none⟩)), (10, .int .i64 y), (32, v), (33, goInt l.length), (34, .int .i64 i)]) (fun y => s5) ?_ ?_
      · -- join 11: the first part
        refine Wc.assoc ?_
        refine Wc.draw0 rfl ?_
        refine Wd.q rfl rfl rfl (Qk.fa rfl fd47_0) ?_
        refine Wd.r rfl rfl rfl (Rk.cell rfl sh3 (by first | assumption | repeat (first | exact gnew | exact gsetn gnew | assumption | refine gpush ?_ | refine gset ?_ (by simp; omega) )) (by simp) rfl) rfl ?_
        refine Wd.q rfl rfl rfl (Qk.move rfl) ?_
        refine Wd.b rfl rfl rfl (Qk.bin rfl rfl rfl) fun b h42 => ?_
        cases b
        · -- t42 = False
          refine Wd.q rfl rfl rfl (Qk.move rfl) ?_
          refine Wd.no rfl rfl rfl ?_
          refine Wd.no rfl rfl rfl ?_
          refine Wd.no rfl rfl rfl ?_
          refine Wd.no rfl rfl rfl ?_
          refine Wd.no rfl rfl rfl ?_
          refine Wd.no rfl rfl rfl ?_
          refine Wd.no rfl rfl rfl ?_
          refine Wd.q rfl rfl rfl (Qk.pickF rfl rfl) ?_
          refine Wd.next ?_
          refine Wc.condF rfl ?_
          refine Wc.skip ?_
          refine Wc.finish fun fr hf => ?_
          exact ⟨-1, .inr ⟨rfl, fun e => ne_of_beq_false h42 e.1⟩, rfl, hf.less ⟨rfl, rfl, rfl, rfl, rfl, rfl, rfl, rfl, rfl, rfl, rfl, trivial⟩⟩
        · -- t42 = True
          refine Wd.q rfl rfl rfl (Qk.move rfl) ?_
          refine Wd.q rfl rfl rfl (Qk.move rfl) ?_
          refine Wd.q rfl rfl rfl (Qk.move rfl) ?_
          refine Wd.q rfl rfl rfl (Qk.at rfl rfl ar28 sl28 (hx.old (by assumption)) (by constructor <;> omega)) ?_
          refine Wd.r rfl rfl rfl (Rk.intR rfl sh3 (hx.old (by assumption)) (i := i) (by omega)) rfl ?_
          refine Wd.q rfl rfl rfl (Qk.fa rfl fd47_2) ?_
          refine Wd.r rfl rfl rfl (Rk.cell rfl sh3 (by first | assumption | repeat (first | exact gnew | exact gsetn gnew | assumption | refine gpush ?_ | refine gset ?_ (by simp; omega) )) (by simp) rfl) rfl ?_
          refine Wd.b rfl rfl rfl (Qk.bin rfl rfl rfl) fun b h50 => ?_
          cases b
          · -- t50 = False
            refine Wd.q rfl rfl rfl (Qk.pickT rfl rfl) ?_
            refine Wd.next ?_
            refine Wc.condF rfl ?_
            refine Wc.skip ?_
            refine Wc.finish fun fr hf => ?_
            exact ⟨-1, .inr ⟨rfl, fun e => of_decide_eq_false h50 e.2⟩, rfl, hf.less ⟨rfl, rfl, rfl, rfl, rfl, rfl, rfl, rfl, rfl, rfl, rfl, trivial⟩⟩
          · -- t50 = True
            refine Wd.q rfl rfl rfl (Qk.pickT rfl rfl) ?_
            refine Wd.next ?_
            refine Wc.condT rfl ?_
            refine Wc.region ?_
            refine Wk.q rfl rfl rfl (Qk.fa rfl fd47_1) ?_
            refine Wk.r rfl rfl rfl (Rk.cell rfl sh3 (by first | assumption | repeat (first | exact gnew | exact gsetn gnew | assumption | refine gpush ?_ | refine gset ?_ (by simp; omega) )) (by simp) rfl) ?_
            refine Wk.q rfl rfl rfl (Qk.assign rfl) ?_
            refine Wk.next ?_
            refine Wc.finish fun fr hf => ?_
            exact ⟨(arcAt l i).to, .inl ⟨rfl, eq_of_beq h42, of_decide_eq_true h50⟩, rfl, hf.less ⟨rfl, rfl, rfl, rfl, rfl, rfl, rfl, rfl, rfl, rfl, rfl, trivial⟩⟩
      · -- join 11: what follows
        rintro y hy
        refine Wc.assoc ?_
        refine Wc.join (σ := Int) (fun y => Leads (arcAt l i) (am xs i) u0 y) (fun y => [(1, xv), (2, .pointer (some ⟨s.size, 0, none⟩)), (5, .slice (some ⟨s.size + 1, 0, none⟩) N.toNat N.toNat), (6, vst), (7, .int .i64 u0), (10, .int .i64 y), (32, v), (33, goInt l.length), (34, .int .i64 i)]) (fun y => s5) ?_ ?_
        · -- join 13: the first part
          refine Wc.assoc ?_
          refine Wc.region ?_
          refine Wk.q rfl rfl rfl (Qk.fa rfl fd47_1) ?_
          refine Wk.r rfl rfl rfl (Rk.cell rfl sh3 (by first | assumption | repeat (first | exact gnew | exact gsetn gnew | assumption | refine gpush ?_ | refine gset ?_ (by simp; omega) )) (by simp) rfl) ?_
          refine Wk.q rfl rfl rfl (Qk.move rfl) ?_
          refine Wk.b rfl rfl rfl (Qk.bin rfl rfl rfl) fun b h57 => ?_
          cases b
          · -- t57 = False
            refine Wk.q rfl rfl rfl (Qk.move rfl) ?_
            refine Wk.no rfl rfl rfl ?_
            refine Wk.no rfl rfl rfl ?_
            refine Wk.no rfl rfl rfl ?_
            refine Wk.no rfl rfl rfl ?_
            refine Wk.no rfl rfl rfl ?_
            refine Wk.q rfl rfl rfl (Qk.pickF rfl rfl) ?_
            refine Wk.next ?_
            refine Wc.condF rfl ?_
            refine Wc.skip ?_
            refine Wc.finish fun fr hf => ?_
            exact ⟨y, hy.elim (fun h => .inr (.inl h)) (fun h => .inl ⟨h.1, h.2, fun e => ne_of_beq_false h57 e.1⟩), rfl, hf.less ⟨rfl, rfl, rfl, rfl, rfl, rfl, rfl, rfl, rfl, trivial⟩⟩
          · -- t57 = True
            refine Wk.q rfl rfl rfl (Qk.move rfl) ?_
            refine Wk.q rfl rfl rfl (Qk.move rfl) ?_
            refine Wk.q rfl rfl rfl (Qk.move rfl) ?_
            refine Wk.q rfl rfl rfl (Qk.at rfl rfl ar28 sl28 (hx.old (by assumption)) (by constructor <;> omega)) ?_
            refine Wk.r rfl rfl rfl (Rk.intR rfl sh3 (hx.old (by assumption)) (i := i) (by omega)) ?_
            refine Wk.b rfl rfl rfl (Qk.bin rfl rfl rfl) fun b h63 => ?_
            cases b
            · -- t63 = False
              refine Wk.q rfl rfl rfl (Qk.pickT rfl rfl) ?_
              refine Wk.next ?_
              refine Wc.condF rfl ?_
              refine Wc.skip ?_
              refine Wc.finish fun fr hf => ?_
              exact ⟨y, hy.elim (fun h => .inr (.inl h)) (fun h => .inl ⟨h.1, h.2, fun e => of_decide_eq_false h63 e.2⟩), rfl, hf.less ⟨rfl, rfl, rfl, rfl, rfl, rfl, rfl, rfl, rfl, trivial⟩⟩
            · -- t63 = True
              refine Wk.q rfl rfl rfl (Qk.pickT rfl rfl) ?_
              refine Wk.next ?_
              refine Wc.condT rfl ?_
              refine Wc.region ?_
              refine Wk.q rfl rfl rfl (Qk.fa rfl fd47_0) ?_
              refine Wk.r rfl rfl rfl (Rk.cell rfl sh3 (by first | assumption | repeat (first | exact gnew | exact gsetn gnew | assumption | refine gpush ?_ | refine gset ?_ (by simp; omega) )) (by simp) rfl) ?_
              refine Wk.q rfl rfl rfl (Qk.assign rfl) ?_
              refine Wk.next ?_
              refine Wc.finish fun fr hf => ?_
              exact ⟨(arcAt l i).fr, .inr (.inr ⟨rfl, eq_of_beq h57, of_decide_eq_true h63⟩), rfl, hf.less ⟨rfl, rfl, rfl, rfl, rfl, rfl, rfl, rfl, rfl, trivial⟩⟩
        · -- join 13: what follows
          rintro y hy
          refine Wc.assoc ?_
          refine Wc.region ?_
          refine Wk.q rfl rfl rfl (Qk.move rfl) ?_
          refine Wk.b rfl rfl rfl (Qk.bin rfl rfl rfl) fun b h68 => ?_
          cases b
          · -- t68 = False
            refine Wk.q rfl rfl rfl (Qk.move rfl) ?_
            refine Wk.no rfl rfl rfl ?_
            refine Wk.no rfl rfl rfl ?_
            refine Wk.no rfl rfl rfl ?_
            refine Wk.no rfl rfl rfl ?_
            refine Wk.no rfl rfl rfl ?_
            refine Wk.q rfl rfl rfl (Qk.pickF rfl rfl) ?_
            refine Wk.next ?_
            refine Wc.condF rfl ?_
            refine Wc.skip ?_
            refine Wc.thence (fun _ _ => rfl) ?_
            refine Wc.region ?_
            refine Wk.q rfl rfl rfl (Qk.add rfl rfl (by omega)) ?_
            refine Wk.q rfl rfl rfl (Qk.move rfl) ?_
            refine Wk.next ?_
            refine Wc.finish fun fr hf => ?_
            exact ⟨(i + 1, out, stk, vst, b, s5), ⟨ho5, hx5, hb5, hw5, hltb, hrs, hc.next hok hlt hy (fun h => absurd h (of_decide_eq_false h68)), hlt⟩, by simp; omega, rfl, hf.less ⟨rfl, rfl, rfl, rfl, rfl, rfl, rfl, rfl, trivial⟩⟩
          · -- t68 = True
            have hw0 : 0 ≤ y := of_decide_eq_true h68
            have hwN : y < N := by rcases hy with ⟨h1, _⟩ | ⟨h1, _⟩ | ⟨h1, _⟩ <;> omega
            refine Wk.q rfl rfl rfl (Qk.move rfl) ?_
            refine Wk.q rfl rfl rfl (Qk.move rfl) ?_
            refine Wk.q rfl rfl rfl (Qk.move rfl) ?_
            refine Wk.q rfl rfl rfl (Qk.at1 rfl rfl ar31 sl31 (by constructor <;> omega)) ?_
            refine Wk.rb rfl rfl rfl (Rk.bool rfl sh4 (by first | assumption | repeat (first | exact gnew | exact gsetn gnew | assumption | refine gpush ?_ | refine gset ?_ (by simp; omega) )) (by simp) (by first | omega | (simp; omega))) fun b h73 => ?_
            cases b
            · -- t73 = False
              refine Wk.q rfl rfl rfl (Qk.not rfl) ?_
              refine Wk.q rfl rfl rfl (Qk.pickT rfl rfl) ?_
              refine Wk.next ?_
              refine Wc.condT rfl ?_
              refine Wc.assoc ?_
              refine Wc.region ?_
              refine Wk.q rfl rfl rfl (Qk.move rfl) ?_
              refine Wk.q rfl rfl rfl (Qk.move rfl) ?_
              refine Wk.q rfl rfl rfl (Qk.at1 rfl rfl ar31 sl31 (by constructor <;> omega)) ?_
              refine Wk.h rfl rfl rfl (Hk.bool rfl rfl sh4 (by first | assumption | repeat (first | exact gnew | exact gsetn gnew | assumption | refine gpush ?_ | refine gset ?_ (by simp; omega) )) (by first | omega | (simp; omega))) ?_
              refine Wk.next ?_
              refine Wc.store fun s6 e6 => ?_
              obtain ⟨_, hrs6, hc6⟩ := CompI.new hrs hc hok hlt hy hw0 h73
              have ho6 : Old s s6 := by subst e6; exact ho5.gset (by omega)
              have hx6 : s6.get s.size = some ⟨[.int .i64 N, v], .rw⟩ := by subst e6; exact gset hx5 (by omega)
              have hb6 : s6.get (s.size + 1) = some ⟨bc (out.set y.toNat true), .rw⟩ := by subst e6; exact gsetn hb5
              have hw6 : OwnAt s6 vst 1 stk.length b (ic stk) := by subst e6; exact hw5.set _ (by omega)
              have hlt6 := hw6.lt
              refine Wc.region ?_
              refine Wk.q rfl rfl rfl (Qk.move rfl) ?_
              refine Wk.q rfl rfl rfl (Qk.move rfl) ?_
              refine Wk.f rfl rfl rfl (Fk.one rfl rfl sl28 ze3 rfl rfl rfl (by decide)) ?_
              refine Wk.store' fun s7 e7 => ?_
              have ho7 : Old s s7 := by subst e7; exact ho6.gpush _
              have hx7 : s7.get s.size = some ⟨[.int .i64 N, v], .rw⟩ := by subst e7; exact gpush hx6
              have hb7 : s7.get (s.size + 1) = some ⟨bc (out.set y.toNat true), .rw⟩ := by subst e7; exact gpush hb6
              have hw7 : OwnAt s7 vst 1 stk.length b (ic stk) := by subst e7; exact hw6.push _
              have hn7 : s7.cells s6.size 0 (1 * 1) = some [.int .i64 y] := by subst e7; simp [St.cells]; exact ⟨Nat.le_refl _, rfl⟩
              have hlen7 := hrs.cnt
              obtain ⟨v8, t8, b8, hap, hown8, hb8, hsame⟩ := append_own ap28 (cap2 := 1) (sp := none) hw7 (by decide) (by omega) hn7 rfl rfl
              have ho8 : Old s t8 := Same.older ho7 hsame (by simp; omega)
              have hz7 := ho7.1
              have hz6 : s7.size = s6.size + 1 := by subst e7; simp
              refine Wk.h rfl rfl rfl (Hk.append rfl rfl rfl rfl (by assumption)) ?_
              refine Wk.q rfl rfl rfl (Qk.assign rfl) ?_
              refine Wk.next ?_
              refine Wc.store fun s8 e8 => ?_
              refine Wc.thence (fun _ _ => rfl) ?_
              refine Wc.region ?_
              refine Wk.q rfl rfl rfl (Qk.add rfl rfl (by omega)) ?_
              refine Wk.q rfl rfl rfl (Qk.move rfl) ?_
              refine Wk.next ?_
              refine Wc.finish fun fr hf => ?_
              subst e8
              refine ⟨(i + 1, out.set y.toNat true, stk ++ [y], v8, b8, _), ⟨ho8, hsame.get hx7 (by simp; omega), hsame.get hb7 (by simp; omega), ?_, by rcases hb8 with rfl | rfl <;> (dsimp only; omega), hrs6, hc6, hlt⟩, by simp; omega, rfl, hf.less ⟨rfl, rfl, rfl, rfl, rfl, rfl, rfl, rfl, trivial⟩⟩
              simpa [ic] using hown8
            · -- t73 = True
              refine Wk.q rfl rfl rfl (Qk.not rfl) ?_
              refine Wk.q rfl rfl rfl (Qk.pickT rfl rfl) ?_
              refine Wk.next ?_
              refine Wc.condF rfl ?_
              refine Wc.skip ?_
              refine Wc.thence (fun _ _ => rfl) ?_
              refine Wc.region ?_
              refine Wk.q rfl rfl rfl (Qk.add rfl rfl (by omega)) ?_
              refine Wk.q rfl rfl rfl (Qk.move rfl) ?_
              refine Wk.next ?_
              refine Wc.finish fun fr hf => ?_
              exact ⟨(i + 1, out, stk, vst, b, s5), ⟨ho5, hx5, hb5, hw5, hltb, hrs, hc.next hok hlt hy (fun _ => h73), hlt⟩, by simp; omega, rfl, hf.less ⟨rfl, rfl, rfl, rfl, rfl, rfl, rfl, rfl, trivial⟩⟩

end Go.Proofs.Ytgkmpidihgbkdaa
