/- The cut of a side. -/
import Derived.Test.YtgkmpidihgbkdaaJE
namespace Go.Proofs.Ytgkmpidihgbkdaa
open Go.Abs
variable {K : Known}

theorem cap_bound {N : Int} {l : List Arc} {S : Int → Bool} (h : NetOk N l) {k : Nat} (hk : k ≤ l.length) : -200000000 ≤ Sm k (capOut l S) ∧ Sm k (capOut l S) ≤ 200000000 := by
  have := Sm.bound (n := k) (h := capOut l S) (c := 1000000) (fun i hi => by
    obtain ⟨_, _, _, _, _, h2, h3⟩ := h.arc i (by omega)
    unfold capOut
    split <;> omega)
  have := h.len
  omega

set_option maxRecDepth 100000 in
theorem c34 (hK : Late K) {v bv : Value} {N : Int} {l : List Arc} {bs : List Bool} {s : St} (hok : NetOk N l) (hv : ARow s v l) (hx : BRow s bv bs) (hlen : bs.length = N.toNat) (hS : Side N (inB bs)) :
    Ev Try.prog K (.func (.func 34) #[] #[]) [.agg #[.int .i64 N, v], bv] s fun r s' => r = .tuple #[.int .i64 (cutOf l (inB bs)), .bool true] ∧ Old s s' := by
  have hN1 := hok.most
  have hN2 := hok.two
  have hll := hok.len
  refine Ev.enterK (hK.none (by decide) _) Try.func34 rfl rfl (Nat.le_of_ble_eq_true rfl) ?_
  refine Wc.tail ?_
  refine Wc.assoc ?_
  refine Wc.region ?_
  refine Wk.f rfl rfl rfl (Fk.box rfl rfl) ?_
  refine Wk.q rfl rfl rfl (Qk.assign rfl) ?_
  refine Wk.q rfl rfl rfl (Qk.assign rfl) ?_
  refine Wk.next ?_
  refine Wc.store fun s1 e1 => ?_
  have ho1 : Old s s1 := by subst e1; exact Old.push _ _
  have hg1 : s1.get s.size = some ⟨[.int .i64 N, v], .rw⟩ := by subst e1; exact gnew
  refine Wc.assoc ?_
  refine Wc.assoc ?_
  refine Wc.region ?_
  refine Wk.q rfl rfl rfl (Qk.move rfl) ?_
  refine Wk.q rfl rfl rfl (Qk.lenR rfl rfl rfl hx sl31) ?_
  refine Wk.q rfl rfl rfl (Qk.fa rfl fd24_0) ?_
  refine Wk.r rfl rfl rfl (Rk.cell rfl sh3 (by first | assumption | repeat (first | exact gnew | exact gsetn gnew | assumption | refine gpush ?_ | refine gset ?_ (by simp; omega) )) (by simp) rfl) ?_
  refine Wk.b rfl rfl rfl (Qk.bin rfl rfl rfl) fun b h13 => ?_
  obtain rfl : b = false := by rw [← h13]; simp [hlen]; omega -- t13
  refine Wk.q rfl rfl rfl (Qk.move rfl) ?_
  refine Wk.q rfl rfl rfl (Qk.move rfl) ?_
  refine Wk.q rfl rfl rfl (Qk.at rfl rfl ar31 sl31 (hx.old (by assumption)) (by constructor <;> omega)) ?_
  refine Wk.rb rfl rfl rfl (Rk.boolR rfl sh4 (hx.old (by assumption)) (by omega)) fun b h17 => ?_
  obtain rfl : b = true := by exact h17.symm.trans hS.1 -- t17
  refine Wk.q rfl rfl rfl (Qk.not rfl) ?_
  refine Wk.q rfl rfl rfl (Qk.pickF rfl rfl) ?_
  refine Wk.q rfl rfl rfl (Qk.move rfl) ?_
  refine Wk.q rfl rfl rfl (Qk.move rfl) ?_
  refine Wk.q rfl rfl rfl (Qk.fa rfl fd24_0) ?_
  refine Wk.r rfl rfl rfl (Rk.cell rfl sh3 (by first | assumption | repeat (first | exact gnew | exact gsetn gnew | assumption | refine gpush ?_ | refine gset ?_ (by simp; omega) )) (by simp) rfl) ?_
  refine Wk.q rfl rfl rfl (Qk.sub rfl rfl (by omega)) ?_
  refine Wk.q rfl rfl rfl (Qk.at rfl rfl ar31 sl31 (hx.old (by assumption)) (by constructor <;> omega)) ?_
  refine Wk.rb rfl rfl rfl (Rk.boolR rfl sh4 (hx.old (by assumption)) (by omega)) fun b h26 => ?_
  obtain rfl : b = false := by exact h26.symm.trans hS.2 -- t26
  refine Wk.q rfl rfl rfl (Qk.pickF rfl rfl) ?_
  refine Wk.next ?_
  refine Wc.condF rfl ?_
  refine Wc.skip ?_
  refine Wc.assoc ?_
  refine Wc.region ?_
  refine Wk.q rfl rfl rfl (Qk.assign rfl) ?_
  refine Wk.next ?_
  refine Wc.assoc ?_
  refine Wc.assoc ?_
  refine Wc.region ?_
  refine Wk.q rfl rfl rfl (Qk.fa rfl fd24_1) ?_
  refine Wk.r rfl rfl rfl (Rk.cell rfl sh22 (by first | assumption | repeat (first | exact gnew | exact gsetn gnew | assumption | refine gpush ?_ | refine gset ?_ (by simp; omega) )) (by simp) rfl) ?_
  refine Wk.q rfl rfl rfl (Qk.lenR rfl rfl rfl hv sl22) ?_
  refine Wk.q rfl rfl rfl (Qk.move rfl) ?_
  refine Wk.next ?_
  refine Wc.block ?_
  refine Wc.loop (σ := Nat × St) (fun y => Old s y.2 ∧ y.1 ≤ l.length) (fun y => [(1, bv), (6, .int .i64 (Sm y.1 (capOut l (inB bs)))), (29, v), (30, goInt l.length), (31, .int .i64 y.1)]) (fun y => y.2) (fun y => l.length - y.1) (0, s1)
    ⟨ho1, Nat.zero_le _⟩ ⟨rfl, rfl, rfl, rfl, rfl, trivial⟩ rfl ?_
  rintro ⟨i, s1⟩ ⟨ho, hi⟩
  dsimp only at ho hi ⊢
  refine Wc.assoc ?_
  refine Wc.region ?_
  refine Wk.b rfl rfl rfl (Qk.bin rfl rfl rfl) fun b h32 => ?_
  cases b
  · -- t32 = False
    refine Wk.next ?_
    refine Wc.assoc ?_
    refine Wc.condF rfl ?_
    refine Wc.jump (fun _ _ => rfl) ?_
    refine Wc.assoc ?_
    refine Wc.region ?_
    refine Wk.q rfl rfl rfl (Qk.move rfl) ?_
    refine Wk.q rfl rfl rfl (Qk.assign rfl) ?_
    refine Wk.q rfl rfl rfl (Qk.assign rfl) ?_
    refine Wk.next ?_
    refine Wc.done'' (fun _ _ => rfl) rfl ?_
    have hge : l.length ≤ i := by simpa using h32
    obtain rfl : i = l.length := by omega
    exact ⟨rfl, ho⟩
  · -- t32 = True
    have hlt : i < l.length := by simpa using h32
    obtain ⟨a1, a2, a3, a4, a5, a6, a7⟩ := hok.arc i hlt
    refine Wk.next ?_
    refine Wc.assoc ?_
    refine Wc.condT rfl ?_
    refine Wc.skip ?_
    refine Wc.assoc ?_
    refine Wc.block ?_
    refine Wc.assoc ?_
    refine Wc.region ?_
    refine Wk.q rfl rfl rfl (Qk.at rfl rfl ar22 sl22 (hv.old (by assumption)) (by constructor <;> omega)) ?_
    refine Wk.r rfl rfl rfl (Rk.arc rfl sh47 (hv.old (by assumption)) (i := i) (by omega)) ?_
    refine Wk.f rfl rfl rfl (Fk.alloc ze47) ?_
    refine Wk.h rfl rfl rfl (Hk.arc rfl rfl sh47 (by first | assumption | repeat (first | exact gnew | exact gsetn gnew | assumption | refine gpush ?_ | refine gset ?_ (by simp; omega) )) rfl) ?_
    refine Wk.next ?_
    refine Wc.store fun s2 e2 => ?_
    have ho2 : Old s s2 := by subst e2; exact (ho.gpush _).gset ho.1
    have ha2 : s2.get s1.size = some ⟨acells (arcAt l i), .rw⟩ := by subst e2; exact gsetn gnew
    have hcb := cap_bound (S := inB bs) hok hi
    have hstep : Sm (i + 1) (capOut l (inB bs)) = Sm i (capOut l (inB bs)) + capOut l (inB bs) i := rfl
    refine Wc.assoc ?_
    refine Wc.region ?_
    refine Wk.q rfl rfl rfl (Qk.move rfl) ?_
    refine Wk.q rfl rfl rfl (Qk.fa rfl fd47_0) ?_
    refine Wk.r rfl rfl rfl (Rk.cell rfl sh3 (by first | assumption | repeat (first | exact gnew | exact gsetn gnew | assumption | refine gpush ?_ | refine gset ?_ (by simp; omega) )) (by simp) rfl) ?_
    refine Wk.q rfl rfl rfl (Qk.at rfl rfl ar31 sl31 (hx.old (by assumption)) (by constructor <;> omega)) ?_
    refine Wk.rb rfl rfl rfl (Rk.boolR rfl sh4 (hx.old (by assumption)) (by omega)) fun b h39 => ?_
    cases b
    · -- t39 = False
      refine Wk.q rfl rfl rfl (Qk.move rfl) ?_
      refine Wk.no rfl rfl rfl ?_
      refine Wk.no rfl rfl rfl ?_
      refine Wk.no rfl rfl rfl ?_
      refine Wk.no rfl rfl rfl ?_
      refine Wk.no rfl rfl rfl ?_
      refine Wk.no rfl rfl rfl ?_
      refine Wk.q rfl rfl rfl (Qk.pickF rfl rfl) ?_
      refine Wk.next ?_
      refine Wc.condF rfl ?_
      refine Wc.skip ?_
      refine Wc.thence (fun _ _ => rfl) ?_
      refine Wc.region ?_
      refine Wk.q rfl rfl rfl (Qk.add rfl rfl (by omega)) ?_
      refine Wk.q rfl rfl rfl (Qk.move rfl) ?_
      refine Wk.next ?_
      refine Wc.finish fun fr hf => ?_
      have hz : capOut l (inB bs) i = 0 := by simp only [capOut, inB, h39]; rfl
      exact ⟨(i + 1, s2), ⟨ho2, hlt⟩, by simp; omega, rfl, hf.less ⟨rfl, by rw [hstep, hz, Int.add_zero]; rfl, rfl, rfl, rfl, trivial⟩⟩
    · -- t39 = True
      refine Wk.q rfl rfl rfl (Qk.move rfl) ?_
      refine Wk.q rfl rfl rfl (Qk.move rfl) ?_
      refine Wk.q rfl rfl rfl (Qk.fa rfl fd47_1) ?_
      refine Wk.r rfl rfl rfl (Rk.cell rfl sh3 (by first | assumption | repeat (first | exact gnew | exact gsetn gnew | assumption | refine gpush ?_ | refine gset ?_ (by simp; omega) )) (by simp) rfl) ?_
      refine Wk.q rfl rfl rfl (Qk.at rfl rfl ar31 sl31 (hx.old (by assumption)) (by constructor <;> omega)) ?_
      refine Wk.rb rfl rfl rfl (Rk.boolR rfl sh4 (hx.old (by assumption)) (by omega)) fun b h45 => ?_
      cases b
      · -- t45 = False
        refine Wk.q rfl rfl rfl (Qk.not rfl) ?_
        refine Wk.q rfl rfl rfl (Qk.pickT rfl rfl) ?_
        refine Wk.next ?_
        refine Wc.condT rfl ?_
        refine Wc.region ?_
        refine Wk.q rfl rfl rfl (Qk.move rfl) ?_
        refine Wk.q rfl rfl rfl (Qk.fa rfl fd47_2) ?_
        refine Wk.r rfl rfl rfl (Rk.cell rfl sh3 (by first | assumption | repeat (first | exact gnew | exact gsetn gnew | assumption | refine gpush ?_ | refine gset ?_ (by simp; omega) )) (by simp) rfl) ?_
        refine Wk.q rfl rfl rfl (Qk.add rfl rfl (by omega)) ?_
        refine Wk.q rfl rfl rfl (Qk.assign rfl) ?_
        refine Wk.next ?_
        refine Wc.thence (fun _ _ => rfl) ?_
        refine Wc.region ?_
        refine Wk.q rfl rfl rfl (Qk.add rfl rfl (by omega)) ?_
        refine Wk.q rfl rfl rfl (Qk.move rfl) ?_
        refine Wk.next ?_
        refine Wc.finish fun fr hf => ?_
        have hz : capOut l (inB bs) i = (arcAt l i).cap := by simp only [capOut, inB, h39, h45]; rfl
        exact ⟨(i + 1, s2), ⟨ho2, hlt⟩, by simp; omega, rfl, hf.less ⟨rfl, by rw [hstep, hz]; rfl, rfl, rfl, rfl, trivial⟩⟩
      · -- t45 = True
        refine Wk.q rfl rfl rfl (Qk.not rfl) ?_
        refine Wk.q rfl rfl rfl (Qk.pickT rfl rfl) ?_
        refine Wk.next ?_
        refine Wc.condF rfl ?_
        refine Wc.skip ?_
        refine Wc.thence (fun _ _ => rfl) ?_
        refine Wc.region ?_
        refine Wk.q rfl rfl rfl (Qk.add rfl rfl (by omega)) ?_
        refine Wk.q rfl rfl rfl (Qk.move rfl) ?_
        refine Wk.next ?_
        refine Wc.finish fun fr hf => ?_
        have hz : capOut l (inB bs) i = 0 := by simp only [capOut, inB, h39, h45]; rfl
        exact ⟨(i + 1, s2), ⟨ho2, hlt⟩, by simp; omega, rfl, hf.less ⟨rfl, by rw [hstep, hz, Int.add_zero]; rfl, rfl, rfl, rfl, trivial⟩⟩

end Go.Proofs.Ytgkmpidihgbkdaa
