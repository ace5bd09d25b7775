/- The value of a flow, the cut of a side. -/
import Derived.Test.YtgkmpidihgbkdaaJE
namespace Go.Proofs.Ytgkmpidihgbkdaa
open Go.Abs
variable {K : Known}

theorem c47 (hK : Late K) : Pred K (.func (.func 47) #[] #[]) (fun x => x != 0) := fun x s => by
  refine Ev.enterK (hK.none (by decide) _) Try.func47 rfl rfl (Nat.le_of_ble_eq_true rfl) ?_
  refine Wc.tail (Wc.assoc (Wc.region (Wk.q rfl rfl rfl (Qk.assign rfl) (Wk.next ?_))))
  refine Wc.assoc (Wc.region (Wk.q rfl rfl rfl (Qk.move rfl) (Wk.q rfl rfl rfl (Qk.bin rfl rfl rfl) (Wk.q rfl rfl rfl (Qk.assign rfl) (Wk.next ?_)))))
  exact Wc.done' rfl ⟨rfl, rfl⟩

set_option maxRecDepth 100000 in
theorem c32 (hK : Late K) {v xv : Value} {N : Int} {l : List Arc} {xs : List Int} {s : St} (hok : NetOk N l) (hv : ARow s v l) (hx : IRow s xv xs) (hlen : xs.length = l.length) (hf : IsFlow N l (fun i => xs.getD i 0)) :
    Ev Try.prog K (.func (.func 32) #[] #[]) [.agg #[.int .i64 N, v], xv] s fun r s' => r = .tuple #[.int .i64 (val l (fun i => xs.getD i 0)), .bool true] ∧ Old s s' := by
  have hN1 := hok.most
  have hN2 := hok.two
  refine Ev.enterK (hK.none (by decide) _) Try.func32 rfl rfl (Nat.le_of_ble_eq_true rfl) ?_
  refine Wc.tail ?_
  refine Wc.assoc ?_
  refine Wc.region ?_
  refine Wk.f rfl rfl rfl (Fk.box rfl rfl) ?_
  refine Wk.q rfl rfl rfl (Qk.assign rfl) ?_
  refine Wk.q rfl rfl rfl (Qk.assign rfl) ?_
  refine Wk.next ?_
  refine Wc.store fun s1 e1 => ?_
  have ho1 : Old s s1 := by subst e1; exact Old.push _ _
  have hg1 : s1.get s.size = some ⟨[.int .i64 N, v], .rw⟩ := by subst e1; exact gnew
  refine Wc.assoc ?_
  refine Wc.region ?_
  refine Wk.r rfl rfl rfl (Rk.cells rfl sh24 (by first | assumption | repeat (first | exact gnew | exact gsetn gnew | assumption | refine gpush ?_ | refine gset ?_ (by simp; omega) )) (by simp) (by simp)) ?_
  refine Wk.q rfl rfl rfl (Qk.move rfl) ?_
  refine Wk.c rfl rfl rfl (Ck.call rfl rfl) ((c45 hK hok (hv.old ho1) (hx.old ho1) hlen hf.range).mono ?_)
  rintro _ s2 ⟨bn, net, rfl, hbn, hb2, hnl, hnet, ho12⟩
  have hg2 := ho12.get hg1
  have b0 := pot_bound (S := only 0) hok hf.range (Nat.le_refl _)
  have n0 : net.getD 0 0 = bal l (fun i => xs.getD i 0) 0 := hnet 0 (by omega)
  have n1 : net.getD (Int.toNat 0) 0 = bal l (fun i => xs.getD i 0) 0 := n0
  have n0' : bal l (fun i => xs.getD i 0) 0 = Sm l.length (into l (fun i => xs.getD i 0) (only 0)) := rfl
  have hany : ((net.drop 1).take ((N - 1).toNat - 1)).any (fun x => x != 0) = false := by
    refine any_false (d := 0) fun i hi => ?_
    have hi' : i < (N - 1).toNat - 1 := by simp at hi; omega
    have e : ((net.drop 1).take ((N - 1).toNat - 1)).getD i 0 = net.getD (1 + i) 0 := by simp only [List.getD]; rw [List.getElem?_take, if_pos hi', List.getElem?_drop]
    rw [e, hnet (1 + i) (by omega), hf.kept _ (by omega) (by omega)]
    rfl
  refine Wk.q rfl rfl rfl (Qk.move rfl) ?_
  refine Wk.q rfl rfl rfl (Qk.extract rfl rfl) ?_
  refine Wk.b rfl rfl rfl (Qk.extract rfl rfl) fun b h13 => ?_
  obtain rfl : b = true := by exact h13.symm -- t13
  refine Wk.q rfl rfl rfl (Qk.assign rfl) ?_
  refine Wk.q rfl rfl rfl (Qk.assign rfl) ?_
  refine Wk.next ?_
  refine Wc.assoc ?_
  refine Wc.assoc ?_
  refine Wc.region ?_
  refine Wk.q rfl rfl rfl (Qk.move rfl) ?_
  refine Wk.q rfl rfl rfl (Qk.not rfl) ?_
  refine Wk.q rfl rfl rfl (Qk.move rfl) ?_
  refine Wk.q rfl rfl rfl (Qk.move rfl) ?_
  refine Wk.q rfl rfl rfl (Qk.fa rfl fd24_0) ?_
  refine Wk.r rfl rfl rfl (Rk.cell rfl sh3 (by first | assumption | repeat (first | exact gnew | exact gsetn gnew | assumption | refine gpush ?_ | refine gset ?_ (by simp; omega) )) (by simp) rfl) ?_
  refine Wk.q rfl rfl rfl (Qk.sub rfl rfl (by omega)) ?_
  refine Wk.r rfl rfl rfl (Rk.sub (a := 1) (c := N - 1) rfl rfl rfl ar28 sl28 hb2 (by omega)) ?_
  refine Wk.c rfl rfl rfl (Ck.call rfl rfl) ((c46 hK (ints_sub (a := 1) (m := (N - 1).toNat - 1) (cap := N.toNat - 1) hb2 (by simp) (by omega)) (by simp; omega) (c47 hK)).mono ?_)
  rintro _ _ ⟨rfl, rfl⟩
  skip
  refine Wk.b rfl rfl rfl (Qk.pickF rfl rfl) fun b h23 => ?_
  obtain rfl : b = false := by rw [← h23]; exact hany -- t23
  refine Wk.next ?_
  refine Wc.condF rfl ?_
  refine Wc.skip ?_
  refine Wc.assoc ?_
  refine Wc.region ?_
  refine Wk.q rfl rfl rfl (Qk.move rfl) ?_
  refine Wk.q rfl rfl rfl (Qk.at1 rfl rfl ar28 sl28 (by constructor <;> omega)) ?_
  refine Wk.r rfl rfl rfl (Rk.int rfl sh3 (by first | assumption | repeat (first | exact gnew | exact gsetn gnew | assumption | refine gpush ?_ | refine gset ?_ (by simp; omega) )) (by simp) (by omega)) ?_
  refine Wk.q rfl rfl rfl (Qk.neg rfl (by omega)) ?_
  refine Wk.q rfl rfl rfl (Qk.assign rfl) ?_
  refine Wk.q rfl rfl rfl (Qk.assign rfl) ?_
  refine Wk.next ?_
  refine Wc.done'' (fun _ _ => rfl) rfl ?_
  refine ⟨?_, ho1.trans ho12⟩
  simp only [pack, val, ← n0]
  rfl

end Go.Proofs.Ytgkmpidihgbkdaa
