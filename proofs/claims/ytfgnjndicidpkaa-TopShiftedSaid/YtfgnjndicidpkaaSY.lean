/- A lease of the changed flat. -/
import Derived.Test.YtfgnjndicidpkaaSX
namespace Go.Proofs.Ytfgnjndicidpkaa
open Go.Abs Go.IntWalk
variable {K : Known}
theorem g4 {s : St} {a b c d e : Blk} : (((((s.push a).push b).push c).push d).push e).get (s.size + 4) = some e := by
  have := gnew (s := (((s.push a).push b).push c).push d) (k := e)
  simpa using this
set_option maxHeartbeats 4000000 in
set_option maxRecDepth 100000 in
theorem c16 (hK : Late K) {M U : List (List Int)} {v uv bv pv bv2 pv2 wv hv : Value} {rent rent' more : Int} {b pl b2 pl2 who what d6 : List Int} {den : Nat} {s : St} (hm : MRow s v M) (hmu : MRow s uv U) (hB : Bids M) (hBu : Bids U) (hUl : U.length = M.length) (hr : 0 ≤ rent ∧ rent ≤ 10000000) (hr' : 0 ≤ rent' ∧ rent' ≤ 10000000)
    (hb0 : IRow s bv b) (hp0 : IRow s pv pl) (hL : LeaseOk M rent b pl den) (hb2 : IRow s bv2 b2) (hp2 : IRow s pv2 pl2) (hL2 : LeaseOk U rent' b2 pl2 den) (hd6 : Bytes d6 6) (hmore : 0 ≤ more ∧ more ≤ 255) (hwho0 : IRow s wv who) (hwhat0 : IRow s hv what) (hP : P0 M.length who) (hQ : P0 M.length what)
    (hprice : ∀ i, i < M.length → pl2.getD (asgOf what i) 0 = pl.getD i 0 + d6.getD i 0 * (den : Int))
    (hgain : ∀ i, i < M.length → matM U (asgOf who i) (asgOf b2 (asgOf who i)) * (den : Int) - pl2.getD (asgOf b2 (asgOf who i)) 0 = (matM M i (asgOf b i) * (den : Int) - pl.getD (asgOf b i) 0) + more * (den : Int)) :
    Ev Try.prog K (.func (.func 16) #[] #[]) [.agg #[v, .int .i64 rent], .agg #[uv, .int .i64 rent'], .agg #[bv, pv, .int .i64 (den : Nat)], .agg #[bv2, pv2, .int .i64 (den : Nat)], .agg (uc d6).toArray, .int .i64 more, wv, hv] s fun r s' => r = .bool true ∧ Old s s' := by
  obtain ⟨rv, hR, hrow⟩ := id hm
  obtain ⟨av, capv, rfl, _⟩ := id hR
  obtain ⟨ru, hRu, hrowu⟩ := id hmu
  obtain ⟨au, capu, rfl, _⟩ := id hRu
  obtain ⟨ab, capb, rfl, _⟩ := id hb0
  obtain ⟨ap, capp, rfl, _⟩ := id hp0
  obtain ⟨ab2, capb2, rfl, _⟩ := id hb2
  obtain ⟨ap2, capp2, rfl, _⟩ := id hp2
  obtain ⟨aw, capw, rfl, _⟩ := id hwho0
  obtain ⟨at', capt, rfl, _⟩ := id hwhat0
  have hm6 := hB.most
  have hden := hL.dn
  have hll := hL.len
  have hll2 := hL2.len
  rw [hUl] at hll2
  have hwl := hP.1
  have hhl := hQ.1
  have hdl := hd6.1
  have hW := hP.asg
  have hH := hQ.asg
  have hwn := hP.num
  have hhn := hQ.num
  refine Ev.enterK (hK.none (by decide) _) Try.func16 rfl rfl (Nat.le_of_ble_eq_true rfl) ?_
  refine Wc.tail ?_
  refine Wc.assoc ?_
  refine Wc.region ?_
  refine Wk.f rfl rfl rfl (Fk.box rfl rfl) ?_
  refine Wk.f rfl rfl rfl (Fk.box rfl rfl) ?_
  refine Wk.f rfl rfl rfl (Fk.box rfl rfl) ?_
  refine Wk.f rfl rfl rfl (Fk.box rfl rfl) ?_
  refine Wk.f rfl rfl rfl (Fk.box rfl rfl) ?_
  refine Wk.q rfl rfl rfl (Qk.assign rfl) ?_
  refine Wk.next ?_
  refine Wc.store fun s1 e1 => ?_
  have ho1 : Old s s1 := by subst e1; exact ((((Old.push _ _).gpush _).gpush _).gpush _).gpush _
  have hg8 : s1.get s.size = some ⟨[.slice av M.length capv, .int .i64 rent], .rw⟩ := by subst e1; exact gpush (gpush (gpush (gpush gnew)))
  have hg9 : s1.get (s.size + 1) = some ⟨[.slice au U.length capu, .int .i64 rent'], .rw⟩ := by subst e1; exact gpush (gpush (gpush g1))
  have hg10 : s1.get (s.size + 2) = some ⟨[.slice ab b.length capb, .slice ap pl.length capp, .int .i64 (den : Nat)], .rw⟩ := by subst e1; exact gpush (gpush g2)
  have hg11 : s1.get (s.size + 3) = some ⟨[.slice ab2 b2.length capb2, .slice ap2 pl2.length capp2, .int .i64 (den : Nat)], .rw⟩ := by subst e1; exact gpush g3
  have hg12 : s1.get (s.size + 4) = some ⟨uc d6, .rw⟩ := by subst e1; exact g4
  have hza : ∀ a : Blk, (s.push a).size = s.size + 1 := fun a => by simp
  have hzb : ∀ a b : Blk, ((s.push a).push b).size = s.size + 2 := fun a b => by simp
  have hzc : ∀ a b c : Blk, (((s.push a).push b).push c).size = s.size + 3 := fun a b c => by simp
  have hzd : ∀ a b c d : Blk, ((((s.push a).push b).push c).push d).size = s.size + 4 := fun a b c d => by simp
  rw [hzd, hzc, hzb, hza]
  clear e1
  refine Wc.assoc ?_
  refine Wc.region ?_
  refine Wk.r rfl rfl rfl (Rk.cells rfl sh24 (by first | assumption | repeat (first | exact gnew | exact gsetn gnew | assumption | exact gsetn (by assumption) | exact gsetn (gset (by assumption) (by omega)) | refine gpush ?_ | refine gset ?_ (by first | omega | (simp; omega)) )) (by simp) (by simp)) ?_
  refine Wk.r rfl rfl rfl (Rk.cells rfl sh46 (by first | assumption | repeat (first | exact gnew | exact gsetn gnew | assumption | exact gsetn (by assumption) | exact gsetn (gset (by assumption) (by omega)) | refine gpush ?_ | refine gset ?_ (by first | omega | (simp; omega)) )) (by simp) (by simp)) ?_
  refine Wk.c rfl rfl rfl (Ck.call rfl rfl) ((c37 hK (hm.old ho1) hB hr (hb0.old ho1) (hp0.old ho1) hL).mono ?_)
  rintro r t1 ⟨G, gv, rfl, hgx0, hGl, hGv, ho2⟩
  obtain ⟨ag, capg, rfl, _⟩ := id hgx0
  have hg9 := ho2.get hg9
  have hg10 := ho2.get hg10
  have hg11 := ho2.get hg11
  have hg12 := ho2.get hg12
  have ho2 := ho1.trans ho2
  refine Wk.q rfl rfl rfl (Qk.move rfl) ?_
  refine Wk.q rfl rfl rfl (Qk.extract rfl rfl) ?_
  refine Wk.q rfl rfl rfl (Qk.extract rfl rfl) ?_
  refine Wk.q rfl rfl rfl (Qk.assign rfl) ?_
  refine Wk.q rfl rfl rfl (Qk.assign rfl) ?_
  refine Wk.next ?_
  refine Wc.assoc ?_
  refine Wc.region ?_
  refine Wk.r rfl rfl rfl (Rk.cells rfl sh24 (by first | assumption | repeat (first | exact gnew | exact gsetn gnew | assumption | exact gsetn (by assumption) | exact gsetn (gset (by assumption) (by omega)) | refine gpush ?_ | refine gset ?_ (by first | omega | (simp; omega)) )) (by simp) (by simp)) ?_
  refine Wk.r rfl rfl rfl (Rk.cells rfl sh46 (by first | assumption | repeat (first | exact gnew | exact gsetn gnew | assumption | exact gsetn (by assumption) | exact gsetn (gset (by assumption) (by omega)) | refine gpush ?_ | refine gset ?_ (by first | omega | (simp; omega)) )) (by simp) (by simp)) ?_
  refine Wk.c rfl rfl rfl (Ck.call rfl rfl) ((c37 hK (hmu.old ho2) hBu hr' (hb2.old ho2) (hp2.old ho2) hL2).mono ?_)
  rintro r t2 ⟨G2, gv2, rfl, hgy0, hGl2, hGv2, ho3⟩
  obtain ⟨ag2, capg2, rfl, _⟩ := id hgy0
  have hg10 := ho3.get hg10
  have hg11 := ho3.get hg11
  have hg12 := ho3.get hg12
  have hgx := hgx0.old ho3
  have hgy := hgy0
  have ho3 := ho2.trans ho3
  have hpx := hp0.old ho3
  have hpy := hp2.old ho3
  have hwho := hwho0.old ho3
  have hwhat := hwhat0.old ho3
  refine Wk.q rfl rfl rfl (Qk.move rfl) ?_
  refine Wk.q rfl rfl rfl (Qk.extract rfl rfl) ?_
  refine Wk.q rfl rfl rfl (Qk.extract rfl rfl) ?_
  refine Wk.q rfl rfl rfl (Qk.assign rfl) ?_
  refine Wk.q rfl rfl rfl (Qk.assign rfl) ?_
  refine Wk.next ?_
  refine Wc.assoc ?_
  refine Wc.assoc ?_
  refine Wc.region ?_
  refine Wk.q rfl rfl rfl (Qk.move rfl) ?_
  refine Wk.b rfl rfl rfl (Qk.bin rfl rfl rfl) fun b h35 => ?_
  obtain rfl : b = false := by exact h35.symm -- t35
  refine Wk.q rfl rfl rfl (Qk.move rfl) ?_
  refine Wk.q rfl rfl rfl (Qk.move rfl) ?_
  refine Wk.b rfl rfl rfl (Qk.bin rfl rfl rfl) fun b h38 => ?_
  obtain rfl : b = false := by exact h38.symm -- t38
  refine Wk.q rfl rfl rfl (Qk.pickF rfl rfl) ?_
  refine Wk.q rfl rfl rfl (Qk.move rfl) ?_
  refine Wk.q rfl rfl rfl (Qk.fa rfl fd46_2) ?_
  refine Wk.r rfl rfl rfl (Rk.cell rfl sh3 (by first | assumption | repeat (first | exact gnew | exact gsetn gnew | assumption | exact gsetn (by assumption) | exact gsetn (gset (by assumption) (by omega)) | refine gpush ?_ | refine gset ?_ (by first | omega | (simp; omega)) )) (by simp) rfl) ?_
  refine Wk.q rfl rfl rfl (Qk.fa rfl fd46_2) ?_
  refine Wk.r rfl rfl rfl (Rk.cell rfl sh3 (by first | assumption | repeat (first | exact gnew | exact gsetn gnew | assumption | exact gsetn (by assumption) | exact gsetn (gset (by assumption) (by omega)) | refine gpush ?_ | refine gset ?_ (by first | omega | (simp; omega)) )) (by simp) rfl) ?_
  refine Wk.b rfl rfl rfl (Qk.bin rfl rfl rfl) fun b h45 => ?_
  obtain rfl : b = false := by rw [← h45]; simp -- t45
  refine Wk.q rfl rfl rfl (Qk.pickF rfl rfl) ?_
  refine Wk.q rfl rfl rfl (Qk.move rfl) ?_
  refine Wk.q rfl rfl rfl (Qk.fa rfl fd46_1) ?_
  refine Wk.r rfl rfl rfl (Rk.cell rfl sh29 (by first | assumption | repeat (first | exact gnew | exact gsetn gnew | assumption | exact gsetn (by assumption) | exact gsetn (gset (by assumption) (by omega)) | refine gpush ?_ | refine gset ?_ (by first | omega | (simp; omega)) )) (by simp) rfl) ?_
  refine Wk.q rfl rfl rfl (Qk.lenR rfl rfl rfl hpx sl29) ?_
  refine Wk.q rfl rfl rfl (Qk.move rfl) ?_
  refine Wk.q rfl rfl rfl (Qk.lenR rfl rfl rfl hwhat sl29) ?_
  refine Wk.b rfl rfl rfl (Qk.bin rfl rfl rfl) fun b h53 => ?_
  obtain rfl : b = false := by rw [← h53]; simp [hll, hhl] -- t53
  refine Wk.q rfl rfl rfl (Qk.pickF rfl rfl) ?_
  refine Wk.q rfl rfl rfl (Qk.move rfl) ?_
  refine Wk.q rfl rfl rfl (Qk.fa rfl fd46_1) ?_
  refine Wk.r rfl rfl rfl (Rk.cell rfl sh29 (by first | assumption | repeat (first | exact gnew | exact gsetn gnew | assumption | exact gsetn (by assumption) | exact gsetn (gset (by assumption) (by omega)) | refine gpush ?_ | refine gset ?_ (by first | omega | (simp; omega)) )) (by simp) rfl) ?_
  refine Wk.q rfl rfl rfl (Qk.lenR rfl rfl rfl hpy sl29) ?_
  refine Wk.q rfl rfl rfl (Qk.move rfl) ?_
  refine Wk.q rfl rfl rfl (Qk.lenR rfl rfl rfl hwhat sl29) ?_
  refine Wk.b rfl rfl rfl (Qk.bin rfl rfl rfl) fun b h61 => ?_
  obtain rfl : b = false := by rw [← h61]; simp [hll2, hhl] -- t61
  refine Wk.q rfl rfl rfl (Qk.pickF rfl rfl) ?_
  refine Wk.q rfl rfl rfl (Qk.move rfl) ?_
  refine Wk.q rfl rfl rfl (Qk.move rfl) ?_
  refine Wk.q rfl rfl rfl (Qk.lenR rfl rfl rfl hgx sl29) ?_
  refine Wk.q rfl rfl rfl (Qk.move rfl) ?_
  refine Wk.q rfl rfl rfl (Qk.lenR rfl rfl rfl hwho sl29) ?_
  refine Wk.b rfl rfl rfl (Qk.bin rfl rfl rfl) fun b h68 => ?_
  obtain rfl : b = false := by rw [← h68]; simp [hGl, hwl] -- t68
  refine Wk.q rfl rfl rfl (Qk.pickF rfl rfl) ?_
  refine Wk.q rfl rfl rfl (Qk.move rfl) ?_
  refine Wk.q rfl rfl rfl (Qk.move rfl) ?_
  refine Wk.q rfl rfl rfl (Qk.lenR rfl rfl rfl hgy sl29) ?_
  refine Wk.q rfl rfl rfl (Qk.move rfl) ?_
  refine Wk.q rfl rfl rfl (Qk.lenR rfl rfl rfl hwho sl29) ?_
  refine Wk.b rfl rfl rfl (Qk.bin rfl rfl rfl) fun b h75 => ?_
  obtain rfl : b = false := by rw [← h75]; simp [hGl2, hwl, hUl] -- t75
  refine Wk.q rfl rfl rfl (Qk.pickF rfl rfl) ?_
  refine Wk.next ?_
  refine Wc.condF rfl ?_
  refine Wc.skip ?_
  refine Wc.assoc ?_
  refine Wc.assoc ?_
  refine Wc.region ?_
  refine Wk.q rfl rfl rfl (Qk.move rfl) ?_
  refine Wk.q rfl rfl rfl (Qk.lenR rfl rfl rfl hwho sl29) ?_
  refine Wk.q rfl rfl rfl (Qk.move rfl) ?_
  refine Wk.next ?_
  refine Wc.block ?_
  refine Wc.loop (σ := Nat) (fun k => k ≤ M.length) (fun k => [(5, .int .i64 more), (6, .slice aw who.length capw), (7, .slice at' what.length capt), (10, .pointer (some ⟨s.size + 2, 0, none⟩)), (11, .pointer (some ⟨s.size + 3, 0, none⟩)), (12, .pointer (some ⟨s.size + 4, 0, none⟩)), (17, .slice ag G.length capg), (19, .slice ag2 G2.length capg2), (77, .slice aw who.length capw), (78, goInt who.length), (79, .int .i64 k)]) (fun _ => t2) (fun k => M.length - k) 0 (Nat.zero_le _) ⟨rfl, rfl, rfl, rfl, rfl, rfl, rfl, rfl, rfl, rfl, rfl, trivial⟩ rfl ?_
  rintro i hi
  refine Wc.assoc ?_
  refine Wc.region ?_
  refine Wk.b rfl rfl rfl (Qk.bin rfl rfl rfl) fun b h80 => ?_
  cases b
  · -- t80 = False
    have hge : i = M.length := by
      have : ¬ ((i : Int) < (who.length : Int)) := of_decide_eq_false h80
      omega
    subst hge
    refine Wk.next ?_
    refine Wc.assoc ?_
    refine Wc.condF rfl ?_
    refine Wc.jump (fun _ _ => rfl) ?_
    refine Wc.assoc ?_
    refine Wc.region ?_
    refine Wk.q rfl rfl rfl (Qk.assign rfl) ?_
    refine Wk.next ?_
    refine Wc.done'' (fun _ _ => rfl) rfl ?_
    exact ⟨rfl, ho3⟩
  · -- t80 = True
    have hil : i < M.length := by
      have : (i : Int) < (who.length : Int) := of_decide_eq_true h80
      omega
    have hni : what.getD i 0 = (asgOf what i : Nat) := hhn i hil
    have hwi : who.getD i 0 = (asgOf who i : Nat) := hwn i hil
    have hti := hH.lt i hil
    have hsi := hW.lt i hil
    have hdi := hd6.2 i (by omega)
    have hm1 := mul60 (x := d6.getD i 0) (d := den) (by omega) hden
    have hm2 := mul60 (x := more) (d := den) (by omega) hden
    have hpb := hL.bd i hil
    have hbi := hL.asg.asg.lt i hil
    have hpb2 := hL.bd _ hbi
    have hvb := hB.range i _ hil hbi
    have hm3 := mul60 hvb hden
    have hG1 := hGv i hil
    have hG2 := hGv2 (asgOf who i) (by omega)
    have he1 := hprice i hil
    have he2 := hgain i hil
    refine Wk.next ?_
    refine Wc.assoc ?_
    refine Wc.condT rfl ?_
    refine Wc.skip ?_
    refine Wc.assoc ?_
    refine Wc.block ?_
    refine Wc.assoc ?_
    refine Wc.region ?_
    refine Wk.q rfl rfl rfl (Qk.move rfl) ?_
    refine Wk.q rfl rfl rfl (Qk.assign rfl) ?_
    refine Wk.next ?_
    refine Wc.assoc ?_
    refine Wc.draw0 rfl ?_
    refine Wd.q rfl rfl rfl (Qk.fa rfl fd46_1) ?_
    refine Wd.r rfl rfl rfl (Rk.cell rfl sh29 (by first | assumption | repeat (first | exact gnew | exact gsetn gnew | assumption | exact gsetn (by assumption) | exact gsetn (gset (by assumption) (by omega)) | refine gpush ?_ | refine gset ?_ (by first | omega | (simp; omega)) )) (by simp) rfl) (by kernel_rfl) ?_
    refine Wd.q rfl rfl rfl (Qk.move rfl) ?_
    refine Wd.q rfl rfl rfl (Qk.move rfl) ?_
    refine Wd.q rfl rfl rfl (Qk.at rfl rfl ar29 sl29 hwhat (by constructor <;> omega)) ?_
    refine Wd.r rfl rfl rfl (Rk.eqv (u := .int .i64 (asgOf what i : Nat)) (Rk.intR rfl sh3 hwhat (i := i) (by omega)) (by rw [hni])) (by kernel_rfl) ?_
    refine Wd.q rfl rfl rfl (Qk.at rfl rfl ar29 sl29 hpy (by constructor <;> omega)) ?_
    refine Wd.r rfl rfl rfl (Rk.intR rfl sh3 hpy (i := (asgOf what i)) (by omega)) (by kernel_rfl) ?_
    refine Wd.q rfl rfl rfl (Qk.fa rfl fd46_1) ?_
    refine Wd.r rfl rfl rfl (Rk.cell rfl sh29 (by first | assumption | repeat (first | exact gnew | exact gsetn gnew | assumption | exact gsetn (by assumption) | exact gsetn (gset (by assumption) (by omega)) | refine gpush ?_ | refine gset ?_ (by first | omega | (simp; omega)) )) (by simp) rfl) (by kernel_rfl) ?_
    refine Wd.q rfl rfl rfl (Qk.move rfl) ?_
    refine Wd.q rfl rfl rfl (Qk.at rfl rfl ar29 sl29 hpx (by constructor <;> omega)) ?_
    refine Wd.r rfl rfl rfl (Rk.intR rfl sh3 hpx (i := i) (by omega)) (by kernel_rfl) ?_
    refine Wd.q rfl rfl rfl (Qk.move rfl) ?_
    refine Wd.q rfl rfl rfl (Qk.iaA rfl rfl ar25 (by constructor <;> omega)) ?_
    refine Wd.r rfl rfl rfl (Rk.cell rfl sh5 (by first | assumption | repeat (first | exact gnew | exact gsetn gnew | assumption | exact gsetn (by assumption) | exact gsetn (gset (by assumption) (by omega)) | refine gpush ?_ | refine gset ?_ (by first | omega | (simp; omega)) )) (by simp) (uc_at (by omega))) (by kernel_rfl) ?_
    refine Wd.q rfl rfl rfl (Qk.cvt rfl und5 und3 (i64_in _ (by omega))) ?_
    refine Wd.q rfl rfl rfl (Qk.fa rfl fd46_2) ?_
    refine Wd.r rfl rfl rfl (Rk.cell rfl sh3 (by first | assumption | repeat (first | exact gnew | exact gsetn gnew | assumption | exact gsetn (by assumption) | exact gsetn (gset (by assumption) (by omega)) | refine gpush ?_ | refine gset ?_ (by first | omega | (simp; omega)) )) (by simp) rfl) (by kernel_rfl) ?_
    refine Wd.q rfl rfl rfl (Qk.mul rfl rfl (by omega)) ?_
    refine Wd.q rfl rfl rfl (Qk.add rfl rfl (by omega)) ?_
    refine Wd.b rfl rfl rfl (Qk.bin rfl rfl rfl) fun b h103 => ?_
    obtain rfl : b = false := by rw [← h103, he1]; simp -- t103
    refine Wd.q rfl rfl rfl (Qk.move rfl) ?_
    refine Wd.q rfl rfl rfl (Qk.move rfl) ?_
    refine Wd.q rfl rfl rfl (Qk.move rfl) ?_
    refine Wd.q rfl rfl rfl (Qk.move rfl) ?_
    refine Wd.q rfl rfl rfl (Qk.at rfl rfl ar29 sl29 hwho (by constructor <;> omega)) ?_
    refine Wd.r rfl rfl rfl (Rk.eqv (u := .int .i64 (asgOf who i : Nat)) (Rk.intR rfl sh3 hwho (i := i) (by omega)) (by rw [hwi])) (by kernel_rfl) ?_
    refine Wd.q rfl rfl rfl (Qk.at rfl rfl ar29 sl29 hgy (by constructor <;> omega)) ?_
    refine Wd.r rfl rfl rfl (Rk.intR rfl sh3 hgy (i := (asgOf who i)) (by omega)) (by kernel_rfl) ?_
    refine Wd.q rfl rfl rfl (Qk.move rfl) ?_
    refine Wd.q rfl rfl rfl (Qk.move rfl) ?_
    refine Wd.q rfl rfl rfl (Qk.at rfl rfl ar29 sl29 hgx (by constructor <;> omega)) ?_
    refine Wd.r rfl rfl rfl (Rk.intR rfl sh3 hgx (i := i) (by omega)) (by kernel_rfl) ?_
    refine Wd.q rfl rfl rfl (Qk.move rfl) ?_
    refine Wd.q rfl rfl rfl (Qk.fa rfl fd46_2) ?_
    refine Wd.r rfl rfl rfl (Rk.cell rfl sh3 (by first | assumption | repeat (first | exact gnew | exact gsetn gnew | assumption | exact gsetn (by assumption) | exact gsetn (gset (by assumption) (by omega)) | refine gpush ?_ | refine gset ?_ (by first | omega | (simp; omega)) )) (by simp) rfl) (by kernel_rfl) ?_
    refine Wd.q rfl rfl rfl (Qk.mul rfl rfl (by omega)) ?_
    refine Wd.q rfl rfl rfl (Qk.add rfl rfl (by omega)) ?_
    refine Wd.b rfl rfl rfl (Qk.bin rfl rfl rfl) fun b h121 => ?_
    obtain rfl : b = false := by rw [← h121, hG2, he2, hG1]; simp -- t121
    refine Wd.q rfl rfl rfl (Qk.pickF rfl rfl) ?_
    refine Wd.next ?_
    refine Wc.condF rfl ?_
    refine Wc.skip ?_
    refine Wc.thence (fun _ _ => rfl) ?_
    refine Wc.region ?_
    refine Wk.q rfl rfl rfl (Qk.add rfl rfl (by omega)) ?_
    refine Wk.q rfl rfl rfl (Qk.move rfl) ?_
    refine Wk.next ?_
    refine Wc.finish fun fr hf => ?_
    exact ⟨i + 1, hil, by omega, rfl, hf.less ⟨rfl, rfl, rfl, rfl, rfl, rfl, rfl, rfl, rfl, rfl, rfl, trivial⟩⟩
end Go.Proofs.Ytfgnjndicidpkaa
