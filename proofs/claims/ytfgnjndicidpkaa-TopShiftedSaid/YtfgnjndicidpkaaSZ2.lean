/- What does not matter: the law walked. -/
import Derived.Test.YtfgnjndicidpkaaSZ
namespace Go.Proofs.Ytfgnjndicidpkaa
open Go.Abs Go.IntWalk
variable {K : Known}
theorem c4 (hal : K 4 [] = some (.bool true)) {s : St} : Ev Try.prog K (.func (.func 4) #[] #[]) [] s fun r s' => r = .bool true ∧ s' = s := Ev.known hal ⟨rfl, rfl⟩
theorem uc_len (l : List Int) : (uc l).length = l.length := by simp [uc]
theorem uc_all {l : List Int} {n : Nat} (h : l.length = n) : Value.agg (((uc l).drop 0).take n).toArray = .agg (uc l).toArray := by
  rw [List.drop_zero, List.take_of_length_le (by rw [uc_len]; omega)]
theorem fd25 (i : Nat) : fieldOf Try.prog 25 i = none := by
  unfold fieldOf
  rw [show Try.prog.underlying 25 = some (.array 6 5) by kernel_rfl]
theorem build25 {x : Int} : abuild Try.prog 25 [(0, .int .u8 x), (1, .int .u8 x), (2, .int .u8 x), (3, .int .u8 x), (4, .int .u8 x), (5, .int .u8 x)] = some (.agg (uc (List.replicate 6 x)).toArray) := by
  simp [abuild, ar25, ze25, afill, placeOf, fd25, Value.cells, isVal, splice, uc, List.replicate]
theorem rep6 {x : Int} {i : Nat} (h : i < 6) : (List.replicate 6 x).getD i 0 = x := by
  have : i = 0 ∨ i = 1 ∨ i = 2 ∨ i = 3 ∨ i = 4 ∨ i = 5 := by omega
  rcases this with rfl | rfl | rfl | rfl | rfl | rfl <;> rfl
theorem stake_bd1 {M : List (List Int)} {rent : Int} {i : Nat} {b : List Int} (hB : Bids M) (hHO : HasOpt M) (hr : 0 ≤ rent ∧ rent ≤ 10000000) (hi : i < M.length) (hA : AsgL M.length b) : -1000000000 ≤ matM M i (asgOf b i) * (M.length : Int) - highOf M rent (asgOf b i) ∧ matM M i (asgOf b i) * (M.length : Int) - highOf M rent (asgOf b i) ≤ 1000000000 := by
  have h1 := Sm.bd64 (n := M.length) (g := fun x => LK M (asgOf b i) x) fun x hx => LK_bd hB hHO (hA.asg.lt i hi) hx
  have h2 := hB.most
  have h3 := mul60 (d := M.length) (hB.range i _ hi (hA.asg.lt i hi)) ⟨hB.pos, by omega⟩
  unfold highOf
  omega
theorem stake_bd2 {M : List (List Int)} {rent : Int} {i : Nat} {b : List Int} (hB : Bids M) (hHO : HasOpt M) (hr : 0 ≤ rent ∧ rent ≤ 10000000) (hi : i < M.length) (hA : AsgL M.length b) : -1000000000 ≤ matM M i (asgOf b i) * (M.length : Int) - lowOf M rent (asgOf b i) ∧ matM M i (asgOf b i) * (M.length : Int) - lowOf M rent (asgOf b i) ≤ 1000000000 := by
  have h1 := Sm.bd64 (n := M.length) (g := fun x => LK M x (asgOf b i)) fun x hx => LK_bd hB hHO hx (hA.asg.lt i hi)
  have h2 := hB.most
  have h3 := mul60 (d := M.length) (hB.range i _ hi (hA.asg.lt i hi)) ⟨hB.pos, by omega⟩
  unfold lowOf
  omega
set_option maxHeartbeats 40000000 in
set_option maxRecDepth 100000 in
theorem c3 (hK : Late K) (hK3 : ∀ args, K 3 args = none) (hal : K 4 [] = some (.bool true)) {M : List (List Int)} {v : Value} {rent : Int} {c6 d6 : List Int} {l0 l1 l2 l3 l4 l5 l6 l7 m0 m1 m2 m3 m4 m5 m6 m7 : Int} {s : St} (hm0 : MRow s v M) (hc6 : Bytes c6 6) (hd6 : Bytes d6 6) (hl8 : Bytes [l0, l1, l2, l3, l4, l5, l6, l7] 8) (hm8 : Bytes [m0, m1, m2, m3, m4, m5, m6, m7] 8) :
    Ev Try.prog K (.func (.func 3) #[] #[]) [.agg #[v, .int .i64 rent], .agg (uc c6).toArray, .agg (uc d6).toArray, .agg (uc [l0, l1, l2, l3, l4, l5, l6, l7]).toArray, .agg (uc [m0, m1, m2, m3, m4, m5, m6, m7]).toArray] s fun r _ => r = .bool true := by
  obtain ⟨rv, hR0, hrow⟩ := id hm0
  obtain ⟨av, capv, rfl, _⟩ := id hR0
  have hsame : same (.slice av M.length capv) (.slice av M.length capv) = true := by cases av <;> simp [same, ssame]
  have hcl := hc6.1
  have hdl := hd6.1
  have hc0 : Bytes (List.replicate 6 (c6.getD 0 0)) 6 := ⟨by simp, fun i hi => by rw [rep6 hi]; exact hc6.2 0 (by omega)⟩
  refine Ev.enterK (by simp [known, hK3]) Try.func3 rfl rfl (Nat.le_of_ble_eq_true rfl) ?_
  refine Wc.tail ?_
  refine Wc.assoc ?_
  refine Wc.region ?_
  refine Wk.f rfl rfl rfl (Fk.box rfl rfl) ?_
  refine Wk.f rfl rfl rfl (Fk.box rfl rfl) ?_
  refine Wk.f rfl rfl rfl (Fk.box rfl rfl) ?_
  refine Wk.f rfl rfl rfl (Fk.box rfl rfl) ?_
  refine Wk.f rfl rfl rfl (Fk.box rfl rfl) ?_
  refine Wk.q rfl rfl rfl (Qk.assign rfl) ?_
  refine Wk.next ?_
  refine Wc.store fun s1 e1 => ?_
  have ho1 : Old s s1 := by subst e1; exact ((((Old.push _ _).gpush _).gpush _).gpush _).gpush _
  have q5 : s1.get s.size = some ⟨[.slice av M.length capv, .int .i64 rent], .rw⟩ := by subst e1; exact gpush (gpush (gpush (gpush gnew)))
  have q6 : s1.get (s.size + 1) = some ⟨uc c6, .rw⟩ := by subst e1; exact gpush (gpush (gpush g1))
  have q7 : s1.get (s.size + 2) = some ⟨uc d6, .rw⟩ := by subst e1; exact gpush (gpush g2)
  have q8 : s1.get (s.size + 3) = some ⟨[.int .u8 l0, .int .u8 l1, .int .u8 l2, .int .u8 l3, .int .u8 l4, .int .u8 l5, .int .u8 l6, .int .u8 l7], .rw⟩ := by subst e1; exact gpush g3
  have q9 : s1.get (s.size + 4) = some ⟨[.int .u8 m0, .int .u8 m1, .int .u8 m2, .int .u8 m3, .int .u8 m4, .int .u8 m5, .int .u8 m6, .int .u8 m7], .rw⟩ := by subst e1; exact g4
  have hza : ∀ a : Blk, (s.push a).size = s.size + 1 := fun a => by simp
  have hzb : ∀ a b : Blk, ((s.push a).push b).size = s.size + 2 := fun a b => by simp
  have hzc : ∀ a b c : Blk, (((s.push a).push b).push c).size = s.size + 3 := fun a b c => by simp
  have hzd : ∀ a b c d : Blk, ((((s.push a).push b).push c).push d).size = s.size + 4 := fun a b c d => by simp
  rw [hzd, hzc, hzb, hza]
  clear e1
  have hm := hm0.old ho1
  have hR := Row.old ho1 hR0
  refine Wc.assoc ?_
  refine Wc.region ?_
  refine Wk.c rfl rfl rfl (Ck.call rfl rfl) ((c4 hal).mono ?_)
  rintro r tA ⟨rfl, rfl⟩
  refine Wk.q rfl rfl rfl (Qk.assign rfl) ?_
  refine Wk.next ?_
  refine Wc.assoc ?_
  refine Wc.assoc ?_
  refine Wc.region ?_
  refine Wk.q rfl rfl rfl (Qk.move rfl) ?_
  refine Wk.q rfl rfl rfl (Qk.not rfl) ?_
  refine Wk.q rfl rfl rfl (Qk.move rfl) ?_
  refine Wk.q rfl rfl rfl (Qk.fa rfl fd24_0) ?_
  refine Wk.r rfl rfl rfl (Rk.cell rfl sh22 (by first | assumption | repeat (first | exact gnew | exact gsetn gnew | assumption | exact gsetn (by assumption) | exact gsetn (gset (by assumption) (by omega)) | refine gpush ?_ | refine gset ?_ (by first | omega | (simp; done) | (simp; omega)) )) (by simp) rfl) ?_
  refine Wk.q rfl rfl rfl (Qk.lenR rfl rfl rfl hR sl22) ?_
  refine Wk.b rfl rfl rfl (Qk.bin rfl rfl rfl) fun b h58 => ?_
  cases b
  · -- t58 = False
    refine Wk.q rfl rfl rfl (Qk.pickF rfl rfl) ?_
    refine Wk.q rfl rfl rfl (Qk.move rfl) ?_
    refine Wk.r rfl rfl rfl (Rk.cells rfl sh24 (by first | assumption | repeat (first | exact gnew | exact gsetn gnew | assumption | exact gsetn (by assumption) | exact gsetn (gset (by assumption) (by omega)) | refine gpush ?_ | refine gset ?_ (by first | omega | (simp; done) | (simp; omega)) )) (by simp) (by first | (simp; done) | (rw [uc_len]; omega) | exact Nat.le_refl _)) ?_
    refine Wk.c rfl rfl rfl (Ck.call rfl rfl) ((c5 hK hm).mono ?_)
    rintro r t1 ⟨z, rfl, hz, ho2⟩
    replace q5 := ho2.get q5
    replace q6 := ho2.get q6
    replace q7 := ho2.get q7
    replace q8 := ho2.get q8
    replace q9 := ho2.get q9
    replace hm := hm.old ho2
    replace hR := Row.old ho2 hR
    refine Wk.b rfl rfl rfl (Qk.bin rfl rfl rfl) fun b h63 => ?_
    cases b
    · -- t63 = False
      have hz0 : z = 0 := by simpa using h63
      obtain ⟨hB, hr⟩ := hz hz0
      have hm6 := hB.most
      have hn1 := hB.pos
      refine Wk.q rfl rfl rfl (Qk.pickF rfl rfl) ?_
      refine Wk.next ?_
      refine Wc.condF rfl ?_
      refine Wc.skip ?_
      refine Wc.assoc ?_
      refine Wc.drawE0 rfl ?_
      refine We.q rfl rfl rfl (Qk.fa rfl fd24_0) ?_
      refine We.cell rfl rfl rfl rfl rfl sh22 (by first | assumption | repeat (first | exact gnew | exact gsetn gnew | assumption | exact gsetn (by assumption) | exact gsetn (gset (by assumption) (by omega)) | refine gpush ?_ | refine gset ?_ (by first | omega | (simp; done) | (simp; omega)) )) (by simp) rfl (by first | assumption | simp [same, ssame]) (by repeat' (first | exact trivial | exact Or.inl rfl | apply And.intro | (refine Or.inr ?_; assumption) | (refine Or.inr ?_; exact gset (by assumption) (by omega)) | (refine Or.inr ⟨_, _, (by first | assumption | repeat (first | exact gnew | exact gsetn gnew | assumption | exact gsetn (by assumption) | exact gsetn (gset (by assumption) (by omega)) | refine gpush ?_ | refine gset ?_ (by first | omega | (simp; done) | (simp; omega)) )), (by simp), rfl⟩))) ?_
      refine We.q rfl rfl rfl (Qk.lenR rfl rfl rfl hR sl22) ?_
      refine We.cells rfl rfl rfl rfl rfl sh26 (by first | assumption | repeat (first | exact gnew | exact gsetn gnew | assumption | exact gsetn (by assumption) | exact gsetn (gset (by assumption) (by omega)) | refine gpush ?_ | refine gset ?_ (by first | omega | (simp; done) | (simp; omega)) )) (by simp) (by first | (simp; done) | (rw [uc_len]; omega) | exact Nat.le_refl _) (by first | assumption | simp [sames, same, ssame]) (by repeat' (first | exact trivial | exact Or.inl rfl | apply And.intro | (refine Or.inr ?_; assumption) | (refine Or.inr ?_; exact gset (by assumption) (by omega)) | (refine Or.inr ⟨_, _, (by first | assumption | repeat (first | exact gnew | exact gsetn gnew | assumption | exact gsetn (by assumption) | exact gsetn (gset (by assumption) (by omega)) | refine gpush ?_ | refine gset ?_ (by first | omega | (simp; done) | (simp; omega)) )), (by simp), rfl⟩))) ?_
      refine We.c rfl rfl rfl (Ck.call rfl rfl) (by repeat' (first | exact trivial | exact Or.inl rfl | apply And.intro | (refine Or.inr ?_; assumption) | (refine Or.inr ?_; exact gset (by assumption) (by omega)) | (refine Or.inr ⟨_, _, (by first | assumption | repeat (first | exact gnew | exact gsetn gnew | assumption | exact gsetn (by assumption) | exact gsetn (gset (by assumption) (by omega)) | refine gpush ?_ | refine gset ?_ (by first | omega | (simp; done) | (simp; omega)) )), (by simp), rfl⟩))) ((Go.Proofs.Ytfgnjndicidpkaa.c6 hK (n := M.length) (l8 := [l0, l1, l2, l3, l4, l5, l6, l7]) ⟨hn1, hm6⟩ hl8).mono ?_)
      rintro wv t2 ⟨who, _, bow, rfl, hgw, _, hP, ho3⟩
      have hwho := hgw.irow
      have q5 := ho3.get q5
      have q6 := ho3.get q6
      have q7 := ho3.get q7
      have q8 := ho3.get q8
      have q9 := ho3.get q9
      have hm := hm.old ho3
      have hR := Row.old ho3 hR
      refine ⟨(by repeat' (first | exact trivial | exact Or.inl rfl | apply And.intro | (refine Or.inr ?_; assumption) | (refine Or.inr ?_; exact gset (by assumption) (by omega)) | (refine Or.inr ⟨_, _, (by first | assumption | repeat (first | exact gnew | exact gsetn gnew | assumption | exact gsetn (by assumption) | exact gsetn (gset (by assumption) (by omega)) | refine gpush ?_ | refine gset ?_ (by first | omega | (simp; done) | (simp; omega)) )), (by simp), rfl⟩))), ?_⟩
      refine We.q rfl rfl rfl (Qk.fa rfl fd24_0) ?_
      refine We.cell rfl rfl rfl rfl rfl sh22 (by first | assumption | repeat (first | exact gnew | exact gsetn gnew | assumption | exact gsetn (by assumption) | exact gsetn (gset (by assumption) (by omega)) | refine gpush ?_ | refine gset ?_ (by first | omega | (simp; done) | (simp; omega)) )) (by simp) rfl (by first | assumption | simp [same, ssame]) (by repeat' (first | exact trivial | exact Or.inl rfl | apply And.intro | (refine Or.inr ?_; assumption) | (refine Or.inr ?_; exact gset (by assumption) (by omega)) | (refine Or.inr ⟨_, _, (by first | assumption | repeat (first | exact gnew | exact gsetn gnew | assumption | exact gsetn (by assumption) | exact gsetn (gset (by assumption) (by omega)) | refine gpush ?_ | refine gset ?_ (by first | omega | (simp; done) | (simp; omega)) )), (by simp), rfl⟩))) ?_
      refine We.q rfl rfl rfl (Qk.lenR rfl rfl rfl hR sl22) ?_
      refine We.cells rfl rfl rfl rfl rfl sh26 (by first | assumption | repeat (first | exact gnew | exact gsetn gnew | assumption | exact gsetn (by assumption) | exact gsetn (gset (by assumption) (by omega)) | refine gpush ?_ | refine gset ?_ (by first | omega | (simp; done) | (simp; omega)) )) (by simp) (by first | (simp; done) | (rw [uc_len]; omega) | exact Nat.le_refl _) (by first | assumption | simp [sames, same, ssame]) (by repeat' (first | exact trivial | exact Or.inl rfl | apply And.intro | (refine Or.inr ?_; assumption) | (refine Or.inr ?_; exact gset (by assumption) (by omega)) | (refine Or.inr ⟨_, _, (by first | assumption | repeat (first | exact gnew | exact gsetn gnew | assumption | exact gsetn (by assumption) | exact gsetn (gset (by assumption) (by omega)) | refine gpush ?_ | refine gset ?_ (by first | omega | (simp; done) | (simp; omega)) )), (by simp), rfl⟩))) ?_
      refine We.c rfl rfl rfl (Ck.call rfl rfl) (by repeat' (first | exact trivial | exact Or.inl rfl | apply And.intro | (refine Or.inr ?_; assumption) | (refine Or.inr ?_; exact gset (by assumption) (by omega)) | (refine Or.inr ⟨_, _, (by first | assumption | repeat (first | exact gnew | exact gsetn gnew | assumption | exact gsetn (by assumption) | exact gsetn (gset (by assumption) (by omega)) | refine gpush ?_ | refine gset ?_ (by first | omega | (simp; done) | (simp; omega)) )), (by simp), rfl⟩))) ((Go.Proofs.Ytfgnjndicidpkaa.c6 hK (n := M.length) (l8 := [m0, m1, m2, m3, m4, m5, m6, m7]) ⟨hn1, hm6⟩ hm8).mono ?_)
      rintro hv t3 ⟨what, _, boh, rfl, hgh, _, hQ, ho4⟩
      have q5 := ho4.get q5
      have q6 := ho4.get q6
      have q7 := ho4.get q7
      have q8 := ho4.get q8
      have q9 := ho4.get q9
      have hm := hm.old ho4
      have hR := Row.old ho4 hR
      have hwho := hwho.old ho4
      have hwhat := hgh.irow
      refine ⟨(by repeat' (first | exact trivial | exact Or.inl rfl | apply And.intro | (refine Or.inr ?_; assumption) | (refine Or.inr ?_; exact gset (by assumption) (by omega)) | (refine Or.inr ⟨_, _, (by first | assumption | repeat (first | exact gnew | exact gsetn gnew | assumption | exact gsetn (by assumption) | exact gsetn (gset (by assumption) (by omega)) | refine gpush ?_ | refine gset ?_ (by first | omega | (simp; done) | (simp; omega)) )), (by simp), rfl⟩))), ?_⟩
      refine We.q rfl rfl rfl (Qk.assign rfl) ?_
      refine We.q rfl rfl rfl (Qk.assign rfl) ?_
      refine We.next ?_
      refine Wc.assoc ?_
      refine Wc.region ?_
      refine Wk.r rfl rfl rfl (Rk.cells rfl sh24 (by first | assumption | repeat (first | exact gnew | exact gsetn gnew | assumption | exact gsetn (by assumption) | exact gsetn (gset (by assumption) (by omega)) | refine gpush ?_ | refine gset ?_ (by first | omega | (simp; done) | (simp; omega)) )) (by simp) (by first | (simp; done) | (rw [uc_len]; omega) | exact Nat.le_refl _)) ?_
      refine Wk.r rfl rfl rfl (Rk.eqv (u := .agg (uc c6).toArray) (Rk.cells rfl sh25 (by first | assumption | repeat (first | exact gnew | exact gsetn gnew | assumption | exact gsetn (by assumption) | exact gsetn (gset (by assumption) (by omega)) | refine gpush ?_ | refine gset ?_ (by first | omega | (simp; done) | (simp; omega)) )) (by simp) (by first | (simp; done) | (rw [uc_len]; omega) | exact Nat.le_refl _)) (uc_all hc6.1)) ?_
      refine Wk.r rfl rfl rfl (Rk.eqv (u := .agg (uc d6).toArray) (Rk.cells rfl sh25 (by first | assumption | repeat (first | exact gnew | exact gsetn gnew | assumption | exact gsetn (by assumption) | exact gsetn (gset (by assumption) (by omega)) | refine gpush ?_ | refine gset ?_ (by first | omega | (simp; done) | (simp; omega)) )) (by simp) (by first | (simp; done) | (rw [uc_len]; omega) | exact Nat.le_refl _)) (uc_all hd6.1)) ?_
      refine Wk.q rfl rfl rfl (Qk.move rfl) ?_
      refine Wk.q rfl rfl rfl (Qk.move rfl) ?_
      refine Wk.c rfl rfl rfl (Ck.call rfl rfl) ((c7 hK hm hB hr hc6 hd6 hwho hwhat hP hQ).mono ?_)
      rintro r t4 ⟨H, hov, rfl, hmH, hHl, hHsq, hHv, ho5⟩
      obtain ⟨rvh, hRH, hrowH⟩ := id hmH
      rw [hHl] at hRH
      obtain ⟨ahv, caph, rfl, _⟩ := id hRH
      replace q5 := ho5.get q5
      replace q6 := ho5.get q6
      replace q7 := ho5.get q7
      replace q8 := ho5.get q8
      replace q9 := ho5.get q9
      replace hm := hm.old ho5
      replace hR := Row.old ho5 hR
      replace hwho := hwho.old ho5
      replace hwhat := hwhat.old ho5
      refine Wk.q rfl rfl rfl (Qk.move rfl) ?_
      refine Wk.q rfl rfl rfl (Qk.extract rfl rfl) ?_
      refine Wk.q rfl rfl rfl (Qk.extract rfl rfl) ?_
      refine Wk.f rfl rfl rfl (Fk.alloc ze24) ?_
      refine Wk.h rfl rfl rfl (Hk.whole rfl rfl sh24 (by first | assumption | repeat (first | exact gnew | exact gsetn gnew | assumption | exact gsetn (by assumption) | exact gsetn (gset (by assumption) (by omega)) | refine gpush ?_ | refine gset ?_ (by first | omega | (simp; done) | (simp; omega)) )) rfl rfl (by first | rfl | (show (true && (Abs.scalar _ && true)) = true; rw [Bool.true_and, Bool.and_true]; assumption))) ?_
      refine Wk.q rfl rfl rfl (Qk.assign rfl) ?_
      refine Wk.next ?_
      refine Wc.store fun s2 e2 => ?_
      have ho6 : Old t4 s2 := by subst e2; exact (Old.push _ _).gset (Nat.le_refl _)
      replace q5 := ho6.get q5
      replace q6 := ho6.get q6
      replace q7 := ho6.get q7
      replace q8 := ho6.get q8
      replace q9 := ho6.get q9
      replace hm := hm.old ho6
      replace hR := Row.old ho6 hR
      replace hwho := hwho.old ho6
      replace hwhat := hwhat.old ho6
      replace hmH := hmH.old ho6
      replace hRH := Row.old ho6 hRH
      have q14 : s2.get t4.size = some ⟨[.slice ahv M.length caph, .int .i64 (rent + Sm M.length (fun x => d6.getD x 0))], .rw⟩ := by subst e2; exact gsetn gnew
      clear e2
      refine Wc.assoc ?_
      refine Wc.region ?_
      refine Wk.r rfl rfl rfl (Rk.cells rfl sh24 (by first | assumption | repeat (first | exact gnew | exact gsetn gnew | assumption | exact gsetn (by assumption) | exact gsetn (gset (by assumption) (by omega)) | refine gpush ?_ | refine gset ?_ (by first | omega | (simp; done) | (simp; omega)) )) (by simp) (by first | (simp; done) | (rw [uc_len]; omega) | exact Nat.le_refl _)) ?_
      refine Wk.q rfl rfl rfl (Qk.iaA rfl rfl ar25 (by constructor <;> omega)) ?_
      refine Wk.r rfl rfl rfl (Rk.cell rfl sh5 (by first | assumption | repeat (first | exact gnew | exact gsetn gnew | assumption | exact gsetn (by assumption) | exact gsetn (gset (by assumption) (by omega)) | refine gpush ?_ | refine gset ?_ (by first | omega | (simp; done) | (simp; omega)) )) (by simp) (uc_at (i := 0) (by omega))) ?_
      refine Wk.q rfl rfl rfl (Qk.iaA rfl rfl ar25 (by constructor <;> omega)) ?_
      refine Wk.r rfl rfl rfl (Rk.cell rfl sh5 (by first | assumption | repeat (first | exact gnew | exact gsetn gnew | assumption | exact gsetn (by assumption) | exact gsetn (gset (by assumption) (by omega)) | refine gpush ?_ | refine gset ?_ (by first | omega | (simp; done) | (simp; omega)) )) (by simp) (uc_at (i := 0) (by omega))) ?_
      refine Wk.q rfl rfl rfl (Qk.iaA rfl rfl ar25 (by constructor <;> omega)) ?_
      refine Wk.r rfl rfl rfl (Rk.cell rfl sh5 (by first | assumption | repeat (first | exact gnew | exact gsetn gnew | assumption | exact gsetn (by assumption) | exact gsetn (gset (by assumption) (by omega)) | refine gpush ?_ | refine gset ?_ (by first | omega | (simp; done) | (simp; omega)) )) (by simp) (uc_at (i := 0) (by omega))) ?_
      refine Wk.q rfl rfl rfl (Qk.iaA rfl rfl ar25 (by constructor <;> omega)) ?_
      refine Wk.r rfl rfl rfl (Rk.cell rfl sh5 (by first | assumption | repeat (first | exact gnew | exact gsetn gnew | assumption | exact gsetn (by assumption) | exact gsetn (gset (by assumption) (by omega)) | refine gpush ?_ | refine gset ?_ (by first | omega | (simp; done) | (simp; omega)) )) (by simp) (uc_at (i := 0) (by omega))) ?_
      refine Wk.q rfl rfl rfl (Qk.iaA rfl rfl ar25 (by constructor <;> omega)) ?_
      refine Wk.r rfl rfl rfl (Rk.cell rfl sh5 (by first | assumption | repeat (first | exact gnew | exact gsetn gnew | assumption | exact gsetn (by assumption) | exact gsetn (gset (by assumption) (by omega)) | refine gpush ?_ | refine gset ?_ (by first | omega | (simp; done) | (simp; omega)) )) (by simp) (uc_at (i := 0) (by omega))) ?_
      refine Wk.q rfl rfl rfl (Qk.iaA rfl rfl ar25 (by constructor <;> omega)) ?_
      refine Wk.r rfl rfl rfl (Rk.cell rfl sh5 (by first | assumption | repeat (first | exact gnew | exact gsetn gnew | assumption | exact gsetn (by assumption) | exact gsetn (gset (by assumption) (by omega)) | refine gpush ?_ | refine gset ?_ (by first | omega | (simp; done) | (simp; omega)) )) (by simp) (uc_at (i := 0) (by omega))) ?_
      refine Wk.q rfl rfl rfl (Qk.build rfl build25) ?_
      refine Wk.r rfl rfl rfl (Rk.eqv (u := .agg (uc d6).toArray) (Rk.cells rfl sh25 (by first | assumption | repeat (first | exact gnew | exact gsetn gnew | assumption | exact gsetn (by assumption) | exact gsetn (gset (by assumption) (by omega)) | refine gpush ?_ | refine gset ?_ (by first | omega | (simp; done) | (simp; omega)) )) (by simp) (by first | (simp; done) | (rw [uc_len]; omega) | exact Nat.le_refl _)) (uc_all hd6.1)) ?_
      refine Wk.q rfl rfl rfl (Qk.move rfl) ?_
      refine Wk.q rfl rfl rfl (Qk.move rfl) ?_
      refine Wk.c rfl rfl rfl (Ck.call rfl rfl) ((c7 hK hm hB hr (c6 := List.replicate 6 (c6.getD 0 0)) hc0 hd6 hwho hwhat hP hQ).mono ?_)
      rintro r t5 ⟨U, uov, rfl, hmU, hUl, hUsq, hUv, ho7⟩
      obtain ⟨rvu, hRU, hrowU⟩ := id hmU
      rw [hUl] at hRU
      obtain ⟨auv, capu, rfl, _⟩ := id hRU
      replace q5 := ho7.get q5
      replace q6 := ho7.get q6
      replace q7 := ho7.get q7
      replace q8 := ho7.get q8
      replace q9 := ho7.get q9
      replace q14 := ho7.get q14
      replace hm := hm.old ho7
      replace hR := Row.old ho7 hR
      replace hwho := hwho.old ho7
      replace hwhat := hwhat.old ho7
      replace hmH := hmH.old ho7
      replace hRH := Row.old ho7 hRH
      refine Wk.q rfl rfl rfl (Qk.move rfl) ?_
      refine Wk.q rfl rfl rfl (Qk.extract rfl rfl) ?_
      refine Wk.q rfl rfl rfl (Qk.extract rfl rfl) ?_
      refine Wk.f rfl rfl rfl (Fk.alloc ze24) ?_
      refine Wk.h rfl rfl rfl (Hk.whole rfl rfl sh24 (by first | assumption | repeat (first | exact gnew | exact gsetn gnew | assumption | exact gsetn (by assumption) | exact gsetn (gset (by assumption) (by omega)) | refine gpush ?_ | refine gset ?_ (by first | omega | (simp; done) | (simp; omega)) )) rfl rfl (by first | rfl | (show (true && (Abs.scalar _ && true)) = true; rw [Bool.true_and, Bool.and_true]; assumption))) ?_
      refine Wk.q rfl rfl rfl (Qk.assign rfl) ?_
      refine Wk.next ?_
      refine Wc.store fun s3 e3 => ?_
      have ho8 : Old t5 s3 := by subst e3; exact (Old.push _ _).gset (Nat.le_refl _)
      replace q5 := ho8.get q5
      replace q6 := ho8.get q6
      replace q7 := ho8.get q7
      replace q8 := ho8.get q8
      replace q9 := ho8.get q9
      replace q14 := ho8.get q14
      replace hm := hm.old ho8
      replace hR := Row.old ho8 hR
      replace hwho := hwho.old ho8
      replace hwhat := hwhat.old ho8
      replace hmH := hmH.old ho8
      replace hRH := Row.old ho8 hRH
      replace hmU := hmU.old ho8
      have q16 : s3.get t5.size = some ⟨[.slice auv M.length capu, .int .i64 (rent + Sm M.length (fun x => d6.getD x 0))], .rw⟩ := by subst e3; exact gsetn gnew
      clear e3
      refine Wc.assoc ?_
      refine Wc.assoc ?_
      refine Wc.region ?_
      refine Wk.r rfl rfl rfl (Rk.cells rfl sh24 (by first | assumption | repeat (first | exact gnew | exact gsetn gnew | assumption | exact gsetn (by assumption) | exact gsetn (gset (by assumption) (by omega)) | refine gpush ?_ | refine gset ?_ (by first | omega | (simp; done) | (simp; omega)) )) (by simp) (by first | (simp; done) | (rw [uc_len]; omega) | exact Nat.le_refl _)) ?_
      refine Wk.c rfl rfl rfl (Ck.call rfl rfl) ((c5 hK hmH).mono ?_)
      rintro r t6 ⟨z1, rfl, hz1, ho9⟩
      replace q5 := ho9.get q5
      replace q6 := ho9.get q6
      replace q7 := ho9.get q7
      replace q8 := ho9.get q8
      replace q9 := ho9.get q9
      replace q14 := ho9.get q14
      replace q16 := ho9.get q16
      replace hm := hm.old ho9
      replace hR := Row.old ho9 hR
      replace hwho := hwho.old ho9
      replace hwhat := hwhat.old ho9
      replace hmH := hmH.old ho9
      replace hRH := Row.old ho9 hRH
      replace hmU := hmU.old ho9
      refine Wk.b rfl rfl rfl (Qk.bin rfl rfl rfl) fun b h108 => ?_
      cases b
      · -- t108 = False
        have hz10 : z1 = 0 := by simpa using h108
        obtain ⟨hBH, hrH⟩ := hz1 hz10
        refine Wk.q rfl rfl rfl (Qk.move rfl) ?_
        refine Wk.r rfl rfl rfl (Rk.cells rfl sh24 (by first | assumption | repeat (first | exact gnew | exact gsetn gnew | assumption | exact gsetn (by assumption) | exact gsetn (gset (by assumption) (by omega)) | refine gpush ?_ | refine gset ?_ (by first | omega | (simp; done) | (simp; omega)) )) (by simp) (by first | (simp; done) | (rw [uc_len]; omega) | exact Nat.le_refl _)) ?_
        refine Wk.c rfl rfl rfl (Ck.call rfl rfl) ((c5 hK hmU).mono ?_)
        rintro r t7 ⟨z2, rfl, hz2, ho10⟩
        replace q5 := ho10.get q5
        replace q6 := ho10.get q6
        replace q7 := ho10.get q7
        replace q8 := ho10.get q8
        replace q9 := ho10.get q9
        replace q14 := ho10.get q14
        replace q16 := ho10.get q16
        replace hm := hm.old ho10
        replace hR := Row.old ho10 hR
        replace hwho := hwho.old ho10
        replace hwhat := hwhat.old ho10
        replace hmH := hmH.old ho10
        replace hRH := Row.old ho10 hRH
        replace hmU := hmU.old ho10
        refine Wk.b rfl rfl rfl (Qk.bin rfl rfl rfl) fun b h112 => ?_
        cases b
        · -- t112 = False
          have hz20 : z2 = 0 := by simpa using h112
          obtain ⟨hBU, hrU⟩ := hz2 hz20
          have hSH : Shift M.length (matM M) (matM H) (fun x => c6.getD x 0) (fun x => d6.getD x 0) (asgOf who) (asgOf what) := ⟨hP.asg, hQ.asg, hHv⟩
          have hc00 : ∀ x, x < M.length → (List.replicate 6 (c6.getD 0 0)).getD x 0 = c6.getD 0 0 := fun x hx => rep6 (by omega)
          have hSU : Shift M.length (matM M) (matM U) (fun x => (List.replicate 6 (c6.getD 0 0)).getD x 0) (fun x => d6.getD x 0) (asgOf who) (asgOf what) := ⟨hP.asg, hQ.asg, hUv⟩
          refine Wk.q rfl rfl rfl (Qk.pickF rfl rfl) ?_
          refine Wk.next ?_
          refine Wc.condF rfl ?_
          refine Wc.skip ?_
          refine Wc.assoc ?_
          refine Wc.region ?_
          refine Wk.q rfl rfl rfl (Qk.fa rfl fd24_0) ?_
          refine Wk.r rfl rfl rfl (Rk.cell rfl sh22 (by first | assumption | repeat (first | exact gnew | exact gsetn gnew | assumption | exact gsetn (by assumption) | exact gsetn (gset (by assumption) (by omega)) | refine gpush ?_ | refine gset ?_ (by first | omega | (simp; done) | (simp; omega)) )) (by simp) rfl) ?_
          refine Wk.c rfl rfl rfl (Ck.call rfl rfl) ((c8 hK hB hm).mono ?_)
          rintro r t8 ⟨a, av2, ca, rfl, hown, hca, hA, hO, ho11⟩
          obtain ⟨capa, mda, csa, rfl, _⟩ := id hown
          replace q5 := ho11.get q5
          replace q6 := ho11.get q6
          replace q7 := ho11.get q7
          replace q8 := ho11.get q8
          replace q9 := ho11.get q9
          replace q14 := ho11.get q14
          replace q16 := ho11.get q16
          replace hm := hm.old ho11
          replace hR := Row.old ho11 hR
          replace hwho := hwho.old ho11
          replace hwhat := hwhat.old ho11
          replace hmH := hmH.old ho11
          replace hRH := Row.old ho11 hRH
          replace hmU := hmU.old ho11
          have ha := hown.irow
          refine Wk.q rfl rfl rfl (Qk.move rfl) ?_
          refine Wk.q rfl rfl rfl (Qk.extract rfl rfl) ?_
          refine Wk.q rfl rfl rfl (Qk.extract rfl rfl) ?_
          refine Wk.q rfl rfl rfl (Qk.extract rfl rfl) ?_
          refine Wk.q rfl rfl rfl (Qk.assign rfl) ?_
          refine Wk.q rfl rfl rfl (Qk.assign rfl) ?_
          refine Wk.q rfl rfl rfl (Qk.assign rfl) ?_
          refine Wk.next ?_
          refine Wc.assoc ?_
          refine Wc.region ?_
          refine Wk.q rfl rfl rfl (Qk.fa rfl fd24_0) ?_
          refine Wk.r rfl rfl rfl (Rk.cell rfl sh22 (by first | assumption | repeat (first | exact gnew | exact gsetn gnew | assumption | exact gsetn (by assumption) | exact gsetn (gset (by assumption) (by omega)) | refine gpush ?_ | refine gset ?_ (by first | omega | (simp; done) | (simp; omega)) )) (by simp) rfl) ?_
          refine Wk.c rfl rfl rfl (Ck.call rfl rfl) ((c8 hK hBH hmH).mono ?_)
          rintro r t9 ⟨b0, bv0, cb0, rfl, hown0, hcb0, hA0, hO0, ho12⟩
          obtain ⟨capb, mdb, csb, rfl, _⟩ := id hown0
          replace q5 := ho12.get q5
          replace q6 := ho12.get q6
          replace q7 := ho12.get q7
          replace q8 := ho12.get q8
          replace q9 := ho12.get q9
          replace q14 := ho12.get q14
          replace q16 := ho12.get q16
          replace hm := hm.old ho12
          replace hR := Row.old ho12 hR
          replace hwho := hwho.old ho12
          replace hwhat := hwhat.old ho12
          replace hmH := hmH.old ho12
          replace hRH := Row.old ho12 hRH
          replace hmU := hmU.old ho12
          replace ha := ha.old ho12
          
          have hvb : 0 ≤ valOf M.length (matM M) (asgOf a) ∧ valOf M.length (matM M) (asgOf a) ≤ M.length * 1000000 := Sm.bd (g := fun i => matM M i (asgOf a i)) fun i hi => hB.range i _ hi (hA.asg.lt i hi)
          have hcb : ∀ x, x < M.length → 0 ≤ c6.getD x 0 ∧ c6.getD x 0 ≤ 255 := fun x hx => hc6.2 x (by omega)
          have hdb : ∀ x, x < M.length → 0 ≤ d6.getD x 0 ∧ d6.getD x 0 ≤ 255 := fun x hx => hd6.2 x (by omega)
          have hsb := Sm.bdg (n := M.length) (g := fun x => c6.getD x 0 + d6.getD x 0) (B := 510) fun x hx => by have h1 := hcb x hx; have h2 := hdb x hx; omega
          have hwl := hP.1
          have hhl := hQ.1
          have hal2 := hA.len
          have hO0' : Opt M.length (matM H) (asgOf b0) := hHl ▸ hO0
          have hvH : valOf H.length (matM H) (asgOf b0) = valOf M.length (matM M) (asgOf a) + Sm M.length (fun x => c6.getD x 0 + d6.getD x 0) := by
            rw [hHl, law_val hSH hO hO0', ← Sm.add]
          refine Wk.q rfl rfl rfl (Qk.move rfl) ?_
          refine Wk.q rfl rfl rfl (Qk.extract rfl rfl) ?_
          refine Wk.q rfl rfl rfl (Qk.extract rfl rfl) ?_
          refine Wk.q rfl rfl rfl (Qk.extract rfl rfl) ?_
          refine Wk.q rfl rfl rfl (Qk.assign rfl) ?_
          refine Wk.q rfl rfl rfl (Qk.assign rfl) ?_
          refine Wk.q rfl rfl rfl (Qk.assign rfl) ?_
          refine Wk.next ?_
          refine Wc.assoc ?_
          refine Wc.assoc ?_
          refine Wc.region ?_
          refine Wk.q rfl rfl rfl (Qk.move rfl) ?_
          refine Wk.b rfl rfl rfl (Qk.bin rfl rfl rfl) fun b h130 => ?_
          obtain rfl : b = false := by exact h130.symm -- t130
          refine Wk.q rfl rfl rfl (Qk.move rfl) ?_
          refine Wk.q rfl rfl rfl (Qk.move rfl) ?_
          refine Wk.b rfl rfl rfl (Qk.bin rfl rfl rfl) fun b h133 => ?_
          obtain rfl : b = false := by exact h133.symm -- t133
          refine Wk.q rfl rfl rfl (Qk.pickF rfl rfl) ?_
          refine Wk.q rfl rfl rfl (Qk.move rfl) ?_
          refine Wk.q rfl rfl rfl (Qk.move rfl) ?_
          refine Wk.q rfl rfl rfl (Qk.move rfl) ?_
          refine Wk.q rfl rfl rfl (Qk.move rfl) ?_
          refine Wk.q rfl rfl rfl (Qk.add rfl rfl (by omega)) ?_
          refine Wk.b rfl rfl rfl (Qk.bin rfl rfl rfl) fun b h140 => ?_
          obtain rfl : b = false := by rw [← h140, hvH]; simp -- t140
          refine Wk.q rfl rfl rfl (Qk.pickF rfl rfl) ?_
          refine Wk.q rfl rfl rfl (Qk.move rfl) ?_
          refine Wk.q rfl rfl rfl (Qk.move rfl) ?_
          refine Wk.q rfl rfl rfl (Qk.lenR rfl rfl rfl ha sl29) ?_
          refine Wk.q rfl rfl rfl (Qk.move rfl) ?_
          refine Wk.q rfl rfl rfl (Qk.lenR rfl rfl rfl hwho sl29) ?_
          refine Wk.b rfl rfl rfl (Qk.bin rfl rfl rfl) fun b h147 => ?_
          obtain rfl : b = false := by rw [← h147]; simp [hA.len, hP.1] -- t147
          refine Wk.q rfl rfl rfl (Qk.pickF rfl rfl) ?_
          refine Wk.next ?_
          refine Wc.condF rfl ?_
          refine Wc.skip ?_
          refine Wc.assoc ?_
          refine Wc.region ?_
          refine Wk.q rfl rfl rfl (Qk.move rfl) ?_
          refine Wk.q rfl rfl rfl (Qk.lenR rfl rfl rfl hwho sl29) ?_
          refine Wk.f rfl rfl rfl (Fk.ints rfl rfl sl29 ze3 (by omega)) ?_
          refine Wk.q rfl rfl rfl (Qk.assign rfl) ?_
          refine Wk.next ?_
          refine Wc.store fun s4 e4 => ?_
          have ho13 : Old t9 s4 := by subst e4; exact Old.push _ _
          have q24 : s4.get t9.size = some ⟨ic (List.replicate who.length 0), .rw⟩ := by subst e4; exact gnew
          clear e4
          refine Wc.assoc ?_
          refine Wc.assoc ?_
          refine Wc.region ?_
          refine Wk.q rfl rfl rfl (Qk.move rfl) ?_
          refine Wk.q rfl rfl rfl (Qk.lenR rfl rfl rfl ha sl29) ?_
          refine Wk.q rfl rfl rfl (Qk.move rfl) ?_
          refine Wk.next ?_
          refine Wc.block ?_
          refine Wc.loop (σ := Nat × List Int × St) (fun y => y.1 ≤ M.length ∧ y.2.1.length = M.length ∧ Old t9 y.2.2 ∧ y.2.2.get t9.size = some ⟨ic y.2.1, .rw⟩ ∧ ∀ k, k < y.1 → y.2.1.getD (asgOf who k) 0 = (asgOf what (asgOf a k) : Nat))
            (fun y => [(5, .pointer (some ⟨s.size, 0, none⟩)), (6, .pointer (some ⟨s.size + 1, 0, none⟩)), (7, .pointer (some ⟨s.size + 2, 0, none⟩)), (12, wv), (13, hv), (14, .pointer (some ⟨t4.size, 0, none⟩)), (16, .pointer (some ⟨t5.size, 0, none⟩)), (18, .slice (some ⟨ca, 0, none⟩) a.length capa), (22, .int .i64 (valOf H.length (matM H) (asgOf b0))), (24, .slice (some ⟨t9.size, 0, none⟩) who.length who.length), (152, .slice (some ⟨ca, 0, none⟩) a.length capa), (153, goInt a.length), (154, .int .i64 y.1)]) (fun y => y.2.2) (fun y => M.length - y.1) (0, List.replicate who.length 0, s4)
            ⟨Nat.zero_le _, by simp [hwl], ho13, q24, fun k hk => absurd hk (Nat.not_lt_zero _)⟩ ⟨rfl, rfl, rfl, rfl, rfl, rfl, rfl, rfl, rfl, rfl, rfl, rfl, rfl, trivial⟩ rfl ?_
          clear ho13 q24
          rintro ⟨i, bl, sl⟩ ⟨hi, hbl, hosl, q24, hblv⟩
          dsimp only at hi hbl hosl q24 hblv ⊢
          refine Wc.assoc ?_
          refine Wc.region ?_
          refine Wk.b rfl rfl rfl (Qk.bin rfl rfl rfl) fun b h155 => ?_
          cases b
          · -- t155 = False
            have hge : i = M.length := by
              have : ¬ ((i : Int) < (a.length : Int)) := of_decide_eq_false h155
              omega
            subst hge
            replace q5 := hosl.get q5
            replace q6 := hosl.get q6
            replace q7 := hosl.get q7
            replace q8 := hosl.get q8
            replace q9 := hosl.get q9
            replace q14 := hosl.get q14
            replace q16 := hosl.get q16
            replace hm := hm.old hosl
            replace hR := Row.old hosl hR
            replace hwho := hwho.old hosl
            replace hwhat := hwhat.old hosl
            replace hmH := hmH.old hosl
            replace hRH := Row.old hosl hRH
            replace hmU := hmU.old hosl
            replace ha := ha.old hosl

            have hblr : IRow sl (.slice (some ⟨t9.size, 0, none⟩) who.length who.length) bl := by
              have := IRow.of_get (cap := who.length) q24 (by simp) (by omega)
              rw [hbl, ← hwl] at this; exact this
            have hcar : carried M.length (asgOf who) (asgOf what) (asgOf a) (asgOf bl) := fun k hk => by
              have := hblv k hk
              unfold asgOf at this ⊢
              omega
            have hAbl : AsgL H.length bl := by
              rw [hHl]
              refine ⟨hbl, fun x hx => ?_, carried_asg hSH hA.asg hcar⟩
              obtain ⟨k, hk, rfl⟩ := hP.asg.onto x hx
              rw [hblv k hk]; omega
            have hObl := carried_opt hSH hO hcar
            have hvbl : valOf H.length (matM H) (asgOf bl) = valOf H.length (matM H) (asgOf b0) := by
              rw [hHl]
              have h1 := hObl.most _ hO0'.asg
              have h2 := hO0'.most _ hObl.asg
              omega
            refine Wk.next ?_
            refine Wc.assoc ?_
            refine Wc.condF rfl ?_
            refine Wc.jump (fun _ _ => rfl) ?_
            refine Wc.assoc ?_
            refine Wc.region ?_
            refine Wk.q rfl rfl rfl (Qk.fa rfl fd24_0) ?_
            refine Wk.r rfl rfl rfl (Rk.cell rfl sh22 (by first | assumption | repeat (first | exact gnew | exact gsetn gnew | assumption | exact gsetn (by assumption) | exact gsetn (gset (by assumption) (by omega)) | refine gpush ?_ | refine gset ?_ (by first | omega | (simp; done) | (simp; omega)) )) (by simp) rfl) ?_
            refine Wk.q rfl rfl rfl (Qk.move rfl) ?_
            refine Wk.c rfl rfl rfl (Ck.call rfl rfl) ((c9 hK hmH hblr hBH hAbl).mono ?_)
            rintro r u1 ⟨rfl, ho14⟩
            replace q5 := ho14.get q5
            replace q6 := ho14.get q6
            replace q7 := ho14.get q7
            replace q8 := ho14.get q8
            replace q9 := ho14.get q9
            replace q14 := ho14.get q14
            replace q16 := ho14.get q16
            replace hm := hm.old ho14
            replace hR := Row.old ho14 hR
            replace hwho := hwho.old ho14
            replace hwhat := hwhat.old ho14
            replace hmH := hmH.old ho14
            replace hRH := Row.old ho14 hRH
            replace hmU := hmU.old ho14
            replace ha := ha.old ho14
            refine Wk.q rfl rfl rfl (Qk.move rfl) ?_
            refine Wk.q rfl rfl rfl (Qk.extract rfl rfl) ?_
            refine Wk.q rfl rfl rfl (Qk.extract rfl rfl) ?_
            refine Wk.q rfl rfl rfl (Qk.assign rfl) ?_
            refine Wk.q rfl rfl rfl (Qk.assign rfl) ?_
            refine Wk.next ?_
            refine Wc.assoc ?_
            refine Wc.region ?_
            refine Wk.r rfl rfl rfl (Rk.cells rfl sh24 (by first | assumption | repeat (first | exact gnew | exact gsetn gnew | assumption | exact gsetn (by assumption) | exact gsetn (gset (by assumption) (by omega)) | refine gpush ?_ | refine gset ?_ (by first | omega | (simp; done) | (simp; omega)) )) (by simp) (by first | (simp; done) | (rw [uc_len]; omega) | exact Nat.le_refl _)) ?_
            refine Wk.c rfl rfl rfl (Ck.call rfl rfl) ((c10 hK hm hB hr).mono ?_)
            rintro r u2 ⟨xv, rfl, hmX, hHO, ho15⟩
            obtain ⟨rvx, hXr, hrowX⟩ := id hmX
            rw [tab_len] at hXr
            obtain ⟨axv, capx, rfl, _⟩ := id hXr
            replace q5 := ho15.get q5
            replace q6 := ho15.get q6
            replace q7 := ho15.get q7
            replace q8 := ho15.get q8
            replace q9 := ho15.get q9
            replace q14 := ho15.get q14
            replace q16 := ho15.get q16
            replace hm := hm.old ho15
            replace hR := Row.old ho15 hR
            replace hwho := hwho.old ho15
            replace hwhat := hwhat.old ho15
            replace hmH := hmH.old ho15
            replace hRH := Row.old ho15 hRH
            replace hmU := hmU.old ho15
            replace ha := ha.old ho15
            refine Wk.q rfl rfl rfl (Qk.move rfl) ?_
            refine Wk.q rfl rfl rfl (Qk.extract rfl rfl) ?_
            refine Wk.q rfl rfl rfl (Qk.extract rfl rfl) ?_
            refine Wk.q rfl rfl rfl (Qk.assign rfl) ?_
            refine Wk.q rfl rfl rfl (Qk.assign rfl) ?_
            refine Wk.next ?_
            refine Wc.assoc ?_
            refine Wc.region ?_
            refine Wk.r rfl rfl rfl (Rk.cells rfl sh24 (by first | assumption | repeat (first | exact gnew | exact gsetn gnew | assumption | exact gsetn (by assumption) | exact gsetn (gset (by assumption) (by omega)) | refine gpush ?_ | refine gset ?_ (by first | omega | (simp; done) | (simp; omega)) )) (by simp) (by first | (simp; done) | (rw [uc_len]; omega) | exact Nat.le_refl _)) ?_
            refine Wk.c rfl rfl rfl (Ck.call rfl rfl) ((c10 hK hmH hBH hrH).mono ?_)
            rintro r u3 ⟨yv, rfl, hmY, hHOH, ho16⟩
            obtain ⟨rvy, hYr, hrowY⟩ := id hmY
            rw [tab_len, hHl] at hYr
            obtain ⟨ayv, capy, rfl, _⟩ := id hYr
            replace q5 := ho16.get q5
            replace q6 := ho16.get q6
            replace q7 := ho16.get q7
            replace q8 := ho16.get q8
            replace q9 := ho16.get q9
            replace q14 := ho16.get q14
            replace q16 := ho16.get q16
            replace hm := hm.old ho16
            replace hR := Row.old ho16 hR
            replace hwho := hwho.old ho16
            replace hwhat := hwhat.old ho16
            replace hmH := hmH.old ho16
            replace hRH := Row.old ho16 hRH
            replace hmU := hmU.old ho16
            replace ha := ha.old ho16
            replace hXr := Row.old ho16 hXr
            
            replace hrowX := fun i hi => (hrowX i hi).old ho16
            simp only [tab_len] at hrowX hrowY
            rw [hHl] at hrowY
            have hlX : ∀ k, k < M.length → (rowM (tab M.length (LK M)) k).length = M.length := fun k hk => by rw [tab_row hk]; simp
            have hlY : ∀ k, k < M.length → (rowM (tab M.length (LK H)) k).length = M.length := fun k hk => by rw [tab_row hk]; simp
            refine Wk.q rfl rfl rfl (Qk.move rfl) ?_
            refine Wk.q rfl rfl rfl (Qk.extract rfl rfl) ?_
            refine Wk.q rfl rfl rfl (Qk.extract rfl rfl) ?_
            refine Wk.q rfl rfl rfl (Qk.assign rfl) ?_
            refine Wk.q rfl rfl rfl (Qk.assign rfl) ?_
            refine Wk.next ?_
            refine Wc.assoc ?_
            refine Wc.assoc ?_
            refine Wc.region ?_
            refine Wk.q rfl rfl rfl (Qk.move rfl) ?_
            refine Wk.b rfl rfl rfl (Qk.bin rfl rfl rfl) fun b h188 => ?_
            obtain rfl : b = false := by exact h188.symm -- t188
            refine Wk.q rfl rfl rfl (Qk.move rfl) ?_
            refine Wk.q rfl rfl rfl (Qk.move rfl) ?_
            refine Wk.b rfl rfl rfl (Qk.bin rfl rfl rfl) fun b h191 => ?_
            obtain rfl : b = false := by exact h191.symm -- t191
            refine Wk.q rfl rfl rfl (Qk.pickF rfl rfl) ?_
            refine Wk.q rfl rfl rfl (Qk.move rfl) ?_
            refine Wk.q rfl rfl rfl (Qk.move rfl) ?_
            refine Wk.b rfl rfl rfl (Qk.bin rfl rfl rfl) fun b h195 => ?_
            obtain rfl : b = false := by exact h195.symm -- t195
            refine Wk.q rfl rfl rfl (Qk.pickF rfl rfl) ?_
            refine Wk.q rfl rfl rfl (Qk.move rfl) ?_
            refine Wk.q rfl rfl rfl (Qk.move rfl) ?_
            refine Wk.q rfl rfl rfl (Qk.move rfl) ?_
            refine Wk.b rfl rfl rfl (Qk.bin rfl rfl rfl) fun b h200 => ?_
            obtain rfl : b = false := by rw [← h200, hvbl]; simp -- t200
            refine Wk.q rfl rfl rfl (Qk.pickF rfl rfl) ?_
            refine Wk.q rfl rfl rfl (Qk.move rfl) ?_
            refine Wk.q rfl rfl rfl (Qk.move rfl) ?_
            refine Wk.q rfl rfl rfl (Qk.lenR rfl rfl rfl hXr sl22) ?_
            refine Wk.q rfl rfl rfl (Qk.move rfl) ?_
            refine Wk.q rfl rfl rfl (Qk.lenR rfl rfl rfl hwho sl29) ?_
            refine Wk.b rfl rfl rfl (Qk.bin rfl rfl rfl) fun b h207 => ?_
            obtain rfl : b = false := by rw [← h207]; simp [hwl] -- t207
            refine Wk.q rfl rfl rfl (Qk.pickF rfl rfl) ?_
            refine Wk.q rfl rfl rfl (Qk.move rfl) ?_
            refine Wk.q rfl rfl rfl (Qk.move rfl) ?_
            refine Wk.q rfl rfl rfl (Qk.lenR rfl rfl rfl hYr sl22) ?_
            refine Wk.q rfl rfl rfl (Qk.move rfl) ?_
            refine Wk.q rfl rfl rfl (Qk.lenR rfl rfl rfl hwho sl29) ?_
            refine Wk.b rfl rfl rfl (Qk.bin rfl rfl rfl) fun b h214 => ?_
            obtain rfl : b = false := by rw [← h214]; simp [hwl] -- t214
            refine Wk.q rfl rfl rfl (Qk.pickF rfl rfl) ?_
            refine Wk.next ?_
            refine Wc.condF rfl ?_
            refine Wc.skip ?_
            refine Wc.assoc ?_
            refine Wc.assoc ?_
            refine Wc.region ?_
            refine Wk.q rfl rfl rfl (Qk.move rfl) ?_
            refine Wk.q rfl rfl rfl (Qk.lenR rfl rfl rfl hwhat sl29) ?_
            refine Wk.q rfl rfl rfl (Qk.move rfl) ?_
            refine Wk.next ?_
            refine Wc.block ?_
            refine Wc.loop (σ := Nat × St) (fun y => y.1 ≤ M.length ∧ Old u3 y.2)
              (fun y => [(5, .pointer (some ⟨s.size, 0, none⟩)), (6, .pointer (some ⟨s.size + 1, 0, none⟩)), (7, .pointer (some ⟨s.size + 2, 0, none⟩)), (12, wv), (13, hv), (14, .pointer (some ⟨t4.size, 0, none⟩)), (16, .pointer (some ⟨t5.size, 0, none⟩)), (28, .slice axv M.length capx), (29, .slice ayv M.length capy), (217, goInt what.length), (218, .int .i64 y.1)]) (fun y => y.2) (fun y => M.length - y.1) (0, u3)
              ⟨Nat.zero_le _, Old.refl _⟩ ⟨rfl, rfl, rfl, rfl, rfl, rfl, rfl, rfl, rfl, rfl, rfl, trivial⟩ rfl ?_
            rintro ⟨j, sj⟩ ⟨hj, hosj⟩
            dsimp only at hj hosj ⊢
            refine Wc.assoc ?_
            refine Wc.region ?_
            refine Wk.b rfl rfl rfl (Qk.bin rfl rfl rfl) fun b h219 => ?_
            cases b
            · -- t219 = False
              have hge : j = M.length := by
                have : ¬ ((j : Int) < (what.length : Int)) := of_decide_eq_false h219
                omega
              subst hge
              refine Wk.next ?_
              refine Wc.assoc ?_
              refine Wc.condF rfl ?_
              refine Wc.jump (fun _ _ => rfl) ?_
              refine Wc.assoc ?_
              refine Wc.assoc ?_
              refine Wc.region ?_
              refine Wk.q rfl rfl rfl (Qk.move rfl) ?_
              refine Wk.q rfl rfl rfl (Qk.lenR rfl rfl rfl hwho sl29) ?_
              refine Wk.q rfl rfl rfl (Qk.move rfl) ?_
              refine Wk.next ?_
              refine Wc.block ?_
              refine Wc.loop (σ := Nat × St) (fun y => y.1 ≤ M.length ∧ Old u3 y.2)
                (fun y => [(5, .pointer (some ⟨s.size, 0, none⟩)), (6, .pointer (some ⟨s.size + 1, 0, none⟩)), (7, .pointer (some ⟨s.size + 2, 0, none⟩)), (12, wv), (13, hv), (14, .pointer (some ⟨t4.size, 0, none⟩)), (16, .pointer (some ⟨t5.size, 0, none⟩)), (326, goInt who.length), (327, .int .i64 y.1)]) (fun y => y.2) (fun y => M.length - y.1) (0, sj)
                ⟨Nat.zero_le _, hosj⟩ ⟨rfl, rfl, rfl, rfl, rfl, rfl, rfl, rfl, rfl, trivial⟩ rfl ?_
              clear hosj
              rintro ⟨i, si⟩ ⟨hi, hosi⟩
              dsimp only at hi hosi ⊢
              refine Wc.assoc ?_
              refine Wc.region ?_
              refine Wk.b rfl rfl rfl (Qk.bin rfl rfl rfl) fun b h328 => ?_
              cases b
              · -- t328 = False
                have hge : i = M.length := by
                  have : ¬ ((i : Int) < (who.length : Int)) := of_decide_eq_false h328
                  omega
                subst hge
                have hc0r := hc6.2 0 (by omega)
                replace q5 := hosi.get q5
                replace q6 := hosi.get q6
                replace q7 := hosi.get q7
                replace q14 := hosi.get q14
                replace q16 := hosi.get q16
                replace hm := hm.old hosi
                replace hmH := hmH.old hosi
                replace hmU := hmU.old hosi
                replace hwho := hwho.old hosi
                replace hwhat := hwhat.old hosi
                refine Wk.next ?_
                refine Wc.assoc ?_
                refine Wc.condF rfl ?_
                refine Wc.jump (fun _ _ => rfl) ?_
                refine Wc.assoc ?_
                refine Wc.region ?_
                refine Wk.r rfl rfl rfl (Rk.cells rfl sh24 (by first | assumption | repeat (first | exact gnew | exact gsetn gnew | assumption | exact gsetn (by assumption) | exact gsetn (gset (by assumption) (by omega)) | refine gpush ?_ | refine gset ?_ (by first | omega | (simp; done) | (simp; omega)) )) (by simp) (by first | (simp; done) | (rw [uc_len]; omega) | exact Nat.le_refl _)) ?_
                refine Wk.c rfl rfl rfl (Ck.call rfl rfl) ((c14 hK hm hB hr).mono ?_)
                rintro r w1 ⟨b1, pl1, d1, γ1, ⟨lv1, rfl, hlv1⟩, hLd1, hFg1, _, hw1⟩
                obtain ⟨bv1, pv1, rfl, hb1, hp1⟩ := hlv1
                obtain ⟨ab1, cb1, rfl, _⟩ := id hb1
                obtain ⟨ap1, cp1, rfl, _⟩ := id hp1
                replace q5 := hw1.get q5
                replace q6 := hw1.get q6
                replace q7 := hw1.get q7
                replace q14 := hw1.get q14
                replace q16 := hw1.get q16
                replace hm := hm.old hw1
                replace hmH := hmH.old hw1
                replace hmU := hmU.old hw1
                replace hwho := hwho.old hw1
                replace hwhat := hwhat.old hw1
                refine Wk.q rfl rfl rfl (Qk.move rfl) ?_
                refine Wk.q rfl rfl rfl (Qk.extract rfl rfl) ?_
                refine Wk.q rfl rfl rfl (Qk.extract rfl rfl) ?_
                refine Wk.f rfl rfl rfl (Fk.alloc ze46) ?_
                refine Wk.h rfl rfl rfl (Hk.whole rfl rfl sh46 (by first | assumption | repeat (first | exact gnew | exact gsetn gnew | assumption | exact gsetn (by assumption) | exact gsetn (gset (by assumption) (by omega)) | refine gpush ?_ | refine gset ?_ (by first | omega | (simp; done) | (simp; omega)) )) rfl rfl (by first | rfl | (show (true && (Abs.scalar _ && true)) = true; rw [Bool.true_and, Bool.and_true]; assumption))) ?_
                refine Wk.q rfl rfl rfl (Qk.assign rfl) ?_
                refine Wk.next ?_
                refine Wc.store fun s5 e5 => ?_
                have hs5o : Old w1 s5 := by subst e5; exact (Old.push _ _).gset (Nat.le_refl _)
                replace q5 := hs5o.get q5
                replace q6 := hs5o.get q6
                replace q7 := hs5o.get q7
                replace q14 := hs5o.get q14
                replace q16 := hs5o.get q16
                replace hm := hm.old hs5o
                replace hmH := hmH.old hs5o
                replace hmU := hmU.old hs5o
                replace hwho := hwho.old hs5o
                replace hwhat := hwhat.old hs5o
                replace hb1 := hb1.old hs5o
                replace hp1 := hp1.old hs5o
                have p1 : s5.get w1.size = some ⟨[.slice ab1 b1.length cb1, .slice ap1 pl1.length cp1, .int .i64 ((M.length : Int) / (d1 : Nat))], .rw⟩ := by subst e5; exact gsetn gnew
                clear e5
                refine Wc.assoc ?_
                refine Wc.region ?_
                refine Wk.r rfl rfl rfl (Rk.cells rfl sh24 (by first | assumption | repeat (first | exact gnew | exact gsetn gnew | assumption | exact gsetn (by assumption) | exact gsetn (gset (by assumption) (by omega)) | refine gpush ?_ | refine gset ?_ (by first | omega | (simp; done) | (simp; omega)) )) (by simp) (by first | (simp; done) | (rw [uc_len]; omega) | exact Nat.le_refl _)) ?_
                refine Wk.c rfl rfl rfl (Ck.call rfl rfl) ((c14 hK hmU hBU hrU).mono ?_)
                rintro r w2 ⟨b2, pl2, d2, γ2, ⟨lv2, rfl, hlv2⟩, hLd2, hFg2, _, hw2⟩
                obtain ⟨bv2, pv2, rfl, hb2, hp2⟩ := hlv2
                obtain ⟨ab2, cb2, rfl, _⟩ := id hb2
                obtain ⟨ap2, cp2, rfl, _⟩ := id hp2
                replace q5 := hw2.get q5
                replace q6 := hw2.get q6
                replace q7 := hw2.get q7
                replace q14 := hw2.get q14
                replace q16 := hw2.get q16
                replace p1 := hw2.get p1
                replace hm := hm.old hw2
                replace hmH := hmH.old hw2
                replace hmU := hmU.old hw2
                replace hwho := hwho.old hw2
                replace hwhat := hwhat.old hw2
                replace hb1 := hb1.old hw2
                replace hp1 := hp1.old hw2
                refine Wk.q rfl rfl rfl (Qk.move rfl) ?_
                refine Wk.q rfl rfl rfl (Qk.extract rfl rfl) ?_
                refine Wk.q rfl rfl rfl (Qk.extract rfl rfl) ?_
                refine Wk.f rfl rfl rfl (Fk.alloc ze46) ?_
                refine Wk.h rfl rfl rfl (Hk.whole rfl rfl sh46 (by first | assumption | repeat (first | exact gnew | exact gsetn gnew | assumption | exact gsetn (by assumption) | exact gsetn (gset (by assumption) (by omega)) | refine gpush ?_ | refine gset ?_ (by first | omega | (simp; done) | (simp; omega)) )) rfl rfl (by first | rfl | (show (true && (Abs.scalar _ && true)) = true; rw [Bool.true_and, Bool.and_true]; assumption))) ?_
                refine Wk.q rfl rfl rfl (Qk.assign rfl) ?_
                refine Wk.next ?_
                refine Wc.store fun s6 e6 => ?_
                have hs6o : Old w2 s6 := by subst e6; exact (Old.push _ _).gset (Nat.le_refl _)
                replace q5 := hs6o.get q5
                replace q6 := hs6o.get q6
                replace q7 := hs6o.get q7
                replace q14 := hs6o.get q14
                replace q16 := hs6o.get q16
                replace p1 := hs6o.get p1
                replace hm := hm.old hs6o
                replace hmH := hmH.old hs6o
                replace hmU := hmU.old hs6o
                replace hwho := hwho.old hs6o
                replace hwhat := hwhat.old hs6o
                replace hb1 := hb1.old hs6o
                replace hp1 := hp1.old hs6o
                replace hb2 := hb2.old hs6o
                replace hp2 := hp2.old hs6o
                have p2 : s6.get w2.size = some ⟨[.slice ab2 b2.length cb2, .slice ap2 pl2.length cp2, .int .i64 ((U.length : Int) / (d2 : Nat))], .rw⟩ := by subst e6; exact gsetn gnew
                clear e6
                refine Wc.assoc ?_
                refine Wc.region ?_
                refine Wk.r rfl rfl rfl (Rk.cells rfl sh24 (by first | assumption | repeat (first | exact gnew | exact gsetn gnew | assumption | exact gsetn (by assumption) | exact gsetn (gset (by assumption) (by omega)) | refine gpush ?_ | refine gset ?_ (by first | omega | (simp; done) | (simp; omega)) )) (by simp) (by first | (simp; done) | (rw [uc_len]; omega) | exact Nat.le_refl _)) ?_
                refine Wk.c rfl rfl rfl (Ck.call rfl rfl) ((c15 hK hm hB hr).mono ?_)
                rintro r w3 ⟨b3, pl3, d3, γ3, ⟨lv3, rfl, hlv3⟩, hLd3, hFg3, _, hw3⟩
                obtain ⟨bv3, pv3, rfl, hb3, hp3⟩ := hlv3
                obtain ⟨ab3, cb3, rfl, _⟩ := id hb3
                obtain ⟨ap3, cp3, rfl, _⟩ := id hp3
                replace q5 := hw3.get q5
                replace q6 := hw3.get q6
                replace q7 := hw3.get q7
                replace q14 := hw3.get q14
                replace q16 := hw3.get q16
                replace p1 := hw3.get p1
                replace p2 := hw3.get p2
                replace hm := hm.old hw3
                replace hmH := hmH.old hw3
                replace hmU := hmU.old hw3
                replace hwho := hwho.old hw3
                replace hwhat := hwhat.old hw3
                replace hb1 := hb1.old hw3
                replace hp1 := hp1.old hw3
                replace hb2 := hb2.old hw3
                replace hp2 := hp2.old hw3
                refine Wk.q rfl rfl rfl (Qk.move rfl) ?_
                refine Wk.q rfl rfl rfl (Qk.extract rfl rfl) ?_
                refine Wk.q rfl rfl rfl (Qk.extract rfl rfl) ?_
                refine Wk.f rfl rfl rfl (Fk.alloc ze46) ?_
                refine Wk.h rfl rfl rfl (Hk.whole rfl rfl sh46 (by first | assumption | repeat (first | exact gnew | exact gsetn gnew | assumption | exact gsetn (by assumption) | exact gsetn (gset (by assumption) (by omega)) | refine gpush ?_ | refine gset ?_ (by first | omega | (simp; done) | (simp; omega)) )) rfl rfl (by first | rfl | (show (true && (Abs.scalar _ && true)) = true; rw [Bool.true_and, Bool.and_true]; assumption))) ?_
                refine Wk.q rfl rfl rfl (Qk.assign rfl) ?_
                refine Wk.next ?_
                refine Wc.store fun s7 e7 => ?_
                have hs7o : Old w3 s7 := by subst e7; exact (Old.push _ _).gset (Nat.le_refl _)
                replace q5 := hs7o.get q5
                replace q6 := hs7o.get q6
                replace q7 := hs7o.get q7
                replace q14 := hs7o.get q14
                replace q16 := hs7o.get q16
                replace p1 := hs7o.get p1
                replace p2 := hs7o.get p2
                replace hm := hm.old hs7o
                replace hmH := hmH.old hs7o
                replace hmU := hmU.old hs7o
                replace hwho := hwho.old hs7o
                replace hwhat := hwhat.old hs7o
                replace hb1 := hb1.old hs7o
                replace hp1 := hp1.old hs7o
                replace hb2 := hb2.old hs7o
                replace hp2 := hp2.old hs7o
                replace hb3 := hb3.old hs7o
                replace hp3 := hp3.old hs7o
                have p3 : s7.get w3.size = some ⟨[.slice ab3 b3.length cb3, .slice ap3 pl3.length cp3, .int .i64 ((M.length : Int) / (d3 : Nat))], .rw⟩ := by subst e7; exact gsetn gnew
                clear e7
                refine Wc.assoc ?_
                refine Wc.region ?_
                refine Wk.r rfl rfl rfl (Rk.cells rfl sh24 (by first | assumption | repeat (first | exact gnew | exact gsetn gnew | assumption | exact gsetn (by assumption) | exact gsetn (gset (by assumption) (by omega)) | refine gpush ?_ | refine gset ?_ (by first | omega | (simp; done) | (simp; omega)) )) (by simp) (by first | (simp; done) | (rw [uc_len]; omega) | exact Nat.le_refl _)) ?_
                refine Wk.c rfl rfl rfl (Ck.call rfl rfl) ((c15 hK hmU hBU hrU).mono ?_)
                rintro r w4 ⟨b4, pl4, d4, γ4, ⟨lv4, rfl, hlv4⟩, hLd4, hFg4, _, hw4⟩
                obtain ⟨bv4, pv4, rfl, hb4, hp4⟩ := hlv4
                obtain ⟨ab4, cb4, rfl, _⟩ := id hb4
                obtain ⟨ap4, cp4, rfl, _⟩ := id hp4
                replace q5 := hw4.get q5
                replace q6 := hw4.get q6
                replace q7 := hw4.get q7
                replace q14 := hw4.get q14
                replace q16 := hw4.get q16
                replace p1 := hw4.get p1
                replace p2 := hw4.get p2
                replace p3 := hw4.get p3
                replace hm := hm.old hw4
                replace hmH := hmH.old hw4
                replace hmU := hmU.old hw4
                replace hwho := hwho.old hw4
                replace hwhat := hwhat.old hw4
                replace hb1 := hb1.old hw4
                replace hp1 := hp1.old hw4
                replace hb2 := hb2.old hw4
                replace hp2 := hp2.old hw4
                replace hb3 := hb3.old hw4
                replace hp3 := hp3.old hw4
                refine Wk.q rfl rfl rfl (Qk.move rfl) ?_
                refine Wk.q rfl rfl rfl (Qk.extract rfl rfl) ?_
                refine Wk.q rfl rfl rfl (Qk.extract rfl rfl) ?_
                refine Wk.f rfl rfl rfl (Fk.alloc ze46) ?_
                refine Wk.h rfl rfl rfl (Hk.whole rfl rfl sh46 (by first | assumption | repeat (first | exact gnew | exact gsetn gnew | assumption | exact gsetn (by assumption) | exact gsetn (gset (by assumption) (by omega)) | refine gpush ?_ | refine gset ?_ (by first | omega | (simp; done) | (simp; omega)) )) rfl rfl (by first | rfl | (show (true && (Abs.scalar _ && true)) = true; rw [Bool.true_and, Bool.and_true]; assumption))) ?_
                refine Wk.q rfl rfl rfl (Qk.assign rfl) ?_
                refine Wk.next ?_
                refine Wc.store fun s8 e8 => ?_
                have hs8o : Old w4 s8 := by subst e8; exact (Old.push _ _).gset (Nat.le_refl _)
                replace q5 := hs8o.get q5
                replace q6 := hs8o.get q6
                replace q7 := hs8o.get q7
                replace q14 := hs8o.get q14
                replace q16 := hs8o.get q16
                replace p1 := hs8o.get p1
                replace p2 := hs8o.get p2
                replace p3 := hs8o.get p3
                replace hm := hm.old hs8o
                replace hmH := hmH.old hs8o
                replace hmU := hmU.old hs8o
                replace hwho := hwho.old hs8o
                replace hwhat := hwhat.old hs8o
                replace hb1 := hb1.old hs8o
                replace hp1 := hp1.old hs8o
                replace hb2 := hb2.old hs8o
                replace hp2 := hp2.old hs8o
                replace hb3 := hb3.old hs8o
                replace hp3 := hp3.old hs8o
                replace hb4 := hb4.old hs8o
                replace hp4 := hp4.old hs8o
                have p4 : s8.get w4.size = some ⟨[.slice ab4 b4.length cb4, .slice ap4 pl4.length cp4, .int .i64 ((U.length : Int) / (d4 : Nat))], .rw⟩ := by subst e8; exact gsetn gnew
                clear e8
                refine Wc.assoc ?_
                refine Wc.region ?_
                refine Wk.q rfl rfl rfl (Qk.move rfl) ?_
                refine Wk.b rfl rfl rfl (Qk.bin rfl rfl rfl) fun b h395 => ?_
                obtain rfl : b = true := by exact h395.symm -- t395
                refine Wk.q rfl rfl rfl (Qk.move rfl) ?_
                refine Wk.q rfl rfl rfl (Qk.move rfl) ?_
                refine Wk.b rfl rfl rfl (Qk.bin rfl rfl rfl) fun b h398 => ?_
                obtain rfl : b = true := by exact h398.symm -- t398
                refine Wk.q rfl rfl rfl (Qk.pickT rfl rfl) ?_
                refine Wk.q rfl rfl rfl (Qk.move rfl) ?_
                refine Wk.q rfl rfl rfl (Qk.move rfl) ?_
                refine Wk.b rfl rfl rfl (Qk.bin rfl rfl rfl) fun b h402 => ?_
                obtain rfl : b = true := by exact h402.symm -- t402
                refine Wk.q rfl rfl rfl (Qk.pickT rfl rfl) ?_
                refine Wk.q rfl rfl rfl (Qk.move rfl) ?_
                refine Wk.q rfl rfl rfl (Qk.move rfl) ?_
                refine Wk.b rfl rfl rfl (Qk.bin rfl rfl rfl) fun b h406 => ?_
                obtain rfl : b = true := by exact h406.symm -- t406
                refine Wk.q rfl rfl rfl (Qk.pickT rfl rfl) ?_
                refine Wk.q rfl rfl rfl (Qk.move rfl) ?_
                refine Wk.r rfl rfl rfl (Rk.cells rfl sh24 (by first | assumption | repeat (first | exact gnew | exact gsetn gnew | assumption | exact gsetn (by assumption) | exact gsetn (gset (by assumption) (by omega)) | refine gpush ?_ | refine gset ?_ (by first | omega | (simp; done) | (simp; omega)) )) (by simp) (by first | (simp; done) | (rw [uc_len]; omega) | exact Nat.le_refl _)) ?_
                refine Wk.r rfl rfl rfl (Rk.cells rfl sh24 (by first | assumption | repeat (first | exact gnew | exact gsetn gnew | assumption | exact gsetn (by assumption) | exact gsetn (gset (by assumption) (by omega)) | refine gpush ?_ | refine gset ?_ (by first | omega | (simp; done) | (simp; omega)) )) (by simp) (by first | (simp; done) | (rw [uc_len]; omega) | exact Nat.le_refl _)) ?_
                refine Wk.r rfl rfl rfl (Rk.cells rfl sh46 (by first | assumption | repeat (first | exact gnew | exact gsetn gnew | assumption | exact gsetn (by assumption) | exact gsetn (gset (by assumption) (by omega)) | refine gpush ?_ | refine gset ?_ (by first | omega | (simp; done) | (simp; omega)) )) (by simp) (by first | (simp; done) | (rw [uc_len]; omega) | exact Nat.le_refl _)) ?_
                refine Wk.r rfl rfl rfl (Rk.cells rfl sh46 (by first | assumption | repeat (first | exact gnew | exact gsetn gnew | assumption | exact gsetn (by assumption) | exact gsetn (gset (by assumption) (by omega)) | refine gpush ?_ | refine gset ?_ (by first | omega | (simp; done) | (simp; omega)) )) (by simp) (by first | (simp; done) | (rw [uc_len]; omega) | exact Nat.le_refl _)) ?_
                refine Wk.r rfl rfl rfl (Rk.eqv (u := .agg (uc d6).toArray) (Rk.cells rfl sh25 (by first | assumption | repeat (first | exact gnew | exact gsetn gnew | assumption | exact gsetn (by assumption) | exact gsetn (gset (by assumption) (by omega)) | refine gpush ?_ | refine gset ?_ (by first | omega | (simp; done) | (simp; omega)) )) (by simp) (by first | (simp; done) | (rw [uc_len]; omega) | exact Nat.le_refl _)) (uc_all hd6.1)) ?_
                refine Wk.q rfl rfl rfl (Qk.iaA rfl rfl ar25 (by constructor <;> omega)) ?_
                refine Wk.r rfl rfl rfl (Rk.cell rfl sh5 (by first | assumption | repeat (first | exact gnew | exact gsetn gnew | assumption | exact gsetn (by assumption) | exact gsetn (gset (by assumption) (by omega)) | refine gpush ?_ | refine gset ?_ (by first | omega | (simp; done) | (simp; omega)) )) (by simp) (uc_at (i := 0) (by omega))) ?_
                refine Wk.q rfl rfl rfl (Qk.cvt rfl und5 und3 (i64_in _ (by omega))) ?_
                refine Wk.q rfl rfl rfl (Qk.move rfl) ?_
                refine Wk.q rfl rfl rfl (Qk.move rfl) ?_
                have hc1 := FairG.calm hLd1.opt hFg1
                have hc2 := FairG.calm hLd2.opt hFg2
                obtain ⟨he1, hpr1, hga1⟩ := Leased.shift hSU hUl (m := c6.getD 0 0) hc00 hLd1 hLd2 hc1 (FairG.shift hSU hUl hc00 hLd1.opt hLd2.opt hFg1 hFg2)
                have hok1 := Leased.ok hB hr hLd1 hc1
                have hok2 := Leased.ok hBU hrU hLd2 hc2
                rw [hUl, he1] at hok2
                have hdn1 : (U.length : Int) / (d2 : Nat) = ((M.length / d1 : Nat) : Int) := by rw [hUl, he1]; rfl
                rw [hdn1]
                have hc0r := hc6.2 0 (by omega)
                refine Wk.c rfl rfl rfl (Ck.call rfl rfl) (((c16 hK hm hmU hB hBU hUl hr hrU hb1 hp1 hok1 hb2 hp2 hok2 hd6 hc0r hwho hwhat hP hQ hpr1 hga1)).mono ?_)
                rintro r w5 ⟨rfl, hw5⟩
                replace q5 := hw5.get q5
                replace q6 := hw5.get q6
                replace q7 := hw5.get q7
                replace q14 := hw5.get q14
                replace q16 := hw5.get q16
                replace p1 := hw5.get p1
                replace p2 := hw5.get p2
                replace p3 := hw5.get p3
                replace p4 := hw5.get p4
                replace hm := hm.old hw5
                replace hmH := hmH.old hw5
                replace hmU := hmU.old hw5
                replace hwho := hwho.old hw5
                replace hwhat := hwhat.old hw5
                replace hb1 := hb1.old hw5
                replace hp1 := hp1.old hw5
                replace hb2 := hb2.old hw5
                replace hp2 := hp2.old hw5
                replace hb3 := hb3.old hw5
                replace hp3 := hp3.old hw5
                replace hb4 := hb4.old hw5
                replace hp4 := hp4.old hw5
                refine Wk.q rfl rfl rfl (Qk.pickT rfl rfl) ?_
                refine Wk.q rfl rfl rfl (Qk.move rfl) ?_
                refine Wk.r rfl rfl rfl (Rk.cells rfl sh24 (by first | assumption | repeat (first | exact gnew | exact gsetn gnew | assumption | exact gsetn (by assumption) | exact gsetn (gset (by assumption) (by omega)) | refine gpush ?_ | refine gset ?_ (by first | omega | (simp; done) | (simp; omega)) )) (by simp) (by first | (simp; done) | (rw [uc_len]; omega) | exact Nat.le_refl _)) ?_
                refine Wk.r rfl rfl rfl (Rk.cells rfl sh24 (by first | assumption | repeat (first | exact gnew | exact gsetn gnew | assumption | exact gsetn (by assumption) | exact gsetn (gset (by assumption) (by omega)) | refine gpush ?_ | refine gset ?_ (by first | omega | (simp; done) | (simp; omega)) )) (by simp) (by first | (simp; done) | (rw [uc_len]; omega) | exact Nat.le_refl _)) ?_
                refine Wk.r rfl rfl rfl (Rk.cells rfl sh46 (by first | assumption | repeat (first | exact gnew | exact gsetn gnew | assumption | exact gsetn (by assumption) | exact gsetn (gset (by assumption) (by omega)) | refine gpush ?_ | refine gset ?_ (by first | omega | (simp; done) | (simp; omega)) )) (by simp) (by first | (simp; done) | (rw [uc_len]; omega) | exact Nat.le_refl _)) ?_
                refine Wk.r rfl rfl rfl (Rk.cells rfl sh46 (by first | assumption | repeat (first | exact gnew | exact gsetn gnew | assumption | exact gsetn (by assumption) | exact gsetn (gset (by assumption) (by omega)) | refine gpush ?_ | refine gset ?_ (by first | omega | (simp; done) | (simp; omega)) )) (by simp) (by first | (simp; done) | (rw [uc_len]; omega) | exact Nat.le_refl _)) ?_
                refine Wk.r rfl rfl rfl (Rk.eqv (u := .agg (uc d6).toArray) (Rk.cells rfl sh25 (by first | assumption | repeat (first | exact gnew | exact gsetn gnew | assumption | exact gsetn (by assumption) | exact gsetn (gset (by assumption) (by omega)) | refine gpush ?_ | refine gset ?_ (by first | omega | (simp; done) | (simp; omega)) )) (by simp) (by first | (simp; done) | (rw [uc_len]; omega) | exact Nat.le_refl _)) (uc_all hd6.1)) ?_
                refine Wk.q rfl rfl rfl (Qk.iaA rfl rfl ar25 (by constructor <;> omega)) ?_
                refine Wk.r rfl rfl rfl (Rk.cell rfl sh5 (by first | assumption | repeat (first | exact gnew | exact gsetn gnew | assumption | exact gsetn (by assumption) | exact gsetn (gset (by assumption) (by omega)) | refine gpush ?_ | refine gset ?_ (by first | omega | (simp; done) | (simp; omega)) )) (by simp) (uc_at (i := 0) (by omega))) ?_
                refine Wk.q rfl rfl rfl (Qk.cvt rfl und5 und3 (i64_in _ (by omega))) ?_
                refine Wk.q rfl rfl rfl (Qk.move rfl) ?_
                refine Wk.q rfl rfl rfl (Qk.move rfl) ?_
                have hc3 := CalmG.calm hLd3.opt hFg3
                have hc4 := CalmG.calm hLd4.opt hFg4
                obtain ⟨he3, hpr3, hga3⟩ := Leased.shift hSU hUl (m := c6.getD 0 0) hc00 hLd3 hLd4 hc3 (CalmG.shift hSU hUl hc00 hLd3.opt hLd4.opt hFg3 hFg4)
                have hok3 := Leased.ok hB hr hLd3 hc3
                have hok4 := Leased.ok hBU hrU hLd4 hc4
                rw [hUl, he3] at hok4
                have hdn3 : (U.length : Int) / (d4 : Nat) = ((M.length / d3 : Nat) : Int) := by rw [hUl, he3]; rfl
                rw [hdn3]
                have hc0r := hc6.2 0 (by omega)
                refine Wk.c rfl rfl rfl (Ck.call rfl rfl) (((c16 hK hm hmU hB hBU hUl hr hrU hb3 hp3 hok3 hb4 hp4 hok4 hd6 hc0r hwho hwhat hP hQ hpr3 hga3)).mono ?_)
                rintro r w6 ⟨rfl, hw6⟩
                refine Wk.q rfl rfl rfl (Qk.pickT rfl rfl) ?_
                refine Wk.q rfl rfl rfl (Qk.assign rfl) ?_
                refine Wk.next ?_
                refine Wc.done'' (fun _ _ => rfl) rfl ?_
                rfl
              · -- t328 = True
                have hil : i < M.length := by
                  have : (i : Int) < (who.length : Int) := of_decide_eq_true h328
                  omega
                have hwi : who.getD i 0 = (asgOf who i : Nat) := hP.num i hil
                have hhi : what.getD i 0 = (asgOf what i : Nat) := hQ.num i hil
                have hwlt := hP.asg.lt i hil
                have hhlt := hQ.asg.lt i hil
                have hcbi := hcb i hil
                have hdbi := hdb i hil
                have q5i := hosi.get q5
                refine Wk.next ?_
                refine Wc.assoc ?_
                refine Wc.condT rfl ?_
                refine Wc.skip ?_
                refine Wc.assoc ?_
                refine Wc.block ?_
                refine Wc.assoc ?_
                refine Wc.region ?_
                refine Wk.q rfl rfl rfl (Qk.move rfl) ?_
                refine Wk.q rfl rfl rfl (Qk.assign rfl) ?_
                refine Wk.next ?_
                refine Wc.assoc ?_
                refine Wc.region ?_
                refine Wk.r rfl rfl rfl (Rk.cells rfl sh24 (by first | assumption | repeat (first | exact gnew | exact gsetn gnew | assumption | exact gsetn (by assumption) | exact gsetn (gset (by assumption) (by omega)) | refine gpush ?_ | refine gset ?_ (by first | omega | (simp; done) | (simp; omega)) )) (by simp) (by first | (simp; done) | (rw [uc_len]; omega) | exact Nat.le_refl _)) ?_
                refine Wk.q rfl rfl rfl (Qk.move rfl) ?_
                refine Wk.c rfl rfl rfl (Ck.call rfl rfl) ((c13 hK (hm.old hosi) hB hr hil).mono ?_)
                rintro r v1 ⟨b5, hA5, hO5, rfl, _, hov1⟩
                generalize hX1 : matM M i (asgOf b5 i) * (M.length : Int) - highOf M rent (asgOf b5 i) = X1
                generalize hX2 : matM M i (asgOf b5 i) * (M.length : Int) - lowOf M rent (asgOf b5 i) = X2
                have hos1 : Old u3 v1 := hosi.trans hov1
                have hXb1 : -1000000000 ≤ X1 ∧ X1 ≤ 1000000000 := by rw [← hX1]; exact stake_bd1 hB hHO hr hil hA5
                have hXb2 : -1000000000 ≤ X2 ∧ X2 ≤ 1000000000 := by rw [← hX2]; exact stake_bd2 hB hHO hr hil hA5
                refine Wk.q rfl rfl rfl (Qk.move rfl) ?_
                refine Wk.q rfl rfl rfl (Qk.extract rfl rfl) ?_
                refine Wk.q rfl rfl rfl (Qk.extract rfl rfl) ?_
                refine Wk.q rfl rfl rfl (Qk.extract rfl rfl) ?_
                refine Wk.f rfl rfl rfl (Fk.alloc ze41) ?_
                refine Wk.f rfl rfl rfl (Fk.alloc ze41) ?_
                refine Wk.h rfl rfl rfl (Hk.whole rfl rfl sh41 (by first | assumption | repeat (first | exact gnew | exact gsetn gnew | assumption | exact gsetn (by assumption) | exact gsetn (gset (by assumption) (by omega)) | refine gpush ?_ | refine gset ?_ (by first | omega | (simp; done) | (simp; omega)) )) rfl rfl (by first | rfl | (show (true && (Abs.scalar _ && true)) = true; rw [Bool.true_and, Bool.and_true]; assumption))) ?_
                refine Wk.h rfl rfl rfl (Hk.whole rfl rfl sh41 (by first | assumption | repeat (first | exact gnew | exact gsetn gnew | assumption | exact gsetn (by assumption) | exact gsetn (gset (by assumption) (by omega)) | refine gpush ?_ | refine gset ?_ (by first | omega | (simp; done) | (simp; omega)) )) rfl rfl (by first | rfl | (show (true && (Abs.scalar _ && true)) = true; rw [Bool.true_and, Bool.and_true]; assumption))) ?_
                refine Wk.q rfl rfl rfl (Qk.assign rfl) ?_
                refine Wk.next ?_
                refine Wc.store fun s9 e9 => ?_
                have hz1 : ∀ a : Blk, (v1.push a).size = v1.size + 1 := fun a => by simp
                rw [hz1] at e9 ⊢
                have ho9 : Old u3 s9 := by subst e9; exact (((hos1.gpush _).gpush _).gset hos1.1).gset (by have := hos1.1; omega)
                have q40 : s9.get v1.size = some ⟨[.int .i64 (X1 / (Nat.gcd X1.natAbs M.length : Nat)), .int .i64 ((M.length : Int) / (Nat.gcd X1.natAbs M.length : Nat))], .rw⟩ := by subst e9; exact gset (gsetn (gpush gnew)) (by omega)
                have q41 : s9.get (v1.size + 1) = some ⟨[.int .i64 (X2 / (Nat.gcd X2.natAbs M.length : Nat)), .int .i64 ((M.length : Int) / (Nat.gcd X2.natAbs M.length : Nat))], .rw⟩ := by subst e9; exact gsetn (gset g1 (by omega))
                have hszA : v1.size + 2 ≤ s9.size := by have := St.get_lt q41; omega
                clear e9
                refine Wc.assoc ?_
                refine Wc.draw ?_
                refine Wd.store' fun s10 e10 => ?_
                have ho10 : Old s9 s10 := by subst e10; exact Old.reserve _ _
                replace q40 := ho10.get q40
                replace q41 := ho10.get q41
                have hR43 : s10.get (s9.size + 10) = some ⟨[], .dead⟩ := by subst e10; exact gnone (by decide)
                have hR44 : s10.get (s9.size + 11) = some ⟨[], .dead⟩ := by subst e10; exact gnone (by decide)
                have hos10 : Old u3 s10 := ho9.trans ho10
                have q14x := hos10.get q14
                clear e10
                refine Wd.r rfl rfl rfl (Rk.cells rfl sh24 (by first | assumption | repeat (first | exact gnew | exact gsetn gnew | assumption | exact gsetn (by assumption) | exact gsetn (gset (by assumption) (by omega)) | refine gpush ?_ | refine gset ?_ (by first | omega | (simp; done) | (simp; omega)) )) (by simp) (by first | (simp; done) | (rw [uc_len]; omega) | exact Nat.le_refl _)) rfl ?_
                refine Wd.q rfl rfl rfl (Qk.move rfl) ?_
                refine Wd.q rfl rfl rfl (Qk.move rfl) ?_
                refine Wd.q rfl rfl rfl (Qk.at rfl rfl ar29 sl29 (hwho.old (by assumption)) (by constructor <;> omega)) ?_
                refine Wd.r rfl rfl rfl (Rk.eqv (u := .int .i64 (asgOf who i : Nat)) (Rk.intR rfl sh3 (hwho.old (by assumption)) (i := i) (by omega)) (by rw [hwi])) rfl ?_
                refine Wd.c rfl rfl rfl (Ck.call rfl rfl) rfl rfl ((c13 hK (hmH.old hos10) hBH hrH (i := asgOf who i) (by omega)).mono ?_)
                rintro r v2 ⟨b6, hA6, hO6, rfl, _, hov2⟩
                rw [hHl]
                generalize hY1 : matM H (asgOf who i) (asgOf b6 (asgOf who i)) * (M.length : Int) - highOf H (rent + Sm M.length (fun x => d6.getD x 0)) (asgOf b6 (asgOf who i)) = Y1
                generalize hY2 : matM H (asgOf who i) (asgOf b6 (asgOf who i)) * (M.length : Int) - lowOf H (rent + Sm M.length (fun x => d6.getD x 0)) (asgOf b6 (asgOf who i)) = Y2
                have hos11 : Old u3 v2 := hos10.trans hov2
                replace q40 := hov2.get q40
                replace q41 := hov2.get q41
                replace hR43 := hov2.get hR43
                replace hR44 := hov2.get hR44
                have hl41 := St.get_lt q41
                have hl9 := ho9.1
                have hsz : v1.size + 2 ≤ s9.size := hszA
                refine Wd.q rfl rfl rfl (Qk.move rfl) ?_
                refine Wd.q rfl rfl rfl (Qk.extract rfl rfl) ?_
                refine Wd.q rfl rfl rfl (Qk.extract rfl rfl) ?_
                refine Wd.q rfl rfl rfl (Qk.extract rfl rfl) ?_
                refine Wd.f rfl rfl rfl (Fk.alloc ze41) ?_
                refine Wd.f rfl rfl rfl (Fk.alloc ze41) ?_
                refine Wd.h rfl rfl rfl (Hk.whole rfl rfl sh41 (by first | assumption | repeat (first | exact gnew | exact gsetn gnew | assumption | exact gsetn (by assumption) | exact gsetn (gset (by assumption) (by omega)) | refine gpush ?_ | refine gset ?_ (by first | omega | (simp; done) | (simp; omega)) )) rfl rfl (by first | rfl | (show (true && (Abs.scalar _ && true)) = true; rw [Bool.true_and, Bool.and_true]; assumption))) rfl rfl ?_
                refine Wd.h rfl rfl rfl (Hk.whole rfl rfl sh41 (by first | assumption | repeat (first | exact gnew | exact gsetn gnew | assumption | exact gsetn (by assumption) | exact gsetn (gset (by assumption) (by omega)) | refine gpush ?_ | refine gset ?_ (by first | omega | (simp; done) | (simp; omega)) )) rfl rfl (by first | rfl | (show (true && (Abs.scalar _ && true)) = true; rw [Bool.true_and, Bool.and_true]; assumption))) rfl rfl ?_
                refine Wd.q rfl rfl rfl (Qk.assign rfl) ?_
                refine Wd.next ?_
                refine Wc.store fun s11 e11 => ?_
                simp only [Nat.zero_add, Nat.reduceAdd] at e11 ⊢
                have ho11 : Old u3 s11 := by subst e11; exact (((hos11.gset (by omega)).gset (by omega)).gset (by omega)).gset (by omega)
                replace q40 : s11.get v1.size = some ⟨[.int .i64 (X1 / (Nat.gcd X1.natAbs M.length : Nat)), .int .i64 ((M.length : Int) / (Nat.gcd X1.natAbs M.length : Nat))], .rw⟩ := by subst e11; exact gset (gset (gset (gset q40 (by omega)) (by omega)) (by omega)) (by omega)
                replace q41 : s11.get (v1.size + 1) = some ⟨[.int .i64 (X2 / (Nat.gcd X2.natAbs M.length : Nat)), .int .i64 ((M.length : Int) / (Nat.gcd X2.natAbs M.length : Nat))], .rw⟩ := by subst e11; exact gset (gset (gset (gset q41 (by omega)) (by omega)) (by omega)) (by omega)
                have q43 : s11.get (s9.size + 10) = some ⟨[.int .i64 (Y1 / (Nat.gcd Y1.natAbs M.length : Nat)), .int .i64 ((M.length : Int) / (Nat.gcd Y1.natAbs M.length : Nat))], .rw⟩ := by subst e11; exact gset (gsetn (gset (gsetn hR43) (by omega))) (by omega)
                have q44 : s11.get (s9.size + 11) = some ⟨[.int .i64 (Y2 / (Nat.gcd Y2.natAbs M.length : Nat)), .int .i64 ((M.length : Int) / (Nat.gcd Y2.natAbs M.length : Nat))], .rw⟩ := by subst e11; exact gsetn (gset (gsetn (gset hR44 (by omega))) (by omega))
                have qarr := ho11.get q6
                have hlaw1 : Y1 = c6.getD i 0 * (M.length : Int) + X1 := by rw [← hY1, ← hX1]; exact law_stake1 hSH hHl hO5 hO6 hil
                have hlaw2 : Y2 = c6.getD i 0 * (M.length : Int) + X2 := by rw [← hY2, ← hX2]; exact law_stake2 hSH hHl hO5 hO6 hil
                clear e11
                refine Wc.assoc ?_
                refine Wc.drawE0 rfl ?_
                refine We.q rfl rfl rfl (Qk.move rfl) ?_
                refine We.b rfl rfl rfl (Qk.bin rfl rfl rfl) fun b h348 => ?_
                obtain rfl : b = false := by exact h348.symm -- t348
                refine We.q rfl rfl rfl (Qk.move rfl) ?_
                refine We.q rfl rfl rfl (Qk.move rfl) ?_
                refine We.b rfl rfl rfl (Qk.bin rfl rfl rfl) fun b h351 => ?_
                obtain rfl : b = false := by exact h351.symm -- t351
                refine We.q rfl rfl rfl (Qk.pickF rfl rfl) ?_
                refine We.q rfl rfl rfl (Qk.move rfl) ?_
                refine We.cells rfl rfl rfl rfl rfl sh41 (by first | assumption | repeat (first | exact gnew | exact gsetn gnew | assumption | exact gsetn (by assumption) | exact gsetn (gset (by assumption) (by omega)) | refine gpush ?_ | refine gset ?_ (by first | omega | (simp; done) | (simp; omega)) )) (by simp) (by first | (simp; done) | (rw [uc_len]; omega) | exact Nat.le_refl _) (by first | assumption | simp [sames, same, ssame]) (by repeat' (first | exact trivial | exact Or.inl rfl | apply And.intro | (refine Or.inr ?_; assumption) | (refine Or.inr ?_; exact gset (by assumption) (by omega)) | (refine Or.inr ⟨_, _, (by first | assumption | repeat (first | exact gnew | exact gsetn gnew | assumption | exact gsetn (by assumption) | exact gsetn (gset (by assumption) (by omega)) | refine gpush ?_ | refine gset ?_ (by first | omega | (simp; done) | (simp; omega)) )), (by simp), rfl⟩))) ?_
                refine We.cells rfl rfl rfl rfl rfl sh41 (by first | assumption | repeat (first | exact gnew | exact gsetn gnew | assumption | exact gsetn (by assumption) | exact gsetn (gset (by assumption) (by omega)) | refine gpush ?_ | refine gset ?_ (by first | omega | (simp; done) | (simp; omega)) )) (by simp) (by first | (simp; done) | (rw [uc_len]; omega) | exact Nat.le_refl _) (by first | assumption | simp [sames, same, ssame]) (by repeat' (first | exact trivial | exact Or.inl rfl | apply And.intro | (refine Or.inr ?_; assumption) | (refine Or.inr ?_; exact gset (by assumption) (by omega)) | (refine Or.inr ⟨_, _, (by first | assumption | repeat (first | exact gnew | exact gsetn gnew | assumption | exact gsetn (by assumption) | exact gsetn (gset (by assumption) (by omega)) | refine gpush ?_ | refine gset ?_ (by first | omega | (simp; done) | (simp; omega)) )), (by simp), rfl⟩))) ?_
                refine We.q rfl rfl rfl (Qk.move rfl) ?_
                refine We.q rfl rfl rfl (Qk.iaA rfl rfl ar25 (by constructor <;> omega)) ?_
                refine We.cell rfl rfl rfl rfl rfl sh5 (by first | assumption | repeat (first | exact gnew | exact gsetn gnew | assumption | exact gsetn (by assumption) | exact gsetn (gset (by assumption) (by omega)) | refine gpush ?_ | refine gset ?_ (by first | omega | (simp; done) | (simp; omega)) )) (by simp) (uc_at (by omega)) (by first | assumption | simp [same, ssame]) (by repeat' (first | exact trivial | exact Or.inl rfl | apply And.intro | (refine Or.inr ?_; assumption) | (refine Or.inr ?_; exact gset (by assumption) (by omega)) | (refine Or.inr ⟨_, _, (by first | assumption | repeat (first | exact gnew | exact gsetn gnew | assumption | exact gsetn (by assumption) | exact gsetn (gset (by assumption) (by omega)) | refine gpush ?_ | refine gset ?_ (by first | omega | (simp; done) | (simp; omega)) )), (by simp), rfl⟩))) ?_
                refine We.q rfl rfl rfl (Qk.cvt rfl und5 und3 (i64_in _ (by omega))) ?_
                refine We.c rfl rfl rfl (Ck.call rfl rfl) (by repeat' (first | exact trivial | exact Or.inl rfl | apply And.intro | (refine Or.inr ?_; assumption) | (refine Or.inr ?_; exact gset (by assumption) (by omega)) | (refine Or.inr ⟨_, _, (by first | assumption | repeat (first | exact gnew | exact gsetn gnew | assumption | exact gsetn (by assumption) | exact gsetn (gset (by assumption) (by omega)) | refine gpush ?_ | refine gset ?_ (by first | omega | (simp; done) | (simp; omega)) )), (by simp), rfl⟩))) ((c12 hK hXb1 ⟨hn1, hm6⟩ (by omega) hlaw1).mono ?_)
                rintro r v3 ⟨rfl, hov3⟩
                have q40 := hov3.get q40
                have q41 := hov3.get q41
                have q43 := hov3.get q43
                have q44 := hov3.get q44
                have qarr := hov3.get qarr
                refine ⟨(by repeat' (first | exact trivial | exact Or.inl rfl | apply And.intro | (refine Or.inr ?_; assumption) | (refine Or.inr ?_; exact gset (by assumption) (by omega)) | (refine Or.inr ⟨_, _, (by first | assumption | repeat (first | exact gnew | exact gsetn gnew | assumption | exact gsetn (by assumption) | exact gsetn (gset (by assumption) (by omega)) | refine gpush ?_ | refine gset ?_ (by first | omega | (simp; done) | (simp; omega)) )), (by simp), rfl⟩))), ?_⟩
                refine We.q rfl rfl rfl (Qk.not rfl) ?_
                refine We.q rfl rfl rfl (Qk.pickF rfl rfl) ?_
                refine We.q rfl rfl rfl (Qk.move rfl) ?_
                refine We.cells rfl rfl rfl rfl rfl sh41 (by first | assumption | repeat (first | exact gnew | exact gsetn gnew | assumption | exact gsetn (by assumption) | exact gsetn (gset (by assumption) (by omega)) | refine gpush ?_ | refine gset ?_ (by first | omega | (simp; done) | (simp; omega)) )) (by simp) (by first | (simp; done) | (rw [uc_len]; omega) | exact Nat.le_refl _) (by first | assumption | simp [sames, same, ssame]) (by repeat' (first | exact trivial | exact Or.inl rfl | apply And.intro | (refine Or.inr ?_; assumption) | (refine Or.inr ?_; exact gset (by assumption) (by omega)) | (refine Or.inr ⟨_, _, (by first | assumption | repeat (first | exact gnew | exact gsetn gnew | assumption | exact gsetn (by assumption) | exact gsetn (gset (by assumption) (by omega)) | refine gpush ?_ | refine gset ?_ (by first | omega | (simp; done) | (simp; omega)) )), (by simp), rfl⟩))) ?_
                refine We.cells rfl rfl rfl rfl rfl sh41 (by first | assumption | repeat (first | exact gnew | exact gsetn gnew | assumption | exact gsetn (by assumption) | exact gsetn (gset (by assumption) (by omega)) | refine gpush ?_ | refine gset ?_ (by first | omega | (simp; done) | (simp; omega)) )) (by simp) (by first | (simp; done) | (rw [uc_len]; omega) | exact Nat.le_refl _) (by first | assumption | simp [sames, same, ssame]) (by repeat' (first | exact trivial | exact Or.inl rfl | apply And.intro | (refine Or.inr ?_; assumption) | (refine Or.inr ?_; exact gset (by assumption) (by omega)) | (refine Or.inr ⟨_, _, (by first | assumption | repeat (first | exact gnew | exact gsetn gnew | assumption | exact gsetn (by assumption) | exact gsetn (gset (by assumption) (by omega)) | refine gpush ?_ | refine gset ?_ (by first | omega | (simp; done) | (simp; omega)) )), (by simp), rfl⟩))) ?_
                refine We.q rfl rfl rfl (Qk.move rfl) ?_
                refine We.q rfl rfl rfl (Qk.iaA rfl rfl ar25 (by constructor <;> omega)) ?_
                refine We.cell rfl rfl rfl rfl rfl sh5 (by first | assumption | repeat (first | exact gnew | exact gsetn gnew | assumption | exact gsetn (by assumption) | exact gsetn (gset (by assumption) (by omega)) | refine gpush ?_ | refine gset ?_ (by first | omega | (simp; done) | (simp; omega)) )) (by simp) (uc_at (by omega)) (by first | assumption | simp [same, ssame]) (by repeat' (first | exact trivial | exact Or.inl rfl | apply And.intro | (refine Or.inr ?_; assumption) | (refine Or.inr ?_; exact gset (by assumption) (by omega)) | (refine Or.inr ⟨_, _, (by first | assumption | repeat (first | exact gnew | exact gsetn gnew | assumption | exact gsetn (by assumption) | exact gsetn (gset (by assumption) (by omega)) | refine gpush ?_ | refine gset ?_ (by first | omega | (simp; done) | (simp; omega)) )), (by simp), rfl⟩))) ?_
                refine We.q rfl rfl rfl (Qk.cvt rfl und5 und3 (i64_in _ (by omega))) ?_
                refine We.c rfl rfl rfl (Ck.call rfl rfl) (by repeat' (first | exact trivial | exact Or.inl rfl | apply And.intro | (refine Or.inr ?_; assumption) | (refine Or.inr ?_; exact gset (by assumption) (by omega)) | (refine Or.inr ⟨_, _, (by first | assumption | repeat (first | exact gnew | exact gsetn gnew | assumption | exact gsetn (by assumption) | exact gsetn (gset (by assumption) (by omega)) | refine gpush ?_ | refine gset ?_ (by first | omega | (simp; done) | (simp; omega)) )), (by simp), rfl⟩))) ((c12 hK hXb2 ⟨hn1, hm6⟩ (by omega) hlaw2).mono ?_)
                rintro r v4 ⟨rfl, hov4⟩
                have q40 := hov4.get q40
                have q41 := hov4.get q41
                have q43 := hov4.get q43
                have q44 := hov4.get q44
                have qarr := hov4.get qarr
                refine ⟨(by repeat' (first | exact trivial | exact Or.inl rfl | apply And.intro | (refine Or.inr ?_; assumption) | (refine Or.inr ?_; exact gset (by assumption) (by omega)) | (refine Or.inr ⟨_, _, (by first | assumption | repeat (first | exact gnew | exact gsetn gnew | assumption | exact gsetn (by assumption) | exact gsetn (gset (by assumption) (by omega)) | refine gpush ?_ | refine gset ?_ (by first | omega | (simp; done) | (simp; omega)) )), (by simp), rfl⟩))), ?_⟩
                refine We.q rfl rfl rfl (Qk.not rfl) ?_
                refine We.q rfl rfl rfl (Qk.pickF rfl rfl) ?_
                refine We.next ?_
                refine Wc.condF rfl ?_
                refine Wc.skip ?_
                refine Wc.thence (fun _ _ => rfl) ?_
                refine Wc.region ?_
                refine Wk.q rfl rfl rfl (Qk.add rfl rfl (by omega)) ?_
                refine Wk.q rfl rfl rfl (Qk.move rfl) ?_
                refine Wk.next ?_
                refine Wc.finish fun fr hf => ?_
                exact ⟨(i + 1, v4), ⟨hil, ho11.trans (hov3.trans hov4)⟩, by dsimp only; omega, rfl, hf.less ⟨rfl, rfl, rfl, rfl, rfl, rfl, rfl, rfl, rfl, trivial⟩⟩
            · -- t219 = True
              have hil : j < M.length := by
                have : (j : Int) < (what.length : Int) := of_decide_eq_true h219
                omega
              have hwi : who.getD j 0 = (asgOf who j : Nat) := hP.num j hil
              have hhi : what.getD j 0 = (asgOf what j : Nat) := hQ.num j hil
              have hwlt := hP.asg.lt j hil
              have hhlt := hQ.asg.lt j hil
              have hcbi := hcb j hil
              have hdbi := hdb j hil
              have q5i := hosj.get q5
              have q7j := hosj.get q7
              refine Wk.next ?_
              refine Wc.assoc ?_
              refine Wc.condT rfl ?_
              refine Wc.skip ?_
              refine Wc.assoc ?_
              refine Wc.block ?_
              refine Wc.assoc ?_
              refine Wc.region ?_
              refine Wk.q rfl rfl rfl (Qk.move rfl) ?_
              refine Wk.q rfl rfl rfl (Qk.assign rfl) ?_
              refine Wk.next ?_
              refine Wc.assoc ?_
              refine Wc.assoc ?_
              refine Wc.region ?_
              refine Wk.q rfl rfl rfl (Qk.move rfl) ?_
              refine Wk.q rfl rfl rfl (Qk.lenR rfl rfl rfl hwhat sl29) ?_
              refine Wk.q rfl rfl rfl (Qk.move rfl) ?_
              refine Wk.next ?_
              refine Wc.block ?_
              refine Wc.loop (σ := Nat) (fun k => k ≤ M.length)
                (fun k => [(5, .pointer (some ⟨s.size, 0, none⟩)), (6, .pointer (some ⟨s.size + 1, 0, none⟩)), (7, .pointer (some ⟨s.size + 2, 0, none⟩)), (12, wv), (13, hv), (14, .pointer (some ⟨t4.size, 0, none⟩)), (16, .pointer (some ⟨t5.size, 0, none⟩)), (28, .slice axv M.length capx), (29, .slice ayv M.length capy), (31, .int .i64 j), (217, goInt what.length), (218, .int .i64 j), (222, goInt what.length), (223, .int .i64 k)]) (fun _ => sj) (fun k => M.length - k) 0
                (Nat.zero_le _) ⟨rfl, rfl, rfl, rfl, rfl, rfl, rfl, rfl, rfl, rfl, rfl, rfl, rfl, rfl, trivial⟩ rfl ?_
              rintro k hk
              refine Wc.assoc ?_
              refine Wc.region ?_
              refine Wk.b rfl rfl rfl (Qk.bin rfl rfl rfl) fun b h224 => ?_
              cases b
              · -- t224 = False
                refine Wk.next ?_
                refine Wc.assoc ?_
                refine Wc.condF rfl ?_
                refine Wc.jump (fun _ _ => rfl) ?_
                refine Wc.assoc ?_
                refine Wc.region ?_
                refine Wk.r rfl rfl rfl (Rk.cells rfl sh24 (by first | assumption | repeat (first | exact gnew | exact gsetn gnew | assumption | exact gsetn (by assumption) | exact gsetn (gset (by assumption) (by omega)) | refine gpush ?_ | refine gset ?_ (by first | omega | (simp; done) | (simp; omega)) )) (by simp) (by first | (simp; done) | (rw [uc_len]; omega) | exact Nat.le_refl _)) ?_
                refine Wk.q rfl rfl rfl (Qk.move rfl) ?_
                refine Wk.c rfl rfl rfl (Ck.call rfl rfl) ((c11 hK (hm.old hosj) hB hr hil).mono ?_)
                rintro r v1 ⟨rfl, _, hov1⟩
                generalize hX1 : lowOf M rent j = X1
                generalize hX2 : highOf M rent j = X2
                have hos1 : Old u3 v1 := hosj.trans hov1
                have hXb1 : -1000000000 ≤ X1 ∧ X1 ≤ 1000000000 := by rw [← hX1]; exact lowOf_bd hB hHO hr hil
                have hXb2 : -1000000000 ≤ X2 ∧ X2 ≤ 1000000000 := by rw [← hX2]; exact highOf_bd hB hHO hr hil
                refine Wk.q rfl rfl rfl (Qk.move rfl) ?_
                refine Wk.q rfl rfl rfl (Qk.extract rfl rfl) ?_
                refine Wk.q rfl rfl rfl (Qk.extract rfl rfl) ?_
                refine Wk.q rfl rfl rfl (Qk.extract rfl rfl) ?_
                refine Wk.f rfl rfl rfl (Fk.alloc ze41) ?_
                refine Wk.f rfl rfl rfl (Fk.alloc ze41) ?_
                refine Wk.h rfl rfl rfl (Hk.whole rfl rfl sh41 (by first | assumption | repeat (first | exact gnew | exact gsetn gnew | assumption | exact gsetn (by assumption) | exact gsetn (gset (by assumption) (by omega)) | refine gpush ?_ | refine gset ?_ (by first | omega | (simp; done) | (simp; omega)) )) rfl rfl (by first | rfl | (show (true && (Abs.scalar _ && true)) = true; rw [Bool.true_and, Bool.and_true]; assumption))) ?_
                refine Wk.h rfl rfl rfl (Hk.whole rfl rfl sh41 (by first | assumption | repeat (first | exact gnew | exact gsetn gnew | assumption | exact gsetn (by assumption) | exact gsetn (gset (by assumption) (by omega)) | refine gpush ?_ | refine gset ?_ (by first | omega | (simp; done) | (simp; omega)) )) rfl rfl (by first | rfl | (show (true && (Abs.scalar _ && true)) = true; rw [Bool.true_and, Bool.and_true]; assumption))) ?_
                refine Wk.q rfl rfl rfl (Qk.assign rfl) ?_
                refine Wk.next ?_
                refine Wc.store fun s12 e12 => ?_
                have hz1 : ∀ a : Blk, (v1.push a).size = v1.size + 1 := fun a => by simp
                rw [hz1] at e12 ⊢
                have ho9 : Old u3 s12 := by subst e12; exact (((hos1.gpush _).gpush _).gset hos1.1).gset (by have := hos1.1; omega)
                have q40 : s12.get v1.size = some ⟨[.int .i64 (X1 / (Nat.gcd X1.natAbs M.length : Nat)), .int .i64 ((M.length : Int) / (Nat.gcd X1.natAbs M.length : Nat))], .rw⟩ := by subst e12; exact gset (gsetn (gpush gnew)) (by omega)
                have q41 : s12.get (v1.size + 1) = some ⟨[.int .i64 (X2 / (Nat.gcd X2.natAbs M.length : Nat)), .int .i64 ((M.length : Int) / (Nat.gcd X2.natAbs M.length : Nat))], .rw⟩ := by subst e12; exact gsetn (gset g1 (by omega))
                have hszA : v1.size + 2 ≤ s12.size := by have := St.get_lt q41; omega
                clear e12
                refine Wc.assoc ?_
                refine Wc.draw ?_
                refine Wd.store' fun s13 e13 => ?_
                have ho10 : Old s12 s13 := by subst e13; exact Old.reserve _ _
                replace q40 := ho10.get q40
                replace q41 := ho10.get q41
                have hR43 : s13.get (s12.size + 10) = some ⟨[], .dead⟩ := by subst e13; exact gnone (by decide)
                have hR44 : s13.get (s12.size + 11) = some ⟨[], .dead⟩ := by subst e13; exact gnone (by decide)
                have hos10 : Old u3 s13 := ho9.trans ho10
                have q14x := hos10.get q14
                clear e13
                refine Wd.r rfl rfl rfl (Rk.cells rfl sh24 (by first | assumption | repeat (first | exact gnew | exact gsetn gnew | assumption | exact gsetn (by assumption) | exact gsetn (gset (by assumption) (by omega)) | refine gpush ?_ | refine gset ?_ (by first | omega | (simp; done) | (simp; omega)) )) (by simp) (by first | (simp; done) | (rw [uc_len]; omega) | exact Nat.le_refl _)) rfl ?_
                refine Wd.q rfl rfl rfl (Qk.move rfl) ?_
                refine Wd.q rfl rfl rfl (Qk.move rfl) ?_
                refine Wd.q rfl rfl rfl (Qk.at rfl rfl ar29 sl29 (hwhat.old (by assumption)) (by constructor <;> omega)) ?_
                refine Wd.r rfl rfl rfl (Rk.eqv (u := .int .i64 (asgOf what j : Nat)) (Rk.intR rfl sh3 (hwhat.old (by assumption)) (i := j) (by omega)) (by rw [hhi])) rfl ?_
                refine Wd.c rfl rfl rfl (Ck.call rfl rfl) rfl rfl ((c11 hK (hmH.old hos10) hBH hrH (j := asgOf what j) (by omega)).mono ?_)
                rintro r v2 ⟨rfl, _, hov2⟩
                rw [hHl]
                generalize hY1 : lowOf H (rent + Sm M.length (fun x => d6.getD x 0)) (asgOf what j) = Y1
                generalize hY2 : highOf H (rent + Sm M.length (fun x => d6.getD x 0)) (asgOf what j) = Y2
                have hos11 : Old u3 v2 := hos10.trans hov2
                replace q40 := hov2.get q40
                replace q41 := hov2.get q41
                replace hR43 := hov2.get hR43
                replace hR44 := hov2.get hR44
                have hl41 := St.get_lt q41
                have hl9 := ho9.1
                have hsz : v1.size + 2 ≤ s12.size := hszA
                refine Wd.q rfl rfl rfl (Qk.move rfl) ?_
                refine Wd.q rfl rfl rfl (Qk.extract rfl rfl) ?_
                refine Wd.q rfl rfl rfl (Qk.extract rfl rfl) ?_
                refine Wd.q rfl rfl rfl (Qk.extract rfl rfl) ?_
                refine Wd.f rfl rfl rfl (Fk.alloc ze41) ?_
                refine Wd.f rfl rfl rfl (Fk.alloc ze41) ?_
                refine Wd.h rfl rfl rfl (Hk.whole rfl rfl sh41 (by first | assumption | repeat (first | exact gnew | exact gsetn gnew | assumption | exact gsetn (by assumption) | exact gsetn (gset (by assumption) (by omega)) | refine gpush ?_ | refine gset ?_ (by first | omega | (simp; done) | (simp; omega)) )) rfl rfl (by first | rfl | (show (true && (Abs.scalar _ && true)) = true; rw [Bool.true_and, Bool.and_true]; assumption))) rfl rfl ?_
                refine Wd.h rfl rfl rfl (Hk.whole rfl rfl sh41 (by first | assumption | repeat (first | exact gnew | exact gsetn gnew | assumption | exact gsetn (by assumption) | exact gsetn (gset (by assumption) (by omega)) | refine gpush ?_ | refine gset ?_ (by first | omega | (simp; done) | (simp; omega)) )) rfl rfl (by first | rfl | (show (true && (Abs.scalar _ && true)) = true; rw [Bool.true_and, Bool.and_true]; assumption))) rfl rfl ?_
                refine Wd.q rfl rfl rfl (Qk.assign rfl) ?_
                refine Wd.next ?_
                refine Wc.store fun s14 e14 => ?_
                simp only [Nat.zero_add, Nat.reduceAdd] at e14 ⊢
                have ho11 : Old u3 s14 := by subst e14; exact (((hos11.gset (by omega)).gset (by omega)).gset (by omega)).gset (by omega)
                replace q40 : s14.get v1.size = some ⟨[.int .i64 (X1 / (Nat.gcd X1.natAbs M.length : Nat)), .int .i64 ((M.length : Int) / (Nat.gcd X1.natAbs M.length : Nat))], .rw⟩ := by subst e14; exact gset (gset (gset (gset q40 (by omega)) (by omega)) (by omega)) (by omega)
                replace q41 : s14.get (v1.size + 1) = some ⟨[.int .i64 (X2 / (Nat.gcd X2.natAbs M.length : Nat)), .int .i64 ((M.length : Int) / (Nat.gcd X2.natAbs M.length : Nat))], .rw⟩ := by subst e14; exact gset (gset (gset (gset q41 (by omega)) (by omega)) (by omega)) (by omega)
                have q43 : s14.get (s12.size + 10) = some ⟨[.int .i64 (Y1 / (Nat.gcd Y1.natAbs M.length : Nat)), .int .i64 ((M.length : Int) / (Nat.gcd Y1.natAbs M.length : Nat))], .rw⟩ := by subst e14; exact gset (gsetn (gset (gsetn hR43) (by omega))) (by omega)
                have q44 : s14.get (s12.size + 11) = some ⟨[.int .i64 (Y2 / (Nat.gcd Y2.natAbs M.length : Nat)), .int .i64 ((M.length : Int) / (Nat.gcd Y2.natAbs M.length : Nat))], .rw⟩ := by subst e14; exact gsetn (gset (gsetn (gset hR44 (by omega))) (by omega))
                have qarr := ho11.get q7
                have hlaw1 : Y1 = d6.getD j 0 * (M.length : Int) + X1 := by rw [← hY1, ← hX1]; exact law_low hSH hHl hHO hHOH hil
                have hlaw2 : Y2 = d6.getD j 0 * (M.length : Int) + X2 := by rw [← hY2, ← hX2]; exact law_high hSH hHl hHO hHOH hil
                clear e14
                refine Wc.assoc ?_
                refine Wc.drawE0 rfl ?_
                refine We.q rfl rfl rfl (Qk.move rfl) ?_
                refine We.b rfl rfl rfl (Qk.bin rfl rfl rfl) fun b h299 => ?_
                obtain rfl : b = false := by exact h299.symm -- t299
                refine We.q rfl rfl rfl (Qk.move rfl) ?_
                refine We.q rfl rfl rfl (Qk.move rfl) ?_
                refine We.b rfl rfl rfl (Qk.bin rfl rfl rfl) fun b h302 => ?_
                obtain rfl : b = false := by exact h302.symm -- t302
                refine We.q rfl rfl rfl (Qk.pickF rfl rfl) ?_
                refine We.q rfl rfl rfl (Qk.move rfl) ?_
                refine We.cells rfl rfl rfl rfl rfl sh41 (by first | assumption | repeat (first | exact gnew | exact gsetn gnew | assumption | exact gsetn (by assumption) | exact gsetn (gset (by assumption) (by omega)) | refine gpush ?_ | refine gset ?_ (by first | omega | (simp; done) | (simp; omega)) )) (by simp) (by first | (simp; done) | (rw [uc_len]; omega) | exact Nat.le_refl _) (by first | assumption | simp [sames, same, ssame]) (by repeat' (first | exact trivial | exact Or.inl rfl | apply And.intro | (refine Or.inr ?_; assumption) | (refine Or.inr ?_; exact gset (by assumption) (by omega)) | (refine Or.inr ⟨_, _, (by first | assumption | repeat (first | exact gnew | exact gsetn gnew | assumption | exact gsetn (by assumption) | exact gsetn (gset (by assumption) (by omega)) | refine gpush ?_ | refine gset ?_ (by first | omega | (simp; done) | (simp; omega)) )), (by simp), rfl⟩))) ?_
                refine We.cells rfl rfl rfl rfl rfl sh41 (by first | assumption | repeat (first | exact gnew | exact gsetn gnew | assumption | exact gsetn (by assumption) | exact gsetn (gset (by assumption) (by omega)) | refine gpush ?_ | refine gset ?_ (by first | omega | (simp; done) | (simp; omega)) )) (by simp) (by first | (simp; done) | (rw [uc_len]; omega) | exact Nat.le_refl _) (by first | assumption | simp [sames, same, ssame]) (by repeat' (first | exact trivial | exact Or.inl rfl | apply And.intro | (refine Or.inr ?_; assumption) | (refine Or.inr ?_; exact gset (by assumption) (by omega)) | (refine Or.inr ⟨_, _, (by first | assumption | repeat (first | exact gnew | exact gsetn gnew | assumption | exact gsetn (by assumption) | exact gsetn (gset (by assumption) (by omega)) | refine gpush ?_ | refine gset ?_ (by first | omega | (simp; done) | (simp; omega)) )), (by simp), rfl⟩))) ?_
                refine We.q rfl rfl rfl (Qk.move rfl) ?_
                refine We.q rfl rfl rfl (Qk.iaA rfl rfl ar25 (by constructor <;> omega)) ?_
                refine We.cell rfl rfl rfl rfl rfl sh5 (by first | assumption | repeat (first | exact gnew | exact gsetn gnew | assumption | exact gsetn (by assumption) | exact gsetn (gset (by assumption) (by omega)) | refine gpush ?_ | refine gset ?_ (by first | omega | (simp; done) | (simp; omega)) )) (by simp) (uc_at (by omega)) (by first | assumption | simp [same, ssame]) (by repeat' (first | exact trivial | exact Or.inl rfl | apply And.intro | (refine Or.inr ?_; assumption) | (refine Or.inr ?_; exact gset (by assumption) (by omega)) | (refine Or.inr ⟨_, _, (by first | assumption | repeat (first | exact gnew | exact gsetn gnew | assumption | exact gsetn (by assumption) | exact gsetn (gset (by assumption) (by omega)) | refine gpush ?_ | refine gset ?_ (by first | omega | (simp; done) | (simp; omega)) )), (by simp), rfl⟩))) ?_
                refine We.q rfl rfl rfl (Qk.cvt rfl und5 und3 (i64_in _ (by omega))) ?_
                refine We.c rfl rfl rfl (Ck.call rfl rfl) (by repeat' (first | exact trivial | exact Or.inl rfl | apply And.intro | (refine Or.inr ?_; assumption) | (refine Or.inr ?_; exact gset (by assumption) (by omega)) | (refine Or.inr ⟨_, _, (by first | assumption | repeat (first | exact gnew | exact gsetn gnew | assumption | exact gsetn (by assumption) | exact gsetn (gset (by assumption) (by omega)) | refine gpush ?_ | refine gset ?_ (by first | omega | (simp; done) | (simp; omega)) )), (by simp), rfl⟩))) ((c12 hK hXb1 ⟨hn1, hm6⟩ (by omega) hlaw1).mono ?_)
                rintro r v3 ⟨rfl, hov3⟩
                have q40 := hov3.get q40
                have q41 := hov3.get q41
                have q43 := hov3.get q43
                have q44 := hov3.get q44
                have qarr := hov3.get qarr
                refine ⟨(by repeat' (first | exact trivial | exact Or.inl rfl | apply And.intro | (refine Or.inr ?_; assumption) | (refine Or.inr ?_; exact gset (by assumption) (by omega)) | (refine Or.inr ⟨_, _, (by first | assumption | repeat (first | exact gnew | exact gsetn gnew | assumption | exact gsetn (by assumption) | exact gsetn (gset (by assumption) (by omega)) | refine gpush ?_ | refine gset ?_ (by first | omega | (simp; done) | (simp; omega)) )), (by simp), rfl⟩))), ?_⟩
                refine We.q rfl rfl rfl (Qk.not rfl) ?_
                refine We.q rfl rfl rfl (Qk.pickF rfl rfl) ?_
                refine We.q rfl rfl rfl (Qk.move rfl) ?_
                refine We.cells rfl rfl rfl rfl rfl sh41 (by first | assumption | repeat (first | exact gnew | exact gsetn gnew | assumption | exact gsetn (by assumption) | exact gsetn (gset (by assumption) (by omega)) | refine gpush ?_ | refine gset ?_ (by first | omega | (simp; done) | (simp; omega)) )) (by simp) (by first | (simp; done) | (rw [uc_len]; omega) | exact Nat.le_refl _) (by first | assumption | simp [sames, same, ssame]) (by repeat' (first | exact trivial | exact Or.inl rfl | apply And.intro | (refine Or.inr ?_; assumption) | (refine Or.inr ?_; exact gset (by assumption) (by omega)) | (refine Or.inr ⟨_, _, (by first | assumption | repeat (first | exact gnew | exact gsetn gnew | assumption | exact gsetn (by assumption) | exact gsetn (gset (by assumption) (by omega)) | refine gpush ?_ | refine gset ?_ (by first | omega | (simp; done) | (simp; omega)) )), (by simp), rfl⟩))) ?_
                refine We.cells rfl rfl rfl rfl rfl sh41 (by first | assumption | repeat (first | exact gnew | exact gsetn gnew | assumption | exact gsetn (by assumption) | exact gsetn (gset (by assumption) (by omega)) | refine gpush ?_ | refine gset ?_ (by first | omega | (simp; done) | (simp; omega)) )) (by simp) (by first | (simp; done) | (rw [uc_len]; omega) | exact Nat.le_refl _) (by first | assumption | simp [sames, same, ssame]) (by repeat' (first | exact trivial | exact Or.inl rfl | apply And.intro | (refine Or.inr ?_; assumption) | (refine Or.inr ?_; exact gset (by assumption) (by omega)) | (refine Or.inr ⟨_, _, (by first | assumption | repeat (first | exact gnew | exact gsetn gnew | assumption | exact gsetn (by assumption) | exact gsetn (gset (by assumption) (by omega)) | refine gpush ?_ | refine gset ?_ (by first | omega | (simp; done) | (simp; omega)) )), (by simp), rfl⟩))) ?_
                refine We.q rfl rfl rfl (Qk.move rfl) ?_
                refine We.q rfl rfl rfl (Qk.iaA rfl rfl ar25 (by constructor <;> omega)) ?_
                refine We.cell rfl rfl rfl rfl rfl sh5 (by first | assumption | repeat (first | exact gnew | exact gsetn gnew | assumption | exact gsetn (by assumption) | exact gsetn (gset (by assumption) (by omega)) | refine gpush ?_ | refine gset ?_ (by first | omega | (simp; done) | (simp; omega)) )) (by simp) (uc_at (by omega)) (by first | assumption | simp [same, ssame]) (by repeat' (first | exact trivial | exact Or.inl rfl | apply And.intro | (refine Or.inr ?_; assumption) | (refine Or.inr ?_; exact gset (by assumption) (by omega)) | (refine Or.inr ⟨_, _, (by first | assumption | repeat (first | exact gnew | exact gsetn gnew | assumption | exact gsetn (by assumption) | exact gsetn (gset (by assumption) (by omega)) | refine gpush ?_ | refine gset ?_ (by first | omega | (simp; done) | (simp; omega)) )), (by simp), rfl⟩))) ?_
                refine We.q rfl rfl rfl (Qk.cvt rfl und5 und3 (i64_in _ (by omega))) ?_
                refine We.c rfl rfl rfl (Ck.call rfl rfl) (by repeat' (first | exact trivial | exact Or.inl rfl | apply And.intro | (refine Or.inr ?_; assumption) | (refine Or.inr ?_; exact gset (by assumption) (by omega)) | (refine Or.inr ⟨_, _, (by first | assumption | repeat (first | exact gnew | exact gsetn gnew | assumption | exact gsetn (by assumption) | exact gsetn (gset (by assumption) (by omega)) | refine gpush ?_ | refine gset ?_ (by first | omega | (simp; done) | (simp; omega)) )), (by simp), rfl⟩))) ((c12 hK hXb2 ⟨hn1, hm6⟩ (by omega) hlaw2).mono ?_)
                rintro r v4 ⟨rfl, hov4⟩
                have q40 := hov4.get q40
                have q41 := hov4.get q41
                have q43 := hov4.get q43
                have q44 := hov4.get q44
                have qarr := hov4.get qarr
                refine ⟨(by repeat' (first | exact trivial | exact Or.inl rfl | apply And.intro | (refine Or.inr ?_; assumption) | (refine Or.inr ?_; exact gset (by assumption) (by omega)) | (refine Or.inr ⟨_, _, (by first | assumption | repeat (first | exact gnew | exact gsetn gnew | assumption | exact gsetn (by assumption) | exact gsetn (gset (by assumption) (by omega)) | refine gpush ?_ | refine gset ?_ (by first | omega | (simp; done) | (simp; omega)) )), (by simp), rfl⟩))), ?_⟩
                refine We.q rfl rfl rfl (Qk.not rfl) ?_
                refine We.q rfl rfl rfl (Qk.pickF rfl rfl) ?_
                refine We.next ?_
                refine Wc.condF rfl ?_
                refine Wc.skip ?_
                refine Wc.thence (fun _ _ => rfl) ?_
                refine Wc.region ?_
                refine Wk.q rfl rfl rfl (Qk.add rfl rfl (by omega)) ?_
                refine Wk.q rfl rfl rfl (Qk.move rfl) ?_
                refine Wk.next ?_
                refine Wc.finish fun fr hf => ?_
                exact ⟨(j + 1, v4), ⟨hil, ho11.trans (hov3.trans hov4)⟩, by dsimp only; omega, rfl, hf.less ⟨rfl, rfl, rfl, rfl, rfl, rfl, rfl, rfl, rfl, rfl, rfl, trivial⟩⟩
              · -- t224 = True
                have hkl : k < M.length := by
                  have : (k : Int) < (what.length : Int) := of_decide_eq_true h224
                  omega
                have hhk : what.getD k 0 = (asgOf what k : Nat) := hQ.num k hkl
                have hklt := hQ.asg.lt k hkl
                have hdbk := hdb k hkl
                have hXj := hrowX j hil
                have hYj := hrowY (asgOf what j) hhlt
                have hlXj := hlX j hil
                have hlYj := hlY (asgOf what j) hhlt
                have vX : (rowM (tab M.length (LK M)) j).getD k 0 = LK M j k := tab_mat hil hkl
                have vY : (rowM (tab M.length (LK H)) (asgOf what j)).getD (asgOf what k) 0 = LK H (asgOf what j) (asgOf what k) := tab_mat hhlt hklt
                have bX := LK_bd hB hHO hil hkl
                refine Wk.next ?_
                refine Wc.assoc ?_
                refine Wc.condT rfl ?_
                refine Wc.skip ?_
                refine Wc.assoc ?_
                refine Wc.block ?_
                refine Wc.assoc ?_
                refine Wc.region ?_
                refine Wk.q rfl rfl rfl (Qk.move rfl) ?_
                refine Wk.q rfl rfl rfl (Qk.assign rfl) ?_
                refine Wk.next ?_
                refine Wc.assoc ?_
                refine Wc.draw0 rfl ?_
                refine Wd.q rfl rfl rfl (Qk.move rfl) ?_
                refine Wd.q rfl rfl rfl (Qk.move rfl) ?_
                refine Wd.q rfl rfl rfl (Qk.at rfl rfl ar22 sl22 (hXr.old (by assumption)) (by constructor <;> omega)) ?_
                refine Wd.r rfl rfl rfl (Rk.atS rfl sh29 (hXr.old (by assumption)) (i := j) (by omega) rfl) (by kernel_rfl) ?_
                refine Wd.q rfl rfl rfl (Qk.lenR rfl rfl rfl hXj sl29) ?_
                refine Wd.q rfl rfl rfl (Qk.move rfl) ?_
                refine Wd.q rfl rfl rfl (Qk.lenR rfl rfl rfl hwhat sl29) ?_
                refine Wd.b rfl rfl rfl (Qk.bin rfl rfl rfl) fun b h233 => ?_
                obtain rfl : b = false := by rw [← h233, hlXj]; simp [hhl] -- t233
                refine Wd.q rfl rfl rfl (Qk.move rfl) ?_
                refine Wd.q rfl rfl rfl (Qk.move rfl) ?_
                refine Wd.q rfl rfl rfl (Qk.move rfl) ?_
                refine Wd.q rfl rfl rfl (Qk.move rfl) ?_
                refine Wd.q rfl rfl rfl (Qk.at rfl rfl ar29 sl29 (hwhat.old (by assumption)) (by constructor <;> omega)) ?_
                refine Wd.r rfl rfl rfl (Rk.eqv (u := .int .i64 (asgOf what j : Nat)) (Rk.intR rfl sh3 (hwhat.old (by assumption)) (i := j) (by omega)) (by rw [hhi])) (by kernel_rfl) ?_
                refine Wd.q rfl rfl rfl (Qk.at rfl rfl ar22 sl22 (hYr.old (by assumption)) (by constructor <;> omega)) ?_
                refine Wd.r rfl rfl rfl (Rk.atS rfl sh29 (hYr.old (by assumption)) (i := (asgOf what j)) (by omega) rfl) (by kernel_rfl) ?_
                refine Wd.q rfl rfl rfl (Qk.lenR rfl rfl rfl hYj sl29) ?_
                refine Wd.q rfl rfl rfl (Qk.move rfl) ?_
                refine Wd.q rfl rfl rfl (Qk.lenR rfl rfl rfl hwhat sl29) ?_
                refine Wd.b rfl rfl rfl (Qk.bin rfl rfl rfl) fun b h245 => ?_
                obtain rfl : b = false := by rw [← h245, hlYj]; simp [hhl] -- t245
                refine Wd.q rfl rfl rfl (Qk.pickF rfl rfl) ?_
                refine Wd.q rfl rfl rfl (Qk.move rfl) ?_
                refine Wd.q rfl rfl rfl (Qk.move rfl) ?_
                refine Wd.q rfl rfl rfl (Qk.move rfl) ?_
                refine Wd.q rfl rfl rfl (Qk.move rfl) ?_
                refine Wd.q rfl rfl rfl (Qk.at rfl rfl ar29 sl29 (hwhat.old (by assumption)) (by constructor <;> omega)) ?_
                refine Wd.r rfl rfl rfl (Rk.eqv (u := .int .i64 (asgOf what j : Nat)) (Rk.intR rfl sh3 (hwhat.old (by assumption)) (i := j) (by omega)) (by rw [hhi])) (by kernel_rfl) ?_
                refine Wd.q rfl rfl rfl (Qk.at rfl rfl ar22 sl22 (hYr.old (by assumption)) (by constructor <;> omega)) ?_
                refine Wd.r rfl rfl rfl (Rk.atS rfl sh29 (hYr.old (by assumption)) (i := (asgOf what j)) (by omega) rfl) (by kernel_rfl) ?_
                refine Wd.q rfl rfl rfl (Qk.move rfl) ?_
                refine Wd.q rfl rfl rfl (Qk.move rfl) ?_
                refine Wd.q rfl rfl rfl (Qk.at rfl rfl ar29 sl29 (hwhat.old (by assumption)) (by constructor <;> omega)) ?_
                refine Wd.r rfl rfl rfl (Rk.eqv (u := .int .i64 (asgOf what k : Nat)) (Rk.intR rfl sh3 (hwhat.old (by assumption)) (i := k) (by omega)) (by rw [hhk])) (by kernel_rfl) ?_
                refine Wd.q rfl rfl rfl (Qk.at rfl rfl ar29 sl29 (hYj.old (by assumption)) (by constructor <;> omega)) ?_
                refine Wd.r rfl rfl rfl (Rk.intR rfl sh3 (hYj.old (by assumption)) (i := (asgOf what k)) (by omega)) (by kernel_rfl) ?_
                refine Wd.q rfl rfl rfl (Qk.move rfl) ?_
                refine Wd.q rfl rfl rfl (Qk.move rfl) ?_
                refine Wd.q rfl rfl rfl (Qk.at rfl rfl ar22 sl22 (hXr.old (by assumption)) (by constructor <;> omega)) ?_
                refine Wd.r rfl rfl rfl (Rk.atS rfl sh29 (hXr.old (by assumption)) (i := j) (by omega) rfl) (by kernel_rfl) ?_
                refine Wd.q rfl rfl rfl (Qk.move rfl) ?_
                refine Wd.q rfl rfl rfl (Qk.at rfl rfl ar29 sl29 (hXj.old (by assumption)) (by constructor <;> omega)) ?_
                refine Wd.r rfl rfl rfl (Rk.intR rfl sh3 (hXj.old (by assumption)) (i := k) (by omega)) (by kernel_rfl) ?_
                refine Wd.q rfl rfl rfl (Qk.move rfl) ?_
                refine Wd.q rfl rfl rfl (Qk.iaA rfl rfl ar25 (by constructor <;> omega)) ?_
                refine Wd.r rfl rfl rfl (Rk.cell rfl sh5 (by first | assumption | repeat (first | exact gnew | exact gsetn gnew | assumption | exact gsetn (by assumption) | exact gsetn (gset (by assumption) (by omega)) | refine gpush ?_ | refine gset ?_ (by first | omega | (simp; done) | (simp; omega)) )) (by simp) (uc_at (by omega))) (by kernel_rfl) ?_
                refine Wd.q rfl rfl rfl (Qk.cvt rfl und5 und3 (i64_in _ (by omega))) ?_
                refine Wd.q rfl rfl rfl (Qk.add rfl rfl (by omega)) ?_
                refine Wd.q rfl rfl rfl (Qk.move rfl) ?_
                refine Wd.q rfl rfl rfl (Qk.iaA rfl rfl ar25 (by constructor <;> omega)) ?_
                refine Wd.r rfl rfl rfl (Rk.cell rfl sh5 (by first | assumption | repeat (first | exact gnew | exact gsetn gnew | assumption | exact gsetn (by assumption) | exact gsetn (gset (by assumption) (by omega)) | refine gpush ?_ | refine gset ?_ (by first | omega | (simp; done) | (simp; omega)) )) (by simp) (uc_at (by omega))) (by kernel_rfl) ?_
                refine Wd.q rfl rfl rfl (Qk.cvt rfl und5 und3 (i64_in _ (by omega))) ?_
                refine Wd.q rfl rfl rfl (Qk.sub rfl rfl (by omega)) ?_
                refine Wd.b rfl rfl rfl (Qk.bin rfl rfl rfl) fun b h278 => ?_
                obtain rfl : b = false := by rw [← h278, vY, vX, law_link hSH hHl hHO hHOH hil hkl]; simp -- t278
                refine Wd.q rfl rfl rfl (Qk.pickF rfl rfl) ?_
                refine Wd.next ?_
                refine Wc.condF rfl ?_
                refine Wc.skip ?_
                refine Wc.thence (fun _ _ => rfl) ?_
                refine Wc.region ?_
                refine Wk.q rfl rfl rfl (Qk.add rfl rfl (by omega)) ?_
                refine Wk.q rfl rfl rfl (Qk.move rfl) ?_
                refine Wk.next ?_
                refine Wc.finish fun fr hf => ?_
                exact ⟨k + 1, hkl, by omega, rfl, hf.less ⟨rfl, rfl, rfl, rfl, rfl, rfl, rfl, rfl, rfl, rfl, rfl, rfl, rfl, rfl, trivial⟩⟩
          · -- t155 = True
            have hil : i < M.length := by
              have : (i : Int) < (a.length : Int) := of_decide_eq_true h155
              omega
            have hwi : who.getD i 0 = (asgOf who i : Nat) := hP.num i hil
            have hhi : what.getD i 0 = (asgOf what i : Nat) := hQ.num i hil
            have hwlt := hP.asg.lt i hil
            have hhlt := hQ.asg.lt i hil
            have hcbi := hcb i hil
            have hdbi := hdb i hil
            have hai := hA.asg.lt i hil
            have hni : a.getD i 0 = (asgOf a i : Nat) := by have := hA.nonneg i hil; unfold asgOf; omega
            have hhai : what.getD (asgOf a i) 0 = (asgOf what (asgOf a i) : Nat) := hQ.num _ hai
            refine Wk.next ?_
            refine Wc.assoc ?_
            refine Wc.condT rfl ?_
            refine Wc.skip ?_
            refine Wc.assoc ?_
            refine Wc.block ?_
            refine Wc.assoc ?_
            refine Wc.region ?_
            refine Wk.q rfl rfl rfl (Qk.move rfl) ?_
            refine Wk.q rfl rfl rfl (Qk.at rfl rfl ar29 sl29 (ha.old (by assumption)) (by constructor <;> omega)) ?_
            refine Wk.r rfl rfl rfl (Rk.eqv (u := .int .i64 (asgOf a i : Nat)) (Rk.intR rfl sh3 (ha.old (by assumption)) (i := i) (by omega)) (by rw [hni])) ?_
            refine Wk.q rfl rfl rfl (Qk.assign rfl) ?_
            refine Wk.q rfl rfl rfl (Qk.assign rfl) ?_
            refine Wk.next ?_
            refine Wc.draw0 rfl ?_
            refine Wd.q rfl rfl rfl (Qk.move rfl) ?_
            refine Wd.q rfl rfl rfl (Qk.move rfl) ?_
            refine Wd.q rfl rfl rfl (Qk.move rfl) ?_
            refine Wd.q rfl rfl rfl (Qk.at rfl rfl ar29 sl29 (hwho.old (by assumption)) (by constructor <;> omega)) ?_
            refine Wd.r rfl rfl rfl (Rk.eqv (u := .int .i64 (asgOf who i : Nat)) (Rk.intR rfl sh3 (hwho.old (by assumption)) (i := i) (by omega)) (by rw [hwi])) rfl ?_
            refine Wd.q rfl rfl rfl (Qk.move rfl) ?_
            refine Wd.q rfl rfl rfl (Qk.move rfl) ?_
            refine Wd.q rfl rfl rfl (Qk.at rfl rfl ar29 sl29 (hwhat.old (by assumption)) (by constructor <;> omega)) ?_
            refine Wd.r rfl rfl rfl (Rk.eqv (u := .int .i64 (asgOf what (asgOf a i) : Nat)) (Rk.intR rfl sh3 (hwhat.old (by assumption)) (i := (asgOf a i)) (by omega)) (by rw [hhai])) rfl ?_
            refine Wd.q rfl rfl rfl (Qk.at1 rfl rfl ar29 sl29 (by constructor <;> omega)) ?_
            refine Wd.h rfl rfl rfl (Hk.int (i := (asgOf who i)) rfl rfl sh3 (by first | assumption | repeat (first | exact gnew | exact gsetn gnew | assumption | exact gsetn (by assumption) | exact gsetn (gset (by assumption) (by omega)) | refine gpush ?_ | refine gset ?_ (by first | omega | (simp; done) | (simp; omega)) )) (by first | omega | (simp; omega))) rfl rfl ?_
            refine Wd.next ?_
            refine Wc.store fun s15 e15 => ?_
            have ho15 : Old t9 s15 := by subst e15; exact hosl.gset (Nat.le_refl _)
            have q24 : s15.get t9.size = some ⟨ic (bl.set (asgOf who i) (asgOf what (asgOf a i) : Nat)), .rw⟩ := by subst e15; exact gsetn q24
            clear e15
            refine Wc.thence (fun _ _ => rfl) ?_
            refine Wc.region ?_
            refine Wk.q rfl rfl rfl (Qk.add rfl rfl (by omega)) ?_
            refine Wk.q rfl rfl rfl (Qk.move rfl) ?_
            refine Wk.next ?_
            refine Wc.finish fun fr hf => ?_
            refine ⟨(i + 1, bl.set (asgOf who i) (asgOf what (asgOf a i) : Nat), s15), ⟨hil, by simpa using hbl, ho15, q24, fun k hk => ?_⟩, by dsimp only; omega, rfl, hf.less ⟨rfl, rfl, rfl, rfl, rfl, rfl, rfl, rfl, rfl, rfl, rfl, rfl, rfl, trivial⟩⟩
            dsimp only at hk ⊢
            rw [getD_set (by omega)]
            by_cases e : k = i
            · subst e; rw [if_pos rfl]
            · rw [if_neg (fun e2 => e (hP.asg.inj _ _ (by omega) hil e2.symm))]
              exact hblv k (by omega)
        · -- t112 = True
          refine Wk.q rfl rfl rfl (Qk.pickF rfl rfl) ?_
          refine Wk.next ?_
          refine Wc.condT rfl ?_
          refine Wc.assoc ?_
          refine Wc.region ?_
          refine Wk.q rfl rfl rfl (Qk.move rfl) ?_
          refine Wk.q rfl rfl rfl (Qk.assign rfl) ?_
          refine Wk.next ?_
          refine Wc.done'' (fun _ _ => rfl) rfl ?_
          rfl
      · -- t108 = True
        refine Wk.q rfl rfl rfl (Qk.move rfl) ?_
        refine Wk.no rfl rfl rfl ?_
        refine Wk.no rfl rfl rfl ?_
        refine Wk.no rfl rfl rfl ?_
        refine Wk.q rfl rfl rfl (Qk.pickT rfl rfl) ?_
        refine Wk.next ?_
        refine Wc.condT rfl ?_
        refine Wc.assoc ?_
        refine Wc.region ?_
        refine Wk.q rfl rfl rfl (Qk.move rfl) ?_
        refine Wk.q rfl rfl rfl (Qk.assign rfl) ?_
        refine Wk.next ?_
        refine Wc.done'' (fun _ _ => rfl) rfl ?_
        rfl
    · -- t63 = True
      refine Wk.q rfl rfl rfl (Qk.pickF rfl rfl) ?_
      refine Wk.next ?_
      refine Wc.condT rfl ?_
      refine Wc.assoc ?_
      refine Wc.region ?_
      refine Wk.q rfl rfl rfl (Qk.move rfl) ?_
      refine Wk.q rfl rfl rfl (Qk.assign rfl) ?_
      refine Wk.next ?_
      refine Wc.done'' (fun _ _ => rfl) rfl ?_
      rfl
  · -- t58 = True
    refine Wk.q rfl rfl rfl (Qk.pickF rfl rfl) ?_
    refine Wk.q rfl rfl rfl (Qk.move rfl) ?_
    refine Wk.no rfl rfl rfl ?_
    refine Wk.no rfl rfl rfl ?_
    refine Wk.no rfl rfl rfl ?_
    refine Wk.q rfl rfl rfl (Qk.pickT rfl rfl) ?_
    refine Wk.next ?_
    refine Wc.condT rfl ?_
    refine Wc.assoc ?_
    refine Wc.region ?_
    refine Wk.q rfl rfl rfl (Qk.move rfl) ?_
    refine Wk.q rfl rfl rfl (Qk.assign rfl) ?_
    refine Wk.next ?_
    refine Wc.done'' (fun _ _ => rfl) rfl ?_
    rfl
end Go.Proofs.Ytfgnjndicidpkaa
