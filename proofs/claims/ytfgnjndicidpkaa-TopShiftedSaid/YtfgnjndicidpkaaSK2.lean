/- The least and the greatest price of a room. -/
import Derived.Test.YtfgnjndicidpkaaSJ
namespace Go.Proofs.Ytfgnjndicidpkaa
open Go.Abs
variable {K : Known}
theorem g1 {s : St} {a b : Blk} : ((s.push a).push b).get (s.size + 1) = some b := by
  have := gnew (s := s.push a) (k := b)
  simpa using this
theorem g2 {s : St} {a b c : Blk} : (((s.push a).push b).push c).get (s.size + 2) = some c := by
  have := gnew (s := (s.push a).push b) (k := c)
  simpa using this
theorem Sm.bd64 {n : Nat} {g : Nat → Int} (h : ∀ i, i < n → -64000000 ≤ g i ∧ g i ≤ 64000000) : -((n : Int) * 64000000) ≤ Sm n g ∧ Sm n g ≤ n * 64000000 := by
  induction n with
  | zero => simp [Sm]
  | succ n ih =>
    have h1 := ih fun i hi => h i (by omega)
    have h2 := h n (by omega)
    simp only [Sm]
    omega

noncomputable def lowOf (M : List (List Int)) (rent : Int) (j : Nat) : Int := rent + Sm M.length (fun x => LK M x j)
noncomputable def highOf (M : List (List Int)) (rent : Int) (j : Nat) : Int := rent - Sm M.length (fun x => LK M j x)
set_option maxHeartbeats 4000000 in
set_option maxRecDepth 100000 in
theorem c11 (hK : Late K) {M : List (List Int)} {v : Value} {rent : Int} {j : Nat} {s : St} (hm : MRow s v M) (hB : Bids M) (hr : 0 ≤ rent ∧ rent ≤ 10000000) (hj : j < M.length) :
    Ev Try.prog K (.func (.func 11) #[] #[]) [.agg #[v, .int .i64 rent], .int .i64 j] s fun r s' => r = .tuple #[rat (lowOf M rent j) M.length, rat (highOf M rent j) M.length, .int .i64 0] ∧ HasOpt M ∧ Old s s' := by
  refine Ev.enterK (hK.none (by decide) _) Try.func11 rfl rfl (Nat.le_of_ble_eq_true rfl) ?_
  refine Wc.tail ?_
  refine Wc.assoc ?_
  refine Wc.region ?_
  refine Wk.f rfl rfl rfl (Fk.box rfl rfl) ?_
  refine Wk.f rfl rfl rfl (Fk.alloc ze41) ?_
  refine Wk.f rfl rfl rfl (Fk.alloc ze41) ?_
  refine Wk.q rfl rfl rfl (Qk.assign rfl) ?_
  refine Wk.next ?_
  refine Wc.store fun s1 e1 => ?_
  have hz2 : ∀ a b : Blk, ((s.push a).push b).size = s.size + 2 := fun a b => by simp
  have hz1 : ∀ a : Blk, (s.push a).size = s.size + 1 := fun a => by simp
  have ho1 : Old s s1 := by subst e1; exact ((Old.push _ _).gpush _).gpush _
  have hg0 : s1.get s.size = some ⟨[v, .int .i64 rent], .rw⟩ := by subst e1; exact gpush (gpush gnew)
  have hg4 : s1.get (s.size + 1) = some ⟨[.int .i64 0, .int .i64 0], .rw⟩ := by subst e1; exact gpush g1
  have hg5 : s1.get (s.size + 2) = some ⟨[.int .i64 0, .int .i64 0], .rw⟩ := by subst e1; exact g2
  rw [hz2, hz1]
  refine Wc.assoc ?_
  refine Wc.region ?_
  refine Wk.r rfl rfl rfl (Rk.cells rfl sh24 (by first | assumption | repeat (first | exact gnew | exact gsetn gnew | assumption | exact gsetn (by assumption) | refine gpush ?_ | refine gset ?_ (by first | omega | (simp; omega)) )) (by simp) (by simp)) ?_
  refine Wk.c rfl rfl rfl (Ck.call rfl rfl) ((c10 hK (hm.old ho1) hB hr).mono ?_)
  rintro r t2 ⟨ov, rfl, hL, hO, ho2⟩
  obtain ⟨rvl, hLr, hLrow⟩ := hL
  rw [tab_len] at hLr
  simp only [tab_len] at hLrow
  have hLr0 := hLr
  obtain ⟨ao, capo, hove, _⟩ := hLr0
  subst hove
  have hg0 := ho2.get hg0
  have hg4 := ho2.get hg4
  have hg5 := ho2.get hg5
  have ho12 := ho1.trans ho2
  have hlen : ∀ k, k < M.length → (rowM (tab M.length (LK M)) k).length = M.length := fun k hk => by rw [tab_row hk]; simp
  have hm6 := hB.most
  refine Wk.q rfl rfl rfl (Qk.move rfl) ?_
  refine Wk.q rfl rfl rfl (Qk.extract rfl rfl) ?_
  refine Wk.q rfl rfl rfl (Qk.extract rfl rfl) ?_
  refine Wk.q rfl rfl rfl (Qk.assign rfl) ?_
  refine Wk.q rfl rfl rfl (Qk.assign rfl) ?_
  refine Wk.next ?_
  refine Wc.assoc ?_
  refine Wc.assoc ?_
  refine Wc.region ?_
  refine Wk.q rfl rfl rfl (Qk.move rfl) ?_
  refine Wk.b rfl rfl rfl (Qk.bin rfl rfl rfl) fun b h17 => ?_
  obtain rfl : b = false := by exact h17.symm -- t17
  refine Wk.next ?_
  refine Wc.condF rfl ?_
  refine Wc.skip ?_
  refine Wc.assoc ?_
  refine Wc.assoc ?_
  refine Wc.region ?_
  refine Wk.q rfl rfl rfl (Qk.move rfl) ?_
  refine Wk.b rfl rfl rfl (Qk.bin rfl rfl rfl) fun b h22 => ?_
  obtain rfl : b = false := by rw [← h22, decide_eq_false_iff_not]; omega -- t22
  refine Wk.q rfl rfl rfl (Qk.move rfl) ?_
  refine Wk.q rfl rfl rfl (Qk.move rfl) ?_
  refine Wk.q rfl rfl rfl (Qk.move rfl) ?_
  refine Wk.q rfl rfl rfl (Qk.lenR rfl rfl rfl hLr sl22) ?_
  refine Wk.b rfl rfl rfl (Qk.bin rfl rfl rfl) fun b h27 => ?_
  obtain rfl : b = false := by rw [← h27, decide_eq_false_iff_not]; omega -- t27
  refine Wk.q rfl rfl rfl (Qk.pickF rfl rfl) ?_
  refine Wk.next ?_
  refine Wc.condF rfl ?_
  refine Wc.skip ?_
  refine Wc.assoc ?_
  refine Wc.draw0 rfl ?_
  refine Wd.q rfl rfl rfl (Qk.fa rfl fd24_1) ?_
  refine Wd.r rfl rfl rfl (Rk.cell rfl sh3 (by first | assumption | repeat (first | exact gnew | exact gsetn gnew | assumption | exact gsetn (by assumption) | refine gpush ?_ | refine gset ?_ (by first | omega | (simp; omega)) )) (by simp) rfl) rfl ?_
  refine Wd.q rfl rfl rfl (Qk.fa rfl fd24_1) ?_
  refine Wd.r rfl rfl rfl (Rk.cell rfl sh3 (by first | assumption | repeat (first | exact gnew | exact gsetn gnew | assumption | exact gsetn (by assumption) | refine gpush ?_ | refine gset ?_ (by first | omega | (simp; omega)) )) (by simp) rfl) rfl ?_
  refine Wd.q rfl rfl rfl (Qk.assign rfl) ?_
  refine Wd.q rfl rfl rfl (Qk.assign rfl) ?_
  refine Wd.next ?_
  refine Wc.assoc ?_
  refine Wc.assoc ?_
  refine Wc.region ?_
  refine Wk.q rfl rfl rfl (Qk.move rfl) ?_
  refine Wk.q rfl rfl rfl (Qk.lenR rfl rfl rfl hLr sl22) ?_
  refine Wk.q rfl rfl rfl (Qk.move rfl) ?_
  refine Wk.next ?_
  refine Wc.block ?_
  refine Wc.loop (σ := Nat) (fun k => k ≤ M.length) (fun k => [(1, .int .i64 j), (4, .pointer (some ⟨s.size + 1, 0, none⟩)), (5, .pointer (some ⟨s.size + 2, 0, none⟩)), (7, .slice ao M.length capo), (8, .int .i64 (rent + Sm k (fun x => LK M x j))), (9, .int .i64 (rent - Sm k (fun x => LK M j x))), (35, .slice ao M.length capo), (36, goInt M.length), (37, .int .i64 k)]) (fun _ => t2) (fun k => M.length - k) 0 (Nat.zero_le _)
    ⟨rfl, rfl, rfl, rfl, by simp only [Sm, Int.add_zero]; rfl, by simp only [Sm, Int.sub_zero]; rfl, rfl, rfl, rfl, trivial⟩ rfl ?_
  rintro k hk
  have hs1 := Sm.bd64 (n := k) (g := fun x => LK M x j) fun i hi => LK_bd hB hO (by omega) hj
  have hs2 := Sm.bd64 (n := k) (g := fun x => LK M j x) fun i hi => LK_bd hB hO hj (by omega)
  refine Wc.assoc ?_
  refine Wc.region ?_
  refine Wk.b rfl rfl rfl (Qk.bin rfl rfl rfl) fun b h38 => ?_
  cases b
  · -- t38 = False
    have hge : k = M.length := by
      have : ¬ ((k : Int) < (M.length : Int)) := of_decide_eq_false h38
      omega
    subst hge
    refine Wk.next ?_
    refine Wc.assoc ?_
    refine Wc.condF rfl ?_
    refine Wc.jump (fun _ _ => rfl) ?_
    refine Wc.assoc ?_
    refine Wc.region ?_
    refine Wk.q rfl rfl rfl (Qk.move rfl) ?_
    refine Wk.q rfl rfl rfl (Qk.move rfl) ?_
    refine Wk.q rfl rfl rfl (Qk.lenR rfl rfl rfl hLr sl22) ?_
    refine Wk.c rfl rfl rfl (Ck.call rfl rfl) ((c30 hK (by omega) (by omega)).mono ?_)
    rintro r3 t3 ⟨rfl, ho3⟩
    have hg4 := ho3.get hg4
    have hg5 := ho3.get hg5
    refine Wk.q rfl rfl rfl (Qk.move rfl) ?_
    refine Wk.q rfl rfl rfl (Qk.extract rfl rfl) ?_
    refine Wk.q rfl rfl rfl (Qk.extract rfl rfl) ?_
    refine Wk.h rfl rfl rfl (Hk.whole rfl rfl sh41 (by first | assumption | repeat (first | exact gnew | exact gsetn gnew | assumption | exact gsetn (by assumption) | refine gpush ?_ | refine gset ?_ (by first | omega | (simp; omega)) )) rfl rfl (by first | rfl | (show (true && (Abs.scalar _ && true)) = true; rw [Bool.true_and, Bool.and_true]; assumption))) ?_
    refine Wk.next ?_
    refine Wc.store fun s2 e2 => ?_
    have ho2' : Old s s2 := by subst e2; exact (ho12.trans ho3).gset (by omega)
    have hg4 : s2.get (s.size + 1) = some ⟨[.int .i64 ((rent + Sm M.length (fun x => LK M x j)) / (Nat.gcd (rent + Sm M.length (fun x => LK M x j)).natAbs M.length : Nat)), .int .i64 ((M.length : Int) / (Nat.gcd (rent + Sm M.length (fun x => LK M x j)).natAbs M.length : Nat))], .rw⟩ := by subst e2; exact gsetn hg4
    have hg5 : s2.get (s.size + 2) = some ⟨[.int .i64 0, .int .i64 0], .rw⟩ := by subst e2; exact gset hg5 (by omega)
    refine Wc.assoc ?_
    refine Wc.region ?_
    refine Wk.q rfl rfl rfl (Qk.move rfl) ?_
    refine Wk.q rfl rfl rfl (Qk.move rfl) ?_
    refine Wk.q rfl rfl rfl (Qk.lenR rfl rfl rfl hLr sl22) ?_
    refine Wk.c rfl rfl rfl (Ck.call rfl rfl) ((c30 hK (by omega) (by omega)).mono ?_)
    rintro r4 t4 ⟨rfl, ho4⟩
    have hg4 := ho4.get hg4
    have hg5 := ho4.get hg5
    refine Wk.q rfl rfl rfl (Qk.move rfl) ?_
    refine Wk.q rfl rfl rfl (Qk.extract rfl rfl) ?_
    refine Wk.q rfl rfl rfl (Qk.extract rfl rfl) ?_
    refine Wk.h rfl rfl rfl (Hk.whole rfl rfl sh41 (by first | assumption | repeat (first | exact gnew | exact gsetn gnew | assumption | exact gsetn (by assumption) | refine gpush ?_ | refine gset ?_ (by first | omega | (simp; omega)) )) rfl rfl (by first | rfl | (show (true && (Abs.scalar _ && true)) = true; rw [Bool.true_and, Bool.and_true]; assumption))) ?_
    refine Wk.next ?_
    refine Wc.store fun s3 e3 => ?_
    have ho3' : Old s s3 := by subst e3; exact (ho2'.trans ho4).gset (by omega)
    have hg4 : s3.get (s.size + 1) = some ⟨[.int .i64 ((rent + Sm M.length (fun x => LK M x j)) / (Nat.gcd (rent + Sm M.length (fun x => LK M x j)).natAbs M.length : Nat)), .int .i64 ((M.length : Int) / (Nat.gcd (rent + Sm M.length (fun x => LK M x j)).natAbs M.length : Nat))], .rw⟩ := by subst e3; exact gset hg4 (by omega)
    have hg5 : s3.get (s.size + 2) = some ⟨[.int .i64 ((rent - Sm M.length (fun x => LK M j x)) / (Nat.gcd (rent - Sm M.length (fun x => LK M j x)).natAbs M.length : Nat)), .int .i64 ((M.length : Int) / (Nat.gcd (rent - Sm M.length (fun x => LK M j x)).natAbs M.length : Nat))], .rw⟩ := by subst e3; exact gsetn hg5
    refine Wc.assoc ?_
    refine Wc.drawE0 rfl ?_
    refine We.cells rfl rfl rfl rfl rfl sh41 (by first | assumption | repeat (first | exact gnew | exact gsetn gnew | assumption | exact gsetn (by assumption) | refine gpush ?_ | refine gset ?_ (by first | omega | (simp; omega)) )) (by simp) (by simp) (by first | assumption | simp [sames, same, ssame]) (by repeat' (first | exact trivial | exact Or.inl rfl | apply And.intro | (refine Or.inr ?_; assumption) | (refine Or.inr ?_; exact gset (by assumption) (by omega)) | (refine Or.inr ⟨_, _, (by first | assumption | repeat (first | exact gnew | exact gsetn gnew | assumption | exact gsetn (by assumption) | refine gpush ?_ | refine gset ?_ (by first | omega | (simp; omega)) )), (by simp), rfl⟩))) ?_
    refine We.cells rfl rfl rfl rfl rfl sh41 (by first | assumption | repeat (first | exact gnew | exact gsetn gnew | assumption | exact gsetn (by assumption) | refine gpush ?_ | refine gset ?_ (by first | omega | (simp; omega)) )) (by simp) (by simp) (by first | assumption | simp [sames, same, ssame]) (by repeat' (first | exact trivial | exact Or.inl rfl | apply And.intro | (refine Or.inr ?_; assumption) | (refine Or.inr ?_; exact gset (by assumption) (by omega)) | (refine Or.inr ⟨_, _, (by first | assumption | repeat (first | exact gnew | exact gsetn gnew | assumption | exact gsetn (by assumption) | refine gpush ?_ | refine gset ?_ (by first | omega | (simp; omega)) )), (by simp), rfl⟩))) ?_
    refine We.h rfl rfl rfl (Hk.whole rfl rfl sh41 (by first | assumption | repeat (first | exact gnew | exact gsetn gnew | assumption | exact gsetn (by assumption) | refine gpush ?_ | refine gset ?_ (by first | omega | (simp; omega)) )) rfl rfl (by first | rfl | (show (true && (Abs.scalar _ && true)) = true; rw [Bool.true_and, Bool.and_true]; assumption))) (by repeat' (first | exact trivial | exact Or.inl rfl | apply And.intro | (refine Or.inr ?_; assumption) | (refine Or.inr ?_; exact gset (by assumption) (by omega)) | (refine Or.inr ⟨_, _, (by first | assumption | repeat (first | exact gnew | exact gsetn gnew | assumption | exact gsetn (by assumption) | refine gpush ?_ | refine gset ?_ (by first | omega | (simp; omega)) )), (by simp), rfl⟩))) (by repeat' (first | exact trivial | exact Or.inl rfl | apply And.intro | (refine Or.inr ?_; assumption) | (refine Or.inr ?_; exact gset (by assumption) (by omega)) | (refine Or.inr ⟨_, _, (by first | assumption | repeat (first | exact gnew | exact gsetn gnew | assumption | exact gsetn (by assumption) | refine gpush ?_ | refine gset ?_ (by first | omega | (simp; omega)) )), (by simp), rfl⟩))) ?_
    refine We.h rfl rfl rfl (Hk.whole rfl rfl sh41 (by first | assumption | repeat (first | exact gnew | exact gsetn gnew | assumption | exact gsetn (by assumption) | refine gpush ?_ | refine gset ?_ (by first | omega | (simp; omega)) )) rfl rfl (by first | rfl | (show (true && (Abs.scalar _ && true)) = true; rw [Bool.true_and, Bool.and_true]; assumption))) (by repeat' (first | exact trivial | exact Or.inl rfl | apply And.intro | (refine Or.inr ?_; assumption) | (refine Or.inr ?_; exact gset (by assumption) (by omega)) | (refine Or.inr ⟨_, _, (by first | assumption | repeat (first | exact gnew | exact gsetn gnew | assumption | exact gsetn (by assumption) | refine gpush ?_ | refine gset ?_ (by first | omega | (simp; omega)) )), (by simp), rfl⟩))) (by repeat' (first | exact trivial | exact Or.inl rfl | apply And.intro | (refine Or.inr ?_; assumption) | (refine Or.inr ?_; exact gset (by assumption) (by omega)) | (refine Or.inr ⟨_, _, (by first | assumption | repeat (first | exact gnew | exact gsetn gnew | assumption | exact gsetn (by assumption) | refine gpush ?_ | refine gset ?_ (by first | omega | (simp; omega)) )), (by simp), rfl⟩))) ?_
    refine We.q rfl rfl rfl (Qk.assign rfl) ?_
    refine We.next ?_
    refine Wc.store fun s4 e4 => ?_
    have ho4' : Old s s4 := by subst e4; exact (ho3'.gset (by omega)).gset (by omega)
    have hg4 : s4.get (s.size + 1) = some ⟨[.int .i64 ((rent + Sm M.length (fun x => LK M x j)) / (Nat.gcd (rent + Sm M.length (fun x => LK M x j)).natAbs M.length : Nat)), .int .i64 ((M.length : Int) / (Nat.gcd (rent + Sm M.length (fun x => LK M x j)).natAbs M.length : Nat))], .rw⟩ := by subst e4; exact gset (gsetn hg4) (by omega)
    have hg5 : s4.get (s.size + 2) = some ⟨[.int .i64 ((rent - Sm M.length (fun x => LK M j x)) / (Nat.gcd (rent - Sm M.length (fun x => LK M j x)).natAbs M.length : Nat)), .int .i64 ((M.length : Int) / (Nat.gcd (rent - Sm M.length (fun x => LK M j x)).natAbs M.length : Nat))], .rw⟩ := by subst e4; exact gsetn (gset hg5 (by omega))
    refine Wc.doneC (fun _ _ => rfl) (ares_cell rfl (al2 sh41 (by first | assumption | repeat (first | exact gnew | exact gsetn gnew | assumption | exact gsetn (by assumption) | refine gpush ?_ | refine gset ?_ (by first | omega | (simp; omega)) )) (by simp)) (ares_cell rfl (al2 sh41 (by first | assumption | repeat (first | exact gnew | exact gsetn gnew | assumption | exact gsetn (by assumption) | refine gpush ?_ | refine gset ?_ (by first | omega | (simp; omega)) )) (by simp)) (ares_tmp rfl ares_nil))) ?_
    exact ⟨rfl, hO, ho4'⟩
  · -- t38 = True
    have hkl : k < M.length := by
      have : (k : Int) < (M.length : Int) := of_decide_eq_true h38
      omega
    have hLk := hLrow k hkl
    have hLj := hLrow j hj
    have hlk := hlen k hkl
    have hlj := hlen j hj
    have v1 : (rowM (tab M.length (LK M)) k).getD j 0 = LK M k j := tab_mat hkl hj
    have v2 : (rowM (tab M.length (LK M)) j).getD k 0 = LK M j k := tab_mat hj hkl
    have b1 := LK_bd hB hO hkl hj
    have b2 := LK_bd hB hO hj hkl
    refine Wk.next ?_
    refine Wc.assoc ?_
    refine Wc.condT rfl ?_
    refine Wc.skip ?_
    refine Wc.assoc ?_
    refine Wc.block ?_
    refine Wc.assoc ?_
    refine Wc.region ?_
    refine Wk.q rfl rfl rfl (Qk.move rfl) ?_
    refine Wk.q rfl rfl rfl (Qk.assign rfl) ?_
    refine Wk.next ?_
    refine Wc.assoc ?_
    refine Wc.region ?_
    refine Wk.q rfl rfl rfl (Qk.move rfl) ?_
    refine Wk.q rfl rfl rfl (Qk.move rfl) ?_
    refine Wk.q rfl rfl rfl (Qk.move rfl) ?_
    refine Wk.q rfl rfl rfl (Qk.at rfl rfl ar22 sl22 hLr (by constructor <;> omega)) ?_
    refine Wk.r rfl rfl rfl (Rk.atS rfl sh29 hLr (i := k) (by omega) rfl) ?_
    refine Wk.q rfl rfl rfl (Qk.move rfl) ?_
    refine Wk.q rfl rfl rfl (Qk.at rfl rfl ar29 sl29 hLk (by constructor <;> omega)) ?_
    refine Wk.r rfl rfl rfl (Rk.intR rfl sh3 hLk (i := j) (by omega)) ?_
    refine Wk.q rfl rfl rfl (Qk.add rfl rfl (by omega)) ?_
    refine Wk.q rfl rfl rfl (Qk.assign rfl) ?_
    refine Wk.next ?_
    refine Wc.region ?_
    refine Wk.q rfl rfl rfl (Qk.move rfl) ?_
    refine Wk.q rfl rfl rfl (Qk.move rfl) ?_
    refine Wk.q rfl rfl rfl (Qk.move rfl) ?_
    refine Wk.q rfl rfl rfl (Qk.at rfl rfl ar22 sl22 hLr (by constructor <;> omega)) ?_
    refine Wk.r rfl rfl rfl (Rk.atS rfl sh29 hLr (i := j) (by omega) rfl) ?_
    refine Wk.q rfl rfl rfl (Qk.move rfl) ?_
    refine Wk.q rfl rfl rfl (Qk.at rfl rfl ar29 sl29 hLj (by constructor <;> omega)) ?_
    refine Wk.r rfl rfl rfl (Rk.intR rfl sh3 hLj (i := k) (by omega)) ?_
    refine Wk.q rfl rfl rfl (Qk.sub rfl rfl (by omega)) ?_
    refine Wk.q rfl rfl rfl (Qk.assign rfl) ?_
    refine Wk.next ?_
    refine Wc.thence (fun _ _ => rfl) ?_
    refine Wc.region ?_
    refine Wk.q rfl rfl rfl (Qk.add rfl rfl (by omega)) ?_
    refine Wk.q rfl rfl rfl (Qk.move rfl) ?_
    refine Wk.next ?_
    refine Wc.finish fun fr hf => ?_
    exact ⟨k + 1, hkl, by omega, rfl, hf.less ⟨rfl, rfl, rfl, rfl, by show some (Value.int .i64 _) = some (Value.int .i64 _); rw [v1]; simp only [Sm, Int.add_assoc], by show some (Value.int .i64 _) = some (Value.int .i64 _); rw [v2]; simp only [Sm]; congr 2; omega, rfl, rfl, rfl, trivial⟩⟩
end Go.Proofs.Ytfgnjndicidpkaa
