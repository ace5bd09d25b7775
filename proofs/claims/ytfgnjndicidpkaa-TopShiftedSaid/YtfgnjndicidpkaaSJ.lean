/- Ratios, as the program makes them. -/
import Derived.Test.YtfgnjndicidpkaaSI
import Derived.Test.YtfgnjndicidpkaaR4
namespace Go.Proofs.Ytfgnjndicidpkaa
open Go.Abs Go.IntWalk
variable {K : Known}

theorem wrap_u64 (n : Int) : IntKind.u64.wrap n = n % 18446744073709551616 := by simp [IntKind.wrap, IntKind.bits, IntKind.signed]
theorem und2 : Try.prog.underlying 2 = some (.int .i64) := by kernel_rfl
theorem und3 : Try.prog.underlying 3 = some (.int .i64) := by kernel_rfl
theorem und5 : Try.prog.underlying 5 = some (.int .u8) := by kernel_rfl
theorem und87 : Try.prog.underlying 87 = some (.int .u64) := by kernel_rfl
theorem und107 : Try.prog.underlying 107 = some (.int .u64) := by kernel_rfl
theorem Qk.negW {P : Program} {n : Nat} {k : Kn} {t : TypeId} {x : Operand} {kd : IntKind} {a b : Int} (hx : kev k x = some (.int kd a)) (h : kd.wrap (0 - a) = b) : Qk P n k (.unOp .neg t x) (.int kd b) :=
  Qk.un hx rfl (by rw [show (Op.unary .neg (.int kd a) : Sem Value) = pure (.int kd (kd.wrap (0 - a))) from rfl, h]; exact pureVal_pure rfl)
theorem neq4 {xo yo : Operand} {p q : Bool} : abin Try.prog .neq 4 xo yo (.bool p) (.bool q) = some (.bool (p != q)) := by cases p <;> cases q <;> kernel_rfl
theorem eql4 {xo yo : Operand} {p q : Bool} : abin Try.prog .eql 4 xo yo (.bool p) (.bool q) = some (.bool (p == q)) := by cases p <;> cases q <;> kernel_rfl
theorem eql41 {xo yo : Operand} {a b c d : Int} : abin Try.prog .eql 41 xo yo (.agg #[.int .i64 a, .int .i64 b]) (.agg #[.int .i64 c, .int .i64 d]) = some (.bool (a == c && b == d)) :=
  abin_eq2 (T := 2) (k0 := .i64) (by kernel_rfl) (by kernel_rfl) und2 (by kernel_rfl) (by kernel_rfl) (by kernel_rfl)
theorem eql93 {xo yo : Operand} {a b c d : Int} : abin Try.prog .eql 93 xo yo (.agg #[.int .u64 a, .int .u64 b]) (.agg #[.int .u64 c, .int .u64 d]) = some (.bool (a == c && b == d)) :=
  abin_eq2 (T := 87) (k0 := .u64) (by kernel_rfl) (by kernel_rfl) und87 (by kernel_rfl) (by kernel_rfl) (by kernel_rfl)
theorem build41 {a b : Int} : abuild Try.prog 41 [(0, .int .i64 a), (1, .int .i64 b)] = some (.agg #[.int .i64 a, .int .i64 b]) := by
  simp [abuild, fo41, ze41, afill, placeOf, fd41_0, fd41_1, Value.cells, isVal, splice]
theorem build41' {b : Int} : abuild Try.prog 41 [(1, .int .i64 b)] = some (.agg #[.int .i64 0, .int .i64 b]) := by
  simp [abuild, fo41, ze41, afill, placeOf, fd41_0, fd41_1, Value.cells, isVal, splice]
theorem build93 {a b : Int} : abuild Try.prog 93 [(0, .int .u64 a), (1, .int .u64 b)] = some (.agg #[.int .u64 a, .int .u64 b]) := by
  simp [abuild, fo93, ze93, afill, placeOf, fd93_0, fd93_1, Value.cells, isVal, splice]
theorem build93' : abuild Try.prog 93 [] = some (.agg #[.int .u64 0, .int .u64 0]) := by
  simp [abuild, fo93, ze93, afill, Value.cells]
theorem al2 {P : Program} {s : St} {t : TypeId} {b : Nat} {x y : Value} {md : Abs.Mode} (hsh : shapeOf P t = some (true, 2)) (hg : s.get b = some ⟨[x, y], md⟩) (hm : md ≠ .dead) : aload P s t (.pointer (some ⟨b, 0, none⟩)) = some (.agg #[x, y]) := by
  simp [aload, hsh, St.cells, hg, hm]

/-- The ratio a / n in lowest terms. -/
def rat (a : Int) (n : Nat) : Value := .agg #[.int .i64 (a / (Nat.gcd a.natAbs n : Nat)), .int .i64 ((n : Int) / (Nat.gcd a.natAbs n : Nat))]
theorem rat_signed {a : Int} {n : Nat} (hn : 1 ≤ n) : (if (decide (a < 0) != decide ((n : Int) < 0)) then -((a.natAbs : Int) / (Nat.gcd a.natAbs n : Nat)) else (a.natAbs : Int) / (Nat.gcd a.natAbs n : Nat)) = a / (Nat.gcd a.natAbs n : Nat) := by
  have h1 : decide ((n : Int) < 0) = false := decide_eq_false (by omega)
  rw [h1]
  by_cases h : a < 0
  · rw [decide_eq_true h]
    have e : (a.natAbs : Int) = -a := by omega
    have hd : ((Nat.gcd a.natAbs n : Nat) : Int) ∣ a := by
      have : ((Nat.gcd a.natAbs n : Nat) : Int) ∣ (a.natAbs : Int) := Int.natCast_dvd_natCast.2 (Nat.gcd_dvd_left _ _)
      exact Int.dvd_natAbs.1 this
    generalize Nat.gcd a.natAbs n = g at *
    simp only [bne_self_eq_false, Bool.true_bne, Bool.not_false, if_true]
    rw [e, Int.neg_ediv_of_dvd hd, Int.neg_neg]
  · rw [decide_eq_false h]
    have e : (a.natAbs : Int) = a := by omega
    simp only [bne_self_eq_false, Bool.false_eq_true, if_false]
    rw [e]

theorem c44 (hK : Late K) {n : Int} {s : St} (hn : -4611686018427387904 ≤ n ∧ n ≤ 4611686018427387904) : Ev Try.prog K (.func (.func 44) #[] #[]) [.int .i64 n] s fun r s' => r = .int .u64 (n.natAbs : Nat) ∧ s' = s := by
  refine Ev.enterK (hK.none (by decide) _) Try.func44 rfl rfl (Nat.le_of_ble_eq_true rfl) ?_
  refine Wc.tail ?_
  refine Wc.assoc ?_
  refine Wc.region ?_
  refine Wk.q rfl rfl rfl (Qk.assign rfl) ?_
  refine Wk.next ?_
  refine Wc.assoc ?_
  refine Wc.assoc ?_
  refine Wc.region ?_
  refine Wk.q rfl rfl rfl (Qk.move rfl) ?_
  refine Wk.b rfl rfl rfl (Qk.bin rfl rfl rfl) fun b h4 => ?_
  cases b
  · -- t4 = False
    have h0 : ¬ n < 0 := of_decide_eq_false h4
    refine Wk.next ?_
    refine Wc.condF rfl ?_
    refine Wc.skip ?_
    refine Wc.assoc ?_
    refine Wc.region ?_
    refine Wk.q rfl rfl rfl (Qk.move rfl) ?_
    refine Wk.q rfl rfl rfl (Qk.cvt rfl und2 und87 (u64_in _ (by omega))) ?_
    refine Wk.q rfl rfl rfl (Qk.assign rfl) ?_
    refine Wk.next ?_
    refine Wc.done'' (fun _ _ => rfl) rfl ?_
    refine ⟨?_, rfl⟩
    simp only [pack]
    congr 1
    omega
  · -- t4 = True
    have h0 : n < 0 := of_decide_eq_true h4
    refine Wk.next ?_
    refine Wc.condT rfl ?_
    refine Wc.assoc ?_
    refine Wc.region ?_
    refine Wk.q rfl rfl rfl (Qk.move rfl) ?_
    refine Wk.q rfl rfl rfl (Qk.cvt rfl und2 und87 (show IntKind.u64.wrap n = n + 18446744073709551616 by rw [wrap_u64]; omega)) ?_
    refine Wk.q rfl rfl rfl (Qk.negW rfl (show IntKind.u64.wrap (0 - (n + 18446744073709551616)) = -n by rw [wrap_u64]; omega)) ?_
    refine Wk.q rfl rfl rfl (Qk.assign rfl) ?_
    refine Wk.next ?_
    refine Wc.done'' (fun _ _ => rfl) rfl ?_
    refine ⟨?_, rfl⟩
    simp only [pack]
    congr 1
    omega
theorem c45 (hK : Late K) {a b : Nat} {s : St} (ha : a ≤ 18446744073709551615) (hb : b ≤ 18446744073709551615) : Ev Try.prog K (.func (.func 45) #[] #[]) [.int .u64 (a : Nat), .int .u64 (b : Nat)] s fun r s' => r = .int .u64 (Nat.gcd a b : Nat) ∧ s' = s := by
  refine Ev.enterK (hK.none (by decide) _) Try.func45 rfl rfl (Nat.le_of_ble_eq_true rfl) ?_
  refine Wc.tail ?_
  refine Wc.assoc ?_
  refine Wc.region ?_
  refine Wk.q rfl rfl rfl (Qk.assign rfl) ?_
  refine Wk.next ?_
  refine Wc.assoc ?_
  refine Wc.block ?_
  refine Wc.loop (σ := Nat × Nat) (fun y => y.1 ≤ 18446744073709551615 ∧ y.2 ≤ 18446744073709551615 ∧ Nat.gcd y.1 y.2 = Nat.gcd a b) (fun y => [(0, .int .u64 (y.1 : Nat)), (1, .int .u64 (y.2 : Nat))]) (fun _ => s) (fun y => y.2) (a, b) ⟨ha, hb, rfl⟩ ⟨rfl, rfl, trivial⟩ rfl ?_
  rintro ⟨x, y⟩ ⟨hx, hy, hg⟩
  dsimp only at hx hy hg ⊢
  refine Wc.assoc ?_
  refine Wc.assoc ?_
  refine Wc.region ?_
  refine Wk.q rfl rfl rfl (Qk.move rfl) ?_
  refine Wk.b rfl rfl rfl (Qk.bin rfl rfl rfl) fun b h6 => ?_
  cases b
  · -- t6 = False
    refine Wk.next ?_
    refine Wc.condF rfl ?_
    refine Wc.jump (fun _ _ => rfl) ?_
    refine Wc.assoc ?_
    refine Wc.region ?_
    refine Wk.q rfl rfl rfl (Qk.move rfl) ?_
    refine Wk.q rfl rfl rfl (Qk.assign rfl) ?_
    refine Wk.next ?_
    refine Wc.done'' (fun _ _ => rfl) rfl ?_
    have hy0 : y = 0 := by
      have : ¬ ((y : Int) > 0) := of_decide_eq_false h6
      omega
    subst hy0
    refine ⟨?_, rfl⟩
    rw [← hg, Nat.gcd_zero_right]
    rfl
  · -- t6 = True
    have hy0 : 0 < y := by
      have : (y : Int) > 0 := of_decide_eq_true h6
      omega
    refine Wk.next ?_
    refine Wc.condT rfl ?_
    refine Wc.skip ?_
    refine Wc.block ?_
    refine Wc.draw0 rfl ?_
    refine Wd.q rfl rfl rfl (Qk.move rfl) ?_
    refine Wd.q rfl rfl rfl (Qk.move rfl) ?_
    refine Wd.q rfl rfl rfl (Qk.move rfl) ?_
    refine Wd.q rfl rfl rfl (Qk.remU rfl rfl (by omega)) ?_
    refine Wd.q rfl rfl rfl (Qk.assign rfl) ?_
    refine Wd.q rfl rfl rfl (Qk.assign rfl) ?_
    refine Wd.next ?_
    refine Wc.thence (fun _ _ => rfl) ?_
    refine Wc.finish fun fr hf => ?_
    refine ⟨(y, x % y), ⟨hy, ?_, ?_⟩, Nat.mod_lt _ hy0, rfl, hf.less ⟨rfl, by show some (Value.int .u64 ((x : Int) % y)) = some (.int .u64 ((x % y : Nat) : Int)); rw [Int.natCast_emod], trivial⟩⟩
    · exact Nat.le_trans (Nat.le_of_lt (Nat.mod_lt _ hy0)) hy
    · rw [← hg, Nat.gcd_comm y, ← Nat.gcd_rec, Nat.gcd_comm]
set_option maxRecDepth 100000 in
theorem c46 (hK : Late K) {m : Bool} {a b : Nat} {s : St} (ha : a ≤ 1000000000000000000) (hb : b ≤ 1000000000000000000) : Ev Try.prog K (.func (.func 46) #[] #[]) [.bool m, .int .u64 (a : Nat), .int .u64 (b : Nat)] s fun r s' => r = .tuple #[.agg #[.int .i64 (if m then -(a : Int) else a), .int .i64 b], .int .i64 0] ∧ Old s s' := by
  refine Ev.enterK (hK.none (by decide) _) Try.func46 rfl rfl (Nat.le_of_ble_eq_true rfl) ?_
  refine Wc.tail ?_
  refine Wc.assoc ?_
  refine Wc.region ?_
  refine Wk.f rfl rfl rfl (Fk.alloc ze41) ?_
  refine Wk.q rfl rfl rfl (Qk.assign rfl) ?_
  refine Wk.next ?_
  refine Wc.store fun s1 e1 => ?_
  have ho1 : Old s s1 := by subst e1; exact Old.push _ _
  have hg1 : s1.get s.size = some ⟨[.int .i64 0, .int .i64 0], .rw⟩ := by subst e1; exact gnew
  refine Wc.assoc ?_
  refine Wc.assoc ?_
  refine Wc.region ?_
  refine Wk.q rfl rfl rfl (Qk.move rfl) ?_
  refine Wk.q rfl rfl rfl (Qk.move rfl) ?_
  refine Wk.q rfl rfl rfl (Qk.max2 rfl rfl rfl) ?_
  refine Wk.b rfl rfl rfl (Qk.bin rfl rfl rfl) fun b h11 => ?_
  obtain rfl : b = false := by rw [← h11, decide_eq_false_iff_not]; split <;> omega -- t11
  refine Wk.next ?_
  refine Wc.condF rfl ?_
  refine Wc.skip ?_
  refine Wc.assoc ?_
  refine Wc.assoc ?_
  refine Wc.region ?_
  refine Wk.b rfl rfl rfl (Qk.move rfl) fun b h13 => ?_
  cases b
  · -- t13 = False
    refine Wk.next ?_
    refine Wc.condF rfl ?_
    refine Wc.skip ?_
    refine Wc.assoc ?_
    refine Wc.region ?_
    refine Wk.q rfl rfl rfl (Qk.move rfl) ?_
    refine Wk.q rfl rfl rfl (Qk.cvt rfl und87 und2 (i64_in _ (by omega))) ?_
    refine Wk.q rfl rfl rfl (Qk.move rfl) ?_
    refine Wk.q rfl rfl rfl (Qk.cvt rfl und87 und2 (i64_in _ (by omega))) ?_
    refine Wk.q rfl rfl rfl (Qk.build rfl build41) ?_
    refine Wk.h rfl rfl rfl (Hk.whole rfl rfl sh41 (by first | assumption | repeat (first | exact gnew | exact gsetn gnew | assumption | exact gsetn (by assumption) | refine gpush ?_ | refine gset ?_ (by simp; omega) )) rfl rfl (by first | rfl | (show (true && (Abs.scalar _ && true)) = true; rw [Bool.true_and, Bool.and_true]; assumption))) ?_
    refine Wk.q rfl rfl rfl (Qk.assign rfl) ?_
    refine Wk.next ?_
    refine Wc.store fun s2 e2 => ?_
    have ho2 : Old s s2 := by subst e2; exact ho1.gset (Nat.le_refl _)
    have hg2 : s2.get s.size = some ⟨[.int .i64 a, .int .i64 b], .rw⟩ := by subst e2; exact gsetn hg1
    refine Wc.doneC (fun _ _ => rfl) (ares_cell rfl (al2 sh41 (by first | assumption | repeat (first | exact gnew | exact gsetn gnew | assumption | exact gsetn (by assumption) | refine gpush ?_ | refine gset ?_ (by simp; omega) )) (by simp)) (ares_tmp rfl ares_nil)) ?_
    exact ⟨by rw [h13]; rfl, ho2⟩
  · -- t13 = True
    refine Wk.next ?_
    refine Wc.condT rfl ?_
    refine Wc.assoc ?_
    refine Wc.region ?_
    refine Wk.q rfl rfl rfl (Qk.move rfl) ?_
    refine Wk.q rfl rfl rfl (Qk.cvt rfl und87 und2 (i64_in _ (by omega))) ?_
    refine Wk.q rfl rfl rfl (Qk.neg rfl (by omega)) ?_
    refine Wk.q rfl rfl rfl (Qk.move rfl) ?_
    refine Wk.q rfl rfl rfl (Qk.cvt rfl und87 und2 (i64_in _ (by omega))) ?_
    refine Wk.q rfl rfl rfl (Qk.build rfl build41) ?_
    refine Wk.h rfl rfl rfl (Hk.whole rfl rfl sh41 (by first | assumption | repeat (first | exact gnew | exact gsetn gnew | assumption | exact gsetn (by assumption) | refine gpush ?_ | refine gset ?_ (by simp; omega) )) rfl rfl (by first | rfl | (show (true && (Abs.scalar _ && true)) = true; rw [Bool.true_and, Bool.and_true]; assumption))) ?_
    refine Wk.q rfl rfl rfl (Qk.assign rfl) ?_
    refine Wk.next ?_
    refine Wc.store fun s3 e3 => ?_
    have ho2 : Old s s3 := by subst e3; exact ho1.gset (Nat.le_refl _)
    have hg2 : s3.get s.size = some ⟨[.int .i64 (-a), .int .i64 b], .rw⟩ := by subst e3; exact gsetn hg1
    refine Wc.doneC (fun _ _ => rfl) (ares_cell rfl (al2 sh41 (by first | assumption | repeat (first | exact gnew | exact gsetn gnew | assumption | exact gsetn (by assumption) | refine gpush ?_ | refine gset ?_ (by simp; omega) )) (by simp)) (ares_tmp rfl ares_nil)) ?_
    exact ⟨by rw [h13]; rfl, ho2⟩
set_option maxRecDepth 100000 in
theorem c30 (hK : Late K) {a : Int} {n : Nat} {s : St} (ha : -1000000000000000000 ≤ a ∧ a ≤ 1000000000000000000) (hn : 1 ≤ n ∧ n ≤ 1000000) : Ev Try.prog K (.func (.func 30) #[] #[]) [.int .i64 a, .int .i64 n] s fun r s' => r = .tuple #[rat a n, .int .i64 0] ∧ Old s s' := by
  refine Ev.enterK (hK.none (by decide) _) Try.func30 rfl rfl (Nat.le_of_ble_eq_true rfl) ?_
  refine Wc.tail ?_
  refine Wc.assoc ?_
  refine Wc.region ?_
  refine Wk.f rfl rfl rfl (Fk.alloc ze41) ?_
  refine Wk.q rfl rfl rfl (Qk.assign rfl) ?_
  refine Wk.next ?_
  refine Wc.store fun s1 e1 => ?_
  have ho1 : Old s s1 := by subst e1; exact Old.push _ _
  have hg1 : s1.get s.size = some ⟨[.int .i64 0, .int .i64 0], .rw⟩ := by subst e1; exact gnew
  refine Wc.assoc ?_
  refine Wc.assoc ?_
  refine Wc.region ?_
  refine Wk.q rfl rfl rfl (Qk.move rfl) ?_
  refine Wk.b rfl rfl rfl (Qk.bin rfl rfl rfl) fun b h10 => ?_
  obtain rfl : b = false := by rw [← h10]; exact beq_eq_false_iff_ne.2 (by omega) -- t10
  refine Wk.next ?_
  refine Wc.condF rfl ?_
  refine Wc.skip ?_
  refine Wc.assoc ?_
  refine Wc.region ?_
  refine Wk.q rfl rfl rfl (Qk.move rfl) ?_
  refine Wk.c rfl rfl rfl (Ck.call rfl rfl) ((c44 hK (by omega)).mono ?_)
  rintro r t ⟨rfl, rfl⟩
  refine Wk.q rfl rfl rfl (Qk.move rfl) ?_
  refine Wk.c rfl rfl rfl (Ck.call rfl rfl) ((c44 hK (by omega)).mono ?_)
  rintro r2 t2 ⟨rfl, rfl⟩
  refine Wk.q rfl rfl rfl (Qk.assign rfl) ?_
  refine Wk.q rfl rfl rfl (Qk.assign rfl) ?_
  refine Wk.next ?_
  refine Wc.assoc ?_
  refine Wc.region ?_
  refine Wk.q rfl rfl rfl (Qk.move rfl) ?_
  refine Wk.q rfl rfl rfl (Qk.move rfl) ?_
  refine Wk.c rfl rfl rfl (Ck.call rfl rfl) ((c45 hK (a := a.natAbs) (b := ((n : Int)).natAbs) (by omega) (by omega)).mono ?_)
  rintro r3 t3 ⟨rfl, rfl⟩
  rw [Int.natAbs_natCast]
  have hgp : 0 < Nat.gcd a.natAbs n := Nat.gcd_pos_of_pos_right _ (by omega)
  refine Wk.q rfl rfl rfl (Qk.assign rfl) ?_
  refine Wk.next ?_
  refine Wc.assoc ?_
  refine Wc.draw0 rfl ?_
  refine Wd.q rfl rfl rfl (Qk.move rfl) ?_
  refine Wd.q rfl rfl rfl (Qk.bin rfl rfl rfl) ?_
  refine Wd.q rfl rfl rfl (Qk.move rfl) ?_
  refine Wd.q rfl rfl rfl (Qk.bin rfl rfl rfl) ?_
  refine Wd.q rfl rfl rfl (Qk.bin rfl rfl (neq4)) ?_
  refine Wd.q rfl rfl rfl (Qk.move rfl) ?_
  refine Wd.q rfl rfl rfl (Qk.move rfl) ?_
  refine Wd.q rfl rfl rfl (Qk.quoU rfl rfl (by omega)) ?_
  refine Wd.q rfl rfl rfl (Qk.move rfl) ?_
  refine Wd.q rfl rfl rfl (Qk.move rfl) ?_
  refine Wd.q rfl rfl rfl (Qk.quoU rfl rfl (by omega)) ?_
  have hd1 := Nat.div_le_self a.natAbs (Nat.gcd a.natAbs n)
  have hd2 := Nat.div_le_self n (Nat.gcd a.natAbs n)
  have hcl := c46 (s := t3) (m := (decide (a < 0) != decide ((n : Int) < 0))) (a := a.natAbs / Nat.gcd a.natAbs n) (b := n / Nat.gcd a.natAbs n) hK (by omega) (by omega)
  rw [Int.natCast_ediv, Int.natCast_ediv, rat_signed (by omega)] at hcl
  refine Wd.c rfl rfl rfl (Ck.call rfl rfl) rfl rfl ((hcl).mono ?_)
  rintro r4 t4 ⟨rfl, ho4⟩
  have hg4 := ho4.get hg1
  refine Wd.q rfl rfl rfl (Qk.extract rfl rfl) ?_
  refine Wd.q rfl rfl rfl (Qk.extract rfl rfl) ?_
  refine Wd.h rfl rfl rfl (Hk.whole rfl rfl sh41 (by first | assumption | repeat (first | exact gnew | exact gsetn gnew | assumption | exact gsetn (by assumption) | refine gpush ?_ | refine gset ?_ (by simp; omega) )) rfl rfl (by first | rfl | (show (true && (Abs.scalar _ && true)) = true; rw [Bool.true_and, Bool.and_true]; assumption))) rfl rfl ?_
  refine Wd.q rfl rfl rfl (Qk.assign rfl) ?_
  refine Wd.next ?_
  refine Wc.store fun s2 e2 => ?_
  have ho2 : Old s s2 := by subst e2; exact (ho1.trans ho4).gset (Nat.le_refl _)
  have hg2 : s2.get s.size = some ⟨[.int .i64 (a / (Nat.gcd a.natAbs n : Nat)), .int .i64 ((n : Int) / (Nat.gcd a.natAbs n : Nat))], .rw⟩ := by subst e2; exact gsetn hg4
  refine Wc.doneC (fun _ _ => rfl) (ares_cell rfl (al2 sh41 (by first | assumption | repeat (first | exact gnew | exact gsetn gnew | assumption | exact gsetn (by assumption) | refine gpush ?_ | refine gset ?_ (by simp; omega) )) (by simp)) (ares_tmp rfl ares_nil)) ?_
  exact ⟨rfl, ho2⟩
end Go.Proofs.Ytfgnjndicidpkaa
