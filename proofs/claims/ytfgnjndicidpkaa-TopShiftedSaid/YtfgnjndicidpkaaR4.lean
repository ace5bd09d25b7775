/- Numbers of 64 bits without a sign: how they are added, divided, shifted. Of no one program. -/
import Derived.Test.YtfgnjndicidpkaaR3
import Derived.Laws.StructEq
namespace Go.Proofs.Ytfgnjndicidpkaa
open Go.Abs Go.IntWalk
variable {P : Program} {n : Nat} {k : Kn} {t t' : TypeId} {x y : Operand} {a b : Int}

theorem pv {v : Value} (h : plain v = true) : pureVal P (pure v : Sem Value) = some v := pureVal_pure h

theorem Qk.addU (hx : kev k x = some (.int .u64 a)) (hy : kev k y = some (.int .u64 b)) (hr : 0 ≤ a + b ∧ a + b ≤ 18446744073709551615) : Qk P n k (.binOp .add t x y t') (.int .u64 (a + b)) :=
  Qk.bin hx hy (by simp [abin, aint, u64_in _ hr])
theorem Qk.subU (hx : kev k x = some (.int .u64 a)) (hy : kev k y = some (.int .u64 b)) (hr : 0 ≤ a - b ∧ a - b ≤ 18446744073709551615) : Qk P n k (.binOp .sub t x y t') (.int .u64 (a - b)) :=
  Qk.bin hx hy (by simp [abin, aint, u64_in _ hr])
theorem Qk.mulU (hx : kev k x = some (.int .u64 a)) (hy : kev k y = some (.int .u64 b)) (hr : 0 ≤ a * b ∧ a * b ≤ 18446744073709551615) : Qk P n k (.binOp .mul t x y t') (.int .u64 (a * b)) :=
  Qk.bin hx hy (by simp [abin, aint, u64_in _ hr])
theorem Qk.quoU (hx : kev k x = some (.int .u64 a)) (hy : kev k y = some (.int .u64 b)) (hr : 0 ≤ a ∧ a ≤ 18446744073709551615 ∧ 1 ≤ b) : Qk P n k (.binOp .quo t x y t') (.int .u64 (a / b)) :=
  Qk.bin hx hy (by
    have hb : ¬ b = 0 := by omega
    simp only [abin, aint, if_true, if_neg hb, u64_quo _ _ hr])
theorem Qk.remU (hx : kev k x = some (.int .u64 a)) (hy : kev k y = some (.int .u64 b)) (hr : 0 ≤ a ∧ 1 ≤ b) : Qk P n k (.binOp .rem t x y t') (.int .u64 (a % b)) :=
  Qk.bin hx hy (by
    have hb : ¬ b = 0 := by omega
    simp only [abin, aint, if_true, if_neg hb, Int.tmod_eq_emod_of_nonneg hr.1])
theorem Qk.shrU {kd : IntKind} {m : Nat} (hx : kev k x = some (.int .u64 a)) (hy : kev k y = some (.int kd (m : Int))) (hm : m ≤ 64) : Qk P n k (.binOp .shr t x y t') (.int .u64 (a / 2 ^ m)) :=
  Qk.bin hx hy (by
    have e : ∀ xo yo, pureVal P (do eqGuard .shr t xo yo (.int .u64 a) (.int kd (m : Int)); Go.binOp .shr t (.int .u64 a) (.int kd (m : Int))) = some (.int .u64 (a / 2 ^ m)) := fun xo yo => by
      have e2 : (do eqGuard .shr t xo yo (.int .u64 a) (.int kd (m : Int)); Go.binOp .shr t (.int .u64 a) (.int kd (m : Int)) : Sem Value) = pure (.int .u64 (a / 2 ^ m)) := by
        have h1 : ¬ ((m : Int) < 0) := by omega
        have h2 : min ((m : Int)).toNat IntKind.u64.bits = m := by simp [IntKind.bits]; omega
        simp only [eqGuard, Go.binOp, Op.shift, if_neg h1, h2]
        rw [Int.fdiv_eq_ediv_of_nonneg _ (by exact Int.le_of_lt (Int.pow_pos (by decide)))]
        rfl
      rw [e2]
      exact pv rfl
    unfold abin
    simp only [aint]
    split
    · exact e _ _
    · exact e _ _)
theorem Qk.shlU {kd : IntKind} {m : Nat} (hx : kev k x = some (.int .u64 a)) (hy : kev k y = some (.int kd (m : Int))) (hm : m ≤ 64) (hr : 0 ≤ a * 2 ^ m ∧ a * 2 ^ m ≤ 18446744073709551615) : Qk P n k (.binOp .shl t x y t') (.int .u64 (a * 2 ^ m)) :=
  Qk.bin hx hy (by
    have e : ∀ xo yo, pureVal P (do eqGuard .shl t xo yo (.int .u64 a) (.int kd (m : Int)); Go.binOp .shl t (.int .u64 a) (.int kd (m : Int))) = some (.int .u64 (a * 2 ^ m)) := fun xo yo => by
      have e2 : (do eqGuard .shl t xo yo (.int .u64 a) (.int kd (m : Int)); Go.binOp .shl t (.int .u64 a) (.int kd (m : Int)) : Sem Value) = pure (.int .u64 (a * 2 ^ m)) := by
        have h1 : ¬ ((m : Int) < 0) := by omega
        have h2 : min ((m : Int)).toNat IntKind.u64.bits = m := by simp [IntKind.bits]; omega
        simp only [eqGuard, Go.binOp, Op.shift, if_neg h1, h2, u64_in _ hr]
        rfl
      rw [e2]
      exact pv rfl
    unfold abin
    simp only [aint]
    split
    · exact e _ _
    · exact e _ _)
theorem abin_and {kd : IntKind} {xo yo : Operand} : abin P .and t xo yo (.int kd a) (.int kd b) = some (.int kd (kd.wrap (BitVec.ofInt kd.bits a &&& BitVec.ofInt kd.bits b).toNat)) := by
  have e2 : (do eqGuard .and t xo yo (.int kd a) (.int kd b); Go.binOp .and t (.int kd a) (.int kd b) : Sem Value) = pure (.int kd (kd.wrap (BitVec.ofInt kd.bits a &&& BitVec.ofInt kd.bits b).toNat)) := by
    simp only [eqGuard, Go.binOp, Op.intBits]
    simp
  unfold abin
  simp only [aint]
  rw [if_pos trivial, e2]
  exact pv rfl
theorem abin_or {kd : IntKind} {xo yo : Operand} : abin P .or t xo yo (.int kd a) (.int kd b) = some (.int kd (kd.wrap (BitVec.ofInt kd.bits a ||| BitVec.ofInt kd.bits b).toNat)) := by
  have e2 : (do eqGuard .or t xo yo (.int kd a) (.int kd b); Go.binOp .or t (.int kd a) (.int kd b) : Sem Value) = pure (.int kd (kd.wrap (BitVec.ofInt kd.bits a ||| BitVec.ofInt kd.bits b).toNat)) := by
    simp only [eqGuard, Go.binOp, Op.intBits]
    simp
  unfold abin
  simp only [aint]
  rw [if_pos trivial, e2]
  exact pv rfl
theorem toNat_ofInt {a : Int} (h : 0 ≤ a ∧ a ≤ 18446744073709551615) : (BitVec.ofInt 64 a).toNat = a.toNat := by
  obtain ⟨m, rfl⟩ := Int.eq_ofNat_of_zero_le h.1
  rw [BitVec.ofInt_natCast, BitVec.toNat_ofNat]
  simp
  omega
/-- The lowest bits. -/
theorem and_low {m : Nat} (h : 0 ≤ a ∧ a ≤ 18446744073709551615) (hm : m ≤ 63) : (((BitVec.ofInt 64 a &&& BitVec.ofInt 64 ((2 ^ m - 1 : Nat) : Int)).toNat : Nat) : Int) = a % 2 ^ m := by
  have h2 : 2 ^ m ≤ 2 ^ 63 := Nat.pow_le_pow_right (by decide) hm
  have h3 : 0 < 2 ^ m := Nat.pow_pos (by decide)
  rw [BitVec.toNat_and, toNat_ofInt h, toNat_ofInt (by omega), Int.toNat_natCast, Nat.and_two_pow_sub_one_eq_mod]
  obtain ⟨c, rfl⟩ := Int.eq_ofNat_of_zero_le h.1
  simp
theorem Qk.andU {m : Nat} {c : Int} (hx : kev k x = some (.int .u64 a)) (hy : kev k y = some (.int .u64 c)) (hc : c = ((2 ^ m - 1 : Nat) : Int)) (hm : m ≤ 63) (hr : 0 ≤ a ∧ a ≤ 18446744073709551615) : Qk P n k (.binOp .and t x y t') (.int .u64 (a % 2 ^ m)) :=
  Qk.bin hx hy (by
    rw [abin_and, hc, show IntKind.u64.bits = 64 from rfl, and_low hr hm, u64_in]
    have h3 : (0 : Int) < 2 ^ m := Int.pow_pos (by decide)
    have h1 := Int.emod_nonneg a (Int.ne_of_gt h3)
    have h2 := Int.emod_lt_of_pos a h3
    have h4 : a % 2 ^ m ≤ a := by
      have := Int.emod_add_mul_ediv a (2 ^ m)
      have h5 : 0 ≤ 2 ^ m * (a / 2 ^ m) := Int.mul_nonneg (Int.le_of_lt h3) (Int.ediv_nonneg hr.1 (Int.le_of_lt h3))
      omega
    omega)
theorem Qk.andI {m : Nat} {c : Int} (hx : kev k x = some (.int .i64 a)) (hy : kev k y = some (.int .i64 c)) (hc : c = ((2 ^ m - 1 : Nat) : Int)) (hm : m ≤ 62) (hr : 0 ≤ a ∧ a ≤ 4294967295) : Qk P n k (.binOp .and t x y t') (.int .i64 (a % 2 ^ m)) :=
  Qk.bin hx hy (by
    rw [abin_and, hc, show IntKind.i64.bits = 64 from rfl, and_low (by omega) (by omega), i64_in]
    have h3 : (0 : Int) < 2 ^ m := Int.pow_pos (by decide)
    have h1 := Int.emod_nonneg a (Int.ne_of_gt h3)
    have h4 : a % 2 ^ m ≤ a := by
      have := Int.emod_add_mul_ediv a (2 ^ m)
      have h5 : 0 ≤ 2 ^ m * (a / 2 ^ m) := Int.mul_nonneg (Int.le_of_lt h3) (Int.ediv_nonneg hr.1 (Int.le_of_lt h3))
      omega
    omega)
theorem Qk.or0 (hx : kev k x = some (.int .u64 0)) (hy : kev k y = some (.int .u64 b)) (hr : 0 ≤ b ∧ b ≤ 18446744073709551615) : Qk P n k (.binOp .or t x y t') (.int .u64 b) :=
  Qk.bin hx hy (by
    rw [abin_or, show IntKind.u64.bits = 64 from rfl, BitVec.toNat_or, toNat_ofInt hr, toNat_ofInt (by omega)]
    simp
    rw [show max b 0 = b by omega]
    exact u64_in _ hr)
theorem Qk.or1 (hx : kev k x = some (.int .u64 (2 * a))) (hy : kev k y = some (.int .u64 1)) (hr : 0 ≤ a ∧ a ≤ 4294967295) : Qk P n k (.binOp .or t x y t') (.int .u64 (2 * a + 1)) :=
  Qk.bin hx hy (by
    obtain ⟨c, rfl⟩ := Int.eq_ofNat_of_zero_le hr.1
    rw [abin_or, show IntKind.u64.bits = 64 from rfl, BitVec.toNat_or, toNat_ofInt (by omega), toNat_ofInt (by omega)]
    rw [show (2 * (c : Int)).toNat = 2 * c by omega, show (1 : Int).toNat = 1 from rfl]
    have e : (2 * c) ||| 1 = 2 * c + 1 := by
      have := Nat.two_pow_add_eq_or_of_lt (i := 1) (b := 1) (by decide) c
      simpa using this.symm
    rw [e]
    rw [u64_in _ (by omega)]
    congr 2)
theorem pr_bind {α β : Type} : ∀ (x : Sem α) (f : α → Sem β), pureRun P (x >>= f) = (pureRun P x).bind fun a => pureRun P (f a) := by
  intro x f
  show pureRun P (Sem.bind x f) = _
  induction x <;> simp_all [pureRun, Sem.bind]
theorem pr_pure {α : Type} {a : α} : pureRun P (pure a : Sem α) = some a := rfl
theorem pr_under {t : TypeId} {u : TypeDesc} (h : P.underlying t = some u) : pureRun P (underlying t) = some u := by
  simp only [underlying, pr_bind, show pureRun P program = some P from rfl, Option.bind_some, h]
  rfl
theorem Qk.cvt {s d : TypeId} {kd kd' kd0 : IntKind} (hx : kev k x = some (.int kd a)) (hs : P.underlying s = some (.int kd0)) (hd : P.underlying d = some (.int kd')) (hr : kd'.wrap a = b) : Qk P n k (.convert s d x) (.int kd' b) :=
  Qk.convert hx rfl (by
    have e : pureRun P (Go.convert s d (.int kd a)) = some (.int kd' b) := by
      simp only [Go.convert, pr_bind, pr_under hs, pr_under hd, Option.bind_some, Conv.intToInt, pr_pure, hr]
    simp only [pureVal, e]
    rfl)
theorem pr_part {T : TypeId} {cs : Array Value} {off : Nat} {v : Value} (hA : pureRun P (isAgg T) = some false) (hc : cs[off]? = some v) : pureRun P (part T cs off) = some v := by
  simp only [part, pr_bind, hA, Option.bind_some, Bool.false_eq_true, if_false, hc]
  rfl
theorem pr_eqInt {d : Nat} {T : TypeId} {k0 kd : IntKind} {a b : Int} (hT : P.underlying T = some (.int k0)) : pureRun P (Op.equalIn (d + 1) T (.int kd a) (.int kd b)) = some (a == b) := by
  simp only [Op.equalIn, pr_bind, pr_under hT, Option.bind_some, if_true]
  rfl
theorem pr_equal2 {t T : TypeId} {k0 kd : IntKind} {a b c d : Int} (hu : P.underlying t = some (.struct (P.fieldsOf t))) (hf : (P.fieldsOf t).toList.map (fun f => (f.type, f.offset, decide (f.name ≠ "_"))) = [(T, 0, true), (T, 1, true)]) (hT : P.underlying T = some (.int k0)) (hA : pureRun P (isAgg T) = some false) (hs : P.stoodInHeld t = false) :
    pureRun P (Op.equal t (.agg #[.int kd a, .int kd b]) (.agg #[.int kd c, .int kd d])) = some (a == c && b == d) := by
  have hp : pureRun P program = some P := rfl
  unfold Op.equal
  rw [show Op.maxDepth = 9999 + 1 from rfl, Op.equalIn]
  simp only [pr_bind, pr_under hu, Option.bind_some, hp, hs, Bool.false_eq_true, if_false]
  rw [← Array.forIn_toList]
  generalize (P.fieldsOf t).toList = l at hf
  rcases l with _ | ⟨f0, _ | ⟨f1, _ | ⟨f2, l⟩⟩⟩
  · simp at hf
  · simp at hf
  rotate_left
  · simp at hf
  · skip
    simp only [List.map_cons, List.map_nil, List.cons.injEq, Prod.mk.injEq, decide_eq_true_eq, and_true] at hf
    obtain ⟨⟨h1, h2, h3⟩, h4, h5, h6⟩ := hf
    have q1 : ∀ x y : Int, pureRun P (part T #[.int kd x, .int kd y] 0) = some (.int kd x) := fun x y => pr_part hA rfl
    have q2 : ∀ x y : Int, pureRun P (part T #[.int kd x, .int kd y] 1) = some (.int kd y) := fun x y => pr_part hA rfl
    have q3 : ∀ x y : Int, pureRun P (Op.equalIn 9999 T (.int kd x) (.int kd y)) = some (x == y) := fun x y => pr_eqInt (d := 9998) hT
    simp only [List.forIn_cons, List.forIn_nil, pr_bind, h1, h2, h4, h5, ne_eq, h3, h6, not_false_eq_true, if_true, q1, q2, q3, Option.bind_some]
    by_cases e1 : a = c <;> by_cases e2 : b = d <;> simp [e1, e2, pr_bind, pr_pure, q1, q2, q3]
theorem abin_eq2 {t T : TypeId} {k0 kd : IntKind} {a b c d : Int} {xo yo : Operand} (hu : P.underlying t = some (.struct (P.fieldsOf t))) (hf : (P.fieldsOf t).toList.map (fun f => (f.type, f.offset, decide (f.name ≠ "_"))) = [(T, 0, true), (T, 1, true)]) (hT : P.underlying T = some (.int k0)) (hA : pureRun P (isAgg T) = some false) (hs : P.stoodInHeld t = false) (hg : P.eqGuardType P.depth t = false) :
    abin P .eql t xo yo (.agg #[.int kd a, .int kd b]) (.agg #[.int kd c, .int kd d]) = some (.bool (a == c && b == d)) := by
  have hp : pureRun P program = some P := rfl
  have h1 : pureRun P (eqGuard .eql t xo yo (.agg #[.int kd a, .int kd b]) (.agg #[.int kd c, .int kd d])) = some () := by
    simp [eqGuard, pr_bind, hp, hg, pr_pure]
  have h2 : pureRun P (do eqGuard .eql t xo yo (.agg #[.int kd a, .int kd b]) (.agg #[.int kd c, .int kd d]); Go.binOp .eql t (.agg #[.int kd a, .int kd b]) (.agg #[.int kd c, .int kd d])) = some (.bool (a == c && b == d)) := by
    simp only [pr_bind, h1, Option.bind_some, Go.binOp, pr_equal2 hu hf hT hA hs, pr_pure]
  have hpl : (plain (.agg #[.int kd a, .int kd b]) && plain (.agg #[.int kd c, .int kd d])) = true := rfl
  simp only [abin, hpl, if_true, pureVal, h2]
  rfl
end Go.Proofs.Ytfgnjndicidpkaa
