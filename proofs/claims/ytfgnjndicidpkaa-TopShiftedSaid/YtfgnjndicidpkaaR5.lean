/- Quotients and rests of numbers with a sign. Of no one program. -/
import Derived.Test.YtfgnjndicidpkaaR1
namespace Go.Proofs.Ytfgnjndicidpkaa
open Go.Abs
section
variable {P : Program} {n : Nat} {k : Kn} {s : St}
theorem Qk.remI {t t' : TypeId} {x y : Operand} {kd : IntKind} {a b : Int} (hx : kev k x = some (.int kd a)) (hy : kev k y = some (.int kd b)) (hb : b ≠ 0) : Qk P n k (.binOp .rem t x y t') (.int kd (a.tmod b)) :=
  Qk.bin hx hy (by simp [abin, aint, hb])
theorem Qk.quoI {t t' : TypeId} {x y : Operand} {a b : Int} (hx : kev k x = some (.int .i64 a)) (hy : kev k y = some (.int .i64 b)) (hb : b ≠ 0) (hr : -9223372036854775808 ≤ a.tdiv b ∧ a.tdiv b ≤ 9223372036854775807) : Qk P n k (.binOp .quo t x y t') (.int .i64 (a.tdiv b)) :=
  Qk.bin hx hy (by simp [abin, aint, hb, IntWalk.i64_in _ hr])
/-- The same value in other words. -/
theorem Qk.eqv {o : Op} {v u : Value} (h : Qk P n k o v) (e : v = u) : Qk P n k o u := e ▸ h
theorem Rk.eqv {o : Op} {v u : Value} (h : Rk P n k s o v) (e : v = u) : Rk P n k s o u := e ▸ h
/-- A difference without a sign, as it turns out. -/
theorem Qk.subW {t t' : TypeId} {x y : Operand} {a b : Int} (hx : kev k x = some (.int .u64 a)) (hy : kev k y = some (.int .u64 b)) : Qk P n k (.binOp .sub t x y t') (.int .u64 ((a - b) % 18446744073709551616)) :=
  Qk.bin hx hy (by simp [abin, aint, IntKind.wrap, IntKind.bits, IntKind.signed])
/-- A whole block is loaded. -/
theorem alW {t : TypeId} {b m : Nat} {cs : List Value} {md : Abs.Mode} (hsh : shapeOf P t = some (true, m)) (hg : s.get b = some ⟨cs, md⟩) (hm : md ≠ .dead) (hl : cs.length = m) : aload P s t (.pointer (some ⟨b, 0, none⟩)) = some (.agg cs.toArray) := by
  subst hl
  simp [aload, hsh, St.cells, hg, hm]
end
end Go.Proofs.Ytfgnjndicidpkaa
