/- One step, whatever the operation: what it gives by what is known; in the text's order (Wk) and in a drawn region (Wd). -/
import Derived.Test.YtfgnjndicidpkaaAbsWk
import Derived.IntWalk
namespace Go.Abs

def Qk (P : Program) (n : Nat) (k : Kn) (o : Op) (v : Value) : Prop := classOf o = .quiet ∧ ∀ fr, Knows n fr k → aquiet P o fr = some v
def Rk (P : Program) (n : Nat) (k : Kn) (s : St) (o : Op) (v : Value) : Prop := (classOf o = .load ∨ classOf o = .slice) ∧ ∀ fr, Knows n fr k → aread P o fr s = some v
def Fk (P : Program) (n : Nat) (k : Kn) (o : Op) (cs : List Value) (mk : Nat → Value) : Prop := classOf o = .fresh ∧ ∀ fr, Knows n fr k → afresh P o fr = some (cs, mk)
def Hk (P : Program) (n : Nat) (k : Kn) (s : St) (o : Op) (v : Value) (s' : St) : Prop := classOf o = .hard ∧ ∀ fr, Knows n fr k → ∀ call, ahard P call o fr s = some (v, s')
/-- A call: the function value and the arguments. -/
def Ck (n : Nat) (k : Kn) (o : Op) (fv : Value) (vs : List Value) : Prop := classOf o = .hard ∧ ∀ fr, Knows n fr k → ∀ (P : Program) (call : Value → List Value → St → Option (Value × St)) (s : St), ahard P call o fr s = call fv vs s

def kevs (k : Kn) : List Operand → Option (List Value)
  | [] => some []
  | x :: l => match kev k x, kevs k l with
    | some v, some vs => some (v :: vs)
    | _, _ => none

def kevParts (k : Kn) : List (Nat × Operand) → Option (List (Nat × Value))
  | [] => some []
  | (i, x) :: l => match kev k x, kevParts k l with
    | some v, some vs => some ((i, v) :: vs)
    | _, _ => none

def kevO (k : Kn) : Option Operand → Option (Option Value)
  | none => some none
  | some x => match kev k x with
    | some v => some (some v)
    | none => none

section
variable {P : Program} {K : Known} {n : Nat} {fr : Fr} {k : Kn} {s : St} {ops : Array Oper} {l : List Oper} {o : Oper}

theorem kevs_ev (h : Knows n fr k) : ∀ {l : List Operand} {vs : List Value}, kevs k l = some vs → l.map (ev fr) = vs
  | [], vs, hv => by simp [kevs] at hv; simp [hv]
  | x :: l, vs, hv => by
    simp only [kevs] at hv
    split at hv
    · rename_i v us h1 h2
      simp only [Option.some.injEq] at hv
      subst hv
      simp only [List.map_cons, kev_ev h h1, kevs_ev h h2]
    · cases hv

theorem kevParts_ev (h : Knows n fr k) : ∀ {l : List (Nat × Operand)} {vs : List (Nat × Value)}, kevParts k l = some vs → (l.map fun (i, x) => (i, ev fr x)) = vs
  | [], vs, hv => by simp [kevParts] at hv; simp [hv]
  | (i, x) :: l, vs, hv => by
    simp only [kevParts] at hv
    split at hv
    · rename_i v us h1 h2
      simp only [Option.some.injEq] at hv
      subst hv
      simp only [List.map_cons, kev_ev h h1, kevParts_ev h h2]
    · cases hv

theorem kevO_ev (h : Knows n fr k) {x : Option Operand} {v : Option Value} (hv : kevO k x = some v) : x.map (ev fr) = v := by
  cases x with
  | none => simpa [kevO] using hv
  | some x =>
    simp only [kevO] at hv
    split at hv
    · rename_i u hu
      simp only [Option.some.injEq] at hv
      subst hv
      simp [kev_ev h hu]
    · cases hv

/-! ### Quiet operations -/

theorem Qk.move {x : Operand} {v : Value} (hx : kev k x = some v) : Qk P n k (.move x) v := ⟨rfl, fun _ hf => by simp only [aquiet, kev_ev hf hx]⟩
theorem Qk.assign {x : Operand} {v : Value} (hx : kev k x = some v) : Qk P n k (.assign x) v := ⟨rfl, fun _ hf => by simp only [aquiet, kev_ev hf hx]⟩
theorem Qk.bin {op : BinOp} {t t' : TypeId} {x y : Operand} {v u r : Value} (hx : kev k x = some v) (hy : kev k y = some u) (hr : abin P op t x y v u = some r) : Qk P n k (.binOp op t x y t') r :=
  ⟨rfl, fun _ hf => by simp only [aquiet, kev_ev hf hx, kev_ev hf hy, hr]⟩
theorem Qk.add {t t' : TypeId} {x y : Operand} {a b : Int} (hx : kev k x = some (.int .i64 a)) (hy : kev k y = some (.int .i64 b)) (hr : -9223372036854775808 ≤ a + b ∧ a + b ≤ 9223372036854775807) : Qk P n k (.binOp .add t x y t') (.int .i64 (a + b)) :=
  Qk.bin hx hy (by simp [abin, aint, IntWalk.i64_in _ hr])
theorem Qk.sub {t t' : TypeId} {x y : Operand} {a b : Int} (hx : kev k x = some (.int .i64 a)) (hy : kev k y = some (.int .i64 b)) (hr : -9223372036854775808 ≤ a - b ∧ a - b ≤ 9223372036854775807) : Qk P n k (.binOp .sub t x y t') (.int .i64 (a - b)) :=
  Qk.bin hx hy (by simp [abin, aint, IntWalk.i64_in _ hr])
theorem Qk.pick {c x y : Operand} {b : Bool} {v u : Value} (hc : kev k c = some (.bool b)) (hx : kev k x = some v) (hy : kev k y = some u) : Qk P n k (.pick c x y) (if b then v else u) :=
  ⟨rfl, fun _ hf => by simp only [aquiet, kev_ev hf hc, kev_ev hf hx, kev_ev hf hy]⟩
theorem Qk.pickT {c x y : Operand} {v : Value} (hc : kev k c = some (.bool true)) (hx : kev k x = some v) : Qk P n k (.pick c x y) v :=
  ⟨rfl, fun _ hf => by simp only [aquiet, kev_ev hf hc, kev_ev hf hx, if_true]⟩
theorem Qk.pickF {c x y : Operand} {v : Value} (hc : kev k c = some (.bool false)) (hy : kev k y = some v) : Qk P n k (.pick c x y) v :=
  ⟨rfl, fun _ hf => by simp only [aquiet, kev_ev hf hc, kev_ev hf hy]; rfl⟩
theorem Qk.mul {t t' : TypeId} {x y : Operand} {a b : Int} (hx : kev k x = some (.int .i64 a)) (hy : kev k y = some (.int .i64 b)) (hr : -9223372036854775808 ≤ a * b ∧ a * b ≤ 9223372036854775807) : Qk P n k (.binOp .mul t x y t') (.int .i64 (a * b)) :=
  Qk.bin hx hy (by simp [abin, aint, IntWalk.i64_in _ hr])
theorem Qk.extract {x : Operand} {vs : Array Value} {i : Nat} {r : Value} (hx : kev k x = some (.tuple vs)) (hr : aextract (.tuple vs) i = some r) : Qk P n k (.extract x i) r := ⟨rfl, fun _ hf => by simp only [aquiet, kev_ev hf hx, hr]⟩
theorem Qk.field {t : TypeId} {x : Operand} {v r : Value} {i : Nat} (hx : kev k x = some v) (hr : afield P t v i = some r) : Qk P n k (.field t x i) r := ⟨rfl, fun _ hf => by simp only [aquiet, kev_ev hf hx, hr]⟩
theorem Qk.fieldAddr {t : TypeId} {x : Operand} {v r : Value} {i : Nat} (hx : kev k x = some v) (hr : afieldAddr P t v i = some r) : Qk P n k (.fieldAddr t x i) r := ⟨rfl, fun _ hf => by simp only [aquiet, kev_ev hf hx, hr]⟩
theorem Qk.fa {t u : TypeId} {x : Operand} {b off i o' sz : Nat} (hx : kev k x = some (.pointer (some ⟨b, off, none⟩))) (hf : fieldOf P t i = some (o', u, sz + 1)) : Qk P n k (.fieldAddr t x i) (.pointer (some ⟨b, off + o', none⟩)) :=
  Qk.fieldAddr hx (by simp [afieldAddr, hf])
theorem Qk.indexAddr {t : TypeId} {x y : Operand} {v u r : Value} (hx : kev k x = some v) (hy : kev k y = some u) (hr : aindexAddr P t v u = some r) : Qk P n k (.indexAddr t x y) r :=
  ⟨rfl, fun _ hf => by simp only [aquiet, kev_ev hf hx, kev_ev hf hy, hr]⟩
theorem Qk.ia {t e : TypeId} {x y : Operand} {b off len cap size bytes : Nat} {sp : Option Nat} {kd : IntKind} {j : Int} (hx : kev k x = some (.slice (some ⟨b, off, sp⟩) len cap)) (hy : kev k y = some (.int kd j)) (ha : arrElem P t = none) (hs : sliceElem P t = some (e, size, bytes)) (hj : 0 ≤ j ∧ j < len) :
    Qk P n k (.indexAddr t x y) (.pointer (some ⟨b, off + j.toNat * size, none⟩)) := Qk.indexAddr hx hy (by simp [aindexAddr, ha, hs, hj])
theorem Qk.index {t : TypeId} {x y : Operand} {v u r : Value} (hx : kev k x = some v) (hy : kev k y = some u) (hr : aindex P t v u = some r) : Qk P n k (.index t x y) r :=
  ⟨rfl, fun _ hf => by simp only [aquiet, kev_ev hf hx, kev_ev hf hy, hr]⟩
theorem Qk.nilCheck {x : Operand} {v r : Value} (hx : kev k x = some v) (hr : anilCheck v = some r) : Qk P n k (.nilCheck x) r := ⟨rfl, fun _ hf => by simp only [aquiet, kev_ev hf hx, hr]⟩
theorem Qk.un {op : UnOp} {t : TypeId} {x : Operand} {v r : Value} (hx : kev k x = some v) (hp : plain v = true) (hr : pureVal P (Op.unary op v) = some r) : Qk P n k (.unOp op t x) r := ⟨rfl, fun _ hf => by simp only [aquiet, kev_ev hf hx, hp, if_true, hr]⟩
theorem Qk.convert {a b : TypeId} {x : Operand} {v r : Value} (hx : kev k x = some v) (hp : plain v = true) (hr : pureVal P (Go.convert a b v) = some r) : Qk P n k (.convert a b x) r := ⟨rfl, fun _ hf => by simp only [aquiet, kev_ev hf hx, hp, if_true, hr]⟩
theorem Qk.build {t : TypeId} {ps : Array (Nat × Operand)} {vs : List (Nat × Value)} {r : Value} (hx : kevParts k ps.toList = some vs) (hr : abuild P t vs = some r) : Qk P n k (.build t ps) r := ⟨rfl, fun _ hf => by simp only [aquiet, kevParts_ev hf hx, hr]⟩
theorem Qk.makeFunc {f : FuncId} {a b : Array Operand} {as bs : List Value} (ha : kevs k a.toList = some as) (hb : kevs k b.toList = some bs) : Qk P n k (.makeFunc (.func f) a b) (.func (.func f) as.toArray bs.toArray) := ⟨rfl, fun fr hf => by
  have e : ∀ (c : Array Operand), c.map (ev fr) = (c.toList.map (ev fr)).toArray := fun c => by rw [← Array.toList_map, Array.toArray_toList]
  simp only [aquiet, e, kevs_ev hf ha, kevs_ev hf hb]⟩
theorem Qk.len {x : Operand} {a : Option Addr} {len cap : Nat} {t : TypeId} {e : TypeId × Nat × Nat} {args : Array Operand} {tys : Array TypeId} (ha : args.toList = [x]) (ht : tys.toList = [t]) (hx : kev k x = some (.slice a len cap)) (he : sliceElem P t = some e) :
    Qk P n k (.call { callee := .builtin .len, args := args, argTypes := tys }) (goInt len) := ⟨rfl, fun _ hf => by simp only [aquiet, ha, ht, kev_ev hf hx, he]⟩
theorem Qk.lenArr {x : Operand} {m : Nat} {t : TypeId} {e : TypeId × Nat} {args : Array Operand} {tys : Array TypeId} (ha : args.toList = [x]) (ht : tys.toList = [t]) (hs : sliceElem P t = none) (he : arrElem P t = some (m, e)) :
    Qk P n k (.call { callee := .builtin .len, args := args, argTypes := tys }) (goInt m) := ⟨rfl, fun fr hf => by
  simp only [aquiet, ha, ht, hs, he]
  split <;> simp_all⟩
theorem Qk.min {args : Array Operand} {tys : Array TypeId} {vs : List Value} {r : Value} (ha : kevs k args.toList = some vs) (hp : vs.all splain = true) (hr : pureVal P (Builtin.min_ #[] 0 vs.toArray) = some r) :
    Qk P n k (.call { callee := .builtin .min, args := args, argTypes := tys }) r := ⟨rfl, fun fr hf => by
  have e : args.map (ev fr) = vs.toArray := by rw [← kevs_ev hf ha, ← Array.toList_map, Array.toArray_toList]
  simp only [aquiet, e, List.toList_toArray, hp, if_true, hr]⟩
theorem Qk.max {args : Array Operand} {tys : Array TypeId} {vs : List Value} {r : Value} (ha : kevs k args.toList = some vs) (hp : vs.all splain = true) (hr : pureVal P (Builtin.max_ #[] 0 vs.toArray) = some r) :
    Qk P n k (.call { callee := .builtin .max, args := args, argTypes := tys }) r := ⟨rfl, fun fr hf => by
  have e : args.map (ev fr) = vs.toArray := by rw [← kevs_ev hf ha, ← Array.toList_map, Array.toArray_toList]
  simp only [aquiet, e, List.toList_toArray, hp, if_true, hr]⟩

theorem pureVal_pure {v : Value} (h : plain v = true) : pureVal P (pure v : Sem Value) = some v := by
  show (match pureRun P (Sem.pure v) with | some v => if plain v then some v else none | none => none) = some v
  simp [pureRun, h]

theorem Qk.min2 {x y : Operand} {kd : IntKind} {a b : Int} {args : Array Operand} {tys : Array TypeId} (ha : args.toList = [x, y]) (hx : kev k x = some (.int kd a)) (hy : kev k y = some (.int kd b)) :
    Qk P n k (.call { callee := .builtin .min, args := args, argTypes := tys }) (.int kd (if b < a then b else a)) :=
  Qk.min (vs := [.int kd a, .int kd b]) (by simp [ha, kevs, hx, hy]) rfl (by
    simp only [Builtin.min_, List.foldlM_cons, List.foldlM_nil, Builtin.min2, bind_pure]
    exact pureVal_pure rfl)
theorem Qk.max2 {x y : Operand} {kd : IntKind} {a b : Int} {args : Array Operand} {tys : Array TypeId} (ha : args.toList = [x, y]) (hx : kev k x = some (.int kd a)) (hy : kev k y = some (.int kd b)) :
    Qk P n k (.call { callee := .builtin .max, args := args, argTypes := tys }) (.int kd (if b > a then b else a)) :=
  Qk.max (vs := [.int kd a, .int kd b]) (by simp [ha, kevs, hx, hy]) rfl (by
    simp only [Builtin.max_, List.foldlM_cons, List.foldlM_nil, Builtin.max2, bind_pure]
    exact pureVal_pure rfl)
theorem Qk.not {t : TypeId} {x : Operand} {b : Bool} (hx : kev k x = some (.bool b)) : Qk P n k (.unOp .not t x) (.bool !b) := Qk.un hx rfl (pureVal_pure rfl)

/-! ### Readings -/

theorem Rk.load {t : TypeId} {x : Operand} {v r : Value} (hx : kev k x = some v) (hr : aload P s t v = some r) : Rk P n k s (.load t x) r := ⟨.inl rfl, fun _ hf => by simp only [aread, kev_ev hf hx, hr]⟩
theorem Rk.cell {t : TypeId} {x : Operand} {b off m : Nat} {cs : List Value} {md : Mode} {v : Value} (hx : kev k x = some (.pointer (some ⟨b, off, none⟩))) (hsh : shapeOf P t = some (false, m)) (hg : s.get b = some ⟨cs, md⟩) (hm : md ≠ .dead) (hc : cs[off]? = some v) : Rk P n k s (.load t x) v :=
  Rk.load hx (by simp [aload, hsh, St.cell, hg, hm, hc])
theorem Rk.cells {t : TypeId} {x : Operand} {b off m : Nat} {cs : List Value} {md : Mode} (hx : kev k x = some (.pointer (some ⟨b, off, none⟩))) (hsh : shapeOf P t = some (true, m)) (hg : s.get b = some ⟨cs, md⟩) (hm : md ≠ .dead) (hc : off + m ≤ cs.length) : Rk P n k s (.load t x) (.agg ((cs.drop off).take m).toArray) :=
  Rk.load hx (by simp [aload, hsh, St.cells, hg, hm, hc])
theorem Rk.slice {t : TypeId} {x : Operand} {lo hi mx : Option Operand} {v r : Value} {lov hiv mxv : Option Value} (hx : kev k x = some v) (hl : kevO k lo = some lov) (hh : kevO k hi = some hiv) (hm : kevO k mx = some mxv) (hr : aslice P s t v lov hiv mxv = some r) :
    Rk P n k s (.slice t x lo hi mx) r := ⟨.inr rfl, fun _ hf => by simp only [aread, kev_ev hf hx, kevO_ev hf hl, kevO_ev hf hh, kevO_ev hf hm, hr]⟩

/-! ### New blocks -/

theorem Fk.alloc {t : TypeId} {z : Value} (hz : zeroOf P t = some z) : Fk P n k (.alloc t) z.cells.toList (fun b => .pointer (some ⟨b, 0, none⟩)) := ⟨rfl, fun _ _ => by simp only [afresh, hz]⟩
theorem Fk.box {t : TypeId} {x : Operand} {v : Value} (hx : kev k x = some v) (hv : isVal v = true) : Fk P n k (.box t x) v.cells.toList (fun b => .pointer (some ⟨b, 0, none⟩)) := ⟨rfl, fun _ hf => by simp only [afresh, kev_ev hf hx, hv, if_true]⟩
theorem Fk.buildSlice {t : TypeId} {len : Nat} {ps : Array (Nat × Operand)} {vs : List (Nat × Value)} {cs : List Value} {mk : Nat → Value} (hx : kevParts k ps.toList = some vs) (hr : abuildSlice P t len vs = some (cs, mk)) : Fk P n k (.buildSlice t len ps) cs mk :=
  ⟨rfl, fun _ hf => by simp only [afresh, kevParts_ev hf hx, hr]⟩
theorem Fk.makeSlice {t : TypeId} {x y : Operand} {v u : Value} {cs : List Value} {mk : Nat → Value} (hx : kev k x = some v) (hy : kev k y = some u) (hr : amakeSlice P t v u = some (cs, mk)) : Fk P n k (.makeSlice t x y) cs mk :=
  ⟨rfl, fun _ hf => by simp only [afresh, kev_ev hf hx, kev_ev hf hy, hr]⟩

/-! ### Writing and calls -/

theorem Hk.store {t : TypeId} {x y : Operand} {v u : Value} {s' : St} (hx : kev k x = some v) (hy : kev k y = some u) (hr : astore P s t u v = some s') : Hk P n k s (.store t x y) undef s' := ⟨rfl, fun _ hf _ => by simp only [ahard, kev_ev hf hx, kev_ev hf hy, hr, Option.map_some]⟩
theorem Hk.append {x y : Operand} {st xt : TypeId} {args : Array Operand} {tys : Array TypeId} {v u r : Value} {s' : St} (ha : args.toList = [x, y]) (ht : tys.toList = [st, xt]) (hx : kev k x = some v) (hy : kev k y = some u) (hr : aappend P s st xt v u = some (r, s')) :
    Hk P n k s (.call { callee := .builtin .append, args := args, argTypes := tys }) r s' := ⟨rfl, fun _ hf _ => by simp only [ahard, ha, ht, kev_ev hf hx, kev_ev hf hy, hr]⟩
theorem Ck.call {f : Operand} {args : Array Operand} {tys : Array TypeId} {fv : Value} {vs : List Value} (hf : kev k f = some fv) (ha : kevs k args.toList = some vs) : Ck n k (.call { callee := .value f, args := args, argTypes := tys }) fv vs :=
  ⟨rfl, fun _ h _ _ _ => by simp only [ahard, kev_ev h hf, kevs_ev h ha]⟩

/-! ### In the text's order -/

variable {Q : Fr → St → Prop} {d : Option Tmp}

theorem Wk.q {v : Value} {d : Tmp} (hw : kwanted ops o k = some true) (he : o.dst = some d) (hd : Nat.blt d n = true) (h0 : Qk P n k o.op v) (h : Wk P K n ops l ((d, v) :: k) s Q) : Wk P K n ops (o :: l) k s Q :=
  Wk.op hw he (blt_ok hd) (fun fr hf _ => by simp only [aop, h0.1, h0.2 fr hf, Option.map_some]) h
/-- A test gets a name of its own. -/
theorem Wk.b {c : Bool} {d : Tmp} (hw : kwanted ops o k = some true) (he : o.dst = some d) (hd : Nat.blt d n = true) (h0 : Qk P n k o.op (.bool c)) (h : ∀ b, c = b → Wk P K n ops l ((d, .bool b) :: k) s Q) : Wk P K n ops (o :: l) k s Q := Wk.q hw he hd h0 (h c rfl)
theorem Wk.r {v : Value} {d : Tmp} (hw : kwanted ops o k = some true) (he : o.dst = some d) (hd : Nat.blt d n = true) (h0 : Rk P n k s o.op v) (h : Wk P K n ops l ((d, v) :: k) s Q) : Wk P K n ops (o :: l) k s Q :=
  Wk.op hw he (blt_ok hd) (fun fr hf _ => by rcases h0.1 with h1 | h1 <;> simp only [aop, h1, h0.2 fr hf, Option.map_some]) h
theorem Wk.f {cs : List Value} {mk : Nat → Value} {d : Tmp} (hw : kwanted ops o k = some true) (he : o.dst = some d) (hd : Nat.blt d n = true) (h0 : Fk P n k o.op cs mk) (h : Wk P K n ops l ((d, mk s.size) :: k) (s.push ⟨cs, .rw⟩) Q) : Wk P K n ops (o :: l) k s Q :=
  Wk.op hw he (blt_ok hd) (fun fr hf _ => by simp only [aop, h0.1, h0.2 fr hf, Option.map_some]) h
theorem Wk.h {v : Value} {s' : St} (hw : kwanted ops o k = some true) (he : o.dst = d) (hd : dstOk n d = true) (h0 : Hk P n k s o.op v s') (h : Wk P K n ops l (kput k d v) s' Q) : Wk P K n ops (o :: l) k s Q :=
  Wk.op hw he hd (fun fr hf call => by simp only [aop, h0.1, h0.2 fr hf call]) h
theorem Wk.c {fv : Value} {vs : List Value} (hw : kwanted ops o k = some true) (he : o.dst = d) (hd : dstOk n d = true) (h0 : Ck n k o.op fv vs) (h : Ev P K fv vs s fun r s' => Wk P K n ops l (kput k d r) s' Q) : Wk P K n ops (o :: l) k s Q := fun fr hf => by
  obtain ⟨m, v, s', h1, h2⟩ := h
  obtain ⟨m2, fr', s2, h3, h4⟩ := h2 _ (hf.put (dstOk_lt hd))
  refine ⟨max m m2, fr', s2, ?_, h4⟩
  have := inv_mono (Nat.le_max_left m m2) _ _ _ _ h1
  simp only [seqOps, kwanted_wanted hf hw, aop, h0.1, h0.2 fr hf, this, he]
  exact seq_up (Nat.le_max_right m m2) h3
theorem Wk.no {d : Tmp} (hw : kwanted ops o k = some false) (he : o.dst = some d) (hd : Nat.blt d n = true) (h : Wk P K n ops l ((d, skipped) :: k) s Q) : Wk P K n ops (o :: l) k s Q := Wk.idle hw he (blt_ok hd) h

/-! ### In a drawn region: the hard operations and the readings so far go by their numbers -/

def Wd (P : Program) (K : Known) (n : Nat) (ops : Array Oper) (base : Nat) (hs rs : List Nat) (i : Nat) (l : List Oper) (k : Kn) (s : St) (Q : Fr → St → Prop) : Prop :=
  ∀ fr hist reads, Knows n fr k → hist.map (·.1) = hs → reads.map (·.1) = rs → WpDraw P K ops base i l fr s hist reads Q

variable {base i : Nat} {hs rs : List Nat}

theorem draw_up {n m : Nat} (hn : n ≤ m) {hist : List (Nat × St)} {reads : List (Nat × Op × Fr × Value)} {r : Fr × St} (h : drawOps P (inv P K n) ops base i l fr s hist reads = some r) : drawOps P (inv P K m) ops base i l fr s hist reads = some r := drawOps_mono (inv_mono hn) h

theorem Wd.nil (h : ∀ fr, Knows n fr k → Q fr s) : Wd P K n ops base hs rs i [] k s Q := fun _ _ _ hf _ _ => ⟨0, _, _, rfl, h _ hf⟩

theorem Wd.no {d : Tmp} (hw : kwanted ops o k = some false) (he : o.dst = some d) (hd : Nat.blt d n = true) (h : Wd P K n ops base hs rs (i + 1) l ((d, skipped) :: k) s Q) : Wd P K n ops base hs rs i (o :: l) k s Q := fun fr hist reads hf h1 h2 => by
  obtain ⟨m, fr', s2, h3, h4⟩ := h _ hist reads (hf.put (d := some d) (dstOk_lt (blt_ok hd))) h1 h2
  exact ⟨m, fr', s2, by simp only [drawOps, kwanted_wanted hf hw, he, h3], h4⟩

theorem Wd.q {v : Value} {d : Tmp} (hw : kwanted ops o k = some true) (he : o.dst = some d) (hd : Nat.blt d n = true) (h0 : Qk P n k o.op v) (h : Wd P K n ops base hs rs (i + 1) l ((d, v) :: k) s Q) : Wd P K n ops base hs rs i (o :: l) k s Q := fun fr hist reads hf h1 h2 => by
  obtain ⟨m, fr', s2, h3, h4⟩ := h _ hist reads (hf.put (d := some d) (dstOk_lt (blt_ok hd))) h1 h2
  exact ⟨m, fr', s2, by simp only [drawOps, kwanted_wanted hf hw, h0.1, h0.2 fr hf, he, h3], h4⟩

theorem Wd.b {c : Bool} {d : Tmp} (hw : kwanted ops o k = some true) (he : o.dst = some d) (hd : Nat.blt d n = true) (h0 : Qk P n k o.op (.bool c)) (h : ∀ b, c = b → Wd P K n ops base hs rs (i + 1) l ((d, .bool b) :: k) s Q) : Wd P K n ops base hs rs i (o :: l) k s Q := Wd.q hw he hd h0 (h c rfl)

theorem Wd.r {v : Value} {d : Tmp} (hw : kwanted ops o k = some true) (he : o.dst = some d) (hd : Nat.blt d n = true) (h0 : Rk P n k s o.op v) (ho : hs.all (fun j => ordered (Region.before ops) j i) = true) (h : Wd P K n ops base hs (i :: rs) (i + 1) l ((d, v) :: k) s Q) :
    Wd P K n ops base hs rs i (o :: l) k s Q := fun fr hist reads hf h1 h2 => by
  obtain ⟨m, fr', s2, h3, h4⟩ := h _ hist ((i, o.op, fr, v) :: reads) (hf.put (d := some d) (dstOk_lt (blt_ok hd))) h1 (by simp [h2])
  refine ⟨m, fr', s2, ?_, h4⟩
  have hall : (hist.all fun h => ordered (Region.before ops) h.1 i || stable P h.2 o.op fr v) = true := by
    rw [List.all_eq_true] at ho ⊢
    intro x hx
    rw [ho x.1 (by rw [← h1]; exact List.mem_map_of_mem hx)]
    rfl
  rcases h0.1 with hc | hc <;> simp only [drawOps, kwanted_wanted hf hw, hc, h0.2 fr hf, hall, if_true, he, h3]

theorem Wd.f {cs : List Value} {mk : Nat → Value} {d : Tmp} (hw : kwanted ops o k = some true) (he : o.dst = some d) (hd : Nat.blt d n = true) (h0 : Fk P n k o.op cs mk) (h : Wd P K n ops base hs rs (i + 1) l ((d, mk (base + i)) :: k) (s.set (base + i) ⟨cs, .rw⟩) Q) :
    Wd P K n ops base hs rs i (o :: l) k s Q := fun fr hist reads hf h1 h2 => by
  obtain ⟨m, fr', s2, h3, h4⟩ := h _ hist reads (hf.put (d := some d) (dstOk_lt (blt_ok hd))) h1 h2
  exact ⟨m, fr', s2, by simp only [drawOps, kwanted_wanted hf hw, h0.1, h0.2 fr hf, he, h3], h4⟩

theorem all_ordered {α : Type} {l : List (Nat × α)} {js : List Nat} {p : Nat × α → Bool} (h1 : l.map (·.1) = js) (ho : js.all (fun j => ordered (Region.before ops) j i) = true) : (l.all fun x => ordered (Region.before ops) x.1 i || p x) = true := by
  rw [List.all_eq_true] at ho ⊢
  intro x hx
  rw [ho x.1 (by rw [← h1]; exact List.mem_map_of_mem hx)]
  rfl

theorem all_ordered' {α : Type} {l : List (Nat × α)} {js : List Nat} (h1 : l.map (·.1) = js) (ho : js.all (fun j => ordered (Region.before ops) j i) = true) : (l.all fun x => ordered (Region.before ops) x.1 i) = true := by
  rw [List.all_eq_true] at ho ⊢
  intro x hx
  exact ho x.1 (by rw [← h1]; exact List.mem_map_of_mem hx)

theorem Wd.h {v : Value} {s' : St} (hw : kwanted ops o k = some true) (he : o.dst = d) (hd : dstOk n d = true) (h0 : Hk P n k s o.op v s') (ho : hs.all (fun j => ordered (Region.before ops) j i) = true) (ho2 : rs.all (fun j => ordered (Region.before ops) j i) = true)
    (h : Wd P K n ops base (i :: hs) rs (i + 1) l (kput k d v) s' Q) : Wd P K n ops base hs rs i (o :: l) k s Q := fun fr hist reads hf h1 h2 => by
  obtain ⟨m, fr', s2, h3, h4⟩ := h _ ((i, s) :: hist) reads (hf.put (dstOk_lt hd)) (by simp [h1]) h2
  refine ⟨m, fr', s2, ?_, h4⟩
  simp only [drawOps, kwanted_wanted hf hw, h0.1, h0.2 fr hf, all_ordered' h1 ho, all_ordered h2 ho2, if_true, he, h3]

theorem Wd.c {fv : Value} {vs : List Value} (hw : kwanted ops o k = some true) (he : o.dst = d) (hd : dstOk n d = true) (h0 : Ck n k o.op fv vs) (ho : hs.all (fun j => ordered (Region.before ops) j i) = true) (ho2 : rs.all (fun j => ordered (Region.before ops) j i) = true)
    (h : Ev P K fv vs s fun r s' => Wd P K n ops base (i :: hs) rs (i + 1) l (kput k d r) s' Q) : Wd P K n ops base hs rs i (o :: l) k s Q := fun fr hist reads hf h1 h2 => by
  obtain ⟨m, v, s', h5, h6⟩ := h
  obtain ⟨m2, fr', s2, h3, h4⟩ := h6 _ ((i, s) :: hist) reads (hf.put (dstOk_lt hd)) (by simp [h1]) h2
  refine ⟨max m m2, fr', s2, ?_, h4⟩
  have := inv_mono (Nat.le_max_left m m2) _ _ _ _ h5
  simp only [drawOps, kwanted_wanted hf hw, h0.1, h0.2 fr hf, this, all_ordered' h1 ho, all_ordered h2 ho2, if_true, he]
  exact draw_up (Nat.le_max_right m m2) h3

variable {R : AExit → Fr → St → Prop}

theorem Wd.next {c : Code} (h : Wc P K n c k s R) : Wd P K n ops base hs rs i [] k s (nextly P K c R) := Wd.nil h

theorem Wc.draw {id : Nat} {c : Code} (h : Wd P K n ops s.size [] [] 0 ops.toList k (reserve s (room ops.toList)) (nextly P K c R)) : Wc P K n (.seq (.region id ops true) c) k s R := fun fr hf =>
  Wp.seq (Wp.draw (h fr [] [] hf rfl rfl))

end
end Go.Abs
