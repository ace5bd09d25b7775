/- What a call, a piece of code, a list of operations comes to: rules, one for each form. -/
import Derived.Test.YtfgnjndicidpkaaAbsMono
import Derived.Test.YtfgnjndicidpkaaAbsHeap
namespace Go.Abs

/-- A call of a function value comes to an answer with Q. -/
def Ev (P : Program) (K : Known) (tv : Value) (args : List Value) (s : St) (Q : Value → St → Prop) : Prop := ∃ n v s', inv P K n tv args s = some (v, s') ∧ Q v s'

def Wp (P : Program) (K : Known) (c : Code) (fr : Fr) (s : St) (Q : AExit → Fr → St → Prop) : Prop := ∃ n e fr' s', code P (inv P K n) n c fr s = some (e, fr', s') ∧ Q e fr' s'

def WpOps (P : Program) (K : Known) (ops : Array Oper) (l : List Oper) (fr : Fr) (s : St) (Q : Fr → St → Prop) : Prop := ∃ n fr' s', seqOps P (inv P K n) ops l fr s = some (fr', s') ∧ Q fr' s'

def WpDraw (P : Program) (K : Known) (ops : Array Oper) (base i : Nat) (l : List Oper) (fr : Fr) (s : St) (hist : List (Nat × St)) (reads : List (Nat × Op × Fr × Value)) (Q : Fr → St → Prop) : Prop :=
  ∃ n fr' s', drawOps P (inv P K n) ops base i l fr s hist reads = some (fr', s') ∧ Q fr' s'

section
variable {P : Program} {K : Known} {fr : Fr} {s : St} {ops : Array Oper} {l : List Oper} {o : Oper}

theorem Ev.mono {tv : Value} {args : List Value} {Q Q' : Value → St → Prop} (h : Ev P K tv args s Q) (hq : ∀ v s', Q v s' → Q' v s') : Ev P K tv args s Q' := by
  obtain ⟨n, v, s', h1, h2⟩ := h
  exact ⟨n, v, s', h1, hq _ _ h2⟩

theorem Wp.mono {c : Code} {Q Q' : AExit → Fr → St → Prop} (h : Wp P K c fr s Q) (hq : ∀ e fr s, Q e fr s → Q' e fr s) : Wp P K c fr s Q' := by
  obtain ⟨n, e, fr', s', h1, h2⟩ := h
  exact ⟨n, e, fr', s', h1, hq _ _ _ h2⟩

theorem code_up {n m : Nat} (hn : n ≤ m) {c : Code} {r : AExit × Fr × St} (h : code P (inv P K n) n c fr s = some r) : code P (inv P K m) m c fr s = some r := code_mono (inv_mono hn) hn h

/-! ### Code -/

theorem Wp.skip {Q : AExit → Fr → St → Prop} (h : Q .normal fr s) : Wp P K .skip fr s Q := ⟨0, _, _, _, rfl, h⟩
theorem Wp.label {i : Nat} {Q : AExit → Fr → St → Prop} (h : Q .normal fr s) : Wp P K (.label i) fr s Q := ⟨0, _, _, _, rfl, h⟩
theorem Wp.exit {i : Nat} {Q : AExit → Fr → St → Prop} (h : Q (.exit i) fr s) : Wp P K (.exit i) fr s Q := ⟨0, _, _, _, rfl, h⟩
theorem Wp.ret {Q : AExit → Fr → St → Prop} (h : Q .ret fr s) : Wp P K .ret fr s Q := ⟨0, _, _, _, rfl, h⟩

/-- What follows a piece of code that ends normally. -/
def andThen (k : Fr → St → Prop) (Q : AExit → Fr → St → Prop) : AExit → Fr → St → Prop
  | .normal, fr, s => k fr s
  | .exit i, fr, s => Q (.exit i) fr s
  | .ret, fr, s => Q .ret fr s

theorem Wp.seq {a b : Code} {Q : AExit → Fr → St → Prop} (h : Wp P K a fr s (andThen (fun fr s => Wp P K b fr s Q) Q)) : Wp P K (.seq a b) fr s Q := by
  obtain ⟨n, e, fr', s', h1, h2⟩ := h
  cases e with
  | normal =>
    obtain ⟨m, e2, fr2, s2, h3, h4⟩ := h2
    refine ⟨max n m, e2, fr2, s2, ?_, h4⟩
    simp only [code, code_up (Nat.le_max_left n m) h1]
    exact code_up (Nat.le_max_right n m) h3
  | exit i => exact ⟨n, _, fr', s', by simp only [code, h1], h2⟩
  | ret => exact ⟨n, _, fr', s', by simp only [code, h1], h2⟩

theorem Wp.cond {c : Operand} {a b : Code} {t : Bool} {Q : AExit → Fr → St → Prop} (hc : ev fr c = .bool t) (h1 : t = true → Wp P K a fr s Q) (h2 : t = false → Wp P K b fr s Q) : Wp P K (.cond c a b) fr s Q := by
  cases t with
  | true =>
    obtain ⟨n, e, fr', s', h3, h4⟩ := h1 rfl
    exact ⟨n, e, fr', s', by simp only [code, hc, if_true]; exact h3, h4⟩
  | false =>
    obtain ⟨n, e, fr', s', h3, h4⟩ := h2 rfl
    exact ⟨n, e, fr', s', by simp only [code, hc]; exact h3, h4⟩

/-- What follows a block. -/
def outOf (id : Nat) (Q : AExit → Fr → St → Prop) : AExit → Fr → St → Prop
  | .normal, fr, s => Q .normal fr s
  | .exit i, fr, s => if i = id then Q .normal fr s else Q (.exit i) fr s
  | .ret, fr, s => Q .ret fr s

theorem Wp.block {id : Nat} {c : Code} {Q : AExit → Fr → St → Prop} (h : Wp P K c fr s (outOf id Q)) : Wp P K (.block id c) fr s Q := by
  obtain ⟨n, e, fr', s', h1, h2⟩ := h
  cases e with
  | normal => exact ⟨n, _, fr', s', by simp only [code, h1], h2⟩
  | exit i =>
    simp only [outOf] at h2
    by_cases hi : i = id
    · rw [if_pos hi] at h2
      exact ⟨n, _, fr', s', by simp only [code, h1, if_pos hi], h2⟩
    · rw [if_neg hi] at h2
      exact ⟨n, _, fr', s', by simp only [code, h1, if_neg hi], h2⟩
  | ret => exact ⟨n, _, fr', s', by simp only [code, h1], h2⟩

/-- A loop: what holds ahead of each round, and a number that falls. -/
theorem Wp.loop {c : Code} {Q : AExit → Fr → St → Prop} (I : Nat → Fr → St → Prop) (hI : ∀ k fr s, I k fr s → Wp P K c fr s (andThen (fun fr s => ∃ j, j < k ∧ I j fr s) Q)) :
    ∀ (k : Nat) (fr : Fr) (s : St), I k fr s → Wp P K (.loop c) fr s Q := by
  intro k
  induction k using Nat.strongRecOn with
  | _ k ih =>
    intro fr s h
    obtain ⟨n, e, fr', s', h1, h2⟩ := hI k fr s h
    cases e with
    | normal =>
      obtain ⟨j, hj, h3⟩ := h2
      obtain ⟨m, e2, fr2, s2, h4, h5⟩ := ih j hj fr' s' h3
      simp only [code] at h4
      refine ⟨max n m + 1, e2, fr2, s2, ?_, h5⟩
      simp only [code, iter]
      rw [code_up (Nat.le_succ_of_le (Nat.le_max_left n m)) h1]
      exact iter_mono (fun fr s r hb => code_up (Nat.le_succ_of_le (Nat.le_max_right n m)) hb) (Nat.le_max_right n m) h4
    | exit i =>
      refine ⟨n + 1, _, fr', s', ?_, h2⟩
      simp only [code, iter, code_up (Nat.le_succ n) h1]
    | ret =>
      refine ⟨n + 1, _, fr', s', ?_, h2⟩
      simp only [code, iter, code_up (Nat.le_succ n) h1]

theorem Wp.region {id : Nat} {Q : AExit → Fr → St → Prop} (h : WpOps P K ops ops.toList fr s (Q .normal)) : Wp P K (.region id ops false) fr s Q := by
  obtain ⟨n, fr', s', h1, h2⟩ := h
  exact ⟨n, _, fr', s', by simp only [code, Bool.false_eq_true, if_false, h1], h2⟩

theorem Wp.draw {id : Nat} {Q : AExit → Fr → St → Prop} (h : WpDraw P K ops s.size 0 ops.toList fr (reserve s (room ops.toList)) [] [] (Q .normal)) : Wp P K (.region id ops true) fr s Q := by
  obtain ⟨n, fr', s', h1, h2⟩ := h
  exact ⟨n, _, fr', s', by simp only [code, if_true, h1], h2⟩

/-! ### Operations -/

theorem WpOps.nil {Q : Fr → St → Prop} (h : Q fr s) : WpOps P K ops [] fr s Q := ⟨0, _, _, rfl, h⟩

theorem seq_up {n m : Nat} (hn : n ≤ m) {r : Fr × St} (h : seqOps P (inv P K n) ops l fr s = some r) : seqOps P (inv P K m) ops l fr s = some r := seqOps_mono (inv_mono hn) h

/-- An operation that calls nothing. -/
theorem WpOps.op {Q : Fr → St → Prop} {v : Value} {s' : St} (hw : awanted ops o fr = some true) (hv : ∀ n, aop P (inv P K n) o.op fr s = some (v, s')) (h : WpOps P K ops l (setf fr o.dst v) s' Q) : WpOps P K ops (o :: l) fr s Q := by
  obtain ⟨n, fr', s2, h1, h2⟩ := h
  exact ⟨n, fr', s2, by simp only [seqOps, hw, hv n, h1], h2⟩

theorem WpOps.idle {Q : Fr → St → Prop} (hw : awanted ops o fr = some false) (h : WpOps P K ops l (setf fr o.dst skipped) s Q) : WpOps P K ops (o :: l) fr s Q := by
  obtain ⟨n, fr', s2, h1, h2⟩ := h
  exact ⟨n, fr', s2, by simp only [seqOps, hw, h1], h2⟩

theorem WpOps.quiet {Q : Fr → St → Prop} {v : Value} (hw : awanted ops o fr = some true) (hc : classOf o.op = .quiet) (hv : aquiet P o.op fr = some v) (h : WpOps P K ops l (setf fr o.dst v) s Q) : WpOps P K ops (o :: l) fr s Q :=
  WpOps.op hw (fun n => by simp only [aop, hc, hv, Option.map_some]) h

theorem WpOps.load {Q : Fr → St → Prop} {v : Value} {t : TypeId} {x : Operand} (hw : awanted ops o fr = some true) (hc : o.op = .load t x) (hv : aload P s t (ev fr x) = some v) (h : WpOps P K ops l (setf fr o.dst v) s Q) : WpOps P K ops (o :: l) fr s Q :=
  WpOps.op hw (fun n => by simp only [aop, hc, classOf, aread, hv, Option.map_some]) h

theorem WpOps.slice {Q : Fr → St → Prop} {v : Value} {t : TypeId} {x : Operand} {lo hi mx : Option Operand} (hw : awanted ops o fr = some true) (hc : o.op = .slice t x lo hi mx)
    (hv : aslice P s t (ev fr x) (lo.map (ev fr)) (hi.map (ev fr)) (mx.map (ev fr)) = some v) (h : WpOps P K ops l (setf fr o.dst v) s Q) : WpOps P K ops (o :: l) fr s Q :=
  WpOps.op hw (fun n => by simp only [aop, hc, classOf, aread, hv, Option.map_some]) h

theorem WpOps.fresh {Q : Fr → St → Prop} {cs : List Value} {mk : Nat → Value} (hw : awanted ops o fr = some true) (hc : classOf o.op = .fresh) (hv : afresh P o.op fr = some (cs, mk))
    (h : WpOps P K ops l (setf fr o.dst (mk s.size)) (s.push ⟨cs, .rw⟩) Q) : WpOps P K ops (o :: l) fr s Q :=
  WpOps.op hw (fun n => by simp only [aop, hc, hv, Option.map_some]) h

theorem WpOps.store {Q : Fr → St → Prop} {s' : St} {t : TypeId} {x y : Operand} (hw : awanted ops o fr = some true) (hc : o.op = .store t x y) (hv : astore P s t (ev fr y) (ev fr x) = some s')
    (h : WpOps P K ops l (setf fr o.dst undef) s' Q) : WpOps P K ops (o :: l) fr s Q :=
  WpOps.op hw (fun n => by simp only [aop, hc, classOf, ahard, hv, Option.map_some]) h

theorem WpOps.append {Q : Fr → St → Prop} {s' : St} {v : Value} {x y : Operand} {st xt : TypeId} {args : Array Operand} {tys : Array TypeId} (hw : awanted ops o fr = some true) (hc : o.op = .call { callee := .builtin .append, args := args, argTypes := tys })
    (ha : args.toList = [x, y]) (ht : tys.toList = [st, xt]) (hv : aappend P s st xt (ev fr x) (ev fr y) = some (v, s')) (h : WpOps P K ops l (setf fr o.dst v) s' Q) : WpOps P K ops (o :: l) fr s Q :=
  WpOps.op hw (fun n => by simp only [aop, hc, classOf, ahard, ha, ht, hv]) h

theorem WpOps.hard {Q : Fr → St → Prop} {s' : St} {v : Value} (hw : awanted ops o fr = some true) (hc : classOf o.op = .hard) (hv : ∀ call, ahard P call o.op fr s = some (v, s')) (h : WpOps P K ops l (setf fr o.dst v) s' Q) : WpOps P K ops (o :: l) fr s Q :=
  WpOps.op hw (fun n => by simp only [aop, hc, hv]) h

/-- A call of a function value. -/
theorem WpOps.call {Q : Fr → St → Prop} {f : Operand} {args : Array Operand} {tys : Array TypeId} (hw : awanted ops o fr = some true) (hc : o.op = .call { callee := .value f, args := args, argTypes := tys })
    (h : Ev P K (ev fr f) (args.toList.map (ev fr)) s fun v s' => WpOps P K ops l (setf fr o.dst v) s' Q) : WpOps P K ops (o :: l) fr s Q := by
  obtain ⟨n, v, s', h1, m, fr', s2, h2, h3⟩ := h
  refine ⟨max n m, fr', s2, ?_, h3⟩
  have := inv_mono (Nat.le_max_left n m) _ _ _ _ h1
  simp only [seqOps, hw, aop, hc, classOf, ahard, this]
  exact seq_up (Nat.le_max_right n m) h2

/-! ### A call's body -/

/-- How an activation ends. -/
def Ends (P : Program) (fn : Func) (Q : Value → St → Prop) : AExit → Fr → St → Prop
  | .normal, fr, s => ∃ v, aresults P fn fr s = some v ∧ Q v s
  | .ret, fr, s => ∃ v, aresults P fn fr s = some v ∧ Q v s
  | .exit _, _, _ => False

theorem Ev.enter {k : FuncId} {fn : Func} {c : Code} {a b : Array Value} {args : List Value} {Q : Value → St → Prop} (hk : known K (.func (.func k) a b) args = none) (hf : P.funcs[k]? = some fn) (hb : fn.body = some c)
    (h : Wp P K c ((a.toList ++ args ++ b.toList) ++ List.replicate (fn.ntmps - (a.toList ++ args ++ b.toList).length) undef) s (Ends P fn Q)) : Ev P K (.func (.func k) a b) args s Q := by
  obtain ⟨n, e, fr', s', h1, h2⟩ := h
  cases e with
  | normal =>
    obtain ⟨v, h3, h4⟩ := h2
    exact ⟨n + 1, v, s', by simp only [inv, hk, hf, hb, h1, h3, Option.map_some], h4⟩
  | ret =>
    obtain ⟨v, h3, h4⟩ := h2
    exact ⟨n + 1, v, s', by simp only [inv, hk, hf, hb, h1, h3, Option.map_some], h4⟩
  | exit i => exact h2.elim

theorem Ev.known {k : FuncId} {args : List Value} {v : Value} {Q : Value → St → Prop} (hk : K k args = some v) (h : Q v s) : Ev P K (.func (.func k) #[] #[]) args s Q :=
  ⟨1, v, s, by simp [inv, Abs.known, hk], h⟩

end
end Go.Abs
